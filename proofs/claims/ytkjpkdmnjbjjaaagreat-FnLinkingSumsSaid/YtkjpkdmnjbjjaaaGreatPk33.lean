/-
  Walks and plain laws of this seat, some texts in one.
  No condition but bounds on lengths.
-/
import Derived.Test.YtkjpkdmnjbjjaaaGreatPk11
import Derived.Test.YtkjpkdmnjbjjaaaGreatPk12
import Derived.Test.YtkjpkdmnjbjjaaaGreatPk8
import Derived.StillTailTactics
import Derived.Test.YtkjpkdmnjbjjaaaGreatPk24
namespace Go.Proofs.YtkjpkdmnjbjjaaaGreat
set_option maxRecDepth 100000
set_option linter.unusedVariables false
set_option linter.unusedSimpArgs false
open Go.RowKit
/-! ### a table by a function, in memory -/
theorem OwnT.spotF {w : World} {lo : Nat} {b : Option Addr} {n d : Nat} {vs : List SV} {v : Nat → Nat → Int} (h : OwnT w lo b n d vs (tabF n v)) {x : Nat} (hx : x < n) :
    ∃ gb g1 c1, b = some ⟨gb, 0, none⟩ ∧ vs.getD x svO = (some ⟨g1, 0, none⟩, n, c1) ∧ w.cell? ⟨gb, x, none⟩ = some (.slice (some ⟨g1, 0, none⟩) n c1) ∧ (∀ y, y < n → w.cell? ⟨g1, y, none⟩ = some (.int .i64 (v x y)) ∧ w.frozen? ⟨g1, y, none⟩ = false) ∧ TblS b n vs g1 := by
  obtain ⟨gb, hb, _, hc, _⟩ := h.cells (by omega)
  have hr := h.row x hx
  have hl := hr.len
  rw [tabF_row hx] at hl
  have hk : (vs.getD x svO).2.1 = n := by simpa using hl
  obtain ⟨g1, o1, e1, _⟩ := hr.row.at x (by omega)
  rw [e1] at hr
  obtain ⟨rfl, h2, h3⟩ := hr.cells
  have hcx := hc x hx
  rw [e1, hk] at hcx
  refine ⟨gb, g1, _, hb, Prod.ext e1 (Prod.ext hk rfl), hcx, fun y hy => ⟨?_, h3 y⟩, .inr ⟨x, hx, e1⟩⟩
  have := h2 y (by omega)
  rw [this, tabF_val hx hy]
theorem OwnT.putF {w : World} {lo : Nat} {b : Option Addr} {n d : Nat} {vs : List SV} {v : Nat → Nat → Int} (h : OwnT w lo b n d vs (tabF n v)) {x y g1 c1 : Nat} (hx : x < n) (hy : y < n) (e : vs.getD x svO = (some ⟨g1, 0, none⟩, n, c1)) (z : Int) :
    OwnT (w.setCell ⟨g1, y, none⟩ (.int .i64 z)) lo b n d vs (tabF n (updF v x y z)) := by
  have := h.setrow x hx (g := g1) (by rw [e]) y z
  rw [tabF_upd hx hy] at this
  exact this
theorem OwnT.aset {w : World} {lo : Nat} {b : Option Addr} {n d : Nat} {vs : List SV} {F : List (List Int)} (h : OwnT w lo b n d vs F) {p : Addr} (hp : ∀ q, TblS b n vs q → q ≠ p.block) (u : Value) : OwnT (w.setCell p u) lo b n d vs F :=
  h.keep fun g hg _ => Below.heap_setCell _ _ _ _ (hp g hg)
/-! ### the labels of the strands at the places -/
def strL (s : Nat) (xs : List Int) (k : Nat) : List Int := (strd s (xs.take k)).map fun i => (compL s xs).getD i.toNat 0
section
variable {s : Nat} {xs : List Int} {k : Nat}
theorem strd_len (hx : ∀ x ∈ xs, 0 ≤ plc x ∧ plc x + 1 < s) : (strd s (xs.take k)).length = s := (strd_isP s (xs.take k) (fun x h => hx x (List.mem_of_mem_take h))).len
theorem strL_zero : strL s xs 0 = compL s xs := by
  unfold strL
  have e : strd s (xs.take 0) = unitL s := by simp [strd]
  rw [e]
  apply List.ext_getElem
  · simp [unitL, compL_len]
  · intro i h1 h2
    simp [unitL, List.getD_eq_getElem?_getD, List.getElem?_eq_getElem h2]
theorem atK_lt (hx : ∀ x ∈ xs, 0 ≤ plc x ∧ plc x + 1 < s) {i : Nat} (hi : i < s) : atK s xs k i < s ∧ (strd s (xs.take k)).getD i 0 = ((atK s xs k i : Nat) : Int) := by
  have hp := strd_isP s (xs.take k) (fun x h => hx x (List.mem_of_mem_take h))
  have hl := hp.len
  have := hp.mem _ (List.getElem_mem (show i < (strd s (xs.take k)).length by omega))
  rw [← getD_at] at this
  unfold atK
  omega
theorem strL_get (hx : ∀ x ∈ xs, 0 ≤ plc x ∧ plc x + 1 < s) {i : Nat} (hi : i < s) : labN s xs (atK s xs k i) < ncL s xs ∧ (strL s xs k).getD i 0 = ((labN s xs (atK s xs k i) : Nat) : Int) := by
  have h1 := atK_lt (k := k) hx hi
  have h2 := labN_lt s xs _ h1.1
  refine ⟨h2.1, ?_⟩
  have hl := strd_len (k := k) hx
  have e := h1.2
  rw [getD_at (by omega)] at e
  unfold strL
  rw [List.getD_eq_getElem?_getD, List.getElem?_map, List.getElem?_eq_getElem (show i < (strd s (xs.take k)).length by omega)]
  simp only [Option.map_some, Option.getD_some, e, Int.toNat_natCast]
  exact h2.2
theorem map_set_set (L : List Int) (f : Int → Int) (j : Nat) (h : j + 1 < L.length) : (swp L j).map f = ((L.map f).set j ((L.map f).getD (j + 1) 0)).set (j + 1) ((L.map f).getD j 0) := by
  unfold swp
  rw [List.map_set, List.map_set]
  have e1 : (L.map f).getD (j + 1) 0 = f (L.getD (j + 1) 0) := by simp [List.getD_eq_getElem?_getD, List.getElem?_map, List.getElem?_eq_getElem h]
  have e2 : (L.map f).getD j 0 = f (L.getD j 0) := by simp [List.getD_eq_getElem?_getD, List.getElem?_map, List.getElem?_eq_getElem (show j < L.length by omega)]
  rw [e1, e2]
theorem strL_succ (hx : ∀ x ∈ xs, 0 ≤ plc x ∧ plc x + 1 < s) (hk : k < xs.length) {j : Nat} (hj : plc (xs.getD k 0) = j) (hjs : j + 1 < s) : strL s xs (k + 1) = ((strL s xs k).set j ((strL s xs k).getD (j + 1) 0)).set (j + 1) ((strL s xs k).getD j 0) := by
  unfold strL
  rw [getD_at hk] at hj
  rw [strd_succ s xs k hk, hj, Int.toNat_natCast, map_set_set _ _ _ (by rw [strd_len hx]; exact hjs)]
end
theorem tdiv2_bd {z : Int} (h1 : -100 ≤ z) (h2 : z ≤ 100) : -100 ≤ z.tdiv 2 ∧ z.tdiv 2 ≤ 100 := by
  rw [Int.tdiv_eq_ediv]
  have h3 : (2 : Int).sign = 1 := rfl
  rw [h3]
  split <;> omega
theorem zero_any (x y : Nat) (w : World) : Calls Tryz.prog 92 (#[.int .i64 x, .int .i64 y] ++ #[]) w fun e w' => e = .returned (.int .i64 0) ∧ Below w.heap.size w w' := by
  show Calls Tryz.prog 92 #[.int .i64 x, .int .i64 y] w _
  go_enter Tryz.func92, Tryz.ntmps92
  go_wp2
  go_ret
  exact ⟨rfl, Below.refl _ _⟩
theorem ent_zero : Ent 92 := fun _ _ => rfl
set_option maxHeartbeats 1000000 in
theorem max_any (a : Option Addr) (n c : Nat) (L : List Int) (w : World) (h : Row w a n L) (hn : 1 ≤ n) (hm : n ≤ 1000000) :
    Calls Tryz.prog 91 #[.slice a n c] w fun e w' => (∃ M, e = .returned (.int .i64 M) ∧ M ∈ L ∧ ∀ x ∈ L, x ≤ M) ∧ w = w' := by
  have HL := Lib.hid h.len
  obtain ⟨b, off, rfl, _, hall⟩ := h.all hn
  have h0 : w.cell? ⟨b, off, none⟩ = some (.int .i64 (L.getD 0 0)) := hall 0 (by omega)
  have HALL := Lib.hid hall
  clear hall h
  go_enter Tryz.func91, Tryz.ntmps91
  have i0 : (0 : Int) < (n : Int) := by omega
  have i1 : (1 : Int) ≤ (n : Int) := by omega
  have i2 : ¬ ((n : Int) < 1) := by omega
  go_wp2
  clear h0
  go_loop [3, 4] (fun m i => ∃ (k : Nat) (M : Int), 1 ≤ k ∧ k ≤ n ∧ i = .int .i64 k ∧ m = .int .i64 M ∧ Hid (M ∈ L.take k ∧ ∀ x ∈ L.take k, x ≤ M)) (fun _ i => n - (intOf i).toNat)
  case atStart =>
    refine ⟨1, L.getD 0 0, by omega, by omega, rfl, rfl, Lib.hid ?_⟩
    have hl : 0 < L.length := by have := HL.out; omega
    have : L.take 1 = [L.getD 0 0] := by
      cases L with
      | nil => simp at hl
      | cons x r => simp
    rw [this]
    simp
  case round =>
    obtain ⟨k, M, hk1, hk, rfl, rfl, hI⟩ := hrel
    by_cases hlt : k < n
    · have g1 := HALL.out k hlt
      have hx : k < L.length := by have := HL.out; omega
      have HT := Lib.hid (List.take_succ_eq_append_getElem hx)
      rw [getD_at hx] at g1
      generalize L[k] = X at *
      go_wp2
      all_goals
        go_round
        case rel =>
          refine ⟨k + 1, _, by omega, by omega, by go_num, rfl, Lib.hid ?_⟩
          obtain ⟨h1, h2⟩ := hI.out
          rw [HT.out]
          refine ⟨?_, fun x hx => ?_⟩
          · rw [List.mem_append, List.mem_singleton]
            split
            · right; rfl
            · left; exact h1
          · rw [List.mem_append, List.mem_singleton] at hx
            rcases hx with hx | hx
            · have := h2 x hx; split <;> omega
            · subst hx; split <;> omega
        case measure => simp [intOf]; omega
    · obtain rfl : k = n := by omega
      go_wp2
      go_ret
      refine ⟨⟨M, rfl, ?_⟩, rfl⟩
      have := hI.out
      rw [List.take_of_length_le (by have := HL.out; omega)] at this
      exact this
set_option maxHeartbeats 16000000 in
theorem impl_Lnk_l (s : Int) (a : Option Addr) (n c : Nat) (xs : List Int) (w : World) (hs : I64 s) (h1 : Row w a n xs) (hm : n ≤ 9223372036854775807) (hx : I64s xs) :
    Calls Tryz.prog 25 #[bAgg s a n c] w (RetT w (lnkF s xs).1 (lnkF s xs).2) := by
  have hA := Loc.new w rfl #[.int .i64 s, .slice a n c] 42
  have hB := below_al (Below.refl w.heap.size w) (.cells #[.int .i64 s, .slice a n c] 42)
  go_enter Tryz.func25, Tryz.ntmps25
  go_wp2_with fail
  generalize w.alloc (.cells #[.int .i64 s, .slice a n c] 42) = w0 at *
  have lA := hA.two
  refine (isBraid_any _ _ _ _ xs _ (h1.below hB) hm).mono ?_
  rintro e w1 ⟨rfl, hb1⟩
  replace hB := below_th hB hb1; replace hA := hA.below hb1 hA.lt; replace lA := hA.two
  clear hb1
  cases q : isBr s xs with
  | false =>
    have HQ : Hid (lnkF s xs = ([], 1)) := Lib.hid (by unfold lnkF; rw [q]; rfl)
    clear q
    go_wp2
    go_ret2
    exact ⟨none, 0, 0, [], by rw [HQ.out]; rfl, by rw [HQ.out]; exact OwnT.nil _ _, hB⟩
  | true =>
  obtain ⟨h26, h30, hlet⟩ := isBr_let q
  obtain ⟨S, rfl⟩ : ∃ S : Nat, s = S := ⟨s.toNat, by omega⟩
  have hpl : ∀ x ∈ xs, 0 ≤ plc x ∧ plc x + 1 < (S : Int) := fun x hx => plc_let (hlet x hx)
  have hln := h1.len
  have HQ : Hid (lnkF S xs = (tabF (ncL S xs) (halV (lnkV S xs n)), 0)) := Lib.hid (by unfold lnkF; rw [q, ← hln]; simp)
  have HBR := Lib.hid q; have HLet := Lib.hid hlet; have HP := Lib.hid hpl; have HL := Lib.hid hln
  have hn30 : n ≤ 30 := by omega
  have hS6 : S ≤ 6 := by omega
  have hS2 : 2 ≤ S := by omega
  clear q hlet hpl hln h26 h30
  go_wp2_with fail
  refine (componentsOf_any S _ _ _ xs _ (h1.below hB) HBR.out).mono ?_
  rintro e w2 ⟨al, cl, rfl, hol, hb2⟩
  have hz2 := (below_th hB hb2).size
  replace hB := below_th hB hb2; replace hA := hA.below hb2 hA.lt; replace lA := hA.two
  clear hb2
  go_wp2_with fail
  refine (max_any _ _ _ _ _ hol.row (by omega) (by omega)).mono ?_
  rintro e w3 ⟨⟨M, rfl, hM1, hM2⟩, rfl⟩
  have hMe := grtL_max (compL_nn S xs) hM1 hM2
  rw [← ncL_cast] at hMe
  have hnc := ncL_le S xs
  have hnc1 : 1 ≤ ncL S xs := by have := compL_nn S xs M hM1; omega
  obtain ⟨N, hN⟩ : ∃ N, N = ncL S xs := ⟨_, rfl⟩
  rw [← hN] at hnc hnc1 hMe HQ
  have HN := Lib.hid hN
  obtain rfl : M = (N : Int) - 1 := by omega
  clear hMe hN hM1 hM2
  have hNe : IntKind.i64.wrap (((N : Int) - 1) + 1) = (N : Int) := (IntWalk.i64_in _ (by omega)).trans (by omega)
  go_wp2_with fail
  refine (tableBy_any _ _ (fun _ _ => 0) N _ (by omega) ent_zero (fun x y _ _ w1 _ => zero_any x y w1)).mono ?_
  rintro e w4 ⟨am, cm, vm, rfl, hom, hb4⟩
  have hol4 := hol.below hb4
  have hw4 := hb4.size
  have hhi := hom.uHi
  replace hB := below_th hB hb4; replace hA := hA.below hb4 hA.lt; replace lA := hA.two
  clear hb4 hol
  go_wp2_with fail
  refine (clone_any _ _ _ _ _ hol4.row (by omega)).mono ?_
  rintro e w5 ⟨ast, cs, rfl, hos, hb5⟩
  obtain ⟨gs, os, rfl, _⟩ := hos.row.at 0 (by omega)
  obtain ⟨rfl, _, _⟩ := hos.cells
  have hgs := hos.lt.1
  have hom5 := hom.below hb5
  have hmlo := hom.uLo
  have hB5 := below_th hB hb5
  have hA5 := hA.below hb5 hA.lt
  have hAlt := hA.lt
  have lA5 := hA5.two
  have e0 : strL S xs 0 = compL S xs := strL_zero
  rw [← e0] at hos
  clear hb5 hol4 lA hA hom e0
  have hBsz := hB.size
  go_wp2
  go_loopw [29] (fun i wr => ∃ k : Nat, k ≤ n ∧ i = .int .i64 k ∧ OwnT wr w2.heap.size am N cm vm (tabF N (lnkV S xs k)) ∧ Own wr w4.heap.size (some ⟨gs, 0, none⟩) S cs (strL S xs k) ∧ Below w.heap.size w wr) (fun i _ => n - (intOf i).toNat)
  case atStart => exact ⟨0, Nat.zero_le _, rfl, hom5, hos, hB5⟩
  case round =>
    clear hom5 hos hB5 hA5 lA5
    obtain ⟨k, hk, rfl, hom, hos, hB6⟩ := hrel
    by_cases hlt : k < n
    · obtain ⟨b, off, rfl, g1⟩ := (h1.below hB6).at k hlt
      have hxk : k < xs.length := by have := HL.out; omega
      rw [getD_at hxk] at g1
      have hle := HLet.out xs[k] (List.getElem_mem hxk)
      have hpk := HP.out xs[k] (List.getElem_mem hxk)
      obtain ⟨j, hj⟩ : ∃ j : Nat, plc xs[k] = j := ⟨(plc xs[k]).toNat, by omega⟩
      have hjs : j + 1 < S := by omega
      have hpn : ∀ x ∈ xs, 0 ≤ plc x ∧ plc x + 1 < S := HP.out
      obtain ⟨hu, eu⟩ := strL_get (k := k) hpn (show j < S by omega)
      obtain ⟨hv, ev⟩ := strL_get (k := k) hpn hjs
      have hsucc := strL_succ hpn hxk (j := j) (by rw [getD_at hxk]; exact hj) hjs
      have hlk : lnkV S xs (k + 1) = addV (lnkV S xs k) (labN S xs (atK S xs k j)) (labN S xs (atK S xs k (j + 1))) (sgn xs[k]) := by
        show addV _ _ _ _ = _
        rw [getD_at hxk, hj]; rfl
      have hbd := lnkV_bd S xs k
      have hsg := sgn_bd xs[k]
      rw [← HN.out] at hu hv
      rw [eu, ev] at hsucc
      generalize labN S xs (atK S xs k j) = u at *
      generalize labN S xs (atK S xs k (j + 1)) = v at *
      have EU := Lib.hid eu; have EV := Lib.hid ev
      have HSU := Lib.hid hsucc; have HLK := Lib.hid hlk; have HJ := Lib.hid hj; have HBD := Lib.hid hbd
      have b1 : -1000 ≤ xs[k] := by omega
      have b2 : xs[k] ≤ 1000 := by omega
      obtain ⟨_, hc, hf⟩ := hos.cells
      have hcj := hc j (by omega)
      have hcj1 := hc (j + 1) (by omega)
      rw [eu] at hcj
      rw [ev] at hcj1
      have hfj := hf j
      have hfj1 := hf (j + 1)
      clear hle hpk hj hpn hsucc hlk hbd hc hf eu ev
      generalize xs[k] = X at *
      generalize lnkV S xs k = V at *
      obtain ⟨gm, gu, cu, rfl, evu, r1, hcu, htu⟩ := hom.spotF hu
      have k1 := (hcu v hv).1
      have f1 := (hcu v hv).2
      have hbd := HBD.out u v
      have hsum : IntKind.i64.wrap (V u v + sgn X) = V u v + sgn X := IntWalk.i64_in _ (by omega)
      have hwj : IntKind.i64.wrap ((j : Int) + 1) = ((j + 1 : Nat) : Int) := (IntWalk.i64_in _ (by omega)).trans (by simp)
      have i1 : (0 : Int) ≤ (j : Int) := by omega
      have i2 : (j : Int) < (S : Int) := by omega
      have i3 : ((j + 1 : Nat) : Int) < (S : Int) := by omega
      have i4 : (u : Int) < (N : Int) := by omega
      have i5 : (v : Int) < (N : Int) := by omega
      generalize hVV : V u v + sgn X = Z at *
      have HVV := Lib.hid hVV
      clear hcu hbd hVV
      go_wp2_with fail
      refine (placeOf_any _ _ b1 b2).mono ?_
      rintro e w6 ⟨rfl, hw6⟩
      subst hw6
      rw [HJ.out]
      go_wp2
      go_quiet (fail)
      go_wp2
      refine wp_region_still_tail 11 (by kernel_rfl) (by kernel_rfl) ?_
      change wpStill _ _ (w6.drewN nq).drew (fun a' => wpList _ _ _ _ a' (w6.drewN nq).drew) _ _
      have hom7 : OwnT (w6.drewN nq).drew w2.heap.size (some ⟨gm, 0, none⟩) N cm vm (tabF N V) := (hom.drewN nq).drewN 1
      have hos7 : Own (w6.drewN nq).drew w4.heap.size (some ⟨gs, 0, none⟩) S cs (strL S xs k) := (hos.drewN nq).drewN 1
      have hB7 : Below w.heap.size w (w6.drewN nq).drew := (below_drewN hB6 nq).drew
      have r17 : (w6.drewN nq).drew.cell? ⟨gm, u, none⟩ = some (.slice (some ⟨gu, 0, none⟩) N cu) := r1
      have k17 : (w6.drewN nq).drew.cell? ⟨gu, v, none⟩ = some (.int .i64 (V u v)) := k1
      have f17 : (w6.drewN nq).drew.frozen? ⟨gu, v, none⟩ = false := f1
      clear hom hos hB6 r1 k1 f1 hcj hcj1 hfj hfj1 g1
      generalize (w6.drewN nq).drew = w8 at *
      simp only [List.take_succ_cons, List.take_zero, List.drop_succ_cons, List.drop_zero]
      repeat still_step
      still_call (signOf_any _ _)
      repeat still_step
      refine wpStill_nil ?_
      rw [HVV.out]
      have hgu : w2.heap.size ≤ gu := hmlo gu htu
      have hguh := hhi gu htu
      have hne1 : gs ≠ gu := by omega
      have hneA : (⟨gs, j, none⟩ : Addr) ≠ ⟨gs, j + 1, none⟩ := fun e => by simp at e
      have hom9 := hom7.putF hu hv evu Z
      have hos9 := hos7.setne (p := ⟨gu, v, none⟩) (fun g hg => by cases hg; exact hne1) (.int .i64 Z)
      have hB9 := below_setne (a := ⟨gu, v, none⟩) hB7 (by show w.heap.size ≤ gu; omega) (.int .i64 Z)
      have hg9 := (h1.below hB9).at k hlt
      by_cases huv : u = v
      · subst huv
        have hbq : ((u : Int) != (u : Int)) = false := by simp
        have HLE : Hid (lnkV S xs (k + 1) = updF V u u Z) := Lib.hid (by rw [HLK.out]; unfold addV; rw [if_pos rfl, HVV.out])
        obtain ⟨_, hc, hf⟩ := hos9.cells
        have hcj := hc j (by omega)
        have hcj1 := hc (j + 1) (by omega)
        rw [EU.out] at hcj
        rw [EV.out] at hcj1
        have hfj := hf j
        have hfj1 := hf (j + 1)
        clear hc hf hg9
        go_wp2
        go_roundw
        case rel =>
          refine ⟨k + 1, by omega, by go_num, ?_, ?_, ?_⟩
          · rw [HLE.out]
            exact (hom9.aset (p := ⟨gs, j, none⟩) (fun q hq => by have := hhi q hq; show q ≠ gs; omega) _).aset (p := ⟨gs, j + 1, none⟩) (fun q hq => by have := hhi q hq; show q ≠ gs; omega) _
          · rw [HSU.out]
            exact (hos9.set j _).set (j + 1) _
          · exact below_setne (below_setne (a := ⟨gs, j, none⟩) hB9 (by show w.heap.size ≤ gs; omega) _) (a := ⟨gs, j + 1, none⟩) (by show w.heap.size ≤ gs; omega) _
        case measure => simp [intOf]; omega
      · have hbq : ((u : Int) != (v : Int)) = true := by simp; omega
        clear hg9
        go_wp2
        refine wp_region_still_tail 11 (by kernel_rfl) (by kernel_rfl) ?_
        change wpStill _ _ (w8.setCell ⟨gu, v, none⟩ (.int .i64 Z)).drew (fun a' => wpList _ _ _ _ a' (w8.setCell ⟨gu, v, none⟩ (.int .i64 Z)).drew) _ _
        replace hom9 : OwnT (w8.setCell ⟨gu, v, none⟩ (.int .i64 Z)).drew w2.heap.size (some ⟨gm, 0, none⟩) N cm vm (tabF N (updF V u v Z)) := hom9.drewN 1
        replace hos9 : Own (w8.setCell ⟨gu, v, none⟩ (.int .i64 Z)).drew w4.heap.size (some ⟨gs, 0, none⟩) S cs (strL S xs k) := hos9.drewN 1
        replace hB9 : Below w.heap.size w (w8.setCell ⟨gu, v, none⟩ (.int .i64 Z)).drew := hB9.drew
        clear hom7 hos7 hB7 r17 k17 f17
        generalize (w8.setCell ⟨gu, v, none⟩ (.int .i64 Z)).drew = w10 at *
        obtain ⟨gm', gv, cv, e', evv, r2, hcv, htv⟩ := hom9.spotF hv
        cases e'
        have k2 := (hcv u hu).1
        have f2 := (hcv u hu).2
        have hup : updF V u v Z v u = V v u := by unfold updF; rw [if_neg (fun h => huv h.1.symm)]
        rw [hup] at k2
        have hbd2 := HBD.out v u
        have hsum2 : IntKind.i64.wrap (V v u + sgn X) = V v u + sgn X := IntWalk.i64_in _ (by omega)
        have HLE : Hid (lnkV S xs (k + 1) = updF (updF V u v Z) v u (V v u + sgn X)) := Lib.hid (by rw [HLK.out]; unfold addV; rw [if_neg huv, HVV.out])
        generalize hV2 : V v u + sgn X = Z2 at *
        have HV2 := Lib.hid hV2
        clear hV2 hcv hbd2 hup
        simp only [List.take_succ_cons, List.take_zero, List.drop_succ_cons, List.drop_zero]
        repeat still_step
        still_call (signOf_any _ _)
        repeat still_step
        refine wpStill_nil ?_
        rw [HV2.out]
        have hgv : w2.heap.size ≤ gv := hmlo gv htv
        have hgvh := hhi gv htv
        have hne2 : gs ≠ gv := by omega
        have hom11 := hom9.putF hv hu evv Z2
        have hos11 := hos9.setne (p := ⟨gv, u, none⟩) (fun g hg => by cases hg; exact hne2) (.int .i64 Z2)
        have hB11 := below_setne (a := ⟨gv, u, none⟩) hB9 (by show w.heap.size ≤ gv; omega) (.int .i64 Z2)
        obtain ⟨_, hc, hf⟩ := hos11.cells
        have hcj := hc j (by omega)
        have hcj1 := hc (j + 1) (by omega)
        rw [EU.out] at hcj
        rw [EV.out] at hcj1
        have hfj := hf j
        have hfj1 := hf (j + 1)
        clear hc hf
        go_wp2
        go_roundw
        case rel =>
          refine ⟨k + 1, by omega, by go_num, ?_, ?_, ?_⟩
          · rw [HLE.out]
            exact (hom11.aset (p := ⟨gs, j, none⟩) (fun q hq => by have := hhi q hq; show q ≠ gs; omega) _).aset (p := ⟨gs, j + 1, none⟩) (fun q hq => by have := hhi q hq; show q ≠ gs; omega) _
          · rw [HSU.out]
            exact (hos11.set j _).set (j + 1) _
          · exact below_setne (below_setne (a := ⟨gs, j, none⟩) hB11 (by show w.heap.size ≤ gs; omega) _) (a := ⟨gs, j + 1, none⟩) (by show w.heap.size ≤ gs; omega) _
        case measure => simp [intOf]; omega
    · obtain rfl : k = n := by omega
      clear hos
      have HBN : Hid (∀ p q, -100 ≤ (lnkV S xs k p q).tdiv 2 ∧ (lnkV S xs k p q).tdiv 2 ≤ 100) := Lib.hid fun p q => tdiv2_bd (by have := lnkV_bd S xs k p q; omega) (by have := lnkV_bd S xs k p q; omega)
      generalize lnkV S xs k = V at *
      have hcell := hom.cells (by omega)
      go_wp2
      go_loopw [81] (fun i wq => ∃ p : Nat, p ≤ N ∧ i = .int .i64 p ∧ OwnT wq w2.heap.size am N cm vm (tabF N (halP V p 0)) ∧ Below w.heap.size w wq) (fun i _ => N - (intOf i).toNat)
      case atStart => exact ⟨0, Nat.zero_le _, rfl, by rw [halP_zero]; exact hom, hB6⟩
      case round =>
        clear hom hB6 hcell
        obtain ⟨p, hp, rfl, hom, hB6⟩ := hrel
        by_cases hpt : p < N
        · obtain ⟨gm, gu, cu, rfl, evu, r1, hcu, htu⟩ := hom.spotF hpt
          have hgu : w2.heap.size ≤ gu := hmlo gu htu
          clear hcu
          go_wp2
          go_loopw [88] (fun i wy => ∃ q : Nat, q ≤ N ∧ i = .int .i64 q ∧ OwnT wy w2.heap.size (some ⟨gm, 0, none⟩) N cm vm (tabF N (halP V p q)) ∧ Below w.heap.size w wy) (fun i _ => N - (intOf i).toNat)
          case atStart => exact ⟨0, Nat.zero_le _, rfl, hom, hB6⟩
          case round =>
            clear hom hB6 r1
            obtain ⟨q, hq, rfl, hom, hB6⟩ := hrel
            by_cases hqt : q < N
            · by_cases hpq : p = q
              · subst hpq
                have hbq : ((p : Int) != (p : Int)) = false := by simp
                go_wp2
                go_roundw
                case rel => exact ⟨p + 1, by omega, by go_num, by rw [← halP_same]; exact hom, hB6⟩
                case measure => simp [intOf]; omega
              · have hbq : ((p : Int) != (q : Int)) = true := by simp; omega
                obtain ⟨gm', gu', cu', e', evu', _, hcu, _⟩ := hom.spotF hpt
                rw [evu] at evu'
                cases evu'
                have k1 := (hcu q hqt).1
                have f1 := (hcu q hqt).2
                rw [halP_at] at k1
                have HH := Lib.hid (halP_step (v := V) hpq)
                have hput := Lib.hid (hom.putF hpt hqt evu ((V p q).tdiv 2))
                have hdv := HBN.out p q
                have hwr : wrap64 ((V p q).tdiv 2) = (V p q).tdiv 2 := IntWalk.wrap64_in _ ⟨by omega, by omega⟩
                clear hcu
                generalize V p q = Z at *
                go_wp2
                go_roundw
                case rel => exact ⟨q + 1, by omega, by go_num, by rw [← HH.out]; exact hput.out, below_setne hB6 (by show w.heap.size ≤ gu; omega) _⟩
                case measure => simp [intOf]; omega
            · obtain rfl : q = N := by omega
              go_wp2
              go_roundw
              case rel => exact ⟨p + 1, by omega, by go_num, by rw [← halP_next]; exact hom, hB6⟩
              case measure => simp [intOf]; omega
        · obtain rfl : p = N := by omega
          rw [halP_all] at hom
          go_wp2
          go_ret2
          exact ⟨am, p, cm, vm, by rw [HQ.out]; rfl, by rw [HQ.out]; exact hom.mono (by omega), hB6⟩
end Go.Proofs.YtkjpkdmnjbjjaaaGreat

namespace Go.Proofs.YtkjpkdmnjbjjaaaGreat
set_option linter.unusedVariables false
set_option linter.unusedSimpArgs false
set_option maxRecDepth 100000
open Go.RowKit
theorem wrap_a6 {P x : Nat} (h : P ≤ 10000) (h2 : x ≤ 10000) : wrap64 ((P : Int) + (x : Int)) = (P : Int) + (x : Int) := IntWalk.wrap64_in _ (by omega)
def IsBo (e : Ending) : Prop := ∃ q, e = .returned (.bool q)
def SqB (w : World) (n : Nat) (e : Ending) (w' : World) : Prop :=
  ∃ (a : Option Addr) (c : Nat) (vs : List SV) (t : List (List Int)), e = .returned (.slice a n c) ∧ OwnT w' w.heap.size a n c vs t ∧ Sq n t ∧ Below w.heap.size w w'
set_option maxHeartbeats 4000000 in
theorem l03Alexander_any (n a b : Nat) (w : World) (n1 : 1 ≤ n) (hn : n ≤ 100) (ha : a ≤ 100) (hb : b ≤ 100) :
    Calls Tryz.prog 234 #[.int .i64 n, .int .i64 a, .int .i64 b] w (SqB w n) := by
  obtain ⟨V, hV⟩ : ∃ V : Nat → Nat → Int, V = fun x y => (((b * x + a * y) % n : Nat) : Int) := ⟨_, rfl⟩
  have HVE : Hid (∀ x y, V x y = (((b * x + a * y) % n : Nat) : Int)) := Lib.hid fun x y => by rw [hV]
  have HSV : Hid (Sq n (tabF n V)) := Lib.hid (tabF_sqI fun x y hx hy => by
    rw [HVE.out]; have := Nat.mod_lt (b * x + a * y) (show n > 0 by omega); omega)
  clear hV
  have hO := OwnT.fresh w rfl
  have hB := below_al (Below.refl w.heap.size w) (.cells #[] 35)
  go_enter Tryz.func234, Tryz.ntmps234
  go_wp2
  go_loopw [7, 8, 9, 10] (fun z i _ _ wr => ∃ (k : Nat) (az : Option Addr) (cz : Nat) (vz : List SV), k ≤ n ∧ i = .int .i64 k ∧ z = .slice az k cz ∧ OwnT wr w.heap.size az k cz vz ((tabF n V).take k) ∧ Below w.heap.size w wr) (fun _ i _ _ _ => n - (intOf i).toNat)
  case atStart => exact ⟨0, _, 0, _, Nat.zero_le _, rfl, rfl, by simpa using hO, hB⟩
  case round =>
    clear hO hB
    obtain ⟨k, az, cz, vz, hk, rfl, rfl, ho, hb'⟩ := hrel
    by_cases hlt : k < n
    · have HRV := Lib.hid (tabF_succ V hlt)
      have hE := Own.fresh wr rfl
      have hqe := below_al (Below.refl wr.heap.size wr) (.cells #[] 2)
      go_wp2
      go_loopw [9, 10] (fun z i wq => ∃ (j : Nat) (ar : Option Addr) (cr : Nat), j ≤ n ∧ i = .int .i64 j ∧ z = .slice ar j cr ∧ Own wq wr.heap.size ar j cr ((List.range j).map fun y => V k y) ∧ Below wr.heap.size wr wq) (fun _ i _ => n - (intOf i).toNat)
      case atStart => exact ⟨0, _, 0, Nat.zero_le _, rfl, rfl, by simpa using hE, hqe⟩
      case round =>
        clear hE hqe
        obtain ⟨j, ar, cr, hj, rfl, rfl, hor, hqr⟩ := hrel
        have hwq := hqr.size
        obtain ⟨W, rfl⟩ : ∃ W : World, W = wr := ⟨_, rfl⟩
        by_cases hjt : j < n
        · have HV1 : Hid (((List.range (j + 1)).map fun y => V k y) = ((List.range j).map fun y => V k y) ++ [V k j]) := Lib.hid (by simp [List.range_succ])
          have hm1 : b * k ≤ 100 * 100 := Nat.mul_le_mul hb (by omega)
          have hm2 : a * j ≤ 100 * 100 := Nat.mul_le_mul ha (by omega)
          have hve := HVE.out k j
          obtain ⟨P, hP⟩ : ∃ P, b * k = P := ⟨_, rfl⟩
          obtain ⟨Q, hQ⟩ : ∃ Q, a * j = Q := ⟨_, rfl⟩
          rw [hP, hQ] at hve
          have f1 : (b : Int) * (k : Int) = (P : Int) := by rw [← hP]; push_cast; rfl
          have f2 : (a : Int) * (j : Int) = (Q : Int) := by rw [← hQ]; push_cast; rfl
          rw [hP] at hm1
          rw [hQ] at hm2
          have hPQ : P ≤ 10000 ∧ Q ≤ 10000 := by omega
          have e1 : Int.tmod ((P : Int) + (Q : Int)) (n : Int) = V k j := by rw [hve]; rfl
          have hvb : 0 ≤ V k j ∧ V k j < n := by rw [hve]; have := Nat.mod_lt (P + Q) (show n > 0 by omega); omega
          have hz1 : ¬ (n : Int) = 0 := by omega
          have hz2 : ((n : Int) == 0) = false := by simpa using hz1
          have c1 : wrap64 ((b : Int) * (k : Int)) = (P : Int) := by rw [f1]; exact wrap_n6 (by omega)
          have c2 : wrap64 ((a : Int) * (j : Int)) = (Q : Int) := by rw [f2]; exact wrap_n6 (by omega)
          have c5 : wrap64 ((P : Int) + (Q : Int)) = (P : Int) + (Q : Int) := wrap_a6 hPQ.1 hPQ.2
          clear hP hQ hm1 hm2 f1 f2 hve hPQ
          generalize V k j = v at *
          go_wp2_with (at_builtin; refine app1 rfl rfl hor rfl rfl (by omega) hwq ?_; intro g' cc w8 hO8 hg8 hs8 hb8)
          go_roundw
          case rel => exact ⟨j + 1, _, _, by omega, by go_num, rfl, by rw [HV1.out]; exact hO8, hqr.trans hb8⟩
          case measure => simp [intOf]; omega
        · obtain rfl : j = n := by omega
          have hbb := hb'.size
          have hz1 := ho.below hqr
          have hq1 := hb'.trans (hqr.mono hbb)
          go_wp2_with (at_builtin; refine appT1 rfl rfl hz1 rfl (hor.mono hbb) (fun g h1 h2 => by have h3 := ho.high _ h1; have h4 := hor.lo _ h2; omega) (fun i hi g h1 h2 => by have h3 := hor.lo _ h1; have h4 := (ho.row i hi).hi _ h2; omega) rfl (by omega) (by omega) ?_; intro g' cc w2 hO hb2)
          go_roundw
          case rel => exact ⟨k + 1, _, _, _, by omega, by go_num, rfl, by rw [HRV.out]; exact hO, hq1.trans hb2⟩
          case measure => simp [intOf]; omega
    · obtain rfl : k = n := by omega
      rw [List.take_of_length_le (by rw [tabF_len]; exact Nat.le_refl _)] at ho
      go_wp2
      go_ret
      exact ⟨_, _, vz, _, rfl, ho, HSV.out, hb'⟩
set_option maxHeartbeats 4000000 in
theorem l03Coprime_any (a n : Nat) (w : World) (ha : a ≤ 100) (hn : n ≤ 100) :
    Calls Tryz.prog 235 #[.int .i64 a, .int .i64 n] w fun e w' => IsBo e ∧ w' = w := by
  go_enter Tryz.func235, Tryz.ntmps235
  go_wp2
  go_loop [5] (fun i => ∃ d : Nat, 2 ≤ d ∧ d ≤ 200 ∧ i = .int .i64 d) (fun i => n + 1 - (intOf i).toNat)
  case atStart => exact ⟨2, by omega, by omega, rfl⟩
  case round =>
    obtain ⟨d, hd2, hd, rfl⟩ := hrel
    by_cases hlt : d ≤ n
    · have hz1 : ¬ (d : Int) = 0 := by omega
      have hz2 : ((d : Int) == 0) = false := by simpa using hz1
      have hz3 : ¬ d = 0 := by omega
      have i1 : (d : Int) ≤ (n : Int) := by omega
      have e1 : Int.tmod (a : Int) (d : Int) = ((a % d : Nat) : Int) := rfl
      have e2 : Int.tmod (n : Int) (d : Int) = ((n % d : Nat) : Int) := rfl
      have b1 : a % d ≤ 100 := Nat.le_trans (Nat.mod_le _ _) ha
      have b2 : n % d ≤ 100 := Nat.le_trans (Nat.mod_le _ _) hn
      generalize a % d = u at *
      generalize n % d = v at *
      by_cases hu : u = 0
      · subst hu
        by_cases hv : v = 0
        · subst hv
          go_wp2
          go_ret
          exact ⟨⟨_, rfl⟩, rfl⟩
        · have hv2 : ((v : Int) == 0) = false := by simpa using hv
          have hv3 : ¬ (v : Int) = 0 := by omega
          go_wp2
          go_round
          case rel => exact ⟨d + 1, by omega, by omega, by go_num⟩
          case measure => simp [intOf]; omega
      · have hv2 : ((u : Int) == 0) = false := by simpa using hu
        have hv3 : ¬ (u : Int) = 0 := by omega
        go_wp2
        go_round
        case rel => exact ⟨d + 1, by omega, by omega, by go_num⟩
        case measure => simp [intOf]; omega
    · have i1 : ¬ (d : Int) ≤ (n : Int) := by omega
      go_wp2
      go_ret
      exact ⟨⟨_, rfl⟩, rfl⟩
end Go.Proofs.YtkjpkdmnjbjjaaaGreat
