/-
  Walks and plain laws of this seat, some texts in one.
  No condition but bounds on lengths.
-/
import Derived.Test.YtpdgpgbgakinlaaGreatPb12
import Derived.Test.YtpdgpgbgakinlaaGreatPb13
import Derived.Test.YtpdgpgbgakinlaaGreatPb8
import Derived.Deep.DeepCutAuto
import Derived.Test.YtpdgpgbgakinlaaGreatPb4
namespace Go.Proofs.YtpdgpgbgakinlaaGreat
set_option maxRecDepth 100000
set_option linter.unusedVariables false
set_option linter.unusedSimpArgs false
open Go.RowKit
theorem isBr_mk {s : Nat} {xs : List Int} (hs2 : 2 ≤ s) (hs6 : s ≤ 6) (h : IsWd s xs) : isBr s xs = true := by
  have e1 : wrap64 (1 - (s : Int)) = 1 - (s : Int) := IntWalk.wrap64_in _ ⟨by omega, by omega⟩
  have e2 : wrap64 ((s : Int) - 1) = (s : Int) - 1 := IntWalk.wrap64_in _ ⟨by omega, by omega⟩
  unfold isBr
  rw [Bool.and_eq_true, Bool.and_eq_true, Bool.and_eq_true]
  refine ⟨⟨⟨decide_eq_true (by omega), decide_eq_true (by omega)⟩, decide_eq_true h.1⟩, ?_⟩
  rw [List.all_eq_true]
  intro x hx
  have := h.2 x hx
  unfold isLet
  rw [e1, e2]
  simp
  omega
theorem Row.lit1 {w : World} {b off : Nat} {x : Int} (h : w.cell? ⟨b, off, none⟩ = some (.int .i64 x)) : Row w (some ⟨b, off, none⟩) 1 [x] := by
  refine ⟨rfl, fun i hi => ?_⟩
  obtain rfl : i = 0 := by omega
  exact ⟨b, off, rfl, World.block_lt_of_cell? w _ h, h⟩
theorem isBr_wd {s : Nat} {xs : List Int} (h : isBr s xs = true) : IsWd s xs := ⟨(isBr_let h).2.1, (isBr_let h).2.2⟩
theorem IsWd.one {s : Nat} {xs : List Int} (h : IsWd s xs) {x : Int} (hx : x ∈ xs) : IsWd s [x] := ⟨by simp, fun y hy => by rw [List.mem_singleton] at hy; subst hy; exact h.2 _ hx⟩
set_option maxHeartbeats 8000000 in
theorem l18Sum_any (a : Option Addr) (n c : Nat) (a' : Option Addr) (c' : Nat) (f g : List (List Int)) (m : Int) (am : Option Addr) (cm : Nat) (M : List (List Int)) (s : Nat) (ab : Option Addr) (nb cb : Nat) (xs : List Int) (al : Option Addr) (cl : Nat) (l : List Int) (w : World)
    (h1 : Tbl w a n f) (h2 : Tbl w a' n g) (hn1 : 1 ≤ n) (hn12 : n ≤ 12) (hf : Sq n f) (hg : Sq n g) (hc : collOk n f g = true)
    (hmm : 1 ≤ m ∧ m ≤ 12) (hM : SqM n m.toNat M) (h5 : Tbl w am n M) (hr : Row w ab nb xs) (hcap : nb ≤ cb) (hcb : cb ≤ 9223372036854775807) (hwd : IsWd s xs) (hs2 : 2 ≤ s) (hs6 : s ≤ 6) (hl : Row w al s l) (hle : Less n l) :
    Calls Tryz.prog 50 #[sAgg a n c a' n c', .int .i64 m, .slice am n cm, bAgg s ab nb cb, .slice al s cl] w fun e w' => e = .returned (.int .i64 (wtF n f g M m xs l)) ∧ Below w.heap.size w w' := by
  have hll := hl.len
  have hrl := hr.len
  have hn30 : nb ≤ 30 := by have := hwd.1; omega
  have hlt2 : ∀ k, Less n (actL n f g (xs.take k) l) := fun k => hle.act hn1 hf hg hc _ (fun x hx => by have := hwd.plc x (List.mem_of_mem_take hx); omega)
  have hlen2 : ∀ k, (actL n f g (xs.take k) l).length = s := fun k => by rw [actL_len]; exact hll.symm
  obtain ⟨hm1, hm2⟩ := hmm
  have HWD := Lib.hid hwd; have HLT := Lib.hid hlt2; have HLEN := Lib.hid hlen2; have HRL := Lib.hid hrl
  have HSF := Lib.hid hf; have HSG := Lib.hid hg; have HC := Lib.hid hc; have HM := Lib.hid hM
  obtain ⟨bM, oM, AM, OM, CM, rfl, gM⟩ := h5.gridM hM (by omega)
  clear hwd hlt2 hlen2 hf hg hc hM hrl hll h5
  have hA := (Loc.new w rfl #[.slice a n c, .slice a' n c'] 26).alloc (.cells #[.int .i64 s, .slice ab nb cb] 29)
  have hE := Loc.new (w.alloc (.cells #[.slice a n c, .slice a' n c'] 26)) rfl #[.int .i64 s, .slice ab nb cb] 29
  rw [size_alloc] at hE
  have hB := below_al (below_al (Below.refl w.heap.size w) (.cells #[.slice a n c, .slice a' n c'] 26)) (.cells #[.int .i64 s, .slice ab nb cb] 29)
  have hm0 : m ≠ 0 := by omega
  go_enter Tryz.func50, Tryz.ntmps50
  go_wp2
  generalize (w.alloc (.cells #[.slice a n c, .slice a' n c'] 26)).alloc (.cells #[.int .i64 s, .slice ab nb cb] 29) = w0 at *
  go_loopw [4, 11, 12] (fun t z i wr => ∃ (k : Nat) (ao : Option Addr) (co : Nat) (S : Int), k ≤ nb ∧ i = .int .i64 k ∧ t = .slice ao s co ∧ z = .int .i64 S ∧ Hid (S = wtS n f g M m (xs.take k) l % m) ∧ (0 ≤ S ∧ S < m) ∧ Row wr ao s (actL n f g (xs.take k) l) ∧ Loc wr w.heap.size #[.slice a n c, .slice a' n c'] 26 ∧ Loc wr (w.heap.size + 1) #[.int .i64 s, .slice ab nb cb] 29 ∧ Below w.heap.size w wr) (fun _ _ i _ => nb - (intOf i).toNat)
  case atStart => exact ⟨0, _, _, 0, Nat.zero_le _, rfl, rfl, rfl, Lib.hid (by simp [wtS]), by omega, by simpa [actL] using hl.below hB, hA, hE, hB⟩
  case round =>
    clear hA hB hE hl
    obtain ⟨k, ao, co, S, hk, rfl, rfl, rfl, hS, hSb, ho, hA, hE, hB⟩ := hrel
    obtain ⟨W, rfl⟩ : ∃ W : World, W = wr := ⟨_, rfl⟩
    obtain ⟨hS0, hS1⟩ := hSb
    have lA := hA.two
    have lE := hE.two
    by_cases hlt : k < nb
    · have hr2 := hr.below hB
      obtain ⟨bb, off, rfl, g1⟩ := hr2.at k hlt
      have hx : k < xs.length := by have := HRL.out; omega
      rw [getD_eq_at hx] at g1
      have hmem : xs[k] ∈ xs := List.getElem_mem hx
      have hle2 := HWD.out.2 xs[k] hmem
      have hpl2 := HWD.out.plc xs[k] hmem
      have HBR : Hid (isBr s [xs[k]] = true) := Lib.hid (isBr_mk hs2 hs6 (HWD.out.one hmem))
      have hst := actL_take n f g xs l k hx
      have hwt := wtS_take n f g M m xs l k hx
      have LT := HLT.out k
      have LT2 := HLT.out (k + 1)
      have LEN := HLEN.out k
      have LEN2 := HLEN.out (k + 1)
      obtain ⟨j, hj⟩ : ∃ j : Nat, plc xs[k] = j := ⟨(plc xs[k]).toNat, by omega⟩
      have hjs : j + 1 < s := by omega
      have hne0 : xs[k] ≠ 0 := hle2.1
      have hbd := wtT_bd HM.out ⟨hm1, hm2⟩ (x := xs[k]) LT LT2 (by omega) (by omega)
      have hsplit : (xs[k] = ((j + 1 : Nat) : Int)) ∨ (xs[k] = -((j + 1 : Nat) : Int)) := by
        unfold plc at hj; split at hj <;> omega
      have HS2 : Hid (wtS n f g M m (xs.take (k + 1)) l % m = (S + wtT M m xs[k] (actL n f g (xs.take k) l) (actL n f g (xs.take (k + 1)) l)) % m) := Lib.hid (by rw [hwt, hS.out, Int.emod_add_emod])
      have T1 := h1.below hB; have T2 := h2.below hB
      rw [hst] at LT2 LEN2 hbd HS2
      have HST := Lib.hid hst
      have H1 : Hid (actL n f g [xs[k]] (actL n f g (xs.take k) l) = stepL n f g xs[k] (actL n f g (xs.take k) l)) := Lib.hid rfl
      have hrow1 := Row.lit1 g1
      clear hle2 hst hwt hmem
      generalize actL n f g (xs.take k) l = L at *
      generalize xs[k] = X at *
      have i1 : (0 : Int) ≤ (k : Int) := by omega
      have i2 : (k : Int) ≤ (nb : Int) := by omega
      have i3 : (k : Int) < (nb : Int) := by omega
      have i4 : ((k + 1 : Nat) : Int) ≤ (cb : Int) := by omega
      have i5 : (k : Int) + 1 ≤ (cb : Int) := by omega
      have hwk : IntKind.i64.wrap ((k : Int) + 1) = ((k + 1 : Nat) : Int) := (IntWalk.i64_in _ (by omega)).trans (by simp)
      have i6 : (0 : Int) ≤ (k : Int) + 1 := by omega
      have i7 : ¬ cb = k := by omega
      have lEa := (hE.alloc (.cells #[.int .i64 0, .slice none 0 0] 29)).two
      go_wp2
      go_region
      all_goals clear lEa
      all_goals go_wp2
      have hO := (Loc.new W rfl #[.int .i64 s, .slice (some ⟨bb, off + k, none⟩) 1 (cb - k)] 29).drew
      have hQ : Below W.heap.size W (W.alloc (.cells #[.int .i64 s, .slice (some ⟨bb, off + k, none⟩) 1 (cb - k)] 29)).drew := (below_al (Below.refl _ _) _).drew
      generalize (W.alloc (.cells #[.int .i64 s, .slice (some ⟨bb, off + k, none⟩) 1 (cb - k)] 29)).drew = w2 at *
      have hA2 := hA.below hQ hA.lt
      have hE2 := hE.below hQ hE.lt
      have hr3 := hrow1.below hQ
      have ho2 := ho.below hQ
      have g2 := (hQ.cell (p := ⟨bb, off + k, none⟩) (World.block_lt_of_cell? W _ g1)).trans g1
      have hbb : bb < w2.heap.size := World.block_lt_of_cell? w2 _ g2
      have hB2 := below_th hB hQ
      have lA2 := hA2.two
      have lE2 := hE2.two
      have lO2 := hO.two
      clear lA lE g1 hr2
      go_region_held3 (fun w' => ((w'.cell? ⟨w.heap.size, 0, none⟩ = some (.slice a n c) ∧ w'.cell? ⟨w.heap.size, 1, none⟩ = some (.slice a' n c')) ∧ (w'.cell? ⟨W.heap.size, 0, none⟩ = some (.int .i64 s) ∧ w'.cell? ⟨W.heap.size, 1, none⟩ = some (.slice (some ⟨bb, off + k, none⟩) 1 (cb - k)))) ∧ w'.cell? ⟨w.heap.size + 1, 1, none⟩ = some (.slice (some ⟨bb, off, none⟩) nb cb) ∧ w'.cell? ⟨bb, off + k, none⟩ = some (.int .i64 X))
        (first | exact ⟨⟨⟨lA3.1, lA3.2.1⟩, lO3.1, lO3.2.1⟩, lE3.2.1, g3⟩ | exact ⟨⟨⟨lA2.1, lA2.2.1⟩, lO2.1, lO2.2.1⟩, lE2.2.1, g2⟩)
        (first
          | (go_at_call 97; refine (l16Act_any _ _ _ _ _ f g s _ _ _ [X] _ _ L _ ((T1.below hQ).drewN 1) ((T2.below hQ).drewN 1) hn1 hn12 HSF.out HSG.out HC.out (hr3.drewN 1) HBR.out (ho2.drewN 1) LT).mono ?_; rintro e w3 ⟨ao3, co3, rfl, ho3, hb3⟩; have hq3 := below_undrew hb3; have lA3 := (hA2.below hq3 hA2.lt).two; have lE3 := (hE2.below hq3 hE2.lt).two; have lO3 := (hO.below hq3 hO.lt).two; have g3 := (hq3.cell (p := ⟨bb, off + k, none⟩) hbb).trans g2))
      rw [H1.out] at ho3
      have hA3 := hA2.below hq3 hA2.lt
      have hE3 := hE2.below hq3 hE2.lt
      have hor := ho2.below hq3
      have hB3 := below_th hB2 hq3
      have gM3 := gM.below hB3
      clear lA2 lA3 lE2 lE3 lO2 lO3 g2 g3
      have i8 : (0 : Int) ≤ (j : Int) := by omega
      have i9 : (j : Int) ≤ (s : Int) := by omega
      have i10 : (j : Int) < (s : Int) := by omega
      have i11 : ((j + 1 : Nat) : Int) < (s : Int) := by omega
      have i12 : (j : Int) + 1 < (s : Int) := by omega
      have i13 : (0 : Int) ≤ (j : Int) + 1 := by omega
      rcases hsplit with hX | hX
      · have hpos : 0 < X := by omega
        obtain ⟨u, hu, eu⟩ := LT j (by omega)
        obtain ⟨v, hv, ev⟩ := LT (j + 1) (by omega)
        obtain ⟨bt, ot, e1, kx⟩ := hor.at j (by omega)
        obtain ⟨bt', ot', e2, ky⟩ := hor.at (j + 1) (by omega)
        rw [e1] at e2; cases e2; subst e1
        rw [eu] at kx; rw [ev] at ky
        obtain ⟨rM, kM⟩ := gM3.look hu hv
        have hval : wtT M m X L (stepL n f g X L) = ((tv M u v : Nat) : Int) := by unfold wtT; rw [if_pos hpos, hj, Int.toNat_natCast, eu, ev]; simp
        rw [hval] at HS2 hbd
        generalize tv M u v = T at *
        subst hX
        have hwx : IntKind.i64.wrap (((j + 1 : Nat) : Int) - 1) = (j : Int) := (IntWalk.i64_in _ (by omega)).trans (by simp)
        have hsum : IntKind.i64.wrap (S + (T : Int)) = S + (T : Int) := IntWalk.i64_in _ (by omega)
        have hrem : (S + (T : Int)).tmod m = (S + (T : Int)) % m := IntWalk.rem_in _ _ (by omega)
        have v0 : 0 ≤ (S + (T : Int)) % m := Int.emod_nonneg _ (by omega)
        have v1 : (S + (T : Int)) % m < m := Int.emod_lt_of_pos _ (by omega)
        generalize (S + (T : Int)) % m = V at *
        have hwV : IntKind.i64.wrap V = V := IntWalk.i64_in _ (by omega)
        have hb0 : decide (0 < ((j + 1 : Nat) : Int)) = true := decide_eq_true (by omega)
        clear hval eu ev hj
        go_wp2
        go_quiet (fail)
        go_wp2
        go_roundw
        case rel => exact ⟨k + 1, _, _, _, by omega, by go_num, rfl, rfl, Lib.hid HS2.out.symm, by omega, by rw [HST.out]; exact ho3.row.drewN _, hA3.drewN _, hE3.drewN _, below_drewN hB3 _⟩
        case measure => simp [intOf]; omega
      · have hneg : ¬ 0 < X := by omega
        obtain ⟨u, hu, eu⟩ := LT2 j (by omega)
        obtain ⟨v, hv, ev⟩ := LT2 (j + 1) (by omega)
        obtain ⟨bt, ot, e1, kx⟩ := ho3.row.at j (by omega)
        obtain ⟨bt', ot', e2, ky⟩ := ho3.row.at (j + 1) (by omega)
        rw [e1] at e2; cases e2; subst e1
        rw [eu] at kx; rw [ev] at ky
        obtain ⟨rM, kM⟩ := gM3.look hu hv
        have hval : wtT M m X L (stepL n f g X L) = m - ((tv M u v : Nat) : Int) := by unfold wtT; rw [if_neg hneg, hj, Int.toNat_natCast, eu, ev]; simp
        rw [hval] at HS2 hbd
        generalize tv M u v = T at *
        have hwn : IntKind.i64.wrap (-X) = ((j + 1 : Nat) : Int) := (IntWalk.i64_in _ (by omega)).trans (by omega)
        have hwx : IntKind.i64.wrap (((j + 1 : Nat) : Int) - 1) = (j : Int) := (IntWalk.i64_in _ (by omega)).trans (by simp)
        have hs1 : IntKind.i64.wrap (S + m) = S + m := IntWalk.i64_in _ (by omega)
        have hsum : IntKind.i64.wrap (S + m - (T : Int)) = S + m - (T : Int) := IntWalk.i64_in _ (by omega)
        have hrem : (S + m - (T : Int)).tmod m = (S + m - (T : Int)) % m := IntWalk.rem_in _ _ (by omega)
        have v0 : 0 ≤ (S + m - (T : Int)) % m := Int.emod_nonneg _ (by omega)
        have v1 : (S + m - (T : Int)) % m < m := Int.emod_lt_of_pos _ (by omega)
        have HE : Hid ((S + (m - (T : Int))) % m = (S + m - (T : Int)) % m) := Lib.hid (by congr 1; omega)
        generalize (S + m - (T : Int)) % m = V at *
        have hwV : IntKind.i64.wrap V = V := IntWalk.i64_in _ (by omega)
        have hb0 : decide (0 < X) = false := by simpa using hneg
        clear hval eu ev hj hX
        go_wp2
        go_quiet (fail)
        go_wp2
        go_roundw
        case rel => exact ⟨k + 1, _, _, _, by omega, by go_num, rfl, rfl, Lib.hid (HS2.out.trans HE.out).symm, by omega, by rw [HST.out]; exact ho3.row.drewN _, hA3.drewN _, hE3.drewN _, below_drewN hB3 _⟩
        case measure => simp [intOf]; omega
    · obtain rfl : k = nb := by omega
      have e1 := hS.out
      rw [List.take_of_length_le (by have := HRL.out; omega)] at e1
      have HV : Hid (wtF n f g M m xs l = S) := Lib.hid e1.symm
      clear e1
      go_wp2
      go_ret
      exact ⟨ret_int HV.out.symm, hB⟩
end Go.Proofs.YtpdgpgbgakinlaaGreat

namespace Go.Proofs.YtpdgpgbgakinlaaGreat
set_option maxRecDepth 100000
set_option linter.unusedVariables false
set_option linter.unusedSimpArgs false
open Go.RowKit
theorem Loc.heldA {w : World} {b : Nat} {x y z u : Value} {t : TypeId} (h : Loc w b #[x, y, z, u] t) : (w.cell? ⟨b, 0, none⟩ = some x ∧ w.cell? ⟨b, 1, none⟩ = some y) ∧ w.cell? ⟨b, 2, none⟩ = some z ∧ w.cell? ⟨b, 3, none⟩ = some u := ⟨⟨h.cell 0 rfl, h.cell 1 rfl⟩, h.cell 2 rfl, h.cell 3 rfl⟩
theorem Row.drew {w : World} {a : Option Addr} {n : Nat} {xs : List Int} (h : Row w a n xs) : Row w.drew a n xs := h
theorem tupleOf_3 (n N : Nat) (w : World) (hn1 : 1 ≤ n) (hn : n ≤ 1000000) (hN : N ≤ 1000000000000) :
    Calls Tryz.prog 98 #[.int .i64 n, .int .i64 3, .int .i64 N] w fun e w' => ∃ a c, e = .returned (.slice a 3 c) ∧ Own w' w.heap.size a 3 c (digL n 3 N) ∧ Below w.heap.size w w' :=
  tupleOf_any n 3 N w hn1 hn (by omega) hN
def WfR (L : List Int) (W : World) (e : Ending) (w' : World) : Prop := ((L = [] ∧ e = .returned (.slice none 0 0)) ∨ (L ≠ [] ∧ ∃ b c, e = .returned (.slice (some ⟨b, 0, none⟩) 3 c) ∧ Own w' W.heap.size (some ⟨b, 0, none⟩) 3 c L)) ∧ Below W.heap.size W w'
theorem wd3 {x y z : Int} (h1 : x ≠ 0 ∧ -2 ≤ x ∧ x ≤ 2) (h2 : y ≠ 0 ∧ -2 ≤ y ∧ y ≤ 2) (h3 : z ≠ 0 ∧ -2 ≤ z ∧ z ≤ 2) : IsWd 3 [x, y, z] := by
  refine ⟨by simp, fun q hq => ?_⟩
  simp only [List.mem_cons, List.not_mem_nil, or_false] at hq
  rcases hq with rfl | rfl | rfl <;> omega
set_option maxHeartbeats 8000000 in
theorem weightFault_any (a : Option Addr) (n c : Nat) (a' : Option Addr) (c' : Nat) (f g : List (List Int)) (m : Int) (am : Option Addr) (cm : Nat) (M : List (List Int)) (w : World) (h1 : Tbl w a n f) (h2 : Tbl w a' n g) (hs : isSol f g = true) (hmm : 1 ≤ m ∧ m ≤ 12) (hM : SqM n m.toNat M) (h5 : Tbl w am n M) :
    Calls Tryz.prog 56 #[sAgg a n c a' n c', .int .i64 m, .slice am n cm] w (WfR (wtFlt n f g M m) w) := by
  obtain ⟨hn1, hn12, sf, sg⟩ := isSol_sq hs
  have hcc := isSol_coll hs
  have hfl := h1.len
  rw [← hfl] at hn1 hn12 sf sg hcc
  obtain ⟨hm1, hm2⟩ := hmm
  obtain ⟨N2, hN2⟩ : ∃ N2, N2 = n * n := ⟨_, rfl⟩
  have hb2 : N2 ≤ 144 := by rw [hN2]; exact Nat.mul_le_mul hn12 hn12
  obtain ⟨N3, hN3⟩ : ∃ N3, N3 = n * n * n := ⟨_, rfl⟩
  have hb3 : N3 ≤ 1728 := by rw [hN3]; exact Nat.mul_le_mul (Nat.mul_le_mul hn12 hn12) hn12
  have e2 : (n : Int) * (n : Int) = (N2 : Int) := by rw [hN2]; simp
  have e3 : (N2 : Int) * (n : Int) = (N3 : Int) := by rw [hN3, hN2]; simp
  have HS := Lib.hid hs; have HSF := Lib.hid sf; have HSG := Lib.hid sg; have HC := Lib.hid hcc; have HM := Lib.hid hM; have HN3 := Lib.hid hN3
  have HW1 : Hid (IsWd 3 [1, 2, 1]) := Lib.hid (wd3 (by omega) (by omega) (by omega))
  have HW2 : Hid (IsWd 3 [2, 1, 2]) := Lib.hid (wd3 (by omega) (by omega) (by omega))
  clear hs sf sg hcc hfl hM hN2 hN3
  have hA := Loc.new w rfl #[.slice a n c, .slice a' n c'] 26
  have hB := below_al (Below.refl w.heap.size w) (.cells #[.slice a n c, .slice a' n c'] 26)
  go_enter Tryz.func56, Tryz.ntmps56
  go_wp2_with fail
  refine (newAction_any _ _ _ _ _ f g _ (h1.alloc _) (h2.alloc _) HS.out hn12).mono ?_
  rintro e w2 ⟨b, d, vs, b', d', vs', rfl, ho2, hb2'⟩
  have hX := Loc.new w2 rfl #[.slice a n c, .slice a' n c', .slice b n d, .slice b' n d'] 77
  have hBX := below_al (below_th hB hb2') (.cells #[.slice a n c, .slice a' n c', .slice b n d, .slice b' n d'] 77)
  have T1 := h1.below hBX; have T2 := h2.below hBX; have T5 := h5.below hBX
  have T3 := ho2.f.tbl.alloc (.cells #[.slice a n c, .slice a' n c', .slice b n d, .slice b' n d'] 77); have T4 := ho2.s.tbl.alloc (.cells #[.slice a n c, .slice a' n c', .slice b n d, .slice b' n d'] 77)
  clear hA hB h1 h2 h5 ho2 hb2'
  go_wp2
  generalize hwA : w2.alloc (.cells #[.slice a n c, .slice a' n c', .slice b n d, .slice b' n d'] 77) = wA at *
  have hsz : w2.heap.size < wA.heap.size := hX.lt
  clear hwA
  go_loopw [21] (fun i wr => ∃ k : Nat, k ≤ N3 ∧ i = .int .i64 k ∧ Hid (∀ M', M' < k → wtBad n f g M m (digL n 3 M') = false) ∧ Below wA.heap.size wA wr) (fun i _ => N3 - (intOf i).toNat)
  case atStart => exact ⟨0, Nat.zero_le _, rfl, Lib.hid fun M' h => absurd h (by omega), Below.refl _ _⟩
  case round =>
    obtain ⟨N, hk, rfl, hI, hq⟩ := hrel
    by_cases hlt : N < N3
    · go_wp2_with fail
      refine (tupleOf_3 n N _ hn1 (by omega) (by omega)).mono ?_
      rintro e w3 ⟨at3, c3, rfl, ho, hb3'⟩
      have hq3 := below_th hq hb3'
      have HLE : Hid (Less n (digL n 3 N)) := Lib.hid (digL_less n 3 N hn1)
      have hX3 := hX.below hq3 hX.lt
      have HBAD : Hid (wtBad n f g M m (digL n 3 N) = (wtF n f g M m [1, 2, 1] (digL n 3 N) != wtF n f g M m [2, 1, 2] (digL n 3 N))) := Lib.hid (by unfold wtBad; rw [Bool.eq_iff_iff]; simp)
      have hsza1 : Hid (w3.heap.size + 1 = (w3.alloc (.cells #[.int .i64 1, .int .i64 2, .int .i64 1] 2)).heap.size) := Lib.hid (by simp)
      have hsza2 : Hid (w3.heap.size + 1 = (w3.alloc (.cells #[.int .i64 2, .int .i64 1, .int .i64 2] 2)).heap.size) := Lib.hid (by simp)
      have own3 := ho.mono (lo' := w.heap.size) (by have := hq.size; have := hBX.size; omega)
      go_upto_region 7 with fail
      go_cut [39] (fun s39 wx => s39 = .bool (wtF n f g M m [1, 2, 1] (digL n 3 N) != wtF n f g M m [2, 1, 2] (digL n 3 N)) ∧ Below w3.heap.size w3 wx)
      case first =>
        have tok1 : True := trivial
        go_region_held3 (fun w' => (w'.cell? ⟨w2.heap.size, 0, none⟩ = some (.slice a n c) ∧ w'.cell? ⟨w2.heap.size, 1, none⟩ = some (.slice a' n c')) ∧ w'.cell? ⟨w2.heap.size, 2, none⟩ = some (.slice b n d) ∧ w'.cell? ⟨w2.heap.size, 3, none⟩ = some (.slice b' n d'))
          (first | exact (hX.below hq5 hX.lt).heldA | exact ((hX.below hq4 hX.lt).alloc _).heldA | exact (hX.below hq4 hX.lt).heldA | exact ((hX3.alloc _).alloc _).heldA | exact (hX3.alloc _).heldA | exact hX3.heldA)
          (first
            | (go_at_call 44; have _t := tok1; (with_reducible refine (weightOf_any _ _ _ _ _ _ _ _ _ f g m _ _ M 3 _ _ _ [1, 2, 1] _ _ (digL n 3 N) _ (T1.below ((below_al hq3 _).drew)) (T2.below ((below_al hq3 _).drew)) (T3.below ((below_al hq3 _).drew)) (T4.below ((below_al hq3 _).drew)) hn1 HSF.out HSG.out HC.out ⟨hm1, hm2⟩ HM.out (T5.below ((below_al hq3 _).drew)) (Row.lit3 (Loc.new (b := w3.heap.size) w3 rfl #[.int .i64 1, .int .i64 2, .int .i64 1] 2)).drew HW1.out (by omega) (by omega) (ho.row.alloc _).drew HLE.out).mono ?_); rintro e w4 ⟨rfl, hbw4⟩; clear _t tok1; have tok2 : True := trivial; have hq4 := below_th (below_al hq3 _).drew hbw4; have hs4 := below_th (below_al (Below.refl w3.heap.size w3) _).drew hbw4; have hr4 := ((ho.row.alloc (.cells #[.int .i64 1, .int .i64 2, .int .i64 1] 2)).drew).below hbw4)
            | (go_at_call 44; have _t := tok1; (with_reducible refine (weightOf_any _ _ _ _ _ _ _ _ _ f g m _ _ M 3 _ _ _ [1, 2, 1] _ _ (digL n 3 N) _ (T1.below ((below_al (below_al hq3 _) _).drew)) (T2.below ((below_al (below_al hq3 _) _).drew)) (T3.below ((below_al (below_al hq3 _) _).drew)) (T4.below ((below_al (below_al hq3 _) _).drew)) hn1 HSF.out HSG.out HC.out ⟨hm1, hm2⟩ HM.out (T5.below ((below_al (below_al hq3 _) _).drew)) ((Row.lit3 (Loc.new (b := w3.heap.size) w3 rfl #[.int .i64 1, .int .i64 2, .int .i64 1] 2)).alloc (.cells #[.int .i64 2, .int .i64 1, .int .i64 2] 2)).drew HW1.out (by omega) (by omega) ((ho.row.alloc _).alloc _).drew HLE.out).mono ?_); rintro e w4 ⟨rfl, hbw4⟩; clear _t tok1; have tok3 : True := trivial; have hq4 := below_th (below_al (below_al hq3 _) _).drew hbw4; have hs4 := below_th (below_al (below_al (Below.refl w3.heap.size w3) _) _).drew hbw4; have hr4 := (((ho.row.alloc (.cells #[.int .i64 1, .int .i64 2, .int .i64 1] 2)).alloc (.cells #[.int .i64 2, .int .i64 1, .int .i64 2] 2)).drew).below hbw4; have hR2 : Row w4 (some ⟨w3.heap.size + 1, 0, none⟩) 3 [2, 1, 2] := (Row.lit3 (Loc.new (w3.alloc (.cells #[.int .i64 1, .int .i64 2, .int .i64 1] 2)) hsza1.out #[.int .i64 2, .int .i64 1, .int .i64 2] 2)).drew.below hbw4)
            | (go_at_call 44; have _t := tok1; (with_reducible refine (weightOf_any _ _ _ _ _ _ _ _ _ f g m _ _ M 3 _ _ _ [1, 2, 1] _ _ (digL n 3 N) _ (T1.below ((below_al (below_al hq3 _) _).drew)) (T2.below ((below_al (below_al hq3 _) _).drew)) (T3.below ((below_al (below_al hq3 _) _).drew)) (T4.below ((below_al (below_al hq3 _) _).drew)) hn1 HSF.out HSG.out HC.out ⟨hm1, hm2⟩ HM.out (T5.below ((below_al (below_al hq3 _) _).drew)) (Row.lit3 (Loc.new (b := w3.heap.size + 1) (w3.alloc (.cells #[.int .i64 2, .int .i64 1, .int .i64 2] 2)) hsza2.out #[.int .i64 1, .int .i64 2, .int .i64 1] 2)).drew HW1.out (by omega) (by omega) ((ho.row.alloc _).alloc _).drew HLE.out).mono ?_); rintro e w4 ⟨rfl, hbw4⟩; clear _t tok1; have tok4 : True := trivial; have hq4 := below_th (below_al (below_al hq3 _) _).drew hbw4; have hs4 := below_th (below_al (below_al (Below.refl w3.heap.size w3) _) _).drew hbw4; have hr4 := (((ho.row.alloc (.cells #[.int .i64 2, .int .i64 1, .int .i64 2] 2)).alloc (.cells #[.int .i64 1, .int .i64 2, .int .i64 1] 2)).drew).below hbw4; have hR2 : Row w4 (some ⟨w3.heap.size, 0, none⟩) 3 [2, 1, 2] := ((Row.lit3 (Loc.new (b := w3.heap.size) w3 rfl #[.int .i64 2, .int .i64 1, .int .i64 2] 2)).alloc (.cells #[.int .i64 1, .int .i64 2, .int .i64 1] 2)).drew.below hbw4)
            | (go_at_call 44; have _t := tok2; (with_reducible refine (weightOf_any _ _ _ _ _ _ _ _ _ f g m _ _ M 3 _ _ _ [2, 1, 2] _ _ (digL n 3 N) _ (T1.below (below_al hq4 _)) (T2.below (below_al hq4 _)) (T3.below (below_al hq4 _)) (T4.below (below_al hq4 _)) hn1 HSF.out HSG.out HC.out ⟨hm1, hm2⟩ HM.out (T5.below (below_al hq4 _)) (Row.lit3 (Loc.new w4 rfl #[.int .i64 2, .int .i64 1, .int .i64 2] 2)) HW2.out (by omega) (by omega) (hr4.alloc _) HLE.out).mono ?_); rintro e w5 ⟨rfl, hbw5⟩; clear _t tok2; have hq5 := below_alth hq4 hbw5; have hs5 := below_alth hs4 hbw5)
            | (go_at_call 44; have _t := tok3; (with_reducible refine (weightOf_any _ _ _ _ _ _ _ _ _ f g m _ _ M 3 _ _ _ [2, 1, 2] _ _ (digL n 3 N) _ (T1.below hq4) (T2.below hq4) (T3.below hq4) (T4.below hq4) hn1 HSF.out HSG.out HC.out ⟨hm1, hm2⟩ HM.out (T5.below hq4) hR2 HW2.out (by omega) (by omega) hr4 HLE.out).mono ?_); rintro e w5 ⟨rfl, hbw5⟩; clear _t tok3; have hq5 := below_th hq4 hbw5; have hs5 := below_th hs4 hbw5)
            | (go_at_call 44; have _t := tok4; (with_reducible refine (weightOf_any _ _ _ _ _ _ _ _ _ f g m _ _ M 3 _ _ _ [2, 1, 2] _ _ (digL n 3 N) _ (T1.below hq4) (T2.below hq4) (T3.below hq4) (T4.below hq4) hn1 HSF.out HSG.out HC.out ⟨hm1, hm2⟩ HM.out (T5.below hq4) hR2 HW2.out (by omega) (by omega) hr4 HLE.out).mono ?_); rintro e w5 ⟨rfl, hbw5⟩; clear _t tok4; have hq5 := below_th hq4 hbw5; have hs5 := below_th hs4 hbw5))
        all_goals (go_wp2_with fail; go_meet; exact ⟨rfl, hs5⟩)
      case rest =>
        obtain ⟨rfl, hb5⟩ := hcut
        have own5 := own3.below hb5
        have hq5 := below_th hq3 hb5
        have hBf := hBX.trans (hq5.mono hBX.size)
        cases hv : (wtF n f g M m [1, 2, 1] (digL n 3 N) != wtF n f g M m [2, 1, 2] (digL n 3 N)) with
        | true =>
          rw [hv] at HBAD
          have HL : Hid (wtFlt n f g M m = digL n 3 N) := Lib.hid (fltL_hit (by rw [← HN3.out]; exact hlt) hI.out HBAD.out)
          clear hv
          obtain ⟨gt, ot, rfl, _⟩ := own5.row.at 0 (by omega)
          obtain ⟨rfl, _, _⟩ := own5.cells
          go_wp2
          go_ret
          refine ⟨.inr ⟨?_, _, _, rfl, by rw [HL.out]; exact own5⟩, hBf⟩
          rw [HL.out]
          intro h
          have := congrArg List.length h
          rw [digL_len] at this
          simp at this
        | false =>
          rw [hv] at HBAD
          clear hv
          go_wp2
          go_roundw
          case rel =>
            refine ⟨N + 1, by omega, by go_num, Lib.hid fun M' hM' => ?_, hq5⟩
            by_cases e : M' = N
            · subst e; exact HBAD.out
            · exact hI.out M' (by omega)
          case measure => simp [intOf]; omega
    · obtain rfl : N = N3 := by omega
      go_wp2
      go_ret
      exact ⟨.inl ⟨fltL_miss (by rw [← HN3.out]; exact hI.out), rfl⟩, hBX.trans (hq.mono hBX.size)⟩
set_option maxHeartbeats 1000000 in
theorem checkWeight_any (a : Option Addr) (n c : Nat) (a' : Option Addr) (n' c' : Nat) (f g : List (List Int)) (m : Int) (am : Option Addr) (nm cm : Nat) (M : List (List Int)) (w : World) (h1 : Tbl w a n f) (h2 : Tbl w a' n' g) (hm1 : n ≤ 9223372036854775807) (hm2 : n' ≤ 9223372036854775807) (h5 : Tbl w am nm M) (hnm : nm ≤ 9223372036854775807) (r : Int) (hr : (if isSol f g then (if isMx n m M then 0 else 2) else 1) = r) :
    Calls Tryz.prog 55 #[sAgg a n c a' n' c', .int .i64 m, .slice am nm cm] w fun e w' => e = .returned (.int .i64 r) ∧ Below w.heap.size w w' := by
  have hA := Loc.new w rfl #[.slice a n c, .slice a' n' c'] 26
  cases q1 : isSol f g with
  | false =>
    rw [q1] at hr
    simp only [Bool.false_eq_true, if_false] at hr
    subst hr
    have H1 := Lib.hid q1; clear q1
    go_enter Tryz.func55, Tryz.ntmps55
    go_wp2_with fail
    refine (isSolution_any _ _ _ _ _ _ _ _ _ (h1.alloc _) (h2.alloc _) hm1 hm2).mono ?_
    rintro e w1 ⟨rfl, hb1⟩
    rw [H1.out]
    go_wp2
    go_ret
    exact ⟨rfl, below_alth (Below.refl _ _) hb1⟩
  | true =>
    rw [q1] at hr
    simp only [if_true] at hr
    have H1 := Lib.hid q1; clear q1
    cases q2 : isMx n m M
    all_goals
      rw [q2] at hr
      simp only [if_true, Bool.false_eq_true, if_false] at hr
      subst hr
      have H2 := Lib.hid q2; clear q2
      go_enter Tryz.func55, Tryz.ntmps55
      go_wp2_with fail
      refine (isSolution_any _ _ _ _ _ _ _ _ _ (h1.alloc _) (h2.alloc _) hm1 hm2).mono ?_
      rintro e w1 ⟨rfl, hb1⟩
      rw [H1.out]
      have lA := (hA.below hb1 (by simp)).two
      go_wp2_with fail
      refine (isMatrix_any n m _ _ _ M _ ((h5.alloc _).below hb1) hnm).mono ?_
      rintro e w2 ⟨rfl, hb2⟩
      rw [H2.out]
      go_wp2
      go_ret
      exact ⟨rfl, below_th (below_alth (Below.refl _ _) hb1) hb2⟩
end Go.Proofs.YtpdgpgbgakinlaaGreat

namespace Go.Proofs.YtpdgpgbgakinlaaGreat
set_option maxRecDepth 100000
set_option linter.unusedVariables false
set_option linter.unusedSimpArgs false
open Go.RowKit
set_option maxHeartbeats 400000 in
theorem l14Numbers_any (N m : Int) (a : Option Addr) (n c : Nat) (xs : List Int) (w : World) (h1 : Row w a n xs) (hm : n ≤ 9223372036854775807) (hm1 : 1 ≤ m) (hm2 : m ≤ 12) :
    Calls Tryz.prog 49 #[.int .i64 N, .int .i64 m, .slice a n c] w fun e w' => e = .returned (.bool (rowOk N m xs)) ∧ w = w' := by
  have hl := h1.len
  have HL := Lib.hid hl; clear hl
  go_enter Tryz.func49, Tryz.ntmps49
  go_wp2
  go_loop [7] (fun i => ∃ k : Nat, k ≤ n ∧ i = .int .i64 k ∧ Hid ((xs.take k).all (rngB 0 (m - 1)) = true)) (fun i => n - (intOf i).toNat)
  case atStart => exact ⟨0, Nat.zero_le _, rfl, by simp [Hid]⟩
  case round =>
    obtain ⟨k, hk, rfl, hall⟩ := hrel
    by_cases hlt : k < n
    · obtain ⟨b, off, rfl, g1⟩ := h1.at k hlt
      have hx : k < xs.length := by have := HL.out; omega
      clear h1
      cases hp : rngB 0 (m - 1) xs[k] with
      | true =>
        have HC := Lib.hid (fun w => l01In_b xs[k] 0 (m - 1) true hp w)
        have HP := Lib.hid hp; clear hp
        go_wp2_with fail
        refine (HC.out _).mono ?_
        rintro e w' ⟨rfl, rfl⟩
        go_wp2
        go_round
        case rel => exact ⟨k + 1, by omega, by go_num, all_get_succ hx hall HP.out⟩
        case measure => simp [intOf]; omega
      | false =>
        have HC := Lib.hid (fun w => l01In_b xs[k] 0 (m - 1) false hp w)
        have HP := Lib.hid hp; clear hp
        go_wp2_with fail
        refine (HC.out _).mono ?_
        rintro e w' ⟨rfl, rfl⟩
        go_wp2
        go_ret
        have hno : rowOk N m xs = false := by
          unfold rowOk; rw [all_no hx HP.out]; simp
        exact ⟨ret_bool hno.symm, rfl⟩
    · obtain rfl : k = n := by omega
      have ha : (xs.take k).all (rngB 0 (m - 1)) = true := hall
      rw [List.take_of_length_le (by have := HL.out; omega)] at ha
      have hq : rowOk N m xs = decide ((k : Int) = N) := by unfold rowOk; rw [ha, HL.out]; simp
      have HQ := Lib.hid hq; clear ha hq
      go_wp2
      go_ret
      exact ⟨ret_bool (by rw [HQ.out]; rfl), rfl⟩
set_option maxHeartbeats 400000 in
theorem l14Matrix_any (N m : Int) (a : Option Addr) (n c : Nat) (xs : List (List Int)) (w : World) (h1 : Tbl w a n xs) (hm : n ≤ 9223372036854775807) (hm1 : 1 ≤ m) (hm2 : m ≤ 12) :
    Calls Tryz.prog 116 #[.int .i64 N, .int .i64 m, .slice a n c] w fun e w' => e = .returned (.bool (isMx N m xs)) ∧ w = w' := by
  have hl := h1.len
  have hp : rngB 1 12 m = true := by simp [rngB, hm1, hm2]
  by_cases hn : (n : Int) = N
  · have b1 : ((n : Int) != N) = false := by simpa using hn
    have hq : isMx N m xs = xs.all (rowOk N m) := by simp [isMx, hp, ← hl, hn]
    have HQ := Lib.hid hq
    have HL := Lib.hid hl; clear hl hn hp hq
    go_enter Tryz.func116, Tryz.ntmps116
    go_wp2
    go_loop [7] (fun i => ∃ k : Nat, k ≤ n ∧ i = .int .i64 k ∧ Hid ((xs.take k).all (rowOk N m) = true)) (fun i => n - (intOf i).toNat)
    case atStart => exact ⟨0, Nat.zero_le _, rfl, by simp [Hid]⟩
    case round =>
      obtain ⟨k, hk, rfl, hall⟩ := hrel
      by_cases hlt : k < n
      · obtain ⟨b, off, ai, ni, ci, rfl, g1, hri, hni⟩ := h1.at k hlt
        have hx : k < xs.length := by have := HL.out; omega
        rw [Tbl.getD hx] at hri
        have hc := l14Numbers_any N m ai ni ci xs[k] w hri hni hm1 hm2
        clear h1
        cases hp : rowOk N m xs[k] with
        | true =>
          rw [hp] at hc
          have HC := Lib.hid hc
          have HP := Lib.hid hp; clear hp hc
          go_wp2_with fail
          refine HC.out.mono ?_
          rintro e w' ⟨rfl, rfl⟩
          go_wp2
          go_round
          case rel => exact ⟨k + 1, by omega, by go_num, all_get_succ hx hall HP.out⟩
          case measure => simp [intOf]; omega
        | false =>
          rw [hp] at hc
          have HC := Lib.hid hc
          have HP := Lib.hid hp; clear hp hc
          go_wp2_with fail
          refine HC.out.mono ?_
          rintro e w' ⟨rfl, rfl⟩
          go_wp2
          go_ret
          exact ⟨ret_bool (by rw [HQ.out]; exact (all_no hx HP.out).symm), rfl⟩
      · obtain rfl : k = n := by omega
        have ha : (xs.take k).all (rowOk N m) = true := hall
        rw [List.take_of_length_le (by have := HL.out; omega)] at ha
        have HA := Lib.hid ha; clear ha
        go_wp2
        go_ret
        exact ⟨ret_bool (by rw [HQ.out]; exact HA.out.symm), rfl⟩
  · have b1 : ((n : Int) != N) = true := by simpa using hn
    have hq : isMx N m xs = false := by simp [isMx, ← hl, hn]
    have HQ := Lib.hid hq; clear hq hl hn hp
    go_enter Tryz.func116, Tryz.ntmps116
    go_wp2
    go_ret
    exact ⟨ret_bool HQ.out.symm, rfl⟩
set_option maxHeartbeats 400000 in
theorem l14Code_any (N m : Int) (a : Option Addr) (n c : Nat) (xs : List (List Int)) (w : World) (h1 : Tbl w a n xs) (hm : n ≤ 9223372036854775807) (r : Int) (hr : (if isMx N m xs then 0 else 2) = r) :
    Calls Tryz.prog 73 #[.int .i64 N, .int .i64 m, .slice a n c] w fun e w' => e = .returned (.int .i64 r) ∧ w = w' := by
  cases hp : rngB 1 12 m with
  | false =>
    have hq : isMx N m xs = false := by simp [isMx, hp]
    rw [hq] at hr
    simp only [Bool.false_eq_true, if_false] at hr
    subst hr
    have HC := Lib.hid (fun w => l01In_b m 1 12 false hp w); clear hp hq
    go_enter Tryz.func73, Tryz.ntmps73
    go_wp2_with fail
    refine (HC.out _).mono ?_
    rintro e w' ⟨rfl, rfl⟩
    go_wp2
    go_ret
    exact ⟨rfl, rfl⟩
  | true =>
    have hmm : 1 ≤ m ∧ m ≤ 12 := by simpa [rngB] using hp
    have HC := Lib.hid (fun w => l01In_b m 1 12 true hp w); clear hp
    have hc := fun w h => l14Matrix_any N m a n c xs w h hm hmm.1 hmm.2
    cases hq : isMx N m xs with
    | true =>
      rw [hq] at hr hc
      simp only [if_true] at hr
      subst hr
      have HD := Lib.hid hc; clear hc hq
      go_enter Tryz.func73, Tryz.ntmps73
      go_wp2_with fail
      refine (HC.out _).mono ?_
      rintro e w' ⟨rfl, rfl⟩
      go_wp2_with fail
      refine (HD.out _ h1).mono ?_
      rintro e w' ⟨rfl, rfl⟩
      go_wp2
      go_ret
      exact ⟨rfl, rfl⟩
    | false =>
      rw [hq] at hr hc
      simp only [Bool.false_eq_true, if_false] at hr
      subst hr
      have HD := Lib.hid hc; clear hc hq
      go_enter Tryz.func73, Tryz.ntmps73
      go_wp2_with fail
      refine (HC.out _).mono ?_
      rintro e w' ⟨rfl, rfl⟩
      go_wp2_with fail
      refine (HD.out _ h1).mono ?_
      rintro e w' ⟨rfl, rfl⟩
      go_wp2
      go_ret
      exact ⟨rfl, rfl⟩
end Go.Proofs.YtpdgpgbgakinlaaGreat
