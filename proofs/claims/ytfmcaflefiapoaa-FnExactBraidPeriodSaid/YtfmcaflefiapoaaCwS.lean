/-
  ColouringWeights and StateSum: what the reference's functions compute.
  No condition but bounds.
-/
import Derived.Test.YtfmcaflefiapoaaCwI
import Derived.Test.YtfmcaflefiapoaaColsS
import Derived.Test.YtfmcaflefiapoaaWtFS
import Derived.Deep.RegionHeld3
namespace Go.Proofs.Ytfmcaflefiapoaa
set_option maxRecDepth 100000
set_option linter.unusedVariables false
set_option linter.unusedSimpArgs false
open Go.RowKit

/-- append of one number, as a step of a region that draws its order, behind a call -/
theorem step_app1n {ops : Array Oper} {o : Oper} {a : Act} {K : Act → World → Prop} {Q : Exit → Act → World → Prop} {E : Prop} {w : World} (hgd : o.guard = none) {s x : Operand}
    (ho : o.op = .call { callee := .builtin .append, args := #[s, x], argTypes := #[25, 25] }) {lo : Nat} {ad : Option Addr} {n c : Nat} {xs : List Int} (hown : Own w lo ad n c xs) (hs : a.eval s = .slice ad n c)
    {y : Int} {t : TypeId} (hx : a.eval x = .slice (some ⟨w.heap.size, 0, none⟩) 1 1) (hlen : n + 1 ≤ 1000000000000) (hlo : lo ≤ w.heap.size)
    (h : ∀ g c' w', Own w' lo (some ⟨g, 0, none⟩) (n + 1) c' (xs ++ [y]) → w.grownBy w' (Value.slice ad n c).ownBlock → w.heap.size < w'.heap.size → Below lo w w' → K (a.put o.dst (.slice (some ⟨g, 0, none⟩) (n + 1) c')) w') :
    if Region.wanted o (yielded ops a.tmps) = true then Oper.wp Try.prog o a (w.alloc (.cells #[.int .i64 y] t)) K Q else E := by
  have hw : Region.wanted o (yielded ops a.tmps) = true := by simp [Region.wanted, hgd]
  rw [if_pos hw]
  obtain ⟨i0, hi, hz0, hz1, hz2⟩ := info_parts info_int
  obtain ⟨hn, hown⟩ := hown
  refine wp_append_own _ s x 25 ho lo 2 i0 (.int .i64 0) 1 8 und_ints hi hz0 hz1 hz2 rfl (by decide) _ n (xs.map (.int .i64)) hs (hown.alloc _) ⟨w.heap.size, 0, none⟩ 1 1 [.int .i64 y] hx rfl (cell_one_new _ _ _) ?_ ?_ ?_ ?_ ?_
  · intro u hu; simp at hu; subst hu; rfl
  · unfold maxLen; omega
  · omega
  · simp; omega
  · intro v' w' ho' hg hv'
    have hg' : w.grownBy w' (Value.slice ad n c).ownBlock := by
      have h1 := World.grownBy_alloc w (.cells #[.int .i64 y] t) (Value.slice ad n c).ownBlock
      exact ⟨hg.os.trans h1.os, hg.tape.trans h1.tape, hg.output.trans h1.output, Nat.le_trans h1.size hg.size, fun k hk hn => (hg.block k (Nat.lt_of_lt_of_le hk h1.size) hn).trans (h1.block k hk hn)⟩
    obtain ⟨hl, h2⟩ := ho'
    rcases h2 with ⟨rfl, h2⟩ | ⟨g, cap, cur, rfl, h2⟩
    · simp at h2
    · refine h g cap w' ⟨by simp [hn], by simpa using hl, .inr ⟨g, cap, cur, rfl, ?_⟩⟩ hg' ?_ ?_
      · simpa using h2
      · have := hg.size; simp at this; omega
      · exact (Below.refl _ _).grown hg' hlo (fun k hk => (World.ownsRow.lt hown k hk).1)

set_option maxHeartbeats 16000000 in
theorem l18Weights_any (a : Option Addr) (n c : Nat) (f : List (List Int)) (a' : Option Addr) (n' c' : Nat) (g : List (List Int)) (m : Int) (am : Option Addr) (nm cm : Nat) (M : List (List Int)) (s : Int) (ab : Option Addr) (nb cb : Nat) (xs : List Int) (w : World) (h1 : Sol w a n f a' n' g) (hm : n ≤ 9223372036854775807 ∧ n' ≤ 9223372036854775807) (hi : I64 m) (h5 : Tbl w am nm M) (hnm : nm ≤ 9223372036854775807) (hs : I64 s) (hr : Row w ab nb xs) (hnb : nb ≤ 9223372036854775807) (hx : I64s xs) (hcap : nb ≤ cb ∧ cb ≤ 9223372036854775807) :
    Calls Try.prog 78 #[sAgg a n c a' n' c', .int .i64 m, .slice am nm cm, bAgg s ab nb cb] w (RetR w (cwF f g m M s xs).1 (cwF f g m M s xs).2) := by
  obtain ⟨hm1, hm2⟩ := hm
  have HFL := Lib.hid h1.f.len
  have hA := (Loc.new w rfl #[.slice a n c, .slice a' n' c'] 33).alloc (.cells #[.int .i64 s, .slice ab nb cb] 36)
  have hE := Loc.new (w.alloc (.cells #[.slice a n c, .slice a' n' c'] 33)) rfl #[.int .i64 s, .slice ab nb cb] 36
  rw [size_alloc] at hE
  have hB := below_al (below_al (Below.refl w.heap.size w) (.cells #[.slice a n c, .slice a' n' c'] 33)) (.cells #[.int .i64 s, .slice ab nb cb] 36)
  go_enter Try.func78, Try.ntmps78
  go_wp2_with fail
  generalize (w.alloc (.cells #[.slice a n c, .slice a' n' c'] 33)).alloc (.cells #[.int .i64 s, .slice ab nb cb] 36) = w0 at *
  have lA := hA.two
  have lE := hE.two
  refine (l02Is_any _ _ _ _ _ _ _ _ _ (h1.f.below hB) (h1.s.below hB) hm1 hm2).mono ?_
  rintro e w1 ⟨rfl, hb1⟩
  replace hB := below_th hB hb1; replace hA := hA.below hb1 hA.lt; replace hE := hE.below hb1 hE.lt; replace lA := hA.two; replace lE := hE.two
  clear hb1
  cases q0 : isSol f g with
  | false =>
    have HQ : Hid (cwF f g m M s xs = ([], 1)) := Lib.hid (cwF_0 q0)
    clear q0
    go_wp2
    go_ret2
    exact ⟨none, 0, 0, by rw [HQ.out]; rfl, by rw [HQ.out]; exact Own.nil _ _, hB⟩
  | true =>
  have HS := Lib.hid q0
  clear q0
  go_wp2_with fail
  refine (l16Is_any _ _ _ _ xs _ (hr.below hB) hnb hs).mono ?_
  rintro e w2 ⟨rfl, hb2⟩
  replace hB := below_th hB hb2; replace hA := hA.below hb2 hA.lt; replace hE := hE.below hb2 hE.lt; replace lA := hA.two; replace lE := hE.two
  clear hb2
  cases q1 : isBr s xs with
  | false =>
    have HQ : Hid (cwF f g m M s xs = ([], 1)) := Lib.hid (cwF_1 HS.out q1)
    clear q1
    go_wp2
    go_ret2
    exact ⟨none, 0, 0, by rw [HQ.out]; rfl, by rw [HQ.out]; exact Own.nil _ _, hB⟩
  | true =>
  have HBR := Lib.hid q1
  have hs26 := (isBr_let q1).1
  clear q1
  obtain ⟨hn1, hn12, sf, sg⟩ := isSol_sq HS.out
  have hcc := isSol_coll HS.out
  obtain rfl : n' = n := by rw [h1.s.len, HFL.out]; have := sg.len; omega
  rw [← HFL.out] at hn1 hn12 sf sg hcc
  obtain ⟨S, rfl⟩ : ∃ S : Nat, s = S := ⟨s.toNat, by omega⟩
  have HSF := Lib.hid sf; have HSG := Lib.hid sg; have HC := Lib.hid hcc
  clear sf sg hcc
  have hs2 : 2 ≤ S := by omega
  have hs6 : S ≤ 6 := by omega
  have HLEN2 : Hid (n' = n') := Lib.hid rfl
  cases q2 : isMx n' m M with
  | false =>
    have HQ : Hid (cwF f g m M S xs = ([], 2)) := Lib.hid (cwF_2 HS.out HBR.out (by rw [← HFL.out]; exact q2))
    have HK : Hid ((if isSol f g then (if isMx n' m M then 0 else 2) else 1) = (2 : Int)) := Lib.hid (by rw [HS.out, q2]; rfl)
    clear q2
    go_wp2_with fail
    refine (l18Code_any _ _ _ _ _ _ f g _ _ _ _ M _ (h1.f.below hB) (h1.s.below hB) hm1 hm2 (h5.below hB) hnm _ HK.out).mono ?_
    rintro e w3 ⟨rfl, hb3⟩
    replace hB := below_th hB hb3; replace hA := hA.below hb3 hA.lt; replace hE := hE.below hb3 hE.lt; replace lA := hA.two; replace lE := hE.two
    go_wp2
    go_ret2
    exact ⟨none, 0, 0, by rw [HQ.out]; rfl, by rw [HQ.out]; exact Own.nil _ _, hB⟩
  | true =>
  have H2 := Lib.hid q2
  have HK : Hid ((if isSol f g then (if isMx n' m M then 0 else 2) else 1) = (0 : Int)) := Lib.hid (by rw [HS.out, q2]; rfl)
  obtain ⟨hmm, hM⟩ := isMx_sq q2
  clear q2
  obtain rfl : nm = n' := by rw [h5.len]; exact hM.1
  have HMM := Lib.hid hmm; have HM := Lib.hid hM
  clear hmm hM
  go_wp2_with fail
  refine (l18Code_any _ _ _ _ _ _ f g _ _ _ _ M _ (h1.f.below hB) (h1.s.below hB) hm1 hm2 (h5.below hB) hnm _ HK.out).mono ?_
  rintro e w3 ⟨rfl, hb3⟩
  replace hB := below_th hB hb3; replace hA := hA.below hb3 hA.lt; replace hE := hE.below hb3 hE.lt; replace lA := hA.two; replace lE := hE.two
  clear hb3
  go_wp2_with fail
  refine (l18Fault_any _ _ _ _ _ f g m _ _ M _ (h1.f.below hB) (h1.s.below hB) HS.out HMM.out HM.out (h5.below hB)).mono ?_
  rintro e w4 ⟨af, kf, cf, rfl, hof, hb4⟩
  replace hB := below_th hB hb4; replace hA := hA.below hb4 hA.lt; replace hE := hE.below hb4 hE.lt; replace lA := hA.two; replace lE := hE.two
  clear hb4
  have hkl := hof.len
  by_cases hk0 : kf = 0
  rotate_left
  · have HQ : Hid (cwF f g m M S xs = ([], 5)) := Lib.hid (cwF_3 HS.out HBR.out (by rw [← HFL.out]; exact H2.out) (by rw [← HFL.out]; intro h; rw [h] at hkl; exact hk0 hkl))
    have hkp : 0 < kf := by omega
    have hkq := hof.cap
    clear hkl hof hk0
    go_wp2
    go_ret2
    exact ⟨none, 0, 0, by rw [HQ.out]; rfl, by rw [HQ.out]; exact Own.nil _ _, hB⟩
  have hL : wtFlt nm f g M m = [] := List.eq_nil_of_length_eq_zero (by omega)
  subst hk0
  clear hkl hof
  have HL := Lib.hid hL
  clear hL
  go_wp2_with fail
  refine (l16Tuples_any _ _ _ _ _ _ _ _ _ _ _ hn1 hn12 hs6).mono ?_
  rintro e w5 ⟨he, hb5⟩
  replace hB := below_th hB hb5; replace hA := hA.below hb5 hA.lt; replace hE := hE.below hb5 hE.lt; replace lA := hA.two; replace lE := hE.two
  clear hb5
  rcases he with ⟨h5k, rfl⟩ | ⟨h5k, rfl⟩
  rotate_left
  · have HQ : Hid (cwF f g m M S xs = ([], 3)) := Lib.hid (cwF_4 HS.out HBR.out (by rw [← HFL.out]; exact H2.out) (by rw [← HFL.out]; exact HL.out) (by rw [← HFL.out, Int.toNat_natCast]; omega))
    clear h5k
    go_wp2
    go_ret2
    exact ⟨none, 0, 0, by rw [HQ.out]; rfl, by rw [HQ.out]; exact Own.nil _ _, hB⟩
  have HQ : Hid (cwF f g m M S xs = (wtsK nm f g M m xs (colsL nm S f g xs) (colsL nm S f g xs).length, 0)) := Lib.hid (by rw [wtsK_all, cwF_5 HS.out HBR.out (by rw [← HFL.out]; exact H2.out) (by rw [← HFL.out]; exact HL.out) (by rw [← HFL.out, Int.toNat_natCast]; exact h5k), ← HFL.out, Int.toNat_natCast])
  have hmem : ∀ i, i < (colsL nm S f g xs).length → ∃ N, (colsL nm S f g xs).getD i [] = digL nm S N := fun i hi => by
    rw [Tbl.getD hi]
    obtain ⟨N, _, e⟩ := colsK_mem (List.getElem_mem hi)
    exact ⟨N, e⟩
  have hll : (colsL nm S f g xs).length ≤ 5000 := by have := colsK_len (n := nm) (s := S) (f := f) (g := g) (xs := xs) (k := nm ^ S); unfold colsL; omega
  have HCL : Hid (colsK nm S f g xs (nm ^ S) = colsL nm S f g xs) := Lib.hid rfl
  generalize nm ^ S = K at *
  go_wp2_with fail
  refine (l17Colourings_any _ _ _ _ _ f g S _ _ _ xs K _ (h1.f.below hB) (h1.s.below hB) HS.out (hr.below hB) HBR.out h5k).mono ?_
  rintro e w6 ⟨az, L, cz, vz, rfl, hoz, hb6⟩
  rw [HCL.out] at hoz
  have hLl := hoz.len
  have HLn := Lib.hid hLl; have HMEM := Lib.hid hmem
  have hL5 : L ≤ 5000 := by omega
  have hwz := hB.size
  replace hB := below_th hB hb6; replace hA := hA.below hb6 hA.lt; replace hE := hE.below hb6 hE.lt; replace lA := hA.two; replace lE := hE.two
  have HTz := Lib.hid hoz.tbl
  have HWD : Hid (IsWd S xs) := Lib.hid (isBr_wd HBR.out)
  clear hLl hmem hll hoz hb6 h5k
  have hO0 := Own.empty0 w6 (lo := w6.heap.size) rfl (Nat.le_refl _)
  have hQ7 := below_al (Below.refl w6.heap.size w6) (.cells #[] 2)
  have HTz2 := HTz
  have hX7 := hA; have hE7 := hE
  have T1 := h1.f.below hB; have T2 := h1.s.below hB; have T5 := h5.below hB; have T6 := hr.below hB
  clear h1 h5 hr HTz hA hE
  go_wp2
  clear lA lE
  go_loopw [13, 14] (fun z i wr => ∃ (k : Nat) (ay : Option Addr) (cy : Nat), k ≤ L ∧ i = .int .i64 k ∧ z = .slice ay k cy ∧ Own wr w6.heap.size ay k cy (wtsK nm f g M m xs (colsL nm S f g xs) k) ∧ Below w6.heap.size w6 wr) (fun _ i _ => L - (intOf i).toNat)
  case atStart => exact ⟨0, _, 0, Nat.zero_le _, rfl, rfl, by rw [wtsK_zero]; exact hO0, hQ7⟩
  case round =>
    clear hO0 hQ7
    obtain ⟨k, ay, cy, hk, rfl, rfl, hoy, hq⟩ := hrel
    by_cases hlt : k < L
    · obtain ⟨bz, oz, ai, ni, ci, rfl, g0, hri0, hni⟩ := HTz2.out.at k hlt
      have hbz : bz < w6.heap.size := World.block_lt_of_cell? w6 _ g0
      have g1 := (hq.cell (p := ⟨bz, oz + k, none⟩) hbz).trans g0
      have hri := hri0.below hq
      obtain ⟨N, hN⟩ := HMEM.out k (by have := HLn.out; omega)
      have hni2 := hri.len
      rw [hN, digL_len] at hni2
      subst hni2
      have hXr := hX7.below hq hX7.lt
      have hEr := hE7.below hq hE7.lt
      have lX := hXr.two
      have lE := hEr.two
      have HLE : Hid (Less nm ((colsL nm ni f g xs).getD k [])) := Lib.hid (by rw [hN]; exact digL_less nm ni N hn1)
      have HY : Hid (wtsK nm f g M m xs (colsL nm ni f g xs) (k + 1) = wtsK nm f g M m xs (colsL nm ni f g xs) k ++ [wtF nm f g M m xs ((colsL nm ni f g xs).getD k [])]) := Lib.hid (wtsK_succ (by have := HLn.out; omega))
      clear hN
      have hwq := hq.size
      have i1 : (0 : Int) ≤ (k : Int) := by omega
      have i2 : (k : Int) < (L : Int) := by omega
      have hbzr : bz < wr.heap.size := by omega
      clear g0 hri0
      go_wp2_with fail
      go_region_held3 (fun w' => (w'.cell? ⟨w.heap.size, 0, none⟩ = some (.slice a nm c) ∧ w'.cell? ⟨w.heap.size, 1, none⟩ = some (.slice a' nm c')) ∧ (w'.cell? ⟨w.heap.size + 1, 0, none⟩ = some (.int .i64 ni) ∧ w'.cell? ⟨w.heap.size + 1, 1, none⟩ = some (.slice ab nb cb)) ∧ w'.cell? ⟨bz, oz + k, none⟩ = some (.slice ai ni ci))
        (first | exact ⟨⟨lX8.1, lX8.2.1⟩, ⟨lE8.1, lE8.2.1⟩, g8⟩ | exact ⟨⟨lX7.1, lX7.2.1⟩, ⟨lE7.1, lE7.2.1⟩, g7⟩ | exact ⟨⟨lX.1, lX.2.1⟩, ⟨lE.1, lE.2.1⟩, g1⟩ | go_keep)
        (first
          | (go_at_call 55; refine (l18Sum_any _ _ _ _ _ f g m _ _ M ni _ _ _ xs _ _ ((colsL nm ni f g xs).getD k []) _ (T1.below (below_drewN hq 1)) (T2.below (below_drewN hq 1)) hn1 hn12 HSF.out HSG.out HC.out HMM.out HM.out (T5.below (below_drewN hq 1)) (T6.below (below_drewN hq 1)) hcap.1 hcap.2 HWD.out hs2 hs6 (hri.drewN 1) HLE.out).mono ?_; rintro e w7 ⟨rfl, hb7⟩; have hr7 : Below wr.heap.size wr w7 := (Below.drew (Below.refl _ _)).trans hb7; have lX7 := (hXr.below hr7 hXr.lt).two; have lE7 := (hEr.below hr7 hEr.lt).two; have g7 := (hr7.cell (p := ⟨bz, oz + k, none⟩) hbzr).trans g1; have hoy7 := hoy.below hr7; have hs7 := hr7.size; have lX7a := ((hXr.below hr7 hXr.lt).alloc (.cells #[.int .i64 (wtF nm f g M m xs ((colsL nm ni f g xs).getD k []))] 2)).two)
          | (refine step_app1n rfl rfl hoy7 rfl rfl ?_ ?_ ?_; (omega); (omega); intro g' cc w8 hO hg8 hs8 hb8; have hr8 : Below w6.heap.size wr w8 := (hr7.mono hwq).trans hb8; have lX8 := (hXr.below hr8 hX7.lt).two; have lE8 := (hEr.below hr8 hE7.lt).two; have g8 := (hr8.cell (p := ⟨bz, oz + k, none⟩) hbz).trans g1))
      all_goals
        go_wp2
        go_roundw
        case rel => exact ⟨k + 1, _, _, by omega, by go_num, rfl, by rw [HY.out]; exact hO, hq.trans hr8⟩
        case measure => simp [intOf]; omega
    · obtain rfl : k = L := by omega
      go_wp2
      go_ret2
      refine ⟨ay, k, cy, by rw [HQ.out]; rfl, ?_, hB.trans (hq.mono hB.size)⟩
      rw [HQ.out]
      have := HLn.out
      rw [← this]
      exact hoy.mono hB.size

set_option maxHeartbeats 1000000 in
theorem spec_Cw_l (a : Option Addr) (n c : Nat) (f : List (List Int)) (a' : Option Addr) (n' c' : Nat) (g : List (List Int)) (m : Int) (am : Option Addr) (nm cm : Nat) (M : List (List Int)) (s : Int) (ab : Option Addr) (nb cb : Nat) (xs : List Int) (w : World) (h1 : Sol w a n f a' n' g) (hm : n ≤ 9223372036854775807 ∧ n' ≤ 9223372036854775807) (hi : I64 m) (h5 : Tbl w am nm M) (hnm : nm ≤ 9223372036854775807) (hs : I64 s) (hr : Row w ab nb xs) (hnb : nb ≤ 9223372036854775807) (hx : I64s xs) (hcap : nb ≤ cb ∧ cb ≤ 9223372036854775807) :
    Calls Try.prog 39 #[sAgg a n c a' n' c', .int .i64 m, .slice am nm cm, bAgg s ab nb cb] w (RetR w (cwF f g m M s xs).1 (cwF f g m M s xs).2) := by
  have hA := (Loc.new w rfl #[.slice a n c, .slice a' n' c'] 33).alloc (.cells #[.int .i64 s, .slice ab nb cb] 36)
  have hE := Loc.new (w.alloc (.cells #[.slice a n c, .slice a' n' c'] 33)) rfl #[.int .i64 s, .slice ab nb cb] 36
  rw [size_alloc] at hE
  have hB := below_al (below_al (Below.refl w.heap.size w) (.cells #[.slice a n c, .slice a' n' c'] 33)) (.cells #[.int .i64 s, .slice ab nb cb] 36)
  go_enter Try.func39, Try.ntmps39
  go_wp2_with fail
  generalize (w.alloc (.cells #[.slice a n c, .slice a' n' c'] 33)).alloc (.cells #[.int .i64 s, .slice ab nb cb] 36) = w0 at *
  have lA := hA.two
  have lE := hE.two
  refine (l18Weights_any _ _ _ f _ _ _ g m _ _ _ M s _ _ _ xs _ ⟨h1.f.below hB, h1.s.below hB⟩ hm hi (h5.below hB) hnm hs (hr.below hB) hnb hx hcap).mono ?_
  rintro e w1 ⟨a1, n1, c1, rfl, ho, hb1⟩
  generalize (cwF f g m M s xs).1 = L at *
  generalize (cwF f g m M s xs).2 = r at *
  go_wp2
  go_ret2
  exact ⟨a1, n1, c1, rfl, ho.mono hB.size, below_th hB hb1⟩

set_option maxHeartbeats 1000000 in
theorem l18Counts_any (m : Int) (a : Option Addr) (n c : Nat) (L : List Int) (w : World) (h : Row w a n L) (hm : 1 ≤ m ∧ m ≤ 12) (hn : n ≤ 1000000) (hL : ∀ x ∈ L, 0 ≤ x ∧ x < m) :
    Calls Try.prog 81 #[.int .i64 m, .slice a n c] w fun e w' => ∃ a' n' c', e = .returned (.slice a' n' c') ∧ Own w' w.heap.size a' n' c' (cntL m.toNat L) ∧ Below w.heap.size w w' := by
  obtain ⟨hm1, hm2⟩ := hm
  obtain ⟨K, rfl⟩ : ∃ K : Nat, m = K := ⟨m.toNat, by omega⟩
  have hl := Lib.hid h.len
  have HL := Lib.hid hL
  clear hL
  rw [Int.toNat_natCast]
  go_enter Try.func81, Try.ntmps81
  go_wp2_with (at_make; refine make1 rfl rfl rfl rfl (by omega) ?_; intro w1 ho hs hb)
  go_loopw [6] (fun i wr => ∃ k : Nat, k ≤ n ∧ i = .int .i64 k ∧ Own wr w.heap.size (some ⟨w.heap.size, 0, none⟩) K K (cntL K (L.take k)) ∧ Below w.heap.size w wr) (fun i _ => n - (intOf i).toNat)
  case atStart => exact ⟨0, Nat.zero_le _, rfl, by simpa [cntL] using ho, hb⟩
  case round =>
    clear ho hb
    obtain ⟨k, hk, rfl, ho, hb⟩ := hrel
    by_cases hlt : k < n
    · obtain ⟨b, off, rfl, g1⟩ := (h.below hb).at k hlt
      have hx : k < L.length := by have := hl.out; omega
      have hb2 := HL.out L[k] (List.getElem_mem hx)
      rw [getD_eq_at hx] at g1
      have HC := Lib.hid (cntL_take (m := K) hx)
      rw [getD_eq_at hx] at HC
      generalize L[k] = X at *
      obtain ⟨x, rfl⟩ : ∃ x : Nat, X = x := ⟨X.toNat, by omega⟩
      rw [Int.toNat_natCast] at HC
      have hbd := cntL_bd K (L.take k) x
      have hlk : (L.take k).length ≤ k := List.length_take_le _ _
      obtain ⟨_, hc, hf⟩ := ho.cells
      have hc1 := hc x (by omega)
      have hf1 := hf x
      clear hc hf
      have hset := Lib.hid (ho.set x ((cntL K (L.take k)).getD x 0 + 1))
      generalize (cntL K (L.take k)).getD x 0 = V at *
      go_wp2
      go_roundw
      case rel => exact ⟨k + 1, by omega, by go_num, by rw [HC.out]; exact hset.out, hb.setCell (by simp) _⟩
      case measure => simp [intOf]; omega
    · obtain rfl : k = n := by omega
      go_wp2
      go_ret
      refine ⟨_, _, _, rfl, ?_, hb⟩
      rw [List.take_of_length_le (by have := hl.out; omega)] at ho
      exact ho

set_option maxHeartbeats 2000000 in
theorem spec_St_l (a : Option Addr) (n c : Nat) (f : List (List Int)) (a' : Option Addr) (n' c' : Nat) (g : List (List Int)) (m : Int) (am : Option Addr) (nm cm : Nat) (M : List (List Int)) (s : Int) (ab : Option Addr) (nb cb : Nat) (xs : List Int) (w : World) (h1 : Sol w a n f a' n' g) (hm : n ≤ 9223372036854775807 ∧ n' ≤ 9223372036854775807) (hi : I64 m) (h5 : Tbl w am nm M) (hnm : nm ≤ 9223372036854775807) (hs : I64 s) (hr : Row w ab nb xs) (hnb : nb ≤ 9223372036854775807) (hx : I64s xs) (hcap : nb ≤ cb ∧ cb ≤ 9223372036854775807) :
    Calls Try.prog 43 #[sAgg a n c a' n' c', .int .i64 m, .slice am nm cm, bAgg s ab nb cb] w (RetR w (stF f g m M s xs).1 (stF f g m M s xs).2) := by
  have hA := (Loc.new w rfl #[.slice a n c, .slice a' n' c'] 33).alloc (.cells #[.int .i64 s, .slice ab nb cb] 36)
  have hE := Loc.new (w.alloc (.cells #[.slice a n c, .slice a' n' c'] 33)) rfl #[.int .i64 s, .slice ab nb cb] 36
  rw [size_alloc] at hE
  have hB := below_al (below_al (Below.refl w.heap.size w) (.cells #[.slice a n c, .slice a' n' c'] 33)) (.cells #[.int .i64 s, .slice ab nb cb] 36)
  go_enter Try.func43, Try.ntmps43
  go_wp2_with fail
  generalize (w.alloc (.cells #[.slice a n c, .slice a' n' c'] 33)).alloc (.cells #[.int .i64 s, .slice ab nb cb] 36) = w0 at *
  have lA := hA.two
  have lE := hE.two
  refine (l18Weights_any _ _ _ f _ _ _ g m _ _ _ M s _ _ _ xs _ ⟨h1.f.below hB, h1.s.below hB⟩ hm hi (h5.below hB) hnm hs (hr.below hB) hnb hx hcap).mono ?_
  rintro e w1 ⟨a1, n1, c1, rfl, ho, hb1⟩
  by_cases hz : (cwF f g m M s xs).2 = 0
  · obtain ⟨hmm, hbd⟩ := cwF_bd hz
    have hln := Cw_len f g m M s xs
    have hol := ho.len
    have HQ : Hid (stF f g m M s xs = (cntL m.toNat (cwF f g m M s xs).1, 0)) := Lib.hid (if_pos hz)
    have HMM := Lib.hid hmm; have HBD := Lib.hid hbd
    have hn1 : n1 ≤ 1000000 := by omega
    rw [hz]
    clear hz hmm hbd hln hol
    go_wp2_with fail
    refine (l18Counts_any m _ _ _ _ _ ho.row HMM.out hn1 HBD.out).mono ?_
    rintro e w2 ⟨a2, n2, c2, rfl, ho2, hb2⟩
    go_wp2
    go_ret2
    exact ⟨a2, n2, c2, by rw [HQ.out]; rfl, by rw [HQ.out]; exact ho2.mono (by have := hB.size; have := hb1.size; omega), below_th (below_th hB hb1) hb2⟩
  · have HQ : Hid (stF f g m M s xs = ([], (cwF f g m M s xs).2)) := Lib.hid (if_neg hz)
    have hb : ((cwF f g m M s xs).2 != 0) = true := by simpa using hz
    clear hz
    generalize (cwF f g m M s xs).2 = r at *
    go_wp2
    go_ret2
    exact ⟨none, 0, 0, by rw [HQ.out]; rfl, by rw [HQ.out]; exact Own.nil _ _, below_th hB hb1⟩

end Go.Proofs.Ytfmcaflefiapoaa
