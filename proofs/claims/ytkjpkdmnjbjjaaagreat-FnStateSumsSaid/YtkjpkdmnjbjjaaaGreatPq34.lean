/-
  Walks and plain laws of this seat, some texts in one.
  No condition but bounds on lengths.
-/
import Derived.Test.YtkjpkdmnjbjjaaaGreatPq33
import Derived.Test.YtkjpkdmnjbjjaaaGreatPq29
import Derived.Deep.RegionHeld3
import Derived.Test.YtkjpkdmnjbjjaaaGreatPq1
import Derived.Test.YtkjpkdmnjbjjaaaGreatPq2
import Derived.Lib.AppendZeros
namespace Go.Proofs.YtkjpkdmnjbjjaaaGreat
set_option maxRecDepth 100000
set_option linter.unusedVariables false
set_option linter.unusedSimpArgs false
open Go.RowKit
set_option maxHeartbeats 16000000 in
theorem l18Weights_any (a : Option Addr) (n c : Nat) (f : List (List Int)) (a' : Option Addr) (n' c' : Nat) (g : List (List Int)) (m : Int) (am : Option Addr) (nm cm : Nat) (M : List (List Int)) (s : Int) (ab : Option Addr) (nb cb : Nat) (xs : List Int) (w : World) (h1 : Sol w a n f a' n' g) (hm : n ≤ 9223372036854775807 ∧ n' ≤ 9223372036854775807) (hi : I64 m) (h5 : Tbl w am nm M) (hnm : nm ≤ 9223372036854775807) (hs : I64 s) (hr : Row w ab nb xs) (hnb : nb ≤ 9223372036854775807) (hx : I64s xs) (hcap : nb ≤ cb ∧ cb ≤ 9223372036854775807) :
    Calls Tryz.prog 115 #[sAgg a n c a' n' c', .int .i64 m, .slice am nm cm, bAgg s ab nb cb] w (RetR w (cwF f g m M s xs).1 (cwF f g m M s xs).2) := by
  obtain ⟨hm1, hm2⟩ := hm
  have HFL := Lib.hid h1.f.len
  have hA := (Loc.new w rfl #[.slice a n c, .slice a' n' c'] 26).alloc (.cells #[.int .i64 s, .slice ab nb cb] 42)
  have hE := Loc.new (w.alloc (.cells #[.slice a n c, .slice a' n' c'] 26)) rfl #[.int .i64 s, .slice ab nb cb] 42
  rw [size_alloc] at hE
  have hB := below_al (below_al (Below.refl w.heap.size w) (.cells #[.slice a n c, .slice a' n' c'] 26)) (.cells #[.int .i64 s, .slice ab nb cb] 42)
  go_enter Tryz.func115, Tryz.ntmps115
  go_wp2_with fail
  generalize (w.alloc (.cells #[.slice a n c, .slice a' n' c'] 26)).alloc (.cells #[.int .i64 s, .slice ab nb cb] 42) = w0 at *
  have lA := hA.two
  have lE := hE.two
  refine (l02Is_any _ _ _ _ _ _ _ _ _ (h1.f.below hB) (h1.s.below hB) hm1 hm2).mono ?_
  rintro e w1 ⟨rfl, hb1⟩
  replace hB := below_th hB hb1; replace hA := hA.below hb1 hA.lt; replace hE := hE.below hb1 hE.lt; replace lA := hA.two; replace lE := hE.two
  clear hb1
  cases q0 : isSol f g with
  | false =>
    have HQ : Hid (cwF f g m M s xs = ([], 1)) := Lib.hid (cwF_0 q0)
    clear q0
    go_wp2
    go_ret2
    exact ⟨none, 0, 0, by rw [HQ.out]; rfl, by rw [HQ.out]; exact Own.nil _ _, hB⟩
  | true =>
  have HS := Lib.hid q0
  clear q0
  go_wp2_with fail
  refine (l16Is_any _ _ _ _ xs _ (hr.below hB) hnb hs).mono ?_
  rintro e w2 ⟨rfl, hb2⟩
  replace hB := below_th hB hb2; replace hA := hA.below hb2 hA.lt; replace hE := hE.below hb2 hE.lt; replace lA := hA.two; replace lE := hE.two
  clear hb2
  cases q1 : isBr s xs with
  | false =>
    have HQ : Hid (cwF f g m M s xs = ([], 1)) := Lib.hid (cwF_1 HS.out q1)
    clear q1
    go_wp2
    go_ret2
    exact ⟨none, 0, 0, by rw [HQ.out]; rfl, by rw [HQ.out]; exact Own.nil _ _, hB⟩
  | true =>
  have HBR := Lib.hid q1
  have hs26 := (isBr_let q1).1
  clear q1
  obtain ⟨hn1, hn12, sf, sg⟩ := isSol_sq HS.out
  have hcc := isSol_coll HS.out
  obtain rfl : n' = n := by rw [h1.s.len, HFL.out]; have := sg.len; omega
  rw [← HFL.out] at hn1 hn12 sf sg hcc
  obtain ⟨S, rfl⟩ : ∃ S : Nat, s = S := ⟨s.toNat, by omega⟩
  have HSF := Lib.hid sf; have HSG := Lib.hid sg; have HC := Lib.hid hcc
  clear sf sg hcc
  have hs2 : 2 ≤ S := by omega
  have hs6 : S ≤ 6 := by omega
  have HLEN2 : Hid (n' = n') := Lib.hid rfl
  cases q2 : isMx n' m M with
  | false =>
    have HQ : Hid (cwF f g m M S xs = ([], 2)) := Lib.hid (cwF_2 HS.out HBR.out (by rw [← HFL.out]; exact q2))
    have HK : Hid ((if isSol f g then (if isMx n' m M then 0 else 2) else 1) = (2 : Int)) := Lib.hid (by rw [HS.out, q2]; rfl)
    clear q2
    go_wp2_with fail
    refine (l18Code_any _ _ _ _ _ _ f g _ _ _ _ M _ (h1.f.below hB) (h1.s.below hB) hm1 hm2 (h5.below hB) hnm _ HK.out).mono ?_
    rintro e w3 ⟨rfl, hb3⟩
    replace hB := below_th hB hb3; replace hA := hA.below hb3 hA.lt; replace hE := hE.below hb3 hE.lt; replace lA := hA.two; replace lE := hE.two
    go_wp2
    go_ret2
    exact ⟨none, 0, 0, by rw [HQ.out]; rfl, by rw [HQ.out]; exact Own.nil _ _, hB⟩
  | true =>
  have H2 := Lib.hid q2
  have HK : Hid ((if isSol f g then (if isMx n' m M then 0 else 2) else 1) = (0 : Int)) := Lib.hid (by rw [HS.out, q2]; rfl)
  obtain ⟨hmm, hM⟩ := isMx_sq q2
  clear q2
  obtain rfl : nm = n' := by rw [h5.len]; exact hM.1
  have HMM := Lib.hid hmm; have HM := Lib.hid hM
  clear hmm hM
  go_wp2_with fail
  refine (l18Code_any _ _ _ _ _ _ f g _ _ _ _ M _ (h1.f.below hB) (h1.s.below hB) hm1 hm2 (h5.below hB) hnm _ HK.out).mono ?_
  rintro e w3 ⟨rfl, hb3⟩
  replace hB := below_th hB hb3; replace hA := hA.below hb3 hA.lt; replace hE := hE.below hb3 hE.lt; replace lA := hA.two; replace lE := hE.two
  clear hb3
  go_wp2_with fail
  refine (l18Fault_any _ _ _ _ _ f g m _ _ M _ (h1.f.below hB) (h1.s.below hB) HS.out HMM.out HM.out (h5.below hB)).mono ?_
  rintro e w4 ⟨af, kf, cf, rfl, hof, hb4⟩
  replace hB := below_th hB hb4; replace hA := hA.below hb4 hA.lt; replace hE := hE.below hb4 hE.lt; replace lA := hA.two; replace lE := hE.two
  clear hb4
  have hkl := hof.len
  by_cases hk0 : kf = 0
  rotate_left
  · have HQ : Hid (cwF f g m M S xs = ([], 5)) := Lib.hid (cwF_3 HS.out HBR.out (by rw [← HFL.out]; exact H2.out) (by rw [← HFL.out]; intro h; rw [h] at hkl; exact hk0 hkl))
    have hkp : 0 < kf := by omega
    have hkq := hof.cap
    clear hkl hof hk0
    go_wp2
    go_ret2
    exact ⟨none, 0, 0, by rw [HQ.out]; rfl, by rw [HQ.out]; exact Own.nil _ _, hB⟩
  have hL : wtFlt nm f g M m = [] := List.eq_nil_of_length_eq_zero (by omega)
  subst hk0
  clear hkl hof
  have HL := Lib.hid hL
  clear hL
  go_wp2_with fail
  refine (l16Tuples_any _ _ _ _ _ _ _ _ _ _ _ hn1 hn12 hs6).mono ?_
  rintro e w5 ⟨he, hb5⟩
  replace hB := below_th hB hb5; replace hA := hA.below hb5 hA.lt; replace hE := hE.below hb5 hE.lt; replace lA := hA.two; replace lE := hE.two
  clear hb5
  rcases he with ⟨h5k, rfl⟩ | ⟨h5k, rfl⟩
  rotate_left
  · have HQ : Hid (cwF f g m M S xs = ([], 3)) := Lib.hid (cwF_4 HS.out HBR.out (by rw [← HFL.out]; exact H2.out) (by rw [← HFL.out]; exact HL.out) (by rw [← HFL.out, Int.toNat_natCast]; omega))
    clear h5k
    go_wp2
    go_ret2
    exact ⟨none, 0, 0, by rw [HQ.out]; rfl, by rw [HQ.out]; exact Own.nil _ _, hB⟩
  have HQ : Hid (cwF f g m M S xs = (wtsK nm f g M m xs (colsL nm S f g xs) (colsL nm S f g xs).length, 0)) := Lib.hid (by rw [wtsK_all, cwF_5 HS.out HBR.out (by rw [← HFL.out]; exact H2.out) (by rw [← HFL.out]; exact HL.out) (by rw [← HFL.out, Int.toNat_natCast]; exact h5k), ← HFL.out, Int.toNat_natCast])
  have hmem : ∀ i, i < (colsL nm S f g xs).length → ∃ N, (colsL nm S f g xs).getD i [] = digL nm S N := fun i hi => by
    rw [Tbl.getD hi]
    obtain ⟨N, _, e⟩ := colsK_mem (List.getElem_mem hi)
    exact ⟨N, e⟩
  have hll : (colsL nm S f g xs).length ≤ 5000 := by have := colsK_len (n := nm) (s := S) (f := f) (g := g) (xs := xs) (k := nm ^ S); unfold colsL; omega
  have HCL : Hid (colsK nm S f g xs (nm ^ S) = colsL nm S f g xs) := Lib.hid rfl
  generalize nm ^ S = K at *
  go_wp2_with fail
  refine (l17Colourings_any _ _ _ _ _ f g S _ _ _ xs K _ (h1.f.below hB) (h1.s.below hB) HS.out (hr.below hB) HBR.out h5k).mono ?_
  rintro e w6 ⟨az, L, cz, vz, rfl, hoz, hb6⟩
  rw [HCL.out] at hoz
  have hLl := hoz.len
  have HLn := Lib.hid hLl; have HMEM := Lib.hid hmem
  have hL5 : L ≤ 5000 := by omega
  have hwz := hB.size
  replace hB := below_th hB hb6; replace hA := hA.below hb6 hA.lt; replace hE := hE.below hb6 hE.lt; replace lA := hA.two; replace lE := hE.two
  have HTz := Lib.hid hoz.tbl
  have HWD : Hid (IsWd S xs) := Lib.hid (isBr_wd HBR.out)
  clear hLl hmem hll hoz hb6 h5k
  have hO0 := Own.empty0 w6 (lo := w6.heap.size) rfl (Nat.le_refl _)
  have hQ7 := below_al (Below.refl w6.heap.size w6) (.cells #[] 2)
  have HTz2 := HTz
  have hX7 := hA; have hE7 := hE
  have T1 := h1.f.below hB; have T2 := h1.s.below hB; have T5 := h5.below hB; have T6 := hr.below hB
  clear h1 h5 hr HTz hA hE
  go_wp2
  clear lA lE
  go_loopw [13, 14] (fun z i wr => ∃ (k : Nat) (ay : Option Addr) (cy : Nat), k ≤ L ∧ i = .int .i64 k ∧ z = .slice ay k cy ∧ Own wr w6.heap.size ay k cy (wtsK nm f g M m xs (colsL nm S f g xs) k) ∧ Below w6.heap.size w6 wr) (fun _ i _ => L - (intOf i).toNat)
  case atStart => exact ⟨0, _, 0, Nat.zero_le _, rfl, rfl, by rw [wtsK_zero]; exact hO0, hQ7⟩
  case round =>
    clear hO0 hQ7
    obtain ⟨k, ay, cy, hk, rfl, rfl, hoy, hq⟩ := hrel
    by_cases hlt : k < L
    · obtain ⟨bz, oz, ai, ni, ci, rfl, g0, hri0, hni⟩ := HTz2.out.at k hlt
      have hbz : bz < w6.heap.size := World.block_lt_of_cell? w6 _ g0
      have g1 := (hq.cell (p := ⟨bz, oz + k, none⟩) hbz).trans g0
      have hri := hri0.below hq
      obtain ⟨N, hN⟩ := HMEM.out k (by have := HLn.out; omega)
      have hni2 := hri.len
      rw [hN, digL_len] at hni2
      subst hni2
      have hXr := hX7.below hq hX7.lt
      have hEr := hE7.below hq hE7.lt
      have lX := hXr.two
      have lE := hEr.two
      have HLE : Hid (Less nm ((colsL nm ni f g xs).getD k [])) := Lib.hid (by rw [hN]; exact digL_less nm ni N hn1)
      have HY : Hid (wtsK nm f g M m xs (colsL nm ni f g xs) (k + 1) = wtsK nm f g M m xs (colsL nm ni f g xs) k ++ [wtF nm f g M m xs ((colsL nm ni f g xs).getD k [])]) := Lib.hid (wtsK_succ (by have := HLn.out; omega))
      clear hN
      have hwq := hq.size
      have i1 : (0 : Int) ≤ (k : Int) := by omega
      have i2 : (k : Int) < (L : Int) := by omega
      have hbzr : bz < wr.heap.size := by omega
      clear g0 hri0
      go_wp2_with fail
      go_region_held3 (fun w' => (w'.cell? ⟨w.heap.size, 0, none⟩ = some (.slice a nm c) ∧ w'.cell? ⟨w.heap.size, 1, none⟩ = some (.slice a' nm c')) ∧ (w'.cell? ⟨w.heap.size + 1, 0, none⟩ = some (.int .i64 ni) ∧ w'.cell? ⟨w.heap.size + 1, 1, none⟩ = some (.slice ab nb cb)) ∧ w'.cell? ⟨bz, oz + k, none⟩ = some (.slice ai ni ci))
        (first | exact ⟨⟨lX8.1, lX8.2.1⟩, ⟨lE8.1, lE8.2.1⟩, g8⟩ | exact ⟨⟨lX7.1, lX7.2.1⟩, ⟨lE7.1, lE7.2.1⟩, g7⟩ | exact ⟨⟨lX.1, lX.2.1⟩, ⟨lE.1, lE.2.1⟩, g1⟩ | go_keep)
        (first
          | (go_at_call 104; refine (l18Sum_any _ _ _ _ _ f g m _ _ M ni _ _ _ xs _ _ ((colsL nm ni f g xs).getD k []) _ (T1.below (below_drewN hq 1)) (T2.below (below_drewN hq 1)) hn1 hn12 HSF.out HSG.out HC.out HMM.out HM.out (T5.below (below_drewN hq 1)) (T6.below (below_drewN hq 1)) hcap.1 hcap.2 HWD.out hs2 hs6 (hri.drewN 1) HLE.out).mono ?_; rintro e w7 ⟨rfl, hb7⟩; have hr7 : Below wr.heap.size wr w7 := (Below.drew (Below.refl _ _)).trans hb7; have lX7 := (hXr.below hr7 hXr.lt).two; have lE7 := (hEr.below hr7 hEr.lt).two; have g7 := (hr7.cell (p := ⟨bz, oz + k, none⟩) hbzr).trans g1; have hoy7 := hoy.below hr7; have hs7 := hr7.size; have lX7a := ((hXr.below hr7 hXr.lt).alloc (.cells #[.int .i64 (wtF nm f g M m xs ((colsL nm ni f g xs).getD k []))] 2)).two)
          | (refine step_app1n rfl rfl hoy7 rfl rfl ?_ ?_ ?_; (omega); (omega); intro g' cc w8 hO hg8 hs8 hb8; have hr8 : Below w6.heap.size wr w8 := (hr7.mono hwq).trans hb8; have lX8 := (hXr.below hr8 hX7.lt).two; have lE8 := (hEr.below hr8 hE7.lt).two; have g8 := (hr8.cell (p := ⟨bz, oz + k, none⟩) hbz).trans g1))
      all_goals
        go_wp2
        go_roundw
        case rel => exact ⟨k + 1, _, _, by omega, by go_num, rfl, by rw [HY.out]; exact hO, hq.trans hr8⟩
        case measure => simp [intOf]; omega
    · obtain rfl : k = L := by omega
      go_wp2
      go_ret2
      refine ⟨ay, k, cy, by rw [HQ.out]; rfl, ?_, hB.trans (hq.mono hB.size)⟩
      rw [HQ.out]
      have := HLn.out
      rw [← this]
      exact hoy.mono hB.size
set_option maxHeartbeats 1000000 in
theorem l18Counts_any (m : Int) (a : Option Addr) (n c : Nat) (L : List Int) (w : World) (h : Row w a n L) (hm : 1 ≤ m ∧ m ≤ 12) (hn : n ≤ 1000000) (hL : ∀ x ∈ L, 0 ≤ x ∧ x < m) :
    Calls Tryz.prog 116 #[.int .i64 m, .slice a n c] w fun e w' => ∃ a' n' c', e = .returned (.slice a' n' c') ∧ Own w' w.heap.size a' n' c' (cntL m.toNat L) ∧ Below w.heap.size w w' := by
  obtain ⟨hm1, hm2⟩ := hm
  obtain ⟨K, rfl⟩ : ∃ K : Nat, m = K := ⟨m.toNat, by omega⟩
  have hl := Lib.hid h.len
  have HL := Lib.hid hL
  clear hL
  rw [Int.toNat_natCast]
  go_enter Tryz.func116, Tryz.ntmps116
  go_wp2_with (at_make; refine make1 rfl rfl rfl rfl (by omega) ?_; intro w1 ho hs hb)
  go_loopw [6] (fun i wr => ∃ k : Nat, k ≤ n ∧ i = .int .i64 k ∧ Own wr w.heap.size (some ⟨w.heap.size, 0, none⟩) K K (cntL K (L.take k)) ∧ Below w.heap.size w wr) (fun i _ => n - (intOf i).toNat)
  case atStart => exact ⟨0, Nat.zero_le _, rfl, by simpa [cntL] using ho, hb⟩
  case round =>
    clear ho hb
    obtain ⟨k, hk, rfl, ho, hb⟩ := hrel
    by_cases hlt : k < n
    · obtain ⟨b, off, rfl, g1⟩ := (h.below hb).at k hlt
      have hx : k < L.length := by have := hl.out; omega
      have hb2 := HL.out L[k] (List.getElem_mem hx)
      rw [getD_eq_at hx] at g1
      have HC := Lib.hid (cntL_take (m := K) hx)
      rw [getD_eq_at hx] at HC
      generalize L[k] = X at *
      obtain ⟨x, rfl⟩ : ∃ x : Nat, X = x := ⟨X.toNat, by omega⟩
      rw [Int.toNat_natCast] at HC
      have hbd := cntL_bd K (L.take k) x
      have hlk : (L.take k).length ≤ k := List.length_take_le _ _
      obtain ⟨_, hc, hf⟩ := ho.cells
      have hc1 := hc x (by omega)
      have hf1 := hf x
      clear hc hf
      have hset := Lib.hid (ho.set x ((cntL K (L.take k)).getD x 0 + 1))
      generalize (cntL K (L.take k)).getD x 0 = V at *
      go_wp2
      go_roundw
      case rel => exact ⟨k + 1, by omega, by go_num, by rw [HC.out]; exact hset.out, hb.setCell (by simp) _⟩
      case measure => simp [intOf]; omega
    · obtain rfl : k = n := by omega
      go_wp2
      go_ret
      refine ⟨_, _, _, rfl, ?_, hb⟩
      rw [List.take_of_length_le (by have := hl.out; omega)] at ho
      exact ho
set_option maxHeartbeats 2000000 in
theorem spec_St_l (a : Option Addr) (n c : Nat) (f : List (List Int)) (a' : Option Addr) (n' c' : Nat) (g : List (List Int)) (m : Int) (am : Option Addr) (nm cm : Nat) (M : List (List Int)) (s : Int) (ab : Option Addr) (nb cb : Nat) (xs : List Int) (w : World) (h1 : Sol w a n f a' n' g) (hm : n ≤ 9223372036854775807 ∧ n' ≤ 9223372036854775807) (hi : I64 m) (h5 : Tbl w am nm M) (hnm : nm ≤ 9223372036854775807) (hs : I64 s) (hr : Row w ab nb xs) (hnb : nb ≤ 9223372036854775807) (hx : I64s xs) (hcap : nb ≤ cb ∧ cb ≤ 9223372036854775807) :
    Calls Tryz.prog 40 #[sAgg a n c a' n' c', .int .i64 m, .slice am nm cm, bAgg s ab nb cb] w (RetR w (stF f g m M s xs).1 (stF f g m M s xs).2) := by
  have hA := (Loc.new w rfl #[.slice a n c, .slice a' n' c'] 26).alloc (.cells #[.int .i64 s, .slice ab nb cb] 42)
  have hE := Loc.new (w.alloc (.cells #[.slice a n c, .slice a' n' c'] 26)) rfl #[.int .i64 s, .slice ab nb cb] 42
  rw [size_alloc] at hE
  have hB := below_al (below_al (Below.refl w.heap.size w) (.cells #[.slice a n c, .slice a' n' c'] 26)) (.cells #[.int .i64 s, .slice ab nb cb] 42)
  go_enter Tryz.func40, Tryz.ntmps40
  go_wp2_with fail
  generalize (w.alloc (.cells #[.slice a n c, .slice a' n' c'] 26)).alloc (.cells #[.int .i64 s, .slice ab nb cb] 42) = w0 at *
  have lA := hA.two
  have lE := hE.two
  refine (l18Weights_any _ _ _ f _ _ _ g m _ _ _ M s _ _ _ xs _ ⟨h1.f.below hB, h1.s.below hB⟩ hm hi (h5.below hB) hnm hs (hr.below hB) hnb hx hcap).mono ?_
  rintro e w1 ⟨a1, n1, c1, rfl, ho, hb1⟩
  by_cases hz : (cwF f g m M s xs).2 = 0
  · obtain ⟨hmm, hbd⟩ := cwF_bd hz
    have hln := Cw_len f g m M s xs
    have hol := ho.len
    have HQ : Hid (stF f g m M s xs = (cntL m.toNat (cwF f g m M s xs).1, 0)) := Lib.hid (if_pos hz)
    have HMM := Lib.hid hmm; have HBD := Lib.hid hbd
    have hn1 : n1 ≤ 1000000 := by omega
    rw [hz]
    clear hz hmm hbd hln hol
    go_wp2_with fail
    refine (l18Counts_any m _ _ _ _ _ ho.row HMM.out hn1 HBD.out).mono ?_
    rintro e w2 ⟨a2, n2, c2, rfl, ho2, hb2⟩
    go_wp2
    go_ret2
    exact ⟨a2, n2, c2, by rw [HQ.out]; rfl, by rw [HQ.out]; exact ho2.mono (by have := hB.size; have := hb1.size; omega), below_th (below_th hB hb1) hb2⟩
  · have HQ : Hid (stF f g m M s xs = ([], (cwF f g m M s xs).2)) := Lib.hid (if_neg hz)
    have hb : ((cwF f g m M s xs).2 != 0) = true := by simpa using hz
    clear hz
    generalize (cwF f g m M s xs).2 = r at *
    go_wp2
    go_ret2
    exact ⟨none, 0, 0, by rw [HQ.out]; rfl, by rw [HQ.out]; exact Own.nil _ _, below_th hB hb1⟩
end Go.Proofs.YtkjpkdmnjbjjaaaGreat

namespace Go.Proofs.YtkjpkdmnjbjjaaaGreat
set_option maxRecDepth 100000
set_option linter.unusedVariables false
set_option linter.unusedSimpArgs false
open Go.RowKit
def hsF (f g : List (List Int)) (m : Int) (M : List (List Int)) (s : Int) (xs : List Int) (s' : Int) (ys : List Int) : Bool × Int :=
  if isSol f g then (if isBr s xs then (if isBr s' ys then (if (stF f g m M s xs).2 = 0 then (if (stF f g m M s' ys).2 = 0 then (decide ((stF f g m M s xs).1 = (stF f g m M s' ys).1), 0) else (false, (stF f g m M s' ys).2)) else (false, (stF f g m M s xs).2)) else (false, 1)) else (false, 1)) else (false, 1)
section
variable {f g M : List (List Int)} {m s s' : Int} {xs ys : List Int}
theorem hsF_0 (h : isSol f g = false) : hsF f g m M s xs s' ys = (false, 1) := by unfold hsF; rw [h]; rfl
theorem hsF_1 (h : isSol f g = true) (h1 : isBr s xs = false) : hsF f g m M s xs s' ys = (false, 1) := by unfold hsF; rw [h, h1]; rfl
theorem hsF_2 (h : isSol f g = true) (h1 : isBr s xs = true) (h2 : isBr s' ys = false) : hsF f g m M s xs s' ys = (false, 1) := by unfold hsF; rw [h, h1, h2]; rfl
theorem hsF_3 (h : isSol f g = true) (h1 : isBr s xs = true) (h2 : isBr s' ys = true) (h3 : ¬ (stF f g m M s xs).2 = 0) : hsF f g m M s xs s' ys = (false, (stF f g m M s xs).2) := by unfold hsF; rw [h, h1, h2]; simp [h3]
theorem hsF_4 (h : isSol f g = true) (h1 : isBr s xs = true) (h2 : isBr s' ys = true) (h3 : (stF f g m M s xs).2 = 0) (h4 : ¬ (stF f g m M s' ys).2 = 0) : hsF f g m M s xs s' ys = (false, (stF f g m M s' ys).2) := by unfold hsF; rw [h, h1, h2]; simp [h3, h4]
theorem hsF_5 (h : isSol f g = true) (h1 : isBr s xs = true) (h2 : isBr s' ys = true) (h3 : (stF f g m M s xs).2 = 0) (h4 : (stF f g m M s' ys).2 = 0) : hsF f g m M s xs s' ys = (decide ((stF f g m M s xs).1 = (stF f g m M s' ys).1), 0) := by unfold hsF; rw [h, h1, h2]; simp [h3, h4]
end
set_option maxHeartbeats 4000000 in
theorem impl_Hs_l (a : Option Addr) (n c : Nat) (f : List (List Int)) (a' : Option Addr) (n' c' : Nat) (g : List (List Int)) (m : Int) (am : Option Addr) (nm cm : Nat) (M : List (List Int)) (s : Int) (ab : Option Addr) (nb cb : Nat) (xs : List Int) (s' : Int) (ad : Option Addr) (nd cd : Nat) (ys : List Int) (w : World) (h1 : Sol w a n f a' n' g) (hm : n ≤ 9223372036854775807 ∧ n' ≤ 9223372036854775807) (hi : I64 m) (h5 : Tbl w am nm M) (hnm : nm ≤ 9223372036854775807) (hs : I64 s) (hr : Row w ab nb xs) (hnb : nb ≤ 9223372036854775807) (hx : I64s xs) (hcap : nb ≤ cb ∧ cb ≤ 9223372036854775807) (hs' : I64 s') (hr' : Row w ad nd ys) (hnd : nd ≤ 9223372036854775807) (hy : I64s ys) (hcap' : nd ≤ cd ∧ cd ≤ 9223372036854775807) :
    Calls Tryz.prog 46 #[sAgg a n c a' n' c', .int .i64 m, .slice am nm cm, bAgg s ab nb cb, bAgg s' ad nd cd] w (RetO w (hsF f g m M s xs s' ys).1 (hsF f g m M s xs s' ys).2) := by
  obtain ⟨hm1, hm2⟩ := hm
  have hA := ((Loc.new w rfl #[.slice a n c, .slice a' n' c'] 26).alloc (.cells #[.int .i64 s, .slice ab nb cb] 42)).alloc (.cells #[.int .i64 s', .slice ad nd cd] 42)
  have hE := (Loc.new (w.alloc (.cells #[.slice a n c, .slice a' n' c'] 26)) rfl #[.int .i64 s, .slice ab nb cb] 42).alloc (.cells #[.int .i64 s', .slice ad nd cd] 42)
  have hD := Loc.new ((w.alloc (.cells #[.slice a n c, .slice a' n' c'] 26)).alloc (.cells #[.int .i64 s, .slice ab nb cb] 42)) rfl #[.int .i64 s', .slice ad nd cd] 42
  rw [size_alloc] at hE
  rw [size_alloc, size_alloc] at hD
  have hB := below_al (below_al (below_al (Below.refl w.heap.size w) (.cells #[.slice a n c, .slice a' n' c'] 26)) (.cells #[.int .i64 s, .slice ab nb cb] 42)) (.cells #[.int .i64 s', .slice ad nd cd] 42)
  go_enter Tryz.func46, Tryz.ntmps46
  go_wp2_with fail
  generalize ((w.alloc (.cells #[.slice a n c, .slice a' n' c'] 26)).alloc (.cells #[.int .i64 s, .slice ab nb cb] 42)).alloc (.cells #[.int .i64 s', .slice ad nd cd] 42) = w0 at *
  have lA := hA.two
  have lE := hE.two
  have lD := hD.two
  refine (isSolution_any _ _ _ _ _ _ _ _ _ (h1.f.below hB) (h1.s.below hB) hm1 hm2).mono ?_
  rintro e w1 ⟨rfl, hb1⟩
  replace hB := below_th hB hb1; replace hA := hA.below hb1 hA.lt; replace hE := hE.below hb1 hE.lt; replace hD := hD.below hb1 hD.lt; replace lA := hA.two; replace lE := hE.two; replace lD := hD.two
  cases q0 : isSol f g with
  | false =>
    have HQ : Hid (hsF f g m M s xs s' ys = (false, 1)) := Lib.hid (hsF_0 q0)
    clear q0
    go_wp2
    go_ret2
    exact ⟨by rw [HQ.out]; rfl, hB⟩
  | true =>
  have HS := Lib.hid q0
  clear q0
  go_wp2_with fail
  refine (isBraid_any _ _ _ _ xs _ (hr.below hB) hnb).mono ?_
  rintro e w2 ⟨rfl, hb2⟩
  replace hB := below_th hB hb2; replace hA := hA.below hb2 hA.lt; replace hE := hE.below hb2 hE.lt; replace hD := hD.below hb2 hD.lt; replace lA := hA.two; replace lE := hE.two; replace lD := hD.two
  cases q1 : isBr s xs with
  | false =>
    have HQ : Hid (hsF f g m M s xs s' ys = (false, 1)) := Lib.hid (hsF_1 HS.out q1)
    clear q1
    go_wp2
    go_ret2
    exact ⟨by rw [HQ.out]; rfl, hB⟩
  | true =>
  have H1 := Lib.hid q1
  clear q1
  go_wp2_with fail
  refine (isBraid_any _ _ _ _ ys _ (hr'.below hB) hnd).mono ?_
  rintro e w3 ⟨rfl, hb3⟩
  replace hB := below_th hB hb3; replace hA := hA.below hb3 hA.lt; replace hE := hE.below hb3 hE.lt; replace hD := hD.below hb3 hD.lt; replace lA := hA.two; replace lE := hE.two; replace lD := hD.two
  cases q2 : isBr s' ys with
  | false =>
    have HQ : Hid (hsF f g m M s xs s' ys = (false, 1)) := Lib.hid (hsF_2 HS.out H1.out q2)
    clear q2
    go_wp2
    go_ret2
    exact ⟨by rw [HQ.out]; rfl, hB⟩
  | true =>
  have H2 := Lib.hid q2
  clear q2
  go_wp2_with fail
  refine (impl_St_l _ _ _ f _ _ _ g m _ _ _ M s _ _ _ xs _ ⟨h1.f.below hB, h1.s.below hB⟩ ⟨hm1, hm2⟩ hi (h5.below hB) hnm hs (hr.below hB) hnb hx hcap).mono ?_
  rintro e w4 ⟨a1, n1, c1, rfl, ho, hb4⟩
  replace hB := below_th hB hb4; replace hA := hA.below hb4 hA.lt; replace hE := hE.below hb4 hE.lt; replace hD := hD.below hb4 hD.lt; replace lA := hA.two; replace lE := hE.two; replace lD := hD.two
  have hln := St_len f g m M s xs
  have hol := ho.len
  have hn1 : n1 ≤ 1000000 := by omega
  clear hln hol
  by_cases q3 : (stF f g m M s xs).2 = 0
  rotate_left
  · have HQ : Hid (hsF f g m M s xs s' ys = (false, (stF f g m M s xs).2)) := Lib.hid (hsF_3 HS.out H1.out H2.out q3)
    have hb : ((stF f g m M s xs).2 != 0) = true := by simpa using q3
    clear q3
    generalize (stF f g m M s xs).2 = r at *
    go_wp2
    go_ret2
    exact ⟨by rw [HQ.out]; rfl, hB⟩
  have H3 := Lib.hid q3
  rw [q3]
  clear q3
  go_wp2_with fail
  refine (impl_St_l _ _ _ f _ _ _ g m _ _ _ M s' _ _ _ ys _ ⟨h1.f.below hB, h1.s.below hB⟩ ⟨hm1, hm2⟩ hi (h5.below hB) hnm hs' (hr'.below hB) hnd hy hcap').mono ?_
  rintro e w5 ⟨a2, n2, c2, rfl, ho2, hb5⟩
  replace hB := below_th hB hb5; replace hA := hA.below hb5 hA.lt; replace hE := hE.below hb5 hE.lt; replace hD := hD.below hb5 hD.lt; replace lA := hA.two; replace lE := hE.two; replace lD := hD.two
  by_cases q4 : (stF f g m M s' ys).2 = 0
  rotate_left
  · have HQ : Hid (hsF f g m M s xs s' ys = (false, (stF f g m M s' ys).2)) := Lib.hid (hsF_4 HS.out H1.out H2.out H3.out q4)
    have hb : ((stF f g m M s' ys).2 != 0) = true := by simpa using q4
    clear q4
    generalize (stF f g m M s' ys).2 = r at *
    go_wp2
    go_ret2
    exact ⟨by rw [HQ.out]; rfl, hB⟩
  have H4 := Lib.hid q4
  rw [q4]
  clear q4
  have HQ : Hid (hsF f g m M s xs s' ys = (decide ((stF f g m M s xs).1 = (stF f g m M s' ys).1), 0)) := Lib.hid (hsF_5 HS.out H1.out H2.out H3.out H4.out)
  have ho5 := ho.below hb5
  go_wp2_with fail
  refine (sEqual_b _ _ _ _ _ _ _ _ _ ho5.row ho2.row (by omega) _ rfl).mono ?_
  rintro e w6 ⟨rfl, hb6⟩
  go_wp2
  go_ret2
  exact ⟨by rw [HQ.out]; rfl, below_th hB hb6⟩
end Go.Proofs.YtkjpkdmnjbjjaaaGreat

namespace Go.Proofs.YtkjpkdmnjbjjaaaGreat
set_option maxRecDepth 100000
set_option linter.unusedVariables false
set_option linter.unusedSimpArgs false
open Go.RowKit
set_option maxHeartbeats 400000 in
theorem grow_nil (n : Nat) (w : World) (hm : n ≤ 1000000000000) :
    Calls Tryz.prog 182 #[.slice none 0 0, .int .i64 n] w fun e w' => ∃ a c, e = .returned (.slice a 0 c) ∧ Own w' w.heap.size a 0 c [] ∧ Below w.heap.size w w' := by
  obtain ⟨i0, hi, hz0, hz1, hz2⟩ := info_parts info_int
  by_cases h0 : n = 0
  · subst h0
    go_enter Tryz.func182, Tryz.ntmps182
    go_wp2
    go_ret
    exact ⟨none, 0, rfl, Own.nil _ _, Below.refl _ _⟩
  · have hn0 : 0 < n := by omega
    have hrun : ∀ ty, (Builtin.append_ #[35, 3] ty #[.slice none 0 0, .int .i64 n]).run Tryz.prog w = _ := fun ty => Lib.run_append_nil_zeros (P := Tryz.prog) w 35 3 ty 2 i0 (.int .i64 0) .i64 .i64 und_ints Tryz.underlying3 hi hz0 n hn0 (by omega) (by omega) (by rw [hz2]; omega)
    have HR := Lib.hid hrun; clear hrun
    go_enter Tryz.func182, Tryz.ntmps182
    go_wp2_with (at_builtin; refine Lib.wpList_append_run _ rfl _ _ _ _ rfl _ _ rfl rfl _ _ (HR.out _) ?_)
    go_ret
    have hge := grownCap_ge w n 0 2
    have hle := grownCap_le_maxLen w n 0 2 (by unfold maxLen; omega)
    refine ⟨_, _, rfl, Own.mk (cur := Builtin.zeroCells (Value.int .i64 0).cells n ++ Builtin.zeroCells (Value.int .i64 0).cells (grownCap w n 0 2 - n)) rfl (Nat.le_refl _) (Loc.new w.drew rfl _ _) (Nat.zero_le _) hle ?_ (by simp), ((Below.refl _ _).drew).alloc (by simp) _⟩
    rw [Array.size_append, size_zeroCells, size_zeroCells]
    show n * 1 + (grownCap w n 0 2 - n) * 1 = _
    omega
def flatN (xss : List (List Int)) (k : Nat) : List Int := (xss.take k).flatten
theorem flatN_succ {xss : List (List Int)} {k : Nat} (h : k < xss.length) : flatN xss (k + 1) = flatN xss k ++ xss[k] := by
  simp only [flatN, List.take_succ_eq_append_getElem h, List.flatten_append, List.flatten_cons, List.flatten_nil, List.append_nil]
theorem flatN_all (xss : List (List Int)) (k : Nat) (h : xss.length ≤ k) : flatN xss k = xss.flatten := by simp [flatN, List.take_of_length_le h]
theorem flatN_le {xss : List (List Int)} {k : Nat} : (flatN xss k).length ≤ xss.flatten.length := by
  have : xss.flatten = flatN xss k ++ (xss.drop k).flatten := by simp [flatN, ← List.flatten_append]
  rw [this, List.length_append]; omega
set_option maxHeartbeats 1000000 in
theorem concat_any (a : Option Addr) (n c : Nat) (xss : List (List Int)) (w : World) (h1 : Tbl w a n xss) (hm : n ≤ 9223372036854775807) (hfl : xss.flatten.length ≤ 1000000000) :
    Calls Tryz.prog 122 #[.slice a n c] w fun e w' => ∃ a' n' c', e = .returned (.slice a' n' c') ∧ Own w' w.heap.size a' n' c' xss.flatten ∧ Below w.heap.size w w' := by
  have hl := h1.len
  have HL := Lib.hid hl; clear hl
  go_enter Tryz.func122, Tryz.ntmps122
  go_wp2
  go_loop [3, 11] (fun z i => ∃ k : Nat, k ≤ n ∧ i = .int .i64 k ∧ z = .int .i64 ((flatN xss k).length : Nat)) (fun _ i => n - (intOf i).toNat)
  case atStart => exact ⟨0, Nat.zero_le _, rfl, by simp [flatN]⟩
  case round =>
    obtain ⟨k, hk, rfl, rfl⟩ := hrel
    by_cases hlt : k < n
    · obtain ⟨b, off, ai, ni, ci, rfl, g1, hr, hni⟩ := h1.at k hlt
      have hx : k < xss.length := by have := HL.out; omega
      have hs := congrArg List.length (flatN_succ hx)
      rw [List.length_append, ← Tbl.getD hx, ← hr.len] at hs
      have hle := flatN_le (xss := xss) (k := k + 1)
      have hle2 := flatN_le (xss := xss) (k := k)
      obtain ⟨z, hz⟩ : ∃ z, z = (flatN xss k).length := ⟨_, rfl⟩
      obtain ⟨z', hz'⟩ : ∃ z, z = (flatN xss (k + 1)).length := ⟨_, rfl⟩
      rw [← hz] at hs hle2 ⊢
      rw [← hz'] at hs hle
      have HZ := Lib.hid hz'
      have HS := Lib.hid hs
      have hb1 : z + ni ≤ 1000000000 := by omega
      clear hz hz' hs
      clear h1
      go_wp2
      go_round
      case rel =>
        refine ⟨k + 1, by omega, by go_num, ?_⟩
        rw [← HZ.out, HS.out]; go_num
      case measure => simp [intOf]; omega
    · obtain rfl : k = n := by omega
      have e : flatN xss k = xss.flatten := flatN_all _ _ (by have := HL.out; omega)
      rw [e]; clear e
      obtain ⟨z, hz⟩ : ∃ z, z = xss.flatten.length := ⟨_, rfl⟩
      rw [← hz] at hfl ⊢
      have HZ := Lib.hid hz; clear hz
      go_wp2_with fail
      refine (grow_nil z _ (by omega)).mono ?_
      rintro e w1 ⟨ag, cg, rfl, ho, hb1⟩
      have hw1 := hb1.size
      go_wp2_with fail
      go_loopw [6, 27] (fun v i wr => ∃ (k' : Nat) (a' : Option Addr) (n' c' : Nat), k' ≤ k ∧ i = .int .i64 k' ∧ v = .slice a' n' c' ∧ Own wr w.heap.size a' n' c' (flatN xss k') ∧ Below w.heap.size w wr) (fun _ i _ => k - (intOf i).toNat)
      case atStart => exact ⟨0, ag, 0, cg, Nat.zero_le _, rfl, rfl, by simpa [flatN] using ho, hb1⟩
      case round =>
        clear ho hb1
        obtain ⟨j, a', n', c', hj, rfl, rfl, ho, hb⟩ := hrel
        have hr := h1.below hb
        by_cases hlt : j < k
        · obtain ⟨b, off, ai, ni, ci, rfl, g1, hri, hni⟩ := hr.at j hlt
          have hx : j < xss.length := by have := HL.out; omega
          have hs := flatN_succ hx
          rw [← Tbl.getD hx] at hs
          have hle := flatN_le (xss := xss) (k := j + 1)
          rw [hs, List.length_append, ← hri.len, ← ho.len] at hle
          have hle2 : n' + ni ≤ 1000000000000 := by have := HZ.out; omega
          have HS := Lib.hid hs
          have hwr := hb.size
          clear hs hle
          go_wp2_with (at_builtin; refine appL rfl rfl ho rfl hri rfl hle2 hwr ?_; intro a2 c2 w2 hO hg hb2)
          go_roundw
          case rel =>
            refine ⟨j + 1, _, _, _, by omega, by go_num, rfl, ?_, hb.trans hb2⟩
            rw [HS.out]; exact hO
          case measure => simp [intOf]; omega
        · obtain rfl : j = k := by omega
          go_wp2
          go_ret
          rw [flatN_all _ _ (by have := HL.out; omega)] at ho
          exact ⟨_, _, _, rfl, ho, hb⟩
end Go.Proofs.YtkjpkdmnjbjjaaaGreat
