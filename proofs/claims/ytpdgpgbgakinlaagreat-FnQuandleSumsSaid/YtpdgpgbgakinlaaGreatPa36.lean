/-
  Walks and plain laws of this seat, some texts in one.
  No condition but bounds on lengths.
-/
import Derived.Test.YtpdgpgbgakinlaaGreatPa22
import Derived.Test.YtpdgpgbgakinlaaGreatPa31
import Derived.Test.YtpdgpgbgakinlaaGreatPa18
import Derived.Test.YtpdgpgbgakinlaaGreatPa35
import Derived.Test.YtpdgpgbgakinlaaGreatPa32
import Derived.Deep.RegionHeld3
namespace Go.Proofs.YtpdgpgbgakinlaaGreat
set_option maxRecDepth 100000
set_option linter.unusedVariables false
set_option linter.unusedSimpArgs false
open Go.RowKit
def CntS (n s : Nat) (e : Ending) : Prop := (n ^ s ≤ 5000 ∧ e = .returned (.int .i64 ((n ^ s : Nat) : Int))) ∨ (5000 < n ^ s ∧ e = .returned (.int .i64 (-1)))
set_option maxHeartbeats 1000000 in
theorem l16Tuples_any (a : Option Addr) (n c : Nat) (a' : Option Addr) (n' c' : Nat) (s : Nat) (ab : Option Addr) (nb cb : Nat) (w : World) (hn1 : 1 ≤ n) (hn : n ≤ 12) (hs : s ≤ 6) :
    Calls Tryz.prog 153 #[sAgg a n c a' n' c', bAgg s ab nb cb] w fun e w' => CntS n s e ∧ Below w.heap.size w w' := by
  have hB := below_al (below_al (Below.refl w.heap.size w) (.cells #[.slice a n c, .slice a' n' c'] 26)) (.cells #[.int .i64 s, .slice ab nb cb] 29)
  go_enter Tryz.func153, Tryz.ntmps153
  go_wp2
  go_loop [5, 6] (fun q i => ∃ k : Nat, k ≤ s ∧ i = .int .i64 k ∧ q = .int .i64 ((n ^ k : Nat) : Int) ∧ n ^ k ≤ 5000) (fun _ i => s - (intOf i).toNat)
  case atStart => exact ⟨0, Nat.zero_le _, rfl, by simp, by simp⟩
  case round =>
    obtain ⟨k, hk, rfl, rfl, hb⟩ := hrel
    by_cases hlt : k < s
    · have e1 : ((n ^ k : Nat) : Int) * (n : Int) = ((n ^ (k + 1) : Nat) : Int) := by rw [Nat.pow_succ]; simp
      have hb2 : n ^ (k + 1) ≤ 60000 := by rw [Nat.pow_succ]; exact Nat.le_trans (Nat.mul_le_mul hb hn) (by omega)
      have hms : n ^ (k + 1) ≤ n ^ s := Nat.pow_le_pow_right hn1 hlt
      generalize n ^ k = C at *
      generalize hC : n ^ (k + 1) = D at *
      have HC := Lib.hid hC; clear hC
      by_cases h5 : D ≤ 5000
      · go_wp2
        go_round
        case rel => exact ⟨k + 1, by omega, by go_num, by rw [HC.out], by rw [HC.out]; exact h5⟩
        case measure => simp [intOf]; omega
      · go_wp2
        go_ret
        exact ⟨.inr ⟨by omega, rfl⟩, hB⟩
    · obtain rfl : k = s := by omega
      generalize hC : n ^ k = C at *
      have HC := Lib.hid hC; clear hC
      go_wp2
      go_ret
      exact ⟨.inl ⟨by rw [HC.out]; exact hb, by rw [HC.out]; rfl⟩, hB⟩
set_option maxHeartbeats 4000000 in
theorem l17Colourings_any (a : Option Addr) (n c : Nat) (a' : Option Addr) (c' : Nat) (f g : List (List Int)) (s : Nat) (ab : Option Addr) (nb cb : Nat) (xs : List Int) (K : Nat) (w : World) (h1 : Tbl w a n f) (h2 : Tbl w a' n g) (q1 : isSol f g = true) (hr : Row w ab nb xs) (q2 : isBr s xs = true) (hK : K ≤ 5000) :
    Calls Tryz.prog 154 #[sAgg a n c a' n c', bAgg s ab nb cb, .int .i64 K] w fun e w' => ∃ az L cz vz, e = .returned (.slice az L cz) ∧ OwnT w' w.heap.size az L cz vz (colsK n s f g xs K) ∧ Below w.heap.size w w' := by
  obtain ⟨hn1, hn12, sf, sg⟩ := isSol_sq q1
  have hcc := isSol_coll q1
  have hfl := h1.len
  rw [← hfl] at hn1 hn12 sf sg hcc
  have hs26 := (isBr_let q2).1
  have hs6 : s ≤ 6 := by omega
  have H2 := Lib.hid q2; have HSF := Lib.hid sf; have HSG := Lib.hid sg; have HC := Lib.hid hcc
  clear q1 q2 sf sg hcc hfl hs26
  have hA := (Loc.new w rfl #[.slice a n c, .slice a' n c'] 26).alloc (.cells #[.int .i64 s, .slice ab nb cb] 29)
  have hE := Loc.new (w.alloc (.cells #[.slice a n c, .slice a' n c'] 26)) rfl #[.int .i64 s, .slice ab nb cb] 29
  rw [size_alloc] at hE
  have hB := below_al (below_al (Below.refl w.heap.size w) (.cells #[.slice a n c, .slice a' n c'] 26)) (.cells #[.int .i64 s, .slice ab nb cb] 29)
  have T1 := h1.below hB; have T2 := h2.below hB; have T5 := hr.below hB
  clear h1 h2 hr
  go_enter Tryz.func154, Tryz.ntmps154
  go_upto_region 1 with fail
  generalize (w.alloc (.cells #[.slice a n c, .slice a' n c'] 26)).alloc (.cells #[.int .i64 s, .slice ab nb cb] 29) = w0 at *
  have lA := hA.two
  have lAa := (hA.alloc (.cells #[] 27)).two
  go_cut [7, 8] (fun z i wx => ∃ (az : Option Addr) (vz : List SV), i = .int .i64 n ∧ z = .slice az 0 0 ∧ OwnT wx w0.heap.size az 0 0 vz [] ∧ Below w0.heap.size w0 wx)
  case first =>
    go_region
    all_goals (go_wp2_with fail; go_meet; exact ⟨_, [], rfl, rfl, (OwnT.fresh w0 rfl).drewN 1, below_drewN (below_al (Below.refl _ _) _) 1⟩)
  case rest =>
    obtain ⟨a0, v0, rfl, rfl, hoz0, hq0⟩ := hcut
    clear lA lAa
    go_wp2
    go_loopw [7, 9] (fun z i wr => ∃ (k L : Nat) (az : Option Addr) (cz : Nat) (vz : List SV), k ≤ K ∧ i = .int .i64 k ∧ z = .slice az L cz ∧ OwnT wr w0.heap.size az L cz vz (colsK n s f g xs k) ∧ Below w0.heap.size w0 wr) (fun _ i _ => K - (intOf i).toNat)
    case atStart => exact ⟨0, 0, _, 0, _, Nat.zero_le _, rfl, rfl, hoz0, hq0⟩
    case round =>
      clear hoz0 hq0
      obtain ⟨N, L, az, cz, vz, hk, rfl, rfl, hoz, hq⟩ := hrel
      by_cases hlt : N < K
      · have lE := (hE.below hq hE.lt).two
        have hL : L ≤ N := by have := hoz.len; have := colsK_len (n := n) (s := s) (f := f) (g := g) (xs := xs) (k := N); omega
        go_wp2_with fail
        refine (l06Digits_any n s N _ hn1 (by omega) (by omega) (by omega)).mono ?_
        rintro e w3 ⟨at3, c3, rfl, ho, hb3⟩
        have hq3 := below_th hq hb3
        have lA3 := (hA.below hq3 hA.lt).two
        have lE3 := (hE.below hq3 hE.lt).two
        clear lE
        go_wp2_with fail
        refine (l16Act_any _ _ _ _ _ f g s _ _ _ xs _ _ (digL n s N) _ (T1.below hq3) (T2.below hq3) hn1 hn12 HSF.out HSG.out HC.out (T5.below hq3) H2.out ho.row (digL_less n s N hn1)).mono ?_
        rintro e w4 ⟨a4, c4, rfl, ho4, hb4⟩
        have hq4 := below_th hq3 hb4
        cases hv : colAt n s f g xs N with
        | true =>
          have HY : Hid (colsK n s f g xs (N + 1) = colsK n s f g xs N ++ [digL n s N]) := Lib.hid (colsK_yes hv)
          have HV : Hid (decide (actL n f g xs (digL n s N) = digL n s N) = true) := Lib.hid hv
          clear hv lA3 lE3
          go_wp2_with fail
          refine (l01Same_b _ _ _ _ _ _ (actL n f g xs (digL n s N)) (digL n s N) _ ho4.row (ho.row.below hb4) (by omega) true HV.out).mono ?_
          rintro e w5 ⟨rfl, hb5⟩
          have hq5 := below_th hq4 hb5
          have hz5 := hoz.below (below_th (below_th hb3 hb4) hb5)
          have ho5 := (ho.below hb4).below hb5
          have hwq := hq.size
          go_wp2_with (at_builtin; refine appT1 rfl rfl hz5 rfl (ho5.mono hwq) (fun g h1 h2 => by have h3 := hoz.high _ h1; have h4 := ho5.lo _ h2; omega) (fun i hi g h1 h2 => by have h3 := ho5.lo _ h1; have h4 := (hoz.row i hi).hi _ h2; omega) rfl (by omega) (by have := hq5.size; omega) ?_; intro g' cc w6 hO hb6)
          go_roundw
          case rel => exact ⟨N + 1, L + 1, _, _, _, by omega, by go_num, rfl, by rw [HY.out]; exact hO, hq5.trans hb6⟩
          case measure => simp [intOf]; omega
        | false =>
          have HY : Hid (colsK n s f g xs (N + 1) = colsK n s f g xs N) := Lib.hid (colsK_no hv)
          have HV : Hid (decide (actL n f g xs (digL n s N) = digL n s N) = false) := Lib.hid hv
          clear hv lA3 lE3
          go_wp2_with fail
          refine (l01Same_b _ _ _ _ _ _ (actL n f g xs (digL n s N)) (digL n s N) _ ho4.row (ho.row.below hb4) (by omega) false HV.out).mono ?_
          rintro e w5 ⟨rfl, hb5⟩
          have hq5 := below_th hq4 hb5
          have hz5 := hoz.below (below_th (below_th hb3 hb4) hb5)
          go_wp2
          go_roundw
          case rel => exact ⟨N + 1, L, _, _, _, by omega, by go_num, rfl, by rw [HY.out]; exact hz5, hq5⟩
          case measure => simp [intOf]; omega
      · obtain rfl : N = K := by omega
        go_wp2
        go_ret
        exact ⟨_, _, _, vz, rfl, hoz.mono hB.size, hB.trans (hq.mono hB.size)⟩
end Go.Proofs.YtpdgpgbgakinlaaGreat

namespace Go.Proofs.YtpdgpgbgakinlaaGreat
set_option maxRecDepth 100000
set_option linter.unusedVariables false
set_option linter.unusedSimpArgs false
open Go.RowKit
set_option maxHeartbeats 16000000 in
theorem l18Weights_any (a : Option Addr) (n c : Nat) (f : List (List Int)) (a' : Option Addr) (n' c' : Nat) (g : List (List Int)) (m : Int) (am : Option Addr) (nm cm : Nat) (M : List (List Int)) (s : Int) (ab : Option Addr) (nb cb : Nat) (xs : List Int) (w : World) (h1 : Sol w a n f a' n' g) (hm : n ≤ 9223372036854775807 ∧ n' ≤ 9223372036854775807) (hi : I64 m) (h5 : Tbl w am nm M) (hnm : nm ≤ 9223372036854775807) (hs : I64 s) (hr : Row w ab nb xs) (hnb : nb ≤ 9223372036854775807) (hx : I64s xs) (hcap : nb ≤ cb ∧ cb ≤ 9223372036854775807) :
    Calls Tryz.prog 113 #[sAgg a n c a' n' c', .int .i64 m, .slice am nm cm, bAgg s ab nb cb] w (RetR w (cwF f g m M s xs).1 (cwF f g m M s xs).2) := by
  obtain ⟨hm1, hm2⟩ := hm
  have HFL := Lib.hid h1.f.len
  have hA := (Loc.new w rfl #[.slice a n c, .slice a' n' c'] 26).alloc (.cells #[.int .i64 s, .slice ab nb cb] 29)
  have hE := Loc.new (w.alloc (.cells #[.slice a n c, .slice a' n' c'] 26)) rfl #[.int .i64 s, .slice ab nb cb] 29
  rw [size_alloc] at hE
  have hB := below_al (below_al (Below.refl w.heap.size w) (.cells #[.slice a n c, .slice a' n' c'] 26)) (.cells #[.int .i64 s, .slice ab nb cb] 29)
  go_enter Tryz.func113, Tryz.ntmps113
  go_wp2_with fail
  generalize (w.alloc (.cells #[.slice a n c, .slice a' n' c'] 26)).alloc (.cells #[.int .i64 s, .slice ab nb cb] 29) = w0 at *
  have lA := hA.two
  have lE := hE.two
  refine (l02Is_any _ _ _ _ _ _ _ _ _ (h1.f.below hB) (h1.s.below hB) hm1 hm2).mono ?_
  rintro e w1 ⟨rfl, hb1⟩
  replace hB := below_th hB hb1; replace hA := hA.below hb1 hA.lt; replace hE := hE.below hb1 hE.lt; replace lA := hA.two; replace lE := hE.two
  clear hb1
  cases q0 : isSol f g with
  | false =>
    have HQ : Hid (cwF f g m M s xs = ([], 1)) := Lib.hid (cwF_0 q0)
    clear q0
    go_wp2
    go_ret2
    exact ⟨none, 0, 0, by rw [HQ.out]; rfl, by rw [HQ.out]; exact Own.nil _ _, hB⟩
  | true =>
  have HS := Lib.hid q0
  clear q0
  go_wp2_with fail
  refine (l16Is_any _ _ _ _ xs _ (hr.below hB) hnb hs).mono ?_
  rintro e w2 ⟨rfl, hb2⟩
  replace hB := below_th hB hb2; replace hA := hA.below hb2 hA.lt; replace hE := hE.below hb2 hE.lt; replace lA := hA.two; replace lE := hE.two
  clear hb2
  cases q1 : isBr s xs with
  | false =>
    have HQ : Hid (cwF f g m M s xs = ([], 1)) := Lib.hid (cwF_1 HS.out q1)
    clear q1
    go_wp2
    go_ret2
    exact ⟨none, 0, 0, by rw [HQ.out]; rfl, by rw [HQ.out]; exact Own.nil _ _, hB⟩
  | true =>
  have HBR := Lib.hid q1
  have hs26 := (isBr_let q1).1
  clear q1
  obtain ⟨hn1, hn12, sf, sg⟩ := isSol_sq HS.out
  have hcc := isSol_coll HS.out
  obtain rfl : n' = n := by rw [h1.s.len, HFL.out]; have := sg.len; omega
  rw [← HFL.out] at hn1 hn12 sf sg hcc
  obtain ⟨S, rfl⟩ : ∃ S : Nat, s = S := ⟨s.toNat, by omega⟩
  have HSF := Lib.hid sf; have HSG := Lib.hid sg; have HC := Lib.hid hcc
  clear sf sg hcc
  have hs2 : 2 ≤ S := by omega
  have hs6 : S ≤ 6 := by omega
  have HLEN2 : Hid (n' = n') := Lib.hid rfl
  cases q2 : isMx n' m M with
  | false =>
    have HQ : Hid (cwF f g m M S xs = ([], 2)) := Lib.hid (cwF_2 HS.out HBR.out (by rw [← HFL.out]; exact q2))
    have HK : Hid ((if isSol f g then (if isMx n' m M then 0 else 2) else 1) = (2 : Int)) := Lib.hid (by rw [HS.out, q2]; rfl)
    clear q2
    go_wp2_with fail
    refine (l18Code_any _ _ _ _ _ _ f g _ _ _ _ M _ (h1.f.below hB) (h1.s.below hB) hm1 hm2 (h5.below hB) hnm _ HK.out).mono ?_
    rintro e w3 ⟨rfl, hb3⟩
    replace hB := below_th hB hb3; replace hA := hA.below hb3 hA.lt; replace hE := hE.below hb3 hE.lt; replace lA := hA.two; replace lE := hE.two
    go_wp2
    go_ret2
    exact ⟨none, 0, 0, by rw [HQ.out]; rfl, by rw [HQ.out]; exact Own.nil _ _, hB⟩
  | true =>
  have H2 := Lib.hid q2
  have HK : Hid ((if isSol f g then (if isMx n' m M then 0 else 2) else 1) = (0 : Int)) := Lib.hid (by rw [HS.out, q2]; rfl)
  obtain ⟨hmm, hM⟩ := isMx_sq q2
  clear q2
  obtain rfl : nm = n' := by rw [h5.len]; exact hM.1
  have HMM := Lib.hid hmm; have HM := Lib.hid hM
  clear hmm hM
  go_wp2_with fail
  refine (l18Code_any _ _ _ _ _ _ f g _ _ _ _ M _ (h1.f.below hB) (h1.s.below hB) hm1 hm2 (h5.below hB) hnm _ HK.out).mono ?_
  rintro e w3 ⟨rfl, hb3⟩
  replace hB := below_th hB hb3; replace hA := hA.below hb3 hA.lt; replace hE := hE.below hb3 hE.lt; replace lA := hA.two; replace lE := hE.two
  clear hb3
  go_wp2_with fail
  refine (l18Fault_any _ _ _ _ _ f g m _ _ M _ (h1.f.below hB) (h1.s.below hB) HS.out HMM.out HM.out (h5.below hB)).mono ?_
  rintro e w4 ⟨af, kf, cf, rfl, hof, hb4⟩
  replace hB := below_th hB hb4; replace hA := hA.below hb4 hA.lt; replace hE := hE.below hb4 hE.lt; replace lA := hA.two; replace lE := hE.two
  clear hb4
  have hkl := hof.len
  by_cases hk0 : kf = 0
  rotate_left
  · have HQ : Hid (cwF f g m M S xs = ([], 5)) := Lib.hid (cwF_3 HS.out HBR.out (by rw [← HFL.out]; exact H2.out) (by rw [← HFL.out]; intro h; rw [h] at hkl; exact hk0 hkl))
    have hkp : 0 < kf := by omega
    have hkq := hof.cap
    clear hkl hof hk0
    go_wp2
    go_ret2
    exact ⟨none, 0, 0, by rw [HQ.out]; rfl, by rw [HQ.out]; exact Own.nil _ _, hB⟩
  have hL : wtFlt nm f g M m = [] := List.eq_nil_of_length_eq_zero (by omega)
  subst hk0
  clear hkl hof
  have HL := Lib.hid hL
  clear hL
  go_wp2_with fail
  refine (l16Tuples_any _ _ _ _ _ _ _ _ _ _ _ hn1 hn12 hs6).mono ?_
  rintro e w5 ⟨he, hb5⟩
  replace hB := below_th hB hb5; replace hA := hA.below hb5 hA.lt; replace hE := hE.below hb5 hE.lt; replace lA := hA.two; replace lE := hE.two
  clear hb5
  rcases he with ⟨h5k, rfl⟩ | ⟨h5k, rfl⟩
  rotate_left
  · have HQ : Hid (cwF f g m M S xs = ([], 3)) := Lib.hid (cwF_4 HS.out HBR.out (by rw [← HFL.out]; exact H2.out) (by rw [← HFL.out]; exact HL.out) (by rw [← HFL.out, Int.toNat_natCast]; omega))
    clear h5k
    go_wp2
    go_ret2
    exact ⟨none, 0, 0, by rw [HQ.out]; rfl, by rw [HQ.out]; exact Own.nil _ _, hB⟩
  have HQ : Hid (cwF f g m M S xs = (wtsK nm f g M m xs (colsL nm S f g xs) (colsL nm S f g xs).length, 0)) := Lib.hid (by rw [wtsK_all, cwF_5 HS.out HBR.out (by rw [← HFL.out]; exact H2.out) (by rw [← HFL.out]; exact HL.out) (by rw [← HFL.out, Int.toNat_natCast]; exact h5k), ← HFL.out, Int.toNat_natCast])
  have hmem : ∀ i, i < (colsL nm S f g xs).length → ∃ N, (colsL nm S f g xs).getD i [] = digL nm S N := fun i hi => by
    rw [Tbl.getD hi]
    obtain ⟨N, _, e⟩ := colsK_mem (List.getElem_mem hi)
    exact ⟨N, e⟩
  have hll : (colsL nm S f g xs).length ≤ 5000 := by have := colsK_len (n := nm) (s := S) (f := f) (g := g) (xs := xs) (k := nm ^ S); unfold colsL; omega
  have HCL : Hid (colsK nm S f g xs (nm ^ S) = colsL nm S f g xs) := Lib.hid rfl
  generalize nm ^ S = K at *
  go_wp2_with fail
  refine (l17Colourings_any _ _ _ _ _ f g S _ _ _ xs K _ (h1.f.below hB) (h1.s.below hB) HS.out (hr.below hB) HBR.out h5k).mono ?_
  rintro e w6 ⟨az, L, cz, vz, rfl, hoz, hb6⟩
  rw [HCL.out] at hoz
  have hLl := hoz.len
  have HLn := Lib.hid hLl; have HMEM := Lib.hid hmem
  have hL5 : L ≤ 5000 := by omega
  have hwz := hB.size
  replace hB := below_th hB hb6; replace hA := hA.below hb6 hA.lt; replace hE := hE.below hb6 hE.lt; replace lA := hA.two; replace lE := hE.two
  have HTz := Lib.hid hoz.tbl
  have HWD : Hid (IsWd S xs) := Lib.hid (isBr_wd HBR.out)
  clear hLl hmem hll hoz hb6 h5k
  have hO0 := Own.empty0 w6 (lo := w6.heap.size) rfl (Nat.le_refl _)
  have hQ7 := below_al (Below.refl w6.heap.size w6) (.cells #[] 2)
  have HTz2 := HTz
  have hX7 := hA; have hE7 := hE
  have T1 := h1.f.below hB; have T2 := h1.s.below hB; have T5 := h5.below hB; have T6 := hr.below hB
  clear h1 h5 hr HTz hA hE
  go_wp2
  clear lA lE
  go_loopw [13, 14] (fun z i wr => ∃ (k : Nat) (ay : Option Addr) (cy : Nat), k ≤ L ∧ i = .int .i64 k ∧ z = .slice ay k cy ∧ Own wr w6.heap.size ay k cy (wtsK nm f g M m xs (colsL nm S f g xs) k) ∧ Below w6.heap.size w6 wr) (fun _ i _ => L - (intOf i).toNat)
  case atStart => exact ⟨0, _, 0, Nat.zero_le _, rfl, rfl, by rw [wtsK_zero]; exact hO0, hQ7⟩
  case round =>
    clear hO0 hQ7
    obtain ⟨k, ay, cy, hk, rfl, rfl, hoy, hq⟩ := hrel
    by_cases hlt : k < L
    · obtain ⟨bz, oz, ai, ni, ci, rfl, g0, hri0, hni⟩ := HTz2.out.at k hlt
      have hbz : bz < w6.heap.size := World.block_lt_of_cell? w6 _ g0
      have g1 := (hq.cell (p := ⟨bz, oz + k, none⟩) hbz).trans g0
      have hri := hri0.below hq
      obtain ⟨N, hN⟩ := HMEM.out k (by have := HLn.out; omega)
      have hni2 := hri.len
      rw [hN, digL_len] at hni2
      subst hni2
      have hXr := hX7.below hq hX7.lt
      have hEr := hE7.below hq hE7.lt
      have lX := hXr.two
      have lE := hEr.two
      have HLE : Hid (Less nm ((colsL nm ni f g xs).getD k [])) := Lib.hid (by rw [hN]; exact digL_less nm ni N hn1)
      have HY : Hid (wtsK nm f g M m xs (colsL nm ni f g xs) (k + 1) = wtsK nm f g M m xs (colsL nm ni f g xs) k ++ [wtF nm f g M m xs ((colsL nm ni f g xs).getD k [])]) := Lib.hid (wtsK_succ (by have := HLn.out; omega))
      clear hN
      have hwq := hq.size
      have i1 : (0 : Int) ≤ (k : Int) := by omega
      have i2 : (k : Int) < (L : Int) := by omega
      have hbzr : bz < wr.heap.size := by omega
      clear g0 hri0
      go_wp2_with fail
      go_region_held3 (fun w' => (w'.cell? ⟨w.heap.size, 0, none⟩ = some (.slice a nm c) ∧ w'.cell? ⟨w.heap.size, 1, none⟩ = some (.slice a' nm c')) ∧ (w'.cell? ⟨w.heap.size + 1, 0, none⟩ = some (.int .i64 ni) ∧ w'.cell? ⟨w.heap.size + 1, 1, none⟩ = some (.slice ab nb cb)) ∧ w'.cell? ⟨bz, oz + k, none⟩ = some (.slice ai ni ci))
        (first | exact ⟨⟨lX8.1, lX8.2.1⟩, ⟨lE8.1, lE8.2.1⟩, g8⟩ | exact ⟨⟨lX7.1, lX7.2.1⟩, ⟨lE7.1, lE7.2.1⟩, g7⟩ | exact ⟨⟨lX.1, lX.2.1⟩, ⟨lE.1, lE.2.1⟩, g1⟩ | go_keep)
        (first
          | (go_at_call 50; refine (l18Sum_any _ _ _ _ _ f g m _ _ M ni _ _ _ xs _ _ ((colsL nm ni f g xs).getD k []) _ (T1.below (below_drewN hq 1)) (T2.below (below_drewN hq 1)) hn1 hn12 HSF.out HSG.out HC.out HMM.out HM.out (T5.below (below_drewN hq 1)) (T6.below (below_drewN hq 1)) hcap.1 hcap.2 HWD.out hs2 hs6 (hri.drewN 1) HLE.out).mono ?_; rintro e w7 ⟨rfl, hb7⟩; have hr7 : Below wr.heap.size wr w7 := (Below.drew (Below.refl _ _)).trans hb7; have lX7 := (hXr.below hr7 hXr.lt).two; have lE7 := (hEr.below hr7 hEr.lt).two; have g7 := (hr7.cell (p := ⟨bz, oz + k, none⟩) hbzr).trans g1; have hoy7 := hoy.below hr7; have hs7 := hr7.size; have lX7a := ((hXr.below hr7 hXr.lt).alloc (.cells #[.int .i64 (wtF nm f g M m xs ((colsL nm ni f g xs).getD k []))] 2)).two)
          | (refine step_app1n rfl rfl hoy7 rfl rfl ?_ ?_ ?_; (omega); (omega); intro g' cc w8 hO hg8 hs8 hb8; have hr8 : Below w6.heap.size wr w8 := (hr7.mono hwq).trans hb8; have lX8 := (hXr.below hr8 hX7.lt).two; have lE8 := (hEr.below hr8 hE7.lt).two; have g8 := (hr8.cell (p := ⟨bz, oz + k, none⟩) hbz).trans g1))
      all_goals
        go_wp2
        go_roundw
        case rel => exact ⟨k + 1, _, _, by omega, by go_num, rfl, by rw [HY.out]; exact hO, hq.trans hr8⟩
        case measure => simp [intOf]; omega
    · obtain rfl : k = L := by omega
      go_wp2
      go_ret2
      refine ⟨ay, k, cy, by rw [HQ.out]; rfl, ?_, hB.trans (hq.mono hB.size)⟩
      rw [HQ.out]
      have := HLn.out
      rw [← this]
      exact hoy.mono hB.size
set_option maxHeartbeats 1000000 in
theorem l18Counts_any (m : Int) (a : Option Addr) (n c : Nat) (L : List Int) (w : World) (h : Row w a n L) (hm : 1 ≤ m ∧ m ≤ 12) (hn : n ≤ 1000000) (hL : ∀ x ∈ L, 0 ≤ x ∧ x < m) :
    Calls Tryz.prog 114 #[.int .i64 m, .slice a n c] w fun e w' => ∃ a' n' c', e = .returned (.slice a' n' c') ∧ Own w' w.heap.size a' n' c' (cntL m.toNat L) ∧ Below w.heap.size w w' := by
  obtain ⟨hm1, hm2⟩ := hm
  obtain ⟨K, rfl⟩ : ∃ K : Nat, m = K := ⟨m.toNat, by omega⟩
  have hl := Lib.hid h.len
  have HL := Lib.hid hL
  clear hL
  rw [Int.toNat_natCast]
  go_enter Tryz.func114, Tryz.ntmps114
  go_wp2_with (at_make; refine make1 rfl rfl rfl rfl (by omega) ?_; intro w1 ho hs hb)
  go_loopw [6] (fun i wr => ∃ k : Nat, k ≤ n ∧ i = .int .i64 k ∧ Own wr w.heap.size (some ⟨w.heap.size, 0, none⟩) K K (cntL K (L.take k)) ∧ Below w.heap.size w wr) (fun i _ => n - (intOf i).toNat)
  case atStart => exact ⟨0, Nat.zero_le _, rfl, by simpa [cntL] using ho, hb⟩
  case round =>
    clear ho hb
    obtain ⟨k, hk, rfl, ho, hb⟩ := hrel
    by_cases hlt : k < n
    · obtain ⟨b, off, rfl, g1⟩ := (h.below hb).at k hlt
      have hx : k < L.length := by have := hl.out; omega
      have hb2 := HL.out L[k] (List.getElem_mem hx)
      rw [getD_eq_at hx] at g1
      have HC := Lib.hid (cntL_take (m := K) hx)
      rw [getD_eq_at hx] at HC
      generalize L[k] = X at *
      obtain ⟨x, rfl⟩ : ∃ x : Nat, X = x := ⟨X.toNat, by omega⟩
      rw [Int.toNat_natCast] at HC
      have hbd := cntL_bd K (L.take k) x
      have hlk : (L.take k).length ≤ k := List.length_take_le _ _
      obtain ⟨_, hc, hf⟩ := ho.cells
      have hc1 := hc x (by omega)
      have hf1 := hf x
      clear hc hf
      have hset := Lib.hid (ho.set x ((cntL K (L.take k)).getD x 0 + 1))
      generalize (cntL K (L.take k)).getD x 0 = V at *
      go_wp2
      go_roundw
      case rel => exact ⟨k + 1, by omega, by go_num, by rw [HC.out]; exact hset.out, hb.setCell (by simp) _⟩
      case measure => simp [intOf]; omega
    · obtain rfl : k = n := by omega
      go_wp2
      go_ret
      refine ⟨_, _, _, rfl, ?_, hb⟩
      rw [List.take_of_length_le (by have := hl.out; omega)] at ho
      exact ho
set_option maxHeartbeats 2000000 in
theorem spec_St_l (a : Option Addr) (n c : Nat) (f : List (List Int)) (a' : Option Addr) (n' c' : Nat) (g : List (List Int)) (m : Int) (am : Option Addr) (nm cm : Nat) (M : List (List Int)) (s : Int) (ab : Option Addr) (nb cb : Nat) (xs : List Int) (w : World) (h1 : Sol w a n f a' n' g) (hm : n ≤ 9223372036854775807 ∧ n' ≤ 9223372036854775807) (hi : I64 m) (h5 : Tbl w am nm M) (hnm : nm ≤ 9223372036854775807) (hs : I64 s) (hr : Row w ab nb xs) (hnb : nb ≤ 9223372036854775807) (hx : I64s xs) (hcap : nb ≤ cb ∧ cb ≤ 9223372036854775807) :
    Calls Tryz.prog 64 #[sAgg a n c a' n' c', .int .i64 m, .slice am nm cm, bAgg s ab nb cb] w (RetR w (stF f g m M s xs).1 (stF f g m M s xs).2) := by
  have hA := (Loc.new w rfl #[.slice a n c, .slice a' n' c'] 26).alloc (.cells #[.int .i64 s, .slice ab nb cb] 29)
  have hE := Loc.new (w.alloc (.cells #[.slice a n c, .slice a' n' c'] 26)) rfl #[.int .i64 s, .slice ab nb cb] 29
  rw [size_alloc] at hE
  have hB := below_al (below_al (Below.refl w.heap.size w) (.cells #[.slice a n c, .slice a' n' c'] 26)) (.cells #[.int .i64 s, .slice ab nb cb] 29)
  go_enter Tryz.func64, Tryz.ntmps64
  go_wp2_with fail
  generalize (w.alloc (.cells #[.slice a n c, .slice a' n' c'] 26)).alloc (.cells #[.int .i64 s, .slice ab nb cb] 29) = w0 at *
  have lA := hA.two
  have lE := hE.two
  refine (l18Weights_any _ _ _ f _ _ _ g m _ _ _ M s _ _ _ xs _ ⟨h1.f.below hB, h1.s.below hB⟩ hm hi (h5.below hB) hnm hs (hr.below hB) hnb hx hcap).mono ?_
  rintro e w1 ⟨a1, n1, c1, rfl, ho, hb1⟩
  by_cases hz : (cwF f g m M s xs).2 = 0
  · obtain ⟨hmm, hbd⟩ := cwF_bd hz
    have hln := Cw_len f g m M s xs
    have hol := ho.len
    have HQ : Hid (stF f g m M s xs = (cntL m.toNat (cwF f g m M s xs).1, 0)) := Lib.hid (if_pos hz)
    have HMM := Lib.hid hmm; have HBD := Lib.hid hbd
    have hn1 : n1 ≤ 1000000 := by omega
    rw [hz]
    clear hz hmm hbd hln hol
    go_wp2_with fail
    refine (l18Counts_any m _ _ _ _ _ ho.row HMM.out hn1 HBD.out).mono ?_
    rintro e w2 ⟨a2, n2, c2, rfl, ho2, hb2⟩
    go_wp2
    go_ret2
    exact ⟨a2, n2, c2, by rw [HQ.out]; rfl, by rw [HQ.out]; exact ho2.mono (by have := hB.size; have := hb1.size; omega), below_th (below_th hB hb1) hb2⟩
  · have HQ : Hid (stF f g m M s xs = ([], (cwF f g m M s xs).2)) := Lib.hid (if_neg hz)
    have hb : ((cwF f g m M s xs).2 != 0) = true := by simpa using hz
    clear hz
    generalize (cwF f g m M s xs).2 = r at *
    go_wp2
    go_ret2
    exact ⟨none, 0, 0, by rw [HQ.out]; rfl, by rw [HQ.out]; exact Own.nil _ _, below_th hB hb1⟩
end Go.Proofs.YtpdgpgbgakinlaaGreat

namespace Go.Proofs.YtpdgpgbgakinlaaGreat
set_option maxRecDepth 100000
set_option linter.unusedVariables false
set_option linter.unusedSimpArgs false
open Go.RowKit
def qsF (t : List (List Int)) (m : Int) (M : List (List Int)) (s : Int) (xs : List Int) : List Int × Int :=
  if isRk t then (if isBr s xs then (if isMx t.length m M then (if qwOk t m M then stF t (cstL t.length) m M s xs else ([], 5)) else ([], 2)) else ([], 1)) else ([], 1)
section
variable {t M : List (List Int)} {m s : Int} {xs : List Int}
theorem qsF_0 (h : isRk t = false) : qsF t m M s xs = ([], 1) := by unfold qsF; rw [h]; rfl
theorem qsF_1 (h : isRk t = true) (h1 : isBr s xs = false) : qsF t m M s xs = ([], 1) := by unfold qsF; rw [h, h1]; rfl
theorem qsF_2 (h : isRk t = true) (h1 : isBr s xs = true) (h2 : isMx t.length m M = false) : qsF t m M s xs = ([], 2) := by unfold qsF; rw [h, h1, h2]; rfl
theorem qsF_3 (h : isRk t = true) (h1 : isBr s xs = true) (h2 : isMx t.length m M = true) (h3 : qwOk t m M = false) : qsF t m M s xs = ([], 5) := by unfold qsF; rw [h, h1, h2, h3]; rfl
theorem qsF_4 (h : isRk t = true) (h1 : isBr s xs = true) (h2 : isMx t.length m M = true) (h3 : qwOk t m M = true) : qsF t m M s xs = stF t (cstL t.length) m M s xs := by unfold qsF; rw [h, h1, h2, h3]; rfl
end
set_option maxHeartbeats 4000000 in
theorem impl_Qs_l (a : Option Addr) (n c : Nat) (t : List (List Int)) (m : Int) (am : Option Addr) (nm cm : Nat) (M : List (List Int)) (s : Int) (ab : Option Addr) (nb cb : Nat) (xs : List Int) (w : World) (h : Tbl w a n t) (hn : n ≤ 9223372036854775807) (hi : I64 m) (h5 : Tbl w am nm M) (hnm : nm ≤ 9223372036854775807) (hs : I64 s) (hr : Row w ab nb xs) (hnb : nb ≤ 9223372036854775807) (hx : I64s xs) (hcap : nb ≤ cb ∧ cb ≤ 9223372036854775807) :
    Calls Tryz.prog 17 #[rAgg a n c, .int .i64 m, .slice am nm cm, bAgg s ab nb cb] w (RetR w (qsF t m M s xs).1 (qsF t m M s xs).2) := by
  have hA := (Loc.new w rfl #[.slice a n c] 45).alloc (.cells #[.int .i64 s, .slice ab nb cb] 29)
  have hE := Loc.new (w.alloc (.cells #[.slice a n c] 45)) rfl #[.int .i64 s, .slice ab nb cb] 29
  rw [size_alloc] at hE
  have hB := below_al (below_al (Below.refl w.heap.size w) (.cells #[.slice a n c] 45)) (.cells #[.int .i64 s, .slice ab nb cb] 29)
  have HFL := Lib.hid h.len
  go_enter Tryz.func17, Tryz.ntmps17
  go_wp2_with fail
  generalize (w.alloc (.cells #[.slice a n c] 45)).alloc (.cells #[.int .i64 s, .slice ab nb cb] 29) = w0 at *
  have lA := hA.one
  have lE := hE.two
  refine (isRack_any _ _ _ t _ (h.below hB) hn).mono ?_
  rintro e w1 ⟨rfl, hb1⟩
  replace hB := below_th hB hb1; replace hA := hA.below hb1 hA.lt; replace hE := hE.below hb1 hE.lt; replace lA := hA.one; replace lE := hE.two
  cases q0 : isRk t with
  | false =>
    have HQ : Hid (qsF t m M s xs = ([], 1)) := Lib.hid (qsF_0 q0)
    clear q0
    go_wp2
    go_ret2
    exact ⟨none, 0, 0, by rw [HQ.out]; rfl, by rw [HQ.out]; exact Own.nil _ _, hB⟩
  | true =>
  have HR := Lib.hid q0
  clear q0
  go_wp2_with fail
  refine (isBraid_any _ _ _ _ xs _ (hr.below hB) hnb).mono ?_
  rintro e w2 ⟨rfl, hb2⟩
  replace hB := below_th hB hb2; replace hA := hA.below hb2 hA.lt; replace hE := hE.below hb2 hE.lt; replace lA := hA.one; replace lE := hE.two
  cases q1 : isBr s xs with
  | false =>
    have HQ : Hid (qsF t m M s xs = ([], 1)) := Lib.hid (qsF_1 HR.out q1)
    clear q1
    go_wp2
    go_ret2
    exact ⟨none, 0, 0, by rw [HQ.out]; rfl, by rw [HQ.out]; exact Own.nil _ _, hB⟩
  | true =>
  have HBR := Lib.hid q1
  clear q1
  go_wp2_with fail
  refine (isMatrix_any _ _ _ _ _ M _ (h5.below hB) hnm).mono ?_
  rintro e w3 ⟨rfl, hb3⟩
  replace hB := below_th hB hb3; replace hA := hA.below hb3 hA.lt; replace hE := hE.below hb3 hE.lt; replace lA := hA.one; replace lE := hE.two
  cases q2 : isMx n m M with
  | false =>
    have HQ : Hid (qsF t m M s xs = ([], 2)) := Lib.hid (qsF_2 HR.out HBR.out (by rw [← HFL.out]; exact q2))
    clear q2
    go_wp2
    go_ret2
    exact ⟨none, 0, 0, by rw [HQ.out]; rfl, by rw [HQ.out]; exact Own.nil _ _, hB⟩
  | true =>
  have H2 := Lib.hid q2
  obtain ⟨hmm, hM⟩ := isMx_sq q2
  clear q2
  obtain rfl : nm = n := by rw [h5.len]; exact hM.1
  have HMM := Lib.hid hmm; have HM := Lib.hid hM
  clear hmm hM
  go_wp2_with fail
  refine (isQuandleWeight_any _ _ _ t m _ _ M _ (h.below hB) HR.out HMM.out HM.out (h5.below hB)).mono ?_
  rintro e w4 ⟨rfl, hb4⟩
  replace hB := below_th hB hb4; replace hA := hA.below hb4 hA.lt; replace hE := hE.below hb4 hE.lt; replace lA := hA.one; replace lE := hE.two
  cases q3 : qwOk t m M with
  | false =>
    have HQ : Hid (qsF t m M s xs = ([], 5)) := Lib.hid (qsF_3 HR.out HBR.out (by rw [← HFL.out]; exact H2.out) q3)
    clear q3
    go_wp2
    go_ret2
    exact ⟨none, 0, 0, by rw [HQ.out]; rfl, by rw [HQ.out]; exact Own.nil _ _, hB⟩
  | true =>
  have HQ : Hid (qsF t m M s xs = stF t (cstL t.length) m M s xs) := Lib.hid (qsF_4 HR.out HBR.out (by rw [← HFL.out]; exact H2.out) q3)
  clear q3
  obtain ⟨hn1, hn12, hf⟩ := isTab_sq (isRk_parts HR.out).1
  have HF := Lib.hid hf
  clear hf
  rw [← HFL.out] at HF HQ hn1 hn12
  have hzz := hB.size
  generalize hR : stF t (cstL nm) m M s xs = R at *
  have HRR := Lib.hid hR
  clear hR
  go_wp2_with fail
  go_region_held3 (fun w' => w'.cell? ⟨w.heap.size, 0, none⟩ = some (.slice a nm c) ∧ (w'.cell? ⟨w.heap.size + 1, 0, none⟩ = some (.int .i64 s) ∧ w'.cell? ⟨w.heap.size + 1, 1, none⟩ = some (.slice ab nb cb)))
    (first | exact ⟨lA6.1, lE6.1, lE6.2.1⟩ | exact ⟨lA5.1, lE5.1, lE5.2.1⟩ | exact ⟨lA.1, lE.1, lE.2.1⟩ | go_keep)
    (first
      | (go_at_call 62; refine (rackSolution_any _ _ _ t _ (h.below (below_drewN hB 1)) HF.out hn1 hn12).mono ?_; rintro e w5 ⟨a3, c3, vs3, a3', c3', vs3', rfl, ho3, hb5⟩; have hr5 : Below w4.heap.size w4 w5 := (Below.drew (Below.refl _ _)).trans hb5; have hB5 := below_th hB hr5; have lA5 := (hA.below hr5 hA.lt).one; have lE5 := (hE.below hr5 hE.lt).two)
      | (go_at_call 61; refine (impl_St_l _ _ _ t _ _ _ (cstL nm) m _ _ _ M s _ _ _ xs _ ho3.sol ⟨by omega, by omega⟩ hi (h5.below hB5) hnm hs (hr.below hB5) hnb hx hcap).mono ?_; rintro e w6 ⟨a6, n6, c6, rfl, ho6, hb6⟩; rw [HRR.out] at ho6 ⊢; have hr6 := below_th hr5 hb6; have lA6 := (hA.below hr6 hA.lt).one; have lE6 := (hE.below hr6 hE.lt).two))
  all_goals
    go_wp2
    go_ret2
    exact ⟨a6, n6, c6, by rw [HQ.out]; rfl, by rw [HQ.out]; exact ho6.mono (by have := hr5.size; omega), below_th hB hr6⟩
set_option maxHeartbeats 4000000 in
theorem spec_Qs_l (a : Option Addr) (n c : Nat) (t : List (List Int)) (m : Int) (am : Option Addr) (nm cm : Nat) (M : List (List Int)) (s : Int) (ab : Option Addr) (nb cb : Nat) (xs : List Int) (w : World) (h : Tbl w a n t) (hn : n ≤ 9223372036854775807) (hi : I64 m) (h5 : Tbl w am nm M) (hnm : nm ≤ 9223372036854775807) (hs : I64 s) (hr : Row w ab nb xs) (hnb : nb ≤ 9223372036854775807) (hx : I64s xs) (hcap : nb ≤ cb ∧ cb ≤ 9223372036854775807) :
    Calls Tryz.prog 18 #[rAgg a n c, .int .i64 m, .slice am nm cm, bAgg s ab nb cb] w (RetR w (qsF t m M s xs).1 (qsF t m M s xs).2) := by
  have hA := (Loc.new w rfl #[.slice a n c] 45).alloc (.cells #[.int .i64 s, .slice ab nb cb] 29)
  have hE := Loc.new (w.alloc (.cells #[.slice a n c] 45)) rfl #[.int .i64 s, .slice ab nb cb] 29
  rw [size_alloc] at hE
  have hB := below_al (below_al (Below.refl w.heap.size w) (.cells #[.slice a n c] 45)) (.cells #[.int .i64 s, .slice ab nb cb] 29)
  have HFL := Lib.hid h.len
  go_enter Tryz.func18, Tryz.ntmps18
  go_wp2_with fail
  generalize (w.alloc (.cells #[.slice a n c] 45)).alloc (.cells #[.int .i64 s, .slice ab nb cb] 29) = w0 at *
  have lA := hA.one
  have lE := hE.two
  refine (l03Is_any _ _ _ t _ (h.below hB) hn).mono ?_
  rintro e w1 ⟨rfl, hb1⟩
  replace hB := below_th hB hb1; replace hA := hA.below hb1 hA.lt; replace hE := hE.below hb1 hE.lt; replace lA := hA.one; replace lE := hE.two
  cases q0 : isRk t with
  | false =>
    have HQ : Hid (qsF t m M s xs = ([], 1)) := Lib.hid (qsF_0 q0)
    clear q0
    go_wp2
    go_ret2
    exact ⟨none, 0, 0, by rw [HQ.out]; rfl, by rw [HQ.out]; exact Own.nil _ _, hB⟩
  | true =>
  have HR := Lib.hid q0
  clear q0
  go_wp2_with fail
  refine (l16Is_any _ _ _ _ xs _ (hr.below hB) hnb hs).mono ?_
  rintro e w2 ⟨rfl, hb2⟩
  replace hB := below_th hB hb2; replace hA := hA.below hb2 hA.lt; replace hE := hE.below hb2 hE.lt; replace lA := hA.one; replace lE := hE.two
  cases q1 : isBr s xs with
  | false =>
    have HQ : Hid (qsF t m M s xs = ([], 1)) := Lib.hid (qsF_1 HR.out q1)
    clear q1
    go_wp2
    go_ret2
    exact ⟨none, 0, 0, by rw [HQ.out]; rfl, by rw [HQ.out]; exact Own.nil _ _, hB⟩
  | true =>
  have HBR := Lib.hid q1
  clear q1
  go_wp2_with fail
  refine (spec_Iq_l _ _ _ t m _ _ _ M _ (h.below hB) hn hi (h5.below hB) hnm).mono ?_
  rintro e w3 ⟨rfl, hb3⟩
  replace hB := below_th hB hb3; replace hA := hA.below hb3 hA.lt; replace hE := hE.below hb3 hE.lt; replace lA := hA.one; replace lE := hE.two
  cases q2 : isMx n m M with
  | false =>
    have HQ : Hid (qsF t m M s xs = ([], 2)) := Lib.hid (qsF_2 HR.out HBR.out (by rw [← HFL.out]; exact q2))
    rw [iqF_1 HR.out (by rw [← HFL.out]; exact q2)]
    clear q2
    go_wp2
    go_ret2
    exact ⟨none, 0, 0, by rw [HQ.out]; rfl, by rw [HQ.out]; exact Own.nil _ _, hB⟩
  | true =>
  have H2 := Lib.hid q2
  obtain ⟨hmm, hM⟩ := isMx_sq q2
  rw [iqF_2 HR.out (by rw [← HFL.out]; exact q2)]
  clear q2
  obtain rfl : nm = n := by rw [h5.len]; exact hM.1
  have HMM := Lib.hid hmm; have HM := Lib.hid hM
  clear hmm hM
  cases q3 : qwOk t m M with
  | false =>
    have HQ : Hid (qsF t m M s xs = ([], 5)) := Lib.hid (qsF_3 HR.out HBR.out (by rw [← HFL.out]; exact H2.out) q3)
    clear q3
    go_wp2
    go_ret2
    exact ⟨none, 0, 0, by rw [HQ.out]; rfl, by rw [HQ.out]; exact Own.nil _ _, hB⟩
  | true =>
  have HQ : Hid (qsF t m M s xs = stF t (cstL t.length) m M s xs) := Lib.hid (qsF_4 HR.out HBR.out (by rw [← HFL.out]; exact H2.out) q3)
  clear q3
  obtain ⟨hn1, hn12, hf⟩ := isTab_sq (isRk_parts HR.out).1
  have HF := Lib.hid hf
  clear hf
  rw [← HFL.out] at HF HQ hn1 hn12
  have hzz := hB.size
  generalize hR : stF t (cstL nm) m M s xs = R at *
  have HRR := Lib.hid hR
  clear hR
  go_wp2_with fail
  go_region_held3 (fun w' => w'.cell? ⟨w.heap.size, 0, none⟩ = some (.slice a nm c) ∧ (w'.cell? ⟨w.heap.size + 1, 0, none⟩ = some (.int .i64 s) ∧ w'.cell? ⟨w.heap.size + 1, 1, none⟩ = some (.slice ab nb cb)))
    (first | exact ⟨lA6.1, lE6.1, lE6.2.1⟩ | exact ⟨lA5.1, lE5.1, lE5.2.1⟩ | exact ⟨lA.1, lE.1, lE.2.1⟩ | go_keep)
    (first
      | (go_at_call 65; refine (l03Solution_any _ _ _ t _ (h.below (below_drewN hB 1)) HF.out hn1 hn12).mono ?_; rintro e w5 ⟨a3, c3, vs3, a3', c3', vs3', rfl, ho3, hb5⟩; have hr5 : Below w3.heap.size w3 w5 := (Below.drew (Below.refl _ _)).trans hb5; have hB5 := below_th hB hr5; have lA5 := (hA.below hr5 hA.lt).one; have lE5 := (hE.below hr5 hE.lt).two)
      | (go_at_call 64; refine (spec_St_l _ _ _ t _ _ _ (cstL nm) m _ _ _ M s _ _ _ xs _ ho3.sol ⟨by omega, by omega⟩ hi (h5.below hB5) hnm hs (hr.below hB5) hnb hx hcap).mono ?_; rintro e w6 ⟨a6, n6, c6, rfl, ho6, hb6⟩; rw [HRR.out] at ho6 ⊢; have hr6 := below_th hr5 hb6; have lA6 := (hA.below hr6 hA.lt).one; have lE6 := (hE.below hr6 hE.lt).two))
  all_goals
    go_wp2
    go_ret2
    exact ⟨a6, n6, c6, by rw [HQ.out]; rfl, by rw [HQ.out]; exact ho6.mono (by have := hr5.size; omega), below_th hB hr6⟩
end Go.Proofs.YtpdgpgbgakinlaaGreat
