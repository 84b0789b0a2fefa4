/-
  The colourings of a braid: what the program's functions compute.
  No condition but bounds on lengths.
-/
import Derived.Test.YtfmcaflefiapoaaColsL
import Derived.Test.YtfmcaflefiapoaaActI
import Derived.Test.YtfmcaflefiapoaaTupI
import Derived.Test.YtfmcaflefiapoaaBase
namespace Go.Proofs.Ytfmcaflefiapoaa
set_option maxRecDepth 100000
set_option linter.unusedVariables false
set_option linter.unusedSimpArgs false
open Go.RowKit

/-- how many tuples there are, and whether they are not too many -/
def CntR (n s : Nat) (e : Ending) : Prop := (n ^ s ≤ 5000 ∧ e = .returned (.tuple #[.int .i64 ((n ^ s : Nat) : Int), .bool true])) ∨ (5000 < n ^ s ∧ e = .returned (.tuple #[.int .i64 0, .bool false]))

set_option maxHeartbeats 1000000 in
theorem countTuples_any (n s : Nat) (w : World) (hn1 : 1 ≤ n) (hn : n ≤ 12) (hs : s ≤ 6) :
    Calls Try.prog 71 #[.int .i64 n, .int .i64 s] w fun e w' => CntR n s e ∧ w = w' := by
  go_enter Try.func71, Try.ntmps71
  go_wp2
  go_loop [6, 8] (fun q i => ∃ k : Nat, k ≤ s ∧ i = .int .i64 k ∧ q = .int .i64 ((n ^ k : Nat) : Int) ∧ n ^ k ≤ 5000) (fun _ i => s - (intOf i).toNat)
  case atStart => exact ⟨0, Nat.zero_le _, rfl, by simp, by simp⟩
  case round =>
    obtain ⟨k, hk, rfl, rfl, hb⟩ := hrel
    by_cases hlt : k < s
    · have e1 : ((n ^ k : Nat) : Int) * (n : Int) = ((n ^ (k + 1) : Nat) : Int) := by rw [Nat.pow_succ]; simp
      have hb2 : n ^ (k + 1) ≤ 60000 := by rw [Nat.pow_succ]; exact Nat.le_trans (Nat.mul_le_mul hb hn) (by omega)
      have hms : n ^ (k + 1) ≤ n ^ s := Nat.pow_le_pow_right hn1 hlt
      have HN : Hid (n ^ (k + 1) = n ^ (k + 1)) := Lib.hid rfl
      generalize n ^ k = C at *
      generalize hC : n ^ (k + 1) = D at *
      have HC := Lib.hid hC; clear hC
      by_cases h5 : D ≤ 5000
      · go_wp2
        go_round
        case rel => exact ⟨k + 1, by omega, by go_num, by rw [HC.out], by rw [HC.out]; exact h5⟩
        case measure => simp [intOf]; omega
      · go_wp2
        go_ret2
        exact ⟨.inr ⟨by omega, rfl⟩, rfl⟩
    · obtain rfl : k = s := by omega
      generalize hC : n ^ k = C at *
      have HC := Lib.hid hC; clear hC
      go_wp2
      go_ret2
      exact ⟨.inl ⟨by rw [HC.out]; exact hb, by rw [HC.out]; rfl⟩, rfl⟩

/-- the colourings, or none if there are too many tuples -/
def colsC (n s : Nat) (f g : List (List Int)) (xs : List Int) : List (List Int) × Int := if n ^ s ≤ 5000 then (colsL n s f g xs, 0) else ([], 3)

set_option maxHeartbeats 4000000 in
theorem colouringsOf_any (a : Option Addr) (n c : Nat) (a' : Option Addr) (c' : Nat) (f g : List (List Int)) (s : Nat) (ab : Option Addr) (nb cb : Nat) (xs : List Int) (w : World) (h1 : Tbl w a n f) (h2 : Tbl w a' n g) (q1 : isSol f g = true) (hr : Row w ab nb xs) (q2 : isBr s xs = true) :
    Calls Try.prog 77 #[sAgg a n c a' n c', bAgg s ab nb cb] w (RetT w (colsC n s f g xs).1 (colsC n s f g xs).2) := by
  obtain ⟨hn1, hn12, sf, sg⟩ := isSol_sq q1
  have hcc := isSol_coll q1
  have hfl := h1.len
  rw [← hfl] at hn1 hn12 sf sg hcc
  have hs26 := (isBr_let q2).1
  have hs6 : s ≤ 6 := by omega
  have H1 := Lib.hid q1; have H2 := Lib.hid q2; have HSF := Lib.hid sf; have HSG := Lib.hid sg; have HC := Lib.hid hcc
  clear q1 q2 sf sg hcc hfl hs26
  have hA := (Loc.new w rfl #[.slice a n c, .slice a' n c'] 33).alloc (.cells #[.int .i64 s, .slice ab nb cb] 36)
  have hE := Loc.new (w.alloc (.cells #[.slice a n c, .slice a' n c'] 33)) rfl #[.int .i64 s, .slice ab nb cb] 36
  rw [size_alloc] at hE
  have hB := below_al (below_al (Below.refl w.heap.size w) (.cells #[.slice a n c, .slice a' n c'] 33)) (.cells #[.int .i64 s, .slice ab nb cb] 36)
  go_enter Try.func77, Try.ntmps77
  go_wp2_with fail
  generalize (w.alloc (.cells #[.slice a n c, .slice a' n c'] 33)).alloc (.cells #[.int .i64 s, .slice ab nb cb] 36) = w0 at *
  have lA := hA.two
  have lE := hE.two
  refine (countTuples_any n s _ hn1 hn12 hs6).mono ?_
  rintro e w1 ⟨he, rfl⟩
  rcases he with ⟨h5, rfl⟩ | ⟨h5, rfl⟩
  · have HCS : Hid (colsC n s f g xs = (colsK n s f g xs (n ^ s), 0)) := Lib.hid (by unfold colsC; rw [if_pos h5]; rfl)
    generalize n ^ s = K at *
    go_wp2_with fail
    refine (newAction_any _ _ _ _ _ f g _ (h1.below hB) (h2.below hB) H1.out hn12).mono ?_
    rintro e w2 ⟨b, d, vs, b', d', vs', rfl, ho2, hb2⟩
    have hX := Loc.new w2 rfl #[.slice a n c, .slice a' n c', .slice b n d, .slice b' n d'] 76
    have hq := below_al hb2 (.cells #[.slice a n c, .slice a' n c', .slice b n d, .slice b' n d'] 76)
    have hE2 := (hE.below hb2 hE.lt).alloc (.cells #[.slice a n c, .slice a' n c', .slice b n d, .slice b' n d'] 76)
    have hBX := below_th hB hq
    have T1 := h1.below hBX; have T2 := h2.below hBX; have T5 := hr.below hBX
    have T3 := ho2.f.tbl.alloc (.cells #[.slice a n c, .slice a' n c', .slice b n d, .slice b' n d'] 76); have T4 := ho2.s.tbl.alloc (.cells #[.slice a n c, .slice a' n c', .slice b n d, .slice b' n d'] 76)
    clear hA hE h1 h2 hr ho2 hb2 hq lA lE hB
    go_wp2
    generalize hwA : w2.alloc (.cells #[.slice a n c, .slice a' n c', .slice b n d, .slice b' n d'] 76) = wA at *
    have hsz : w2.heap.size < wA.heap.size := hX.lt
    clear hwA
    go_loopw [10, 28] (fun z i wr => ∃ (k L : Nat) (az : Option Addr) (cz : Nat) (vz : List SV), k ≤ K ∧ i = .int .i64 k ∧ z = .slice az L cz ∧ OwnT wr wA.heap.size az L cz vz (colsK n s f g xs k) ∧ Below wA.heap.size wA wr) (fun _ i _ => K - (intOf i).toNat)
    case atStart => exact ⟨0, 0, none, 0, [], Nat.zero_le _, rfl, rfl, OwnT.nil _ _, Below.refl _ _⟩
    case round =>
      obtain ⟨N, L, az, cz, vz, hk, rfl, rfl, hoz, hq⟩ := hrel
      by_cases hlt : N < K
      · have lE := (hE2.below hq hE2.lt).two
        have hL : L ≤ N := by have := hoz.len; have := colsK_len (n := n) (s := s) (f := f) (g := g) (xs := xs) (k := N); omega
        go_wp2_with fail
        refine (tupleOf_any n s N _ hn1 (by omega) (by omega) (by omega)).mono ?_
        rintro e w3 ⟨at3, c3, rfl, ho, hb3⟩
        have hq3 := below_th hq hb3
        have lX := (hX.below hq3 hX.lt).four
        have lE3 := (hE2.below hq3 hE2.lt).two
        clear lE
        go_wp2_with fail
        refine (lead_any _ _ _ _ _ _ _ _ _ f g s _ _ _ xs _ _ (digL n s N) _ (T1.below hq3) (T2.below hq3) (T3.below hq3) (T4.below hq3) hn1 HSF.out HSG.out HC.out (T5.below hq3) H2.out ho.row (digL_less n s N hn1)).mono ?_
        rintro e w4 ⟨a4, c4, rfl, ho4, hb4⟩
        have hq4 := below_th hq3 hb4
        cases hv : colAt n s f g xs N with
        | true =>
          have HY : Hid (colsK n s f g xs (N + 1) = colsK n s f g xs N ++ [digL n s N]) := Lib.hid (colsK_yes hv)
          have HV : Hid (decide (actL n f g xs (digL n s N) = digL n s N) = true) := Lib.hid hv
          clear hv lX lE3
          go_wp2_with fail
          refine (sEqual_b _ _ _ _ _ _ (actL n f g xs (digL n s N)) (digL n s N) _ ho4.row (ho.row.below hb4) (by omega) true HV.out).mono ?_
          rintro e w5 ⟨rfl, hb5⟩
          have hq5 := below_th hq4 hb5
          have hz5 := hoz.below (below_th (below_th hb3 hb4) hb5)
          have ho5 := (ho.below hb4).below hb5
          have hwq := hq.size
          go_wp2_with (at_builtin; refine appT1 rfl rfl hz5 rfl (ho5.mono hwq) (fun g h1 h2 => by have h3 := hoz.high _ h1; have h4 := ho5.lo _ h2; omega) (fun i hi g h1 h2 => by have h3 := ho5.lo _ h1; have h4 := (hoz.row i hi).hi _ h2; omega) rfl (by omega) (by have := hq5.size; omega) ?_; intro g' cc w6 hO hb6)
          go_roundw
          case rel => exact ⟨N + 1, L + 1, _, _, _, by omega, by go_num, rfl, by rw [HY.out]; exact hO, hq5.trans hb6⟩
          case measure => simp [intOf]; omega
        | false =>
          have HY : Hid (colsK n s f g xs (N + 1) = colsK n s f g xs N) := Lib.hid (colsK_no hv)
          have HV : Hid (decide (actL n f g xs (digL n s N) = digL n s N) = false) := Lib.hid hv
          clear hv lX lE3
          go_wp2_with fail
          refine (sEqual_b _ _ _ _ _ _ (actL n f g xs (digL n s N)) (digL n s N) _ ho4.row (ho.row.below hb4) (by omega) false HV.out).mono ?_
          rintro e w5 ⟨rfl, hb5⟩
          have hq5 := below_th hq4 hb5
          have hz5 := hoz.below (below_th (below_th hb3 hb4) hb5)
          go_wp2
          go_roundw
          case rel => exact ⟨N + 1, L, _, _, _, by omega, by go_num, rfl, by rw [HY.out]; exact hz5, hq5⟩
          case measure => simp [intOf]; omega
      · obtain rfl : N = K := by omega
        go_wp2
        go_ret2
        exact ⟨az, L, cz, vz, by rw [HCS.out]; rfl, by rw [HCS.out]; exact hoz.mono hBX.size, hBX.trans (hq.mono hBX.size)⟩
  · have HCS : Hid (colsC n s f g xs = ([], 3)) := Lib.hid (by unfold colsC; rw [if_neg (by omega)])
    clear h5
    go_wp2
    go_ret2
    exact ⟨none, 0, 0, [], by rw [HCS.out]; rfl, by rw [HCS.out]; exact OwnT.nil _ _, hB⟩

end Go.Proofs.Ytfmcaflefiapoaa
