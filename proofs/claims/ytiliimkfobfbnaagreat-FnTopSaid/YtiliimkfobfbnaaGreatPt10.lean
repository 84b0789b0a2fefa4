/-
  Walks and plain laws of this seat, some texts in one.
  No condition but bounds on lengths.
-/
import Derived.Test.YtiliimkfobfbnaaGreatPt7
import Derived.Test.YtiliimkfobfbnaaGreatPt9
import Derived.Test.YtiliimkfobfbnaaGreatPt6
import Derived.Test.YtiliimkfobfbnaaGreatPt4
import Derived.Test.YtiliimkfobfbnaaGreatPt3
import Derived.Test.YtiliimkfobfbnaaGreatPt5
import Derived.Test.YtiliimkfobfbnaaGreatPt8
import Derived.Deep.RegionHeld3
import Derived.IntWalk
import Derived.Test.YtiliimkfobfbnaaGreatPt1
import Derived.Test.YtiliimkfobfbnaaGreatPt2
namespace Go.Proofs.YtiliimkfobfbnaaGreat
set_option maxRecDepth 100000
set_option linter.unusedVariables false
set_option linter.unusedSimpArgs false
open Go.RowKit
def CntR (n s : Nat) (e : Ending) : Prop := (n ^ s ≤ 5000 ∧ e = .returned (.tuple #[.int .i64 ((n ^ s : Nat) : Int), .bool true])) ∨ (5000 < n ^ s ∧ e = .returned (.tuple #[.int .i64 0, .bool false]))
set_option maxHeartbeats 1000000 in
theorem countTuples_any (n s : Nat) (w : World) (hn1 : 1 ≤ n) (hn : n ≤ 12) (hs : s ≤ 6) :
    Calls Tryz.prog 114 #[.int .i64 n, .int .i64 s] w fun e w' => CntR n s e ∧ w = w' := by
  go_enter Tryz.func114, Tryz.ntmps114
  go_wp2
  go_loop [6, 8] (fun q i => ∃ k : Nat, k ≤ s ∧ i = .int .i64 k ∧ q = .int .i64 ((n ^ k : Nat) : Int) ∧ n ^ k ≤ 5000) (fun _ i => s - (intOf i).toNat)
  case atStart => exact ⟨0, Nat.zero_le _, rfl, by simp, by simp⟩
  case round =>
    obtain ⟨k, hk, rfl, rfl, hb⟩ := hrel
    by_cases hlt : k < s
    · have e1 : ((n ^ k : Nat) : Int) * (n : Int) = ((n ^ (k + 1) : Nat) : Int) := by rw [Nat.pow_succ]; simp
      have hb2 : n ^ (k + 1) ≤ 60000 := by rw [Nat.pow_succ]; exact Nat.le_trans (Nat.mul_le_mul hb hn) (by omega)
      have hms : n ^ (k + 1) ≤ n ^ s := Nat.pow_le_pow_right hn1 hlt
      have HN : Hid (n ^ (k + 1) = n ^ (k + 1)) := Lib.hid rfl
      generalize n ^ k = C at *
      generalize hC : n ^ (k + 1) = D at *
      have HC := Lib.hid hC; clear hC
      by_cases h5 : D ≤ 5000
      · go_wp2
        go_round
        case rel => exact ⟨k + 1, by omega, by go_num, by rw [HC.out], by rw [HC.out]; exact h5⟩
        case measure => simp [intOf]; omega
      · go_wp2
        go_ret2
        exact ⟨.inr ⟨by omega, rfl⟩, rfl⟩
    · obtain rfl : k = s := by omega
      generalize hC : n ^ k = C at *
      have HC := Lib.hid hC; clear hC
      go_wp2
      go_ret2
      exact ⟨.inl ⟨by rw [HC.out]; exact hb, by rw [HC.out]; rfl⟩, rfl⟩
def colsC (n s : Nat) (f g : List (List Int)) (xs : List Int) : List (List Int) × Int := if n ^ s ≤ 5000 then (colsL n s f g xs, 0) else ([], 3)
set_option maxHeartbeats 4000000 in
theorem colouringsOf_any (a : Option Addr) (n c : Nat) (a' : Option Addr) (c' : Nat) (f g : List (List Int)) (s : Nat) (ab : Option Addr) (nb cb : Nat) (xs : List Int) (w : World) (h1 : Tbl w a n f) (h2 : Tbl w a' n g) (q1 : isSol f g = true) (hr : Row w ab nb xs) (q2 : isBr s xs = true) :
    Calls Tryz.prog 90 #[sAgg a n c a' n c', bAgg s ab nb cb] w (RetT w (colsC n s f g xs).1 (colsC n s f g xs).2) := by
  obtain ⟨hn1, hn12, sf, sg⟩ := isSol_sq q1
  have hcc := isSol_coll q1
  have hfl := h1.len
  rw [← hfl] at hn1 hn12 sf sg hcc
  have hs26 := (isBr_let q2).1
  have hs6 : s ≤ 6 := by omega
  have H1 := Lib.hid q1; have H2 := Lib.hid q2; have HSF := Lib.hid sf; have HSG := Lib.hid sg; have HC := Lib.hid hcc
  clear q1 q2 sf sg hcc hfl hs26
  have hA := (Loc.new w rfl #[.slice a n c, .slice a' n c'] 29).alloc (.cells #[.int .i64 s, .slice ab nb cb] 56)
  have hE := Loc.new (w.alloc (.cells #[.slice a n c, .slice a' n c'] 29)) rfl #[.int .i64 s, .slice ab nb cb] 56
  rw [size_alloc] at hE
  have hB := below_al (below_al (Below.refl w.heap.size w) (.cells #[.slice a n c, .slice a' n c'] 29)) (.cells #[.int .i64 s, .slice ab nb cb] 56)
  go_enter Tryz.func90, Tryz.ntmps90
  go_wp2_with fail
  generalize (w.alloc (.cells #[.slice a n c, .slice a' n c'] 29)).alloc (.cells #[.int .i64 s, .slice ab nb cb] 56) = w0 at *
  have lA := hA.two
  have lE := hE.two
  refine (countTuples_any n s _ hn1 hn12 hs6).mono ?_
  rintro e w1 ⟨he, rfl⟩
  rcases he with ⟨h5, rfl⟩ | ⟨h5, rfl⟩
  · have HCS : Hid (colsC n s f g xs = (colsK n s f g xs (n ^ s), 0)) := Lib.hid (by unfold colsC; rw [if_pos h5]; rfl)
    generalize n ^ s = K at *
    go_wp2_with fail
    refine (newAction_any _ _ _ _ _ f g _ (h1.below hB) (h2.below hB) H1.out hn12).mono ?_
    rintro e w2 ⟨b, d, vs, b', d', vs', rfl, ho2, hb2⟩
    have hX := Loc.new w2 rfl #[.slice a n c, .slice a' n c', .slice b n d, .slice b' n d'] 119
    have hq := below_al hb2 (.cells #[.slice a n c, .slice a' n c', .slice b n d, .slice b' n d'] 119)
    have hE2 := (hE.below hb2 hE.lt).alloc (.cells #[.slice a n c, .slice a' n c', .slice b n d, .slice b' n d'] 119)
    have hBX := below_th hB hq
    have T1 := h1.below hBX; have T2 := h2.below hBX; have T5 := hr.below hBX
    have T3 := ho2.f.tbl.alloc (.cells #[.slice a n c, .slice a' n c', .slice b n d, .slice b' n d'] 119); have T4 := ho2.s.tbl.alloc (.cells #[.slice a n c, .slice a' n c', .slice b n d, .slice b' n d'] 119)
    clear hA hE h1 h2 hr ho2 hb2 hq lA lE hB
    go_wp2
    generalize hwA : w2.alloc (.cells #[.slice a n c, .slice a' n c', .slice b n d, .slice b' n d'] 119) = wA at *
    have hsz : w2.heap.size < wA.heap.size := hX.lt
    clear hwA
    go_loopw [10, 28] (fun z i wr => ∃ (k L : Nat) (az : Option Addr) (cz : Nat) (vz : List SV), k ≤ K ∧ i = .int .i64 k ∧ z = .slice az L cz ∧ OwnT wr wA.heap.size az L cz vz (colsK n s f g xs k) ∧ Below wA.heap.size wA wr) (fun _ i _ => K - (intOf i).toNat)
    case atStart => exact ⟨0, 0, none, 0, [], Nat.zero_le _, rfl, rfl, OwnT.nil _ _, Below.refl _ _⟩
    case round =>
      obtain ⟨N, L, az, cz, vz, hk, rfl, rfl, hoz, hq⟩ := hrel
      by_cases hlt : N < K
      · have lE := (hE2.below hq hE2.lt).two
        have hL : L ≤ N := by have := hoz.len; have := colsK_len (n := n) (s := s) (f := f) (g := g) (xs := xs) (k := N); omega
        go_wp2_with fail
        refine (tupleOf_any n s N _ hn1 (by omega) (by omega) (by omega)).mono ?_
        rintro e w3 ⟨at3, c3, rfl, ho, hb3⟩
        have hq3 := below_th hq hb3
        have lX := (hX.below hq3 hX.lt).four
        have lE3 := (hE2.below hq3 hE2.lt).two
        clear lE
        go_wp2_with fail
        refine (lead_any _ _ _ _ _ _ _ _ _ f g s _ _ _ xs _ _ (digL n s N) _ (T1.below hq3) (T2.below hq3) (T3.below hq3) (T4.below hq3) hn1 HSF.out HSG.out HC.out (T5.below hq3) H2.out ho.row (digL_less n s N hn1)).mono ?_
        rintro e w4 ⟨a4, c4, rfl, ho4, hb4⟩
        have hq4 := below_th hq3 hb4
        cases hv : colAt n s f g xs N with
        | true =>
          have HY : Hid (colsK n s f g xs (N + 1) = colsK n s f g xs N ++ [digL n s N]) := Lib.hid (colsK_yes hv)
          have HV : Hid (decide (actL n f g xs (digL n s N) = digL n s N) = true) := Lib.hid hv
          clear hv lX lE3
          go_wp2_with fail
          refine (sEqual_b _ _ _ _ _ _ (actL n f g xs (digL n s N)) (digL n s N) _ ho4.row (ho.row.below hb4) (by omega) true HV.out).mono ?_
          rintro e w5 ⟨rfl, hb5⟩
          have hq5 := below_th hq4 hb5
          have hz5 := hoz.below (below_th (below_th hb3 hb4) hb5)
          have ho5 := (ho.below hb4).below hb5
          have hwq := hq.size
          go_wp2_with (at_builtin; refine appT1 rfl rfl hz5 rfl (ho5.mono hwq) (fun g h1 h2 => by have h3 := hoz.high _ h1; have h4 := ho5.lo _ h2; omega) (fun i hi g h1 h2 => by have h3 := ho5.lo _ h1; have h4 := (hoz.row i hi).hi _ h2; omega) rfl (by omega) (by have := hq5.size; omega) ?_; intro g' cc w6 hO hb6)
          go_roundw
          case rel => exact ⟨N + 1, L + 1, _, _, _, by omega, by go_num, rfl, by rw [HY.out]; exact hO, hq5.trans hb6⟩
          case measure => simp [intOf]; omega
        | false =>
          have HY : Hid (colsK n s f g xs (N + 1) = colsK n s f g xs N) := Lib.hid (colsK_no hv)
          have HV : Hid (decide (actL n f g xs (digL n s N) = digL n s N) = false) := Lib.hid hv
          clear hv lX lE3
          go_wp2_with fail
          refine (sEqual_b _ _ _ _ _ _ (actL n f g xs (digL n s N)) (digL n s N) _ ho4.row (ho.row.below hb4) (by omega) false HV.out).mono ?_
          rintro e w5 ⟨rfl, hb5⟩
          have hq5 := below_th hq4 hb5
          have hz5 := hoz.below (below_th (below_th hb3 hb4) hb5)
          go_wp2
          go_roundw
          case rel => exact ⟨N + 1, L, _, _, _, by omega, by go_num, rfl, by rw [HY.out]; exact hz5, hq5⟩
          case measure => simp [intOf]; omega
      · obtain rfl : N = K := by omega
        go_wp2
        go_ret2
        exact ⟨az, L, cz, vz, by rw [HCS.out]; rfl, by rw [HCS.out]; exact hoz.mono hBX.size, hBX.trans (hq.mono hBX.size)⟩
  · have HCS : Hid (colsC n s f g xs = ([], 3)) := Lib.hid (by unfold colsC; rw [if_neg (by omega)])
    clear h5
    go_wp2
    go_ret2
    exact ⟨none, 0, 0, [], by rw [HCS.out]; rfl, by rw [HCS.out]; exact OwnT.nil _ _, hB⟩
def colsF (f g : List (List Int)) (s : Int) (xs : List Int) : List (List Int) × Int := if codeF f g s xs = 0 then colsC f.length s.toNat f g xs else ([], 1)
set_option maxHeartbeats 4000000 in
theorem impl_Cols_l (a : Option Addr) (n c : Nat) (f : List (List Int)) (a' : Option Addr) (n' c' : Nat) (g : List (List Int)) (s : Int) (ab : Option Addr) (nb cb : Nat) (xs : List Int) (w : World) (h1 : Sol w a n f a' n' g) (hm : n ≤ 9223372036854775807 ∧ n' ≤ 9223372036854775807) (hs : I64 s) (hr : Row w ab nb xs) (hnb : nb ≤ 9223372036854775807) (hx : I64s xs) :
    Calls Tryz.prog 56 #[sAgg a n c a' n' c', bAgg s ab nb cb] w (RetT w (colsF f g s xs).1 (colsF f g s xs).2) := by
  obtain ⟨hm1, hm2⟩ := hm
  have hfl := h1.f.len
  by_cases q1 : isSol f g = true
  rotate_left
  · replace q1 : isSol f g = false := by simpa using q1
    have hq : colsF f g s xs = ([], 1) := by unfold colsF codeF; rw [q1]; rfl
    rw [hq]
    have H1 := Lib.hid q1
    clear q1 hq hfl
    have hA := (Loc.new w rfl #[.slice a n c, .slice a' n' c'] 29).alloc (.cells #[.int .i64 s, .slice ab nb cb] 56)
    have hE := Loc.new (w.alloc (.cells #[.slice a n c, .slice a' n' c'] 29)) rfl #[.int .i64 s, .slice ab nb cb] 56
    rw [size_alloc] at hE
    have hB := below_al (below_al (Below.refl w.heap.size w) (.cells #[.slice a n c, .slice a' n' c'] 29)) (.cells #[.int .i64 s, .slice ab nb cb] 56)
    go_enter Tryz.func56, Tryz.ntmps56
    go_wp2_with fail
    generalize (w.alloc (.cells #[.slice a n c, .slice a' n' c'] 29)).alloc (.cells #[.int .i64 s, .slice ab nb cb] 56) = w0 at *
    have lA := hA.two
    have lE := hE.two
    refine (isSolution_any _ _ _ _ _ _ _ _ _ (h1.f.below hB) (h1.s.below hB) hm1 hm2).mono ?_
    rintro e w1 ⟨rfl, hb1⟩
    rw [H1.out]
    go_wp2
    go_ret2
    exact ⟨none, 0, 0, [], rfl, OwnT.nil _ _, below_th hB hb1⟩
  have H1 := Lib.hid q1
  by_cases q2 : isBr s xs = true
  rotate_left
  · replace q2 : isBr s xs = false := by simpa using q2
    have hq : colsF f g s xs = ([], 1) := by unfold colsF codeF; rw [q1, q2]; rfl
    rw [hq]
    have H2 := Lib.hid q2
    clear q1 q2 hq hfl
    have hA := (Loc.new w rfl #[.slice a n c, .slice a' n' c'] 29).alloc (.cells #[.int .i64 s, .slice ab nb cb] 56)
    have hE := Loc.new (w.alloc (.cells #[.slice a n c, .slice a' n' c'] 29)) rfl #[.int .i64 s, .slice ab nb cb] 56
    rw [size_alloc] at hE
    have hB := below_al (below_al (Below.refl w.heap.size w) (.cells #[.slice a n c, .slice a' n' c'] 29)) (.cells #[.int .i64 s, .slice ab nb cb] 56)
    go_enter Tryz.func56, Tryz.ntmps56
    go_wp2_with fail
    generalize (w.alloc (.cells #[.slice a n c, .slice a' n' c'] 29)).alloc (.cells #[.int .i64 s, .slice ab nb cb] 56) = w0 at *
    have lA := hA.two
    have lE := hE.two
    refine (isSolution_any _ _ _ _ _ _ _ _ _ (h1.f.below hB) (h1.s.below hB) hm1 hm2).mono ?_
    rintro e w1 ⟨rfl, hb1⟩
    rw [H1.out]
    have lE1 := (hE.below hb1 hE.lt).two
    go_wp2_with fail
    refine (isBraid_any _ _ _ _ xs _ (hr.below (below_th hB hb1)) hnb).mono ?_
    rintro e w2 ⟨rfl, hb2⟩
    rw [H2.out]
    go_wp2
    go_ret2
    exact ⟨none, 0, 0, [], rfl, OwnT.nil _ _, below_th (below_th hB hb1) hb2⟩
  have H2 := Lib.hid q2
  obtain ⟨hn1, hn12, sf, sg⟩ := isSol_sq q1
  have hl2 : n' = n := by rw [h1.s.len, hfl]; have := sg.len; omega
  subst hl2
  have hs26 := (isBr_let q2).1
  obtain ⟨S, rfl⟩ : ∃ S : Nat, s = S := ⟨s.toNat, by omega⟩
  have hq : colsF f g S xs = colsC n' S f g xs := by unfold colsF codeF; rw [q1, q2, ← hfl]; simp
  rw [hq]
  clear q1 q2 hq hfl sf sg hs26 hn1 hn12
  have hA := (Loc.new w rfl #[.slice a n' c, .slice a' n' c'] 29).alloc (.cells #[.int .i64 S, .slice ab nb cb] 56)
  have hE := Loc.new (w.alloc (.cells #[.slice a n' c, .slice a' n' c'] 29)) rfl #[.int .i64 S, .slice ab nb cb] 56
  rw [size_alloc] at hE
  have hB := below_al (below_al (Below.refl w.heap.size w) (.cells #[.slice a n' c, .slice a' n' c'] 29)) (.cells #[.int .i64 S, .slice ab nb cb] 56)
  go_enter Tryz.func56, Tryz.ntmps56
  go_wp2_with fail
  generalize (w.alloc (.cells #[.slice a n' c, .slice a' n' c'] 29)).alloc (.cells #[.int .i64 S, .slice ab nb cb] 56) = w0 at *
  have lA := hA.two
  have lE := hE.two
  refine (isSolution_any _ _ _ _ _ _ _ _ _ (h1.f.below hB) (h1.s.below hB) hm1 hm2).mono ?_
  rintro e w1 ⟨rfl, hb1⟩
  rw [H1.out]
  have hB1 := below_th hB hb1
  have hA1 := hA.below hb1 hA.lt
  have hE1 := hE.below hb1 hE.lt
  have lE1 := hE1.two
  go_wp2_with fail
  refine (isBraid_any _ _ _ _ xs _ (hr.below hB1) hnb).mono ?_
  rintro e w2 ⟨rfl, hb2⟩
  rw [H2.out]
  have hB2 := below_th hB1 hb2
  have lA2 := (hA1.below hb2 hA1.lt).two
  have lE2 := (hE1.below hb2 hE1.lt).two
  go_wp2_with fail
  refine (colouringsOf_any _ _ _ _ _ f g S _ _ _ xs _ (h1.f.below hB2) (h1.s.below hB2) H1.out (hr.below hB2) H2.out).mono ?_
  rintro e w3 ⟨a3, n3, c3, vs3, rfl, ho3, hb3⟩
  go_wp2
  go_ret2
  exact ⟨_, _, _, vs3, rfl, ho3.mono hB2.size, below_th hB2 hb3⟩
set_option maxHeartbeats 1000000 in
theorem impl_Cnt_l (a : Option Addr) (n c : Nat) (f : List (List Int)) (a' : Option Addr) (n' c' : Nat) (g : List (List Int)) (s : Int) (ab : Option Addr) (nb cb : Nat) (xs : List Int) (w : World) (h1 : Sol w a n f a' n' g) (hm : n ≤ 9223372036854775807 ∧ n' ≤ 9223372036854775807) (hs : I64 s) (hr : Row w ab nb xs) (hnb : nb ≤ 9223372036854775807) (hx : I64s xs) :
    Calls Tryz.prog 23 #[sAgg a n c a' n' c', bAgg s ab nb cb] w (RetI w ((colsF f g s xs).1.length : Int) (colsF f g s xs).2) := by
  have hA := (Loc.new w rfl #[.slice a n c, .slice a' n' c'] 29).alloc (.cells #[.int .i64 s, .slice ab nb cb] 56)
  have hE := Loc.new (w.alloc (.cells #[.slice a n c, .slice a' n' c'] 29)) rfl #[.int .i64 s, .slice ab nb cb] 56
  rw [size_alloc] at hE
  have hB := below_al (below_al (Below.refl w.heap.size w) (.cells #[.slice a n c, .slice a' n' c'] 29)) (.cells #[.int .i64 s, .slice ab nb cb] 56)
  go_enter Tryz.func23, Tryz.ntmps23
  go_wp2_with fail
  generalize (w.alloc (.cells #[.slice a n c, .slice a' n' c'] 29)).alloc (.cells #[.int .i64 s, .slice ab nb cb] 56) = w0 at *
  have lA := hA.two
  have lE := hE.two
  refine (impl_Cols_l _ _ _ f _ _ _ g _ _ _ _ xs _ ⟨h1.f.below hB, h1.s.below hB⟩ hm hs (hr.below hB) hnb hx).mono ?_
  rintro e w1 ⟨a1, n1, c1, vs1, rfl, ho, hb1⟩
  have hl := Lib.hid ho.len
  go_wp2
  go_ret2
  exact ⟨by rw [← hl.out]; rfl, below_th hB hb1⟩
end Go.Proofs.YtiliimkfobfbnaaGreat
namespace Go.Proofs.YtiliimkfobfbnaaGreat
set_option maxRecDepth 100000
set_option linter.unusedVariables false
set_option linter.unusedSimpArgs false
theorem ybe_of {f g : List (List Int)} (h : isSol f g = true) (hr : f.all permOk = true) : Ybe f.length f g := by
  obtain ⟨h1, h12, sf, sg⟩ := isSol_sq h
  have hc := isSol_coll h
  have he : eqOk f.length f g = true := by unfold isSol at h; rw [Bool.and_eq_true, Bool.and_eq_true] at h; exact h.2.2
  refine ⟨sf, sg, h1, hc, fun x y z hx hy hz => (eqOk_at he hx hy hz).1, fun x y z hx hy hz => (eqOk_at he hx hy hz).2.1, fun x y z hx hy hz => (eqOk_at he hx hy hz).2.2, fun x hx => permOk_isP (sf.row hx) ?_⟩
  refine List.all_eq_true.1 hr _ ?_
  rw [List.getD_eq_getElem?_getD, List.getElem?_eq_getElem hx]
  exact List.getElem_mem hx
theorem less_pair {n a b : Nat} (ha : a < n) (hb : b < n) : Less n [(a : Int), (b : Int)] := cons_less ha (cons_less hb fun i hi => absurd hi (by simp))
section
variable {n : Nat} {f g : List (List Int)}
theorem Ybe.gu_pair (h : Ybe n f g) {a b : Nat} (ha : a < n) (hb : b < n) : guL f [(a : Int), ((bkN f a b : Nat) : Int)] = [(a : Int), (b : Int)] := by
  simp only [guL, List.map_cons, List.map_nil, Int.toNat_natCast, (h.bk ha hb).2]
theorem Ybe.injT (h : Ybe n f g) : InjP n (twF n) (twG n f g) := by
  intro a b c d ha hb hc hd h1 h2
  have l1 := less_pair ha (h.bk ha hb).1
  have l2 := less_pair hc (h.bk hc hd).1
  have e : guL f (doF f g 0 [(a : Int), ((bkN f a b : Nat) : Int)]) = guL f (doF f g 0 [(c : Int), ((bkN f c d : Nat) : Int)]) := by
    rw [h.gu_do 0 _ (by simp) l1, h.gu_do 0 _ (by simp) l2, h.gu_pair ha hb, h.gu_pair hc hd, doF_zero, doF_zero]
    simp only [Int.toNat_natCast, h1, h2]
  have e2 := h.gu_inj _ _ (l1.do_ h.sf h.sg 0 (by simp)) (l2.do_ h.sf h.sg 0 (by simp)) e
  have e3 := doF_inj (coll_injP h.pos h.coll) (by simp) (by simp) l1 l2 e2
  have e4 : guL f [(a : Int), ((bkN f a b : Nat) : Int)] = guL f [(c : Int), ((bkN f c d : Nat) : Int)] := by rw [e3]
  rw [h.gu_pair ha hb, h.gu_pair hc hd] at e4
  simp only [List.cons.injEq, and_true] at e4
  exact ⟨by omega, by omega⟩
theorem Ybe.collT (h : Ybe n f g) : collOk n (twF n) (twG n f g) = true := coll_of h.pos h.injT
theorem three_l (p q : List (List Int)) (x y z : Nat) : doF p q 0 (doF p q 1 (doF p q 0 [(x : Int), (y : Int), (z : Int)])) = [((tv p (tv p x y) (tv p (tv q x y) z) : Nat) : Int), ((tv q (tv p x y) (tv p (tv q x y) z) : Nat) : Int), ((tv q (tv q x y) z : Nat) : Int)] := by
  simp only [doF_zero, doF_cons, Int.toNat_natCast]
theorem three_r (p q : List (List Int)) (x y z : Nat) : doF p q 1 (doF p q 0 (doF p q 1 [(x : Int), (y : Int), (z : Int)])) = [((tv p x (tv p y z) : Nat) : Int), ((tv p (tv q x (tv p y z)) (tv q y z) : Nat) : Int), ((tv q (tv q x (tv p y z)) (tv q y z) : Nat) : Int)] := by
  simp only [doF_zero, doF_cons, Int.toNat_natCast]
theorem three_lit {l : List Int} (hl : l.length = 3) (h : Less n l) : ∃ x y z : Nat, x < n ∧ y < n ∧ z < n ∧ l = [(x : Int), (y : Int), (z : Int)] := by
  match l, hl, h with
  | [a, b, c], _, h =>
    obtain ⟨⟨x, hx, rfl⟩, h2⟩ := less_cons h
    obtain ⟨⟨y, hy, rfl⟩, h3⟩ := less_cons h2
    obtain ⟨⟨z, hz, rfl⟩, _⟩ := less_cons h3
    exact ⟨x, y, z, hx, hy, hz, rfl⟩
theorem Ybe.eqT (h : Ybe n f g) : eqOk n (twF n) (twG n f g) = true := by
  refine eqOk_of fun x y z hx hy hz => ?_
  obtain ⟨l, hl, hlen, el⟩ := h.gu_sur [(x : Int), (y : Int), (z : Int)] (cons_less hx (less_pair hy hz))
  obtain ⟨a, b, c, ha, hb, hc, rfl⟩ := three_lit (by simpa using hlen) hl
  have e : doF f g 0 (doF f g 1 (doF f g 0 [(a : Int), (b : Int), (c : Int)])) = doF f g 1 (doF f g 0 (doF f g 1 [(a : Int), (b : Int), (c : Int)])) := by
    rw [three_l, three_r, h.one a b c ha hb hc, h.two a b c ha hb hc, h.three a b c ha hb hc]
  have L := fun (i : Nat) (hi : i + 1 < 3) (m : List Int) (hm : m.length = 3) (hL : Less n m) => (⟨hL.do_ h.sf h.sg i (by omega), by rw [doF_len]; exact hm⟩ : Less n (doF f g i m) ∧ (doF f g i m).length = 3)
  have m0 : ([(a : Int), (b : Int), (c : Int)] : List Int).length = 3 := rfl
  obtain ⟨a1, a2⟩ := L 0 (by omega) _ m0 hl
  obtain ⟨a3, a4⟩ := L 1 (by omega) _ a2 a1
  obtain ⟨b1, b2⟩ := L 1 (by omega) _ m0 hl
  obtain ⟨b3, b4⟩ := L 0 (by omega) _ b2 b1
  have e2 := congrArg (guL f) e
  rw [h.gu_do 0 _ (by omega) a3, h.gu_do 1 _ (by omega) a1, h.gu_do 0 _ (by simp) hl, h.gu_do 1 _ (by omega) b3, h.gu_do 0 _ (by omega) b1, h.gu_do 1 _ (by simp) hl, el, three_l, three_r] at e2
  simp only [List.cons.injEq, and_true] at e2
  exact ⟨by omega, by omega, by omega⟩
theorem rowOk_of {m : Nat} {xs : List Int} (hl : xs.length = m) (h : ∀ y, y < m → 0 ≤ xs.getD y 0 ∧ xs.getD y 0 < m) : rowOk (m : Int) (m : Int) xs = true := by
  unfold rowOk
  rw [Bool.and_eq_true]
  refine ⟨decide_eq_true (by omega), List.all_eq_true.2 fun x hx => ?_⟩
  obtain ⟨i, hi, rfl⟩ := List.getElem_of_mem hx
  have := h i (by omega)
  rw [List.getD_eq_getElem?_getD, List.getElem?_eq_getElem hi, Option.getD_some] at this
  unfold rngB
  simp; omega
theorem isTab_of {t : List (List Int)} (h1 : 1 ≤ n) (h12 : n ≤ 12) (h : Sq n t) : isTab t = true := by
  unfold isTab
  rw [Bool.and_eq_true, h.len]
  refine ⟨by unfold rngB; simp; omega, List.all_eq_true.2 fun r hr => ?_⟩
  obtain ⟨i, hi, rfl⟩ := List.getElem_of_mem hr
  have hin : i < n := by rw [h.len] at hi; exact hi
  have e : t.getD i [] = t[i] := by simp [List.getD_eq_getElem?_getD, List.getElem?_eq_getElem hi]
  have hl := h.row hin
  rw [e] at hl
  refine rowOk_of hl fun y hy => ?_
  have := h.val hin hy
  have h2 := h.lt hin hy
  rw [e] at this
  omega
theorem isSol_of {p q : List (List Int)} (h1 : 1 ≤ n) (h12 : n ≤ 12) (hp : Sq n p) (hq : Sq n q) (hc : collOk n p q = true) (he : eqOk n p q = true) : isSol p q = true := by
  unfold isSol isPm
  rw [isTab_of h1 h12 hp, isTab_of h1 h12 hq, hp.len, hq.len, hc, he]
  simp
theorem Ybe.solT (h : Ybe n f g) (h12 : n ≤ 12) : isSol (twF n) (twG n f g) = true := isSol_of h.pos h12 h.sqF h.sqG h.collT h.eqT
theorem Ybe.gu_step (h : Ybe n f g) {x : Int} {l : List Int} (hx : x ≠ 0) (hi : (plc x).toNat + 1 < l.length) (hl : Less n l) : guL f (stepL n f g x l) = stepL n (twF n) (twG n f g) x (guL f l) := by
  have pos : ∀ {x : Int} {l : List Int}, 0 < x → (plc x).toNat + 1 < l.length → Less n l → guL f (stepL n f g x l) = stepL n (twF n) (twG n f g) x (guL f l) := by
    intro x l hx hi hl
    unfold stepL
    rw [if_pos hx, if_pos hx]
    exact h.gu_do _ l hi hl
  by_cases q : 0 < x
  · exact pos q hi hl
  · have h1 := hl.step h.pos h.sf h.sg h.coll x hi
    have hlen : (stepL n f g x l).length = l.length := stepL_len _ _ _ _ _
    have hi' : (plc (-x)).toNat + 1 < (stepL n f g x l).length := by rw [plc_neg hx, hlen]; exact hi
    have e := pos (x := -x) (by omega) hi' h1
    rw [step_back h.pos h.sf h.sg h.coll hx hi hl] at e
    rw [e]
    have hG := h.gu_less _ h1
    have := step_back h.pos h.sqF h.sqG h.collT (x := -x) (l := guL f (stepL n f g x l)) (by omega) (by rw [guL_len]; exact hi') hG
    rw [Int.neg_neg] at this
    exact this.symm
theorem Ybe.gu_act (h : Ybe n f g) : ∀ (xs l : List Int), (∀ x ∈ xs, x ≠ 0 ∧ (plc x).toNat + 1 < l.length) → Less n l → guL f (actL n f g xs l) = actL n (twF n) (twG n f g) xs (guL f l) := by
  intro xs
  induction xs with
  | nil => intro l _ _; rfl
  | cons x xs ih =>
    intro l hx hl
    have h0 := hx x (by simp)
    have e1 : actL n f g (x :: xs) l = actL n f g xs (stepL n f g x l) := rfl
    have e2 : ∀ m, actL n (twF n) (twG n f g) (x :: xs) m = actL n (twF n) (twG n f g) xs (stepL n (twF n) (twG n f g) x m) := fun m => rfl
    rw [e1, ih _ (fun y hy => by rw [stepL_len]; exact hx y (by simp [hy])) (hl.step h.pos h.sf h.sg h.coll x h0.2), h.gu_step h0.1 h0.2 hl, e2]
theorem filt_perm {K : Nat} {F : Nat → Nat} (h : PermN F K) {p q : Nat → Bool} (e : ∀ N, N < K → p N = q (F N)) : ((List.range K).filter p).length = ((List.range K).filter q).length := by
  have hnd : ((List.range K).map F).Nodup := by
    rw [List.nodup_iff_pairwise_ne, List.pairwise_map]
    refine List.Pairwise.imp_of_mem ?_ List.pairwise_lt_range
    intro a b ha hb hab e2
    have := h.inj a b (List.mem_range.1 ha) (List.mem_range.1 hb) e2
    omega
  have hp : ((List.range K).map F).Perm (List.range K) := (List.perm_ext_iff_of_nodup hnd List.nodup_range).2 fun a => by
    rw [List.mem_map, List.mem_range]
    constructor
    · rintro ⟨i, hi, rfl⟩
      exact h.lt i (List.mem_range.1 hi)
    · intro ha
      obtain ⟨i, hi, e3⟩ := inj_surj K F h.lt h.inj a ha
      exact ⟨i, List.mem_range.2 hi, e3⟩
  have h2 := (hp.filter q).length_eq
  rw [List.filter_map, List.length_map] at h2
  rw [← h2]
  congr 1
  exact List.filter_congr fun N hN => e N (List.mem_range.1 hN)
theorem Ybe.cnt (h : Ybe n f g) {s : Nat} {xs : List Int} (hx : ∀ x ∈ xs, x ≠ 0 ∧ (plc x).toNat + 1 < s) : (colsL n s (twF n) (twG n f g) xs).length = (colsL n s f g xs).length := by
  have hd : ∀ N, Less n (guL f (digL n s N)) ∧ (guL f (digL n s N)).length = s := fun N => ⟨h.gu_less _ (digL_less n s N h.pos), by rw [guL_len, digL_len]⟩
  have hF : PermN (fun N => numL n (guL f (digL n s N))) (n ^ s) := by
    refine ⟨fun i hi => ?_, fun i j hi hj e => ?_⟩
    · have := numL_lt h.pos (hd i).1
      rw [(hd i).2] at this; exact this
    · have e1 := (num_inj h.pos _ _ 0 0 (by rw [(hd i).2, (hd j).2]) (hd i).1.mem (hd j).1.mem e).2
      have e2 := h.gu_inj _ _ (digL_less n s i h.pos) (digL_less n s j h.pos) e1
      rw [← numL_dig s i hi, ← numL_dig s j hj, e2]
  unfold colsL colsK
  rw [List.length_map, List.length_map]
  symm
  refine filt_perm hF fun N hN => ?_
  unfold colAt
  rw [digL_num h.pos (hd N).2 (hd N).1, ← h.gu_act xs (digL n s N) (fun x hx' => by rw [digL_len]; exact hx x hx') (digL_less n s N h.pos)]
  have hact : Less n (actL n f g xs (digL n s N)) := (digL_less n s N h.pos).act h.pos h.sf h.sg h.coll xs fun x hx' => by rw [digL_len]; exact (hx x hx').2
  by_cases e : actL n f g xs (digL n s N) = digL n s N
  · rw [e]; simp
  · rw [decide_eq_false e]
    symm
    rw [decide_eq_false_iff_not]
    exact fun e2 => e (h.gu_inj _ _ hact (digL_less n s N h.pos) e2)
theorem permOk_of {p : List Int} {F : Nat → Nat} (hl : p.length = n) (hv : ∀ i, i < n → p.getD i 0 = (F i : Int)) (h : PermN F n) : permOk p = true := by
  unfold permOk allN
  rw [hl, List.all_eq_true]
  intro x hx
  obtain ⟨i, hi, e⟩ := inj_surj n F h.lt h.inj x (List.mem_range.1 hx)
  rw [List.contains_iff_mem]
  have hi2 : i < p.length := by omega
  have := hv i hi
  rw [List.getD_eq_getElem?_getD, List.getElem?_eq_getElem hi2, Option.getD_some, e] at this
  rw [← this]
  exact List.getElem_mem hi2
theorem Ybe.rk (h : Ybe n f g) (h12 : n ≤ 12) : isRk (drL n f g) = true := by
  have hR : ∀ x y, x < n → y < n → tv (drL n f g) x y = drN f g x y := fun x y hx hy => tv_tab hx hy
  unfold isRk
  rw [isTab_of h.pos h12 h.sqR, Bool.true_and, Bool.and_eq_true, h.sqR.len]
  constructor
  · rw [List.all_eq_true]
    intro r hr
    obtain ⟨x, hx, rfl⟩ := List.getElem_of_mem hr
    have hxn : x < n := by rw [h.sqR.len] at hx; exact hx
    have e : (drL n f g).getD x [] = (drL n f g)[x] := by simp [List.getD_eq_getElem?_getD, List.getElem?_eq_getElem hx]
    rw [← e]
    refine permOk_of (F := fun y => drN f g x y) (h.sqR.row hxn) (fun y hy => by rw [h.sqR.val hxn hy, hR x y hxn hy]) ⟨fun y hy => h.dr_lt hxn hy, fun y z hy hz e2 => ?_⟩
    exact (h.injT y x z x hy hxn hz hxn (by rw [tw_f hy hxn, tw_f hz hxn]) (by rw [h.tw_g hy hxn, h.tw_g hz hxn]; exact e2)).1
  · unfold rkOk allN
    simp only [List.all_eq_true, List.mem_range]
    intro x hx y hy z hz
    unfold rkAt
    rw [decide_eq_true_eq, hR y z hy hz, hR x y hx hy, hR x z hx hz, hR _ _ hx (h.dr_lt hy hz), hR _ _ (h.dr_lt hx hy) (h.dr_lt hx hz)]
    have e := (eqOk_at h.eqT hz hy hx).2.2
    rw [tw_f hy hx, h.tw_g hz hy, h.tw_g hy hx, h.tw_g hz hx, h.tw_g (h.dr_lt hy hz) hx, h.tw_g (h.dr_lt hx hz) (h.dr_lt hx hy)] at e
    exact e
end
theorem isRk_sq {t : List (List Int)} (h : isRk t = true) : 1 ≤ t.length ∧ t.length ≤ 12 ∧ Sq t.length t := by
  unfold isRk at h; rw [Bool.and_eq_true] at h; exact isTab_sq h.1
theorem cnt_carried {f g : List (List Int)} (h : isSol f g = true) (hr : f.all permOk = true) (s : Int) (xs : List Int) : (colsF (twF f.length) (twG f.length f g) s xs).1.length = (colsF f g s xs).1.length ∧ (colsF (twF f.length) (twG f.length f g) s xs).2 = (colsF f g s xs).2 := by
  have hY := ybe_of h hr
  have h12 := (isSol_sq h).2.1
  have hT := hY.solT h12
  have hl : (twF f.length).length = f.length := hY.sqF.len
  unfold colsF codeF
  rw [h, hT, hl]
  by_cases hb : isBr s xs = true
  · rw [if_pos hb]
    simp only [if_true]
    unfold colsC
    split
    · obtain ⟨S, rfl⟩ : ∃ S : Nat, s = S := ⟨s.toNat, by have := (isBr_let hb).1; omega⟩
      refine ⟨?_, rfl⟩
      rw [Int.toNat_natCast]
      exact hY.cnt (br_plc hb)
    · exact ⟨rfl, rfl⟩
  · rw [if_neg hb]; simp
def trnL (n : Nat) (t : List (List Int)) : List (List Int) := tabF n fun x y => ((tv t y x : Nat) : Int)
theorem trnL_tv {n : Nat} {t : List (List Int)} {x y : Nat} (hx : x < n) (hy : y < n) : tv (trnL n t) x y = tv t y x := by
  unfold trnL
  conv => lhs; unfold tv
  rw [tabF_get _ _ _ hx]
  simp only [List.getD_eq_getElem?_getD, List.getElem?_map, List.getElem?_range hy, Option.map_some, Option.getD_some, Int.toNat_natCast]
  simp only [tv, List.getD_eq_getElem?_getD]
theorem trnL_sq {n : Nat} {t : List (List Int)} (h : Sq n t) : Sq n (trnL n t) := by
  refine ⟨tabF_len _ _, fun x hx => ?_⟩
  have e : (trnL n t).getD x [] = (List.range n).map fun y => ((tv t y x : Nat) : Int) := tabF_get _ _ _ hx
  refine ⟨by rw [e]; simp, fun y hy => ⟨by rw [trnL_tv hx hy]; exact h.lt hy hx, ?_⟩⟩
  rw [trnL_tv hx hy, e]
  simp [List.getD_eq_getElem?_getD, hy]
def ndF (f g : List (List Int)) : Bool := f.all permOk && (trnL f.length g).all permOk
end Go.Proofs.YtiliimkfobfbnaaGreat
