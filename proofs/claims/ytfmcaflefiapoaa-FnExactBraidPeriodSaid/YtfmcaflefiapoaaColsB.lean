/-
  ColouringsOf and CountColourings: what the program's and the reference's compute.
  No condition but bounds on lengths.
-/
import Derived.Test.YtfmcaflefiapoaaColsS
import Derived.Test.YtfmcaflefiapoaaCodeS
import Derived.Test.YtfmcaflefiapoaaBase
namespace Go.Proofs.Ytfmcaflefiapoaa
set_option maxRecDepth 100000
set_option linter.unusedVariables false
set_option linter.unusedSimpArgs false
open Go.RowKit

/-- what ColouringsOf hands back -/
def colsF (f g : List (List Int)) (s : Int) (xs : List Int) : List (List Int) × Int := if codeF f g s xs = 0 then colsC f.length s.toNat f g xs else ([], 1)
theorem colsC_len {n s : Nat} {f g : List (List Int)} {xs : List Int} (hs : s ≤ 6) : tot (colsC n s f g xs).1 ≤ 30000 := by
  unfold colsC
  split
  · rename_i h
    have := colsK_tot (n := n) (s := s) (f := f) (g := g) (xs := xs) (k := n ^ s)
    have h2 : n ^ s * s ≤ 5000 * 6 := Nat.mul_le_mul h hs
    show tot (colsK n s f g xs (n ^ s)) ≤ _
    omega
  · simp [tot]
theorem Cols_len (f g : List (List Int)) (s : Int) (xs : List Int) : tot (colsF f g s xs).1 ≤ 1000000 := by
  unfold colsF
  split
  · rename_i h
    have h2 := (isBr_let (codeF_zero h).2).1
    have := colsC_len (n := f.length) (f := f) (g := g) (xs := xs) (s := s.toNat) (by omega)
    omega
  · simp [tot]
theorem codeF_one {f g : List (List Int)} {s : Int} {xs : List Int} (h : ¬ codeF f g s xs = 0) : codeF f g s xs = 1 := by
  unfold codeF at *
  by_cases h1 : isSol f g = true
  · rw [if_pos h1] at h ⊢
    by_cases h2 : isBr s xs = true
    · rw [if_pos h2] at h; omega
    · rw [if_neg h2]
  · rw [if_neg h1]

set_option maxHeartbeats 4000000 in
theorem impl_Cols_l (a : Option Addr) (n c : Nat) (f : List (List Int)) (a' : Option Addr) (n' c' : Nat) (g : List (List Int)) (s : Int) (ab : Option Addr) (nb cb : Nat) (xs : List Int) (w : World) (h1 : Sol w a n f a' n' g) (hm : n ≤ 9223372036854775807 ∧ n' ≤ 9223372036854775807) (hs : I64 s) (hr : Row w ab nb xs) (hnb : nb ≤ 9223372036854775807) (hx : I64s xs) :
    Calls Try.prog 36 #[sAgg a n c a' n' c', bAgg s ab nb cb] w (RetT w (colsF f g s xs).1 (colsF f g s xs).2) := by
  obtain ⟨hm1, hm2⟩ := hm
  have hfl := h1.f.len
  by_cases q1 : isSol f g = true
  rotate_left
  · replace q1 : isSol f g = false := by simpa using q1
    have hq : colsF f g s xs = ([], 1) := by unfold colsF codeF; rw [q1]; rfl
    rw [hq]
    have H1 := Lib.hid q1
    clear q1 hq hfl
    have hA := (Loc.new w rfl #[.slice a n c, .slice a' n' c'] 33).alloc (.cells #[.int .i64 s, .slice ab nb cb] 36)
    have hE := Loc.new (w.alloc (.cells #[.slice a n c, .slice a' n' c'] 33)) rfl #[.int .i64 s, .slice ab nb cb] 36
    rw [size_alloc] at hE
    have hB := below_al (below_al (Below.refl w.heap.size w) (.cells #[.slice a n c, .slice a' n' c'] 33)) (.cells #[.int .i64 s, .slice ab nb cb] 36)
    go_enter Try.func36, Try.ntmps36
    go_wp2_with fail
    generalize (w.alloc (.cells #[.slice a n c, .slice a' n' c'] 33)).alloc (.cells #[.int .i64 s, .slice ab nb cb] 36) = w0 at *
    have lA := hA.two
    have lE := hE.two
    refine (isSolution_any _ _ _ _ _ _ _ _ _ (h1.f.below hB) (h1.s.below hB) hm1 hm2).mono ?_
    rintro e w1 ⟨rfl, hb1⟩
    rw [H1.out]
    go_wp2
    go_ret2
    exact ⟨none, 0, 0, [], rfl, OwnT.nil _ _, below_th hB hb1⟩
  have H1 := Lib.hid q1
  by_cases q2 : isBr s xs = true
  rotate_left
  · replace q2 : isBr s xs = false := by simpa using q2
    have hq : colsF f g s xs = ([], 1) := by unfold colsF codeF; rw [q1, q2]; rfl
    rw [hq]
    have H2 := Lib.hid q2
    clear q1 q2 hq hfl
    have hA := (Loc.new w rfl #[.slice a n c, .slice a' n' c'] 33).alloc (.cells #[.int .i64 s, .slice ab nb cb] 36)
    have hE := Loc.new (w.alloc (.cells #[.slice a n c, .slice a' n' c'] 33)) rfl #[.int .i64 s, .slice ab nb cb] 36
    rw [size_alloc] at hE
    have hB := below_al (below_al (Below.refl w.heap.size w) (.cells #[.slice a n c, .slice a' n' c'] 33)) (.cells #[.int .i64 s, .slice ab nb cb] 36)
    go_enter Try.func36, Try.ntmps36
    go_wp2_with fail
    generalize (w.alloc (.cells #[.slice a n c, .slice a' n' c'] 33)).alloc (.cells #[.int .i64 s, .slice ab nb cb] 36) = w0 at *
    have lA := hA.two
    have lE := hE.two
    refine (isSolution_any _ _ _ _ _ _ _ _ _ (h1.f.below hB) (h1.s.below hB) hm1 hm2).mono ?_
    rintro e w1 ⟨rfl, hb1⟩
    rw [H1.out]
    have lE1 := (hE.below hb1 hE.lt).two
    go_wp2_with fail
    refine (isBraid_any _ _ _ _ xs _ (hr.below (below_th hB hb1)) hnb).mono ?_
    rintro e w2 ⟨rfl, hb2⟩
    rw [H2.out]
    go_wp2
    go_ret2
    exact ⟨none, 0, 0, [], rfl, OwnT.nil _ _, below_th (below_th hB hb1) hb2⟩
  have H2 := Lib.hid q2
  obtain ⟨hn1, hn12, sf, sg⟩ := isSol_sq q1
  have hl2 : n' = n := by rw [h1.s.len, hfl]; have := sg.len; omega
  subst hl2
  have hs26 := (isBr_let q2).1
  obtain ⟨S, rfl⟩ : ∃ S : Nat, s = S := ⟨s.toNat, by omega⟩
  have hq : colsF f g S xs = colsC n' S f g xs := by unfold colsF codeF; rw [q1, q2, ← hfl]; simp
  rw [hq]
  clear q1 q2 hq hfl sf sg hs26 hn1 hn12
  have hA := (Loc.new w rfl #[.slice a n' c, .slice a' n' c'] 33).alloc (.cells #[.int .i64 S, .slice ab nb cb] 36)
  have hE := Loc.new (w.alloc (.cells #[.slice a n' c, .slice a' n' c'] 33)) rfl #[.int .i64 S, .slice ab nb cb] 36
  rw [size_alloc] at hE
  have hB := below_al (below_al (Below.refl w.heap.size w) (.cells #[.slice a n' c, .slice a' n' c'] 33)) (.cells #[.int .i64 S, .slice ab nb cb] 36)
  go_enter Try.func36, Try.ntmps36
  go_wp2_with fail
  generalize (w.alloc (.cells #[.slice a n' c, .slice a' n' c'] 33)).alloc (.cells #[.int .i64 S, .slice ab nb cb] 36) = w0 at *
  have lA := hA.two
  have lE := hE.two
  refine (isSolution_any _ _ _ _ _ _ _ _ _ (h1.f.below hB) (h1.s.below hB) hm1 hm2).mono ?_
  rintro e w1 ⟨rfl, hb1⟩
  rw [H1.out]
  have hB1 := below_th hB hb1
  have hA1 := hA.below hb1 hA.lt
  have hE1 := hE.below hb1 hE.lt
  have lE1 := hE1.two
  go_wp2_with fail
  refine (isBraid_any _ _ _ _ xs _ (hr.below hB1) hnb).mono ?_
  rintro e w2 ⟨rfl, hb2⟩
  rw [H2.out]
  have hB2 := below_th hB1 hb2
  have lA2 := (hA1.below hb2 hA1.lt).two
  have lE2 := (hE1.below hb2 hE1.lt).two
  go_wp2_with fail
  refine (colouringsOf_any _ _ _ _ _ f g S _ _ _ xs _ (h1.f.below hB2) (h1.s.below hB2) H1.out (hr.below hB2) H2.out).mono ?_
  rintro e w3 ⟨a3, n3, c3, vs3, rfl, ho3, hb3⟩
  go_wp2
  go_ret2
  exact ⟨_, _, _, vs3, rfl, ho3.mono hB2.size, below_th hB2 hb3⟩

set_option maxHeartbeats 4000000 in
theorem spec_Cols_l (a : Option Addr) (n c : Nat) (f : List (List Int)) (a' : Option Addr) (n' c' : Nat) (g : List (List Int)) (s : Int) (ab : Option Addr) (nb cb : Nat) (xs : List Int) (w : World) (h1 : Sol w a n f a' n' g) (hm : n ≤ 9223372036854775807 ∧ n' ≤ 9223372036854775807) (hs : I64 s) (hr : Row w ab nb xs) (hnb : nb ≤ 9223372036854775807) (hx : I64s xs) :
    Calls Try.prog 35 #[sAgg a n c a' n' c', bAgg s ab nb cb] w (RetT w (colsF f g s xs).1 (colsF f g s xs).2) := by
  obtain ⟨hm1, hm2⟩ := hm
  have hfl := h1.f.len
  by_cases q0 : codeF f g s xs = 0
  rotate_left
  · have e1 := codeF_one q0
    have hq : colsF f g s xs = ([], 1) := by unfold colsF; rw [if_neg q0]
    rw [hq]
    have H0 := Lib.hid e1
    clear q0 hq hfl e1
    have hA := (Loc.new w rfl #[.slice a n c, .slice a' n' c'] 33).alloc (.cells #[.int .i64 s, .slice ab nb cb] 36)
    have hE := Loc.new (w.alloc (.cells #[.slice a n c, .slice a' n' c'] 33)) rfl #[.int .i64 s, .slice ab nb cb] 36
    rw [size_alloc] at hE
    have hB := below_al (below_al (Below.refl w.heap.size w) (.cells #[.slice a n c, .slice a' n' c'] 33)) (.cells #[.int .i64 s, .slice ab nb cb] 36)
    go_enter Try.func35, Try.ntmps35
    go_wp2_with fail
    generalize (w.alloc (.cells #[.slice a n c, .slice a' n' c'] 33)).alloc (.cells #[.int .i64 s, .slice ab nb cb] 36) = w0 at *
    have lA := hA.two
    have lE := hE.two
    refine (l16Code_any _ _ _ _ _ _ f g _ _ _ _ xs _ (h1.f.below hB) (h1.s.below hB) hm1 hm2 hs (hr.below hB) hnb).mono ?_
    rintro e w1 ⟨rfl, hb1⟩
    rw [H0.out]
    go_wp2
    go_ret2
    exact ⟨none, 0, 0, [], rfl, OwnT.nil _ _, below_th hB hb1⟩
  obtain ⟨q1, q2⟩ := codeF_zero q0
  have H0 := Lib.hid q0; have H1 := Lib.hid q1; have H2 := Lib.hid q2
  obtain ⟨hn1, hn12, sf, sg⟩ := isSol_sq q1
  have hl2 : n' = n := by rw [h1.s.len, hfl]; have := sg.len; omega
  subst hl2
  have hs26 := (isBr_let q2).1
  obtain ⟨S, rfl⟩ : ∃ S : Nat, s = S := ⟨s.toNat, by omega⟩
  have hs6 : S ≤ 6 := by omega
  have hq : colsF f g S xs = colsC n' S f g xs := by unfold colsF; rw [if_pos q0, ← hfl]; simp
  rw [hq]
  rw [← hfl] at hn1 hn12
  clear q0 q1 q2 hq hfl sf sg hs26
  have hA := (Loc.new w rfl #[.slice a n' c, .slice a' n' c'] 33).alloc (.cells #[.int .i64 S, .slice ab nb cb] 36)
  have hE := Loc.new (w.alloc (.cells #[.slice a n' c, .slice a' n' c'] 33)) rfl #[.int .i64 S, .slice ab nb cb] 36
  rw [size_alloc] at hE
  have hB := below_al (below_al (Below.refl w.heap.size w) (.cells #[.slice a n' c, .slice a' n' c'] 33)) (.cells #[.int .i64 S, .slice ab nb cb] 36)
  go_enter Try.func35, Try.ntmps35
  go_wp2_with fail
  generalize (w.alloc (.cells #[.slice a n' c, .slice a' n' c'] 33)).alloc (.cells #[.int .i64 S, .slice ab nb cb] 36) = w0 at *
  have lA := hA.two
  have lE := hE.two
  refine (l16Code_any _ _ _ _ _ _ f g _ _ _ _ xs _ (h1.f.below hB) (h1.s.below hB) hm1 hm2 hs (hr.below hB) hnb).mono ?_
  rintro e w1 ⟨rfl, hb1⟩
  rw [H0.out]
  have hB1 := below_th hB hb1
  have hA1 := hA.below hb1 hA.lt
  have hE1 := hE.below hb1 hE.lt
  have lA1 := hA1.two
  have lE1 := hE1.two
  go_wp2_with fail
  refine (l16Tuples_any _ _ _ _ _ _ _ _ _ _ _ hn1 hn12 hs6).mono ?_
  rintro e w2 ⟨he, hb2⟩
  have hB2 := below_th hB1 hb2
  have lA2 := (hA1.below hb2 hA1.lt).two
  have lE2 := (hE1.below hb2 hE1.lt).two
  rcases he with ⟨h5, rfl⟩ | ⟨h5, rfl⟩
  · have HCS : Hid (colsC n' S f g xs = (colsK n' S f g xs (n' ^ S), 0)) := Lib.hid (by unfold colsC; rw [if_pos h5]; rfl)
    generalize n' ^ S = K at *
    go_wp2_with fail
    refine (l17Colourings_any _ _ _ _ _ f g S _ _ _ xs K _ (h1.f.below hB2) (h1.s.below hB2) H1.out (hr.below hB2) H2.out h5).mono ?_
    rintro e w3 ⟨a3, n3, c3, vs3, rfl, ho3, hb3⟩
    go_wp2
    go_ret2
    exact ⟨a3, n3, c3, vs3, by rw [HCS.out]; rfl, by rw [HCS.out]; exact ho3.mono hB2.size, below_th hB2 hb3⟩
  · have HCS : Hid (colsC n' S f g xs = ([], 3)) := Lib.hid (by unfold colsC; rw [if_neg (by omega)])
    clear h5
    go_wp2
    go_ret2
    exact ⟨none, 0, 0, [], by rw [HCS.out]; rfl, by rw [HCS.out]; exact OwnT.nil _ _, hB2⟩

set_option maxHeartbeats 1000000 in
theorem impl_Cnt_l (a : Option Addr) (n c : Nat) (f : List (List Int)) (a' : Option Addr) (n' c' : Nat) (g : List (List Int)) (s : Int) (ab : Option Addr) (nb cb : Nat) (xs : List Int) (w : World) (h1 : Sol w a n f a' n' g) (hm : n ≤ 9223372036854775807 ∧ n' ≤ 9223372036854775807) (hs : I64 s) (hr : Row w ab nb xs) (hnb : nb ≤ 9223372036854775807) (hx : I64s xs) :
    Calls Try.prog 26 #[sAgg a n c a' n' c', bAgg s ab nb cb] w (RetI w ((colsF f g s xs).1.length : Int) (colsF f g s xs).2) := by
  have hA := (Loc.new w rfl #[.slice a n c, .slice a' n' c'] 33).alloc (.cells #[.int .i64 s, .slice ab nb cb] 36)
  have hE := Loc.new (w.alloc (.cells #[.slice a n c, .slice a' n' c'] 33)) rfl #[.int .i64 s, .slice ab nb cb] 36
  rw [size_alloc] at hE
  have hB := below_al (below_al (Below.refl w.heap.size w) (.cells #[.slice a n c, .slice a' n' c'] 33)) (.cells #[.int .i64 s, .slice ab nb cb] 36)
  go_enter Try.func26, Try.ntmps26
  go_wp2_with fail
  generalize (w.alloc (.cells #[.slice a n c, .slice a' n' c'] 33)).alloc (.cells #[.int .i64 s, .slice ab nb cb] 36) = w0 at *
  have lA := hA.two
  have lE := hE.two
  refine (impl_Cols_l _ _ _ f _ _ _ g _ _ _ _ xs _ ⟨h1.f.below hB, h1.s.below hB⟩ hm hs (hr.below hB) hnb hx).mono ?_
  rintro e w1 ⟨a1, n1, c1, vs1, rfl, ho, hb1⟩
  have hl := Lib.hid ho.len
  go_wp2
  go_ret2
  exact ⟨by rw [← hl.out]; rfl, below_th hB hb1⟩

set_option maxHeartbeats 1000000 in
theorem spec_Cnt_l (a : Option Addr) (n c : Nat) (f : List (List Int)) (a' : Option Addr) (n' c' : Nat) (g : List (List Int)) (s : Int) (ab : Option Addr) (nb cb : Nat) (xs : List Int) (w : World) (h1 : Sol w a n f a' n' g) (hm : n ≤ 9223372036854775807 ∧ n' ≤ 9223372036854775807) (hs : I64 s) (hr : Row w ab nb xs) (hnb : nb ≤ 9223372036854775807) (hx : I64s xs) :
    Calls Try.prog 25 #[sAgg a n c a' n' c', bAgg s ab nb cb] w (RetI w ((colsF f g s xs).1.length : Int) (colsF f g s xs).2) := by
  have hA := (Loc.new w rfl #[.slice a n c, .slice a' n' c'] 33).alloc (.cells #[.int .i64 s, .slice ab nb cb] 36)
  have hE := Loc.new (w.alloc (.cells #[.slice a n c, .slice a' n' c'] 33)) rfl #[.int .i64 s, .slice ab nb cb] 36
  rw [size_alloc] at hE
  have hB := below_al (below_al (Below.refl w.heap.size w) (.cells #[.slice a n c, .slice a' n' c'] 33)) (.cells #[.int .i64 s, .slice ab nb cb] 36)
  go_enter Try.func25, Try.ntmps25
  go_wp2_with fail
  generalize (w.alloc (.cells #[.slice a n c, .slice a' n' c'] 33)).alloc (.cells #[.int .i64 s, .slice ab nb cb] 36) = w0 at *
  have lA := hA.two
  have lE := hE.two
  refine (spec_Cols_l _ _ _ f _ _ _ g _ _ _ _ xs _ ⟨h1.f.below hB, h1.s.below hB⟩ hm hs (hr.below hB) hnb hx).mono ?_
  rintro e w1 ⟨a1, n1, c1, vs1, rfl, ho, hb1⟩
  have hl := Lib.hid ho.len
  go_wp2
  go_ret2
  exact ⟨by rw [← hl.out]; rfl, below_th hB hb1⟩

end Go.Proofs.Ytfmcaflefiapoaa
