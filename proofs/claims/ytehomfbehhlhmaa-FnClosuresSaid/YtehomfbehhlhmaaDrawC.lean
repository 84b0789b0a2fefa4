/-
  Drawn braids, with what is drawn beside them: what the drawing functions leave, whatever they draw.
  No condition but bounds.
-/
import Derived.Test.YtehomfbehhlhmaaDrawB
namespace Go.Proofs.Ytehomfbehhlhmaa
set_option linter.unusedVariables false
set_option linter.unusedSimpArgs false
set_option maxRecDepth 100000
open Go.RowKit

/-- what a function that draws a braid out of a code leaves -/
def DrT (w : World) (e : Ending) (w' : World) : Prop :=
  ∃ (S : Int) (a : Option Addr) (n c : Nat) (xs : List Int), e = .returned (bAgg S a n c) ∧ 0 ≤ S ∧ S ≤ 10 ∧ n ≤ 31 ∧ Sml xs ∧ Own w' w.heap.size a n c xs ∧ Below w.heap.size w w'
def DrTI (w : World) (e : Ending) (w' : World) : Prop :=
  ∃ (S : Int) (a : Option Addr) (n c : Nat) (xs : List Int) (k : Int), e = .returned (.tuple #[bAgg S a n c, .int .i64 k]) ∧ 0 ≤ S ∧ S ≤ 10 ∧ n ≤ 31 ∧ Sml xs ∧ I64 k ∧ Own w' w.heap.size a n c xs ∧ Below w.heap.size w w'

theorem below_grown {w0 w w' : World} {b : Nat} (h : Below w0.heap.size w0 w) (hg : w.grownBy w' (some b)) (hb : w0.heap.size ≤ b) : Below w0.heap.size w0 w' := h.grown hg h.size (fun k hk => by cases hk; exact hb)

theorem DrawStab_lit : ([1, -1, 1, -1, 0, 2] : List Int).length = 6 := rfl
set_option maxHeartbeats 8000000 in
theorem DrawStabilizeBraid_ok (a : Option Addr) (n c : Nat) (xs : List Int) (w : World) (h : Bts w a n xs) (hn : n ≤ 9223372036854775807) :
    Calls Try.prog 41 #[.slice a n c] w (DrTI w) := by
  go_enter Try.func41, Try.ntmps41
  have hR := Loc.new w rfl #[.int .i64 0, .slice none 0 0] 24
  go_wp2_with fail
  refine (l01From_ok a n c xs _ (h.below (below_al (Below.refl _ _) _)) hn).mono ?_
  rintro e w1 ⟨b, rfl, hb, hs1, hb1⟩
  have hR1 := hR.below hb1 hR.lt
  have hB1 := below_alth (Below.refl _ _) hb1
  rw [size_alloc] at hb
  go_wp2_with fail
  refine (l16DrawAny_ok b 6 10 _ hs1 (by omega) (by omega) (by omega)).mono ?_
  rintro e w2 ⟨S, a2, n2, c2, ys, rfl, hS1, hS2, hn2, hsm, ho, hs2, hg2⟩
  have hR2 := hR1.grown hg2 (by simp; omega)
  have hB2 := below_grown hB1 hg2 (by omega)
  have hlt := hs2.lt
  have hz2 := hg2.size
  have hz1 := hs1.lt
  go_wp2_with fail
  refine (l01Pick_ok b _ _ _ [1, -1, 1, -1, 0, 2] _ (hs2.below (below_al (Below.refl _ _) _)) (row_lit w2 _ _ _ rfl) (by decide) (by decide) (fun g o e => by cases e; omega)).mono ?_
  rintro e w3 ⟨q, rfl, hq, hs3, hg3⟩
  have hR3 := (hR2.alloc _).grown hg3 (by simp; omega)
  have hB3 := below_grown (below_al hB2 _) hg3 (by omega)
  have ho3 := (ho.alloc _).grown hg3 (fun g e => by have := ho.lo g e; simp; omega)
  have lR3 := hR3.two
  go_wp2
  refine bodyPost_ret (v := .tuple #[bAgg S a2 n2 c2, .int .i64 q]) (by simp [results, Try.results41, go_sem, lR3]) rfl ⟨S, a2, n2, c2, ys, q, rfl, hS1, hS2, hn2, hsm, ⟨by simp at hq; omega, by simp at hq; omega⟩, ?_, ?_⟩
  · exact ((ho3.setlo (by simp <;> omega) _).setlo (by simp <;> omega) _).mono (by omega)
  · exact (hB3.setCell (by simp) _).setCell (by simp) _

set_option maxHeartbeats 8000000 in
theorem DrawIsPureBraid_ok (a : Option Addr) (n c : Nat) (xs : List Int) (w : World) (h : Bts w a n xs) (hn : n ≤ 9223372036854775807) :
    Calls Try.prog 95 #[.slice a n c] w (DrT w) := by
  go_enter Try.func95, Try.ntmps95
  have hR := Loc.new w rfl #[.int .i64 0, .slice none 0 0] 24
  go_wp2_with fail
  refine (l01From_ok a n c xs _ (h.below (below_al (Below.refl _ _) _)) hn).mono ?_
  rintro e w1 ⟨b, rfl, hb, hs1, hb1⟩
  have hR1 := hR.below hb1 hR.lt
  have hB1 := below_alth (Below.refl _ _) hb1
  rw [size_alloc] at hb
  go_wp2_with fail
  refine (l16DrawAny_ok b 4 6 _ hs1 (by omega) (by omega) (by omega)).mono ?_
  rintro e w2 ⟨S, a2, n2, c2, ys, rfl, hS1, hS2, hn2, hsm, ho, hs2, hg2⟩
  have hR2 := hR1.grown hg2 (by simp; omega)
  have hB2 := below_grown hB1 hg2 (by omega)
  have hlt := hs2.lt
  have hz2 := hg2.size
  have hz1 := hs1.lt
  have hL2 := Loc.new w2 rfl #[.int .i64 S, .slice a2 n2 c2] 24
  have hne : ∀ g, a2 = some ⟨g, 0, none⟩ → g ≠ w2.heap.size := fun g e => by have := ho.hi g e; omega
  go_wp2_with fail
  refine (l16Is_any S _ _ _ ys _ (ho.row.alloc _) (by omega) ⟨by omega, by omega⟩).mono ?_
  rintro e w3 ⟨rfl, hb3⟩
  have hL3 := hL2.below hb3 hL2.lt
  have hR3 := (hR2.alloc (.cells #[.int .i64 S, .slice a2 n2 c2] 24)).below hb3 (by simp; omega)
  have hB3 := below_alth hB2 hb3
  have ho3 := (ho.alloc (.cells #[.int .i64 S, .slice a2 n2 c2] 24)).below hb3
  have hs3 := (hs2.below (below_al (Below.refl _ _) (.cells #[.int .i64 S, .slice a2 n2 c2] 24))).below hb3
  have hz3 : w2.heap.size < w3.heap.size := hL3.lt
  have hwR : w.heap.size < w1.heap.size := hR1.lt
  cases hbr : isBr S ys with
  | false =>
    have lL3 := hL3.two
    have lR3 := hR3.two
    go_wp2
    refine bodyPost_ret (v := bAgg S a2 n2 c2) (by simp [results, Try.results95, go_sem, lR3]) rfl ⟨S, a2, n2, c2, ys, rfl, hS1, hS2, hn2, hsm, ?_, ?_⟩
    · exact ((ho3.setlo (by simp <;> omega) _).setlo (by simp <;> omega) _).mono (by omega)
    · exact (hB3.setCell (by simp) _).setCell (by simp) _
  | true =>
    go_wp2_with fail
    refine (l01Next_ok b 2 _ hs3 ⟨by omega, by omega⟩).mono ?_
    rintro e w4 ⟨y, rfl, _, hy, hs4, hg4⟩
    have hL4 := hL3.grown hg4 (by simp; omega)
    have hR4 := hR3.grown hg4 (by simp; omega)
    have hB4 := below_grown hB3 hg4 (by omega)
    have ho4 := ho3.grown hg4 (fun g e => by have := ho.lo g e; simp; omega)
    have lL4 := hL4.two
    have lR4 := hR4.two
    have hz4 := hg4.size
    by_cases hy0 : y = 0
    · subst hy0
      by_cases h15 : 2 * n2 ≤ 30
      · have h15' : (2 * (n2 : Int)) ≤ 30 := by omega
        have hBN := ho4.blk_ne hne
        go_wp2_with (at_builtin; refine appL rfl rfl ho4 rfl ho4.row rfl (by omega) (by omega) ?_; intro a5 c5 w5 hO hg5 hb5; have hL5 := hL4.grown hg5 hBN; have lL5 := hL5.two; have hR5 := hR4.below hb5 (by omega); have lR5 := hR5.two)
        refine bodyPost_ret (v := bAgg S a5 (n2 + n2) c5) (by simp [results, Try.results95, go_sem, lR5]) rfl ⟨S, a5, n2 + n2, c5, ys ++ ys, rfl, hS1, hS2, by omega, fun z hz => by rcases List.mem_append.1 hz with hz | hz <;> exact hsm z hz, ?_, ?_⟩
        · exact (((hO.setne (fun g e => by subst e; exact hO.ne_loc hL5 (by decide)) _).setlo (by simp <;> omega) _).setlo (by simp <;> omega) _).mono (by omega)
        · exact (((hB4.trans (hb5.mono (by omega))).setCell (by simp; omega) _).setCell (by simp) _).setCell (by simp) _
      · have h15' : ¬ (2 * (n2 : Int)) ≤ 30 := by omega
        go_wp2
        refine bodyPost_ret (v := bAgg S a2 n2 c2) (by simp [results, Try.results95, go_sem, lR4]) rfl ⟨S, a2, n2, c2, ys, rfl, hS1, hS2, hn2, hsm, ?_, ?_⟩
        · exact ((ho4.setlo (by simp <;> omega) _).setlo (by simp <;> omega) _).mono (by omega)
        · exact (hB4.setCell (by simp) _).setCell (by simp) _
    · go_wp2
      refine bodyPost_ret (v := bAgg S a2 n2 c2) (by simp [results, Try.results95, go_sem, lR4]) rfl ⟨S, a2, n2, c2, ys, rfl, hS1, hS2, hn2, hsm, ?_, ?_⟩
      · exact ((ho4.setlo (by simp <;> omega) _).setlo (by simp <;> omega) _).mono (by omega)
      · exact (hB4.setCell (by simp) _).setCell (by simp) _

set_option maxHeartbeats 8000000 in
theorem DrawLinkingNumbers_ok (a : Option Addr) (n c : Nat) (xs : List Int) (w : World) (h : Bts w a n xs) (hn : n ≤ 9223372036854775807) :
    Calls Try.prog 34 #[.slice a n c] w (DrT w) := by
  go_enter Try.func34, Try.ntmps34
  have hR := Loc.new w rfl #[.int .i64 0, .slice none 0 0] 24
  go_wp2_with fail
  refine (DrawIsPureBraid_ok a n c xs _ (h.below (below_al (Below.refl _ _) _)) hn).mono ?_
  rintro e w1 ⟨S, a2, n2, c2, ys, rfl, hS1, hS2, hn2, hsm, ho, hb1⟩
  have hR1 := hR.below hb1 hR.lt
  have hB1 := below_alth (Below.refl _ _) hb1
  have lR1 := hR1.two
  rw [size_alloc] at ho
  go_wp2
  refine bodyPost_ret (v := bAgg S a2 n2 c2) (by simp [results, Try.results34, go_sem, lR1]) rfl ⟨S, a2, n2, c2, ys, rfl, hS1, hS2, hn2, hsm, ?_, ?_⟩
  · exact ((ho.setlo (by simp <;> omega) _).setlo (by simp <;> omega) _).mono (by omega)
  · exact (hB1.setCell (by simp) _).setCell (by simp) _

set_option maxHeartbeats 16000000 in
theorem DrawConjugateBraid_ok (a : Option Addr) (n c : Nat) (xs : List Int) (w : World) (h : Bts w a n xs) (hn : n ≤ 9223372036854775807) :
    Calls Try.prog 45 #[.slice a n c] w (DrTI w) := by
  go_enter Try.func45, Try.ntmps45
  have hR := Loc.new w rfl #[.int .i64 0, .slice none 0 0] 24
  go_wp2_with fail
  refine (l01From_ok a n c xs _ (h.below (below_al (Below.refl _ _) _)) hn).mono ?_
  rintro e w1 ⟨b, rfl, hb, hs1, hb1⟩
  have hR1 := hR.below hb1 hR.lt
  have hB1 := below_alth (Below.refl _ _) hb1
  rw [size_alloc] at hb
  go_wp2_with fail
  refine (l16DrawAny_ok b 6 10 _ hs1 (by omega) (by omega) (by omega)).mono ?_
  rintro e w2 ⟨S, a2, n2, c2, ys, rfl, hS1, hS2, hn2, hsm, ho, hs2, hg2⟩
  have hR2 := hR1.grown hg2 (by simp; omega)
  have hB2 := below_grown hB1 hg2 (by omega)
  have hlt := hs2.lt
  have hz2 := hg2.size
  have hz1 := hs1.lt
  have hwR : w.heap.size < w1.heap.size := hR1.lt
  have hL2 := Loc.new w2 rfl #[.int .i64 S, .slice a2 n2 c2] 24
  have hR2 := hR2.alloc (.cells #[.int .i64 S, .slice a2 n2 c2] 24)
  have hB2 := below_al hB2 (.cells #[.int .i64 S, .slice a2 n2 c2] 24)
  have hne : ∀ g, a2 = some ⟨g, 0, none⟩ → g ≠ w2.heap.size := fun g e => by have := ho.hi g e; omega
  have ho2 := ((ho.mono (lo' := w1.heap.size) (Nat.le_refl _)).alloc (.cells #[.int .i64 S, .slice a2 n2 c2] 24))
  have hs2 := hs2.below (below_al (Below.refl _ _) (.cells #[.int .i64 S, .slice a2 n2 c2] 24))
  go_wp2_with fail
  go_loopg [12] (31 - n2) (fun g s12 wr => ∃ (a' : Option Addr) (n' c' : Nat) (xs' : List Int), Sml xs' ∧ n' ≤ 31 ∧ g + n' = 31 ∧ Src wr b ∧ Loc wr w2.heap.size #[.int .i64 S, .slice a' n' c'] 24 ∧ Loc wr w.heap.size #[.int .i64 0, .slice none 0 0] 24 ∧
    Own wr w1.heap.size a' n' c' xs' ∧ (∀ g, a' = some ⟨g, 0, none⟩ → g ≠ w2.heap.size) ∧ Below w.heap.size w wr ∧ w2.heap.size < wr.heap.size)
  case atStart => exact ⟨a2, n2, c2, ys, hsm, by omega, by omega, hs2, hL2, hR2, ho2, hne, hB2, by simp⟩
  case round =>
    obtain ⟨a', n', c', xs', hsm', hn', hgn, hs, hL, hR, ho', hne', hB, hz⟩ := hrel
    have lL := hL.two
    have lR := hR.two
    by_cases hlt : 0 < n' ∧ n' < 29
    · obtain ⟨hl0, hl29⟩ := hlt
      go_wp2_with fail
      refine (l01Next_ok b 20 _ hs ⟨by omega, by omega⟩).mono ?_
      rintro e w4 ⟨y, rfl, _, hy, hs4, hg4⟩
      have hL4 := hL.grown hg4 (by simp; omega)
      have hR4 := hR.grown hg4 (by simp; omega)
      have hB4 := below_grown hB hg4 (by omega)
      have ho4 := ho'.grown hg4 (fun g e => by have := ho'.lo g e; simp; omega)
      have lL4 := hL4.two
      have lR4 := hR4.two
      have hz4 := hg4.size
      clear hy
      by_cases hy0 : y = 0
      · subst hy0
        obtain ⟨q, off, rfl, g0⟩ := ho4.row.at 0 hl0
        rw [Nat.add_zero] at g0
        have hxm : xs'.getD 0 0 ∈ xs' := by
          have := ho'.len
          rw [List.getD_eq_getElem?_getD, List.getElem?_eq_getElem (by omega)]; exact List.getElem_mem _
        have hx0 := hsm' _ hxm
        obtain ⟨X, HX⟩ : ∃ X, Hid (xs'.getD 0 0 = X) := ⟨_, rfl⟩
        rw [HX.out] at g0 hx0
        clear hxm
        have hBN := ho'.blk_ne hne'
        have hln : n' + 1 ≤ 1000000000000 := by omega
        have i0 : (0 : Int) < (n' : Int) := by omega
        have lA4 := (hL4.alloc (.cells #[.int .i64 X] 2)).two
        go_wp2_with fail
        go_region_law (refine step_app1 rfl rfl ho4 rfl rfl hln (by omega) ?_; intro g' cc w8 hO hg8 hs8 hb8; have hL8 := hL4.grown hg8 hBN; have lL8 := hL8.two)
        all_goals
          go_wp2
          go_roundg (gk - 1)
          case measure => omega
          case rel =>
            exact ⟨_, _, _, _, hsm'.snoc hx0.1 hx0.2, by omega, by omega, (hs4.keepB hb8 (by omega)).setne (by simp; omega) _, hL8.set 1 _, (hR4.below hb8 (by omega)).setne (by simp; omega) _,
              hO.setne (fun g e => by cases e; exact hO.ne_loc hL8 (by decide)) _, (fun g e => by cases e; exact hO.ne_loc hL8 (by decide)), (hB4.trans (hb8.mono (by omega))).setCell (by simp; omega) _, by rw [size_set]; omega⟩
      ·
        have lX := hL4.two
        by_cases h1S : 1 < S
        · have e1 : IntKind.i64.wrap (2 * S) = 2 * S := IntWalk.i64_in _ ⟨by omega, by omega⟩
          have e2 : IntKind.i64.wrap (2 * S + 1) = 2 * S + 1 := IntWalk.i64_in _ ⟨by omega, by omega⟩
          go_wp2_with fail
          go_region_held3 (fun w' => w'.cell? ⟨w2.heap.size, 0, none⟩ = some (.int .i64 S) ∧ w'.cell? ⟨w2.heap.size, 1, none⟩ = some (.slice a' n' c'))
            (first | exact ⟨lF9.1, lF9.2.1⟩ | exact ⟨lL9.1, lL9.2.1⟩ | exact ⟨lX.1, lX.2.1⟩ | go_keep)
            (first
              | (go_at_call 78; refine (l01Next_ok b (2 * S + 1) _ (hs4.below (below_drewN (Below.refl _ _) 1)) ⟨by omega, by omega⟩).mono ?_; rintro e w9 ⟨x, rfl, hx0, hx1, hs9, hg9⟩; replace hx1 := hx1 (by omega); obtain ⟨hx1, hx2⟩ := hx1; clear hx0; have hx3 : IntKind.i64.wrap (x - S) = x - S := IntWalk.i64_in _ ⟨by omega, by omega⟩; have hL9 := (hL4.drewN 1).grown hg9 (by simp; omega); have lL9 := hL9.two; have hR9 := ((hR4.drewN 1).grown hg9 (by simp; omega)); have lR9 := hR9.two; have lF9 := ((hL9.setne (a := ⟨w.heap.size, 0, none⟩) (by simp; omega) (.int .i64 S)).setne (a := ⟨w.heap.size, 1, none⟩) (by simp; omega) (.slice a' n' c')).two))
          all_goals
            have hB9 := below_grown (below_drewN hB4 1) hg9 (by omega)
            have ho9 := (ho4.drewN 1).grown hg9 (fun g e => by have := ho4.lo g e; simp; omega)
            have hq9 := hg9.size
            go_wp2
            refine bodyPost_ret (v := .tuple #[bAgg S a' n' c', .int .i64 (x - S)]) (by simp [results, Try.results45, go_sem, lR9]) rfl ⟨S, _, n', c', xs', _, rfl, hS1, hS2, by omega, hsm', ⟨by omega, by omega⟩, ?_, ?_⟩
            · exact ((ho9.setlo (by simp <;> omega) _).setlo (by simp <;> omega) _).mono (by omega)
            · exact (hB9.setCell (by simp) _).setCell (by simp) _
        · have HN : Hid (IntKind.i64.wrap (IntKind.i64.wrap (2 * if 1 < S then S else 1) + 1) = 3) := Lib.hid (by rw [if_neg h1S]; rfl)
          go_wp2_with fail
          go_region_held3 (fun w' => w'.cell? ⟨w2.heap.size, 0, none⟩ = some (.int .i64 S) ∧ w'.cell? ⟨w2.heap.size, 1, none⟩ = some (.slice a' n' c'))
            (first | exact ⟨lF9.1, lF9.2.1⟩ | exact ⟨lL9.1, lL9.2.1⟩ | exact ⟨lX.1, lX.2.1⟩ | go_keep)
            (first
              | (go_at_call 78; rw [HN.out]; refine (l01Next_ok b 3 _ (hs4.below (below_drewN (Below.refl _ _) 1)) ⟨by omega, by omega⟩).mono ?_; rintro e w9 ⟨x, rfl, hx0, hx1, hs9, hg9⟩; replace hx1 := hx1 (by omega); obtain ⟨hx1, hx2⟩ := hx1; clear hx0; have hx3 : IntKind.i64.wrap (x - S) = x - S := IntWalk.i64_in _ ⟨by omega, by omega⟩; have hL9 := (hL4.drewN 1).grown hg9 (by simp; omega); have lL9 := hL9.two; have hR9 := ((hR4.drewN 1).grown hg9 (by simp; omega)); have lR9 := hR9.two; have lF9 := ((hL9.setne (a := ⟨w.heap.size, 0, none⟩) (by simp; omega) (.int .i64 S)).setne (a := ⟨w.heap.size, 1, none⟩) (by simp; omega) (.slice a' n' c')).two))
          all_goals
            have hB9 := below_grown (below_drewN hB4 1) hg9 (by omega)
            have ho9 := (ho4.drewN 1).grown hg9 (fun g e => by have := ho4.lo g e; simp; omega)
            have hq9 := hg9.size
            go_wp2
            refine bodyPost_ret (v := .tuple #[bAgg S a' n' c', .int .i64 (x - S)]) (by simp [results, Try.results45, go_sem, lR9]) rfl ⟨S, _, n', c', xs', _, rfl, hS1, hS2, by omega, hsm', ⟨by omega, by omega⟩, ?_, ?_⟩
            · exact ((ho9.setlo (by simp <;> omega) _).setlo (by simp <;> omega) _).mono (by omega)
            · exact (hB9.setCell (by simp) _).setCell (by simp) _
    · rcases (by omega : n' = 0 ∨ 29 ≤ n') with hc | hc
      · have hc2 : ¬ 0 < n' := by omega
        clear hc
        have lX := hL.two
        by_cases h1S : 1 < S
        · have e1 : IntKind.i64.wrap (2 * S) = 2 * S := IntWalk.i64_in _ ⟨by omega, by omega⟩
          have e2 : IntKind.i64.wrap (2 * S + 1) = 2 * S + 1 := IntWalk.i64_in _ ⟨by omega, by omega⟩
          go_wp2_with fail
          go_region_held3 (fun w' => w'.cell? ⟨w2.heap.size, 0, none⟩ = some (.int .i64 S) ∧ w'.cell? ⟨w2.heap.size, 1, none⟩ = some (.slice a' n' c'))
            (first | exact ⟨lF9.1, lF9.2.1⟩ | exact ⟨lL9.1, lL9.2.1⟩ | exact ⟨lX.1, lX.2.1⟩ | go_keep)
            (first
              | (go_at_call 78; refine (l01Next_ok b (2 * S + 1) _ (hs.below (below_drewN (Below.refl _ _) 1)) ⟨by omega, by omega⟩).mono ?_; rintro e w9 ⟨x, rfl, hx0, hx1, hs9, hg9⟩; replace hx1 := hx1 (by omega); obtain ⟨hx1, hx2⟩ := hx1; clear hx0; have hx3 : IntKind.i64.wrap (x - S) = x - S := IntWalk.i64_in _ ⟨by omega, by omega⟩; have hL9 := (hL.drewN 1).grown hg9 (by simp; omega); have lL9 := hL9.two; have hR9 := ((hR.drewN 1).grown hg9 (by simp; omega)); have lR9 := hR9.two; have lF9 := ((hL9.setne (a := ⟨w.heap.size, 0, none⟩) (by simp; omega) (.int .i64 S)).setne (a := ⟨w.heap.size, 1, none⟩) (by simp; omega) (.slice a' n' c')).two))
          all_goals
            have hB9 := below_grown (below_drewN hB 1) hg9 (by omega)
            have ho9 := (ho'.drewN 1).grown hg9 (fun g e => by have := ho'.lo g e; simp; omega)
            have hq9 := hg9.size
            go_wp2
            refine bodyPost_ret (v := .tuple #[bAgg S a' n' c', .int .i64 (x - S)]) (by simp [results, Try.results45, go_sem, lR9]) rfl ⟨S, _, n', c', xs', _, rfl, hS1, hS2, by omega, hsm', ⟨by omega, by omega⟩, ?_, ?_⟩
            · exact ((ho9.setlo (by simp <;> omega) _).setlo (by simp <;> omega) _).mono (by omega)
            · exact (hB9.setCell (by simp) _).setCell (by simp) _
        · have HN : Hid (IntKind.i64.wrap (IntKind.i64.wrap (2 * if 1 < S then S else 1) + 1) = 3) := Lib.hid (by rw [if_neg h1S]; rfl)
          go_wp2_with fail
          go_region_held3 (fun w' => w'.cell? ⟨w2.heap.size, 0, none⟩ = some (.int .i64 S) ∧ w'.cell? ⟨w2.heap.size, 1, none⟩ = some (.slice a' n' c'))
            (first | exact ⟨lF9.1, lF9.2.1⟩ | exact ⟨lL9.1, lL9.2.1⟩ | exact ⟨lX.1, lX.2.1⟩ | go_keep)
            (first
              | (go_at_call 78; rw [HN.out]; refine (l01Next_ok b 3 _ (hs.below (below_drewN (Below.refl _ _) 1)) ⟨by omega, by omega⟩).mono ?_; rintro e w9 ⟨x, rfl, hx0, hx1, hs9, hg9⟩; replace hx1 := hx1 (by omega); obtain ⟨hx1, hx2⟩ := hx1; clear hx0; have hx3 : IntKind.i64.wrap (x - S) = x - S := IntWalk.i64_in _ ⟨by omega, by omega⟩; have hL9 := (hL.drewN 1).grown hg9 (by simp; omega); have lL9 := hL9.two; have hR9 := ((hR.drewN 1).grown hg9 (by simp; omega)); have lR9 := hR9.two; have lF9 := ((hL9.setne (a := ⟨w.heap.size, 0, none⟩) (by simp; omega) (.int .i64 S)).setne (a := ⟨w.heap.size, 1, none⟩) (by simp; omega) (.slice a' n' c')).two))
          all_goals
            have hB9 := below_grown (below_drewN hB 1) hg9 (by omega)
            have ho9 := (ho'.drewN 1).grown hg9 (fun g e => by have := ho'.lo g e; simp; omega)
            have hq9 := hg9.size
            go_wp2
            refine bodyPost_ret (v := .tuple #[bAgg S a' n' c', .int .i64 (x - S)]) (by simp [results, Try.results45, go_sem, lR9]) rfl ⟨S, _, n', c', xs', _, rfl, hS1, hS2, by omega, hsm', ⟨by omega, by omega⟩, ?_, ?_⟩
            · exact ((ho9.setlo (by simp <;> omega) _).setlo (by simp <;> omega) _).mono (by omega)
            · exact (hB9.setCell (by simp) _).setCell (by simp) _
      · have hc2 : 0 < n' := by omega
        have lX := hL.two
        by_cases h1S : 1 < S
        · have e1 : IntKind.i64.wrap (2 * S) = 2 * S := IntWalk.i64_in _ ⟨by omega, by omega⟩
          have e2 : IntKind.i64.wrap (2 * S + 1) = 2 * S + 1 := IntWalk.i64_in _ ⟨by omega, by omega⟩
          go_wp2_with fail
          go_region_held3 (fun w' => w'.cell? ⟨w2.heap.size, 0, none⟩ = some (.int .i64 S) ∧ w'.cell? ⟨w2.heap.size, 1, none⟩ = some (.slice a' n' c'))
            (first | exact ⟨lF9.1, lF9.2.1⟩ | exact ⟨lL9.1, lL9.2.1⟩ | exact ⟨lX.1, lX.2.1⟩ | go_keep)
            (first
              | (go_at_call 78; refine (l01Next_ok b (2 * S + 1) _ (hs.below (below_drewN (Below.refl _ _) 1)) ⟨by omega, by omega⟩).mono ?_; rintro e w9 ⟨x, rfl, hx0, hx1, hs9, hg9⟩; replace hx1 := hx1 (by omega); obtain ⟨hx1, hx2⟩ := hx1; clear hx0; have hx3 : IntKind.i64.wrap (x - S) = x - S := IntWalk.i64_in _ ⟨by omega, by omega⟩; have hL9 := (hL.drewN 1).grown hg9 (by simp; omega); have lL9 := hL9.two; have hR9 := ((hR.drewN 1).grown hg9 (by simp; omega)); have lR9 := hR9.two; have lF9 := ((hL9.setne (a := ⟨w.heap.size, 0, none⟩) (by simp; omega) (.int .i64 S)).setne (a := ⟨w.heap.size, 1, none⟩) (by simp; omega) (.slice a' n' c')).two))
          all_goals
            have hB9 := below_grown (below_drewN hB 1) hg9 (by omega)
            have ho9 := (ho'.drewN 1).grown hg9 (fun g e => by have := ho'.lo g e; simp; omega)
            have hq9 := hg9.size
            go_wp2
            refine bodyPost_ret (v := .tuple #[bAgg S a' n' c', .int .i64 (x - S)]) (by simp [results, Try.results45, go_sem, lR9]) rfl ⟨S, _, n', c', xs', _, rfl, hS1, hS2, by omega, hsm', ⟨by omega, by omega⟩, ?_, ?_⟩
            · exact ((ho9.setlo (by simp <;> omega) _).setlo (by simp <;> omega) _).mono (by omega)
            · exact (hB9.setCell (by simp) _).setCell (by simp) _
        · have HN : Hid (IntKind.i64.wrap (IntKind.i64.wrap (2 * if 1 < S then S else 1) + 1) = 3) := Lib.hid (by rw [if_neg h1S]; rfl)
          go_wp2_with fail
          go_region_held3 (fun w' => w'.cell? ⟨w2.heap.size, 0, none⟩ = some (.int .i64 S) ∧ w'.cell? ⟨w2.heap.size, 1, none⟩ = some (.slice a' n' c'))
            (first | exact ⟨lF9.1, lF9.2.1⟩ | exact ⟨lL9.1, lL9.2.1⟩ | exact ⟨lX.1, lX.2.1⟩ | go_keep)
            (first
              | (go_at_call 78; rw [HN.out]; refine (l01Next_ok b 3 _ (hs.below (below_drewN (Below.refl _ _) 1)) ⟨by omega, by omega⟩).mono ?_; rintro e w9 ⟨x, rfl, hx0, hx1, hs9, hg9⟩; replace hx1 := hx1 (by omega); obtain ⟨hx1, hx2⟩ := hx1; clear hx0; have hx3 : IntKind.i64.wrap (x - S) = x - S := IntWalk.i64_in _ ⟨by omega, by omega⟩; have hL9 := (hL.drewN 1).grown hg9 (by simp; omega); have lL9 := hL9.two; have hR9 := ((hR.drewN 1).grown hg9 (by simp; omega)); have lR9 := hR9.two; have lF9 := ((hL9.setne (a := ⟨w.heap.size, 0, none⟩) (by simp; omega) (.int .i64 S)).setne (a := ⟨w.heap.size, 1, none⟩) (by simp; omega) (.slice a' n' c')).two))
          all_goals
            have hB9 := below_grown (below_drewN hB 1) hg9 (by omega)
            have ho9 := (ho'.drewN 1).grown hg9 (fun g e => by have := ho'.lo g e; simp; omega)
            have hq9 := hg9.size
            go_wp2
            refine bodyPost_ret (v := .tuple #[bAgg S a' n' c', .int .i64 (x - S)]) (by simp [results, Try.results45, go_sem, lR9]) rfl ⟨S, _, n', c', xs', _, rfl, hS1, hS2, by omega, hsm', ⟨by omega, by omega⟩, ?_, ?_⟩
            · exact ((ho9.setlo (by simp <;> omega) _).setlo (by simp <;> omega) _).mono (by omega)
            · exact (hB9.setCell (by simp) _).setCell (by simp) _
end Go.Proofs.Ytehomfbehhlhmaa
