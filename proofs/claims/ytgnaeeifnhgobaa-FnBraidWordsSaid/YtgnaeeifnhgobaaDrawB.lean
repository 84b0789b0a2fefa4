/-
  Drawn braids: what the drawing functions leave, whatever they draw.
  No condition but bounds.
-/
import Derived.Test.YtgnaeeifnhgobaaDraw
import Derived.Test.YtgnaeeifnhgobaaBase
import Derived.Deep.RegionHeld3
import Derived.Deep.LoopGhost
import Derived.Deep.RegionLaw
namespace Go.Proofs.Ytgnaeeifnhgobaa
set_option linter.unusedVariables false
set_option linter.unusedSimpArgs false
set_option maxRecDepth 100000
open Go.RowKit

theorem Src.upd {w w' : World} {b : Nat} (h : Src w b) (hg : w.grownBy w' none) : Src w' b := h.below ⟨hg.os, hg.tape, hg.output, hg.size, fun k hk => hg.block k hk (by simp)⟩
theorem Src.setne {w : World} {b : Nat} (h : Src w b) {p : Addr} (hp : b < p.block) (u : Value) : Src (w.setCell p u) b := by
  obtain ⟨a, n, c, xs, i, g, h1, h2, h3, h4, hB, hg, hL⟩ := h
  refine ⟨a, n, c, xs, i, g, h1, h2, h3, h4, ⟨hB.1, fun j hj => ?_, hB.2.2⟩, hg, hL.setne (by omega) u⟩
  obtain ⟨q, off, e1, e2, e3⟩ := hB.2.1 j hj
  exact ⟨q, off, e1, by rw [size_set]; exact e2, cell_setne e3 (by have := hg (by omega) q off e1; simp; omega) _⟩
theorem Src.keepB {w w' : World} {b B : Nat} (h : Src w b) (hb : Below B w w') (hlt : b < B) : Src w' b := by
  obtain ⟨a, n, c, xs, i, g, h1, h2, h3, h4, hB, hg, hL⟩ := h
  refine ⟨a, n, c, xs, i, g, h1, h2, h3, h4, ⟨hB.1, fun j hj => ?_, hB.2.2⟩, hg, hL.below hb hlt⟩
  obtain ⟨q, off, e1, e2, e3⟩ := hB.2.1 j hj
  exact ⟨q, off, e1, Nat.lt_of_lt_of_le e2 hb.size, (hb.cell (p := ⟨q, off + j, none⟩) (by have := hg (by omega) q off e1; show q < B; omega)).trans e3⟩
theorem grown_below {a w w' : World} {r : Option Nat} {B : Nat} (h : a.grownBy w r) (hb : Below B w w') (hB : a.heap.size ≤ B) : a.grownBy w' r :=
  ⟨hb.os.trans h.os, hb.tape.trans h.tape, hb.output.trans h.output, Nat.le_trans h.size hb.size, fun k hk hn => (hb.block k (by omega)).trans (h.block k hk hn)⟩
/-- small letters -/
def Sml (xs : List Int) : Prop := ∀ x ∈ xs, -100 ≤ x ∧ x ≤ 100
theorem Sml.snoc {xs : List Int} (h : Sml xs) {x : Int} (h1 : -100 ≤ x) (h2 : x ≤ 100) : Sml (xs ++ [x]) := fun y hy => by
  rcases List.mem_append.1 hy with hy | hy
  · exact h y hy
  · simp at hy; subst hy; exact ⟨h1, h2⟩
/-- what a function that draws a braid leaves -/
def DrB (b : Nat) (w : World) (lo hi : Int) (m : Nat) (e : Ending) (w' : World) : Prop :=
  ∃ (S : Int) (a : Option Addr) (n c : Nat) (xs : List Int), e = .returned (bAgg S a n c) ∧ lo ≤ S ∧ S ≤ hi ∧ n ≤ m ∧ Sml xs ∧ Own w' w.heap.size a n c xs ∧ Src w' b ∧ w.grownBy w' (some b)
set_option maxHeartbeats 8000000 in
theorem l16Draw_ok (b : Nat) (s m : Nat) (w : World) (h : Src w b) (h1 : 2 ≤ s) (h2 : s ≤ 10) (hm : m ≤ 20) :
    Calls Try.prog 47 #[.pointer (some ⟨b, 0, none⟩), .int .i64 s, .int .i64 m] w (DrB b w 2 s m) := by
  have hlt := h.lt
  go_enter Try.func47, Try.ntmps47
  have hR := Loc.new w rfl #[.int .i64 0, .slice none 0 0] 26
  go_wp2_with fail
  refine (l01Next_ok b ((s : Int) - 1) _ (h.below (below_al (Below.refl _ _) _)) ⟨by omega, by omega⟩).mono ?_
  rintro e w1 ⟨x, rfl, _, hx, hs1, hg1⟩
  obtain ⟨hx1, hx2⟩ := hx (by omega)
  obtain ⟨k, rfl⟩ : ∃ k : Nat, x = k := ⟨x.toNat, by omega⟩
  have hG1 := grown_trans (World.grownBy_alloc w (.cells #[.int .i64 0, .slice none 0 0] 26) (some b)) hg1
  have hR1 := hR.grown hg1 (by simp; omega)
  have hRl := hR1.lt
  clear hx hR
  go_wp2_with fail
  refine (l01Next_ok b ((m : Int) + 1) _ (hs1.below (below_al (Below.refl _ _) (.cells #[.int .i64 (2 + (k : Int)), .slice none 0 0] 26))) ⟨by omega, by omega⟩).mono ?_
  rintro e w2 ⟨y, rfl, _, hy, hs2, hg2⟩
  obtain ⟨hy1, hy2⟩ := hy (by omega)
  obtain ⟨j0, rfl⟩ : ∃ j : Nat, y = j := ⟨y.toNat, by omega⟩
  have hb1 : b < w1.heap.size := hs1.lt
  have hL2 := (Loc.new w1 rfl #[.int .i64 (2 + (k : Int)), .slice none 0 0] 26).grown hg2 (by simp; omega)
  have hR2 := (hR1.alloc (.cells #[.int .i64 (2 + (k : Int)), .slice none 0 0] 26)).grown hg2 (by simp; omega)
  have hG2 := grown_trans (grown_alloc hG1 (.cells #[.int .i64 (2 + (k : Int)), .slice none 0 0] 26)) hg2
  have z1 : w1.heap.size + 1 ≤ w2.heap.size := by have := hg2.size; simpa using this
  clear hy
  go_wp2
  go_loopw [8, 9] (fun i _ wr => ∃ (j : Nat) (a' : Option Addr) (n' c' : Nat) (xs : List Int), j ≤ j0 ∧ i = .int .i64 j ∧ n' + j = j0 ∧ Sml xs ∧ Src wr b ∧ Loc wr w.heap.size #[.int .i64 0, .slice none 0 0] 26 ∧
    Loc wr w1.heap.size #[.int .i64 (2 + (k : Int)), .slice a' n' c'] 26 ∧ Own wr (w1.heap.size + 1) a' n' c' xs ∧ w.grownBy wr (some b) ∧ w1.heap.size + 1 ≤ wr.heap.size) (fun i _ _ => (intOf i).toNat)
  case atStart => exact ⟨j0, none, 0, 0, [], Nat.le_refl _, rfl, by omega, fun x hx => by simp at hx, hs2, hR2, hL2, Own.nil _ _, hG2, z1⟩
  case round =>
    obtain ⟨j, a', n', c', xs, hj, rfl, hnj, hsm, hs, hR, hL, ho, hG, hz⟩ := hrel
    have lL := hL.two
    rcases j with _ | j
    rotate_left
    · go_wp2_with fail
      refine (l01Next_ok b (2 + (k : Int) - 1) _ hs ⟨by omega, by omega⟩).mono ?_
      rintro e w3 ⟨x, rfl, _, hx, hs3, hg3⟩
      obtain ⟨hx1, hx2⟩ := hx (by omega)
      clear hx
      have hL3 := hL.grown hg3 (by simp; omega)
      have hR3 := hR.grown hg3 (by simp; omega)
      have ho3 := ho.grown hg3 (fun g e => by have := ho.lo g e; simp; omega)
      have hG3 := grown_trans hG hg3
      have z3 := hg3.size
      go_wp2_with fail
      refine (l01Next_ok b 3 _ hs3 ⟨by omega, by omega⟩).mono ?_
      rintro e w4 ⟨v, rfl, _, hv, hs4, hg4⟩
      clear hv
      have hL4 := hL3.grown hg4 (by simp; omega)
      have hR4 := hR3.grown hg4 (by simp; omega)
      have ho4 := ho3.grown hg4 (fun g e => by have := ho3.lo g e; simp; omega)
      have hG4 := grown_trans hG3 hg4
      have z4 := hg4.size
      have lL4 := hL4.two
      have hwq : w1.heap.size + 1 ≤ w4.heap.size := by omega
      have hln : n' + 1 ≤ 1000000000000 := by omega
      clear lL
      by_cases hv0 : v = 0
      · subst hv0
        go_wp2_with (at_builtin; refine app1 rfl rfl ho4 rfl rfl (by omega) hwq ?_; intro g' cc w8 hO hg8 hs8 hb8; have hL8 := hL4.below hb8 (by omega); have lL8 := hL8.two)
        go_roundw
        case rel =>
          refine ⟨j, _, _, _, _, by omega, by go_num, by omega, hsm.snoc (by omega) (by omega), (hs4.keepB hb8 (by omega)).setne (by simp; omega) _, (hR4.below hb8 (by omega)).setne (by simp; omega) _, hL8.set 1 _, hO.setlo (by simp) _, ?_, by rw [size_set]; omega⟩
          exact grown_set (grown_below hG4 hb8 (by omega)) (.inr (by simp; omega)) _
        case measure => simp [intOf]; try omega
      · go_wp2_with (at_builtin; refine app1 rfl rfl ho4 rfl rfl (by omega) hwq ?_; intro g' cc w8 hO hg8 hs8 hb8; have hL8 := hL4.below hb8 (by omega); have lL8 := hL8.two)
        go_roundw
        case rel =>
          refine ⟨j, _, _, _, _, by omega, by go_num, by omega, hsm.snoc (by omega) (by omega), (hs4.keepB hb8 (by omega)).setne (by simp; omega) _, (hR4.below hb8 (by omega)).setne (by simp; omega) _, hL8.set 1 _, hO.setlo (by simp) _, ?_, by rw [size_set]; omega⟩
          exact grown_set (grown_below hG4 hb8 (by omega)) (.inr (by simp; omega)) _
        case measure => simp [intOf]; try omega
    · have lR := hR.two
      go_wp2
      refine bodyPost_ret (v := bAgg (2 + (k : Int)) a' n' c') (by simp [results, Try.results47, go_sem, lR]) rfl ⟨_, a', n', c', xs, rfl, by omega, by omega, by omega, hsm, ?_, ?_, ?_⟩
      · exact ((ho.setlo (by simp <;> omega) _).setlo (by simp <;> omega) _).mono (by omega)
      · exact (hs.setne (by simp; omega) _).setne (by simp; omega) _
      · exact grown_set (grown_set hG (.inr (by simp)) _) (.inr (by simp)) _

theorem Own.blk_ne {w : World} {lo : Nat} {a : Option Addr} {n c : Nat} {xs : List Int} (h : Own w lo a n c xs) {k : Nat} (hk : ∀ g, a = some ⟨g, 0, none⟩ → g ≠ k) : some k ≠ (Value.slice a n c).ownBlock := by
  rcases h.block with ⟨rfl, rfl, rfl⟩ | ⟨g, cur, rfl, h2, h3, h4, h5, h6, h7⟩
  · simp [Value.ownBlock]
  · have := hk g rfl
    simp [Value.ownBlock]; omega
theorem Own.ne_loc {w : World} {lo g n c : Nat} {xs : List Int} (h : Own w lo (some ⟨g, 0, none⟩) n c xs) {b : Nat} {cs : Array Value} {t : TypeId} (hL : Loc w b cs t) (ht : t ≠ 2) : g ≠ b := by
  rcases h.block with ⟨h1, _⟩ | ⟨g', cur, e, h2, h3, _⟩
  · cases h1
  · cases e
    intro e; subst e
    unfold Loc at h3 hL
    rw [h3] at hL
    injection hL with e
    injection e with e1 e2
    exact ht e2.symm
theorem pick3 (w : World) (x y z : Int) (t : TypeId) : Row (w.alloc (.cells #[.int .i64 x, .int .i64 y, .int .i64 z] t)) (some ⟨w.heap.size, 0, none⟩) 3 [x, y, z] := row_lit w _ t [x, y, z] rfl
theorem pick3d (w : World) (x y z : Int) (t : TypeId) : Row (w.alloc (.cells #[.int .i64 x, .int .i64 y, .int .i64 z] t)).drew (some ⟨w.heap.size, 0, none⟩) 3 [x, y, z] := (pick3 w x y z t).drewN 1
set_option maxHeartbeats 16000000 in
theorem l16DrawAny_ok (b : Nat) (s m : Nat) (w : World) (h : Src w b) (h1 : 2 ≤ s) (h2 : s ≤ 10) (hm : m ≤ 20) :
    Calls Try.prog 33 #[.pointer (some ⟨b, 0, none⟩), .int .i64 s, .int .i64 m] w (DrB b w 0 10 31) := by
  have hlt := h.lt
  go_enter Try.func33, Try.ntmps33
  have hR := Loc.new w rfl #[.int .i64 0, .slice none 0 0] 26
  have hG0 := World.grownBy_alloc w (.cells #[.int .i64 0, .slice none 0 0] 26) (some b)
  go_wp2_with fail
  refine (l16Draw_ok b s m _ (h.below (below_al (Below.refl _ _) _)) h1 h2 hm).mono ?_
  rintro e w1 ⟨S, a, n, c, xs, rfl, hS1, hS2, hn, hsm, ho, hs1, hg1⟩
  rw [size_alloc] at ho
  have hG1 := grown_trans hG0 hg1
  have hR1 := hR.grown hg1 (by simp; omega)
  have hRl := hR1.lt
  have hb1 := hs1.lt
  go_wp2_with fail
  refine (l01Next_ok b 24 _ (hs1.below (below_al (Below.refl _ _) (.cells #[.int .i64 S, .slice a n c] 26))) ⟨by omega, by omega⟩).mono ?_
  rintro e w2 ⟨y, rfl, _, hy, hs2, hg2⟩
  obtain ⟨hy1, hy2⟩ := hy (by omega)
  have hL2 := (Loc.new w1 rfl #[.int .i64 S, .slice a n c] 26).grown hg2 (by simp; omega)
  have hR2 := (hR1.alloc (.cells #[.int .i64 S, .slice a n c] 26)).grown hg2 (by simp; omega)
  have hG2 := grown_trans (grown_alloc hG1 (.cells #[.int .i64 S, .slice a n c] 26)) hg2
  have ho2 := (ho.alloc (.cells #[.int .i64 S, .slice a n c] 26)).grown hg2 (fun g e => by have := ho.lo g e; simp; omega)
  have hne : ∀ g, a = some ⟨g, 0, none⟩ → g ≠ w1.heap.size := fun g e => by have := ho.hi g e; omega
  have z1 : w1.heap.size + 1 ≤ w2.heap.size := by have := hg2.size; simpa using this
  clear hy
  have lL2 := hL2.two
  have lR2 := hR2.two
  by_cases hy0 : y = 0
  · subst hy0
    go_wp2_with fail
    refine (l01Pick_ok b _ _ _ [1, 7, 0] _ (hs2.below (below_al (Below.refl _ _) _)) (pick3 w2 1 7 0 _) (by decide) (by decide) (fun g o e => by cases e; omega)).mono ?_
    rintro e w3 ⟨x, rfl, hx, hs3, hg3⟩
    have hx10 : 0 ≤ x ∧ x ≤ 10 := by simp at hx; rcases hx with h | h | h <;> (subst h; omega)
    clear hx
    have hL3 := (hL2.alloc _).grown hg3 (by simp; omega)
    have hR3 := (hR2.alloc _).grown hg3 (by simp; omega)
    have hG3 := grown_trans (grown_alloc hG2 _) hg3
    have ho3 := (ho2.alloc _).grown hg3 (fun g e => by have := ho.lo g e; simp; omega)
    have z3 : w2.heap.size + 1 ≤ w3.heap.size := by have := hg3.size; simpa using this
    clear lL2 lR2
    have lL3 := hL3.two
    have lR3 := hR3.two
    go_wp2
    have lF := (hL3.set 0 (.int .i64 x)).two
    refine bodyPost_ret (v := bAgg x a n c) (by simp [results, Try.results33, go_sem, lR3]) rfl ⟨_, a, n, c, xs, rfl, by omega, by omega, by omega, hsm, ?_, ?_, ?_⟩
    · exact (((ho3.setne (fun g e => hne g e) _).setlo (by simp <;> omega) _).setlo (by simp <;> omega) _).mono (by omega)
    · exact (((hs3.setne (by simp; omega) _).setne (by simp; omega) _).setne (by simp; omega) _)
    · exact grown_set (grown_set (grown_set hG3 (.inr (by simp; omega)) _) (.inr (by simp)) _) (.inr (by simp)) _
  · by_cases hy1' : y = 1
    · subst hy1'
      have hS3 : IntKind.i64.wrap (-S) = -S := IntWalk.i64_in _ ⟨by omega, by omega⟩
      have hBN := ho.blk_ne hne
      have lA2 := (hL2.alloc (.cells #[.int .i64 0, .int .i64 S, .int .i64 (-S)] 2)).two
      go_wp2_with fail
      go_region_law (first
          | (refine step_app1n rfl rfl (((ho2.alloc _).drewN 1).grown hg3 (fun g e => by have := ho.lo g e; simp; omega)) rfl rfl ?_ ?_ ?_; (omega); (have := hg3.size; simp at this; omega); intro g' cc w8 hO hg8 hs8 hb8; have hL8 := hL3.grown hg8 hBN; have lL8 := hL8.two; have hR8 := hR3.below hb8 (by omega); have lR8 := hR8.two; have hS8 := hs3.keepB hb8 (by omega); have hG8 := grown_below (grown_trans (grown_drewN (grown_alloc hG2 _) 1) hg3) hb8 (by omega))
          | (go_simp; go_at_call 59; refine (l01Pick_ok b _ _ _ [0, S, -S] _ (hs2.below (below_al (Below.refl _ _) _).drew) (pick3d w2 0 S (-S) _) (by decide) (by decide) (fun g o e => by cases e; simp; omega)).mono ?_; rintro e w3 ⟨x, rfl, hx, hs3, hg3⟩; have hL3 := ((hL2.alloc _).drewN 1).grown hg3 (by simp; omega); have hR3 := ((hR2.alloc _).drewN 1).grown hg3 (by simp; omega); have lL3 := hL3.two; have lA3 := (hL3.alloc (.cells #[.int .i64 x] 2)).two))
      all_goals
        have hx10 : -10 ≤ x ∧ x ≤ 10 := by simp at hx; rcases hx with h | h | h <;> (subst h; omega)
        have z8 : w2.heap.size < w8.heap.size := by have := hg3.size; simp at this; omega
        have lF := (hL8.set 1 (.slice (some ⟨g', 0, none⟩) (n + 1) cc)).two
        go_wp2
        refine bodyPost_ret (v := bAgg S (some ⟨g', 0, none⟩) (n + 1) cc) (by simp [results, Try.results33, go_sem, lR8]) rfl ⟨_, _, _, cc, xs ++ [x], rfl, by omega, by omega, by omega, hsm.snoc (by omega) (by omega), ?_, ?_, ?_⟩
        · exact (((hO.setne (fun g e => by
            cases e
            exact hO.ne_loc hL8 (by decide)) _).setlo (by simp <;> omega) _).setlo (by simp <;> omega) _).mono (by omega)
        · exact (((hS8.setne (by simp; omega) _).setne (by simp; omega) _).setne (by simp; omega) _)
        · exact grown_set (grown_set (grown_set hG8 (.inr (by simp; omega)) _) (.inr (by simp)) _) (.inr (by simp)) _
    · by_cases hy2' : y = 2
      · subst hy2'
        go_wp2
        go_loopg [39] (31 - n) (fun g s39 wr => ∃ (a' : Option Addr) (n' c' : Nat) (xs' : List Int), Sml xs' ∧ n' ≤ 31 ∧ g + n' = 31 ∧ Src wr b ∧ Loc wr w1.heap.size #[.int .i64 S, .slice a' n' c'] 26 ∧ Loc wr w.heap.size #[.int .i64 0, .slice none 0 0] 26 ∧
          Own wr (w.heap.size + 1) a' n' c' xs' ∧ (∀ g, a' = some ⟨g, 0, none⟩ → g ≠ w1.heap.size) ∧ w.grownBy wr (some b) ∧ w1.heap.size + 1 ≤ wr.heap.size)
        case atStart => exact ⟨a, n, c, xs, hsm, by omega, by omega, hs2, hL2, hR2, ho2, hne, hG2, z1⟩
        case round =>
          obtain ⟨a', n', c', xs', hsm', hn', hgn, hs, hL, hR, ho', hne', hG, hz⟩ := hrel
          have lL := hL.two
          have lR := hR.two
          by_cases hlt : n' < 31
          · have hBN := ho'.blk_ne hne'
            have hwq : w.heap.size + 1 ≤ wr.heap.size := by omega
            have hln : n' + 1 ≤ 1000000000000 := by omega
            go_wp2_with (at_builtin; refine app1 rfl rfl ho' rfl rfl (by omega) hwq ?_; intro g' cc w8 hO hg8 hs8 hb8; have hL8 := hL.grown hg8 hBN; have lL8 := hL8.two)
            go_roundg (gk - 1)
            case measure => omega
            case rel =>
              exact ⟨_, _, _, _, hsm'.snoc (x := 1) (by omega) (by omega), by omega, by omega, (hs.keepB hb8 (by omega)).setne (by simp; omega) _, hL8.set 1 _, (hR.below hb8 (by omega)).setne (by simp; omega) _,
                hO.setne (fun g e => by cases e; exact hO.ne_loc hL8 (by decide)) _, (fun g e => by cases e; exact hO.ne_loc hL8 (by decide)), grown_set (grown_below hG hb8 (by omega)) (.inr (by simp; omega)) _, by rw [size_set]; omega⟩
          · go_wp2
            refine bodyPost_ret (v := bAgg S a' n' c') (by simp [results, Try.results33, go_sem, lR]) rfl ⟨_, a', n', c', xs', rfl, by omega, by omega, by omega, hsm', ?_, ?_, ?_⟩
            · exact ((ho'.setlo (by simp <;> omega) _).setlo (by simp <;> omega) _).mono (by omega)
            · exact ((hs.setne (by simp; omega) _).setne (by simp; omega) _)
            · exact grown_set (grown_set hG (.inr (by simp)) _) (.inr (by simp)) _
      · go_wp2
        refine bodyPost_ret (v := bAgg S a n c) (by simp [results, Try.results33, go_sem, lR2]) rfl ⟨_, a, n, c, xs, rfl, by omega, by omega, by omega, hsm, ?_, ?_, ?_⟩
        · exact ((ho2.setlo (by simp <;> omega) _).setlo (by simp <;> omega) _).mono (by omega)
        · exact ((hs2.setne (by simp; omega) _).setne (by simp; omega) _)
        · exact grown_set (grown_set hG2 (.inr (by simp)) _) (.inr (by simp)) _
end Go.Proofs.Ytgnaeeifnhgobaa
