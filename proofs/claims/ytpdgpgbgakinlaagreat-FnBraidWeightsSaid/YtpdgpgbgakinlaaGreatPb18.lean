/-
  Walks and plain laws of this seat, some texts in one.
  No condition but bounds on lengths.
-/
import Derived.Test.YtpdgpgbgakinlaaGreatPb17
import Derived.Test.YtpdgpgbgakinlaaGreatPb1
import Derived.Test.YtpdgpgbgakinlaaGreatPb3
import Derived.Test.YtpdgpgbgakinlaaGreatPb7
import Derived.Deep.RegionHeld3
import Derived.Deep.LoopGhost
import Derived.Deep.RegionLaw
import Derived.Test.YtpdgpgbgakinlaaGreatPb11
import Derived.Test.YtpdgpgbgakinlaaGreatPb8
import Derived.Test.YtpdgpgbgakinlaaGreatPb2
namespace Go.Proofs.YtpdgpgbgakinlaaGreat
set_option linter.unusedVariables false
set_option linter.unusedSimpArgs false
set_option maxRecDepth 100000
open Go.RowKit
theorem Src.upd {w w' : World} {b : Nat} (h : Src w b) (hg : w.grownBy w' none) : Src w' b := h.below ⟨hg.os, hg.tape, hg.output, hg.size, fun k hk => hg.block k hk (by simp)⟩
theorem Src.setne {w : World} {b : Nat} (h : Src w b) {p : Addr} (hp : b < p.block) (u : Value) : Src (w.setCell p u) b := by
  obtain ⟨a, n, c, xs, i, g, h1, h2, h3, h4, hB, hg, hL⟩ := h
  refine ⟨a, n, c, xs, i, g, h1, h2, h3, h4, ⟨hB.1, fun j hj => ?_, hB.2.2⟩, hg, hL.setne (by omega) u⟩
  obtain ⟨q, off, e1, e2, e3⟩ := hB.2.1 j hj
  exact ⟨q, off, e1, by rw [size_set]; exact e2, cell_setne e3 (by have := hg (by omega) q off e1; simp; omega) _⟩
theorem Src.keepB {w w' : World} {b B : Nat} (h : Src w b) (hb : Below B w w') (hlt : b < B) : Src w' b := by
  obtain ⟨a, n, c, xs, i, g, h1, h2, h3, h4, hB, hg, hL⟩ := h
  refine ⟨a, n, c, xs, i, g, h1, h2, h3, h4, ⟨hB.1, fun j hj => ?_, hB.2.2⟩, hg, hL.below hb hlt⟩
  obtain ⟨q, off, e1, e2, e3⟩ := hB.2.1 j hj
  exact ⟨q, off, e1, Nat.lt_of_lt_of_le e2 hb.size, (hb.cell (p := ⟨q, off + j, none⟩) (by have := hg (by omega) q off e1; show q < B; omega)).trans e3⟩
theorem grown_below {a w w' : World} {r : Option Nat} {B : Nat} (h : a.grownBy w r) (hb : Below B w w') (hB : a.heap.size ≤ B) : a.grownBy w' r :=
  ⟨hb.os.trans h.os, hb.tape.trans h.tape, hb.output.trans h.output, Nat.le_trans h.size hb.size, fun k hk hn => (hb.block k (by omega)).trans (h.block k hk hn)⟩
def Sml (xs : List Int) : Prop := ∀ x ∈ xs, -100 ≤ x ∧ x ≤ 100
theorem Sml.snoc {xs : List Int} (h : Sml xs) {x : Int} (h1 : -100 ≤ x) (h2 : x ≤ 100) : Sml (xs ++ [x]) := fun y hy => by
  rcases List.mem_append.1 hy with hy | hy
  · exact h y hy
  · simp at hy; subst hy; exact ⟨h1, h2⟩
def DrB (b : Nat) (w : World) (lo hi : Int) (m : Nat) (e : Ending) (w' : World) : Prop :=
  ∃ (S : Int) (a : Option Addr) (n c : Nat) (xs : List Int), e = .returned (bAgg S a n c) ∧ lo ≤ S ∧ S ≤ hi ∧ n ≤ m ∧ Sml xs ∧ Own w' w.heap.size a n c xs ∧ Src w' b ∧ w.grownBy w' (some b)
set_option maxHeartbeats 8000000 in
theorem l16Draw_ok (b : Nat) (s m : Nat) (w : World) (h : Src w b) (h1 : 2 ≤ s) (h2 : s ≤ 10) (hm : m ≤ 20) :
    Calls Tryz.prog 80 #[.pointer (some ⟨b, 0, none⟩), .int .i64 s, .int .i64 m] w (DrB b w 2 s m) := by
  have hlt := h.lt
  go_enter Tryz.func80, Tryz.ntmps80
  have hR := Loc.new w rfl #[.int .i64 0, .slice none 0 0] 29
  go_wp2_with fail
  refine (l01Next_ok b ((s : Int) - 1) _ (h.below (below_al (Below.refl _ _) _)) ⟨by omega, by omega⟩).mono ?_
  rintro e w1 ⟨x, rfl, _, hx, hs1, hg1⟩
  obtain ⟨hx1, hx2⟩ := hx (by omega)
  obtain ⟨k, rfl⟩ : ∃ k : Nat, x = k := ⟨x.toNat, by omega⟩
  have hG1 := grown_trans (World.grownBy_alloc w (.cells #[.int .i64 0, .slice none 0 0] 29) (some b)) hg1
  have hR1 := hR.grown hg1 (by simp; omega)
  have hRl := hR1.lt
  clear hx hR
  go_wp2_with fail
  refine (l01Next_ok b ((m : Int) + 1) _ (hs1.below (below_al (Below.refl _ _) (.cells #[.int .i64 (2 + (k : Int)), .slice none 0 0] 29))) ⟨by omega, by omega⟩).mono ?_
  rintro e w2 ⟨y, rfl, _, hy, hs2, hg2⟩
  obtain ⟨hy1, hy2⟩ := hy (by omega)
  obtain ⟨j0, rfl⟩ : ∃ j : Nat, y = j := ⟨y.toNat, by omega⟩
  have hb1 : b < w1.heap.size := hs1.lt
  have hL2 := (Loc.new w1 rfl #[.int .i64 (2 + (k : Int)), .slice none 0 0] 29).grown hg2 (by simp; omega)
  have hR2 := (hR1.alloc (.cells #[.int .i64 (2 + (k : Int)), .slice none 0 0] 29)).grown hg2 (by simp; omega)
  have hG2 := grown_trans (grown_alloc hG1 (.cells #[.int .i64 (2 + (k : Int)), .slice none 0 0] 29)) hg2
  have z1 : w1.heap.size + 1 ≤ w2.heap.size := by have := hg2.size; simpa using this
  clear hy
  go_wp2
  go_loopw [8, 9] (fun i _ wr => ∃ (j : Nat) (a' : Option Addr) (n' c' : Nat) (xs : List Int), j ≤ j0 ∧ i = .int .i64 j ∧ n' + j = j0 ∧ Sml xs ∧ Src wr b ∧ Loc wr w.heap.size #[.int .i64 0, .slice none 0 0] 29 ∧
    Loc wr w1.heap.size #[.int .i64 (2 + (k : Int)), .slice a' n' c'] 29 ∧ Own wr (w1.heap.size + 1) a' n' c' xs ∧ w.grownBy wr (some b) ∧ w1.heap.size + 1 ≤ wr.heap.size) (fun i _ _ => (intOf i).toNat)
  case atStart => exact ⟨j0, none, 0, 0, [], Nat.le_refl _, rfl, by omega, fun x hx => by simp at hx, hs2, hR2, hL2, Own.nil _ _, hG2, z1⟩
  case round =>
    obtain ⟨j, a', n', c', xs, hj, rfl, hnj, hsm, hs, hR, hL, ho, hG, hz⟩ := hrel
    have lL := hL.two
    rcases j with _ | j
    rotate_left
    · go_wp2_with fail
      refine (l01Next_ok b (2 + (k : Int) - 1) _ hs ⟨by omega, by omega⟩).mono ?_
      rintro e w3 ⟨x, rfl, _, hx, hs3, hg3⟩
      obtain ⟨hx1, hx2⟩ := hx (by omega)
      clear hx
      have hL3 := hL.grown hg3 (by simp; omega)
      have hR3 := hR.grown hg3 (by simp; omega)
      have ho3 := ho.grown hg3 (fun g e => by have := ho.lo g e; simp; omega)
      have hG3 := grown_trans hG hg3
      have z3 := hg3.size
      go_wp2_with fail
      refine (l01Next_ok b 3 _ hs3 ⟨by omega, by omega⟩).mono ?_
      rintro e w4 ⟨v, rfl, _, hv, hs4, hg4⟩
      clear hv
      have hL4 := hL3.grown hg4 (by simp; omega)
      have hR4 := hR3.grown hg4 (by simp; omega)
      have ho4 := ho3.grown hg4 (fun g e => by have := ho3.lo g e; simp; omega)
      have hG4 := grown_trans hG3 hg4
      have z4 := hg4.size
      have lL4 := hL4.two
      have hwq : w1.heap.size + 1 ≤ w4.heap.size := by omega
      have hln : n' + 1 ≤ 1000000000000 := by omega
      clear lL
      by_cases hv0 : v = 0
      · subst hv0
        go_wp2_with (at_builtin; refine app1 rfl rfl ho4 rfl rfl (by omega) hwq ?_; intro g' cc w8 hO hg8 hs8 hb8; have hL8 := hL4.below hb8 (by omega); have lL8 := hL8.two)
        go_roundw
        case rel =>
          refine ⟨j, _, _, _, _, by omega, by go_num, by omega, hsm.snoc (by omega) (by omega), (hs4.keepB hb8 (by omega)).setne (by simp; omega) _, (hR4.below hb8 (by omega)).setne (by simp; omega) _, hL8.set 1 _, hO.setlo (by simp) _, ?_, by rw [size_set]; omega⟩
          exact grown_set (grown_below hG4 hb8 (by omega)) (.inr (by simp; omega)) _
        case measure => simp [intOf]; try omega
      · go_wp2_with (at_builtin; refine app1 rfl rfl ho4 rfl rfl (by omega) hwq ?_; intro g' cc w8 hO hg8 hs8 hb8; have hL8 := hL4.below hb8 (by omega); have lL8 := hL8.two)
        go_roundw
        case rel =>
          refine ⟨j, _, _, _, _, by omega, by go_num, by omega, hsm.snoc (by omega) (by omega), (hs4.keepB hb8 (by omega)).setne (by simp; omega) _, (hR4.below hb8 (by omega)).setne (by simp; omega) _, hL8.set 1 _, hO.setlo (by simp) _, ?_, by rw [size_set]; omega⟩
          exact grown_set (grown_below hG4 hb8 (by omega)) (.inr (by simp; omega)) _
        case measure => simp [intOf]; try omega
    · have lR := hR.two
      go_wp2
      refine bodyPost_ret (v := bAgg (2 + (k : Int)) a' n' c') (by simp [results, Tryz.results80, go_sem, lR]) rfl ⟨_, a', n', c', xs, rfl, by omega, by omega, by omega, hsm, ?_, ?_, ?_⟩
      · exact ((ho.setlo (by simp <;> omega) _).setlo (by simp <;> omega) _).mono (by omega)
      · exact (hs.setne (by simp; omega) _).setne (by simp; omega) _
      · exact grown_set (grown_set hG (.inr (by simp)) _) (.inr (by simp)) _
theorem Own.blk_ne {w : World} {lo : Nat} {a : Option Addr} {n c : Nat} {xs : List Int} (h : Own w lo a n c xs) {k : Nat} (hk : ∀ g, a = some ⟨g, 0, none⟩ → g ≠ k) : some k ≠ (Value.slice a n c).ownBlock := by
  rcases h.block with ⟨rfl, rfl, rfl⟩ | ⟨g, cur, rfl, h2, h3, h4, h5, h6, h7⟩
  · simp [Value.ownBlock]
  · have := hk g rfl
    simp [Value.ownBlock]; omega
theorem Own.ne_loc {w : World} {lo g n c : Nat} {xs : List Int} (h : Own w lo (some ⟨g, 0, none⟩) n c xs) {b : Nat} {cs : Array Value} {t : TypeId} (hL : Loc w b cs t) (ht : t ≠ 2) : g ≠ b := by
  rcases h.block with ⟨h1, _⟩ | ⟨g', cur, e, h2, h3, _⟩
  · cases h1
  · cases e
    intro e; subst e
    unfold Loc at h3 hL
    rw [h3] at hL
    injection hL with e
    injection e with e1 e2
    exact ht e2.symm
theorem pick3 (w : World) (x y z : Int) (t : TypeId) : Row (w.alloc (.cells #[.int .i64 x, .int .i64 y, .int .i64 z] t)) (some ⟨w.heap.size, 0, none⟩) 3 [x, y, z] := row_lit w _ t [x, y, z] rfl
theorem pick3d (w : World) (x y z : Int) (t : TypeId) : Row (w.alloc (.cells #[.int .i64 x, .int .i64 y, .int .i64 z] t)).drew (some ⟨w.heap.size, 0, none⟩) 3 [x, y, z] := (pick3 w x y z t).drewN 1
set_option maxHeartbeats 16000000 in
theorem l16DrawAny_ok (b : Nat) (s m : Nat) (w : World) (h : Src w b) (h1 : 2 ≤ s) (h2 : s ≤ 10) (hm : m ≤ 20) :
    Calls Tryz.prog 35 #[.pointer (some ⟨b, 0, none⟩), .int .i64 s, .int .i64 m] w (DrB b w 0 10 31) := by
  have hlt := h.lt
  go_enter Tryz.func35, Tryz.ntmps35
  have hR := Loc.new w rfl #[.int .i64 0, .slice none 0 0] 29
  have hG0 := World.grownBy_alloc w (.cells #[.int .i64 0, .slice none 0 0] 29) (some b)
  go_wp2_with fail
  refine (l16Draw_ok b s m _ (h.below (below_al (Below.refl _ _) _)) h1 h2 hm).mono ?_
  rintro e w1 ⟨S, a, n, c, xs, rfl, hS1, hS2, hn, hsm, ho, hs1, hg1⟩
  rw [size_alloc] at ho
  have hG1 := grown_trans hG0 hg1
  have hR1 := hR.grown hg1 (by simp; omega)
  have hRl := hR1.lt
  have hb1 := hs1.lt
  go_wp2_with fail
  refine (l01Next_ok b 24 _ (hs1.below (below_al (Below.refl _ _) (.cells #[.int .i64 S, .slice a n c] 29))) ⟨by omega, by omega⟩).mono ?_
  rintro e w2 ⟨y, rfl, _, hy, hs2, hg2⟩
  obtain ⟨hy1, hy2⟩ := hy (by omega)
  have hL2 := (Loc.new w1 rfl #[.int .i64 S, .slice a n c] 29).grown hg2 (by simp; omega)
  have hR2 := (hR1.alloc (.cells #[.int .i64 S, .slice a n c] 29)).grown hg2 (by simp; omega)
  have hG2 := grown_trans (grown_alloc hG1 (.cells #[.int .i64 S, .slice a n c] 29)) hg2
  have ho2 := (ho.alloc (.cells #[.int .i64 S, .slice a n c] 29)).grown hg2 (fun g e => by have := ho.lo g e; simp; omega)
  have hne : ∀ g, a = some ⟨g, 0, none⟩ → g ≠ w1.heap.size := fun g e => by have := ho.hi g e; omega
  have z1 : w1.heap.size + 1 ≤ w2.heap.size := by have := hg2.size; simpa using this
  clear hy
  have lL2 := hL2.two
  have lR2 := hR2.two
  by_cases hy0 : y = 0
  · subst hy0
    go_wp2_with fail
    refine (l01Pick_ok b _ _ _ [1, 7, 0] _ (hs2.below (below_al (Below.refl _ _) _)) (pick3 w2 1 7 0 _) (by decide) (by decide) (fun g o e => by cases e; omega)).mono ?_
    rintro e w3 ⟨x, rfl, hx, hs3, hg3⟩
    have hx10 : 0 ≤ x ∧ x ≤ 10 := by simp at hx; rcases hx with h | h | h <;> (subst h; omega)
    clear hx
    have hL3 := (hL2.alloc _).grown hg3 (by simp; omega)
    have hR3 := (hR2.alloc _).grown hg3 (by simp; omega)
    have hG3 := grown_trans (grown_alloc hG2 _) hg3
    have ho3 := (ho2.alloc _).grown hg3 (fun g e => by have := ho.lo g e; simp; omega)
    have z3 : w2.heap.size + 1 ≤ w3.heap.size := by have := hg3.size; simpa using this
    clear lL2 lR2
    have lL3 := hL3.two
    have lR3 := hR3.two
    go_wp2
    have lF := (hL3.set 0 (.int .i64 x)).two
    refine bodyPost_ret (v := bAgg x a n c) (by simp [results, Tryz.results35, go_sem, lR3]) rfl ⟨_, a, n, c, xs, rfl, by omega, by omega, by omega, hsm, ?_, ?_, ?_⟩
    · exact (((ho3.setne (fun g e => hne g e) _).setlo (by simp <;> omega) _).setlo (by simp <;> omega) _).mono (by omega)
    · exact (((hs3.setne (by simp; omega) _).setne (by simp; omega) _).setne (by simp; omega) _)
    · exact grown_set (grown_set (grown_set hG3 (.inr (by simp; omega)) _) (.inr (by simp)) _) (.inr (by simp)) _
  · by_cases hy1' : y = 1
    · subst hy1'
      have hS3 : IntKind.i64.wrap (-S) = -S := IntWalk.i64_in _ ⟨by omega, by omega⟩
      have hBN := ho.blk_ne hne
      have lA2 := (hL2.alloc (.cells #[.int .i64 0, .int .i64 S, .int .i64 (-S)] 2)).two
      go_wp2_with fail
      go_region_law (first
          | (refine step_app1n rfl rfl (((ho2.alloc _).drewN 1).grown hg3 (fun g e => by have := ho.lo g e; simp; omega)) rfl rfl ?_ ?_ ?_; (omega); (have := hg3.size; simp at this; omega); intro g' cc w8 hO hg8 hs8 hb8; have hL8 := hL3.grown hg8 hBN; have lL8 := hL8.two; have hR8 := hR3.below hb8 (by omega); have lR8 := hR8.two; have hS8 := hs3.keepB hb8 (by omega); have hG8 := grown_below (grown_trans (grown_drewN (grown_alloc hG2 _) 1) hg3) hb8 (by omega))
          | (go_simp; go_at_call 39; refine (l01Pick_ok b _ _ _ [0, S, -S] _ (hs2.below (below_al (Below.refl _ _) _).drew) (pick3d w2 0 S (-S) _) (by decide) (by decide) (fun g o e => by cases e; simp; omega)).mono ?_; rintro e w3 ⟨x, rfl, hx, hs3, hg3⟩; have hL3 := ((hL2.alloc _).drewN 1).grown hg3 (by simp; omega); have hR3 := ((hR2.alloc _).drewN 1).grown hg3 (by simp; omega); have lL3 := hL3.two; have lA3 := (hL3.alloc (.cells #[.int .i64 x] 2)).two))
      all_goals
        have hx10 : -10 ≤ x ∧ x ≤ 10 := by simp at hx; rcases hx with h | h | h <;> (subst h; omega)
        have z8 : w2.heap.size < w8.heap.size := by have := hg3.size; simp at this; omega
        have lF := (hL8.set 1 (.slice (some ⟨g', 0, none⟩) (n + 1) cc)).two
        go_wp2
        refine bodyPost_ret (v := bAgg S (some ⟨g', 0, none⟩) (n + 1) cc) (by simp [results, Tryz.results35, go_sem, lR8]) rfl ⟨_, _, _, cc, xs ++ [x], rfl, by omega, by omega, by omega, hsm.snoc (by omega) (by omega), ?_, ?_, ?_⟩
        · exact (((hO.setne (fun g e => by
            cases e
            exact hO.ne_loc hL8 (by decide)) _).setlo (by simp <;> omega) _).setlo (by simp <;> omega) _).mono (by omega)
        · exact (((hS8.setne (by simp; omega) _).setne (by simp; omega) _).setne (by simp; omega) _)
        · exact grown_set (grown_set (grown_set hG8 (.inr (by simp; omega)) _) (.inr (by simp)) _) (.inr (by simp)) _
    · by_cases hy2' : y = 2
      · subst hy2'
        go_wp2
        go_loopg [39] (31 - n) (fun g s39 wr => ∃ (a' : Option Addr) (n' c' : Nat) (xs' : List Int), Sml xs' ∧ n' ≤ 31 ∧ g + n' = 31 ∧ Src wr b ∧ Loc wr w1.heap.size #[.int .i64 S, .slice a' n' c'] 29 ∧ Loc wr w.heap.size #[.int .i64 0, .slice none 0 0] 29 ∧
          Own wr (w.heap.size + 1) a' n' c' xs' ∧ (∀ g, a' = some ⟨g, 0, none⟩ → g ≠ w1.heap.size) ∧ w.grownBy wr (some b) ∧ w1.heap.size + 1 ≤ wr.heap.size)
        case atStart => exact ⟨a, n, c, xs, hsm, by omega, by omega, hs2, hL2, hR2, ho2, hne, hG2, z1⟩
        case round =>
          obtain ⟨a', n', c', xs', hsm', hn', hgn, hs, hL, hR, ho', hne', hG, hz⟩ := hrel
          have lL := hL.two
          have lR := hR.two
          by_cases hlt : n' < 31
          · have hBN := ho'.blk_ne hne'
            have hwq : w.heap.size + 1 ≤ wr.heap.size := by omega
            have hln : n' + 1 ≤ 1000000000000 := by omega
            go_wp2_with (at_builtin; refine app1 rfl rfl ho' rfl rfl (by omega) hwq ?_; intro g' cc w8 hO hg8 hs8 hb8; have hL8 := hL.grown hg8 hBN; have lL8 := hL8.two)
            go_roundg (gk - 1)
            case measure => omega
            case rel =>
              exact ⟨_, _, _, _, hsm'.snoc (x := 1) (by omega) (by omega), by omega, by omega, (hs.keepB hb8 (by omega)).setne (by simp; omega) _, hL8.set 1 _, (hR.below hb8 (by omega)).setne (by simp; omega) _,
                hO.setne (fun g e => by cases e; exact hO.ne_loc hL8 (by decide)) _, (fun g e => by cases e; exact hO.ne_loc hL8 (by decide)), grown_set (grown_below hG hb8 (by omega)) (.inr (by simp; omega)) _, by rw [size_set]; omega⟩
          · go_wp2
            refine bodyPost_ret (v := bAgg S a' n' c') (by simp [results, Tryz.results35, go_sem, lR]) rfl ⟨_, a', n', c', xs', rfl, by omega, by omega, by omega, hsm', ?_, ?_, ?_⟩
            · exact ((ho'.setlo (by simp <;> omega) _).setlo (by simp <;> omega) _).mono (by omega)
            · exact ((hs.setne (by simp; omega) _).setne (by simp; omega) _)
            · exact grown_set (grown_set hG (.inr (by simp)) _) (.inr (by simp)) _
      · go_wp2
        refine bodyPost_ret (v := bAgg S a n c) (by simp [results, Tryz.results35, go_sem, lR2]) rfl ⟨_, a, n, c, xs, rfl, by omega, by omega, by omega, hsm, ?_, ?_, ?_⟩
        · exact ((ho2.setlo (by simp <;> omega) _).setlo (by simp <;> omega) _).mono (by omega)
        · exact ((hs2.setne (by simp; omega) _).setne (by simp; omega) _)
        · exact grown_set (grown_set hG2 (.inr (by simp)) _) (.inr (by simp)) _
end Go.Proofs.YtpdgpgbgakinlaaGreat

namespace Go.Proofs.YtpdgpgbgakinlaaGreat
set_option linter.unusedVariables false
set_option linter.unusedSimpArgs false
set_option maxRecDepth 100000
open Go.RowKit
def sw2 (xs : List Int) (i k : Nat) : List Int := (xs.set i (xs.getD k 0)).set k (xs.getD i 0)
def tau (i k j : Nat) : Nat := if j = i then k else if j = k then i else j
theorem tau_tau (i k j : Nat) : tau i k (tau i k j) = j := by
  unfold tau
  by_cases h1 : j = i
  · subst h1
    rw [if_pos rfl]
    by_cases h2 : k = j
    · rw [if_pos h2]; exact h2
    · rw [if_neg h2, if_pos rfl]
  · rw [if_neg h1]
    by_cases h2 : j = k
    · subst h2; rw [if_pos rfl, if_pos rfl]
    · rw [if_neg h2, if_neg h1, if_neg h2]
theorem tau_lt {n i k j : Nat} (hi : i < n) (hk : k < n) (hj : j < n) : tau i k j < n := by
  unfold tau; split
  · exact hk
  · split
    · exact hi
    · exact hj
theorem sw2_get (xs : List Int) {i k j : Nat} (hi : i < xs.length) (hk : k < xs.length) (hj : j < xs.length) : (sw2 xs i k).getD j 0 = xs.getD (tau i k j) 0 := by
  unfold sw2 tau
  rw [getD_setz _ _ _ _ (by rw [List.length_set]; exact hj), getD_setz _ _ _ _ hj]
  by_cases h1 : j = k
  · subst h1
    rw [if_pos rfl]
    by_cases h2 : j = i
    · subst h2; rw [if_pos rfl]
    · rw [if_neg h2, if_pos rfl]
  · rw [if_neg h1]
    by_cases h2 : j = i
    · rw [if_pos h2, if_pos h2]
    · rw [if_neg h2, if_neg h2, if_neg h1]
theorem sw2_isP {n i k : Nat} {p : List Int} (h : IsP n p) (hi : i < n) (hk : k < n) : IsP n (sw2 p i k) := by
  obtain ⟨f, g, hl, h1, h2⟩ := h
  refine ⟨fun j => f (tau i k j), fun j => tau i k (g j), by simp [sw2, hl], fun j hj => ⟨(h1 _ (tau_lt hi hk hj)).1, tau_lt hi hk (h1 j hj).2.1, ?_, ?_⟩, fun j hj => ?_⟩
  · show f (tau i k (tau i k (g j))) = j
    rw [tau_tau]; exact (h1 j hj).2.2.1
  · show tau i k (g (f (tau i k j))) = j
    rw [(h1 _ (tau_lt hi hk hj)).2.2.2, tau_tau]
  · rw [sw2_get p (by omega) (by omega) (by omega)]
    exact h2 _ (tau_lt hi hk hj)
def PrD (b : Nat) (w : World) (n : Nat) (e : Ending) (w' : World) : Prop :=
  ∃ (a : Option Addr) (c : Nat) (p : List Int), e = .returned (.slice a n c) ∧ IsP n p ∧ Own w' w.heap.size a n c p ∧ Src w' b ∧ w.grownBy w' (some b)
set_option maxHeartbeats 8000000 in
theorem l01Draw_ok (b n : Nat) (w : World) (h : Src w b) (h1 : 1 ≤ n) (hn : n ≤ 1000) :
    Calls Tryz.prog 119 #[.pointer (some ⟨b, 0, none⟩), .int .i64 n] w (PrD b w n) := by
  have hlt := h.lt
  go_enter Tryz.func119, Tryz.ntmps119
  go_wp2_with fail
  refine (l01Unit_any n _ (by omega)).mono ?_
  rintro e w1 ⟨a1, c1, rfl, ho1, hb1⟩
  have hs1 := h.below hb1
  have hG1 := grown_of_below hb1 (some b)
  obtain ⟨g, rfl⟩ : ∃ g, a1 = some ⟨g, 0, none⟩ := by
    obtain ⟨b', o', e, _⟩ := ho1.row.at 0 (by omega)
    rcases ho1.block with ⟨e2, _⟩ | ⟨g', cur, e2, _⟩
    · rw [e2] at e; cases e
    · exact ⟨g', e2⟩
  have hP := unit_isP n
  go_wp2
  go_loopw [6, 7, 8] (fun i _ _ wr => ∃ (j : Nat) (p : List Int), j < n ∧ i = .int .i64 j ∧ Hid (IsP n p) ∧ Own wr w.heap.size (some ⟨g, 0, none⟩) n c1 p ∧ Src wr b ∧ w.grownBy wr (some b)) (fun i _ _ _ => (intOf i).toNat)
  case atStart => exact ⟨n - 1, unitL n, by omega, by congr 1; omega, Lib.hid hP, ho1, hs1, hG1⟩
  case round =>
    clear ho1 hs1 hG1 hb1 hP
    obtain ⟨j, p, hj, rfl, HP, ho, hs, hG⟩ := hrel
    rcases j with _ | j
    · go_wp2
      go_ret
      exact ⟨_, _, p, rfl, HP.out, ho, hs, hG⟩
    · go_wp2_with fail
      refine (l01Next_ok b (((j : Int) + 1) + 1) _ hs ⟨by omega, by omega⟩).mono ?_
      rintro e w2 ⟨x, rfl, _, hx, hs2, hg2⟩
      obtain ⟨hx1, hx2⟩ := hx (by omega)
      obtain ⟨k, rfl⟩ : ∃ k : Nat, x = k := ⟨x.toNat, by omega⟩
      have hk : k < n := by omega
      clear hx
      have hlo := ho.lo _ rfl
      have ho2 := ho.grown hg2 (fun q e => by cases e; simp; omega)
      have hG2 := grown_trans hG hg2
      have ci := ho2.cells.2.1 (j + 1) hj
      have ck := ho2.cells.2.1 k hk
      have fi := ho2.cells.2.2 (j + 1)
      have fk := ho2.cells.2.2 k
      have hset := (ho2.set (j + 1) (p.getD k 0)).set k (p.getD (j + 1) 0)
      have hsw : Hid (IsP n (sw2 p (j + 1) k)) := Lib.hid (sw2_isP HP.out hj hk)
      have fk2 := (ho2.set (j + 1) (p.getD k 0)).cells.2.2 k
      have ck2 := (ho2.set (j + 1) (p.getD k 0)).cells.2.1 k hk
      obtain ⟨X, HX⟩ : ∃ X, Hid (p.getD k 0 = X) := ⟨_, Lib.hid rfl⟩
      obtain ⟨Y, HY⟩ : ∃ Y, Hid (p.getD (j + 1) 0 = Y) := ⟨_, Lib.hid rfl⟩
      rw [HX.out] at ck hset fk2 ck2
      rw [HY.out] at ci hset
      obtain ⟨Z, HZ⟩ : ∃ Z, Hid ((p.set (j + 1) X).getD k 0 = Z) := ⟨_, Lib.hid rfl⟩
      rw [HZ.out] at ck2
      have HSET := Lib.hid hset
      have HSW : Hid (sw2 p (j + 1) k = (p.set (j + 1) X).set k Y) := Lib.hid (by unfold sw2; rw [HX.out, HY.out])
      clear hset
      have i1 : (0 : Int) ≤ (j : Int) + 1 := by omega
      have i2 : (j : Int) + 1 < (n : Int) := by omega
      have i3 : (0 : Int) ≤ (k : Int) := by omega
      have i4 : (k : Int) < (n : Int) := by omega
      have i5 : (0 : Int) < (j : Int) + 1 := by omega
      have hgb : (⟨g, j + 1, none⟩ : Addr).block = b ∨ w.heap.size ≤ (⟨g, j + 1, none⟩ : Addr).block := .inr hlo
      have hgb2 : (⟨g, k, none⟩ : Addr).block = b ∨ w.heap.size ≤ (⟨g, k, none⟩ : Addr).block := .inr hlo
      go_wp2
      go_roundw
      case rel => exact ⟨j, _, by omega, by go_num, by rw [HSW.out] at hsw; exact hsw, HSET.out, (hs2.setne (by show b < g; omega) _).setne (by show b < g; omega) _, grown_set (grown_set hG2 hgb _) hgb2 _⟩
      case measure => simp [intOf]
end Go.Proofs.YtpdgpgbgakinlaaGreat

namespace Go.Proofs.YtpdgpgbgakinlaaGreat
set_option maxRecDepth 100000
set_option linter.unusedVariables false
set_option linter.unusedSimpArgs false
open Go.RowKit
structure Dsk (w : World) (a : Option Addr) (n : Nat) (xss : List (List Int)) (a' : Option Addr) (n' : Nat) (yss : List (List Int)) (p : Option Addr) (m : Nat) (zss : List (List Int)) (q : Option Addr) (l : Nat) (ws : List Int) : Prop where
  s : Sol w a n xss a' n' yss
  r : Tbl w p m zss
  b : Row w q l ws
section
variable {w w' : World} {lo : Nat} {s : Int} {a a' p q a1 a1' p1 q1 a2 a2' p2 q2 : Option Addr} {n n' m l c c' d e n1 n1' m1 l1 c1 c1' d1 e1 n2 n2' m2 l2 c2 c2' d2 e2 : Nat} {xss yss zss : List (List Int)} {ws : List Int}
theorem Dsk.below (h : Dsk w a n xss a' n' yss p m zss q l ws) (hb : Below w.heap.size w w') : Dsk w' a n xss a' n' yss p m zss q l ws := ⟨h.s.below hb, h.r.below hb, h.b.below hb⟩
theorem Dsk.alloc (h : Dsk w a n xss a' n' yss p m zss q l ws) (o : Obj) : Dsk (w.alloc o) a n xss a' n' yss p m zss q l ws := ⟨h.s.alloc o, h.r.alloc o, h.b.alloc o⟩
structure OwnD (w : World) (lo : Nat) (a : Option Addr) (n c : Nat) (vs : List SV) (xss : List (List Int)) (a' : Option Addr) (n' c' : Nat) (vs' : List SV) (yss : List (List Int)) (p : Option Addr) (m d : Nat) (ps : List SV) (zss : List (List Int)) (q : Option Addr) (l e : Nat) (ws : List Int) : Prop where
  s : OwnS w lo a n c vs xss a' n' c' vs' yss
  r : OwnT w lo p m d ps zss
  b : Own w lo q l e ws
theorem OwnS.setlo {vs vs' : List SV} (h : OwnS w lo a n c vs xss a' n' c' vs' yss) {x : Addr} (hp : x.block < lo) (u : Value) : OwnS (w.setCell x u) lo a n c vs xss a' n' c' vs' yss := ⟨h.f.setlo hp u, h.s.setlo hp u, h.ap⟩
theorem OwnD.below {vs vs' ps : List SV} (h : OwnD w lo a n c vs xss a' n' c' vs' yss p m d ps zss q l e ws) (hb : Below w.heap.size w w') : OwnD w' lo a n c vs xss a' n' c' vs' yss p m d ps zss q l e ws := ⟨h.s.below hb, h.r.below hb, h.b.below hb⟩
end
end Go.Proofs.YtpdgpgbgakinlaaGreat

namespace Go.Proofs.YtpdgpgbgakinlaaGreat
set_option maxRecDepth 100000
set_option linter.unusedVariables false
set_option linter.unusedSimpArgs false
open Go.RowKit
def DskS (a : Option Addr) (n : Nat) (vs : List SV) (a' : Option Addr) (n' : Nat) (vs' : List SV) (p : Option Addr) (m : Nat) (ps : List SV) (q : Option Addr) (g : Nat) : Prop := SolS a n vs a' n' vs' g ∨ TblS p m ps g ∨ RowS q g
structure OwnDD (w : World) (lo : Nat) (a : Option Addr) (n c : Nat) (vs : List SV) (xss : List (List Int)) (a' : Option Addr) (n' c' : Nat) (vs' : List SV) (yss : List (List Int)) (p : Option Addr) (m d : Nat) (ps : List SV) (zss : List (List Int)) (q : Option Addr) (l e : Nat) (ws : List Int) : Prop where
  o : OwnD w lo a n c vs xss a' n' c' vs' yss p m d ps zss q l e ws
  ap1 : ∀ g, SolS a n vs a' n' vs' g → ¬ TblS p m ps g
  ap2 : ∀ g, SolS a n vs a' n' vs' g → ¬ RowS q g
  ap3 : ∀ g, TblS p m ps g → ¬ RowS q g
section
variable {w w' : World} {lo : Nat} {s : Int} {a a' p q a1 a1' p1 q1 a2 a2' p2 q2 : Option Addr} {n n' m l c c' d e n1 n1' m1 l1 c1 c1' d1 e1 n2 n2' m2 l2 c2 c2' d2 e2 : Nat} {xss yss zss : List (List Int)} {ws : List Int} {vs vs' ps : List SV}
theorem Dsk.drewN (h : Dsk w a n xss a' n' yss p m zss q l ws) (k : Nat) : Dsk (w.drewN k) a n xss a' n' yss p m zss q l ws := ⟨h.s.drewN k, h.r.drewN k, h.b.drewN k⟩
theorem OwnD.alloc (h : OwnD w lo a n c vs xss a' n' c' vs' yss p m d ps zss q l e ws) (o : Obj) : OwnD (w.alloc o) lo a n c vs xss a' n' c' vs' yss p m d ps zss q l e ws := ⟨h.s.alloc o, h.r.alloc o, h.b.alloc o⟩
theorem OwnD.drewN (h : OwnD w lo a n c vs xss a' n' c' vs' yss p m d ps zss q l e ws) (k : Nat) : OwnD (w.drewN k) lo a n c vs xss a' n' c' vs' yss p m d ps zss q l e ws := ⟨h.s.drewN k, h.r.drewN k, h.b.drewN k⟩
theorem OwnD.mono {lo' : Nat} (h : OwnD w lo a n c vs xss a' n' c' vs' yss p m d ps zss q l e ws) (hl : lo' ≤ lo) : OwnD w lo' a n c vs xss a' n' c' vs' yss p m d ps zss q l e ws := ⟨h.s.mono hl, h.r.mono hl, h.b.mono hl⟩
theorem OwnD.cap (h : OwnD w lo a n c vs xss a' n' c' vs' yss p m d ps zss q l e ws) : ((n ≤ c ∧ c ≤ 9223372036854775807) ∧ n' ≤ c' ∧ c' ≤ 9223372036854775807) ∧ (m ≤ d ∧ d ≤ 9223372036854775807) ∧ l ≤ e ∧ e ≤ 9223372036854775807 := ⟨h.s.cap, h.r.cap, h.b.cap⟩
theorem OwnD.uLo (h : OwnD w lo a n c vs xss a' n' c' vs' yss p m d ps zss q l e ws) : ∀ g, DskS a n vs a' n' vs' p m ps q g → lo ≤ g := fun g hg => hg.elim (h.s.uLo g) fun hg => hg.elim (h.r.uLo g) (h.b.uLo g)
theorem OwnD.uHi (h : OwnD w lo a n c vs xss a' n' c' vs' yss p m d ps zss q l e ws) : ∀ g, DskS a n vs a' n' vs' p m ps q g → g < w.heap.size := fun g hg => hg.elim (h.s.uHi g) fun hg => hg.elim (h.r.uHi g) (h.b.uHi g)
theorem OwnD.uKeep (h : OwnD w lo a n c vs xss a' n' c' vs' yss p m d ps zss q l e ws) {S : Nat → Prop} (hm : Marked S w w') (hS : ∀ g, DskS a n vs a' n' vs' p m ps q g → ¬ S g) : OwnD w' lo a n c vs xss a' n' c' vs' yss p m d ps zss q l e ws :=
  ⟨h.s.uKeep hm fun g hg => hS g (.inl hg), h.r.uKeep hm fun g hg => hS g (.inr (.inl hg)), h.b.uKeep hm fun g hg => hS g (.inr (.inr hg))⟩
theorem OwnDD.below (h : OwnDD w lo a n c vs xss a' n' c' vs' yss p m d ps zss q l e ws) (hb : Below w.heap.size w w') : OwnDD w' lo a n c vs xss a' n' c' vs' yss p m d ps zss q l e ws := ⟨h.o.below hb, h.ap1, h.ap2, h.ap3⟩
theorem OwnDD.alloc (h : OwnDD w lo a n c vs xss a' n' c' vs' yss p m d ps zss q l e ws) (o : Obj) : OwnDD (w.alloc o) lo a n c vs xss a' n' c' vs' yss p m d ps zss q l e ws := ⟨h.o.alloc o, h.ap1, h.ap2, h.ap3⟩
theorem OwnDD.drewN (h : OwnDD w lo a n c vs xss a' n' c' vs' yss p m d ps zss q l e ws) (k : Nat) : OwnDD (w.drewN k) lo a n c vs xss a' n' c' vs' yss p m d ps zss q l e ws := ⟨h.o.drewN k, h.ap1, h.ap2, h.ap3⟩
theorem OwnDD.mono {lo' : Nat} (h : OwnDD w lo a n c vs xss a' n' c' vs' yss p m d ps zss q l e ws) (hl : lo' ≤ lo) : OwnDD w lo' a n c vs xss a' n' c' vs' yss p m d ps zss q l e ws := ⟨h.o.mono hl, h.ap1, h.ap2, h.ap3⟩
theorem OwnDD.cap (h : OwnDD w lo a n c vs xss a' n' c' vs' yss p m d ps zss q l e ws) : ((n ≤ c ∧ c ≤ 9223372036854775807) ∧ n' ≤ c' ∧ c' ≤ 9223372036854775807) ∧ (m ≤ d ∧ d ≤ 9223372036854775807) ∧ l ≤ e ∧ e ≤ 9223372036854775807 := h.o.cap
theorem OwnDD.uLo (h : OwnDD w lo a n c vs xss a' n' c' vs' yss p m d ps zss q l e ws) : ∀ g, DskS a n vs a' n' vs' p m ps q g → lo ≤ g := h.o.uLo
theorem OwnDD.uHi (h : OwnDD w lo a n c vs xss a' n' c' vs' yss p m d ps zss q l e ws) : ∀ g, DskS a n vs a' n' vs' p m ps q g → g < w.heap.size := h.o.uHi
theorem OwnDD.uKeep (h : OwnDD w lo a n c vs xss a' n' c' vs' yss p m d ps zss q l e ws) {S : Nat → Prop} (hm : Marked S w w') (hS : ∀ g, DskS a n vs a' n' vs' p m ps q g → ¬ S g) : OwnDD w' lo a n c vs xss a' n' c' vs' yss p m d ps zss q l e ws := ⟨h.o.uKeep hm hS, h.ap1, h.ap2, h.ap3⟩
end
end Go.Proofs.YtpdgpgbgakinlaaGreat
