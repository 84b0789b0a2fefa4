/-
  The reference's drawn racks: squares.
  No condition but bounds.
-/
import Derived.Test.YtdkpalllfekiiaaGreatPrDt
import Derived.Test.YtdkpalllfekiiaaGreatPrRn
namespace Go.Proofs.YtdkpalllfekiiaaGreat
set_option linter.unusedVariables false
set_option linter.unusedSimpArgs false
set_option maxRecDepth 100000
open Go.RowKit

theorem OwnT.grownb {w w' : World} {lo b : Nat} {a : Option Addr} {n c : Nat} {vs : List SV} {t : List (List Int)} (h : OwnT w lo a n c vs t) (hg : w.grownBy w' (some b)) (hb : b < lo) : OwnT w' lo a n c vs t :=
  h.keep fun q hq hl => hg.block q hl (fun e => by have := h.uLo q hq; cases e; omega)
/-- a drawn rack: a square -/
def RkD (b : Nat) (w : World) (N : Nat) (e : Ending) (w' : World) : Prop :=
  ∃ (n : Nat) (a : Option Addr) (c : Nat) (vs : List SV) (t : List (List Int)), 1 ≤ n ∧ n ≤ N ∧ e = .returned (rAgg a n c) ∧ OwnT w' w.heap.size a n c vs t ∧ Sq n t ∧ Src w' b ∧ w.grownBy w' (some b)

set_option maxHeartbeats 8000000 in
theorem l03Draw_ok (M b : Nat) (w : World) (h : Src w b) (h1 : 1 ≤ M) (hM : M ≤ 12) :
    Calls Tryz.prog 93 #[.pointer (some ⟨b, 0, none⟩), .int .i64 M] w (RkD b w M) := by
  have hlt := h.lt
  have hR := Loc.new w rfl #[.slice none 0 0] 106
  go_enter Tryz.func93, Tryz.ntmps93
  go_wp2_with fail
  refine (l03DrawTable_ok M b _ (h.below (below_al (Below.refl _ _) _)) h1 hM).mono ?_
  rintro e w1 ⟨n, a1, c1, vs1, t, n1, nM, rfl, ho1, sq, hs1, hg1⟩
  have hR1 := hR.grown hg1 (by simp; omega)
  have hG1 := grown_trans (World.grownBy_alloc w (.cells #[.slice none 0 0] 106) (some b)) hg1
  have hz1 := hR1.lt
  have SQ := Lib.hid sq
  have ho1 := ho1.mono (lo' := w.heap.size + 1) (by simp)
  clear sq hg1 hR
  go_wp2_with fail
  refine (l01Next_ok b 2 _ hs1 ⟨by omega, by omega⟩).mono ?_
  rintro e w2 ⟨x, rfl, _, hx, hs2, hg2⟩
  obtain ⟨hx1, hx2⟩ := hx (by omega)
  have hR2 := hR1.grown hg2 (by simp; omega)
  have hG2 := grown_trans hG1 hg2
  have ho2 := ho1.grownb hg2 (by omega)
  have hz2 := hR2.lt
  clear hx hR1 hG1 ho1 hs1 hg2
  have hx3 : x = 0 ∨ x = 1 := by omega
  clear hx1 hx2
  rcases hx3 with rfl | rfl
  · go_wp2_with fail
    refine (l03DrawPerm_ok b n _ hs2 (by omega)).mono ?_
    rintro e w3 ⟨a3, c3, p, rfl, hp, ho3, hs3, hg3⟩
    have hR3 := hR2.grown hg3 (by simp; omega)
    have hG3 := grown_trans hG2 hg3
    have ho23 := ho2.grownb hg3 (by omega)
    have HP := Lib.hid hp
    have hz3 := hR3.lt
    clear hp hR2 hG2 ho2 hs2 hg3
    go_wp2_with fail
    refine (l03Image_any n _ _ _ _ t p _ ho23.tbl ho3.row SQ.out HP.out n1 (by omega)).mono ?_
    rintro e w4 ⟨a4, c4, vs4, rfl, ho4, hb4⟩
    have hR4 := hR3.below hb4 hz3
    have hG4 := grown_trans hG3 (grown_of_below hb4 (some b))
    have hs4 := hs3.below hb4
    have lR := hR4.one
    go_wp2
    refine bodyPost_ret (v := rAgg a4 n c4) (by simp [results, Tryz.results93, go_sem, lR]) rfl ⟨n, a4, c4, vs4, _, n1, nM, rfl, ?_, rnL_sq HP.out SQ.out, ?_, ?_⟩
    · exact (ho4.setlo (p := ⟨w.heap.size, 0, none⟩) hz3 _).mono (by omega)
    · exact hs4.setne (p := ⟨w.heap.size, 0, none⟩) hlt _
    · exact grown_set hG4 (.inr (Nat.le_refl _)) _
  · have lR := hR2.one
    go_wp2
    refine bodyPost_ret (v := rAgg a1 n c1) (by simp [results, Tryz.results93, go_sem, lR]) rfl ⟨n, a1, c1, vs1, _, n1, nM, rfl, ?_, SQ.out, ?_, ?_⟩
    · exact (ho2.setlo (p := ⟨w.heap.size, 0, none⟩) (by show w.heap.size < w.heap.size + 1; omega) _).mono (by omega)
    · exact hs2.setne (p := ⟨w.heap.size, 0, none⟩) hlt _
    · exact grown_set hG2 (.inr (Nat.le_refl _)) _
end Go.Proofs.YtdkpalllfekiiaaGreat
