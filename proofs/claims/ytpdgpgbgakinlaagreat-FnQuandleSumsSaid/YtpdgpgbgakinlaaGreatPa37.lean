/-
  Walks and plain laws of this seat, some texts in one.
  No condition but bounds on lengths.
-/
import Derived.Test.YtpdgpgbgakinlaaGreatPa34
import Derived.Test.YtpdgpgbgakinlaaGreatPa2
import Derived.Test.YtpdgpgbgakinlaaGreatPa1
import Derived.Test.YtpdgpgbgakinlaaGreatPa9
import Derived.Test.YtpdgpgbgakinlaaGreatPa3
import Derived.Deep.RegionHeld3
import Derived.Test.YtpdgpgbgakinlaaGreatPa28
import Derived.Test.YtpdgpgbgakinlaaGreatPa10
namespace Go.Proofs.YtpdgpgbgakinlaaGreat
set_option maxRecDepth 100000
set_option linter.unusedVariables false
set_option linter.unusedSimpArgs false
open Go.RowKit
structure WA (M : Nat) (X : List Int) (e : Int) (L : List Pm) : Prop where
  ltr : ∀ x ∈ X, Ltr M x
  fx : AFx M L
  sim : Sim M (begS M (0, []) X) (e, L)
structure WB (M : Nat) (X : List Int) (p : Pm) (e : Int) (L : List Pm) : Prop where
  ltr : ∀ x ∈ X, Ltr M x
  fp : Fx M p
  fx : AFx M L
  sim : ∀ ws, Wd M p ws → Sim M (begS M (0, []) (X ++ ws)) (e, L)
theorem afx_nil (M : Nat) : AFx M ([] : List Pm) := fun p hp => by simp at hp
theorem WA.beg {M : Nat} {X : List Int} {e : Int} {L : List Pm} (h : WA M X e L) : AFx M (begS M (0, []) X).2 := beg_fx X _ (afx_nil M) h.ltr
theorem WA.start (M : Nat) : WA M [] 0 [] := ⟨fun x hx => by simp at hx, afx_nil M, Sim.refl _ _⟩
theorem ltr_app {M : Nat} {X Y : List Int} (h1 : ∀ x ∈ X, Ltr M x) (h2 : ∀ x ∈ Y, Ltr M x) : ∀ x ∈ X ++ Y, Ltr M x := fun x hx => (List.mem_append.1 hx).elim (h1 x) (h2 x)
theorem WA.more {M : Nat} {X : List Int} {e : Int} {L : List Pm} {p : Pm} (h : WA M X e L) (hp : Fx M p) : WB M X p e (L ++ [p]) := by
  have hL : AFx M (L ++ [p]) := h.fx.app fun q hq => by simp at hq; rw [hq]; exact hp
  refine ⟨h.ltr, hp, hL, fun ws hw => ?_⟩
  have hl := wd_ltr hw hp
  rw [beg_app]
  exact Sim.trans (beg_fx _ _ h.fx hl) (Sim.beg ws h.beg h.fx hl h.sim) (wd_sim hw hp (e, L) h.fx)
theorem WB.step {M : Nat} {X : List Int} {p : Pm} {e : Int} {L : List Pm} {k : Nat} (h : WB M X p e L) (hs : St p k) : WB M (X ++ [(k : Int) + 1]) ((Pm.s k).m p) e L := by
  have hk := h.fp.st hs
  refine ⟨ltr_app h.ltr fun x hx => ?_, (Fx.s hk).m h.fp, h.fx, fun ws hw => ?_⟩
  · simp at hx; rw [hx]; exact ⟨by omega, by rw [plN_suc]; exact hk⟩
  · rw [List.append_assoc]
    exact h.sim _ (.cons p k ws hs hw)
theorem ltr_br {M : Nat} (h2 : 2 ≤ M) (h6 : M ≤ 6) {X : List Int} (hx : ∀ x ∈ X, Ltr M x) (hl : X.length ≤ 30) : isBr M X = true := by
  have e1 : wrap64 (1 - (M : Int)) = 1 - (M : Int) := IntWalk.wrap64_in _ ⟨by omega, by omega⟩
  have e2 : wrap64 ((M : Int) - 1) = (M : Int) - 1 := IntWalk.wrap64_in _ ⟨by omega, by omega⟩
  simp only [isBr, Bool.and_eq_true, decide_eq_true_eq, List.all_eq_true]
  refine ⟨⟨⟨by omega, by omega⟩, hl⟩, fun x h => ?_⟩
  obtain ⟨h0, h1⟩ := hx x h
  unfold plN at h1
  unfold isLet
  simp only [e1, e2, Bool.and_eq_true, decide_eq_true_eq, bne_iff_ne, ne_eq]
  split at h1 <;> exact ⟨h0, by omega, by omega⟩
theorem WA.same {M : Nat} {X ys : List Int} {r r' : Int × List (List Int)} {Z : List Pm} (h2 : 2 ≤ M) (h : WA M X r.1 Z) (hy : ∀ x ∈ ys, Ltr M x) (hZ : Sim M (begS M (0, []) ys) (r.1, Z)) (hr : NFo M (begS M (0, []) ys) r) (hr' : NFo M (begS M (0, []) X) r') : r = r' :=
  nfo_sim h2 (beg_fx ys _ (afx_nil M) hy) h.beg (Sim.trans h.fx hZ h.sim.symm) hr hr'
end Go.Proofs.YtpdgpgbgakinlaaGreat

namespace Go.Proofs.YtpdgpgbgakinlaaGreat
set_option maxRecDepth 100000
set_option linter.unusedVariables false
set_option linter.unusedSimpArgs false
open Go.RowKit
set_option maxHeartbeats 1000000 in
theorem impl_Stab_no (s : Int) (a : Option Addr) (n c : Nat) (xs : List Int) (g : Int) (w : World) (h1 : Row w a n xs) (hm : n ≤ 9223372036854775807) (hs : I64 s) (hb : isBr s xs = false) :
    Calls Tryz.prog 20 #[bAgg s a n c, .int .i64 g] w (RetB w 0 [] 1) := by
  have HB := Lib.hid hb; clear hb
  go_enter Tryz.func20, Tryz.ntmps20
  go_wp2_with fail
  refine (isBraid_any _ _ _ _ xs _ ((h1.alloc _).alloc _) hm).mono ?_
  rintro e w1 ⟨rfl, hb1⟩
  rw [HB.out]
  have hA : Loc w1 w.heap.size _ _ := ((Loc.new _ (by simp) _ _).alloc _).below hb1 (by simp <;> omega)
  have hR : Loc w1 (w.heap.size + 1) _ _ := (Loc.new _ (by simp) _ _).below hb1 (by simp)
  have hr1 := ((h1.alloc _).alloc _).below hb1
  have hB1 : Below w.heap.size w w1 := below_alth (below_al (Below.refl _ _) _) hb1
  have lA := hA.two
  have lR := hR.two
  have z1 : w.heap.size + 1 < w1.heap.size := hR.lt
  have z0 : w.heap.size < w1.heap.size := hA.lt
  clear h1 hb1
  go_wp2
  refine bodyPost_ret (v := .tuple #[bAgg 0 none 0 0, .int .i64 1]) (by simp [results, Tryz.results20, go_sem, lR]) rfl ⟨none, 0, 0, rfl, Own.nil _ _, ?_⟩
  exact ((hB1.setCell (by simp) _).setCell (by simp) _)
set_option maxHeartbeats 1000000 in
theorem impl_Stab_range (s : Int) (a : Option Addr) (n c : Nat) (xs : List Int) (g : Int) (w : World) (h1 : Row w a n xs) (hm : n ≤ 9223372036854775807) (hs : I64 s) (hb : isBr s xs = true) (hg1 : g ≠ 1) (hg2 : g ≠ -1) :
    Calls Tryz.prog 20 #[bAgg s a n c, .int .i64 g] w (RetB w 0 [] 2) := by
  have HB := Lib.hid hb; clear hb
  have b1 : (g != 1) = true := by simpa using hg1
  have b2 : (g != -1) = true := by simpa using hg2
  clear hg1 hg2
  go_enter Tryz.func20, Tryz.ntmps20
  go_wp2_with fail
  refine (isBraid_any _ _ _ _ xs _ ((h1.alloc _).alloc _) hm).mono ?_
  rintro e w1 ⟨rfl, hb1⟩
  rw [HB.out]
  have hA : Loc w1 w.heap.size _ _ := ((Loc.new _ (by simp) _ _).alloc _).below hb1 (by simp <;> omega)
  have hR : Loc w1 (w.heap.size + 1) _ _ := (Loc.new _ (by simp) _ _).below hb1 (by simp)
  have hr1 := ((h1.alloc _).alloc _).below hb1
  have hB1 : Below w.heap.size w w1 := below_alth (below_al (Below.refl _ _) _) hb1
  have lA := hA.two
  have lR := hR.two
  have z1 : w.heap.size + 1 < w1.heap.size := hR.lt
  have z0 : w.heap.size < w1.heap.size := hA.lt
  clear h1 hb1
  go_wp2
  refine bodyPost_ret (v := .tuple #[bAgg 0 none 0 0, .int .i64 2]) (by simp [results, Tryz.results20, go_sem, lR]) rfl ⟨none, 0, 0, rfl, Own.nil _ _, ?_⟩
  exact ((hB1.setCell (by simp) _).setCell (by simp) _)
set_option maxHeartbeats 1000000 in
theorem impl_Stab_six (s : Int) (a : Option Addr) (n c : Nat) (xs : List Int) (g : Int) (w : World) (h1 : Row w a n xs) (hm : n ≤ 9223372036854775807) (hs : I64 s) (hb : isBr s xs = true) (hg : g = 1 ∨ g = -1) (h6 : s = 6) :
    Calls Tryz.prog 20 #[bAgg s a n c, .int .i64 g] w (RetB w 0 [] 3) := by
  have HB := Lib.hid hb; clear hb
  have b3 : (s == 6) = true := by simpa using h6
  clear h6
  rcases hg with rfl | rfl
  · have b1 : ((1 : Int) != 1) = false := by decide
    go_enter Tryz.func20, Tryz.ntmps20
    go_wp2_with fail
    refine (isBraid_any _ _ _ _ xs _ ((h1.alloc _).alloc _) hm).mono ?_
    rintro e w1 ⟨rfl, hb1⟩
    rw [HB.out]
    have hA : Loc w1 w.heap.size _ _ := ((Loc.new _ (by simp) _ _).alloc _).below hb1 (by simp <;> omega)
    have hR : Loc w1 (w.heap.size + 1) _ _ := (Loc.new _ (by simp) _ _).below hb1 (by simp)
    have hr1 := ((h1.alloc _).alloc _).below hb1
    have hB1 : Below w.heap.size w w1 := below_alth (below_al (Below.refl _ _) _) hb1
    have lA := hA.two
    have lR := hR.two
    have z1 : w.heap.size + 1 < w1.heap.size := hR.lt
    have z0 : w.heap.size < w1.heap.size := hA.lt
    clear h1 hb1
    go_wp2
    refine bodyPost_ret (v := .tuple #[bAgg 0 none 0 0, .int .i64 3]) (by simp [results, Tryz.results20, go_sem, lR]) rfl ⟨none, 0, 0, rfl, Own.nil _ _, ?_⟩
    exact ((hB1.setCell (by simp) _).setCell (by simp) _)
  · have b1 : ((-1 : Int) != 1) = true := by decide
    have b2 : ((-1 : Int) != -1) = false := by decide
    go_enter Tryz.func20, Tryz.ntmps20
    go_wp2_with fail
    refine (isBraid_any _ _ _ _ xs _ ((h1.alloc _).alloc _) hm).mono ?_
    rintro e w1 ⟨rfl, hb1⟩
    rw [HB.out]
    have hA : Loc w1 w.heap.size _ _ := ((Loc.new _ (by simp) _ _).alloc _).below hb1 (by simp <;> omega)
    have hR : Loc w1 (w.heap.size + 1) _ _ := (Loc.new _ (by simp) _ _).below hb1 (by simp)
    have hr1 := ((h1.alloc _).alloc _).below hb1
    have hB1 : Below w.heap.size w w1 := below_alth (below_al (Below.refl _ _) _) hb1
    have lA := hA.two
    have lR := hR.two
    have z1 : w.heap.size + 1 < w1.heap.size := hR.lt
    have z0 : w.heap.size < w1.heap.size := hA.lt
    clear h1 hb1
    go_wp2
    refine bodyPost_ret (v := .tuple #[bAgg 0 none 0 0, .int .i64 3]) (by simp [results, Tryz.results20, go_sem, lR]) rfl ⟨none, 0, 0, rfl, Own.nil _ _, ?_⟩
    exact ((hB1.setCell (by simp) _).setCell (by simp) _)
set_option maxHeartbeats 1000000 in
theorem impl_Stab_long (s : Int) (a : Option Addr) (n c : Nat) (xs : List Int) (g : Int) (w : World) (h1 : Row w a n xs) (hm : n ≤ 9223372036854775807) (hs : I64 s) (hb : isBr s xs = true) (hg : g = 1 ∨ g = -1) (h6 : s ≠ 6) (h30 : n = 30) :
    Calls Tryz.prog 20 #[bAgg s a n c, .int .i64 g] w (RetB w 0 [] 3) := by
  have HB := Lib.hid hb; clear hb
  have b3 : (s == 6) = false := by simpa using h6
  have b4 : ((n : Int) == 30) = true := by simp; omega
  clear h6 h30
  rcases hg with rfl | rfl
  · have b1 : ((1 : Int) != 1) = false := by decide
    go_enter Tryz.func20, Tryz.ntmps20
    go_wp2_with fail
    refine (isBraid_any _ _ _ _ xs _ ((h1.alloc _).alloc _) hm).mono ?_
    rintro e w1 ⟨rfl, hb1⟩
    rw [HB.out]
    have hA : Loc w1 w.heap.size _ _ := ((Loc.new _ (by simp) _ _).alloc _).below hb1 (by simp <;> omega)
    have hR : Loc w1 (w.heap.size + 1) _ _ := (Loc.new _ (by simp) _ _).below hb1 (by simp)
    have hr1 := ((h1.alloc _).alloc _).below hb1
    have hB1 : Below w.heap.size w w1 := below_alth (below_al (Below.refl _ _) _) hb1
    have lA := hA.two
    have lR := hR.two
    have z1 : w.heap.size + 1 < w1.heap.size := hR.lt
    have z0 : w.heap.size < w1.heap.size := hA.lt
    clear h1 hb1
    go_wp2
    refine bodyPost_ret (v := .tuple #[bAgg 0 none 0 0, .int .i64 3]) (by simp [results, Tryz.results20, go_sem, lR]) rfl ⟨none, 0, 0, rfl, Own.nil _ _, ?_⟩
    exact ((hB1.setCell (by simp) _).setCell (by simp) _)
  · have b1 : ((-1 : Int) != 1) = true := by decide
    have b2 : ((-1 : Int) != -1) = false := by decide
    go_enter Tryz.func20, Tryz.ntmps20
    go_wp2_with fail
    refine (isBraid_any _ _ _ _ xs _ ((h1.alloc _).alloc _) hm).mono ?_
    rintro e w1 ⟨rfl, hb1⟩
    rw [HB.out]
    have hA : Loc w1 w.heap.size _ _ := ((Loc.new _ (by simp) _ _).alloc _).below hb1 (by simp <;> omega)
    have hR : Loc w1 (w.heap.size + 1) _ _ := (Loc.new _ (by simp) _ _).below hb1 (by simp)
    have hr1 := ((h1.alloc _).alloc _).below hb1
    have hB1 : Below w.heap.size w w1 := below_alth (below_al (Below.refl _ _) _) hb1
    have lA := hA.two
    have lR := hR.two
    have z1 : w.heap.size + 1 < w1.heap.size := hR.lt
    have z0 : w.heap.size < w1.heap.size := hA.lt
    clear h1 hb1
    go_wp2
    refine bodyPost_ret (v := .tuple #[bAgg 0 none 0 0, .int .i64 3]) (by simp [results, Tryz.results20, go_sem, lR]) rfl ⟨none, 0, 0, rfl, Own.nil _ _, ?_⟩
    exact ((hB1.setCell (by simp) _).setCell (by simp) _)
set_option maxHeartbeats 1000000 in
theorem impl_Stab_ok (s : Int) (a : Option Addr) (n c : Nat) (xs : List Int) (g : Int) (w : World) (h1 : Row w a n xs) (hm : n ≤ 9223372036854775807) (hs : I64 s) (hb : isBr s xs = true) (hgs : (((g != 1) = false) ∨ ((g != 1) = true ∧ (g != -1) = false)) ∧ -1 ≤ g ∧ g ≤ 1) (h6 : s ≠ 6) (h30 : n ≠ 30) :
    Calls Tryz.prog 20 #[bAgg s a n c, .int .i64 g] w (RetB w (s + 1) (xs ++ [g * s]) 0) := by
  obtain ⟨h26, hx30, hlet⟩ := isBr_let hb
  have hl := h1.len
  have hn30 : n ≤ 30 := by omega
  have HLet := Lib.hid hlet; clear hlet
  have HB := Lib.hid hb; clear hb
  have HL := Lib.hid hl; clear hl
  have b3 : (s == 6) = false := by simpa using h6
  have b4 : ((n : Int) == 30) = false := by simp; omega
  obtain ⟨hgs, hg1, hg2⟩ := hgs
  have hgm : -6 ≤ g * s ∧ g * s ≤ 6 := by
    have : g = -1 ∨ g = 0 ∨ g = 1 := by omega
    rcases this with rfl | rfl | rfl <;> omega
  have hw1 : IntKind.i64.wrap (s + 1) = s + 1 := IntWalk.i64_in _ (by omega)
  have hw2 : IntKind.i64.wrap (g * s) = g * s := IntWalk.i64_in _ (by omega)
  have HW1 := Lib.hid hw1; have HW2 := Lib.hid hw2
  clear hw1 hw2 h6 h30
  rcases hgs with b1 | ⟨b1, b2⟩
  all_goals
    go_enter Tryz.func20, Tryz.ntmps20
    go_wp2_with fail
    refine (isBraid_any _ _ _ _ xs _ ((h1.alloc _).alloc _) hm).mono ?_
    rintro e w1 ⟨rfl, hb1⟩
    rw [HB.out]
    have hA : Loc w1 w.heap.size _ _ := ((Loc.new _ (by simp) _ _).alloc _).below hb1 (by simp <;> omega)
    have hR : Loc w1 (w.heap.size + 1) _ _ := (Loc.new _ (by simp) _ _).below hb1 (by simp)
    have hr1 := ((h1.alloc _).alloc _).below hb1
    have hB1 : Below w.heap.size w w1 := below_alth (below_al (Below.refl _ _) _) hb1
    have lA := hA.two
    have lR := hR.two
    have z1 : w.heap.size + 1 < w1.heap.size := hR.lt
    have z0 : w.heap.size < w1.heap.size := hA.lt
    clear h1 hb1
    go_wp2
    have hw1 := HW1.out
    have hw2 := HW2.out
    go_region_held3 (fun w' => w'.cell? ⟨w.heap.size, 0, none⟩ = some (.int .i64 s) ∧ w'.cell? ⟨w.heap.size, 1, none⟩ = some (.slice a n c))
      (first | exact ⟨lA3.1, lA3.2.1⟩ | exact ⟨lA2.1, lA2.2.1⟩ | go_keep)
      (first
      | (refine step_appL rfl rfl (ho.alloc _) rfl (Row.one w2 rfl (g * s) _) rfl ?_ ?_ ?_; (omega); (exact Nat.le_trans hb2.size (size_le_alloc _ _)); intro a' c' w3 hO hg3 hb3; have hR3 : Loc w3 (w.heap.size + 1) _ _ := (hR2.alloc _).below hb3 (by first | omega | (simp <;> omega)); have hA3 : Loc w3 w.heap.size _ _ := (hA2.alloc _).below hb3 (by first | omega | (simp <;> omega)); have lR3 := hR3.two; have lA3 := hA3.two; have hB3 := (below_al hB2 (.cells #[.int .i64 (g * s)] 2)).trans (hb3.mono (by first | omega | (simp <;> omega))))
      | (refine step_appL rfl rfl ho rfl hrow rfl ?_ ?_ ?_; (omega); (exact hb2.size); intro a' c' w3 hO hg3 hb3; have hR3 : Loc w3 (w.heap.size + 1) _ _ := hR2.below hb3 (by first | omega | (simp <;> omega)); have hA3 : Loc w3 w.heap.size _ _ := hA2.below hb3 (by first | omega | (simp <;> omega)); have lR3 := hR3.two; have lA3 := hA3.two; have hB3 := hB2.trans (hb3.mono (by first | omega | (simp <;> omega))))
      | (go_at_call 66; refine (clone_any _ _ _ xs _ (by first | exact hr1.drewN 1 | exact (hr1.alloc _).drewN 1) (by omega)).mono ?_; rintro e w2 ⟨a', c', rfl, ho, hb2⟩; have z2 : w1.heap.size ≤ w2.heap.size := (by have := hb2.size; simp at this; omega); (try have hrow : Row w2 (some ⟨w1.heap.size, 0, none⟩) 1 [g * s] := ((Row.one w1 rfl (g * s) 2).drewN 1).below hb2); have hA2 : Loc w2 w.heap.size _ _ := (by first | exact (hA.drewN 1).below hb2 (by simp <;> omega) | exact ((hA.alloc _).drewN 1).below hb2 (by simp <;> omega)); have hR2 : Loc w2 (w.heap.size + 1) _ _ := (by first | exact (hR.drewN 1).below hb2 (by simp <;> omega) | exact ((hR.alloc _).drewN 1).below hb2 (by simp <;> omega)); have lA2 := hA2.two; have lR2 := hR2.two; have hB2 : Below w.heap.size w w2 := (by first | exact (below_drewN hB1 1).trans (hb2.mono (by simp <;> omega)) | exact (below_drewN (below_al hB1 (.cells #[.int .i64 (g * s)] 2)) 1).trans (hb2.mono (by simp <;> omega)))))
    all_goals
      go_wp2
      refine bodyPost_ret (v := .tuple #[bAgg (s + 1) a' (n + 1) c', .int .i64 0]) (by simp [results, Tryz.results20, go_sem, lR3]) rfl ⟨a', _, c', rfl, ?_, ?_⟩
      · have hz : w.heap.size + 1 < w1.heap.size := z1
        exact ((hO.setlo (by simp <;> omega) _).setlo (by simp <;> omega) _).mono (by simp <;> omega)
      · exact (hB3.setCell (by simp) _).setCell (by simp) _
def stabF (s : Int) (xs : List Int) (g : Int) : Int × List Int × Int :=
  if isBr s xs then (if g = 1 ∨ g = -1 then (if s = 6 ∨ xs.length = 30 then (0, [], 3) else (s + 1, xs ++ [g * s], 0)) else (0, [], 2)) else (0, [], 1)
theorem impl_Stab_any (s : Int) (a : Option Addr) (n c : Nat) (xs : List Int) (g : Int) (w : World) (h1 : Row w a n xs) (hm : n ≤ 9223372036854775807) (hs : I64 s) (hg : I64 g) :
    Calls Tryz.prog 20 #[bAgg s a n c, .int .i64 g] w (RetB w (stabF s xs g).1 (stabF s xs g).2.1 (stabF s xs g).2.2) := by
  unfold stabF
  cases h : isBr s xs with
  | true =>
    rw [if_pos rfl]
    by_cases hg : g = 1 ∨ g = -1
    · rw [if_pos hg]
      by_cases h6 : s = 6
      · rw [if_pos (.inl h6)]
        exact impl_Stab_six s a n c xs g w h1 hm hs h hg h6
      · by_cases h30 : xs.length = 30
        · rw [if_pos (.inr h30)]
          exact impl_Stab_long s a n c xs g w h1 hm hs h hg h6 (h1.len.trans h30)
        · rw [if_neg (by rintro (h | h) <;> contradiction)]
          exact impl_Stab_ok s a n c xs g w h1 hm hs h (by rcases hg with rfl | rfl <;> decide) h6 (fun e => h30 (h1.len.symm.trans e))
    · rw [if_neg hg]
      exact impl_Stab_range s a n c xs g w h1 hm hs h (fun e => hg (.inl e)) (fun e => hg (.inr e))
  | false => exact impl_Stab_no s a n c xs g w h1 hm hs h
end Go.Proofs.YtpdgpgbgakinlaaGreat

namespace Go.Proofs.YtpdgpgbgakinlaaGreat
set_option maxRecDepth 100000
set_option linter.unusedVariables false
set_option linter.unusedSimpArgs false
open Go.RowKit
set_option maxHeartbeats 400000 in
theorem likeInts_any (a1 a2 : Option Addr) (n1 n2 c1 c2 : Nat) (xs ys : List Int) (w : World) (h1 : Row w a1 n1 xs) (h2 : Row w a2 n2 ys) (hm : n1 ≤ 9223372036854775807) :
    Calls Tryz.prog 19 #[.slice a1 n1 c1, .slice a2 n2 c2] w fun e w' => e = .returned (.bool (decide (xs = ys))) ∧ ∃ n, w' = w.drewN n := by
  have hl1 := h1.len
  have hl2 := h2.len
  by_cases hl : n1 = n2
  · subst hl
    have HL := Lib.hid hl1; have HL2 := Lib.hid hl2; clear hl1 hl2
    have hb : ((n1 : Int) != (n1 : Int)) = false := by simp
    go_enter Tryz.func19, Tryz.ntmps19
    go_wp2
    clear hb
    go_loopw [5] (fun i wr => ∃ k : Nat, k ≤ n1 ∧ i = .int .i64 k ∧ xs.take k = ys.take k ∧ ∃ n, wr = w.drewN n) (fun i _ => n1 - (intOf i).toNat)
    case atStart => exact ⟨0, Nat.zero_le _, rfl, by simp, 0, rfl⟩
    case round =>
      obtain ⟨k, hk, rfl, ht, n, rfl⟩ := hrel
      have HT := Lib.hid ht; clear ht
      by_cases hlt : k < n1
      · obtain ⟨b1, o1, rfl, g1⟩ := h1.at k hlt
        obtain ⟨b2, o2, rfl, g2⟩ := h2.at k hlt
        have hx : k < xs.length := by have := HL.out; omega
        have hy : k < ys.length := by have := HL2.out; omega
        clear h1 h2
        go_wp2
        go_quiet (fail)
        go_wp2
        · go_ret
          refine ⟨ret_bool ?_, n + nq, by rw [World.drewN_drewN]⟩
          rename_i hne
          simp only [Bool.false_eq, decide_eq_false_iff_not]
          rintro rfl
          simp at hne
        · go_roundw
          case rel =>
            rename_i hne
            refine ⟨k + 1, by omega, by go_num, take_eq_succ hx hy HT.out (by simpa using hne), n + nq, rfl⟩
          case measure => simp [intOf]; omega
      · obtain rfl : k = n1 := by omega
        go_wp2
        go_ret
        refine ⟨ret_bool ?_, _, rfl⟩
        have := HT.out
        rw [List.take_of_length_le (by have := HL.out; omega), List.take_of_length_le (by have := HL2.out; omega)] at this
        simp [this]
  · have hb : ((n1 : Int) != (n2 : Int)) = true := by simp; omega
    have hne : ¬ xs = ys := by rintro rfl; omega
    clear hl1 hl2
    go_enter Tryz.func19, Tryz.ntmps19
    go_wp2
    go_ret
    exact ⟨ret_bool (by simp [hne]), 0, rfl⟩
theorem likeInts_same (a1 a2 : Option Addr) (n1 n2 c1 c2 : Nat) (xs : List Int) (w : World) (h1 : Row w a1 n1 xs) (h2 : Row w a2 n2 xs) (hm : n1 ≤ 9223372036854775807) :
    Calls Tryz.prog 19 #[.slice a1 n1 c1, .slice a2 n2 c2] w fun e w' => e = .returned (.bool true) ∧ Below w.heap.size w w' :=
  (likeInts_any a1 a2 n1 n2 c1 c2 xs xs w h1 h2 hm).mono fun e w' ⟨he, m, hw⟩ => ⟨he.trans (ret_bool (by simp)), by rw [hw]; exact below_drewN (Below.refl _ _) m⟩
theorem big_any (a : Option Addr) (n c : Nat) (w : World) (hm : n ≤ 9223372036854775807) :
    Calls Tryz.prog 6 #[.slice a n c] w fun e w' => e = .returned (.bool (decide (4096 < n))) ∧ w = w' := by
  go_enter Tryz.func6, Tryz.ntmps6
  go_wp2
  go_ret
  refine ⟨ret_bool (by rw [Bool.eq_iff_iff]; simp; try omega), rfl⟩
end Go.Proofs.YtpdgpgbgakinlaaGreat

namespace Go.Proofs.YtpdgpgbgakinlaaGreat
set_option linter.unusedVariables false
set_option linter.unusedSimpArgs false
set_option maxRecDepth 100000
open Go.RowKit
def Dic (w : World) (b : Nat) : Prop := ∃ (a : Option Addr) (n c : Nat) (xs : List Int) (i : Nat) (h : Int), n ≤ 9223372036854775807 ∧ i ≤ n ∧ 0 ≤ h ∧ h < 18446744073709551616 ∧ Bts w a n xs ∧ (0 < n → ∀ g o, a = some ⟨g, o, none⟩ → g < b) ∧
  Loc w b #[.slice a n c, .int .i64 i, .int .u64 h] 88
theorem Dic.lt {w : World} {b : Nat} (h : Dic w b) : b < w.heap.size := by obtain ⟨a, n, c, xs, i, h, _, _, _, _, _, _, hL⟩ := h; exact hL.lt
theorem Dic.below {w w' : World} {b : Nat} (h : Dic w b) (hb : Below w.heap.size w w') : Dic w' b := by
  obtain ⟨a, n, c, xs, i, h, h1, h2, h3, h4, hB, hg, hL⟩ := h
  exact ⟨a, n, c, xs, i, h, h1, h2, h3, h4, hB.below hb, hg, hL.below hb hL.lt⟩
set_option maxHeartbeats 2000000 in
theorem below_ok (b : Nat) (n : Int) (w : World) (h : Dic w b) (hn : I64 n) :
    Calls Tryz.prog 15 #[.pointer (some ⟨b, 0, none⟩), .int .i64 n] w fun e w' => ∃ x, e = .returned (.int .i64 x) ∧ (n < 1 → x = 0) ∧ (1 ≤ n → 0 ≤ x ∧ x < n) ∧ Dic w' b ∧ w.grownBy w' (some b) := by
  obtain ⟨a, m, c, xs, i, g, h1, h2, h3, h4, hB, hg, hL⟩ := h
  by_cases hn1 : n < 1
  · go_enter Tryz.func15, Tryz.ntmps15
    go_wp2
    go_ret
    exact ⟨_, rfl, fun _ => rfl, fun h => absurd h (by omega), ⟨a, m, c, xs, i, g, h1, h2, h3, h4, hB, hg, hL⟩, grown_refl _ _⟩
  · have lL := hL.three
    obtain ⟨hn2, hn3⟩ := hn
    have hn4 : 1 ≤ n := by omega
    clear hn1
    go_enter Tryz.func15, Tryz.ntmps15
    go_wp2
    obtain ⟨G, HG⟩ : ∃ G, Hid (IntKind.u64.wrap (IntKind.u64.wrap (g * 6364136223846793005) + 1442695040888963407) = G) := ⟨_, rfl⟩
    have hG := u64_rng (IntKind.u64.wrap (g * 6364136223846793005) + 1442695040888963407)
    rw [HG.out] at hG
    rw [HG.out]
    obtain ⟨hG1, hG2⟩ := hG
    obtain ⟨hX1, hX2⟩ := mask24 G hG1 hG2
    obtain ⟨X, HX⟩ : ∃ X, Hid (wrap64 (bits BinOp.and IntKind.u64 (G / 8589934592) 16777215) = X) := ⟨_, rfl⟩
    rw [HX.out] at hX1 hX2
    rw [HX.out]
    have hL2 := hL.set 2 (.int .u64 G)
    have lL2 := hL2.three
    have hg2 := grown_set (grown_refl w (some b)) (p := ⟨b, 2, none⟩) (.inl rfl) (.int .u64 G)
    have hB2 : Bts (w.setCell ⟨b, 2, none⟩ (.int .u64 G)) a m xs := ⟨hB.1, fun j hj => by
      obtain ⟨q, off, e1, e2, e3⟩ := hB.2.1 j hj
      exact ⟨q, off, e1, by rw [size_set]; exact e2, cell_setne e3 (by have := hg (by omega) q off e1; simp; omega) _⟩, hB.2.2⟩
    generalize w.setCell ⟨b, 2, none⟩ (.int .u64 G) = w2 at *
    by_cases hi : i < m
    · obtain ⟨q, off, rfl, hc⟩ := hB2.at i hi
      have hxr := hB2.2.2 i
      obtain ⟨V, HV⟩ : ∃ V, Hid (xs.getD i 0 = V) := ⟨_, rfl⟩
      rw [HV.out] at hc hxr
      obtain ⟨v1, v2⟩ := hxr
      have s1 : (0 : Int) ≤ (i : Int) := by omega
      have s2 : (i : Int) < (m : Int) := by omega
      go_quiet (fail)
      go_wp2
      have s3 : IntKind.i64.wrap (X + V) = X + V := IntWalk.i64_in _ ⟨by omega, by omega⟩
      have s4 : IntKind.i64.wrap V = V := IntWalk.i64_in _ ⟨by omega, by omega⟩
      go_quiet (fail)
      clear s3 s4
      go_wp2
      go_ret
      rename_i nq0
      have hL3 := (hL2.drewN (nq0 + nq)).set 1 (.int .i64 (i + 1))
      refine ⟨_, rfl, fun h => absurd h (by omega), fun _ => ⟨Int.emod_nonneg _ (by omega), Int.emod_lt_of_pos _ (by omega)⟩, ?_, grown_set (grown_drewN hg2 _) (.inl rfl) _⟩
      refine ⟨some ⟨q, off, none⟩, m, c, xs, i + 1, G, h1, by omega, hG1, hG2, ?_, hg, hL3⟩
      exact ⟨hB2.1, fun j hj => by
        obtain ⟨q', off', e1, e2, e3⟩ := hB2.2.1 j hj
        exact ⟨q', off', e1, by rw [size_set]; exact e2, cell_setne (w := w2.drewN _) e3 (by have := hg (by omega) q' off' e1; simp; omega) _⟩, hB2.2.2⟩
    · go_quiet (fail)
      go_wp2
      go_ret
      refine ⟨_, rfl, fun h => absurd h (by omega), fun _ => ⟨Int.emod_nonneg _ (by omega), Int.emod_lt_of_pos _ (by omega)⟩, ?_, grown_drewN hg2 _⟩
      exact ⟨a, m, c, xs, i, G, h1, h2, hG1, hG2, hB2.below (below_drewN (Below.refl _ _) _), hg, hL2.drewN _⟩
set_option maxHeartbeats 2000000 in
theorem roll_ok (a : Option Addr) (n c : Nat) (xs : List Int) (s : Int) (w : World) (h : Bts w a n xs) (hn : n ≤ 9223372036854775807) :
    Calls Tryz.prog 14 #[.slice a n c, .int .u64 s] w fun e w' => ∃ b, e = .returned (.pointer (some ⟨b, 0, none⟩)) ∧ w.heap.size ≤ b ∧ Dic w' b ∧ Below w.heap.size w w' := by
  go_enter Tryz.func14, Tryz.ntmps14
  go_wp2
  go_loopw [6] (fun i wr => ∃ (k : Nat) (g : Int), k ≤ n ∧ i = .int .i64 k ∧ 0 ≤ g ∧ g < 18446744073709551616 ∧ Loc wr w.heap.size #[.slice a n c, .int .i64 0, .int .u64 g] 88 ∧ Below w.heap.size w wr) (fun i _ => n - (intOf i).toNat)
  case atStart => exact ⟨0, _, by omega, rfl, (u64_rng _).1, (u64_rng _).2, Loc.new w rfl _ _, below_al (Below.refl _ _) _⟩
  case round =>
    obtain ⟨k, g, hk, rfl, hg1, hg2, hL, hq⟩ := hrel
    by_cases hlt : k < n
    · obtain ⟨q, off, rfl, hc⟩ := (h.below hq).at k hlt
      obtain ⟨V, HV⟩ : ∃ V, Hid (xs.getD k 0 = V) := ⟨_, rfl⟩
      have hxr := h.2.2 k
      rw [HV.out] at hc hxr
      obtain ⟨v1, v2⟩ := hxr
      have s1 : (0 : Int) ≤ (k : Int) := by omega
      have s2 : (k : Int) < (n : Int) := by omega
      have lL := hL.three
      go_wp2
      refine wp_region_still_tail 15 (by kernel_rfl) (by kernel_rfl) ?_
      change wpStill _ _ wr.drew (fun a' => wpList _ _ _ _ a' wr.drew) _ _
      replace hL := hL.drew
      replace lL := hL.three
      replace hc : wr.drew.cell? ⟨q, off + k, none⟩ = some (.int .u8 V) := hc
      replace hq : Below w.heap.size w wr.drew := hq.drew
      generalize wr.drew = w2 at *
      simp only [List.take_succ_cons, List.take_zero, List.drop_succ_cons, List.drop_zero]
      repeat still_step
      refine wpStill_nil ?_
      go_wp2
      go_roundw
      case rel =>
        have hu := u64_rng (IntKind.u64.wrap (IntKind.u64.wrap (g * 1099511628211) + V) + 5)
        exact ⟨k + 1, _, by omega, by go_num, hu.1, hu.2, hL.set 2 _, hq.setCell (Nat.le_refl _) _⟩
      case measure => simp [intOf]; omega
    · go_wp2
      go_ret
      exact ⟨_, rfl, Nat.le_refl _, ⟨a, n, c, xs, 0, g, hn, by omega, hg1, hg2, h.below hq, fun hn q o e => by obtain ⟨b', o', e1, e2, _⟩ := h.2.1 0 hn; rw [e1] at e; cases e; exact e2, hL⟩, hq⟩
end Go.Proofs.YtpdgpgbgakinlaaGreat

namespace Go.Proofs.YtpdgpgbgakinlaaGreat
set_option maxRecDepth 100000
set_option linter.unusedVariables false
set_option linter.unusedSimpArgs false
open Go.RowKit
theorem Dic.keepB {w w' : World} {b B : Nat} (h : Dic w b) (hb : Below B w w') (hlt : b < B) : Dic w' b := by
  obtain ⟨a, n, c, xs, i, g, h1, h2, h3, h4, hB, hg, hL⟩ := h
  refine ⟨a, n, c, xs, i, g, h1, h2, h3, h4, ⟨hB.1, fun j hj => ?_, hB.2.2⟩, hg, hL.below hb hlt⟩
  obtain ⟨q, off, e1, e2, e3⟩ := hB.2.1 j hj
  exact ⟨q, off, e1, Nat.lt_of_lt_of_le e2 hb.size, (hb.cell (p := ⟨q, off + j, none⟩) (by have := hg (by omega) q off e1; show q < B; omega)).trans e3⟩
set_option maxHeartbeats 4000000 in
theorem list5_ok (b N : Nat) (m : Int) (w : World) (h : Dic w b) (hm : I64 m) (hN : N ≤ 1000000) :
    Calls Tryz.prog 26 #[.pointer (some ⟨b, 0, none⟩), .int .i64 N, .int .i64 m] w fun e w' => ∃ a c xs, e = .returned (.slice a N c) ∧ (1 ≤ m → ∀ x ∈ xs, 0 ≤ x ∧ x < m) ∧ (m < 1 → ∀ x ∈ xs, x = 0) ∧ Own w' w.heap.size a N c xs ∧ Dic w' b ∧ w.grownBy w' (some b) := by
  have hlt := h.lt
  go_enter Tryz.func26, Tryz.ntmps26
  have hO := Own.fresh w rfl
  have hd := h.below (below_al (Below.refl w.heap.size w) (.cells #[] 2))
  have hG := World.grownBy_alloc w (.cells #[] 2) (some b)
  go_wp2
  go_loopw [1, 7] (fun z o wr => ∃ (j : Nat) (a : Option Addr) (c : Nat) (xs : List Int), j ≤ N ∧ z = .int .i64 ((N : Int) - (j : Int)) ∧ o = .slice a j c ∧ Hid ((1 ≤ m → ∀ x ∈ xs, 0 ≤ x ∧ x < m) ∧ (m < 1 → ∀ x ∈ xs, x = 0)) ∧ Own wr w.heap.size a j c xs ∧ Dic wr b ∧ w.grownBy wr (some b)) (fun z _ _ => (intOf z).toNat)
  case atStart => exact ⟨0, _, 0, [], Nat.zero_le _, by go_num, rfl, Lib.hid ⟨fun _ x hx => (by cases hx), fun _ x hx => (by cases hx)⟩, hO, hd, hG⟩
  case round =>
    clear hO hd hG
    obtain ⟨j, a, c, xs, hj, rfl, rfl, HX, ho, hd, hG⟩ := hrel
    obtain ⟨V, rfl⟩ : ∃ V : World, V = wr := ⟨_, rfl⟩
    have hzV := hG.size
    obtain ⟨k, hk⟩ : ∃ k : Nat, (N : Int) - (j : Int) = (k : Int) := ⟨N - j, by omega⟩
    rw [hk]
    by_cases hlt2 : 0 < k
    · have hk0 : (0 : Int) < (k : Int) := by omega
      have hwk : IntKind.i64.wrap ((k : Int) - 1) = (k : Int) - 1 := IntWalk.i64_in _ (by omega)
      have HK := Lib.hid hk
      clear hk
      go_wp2_with fail
      refine (below_ok b m _ hd hm).mono ?_
      rintro e w7 ⟨y, rfl, hy1, hy2, hd7, hg7⟩
      have ho7 := ho.grown hg7 (fun g e => by have := ho.lo g e; simp; omega)
      have hz7 := hg7.size
      have hG7 := grown_trans hG hg7
      have HY := Lib.hid (And.intro hy1 hy2)
      clear hy1 hy2 hd hG ho
      have hjb : j + 1 ≤ 1000000000000 := by have := HK.out; omega
      go_wp2_with (at_builtin; refine app1 rfl rfl ho7 rfl rfl hjb (by omega) ?_; intro g' cc w8 hO8 hg8 hs8 hb8)
      go_roundw
      case rel =>
        have hkk := HK.out
        refine ⟨j + 1, _, cc, _, by omega, by congr 1; omega, rfl, Lib.hid ⟨fun q x hx => ?_, fun q x hx => ?_⟩, hO8, hd7.keepB hb8 (by omega), grown_below hG7 hb8 (Nat.le_refl _)⟩
        · rcases List.mem_append.1 hx with hx | hx
          · exact HX.out.1 q x hx
          · rw [List.mem_singleton.1 hx]; exact HY.out.2 q
        · rcases List.mem_append.1 hx with hx | hx
          · exact HX.out.2 q x hx
          · rw [List.mem_singleton.1 hx]; exact HY.out.1 q
      case measure => simp [intOf]; omega
    · obtain rfl : k = 0 := by omega
      obtain rfl : j = N := by omega
      clear hk
      go_wp2
      go_ret
      exact ⟨_, c, xs, rfl, HX.out.1, HX.out.2, ho, hd, hG⟩
end Go.Proofs.YtpdgpgbgakinlaaGreat
