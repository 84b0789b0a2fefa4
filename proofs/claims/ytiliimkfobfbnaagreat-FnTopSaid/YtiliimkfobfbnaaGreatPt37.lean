/-
  Walks and plain laws of this seat, some texts in one.
  No condition but bounds on lengths.
-/
import Derived.Test.YtiliimkfobfbnaaGreatPt36
namespace Go.Proofs.YtiliimkfobfbnaaGreat
set_option maxRecDepth 100000
set_option linter.unusedVariables false
set_option linter.unusedSimpArgs false
open Go.RowKit
theorem l11Draw_lo (b most : Nat) (w : World) (h : Src w b) (h1 : 1 ≤ most) (h7 : most ≤ 7) : Calls Tryz.prog 91 #[.pointer (some ⟨b, 0, none⟩), .int .i64 most] w (BrDr b most w) :=
  l11Draw_of b most w h h1 (by omega) (Lib.hid fun h8 => absurd h8 (by omega))
theorem l11Draw_8 (b : Nat) (w : World) (h : Src w b) : Calls Tryz.prog 91 #[.pointer (some ⟨b, 0, none⟩), .int .i64 8] w (BrDr b 8 w) :=
  l11Draw_of b 8 w h (by omega) (by omega) (Lib.hid fun _ V m hm hV => l11Draw_lo b m V hV (by omega) (by omega))
def BrAny (b : Nat) (w : World) (e : Ending) (w' : World) : Prop := ∃ a1 n1 c1 f a2 n2 c2 g, e = .returned (sAgg a1 n1 c1 a2 n2 c2) ∧ n1 ≤ 1000 ∧ n2 ≤ 1000 ∧ TbX w' w.heap.size (fun _ => False) a1 n1 f ∧ TbX w' w.heap.size (fun _ => False) a2 n2 g ∧ w.grownBy w' (some b)
theorem slice_tailR (a : Option Addr) (n c : Nat) (h1 : 1 ≤ n) : ∃ (aT : Option Addr) (tl : List (List Int) → List (List Int)), (∀ v : World, (Instr.slice 24 (.slice a n c) (some (.int .i64 1)) none none).run Tryz.prog v = .ok (.slice aT (n - 1) (c - 1)) v) ∧ ∀ (w : World) (F : List (List Int)), Tbl w a n F → Tbl w aT (n - 1) (tl F) := by
  have e2 : (1 : Int) ≤ (n : Int) := by omega
  refine ⟨if c = 1 then a else a.map (·.add 1), fun F => if c = 1 then F.take (n - 1) else F.drop 1, fun v => ?_, fun w F h => ?_⟩
  · simp [go_sem, e2, h1]
  · by_cases hc : c = 1
    · rw [if_pos hc]; show Tbl w a (n - 1) (if c = 1 then _ else _); rw [if_pos hc]
      refine ⟨by rw [List.length_take, ← h.len]; omega, fun i hi => ?_⟩
      obtain ⟨b, o, ai, ni, ci, q1, q2, q3, q4, q5⟩ := h.2 i (by omega)
      refine ⟨b, o, ai, ni, ci, q1, q2, q3, ?_, q5⟩
      rw [show (F.take (n - 1)).getD i [] = F.getD i [] from by simp [List.getD_eq_getElem?_getD, List.getElem?_take, hi]]
      exact q4
    · rw [if_neg hc]; show Tbl w _ (n - 1) (if c = 1 then _ else _); rw [if_neg hc]
      refine ⟨by rw [List.length_drop, ← h.len], fun i hi => ?_⟩
      obtain ⟨b, o, ai, ni, ci, q1, q2, q3, q4, q5⟩ := h.2 (1 + i) (by omega)
      subst q1
      refine ⟨b, o + 1, ai, ni, ci, by simp [Addr.add], q2, by rw [Nat.add_assoc]; exact q3, ?_, q5⟩
      rw [show (F.drop 1).getD i [] = F.getD (1 + i) [] from by simp [List.getD_eq_getElem?_getD, List.getElem?_drop, Nat.add_comm]]
      exact q4
theorem TbX.all {w : World} {lo : Nat} {S : Nat → Prop} {a : Option Addr} {n : Nat} {F : List (List Int)} (h : TbX w lo S a n F) : TbX w lo (fun _ => False) a n F := fun w'' hk => h w'' fun g h1 h2 _ => hk g h1 h2 id
theorem OwnT.tbX {w : World} {lo lo' : Nat} {a : Option Addr} {n c : Nat} {vs : List SV} {F : List (List Int)} (h : OwnT w lo' a n c vs F) (hl : lo ≤ lo') : TbX w lo (fun _ => False) a n F := TbX.own h hl fun _ e => e.elim
set_option maxHeartbeats 32000000 in
theorem l11DrawAny_ok (b : Nat) (w : World) (h : Src w b) :
    Calls Tryz.prog 57 #[.pointer (some ⟨b, 0, none⟩), .int .i64 8] w (BrAny b w) := by
  have hlt := h.lt
  have hs0 := h.below (below_al (Below.refl w.heap.size w) (.cells #[.slice none 0 0, .slice none 0 0] 26))
  have hR0 := Loc.new w rfl #[.slice none 0 0, .slice none 0 0] 26
  have hG0 := World.grownBy_alloc w (.cells #[.slice none 0 0, .slice none 0 0] 26) (some b)
  have hz0 : (w.alloc (.cells #[.slice none 0 0, .slice none 0 0] 26)).heap.size = w.heap.size + 1 := by simp
  obtain ⟨w0, hw0⟩ : ∃ w0, w.alloc (.cells #[.slice none 0 0, .slice none 0 0] 26) = w0 := ⟨_, rfl⟩
  rw [hw0] at hs0 hR0 hG0 hz0
  have HW0 := Lib.hid hw0
  clear h hw0
  go_enter Tryz.func57, Tryz.ntmps57
  go_wp2_with fail
  try rw [HW0.out]
  refine (l11Draw_8 b w0 hs0).mono ?_
  rintro e w1 ⟨a1, n, c1, vs, f, a2, c2, g, rfl, hn1, hn8, ho, hsf, hX, hsg, hs1, hg1⟩
  have hR1 := hR0.grown hg1 (by simp; omega)
  have hG1 := grown_trans hG0 hg1
  have ho := ho.mono (show w.heap.size + 1 ≤ w0.heap.size by omega)
  have hX := hX.mono (show w.heap.size + 1 ≤ w0.heap.size by omega)
  have hw1 : w.heap.size + 1 ≤ w1.heap.size := by have := hg1.size; omega
  have HHI : Hid (∀ q, TblS a1 n vs q → q < w1.heap.size) := Lib.hid ho.uHi
  clear hs0 hR0 hG0 hz0 hg1
  have hP := Loc.new w1 rfl #[.slice a1 n c1, .slice a2 n c2] 26
  have hbA := below_al (Below.refl w1.heap.size w1) (.cells #[.slice a1 n c1, .slice a2 n c2] 26)
  have lP := hP.two
  obtain ⟨wA, hwA⟩ : ∃ wA, w1.alloc (.cells #[.slice a1 n c1, .slice a2 n c2] 26) = wA := ⟨_, rfl⟩
  have HWA := Lib.hid hwA
  have hsA := hs1.below hbA
  have hRA := hR1.below hbA hR1.lt
  have hGA := grown_below hG1 hbA hG1.size
  have hoA := ho.below hbA
  have hXA := hX.below hbA
  rw [hwA] at hbA hP hsA hRA hGA hoA hXA
  have hAz : w1.heap.size < wA.heap.size := hP.lt
  have HX1 := Lib.hid hX
  have HBA := Lib.hid hbA
  clear hwA hs1 hR1 hG1 ho hX hbA
  go_wp2_with fail
  try rw [HWA.out]
  refine (l01Next_ok b 24 wA hsA ⟨by omega, by omega⟩).mono ?_
  rintro e w2 ⟨z, rfl, _, hz, hs2, hg2⟩
  obtain ⟨hz1, hz2⟩ := hz (by omega)
  have hR2 := hRA.grown hg2 (by simp; omega)
  have hP2 := hP.grown hg2 (by simp; omega)
  have hG2 := grown_trans hGA hg2
  have ho2 := hoA.src hg2 (by omega)
  have hX2 := hXA.src hg2 (by omega)
  have hw2 : w1.heap.size < w2.heap.size := hP2.lt
  have HB12 : Hid (∀ q, w.heap.size + 1 ≤ q → q < w1.heap.size → w2.heap[q]? = w1.heap[q]?) := Lib.hid fun q h1 h2 => (hg2.block q (by omega) (fun e => by cases e; omega)).trans (HBA.out.block q h2)
  clear hz hsA hRA hP hGA hoA hXA hg2 lP
  by_cases z0 : z = 0
  · have e0 : (z == 0) = true := by simp [z0]
    clear z0
    have lP2 := hP2.two
    go_wp2_with fail
    refine (l10Draw_ok b n w2 hs2 hn1 hn8).mono ?_
    rintro e w3 ⟨a3, n3, c3, vs3, f3, rfl, hn31, hn3m, ho3, hsq3, hs3, hg3⟩
    have hR3 := hR2.grown hg3 (by simp; omega)
    have hP3 := hP2.grown hg3 (by simp; omega)
    have hG3 := grown_trans hG2 hg3
    have ho23 := ho2.src hg3 (by omega)
    have hR4 := hR3.setne (a := ⟨w1.heap.size, 1, none⟩) (by show w.heap.size ≠ w1.heap.size; omega) (.slice a3 n3 c3)
    have hP4 := hP3.set 1 (.slice a3 n3 c3)
    have lP3 := hP3.two
    have lP4 := hP4.two
    have lR4 := hR4.two
    have k1 : TbX (((w3.setCell ⟨w1.heap.size, 1, none⟩ (.slice a3 n3 c3)).setCell ⟨w.heap.size, 0, none⟩ (.slice a1 n c1)).setCell ⟨w.heap.size, 1, none⟩ (.slice a3 n3 c3)) w.heap.size (fun _ => False) a1 n f := by
      have hk : ∀ q, TblS a1 n vs q → q ≠ w1.heap.size ∧ q ≠ w.heap.size := fun q hq => by have := HHI.out q hq; have := ho23.uLo q hq; omega
      exact (ho23.keep fun q hq hl => ((Below.heap_setCell _ _ _ q (hk q hq).2).trans (Below.heap_setCell _ _ _ q (hk q hq).2)).trans (Below.heap_setCell _ _ _ q (hk q hq).1)).tbX (by omega)
    have k2 : TbX (((w3.setCell ⟨w1.heap.size, 1, none⟩ (.slice a3 n3 c3)).setCell ⟨w.heap.size, 0, none⟩ (.slice a1 n c1)).setCell ⟨w.heap.size, 1, none⟩ (.slice a3 n3 c3)) w.heap.size (fun _ => False) a3 n3 f3 := (((ho3.setlo (p := ⟨w1.heap.size, 1, none⟩) hw2 _).setlo (p := ⟨w.heap.size, 0, none⟩) (show w.heap.size < w2.heap.size by omega) _).setlo (p := ⟨w.heap.size, 1, none⟩) (show w.heap.size < w2.heap.size by omega) _).tbX (by omega)
    have k3 := grown_set (p := ⟨w.heap.size, 1, none⟩) (grown_set (p := ⟨w.heap.size, 0, none⟩) (grown_set (p := ⟨w1.heap.size, 1, none⟩) hG3 (.inr (by show w.heap.size ≤ w1.heap.size; omega)) (.slice a3 n3 c3)) (.inr (Nat.le_refl _)) (.slice a1 n c1)) (.inr (Nat.le_refl _)) (.slice a3 n3 c3)
    go_wp2
    exact bodyPost_ret (v := sAgg a1 n c1 a3 n3 c3) (by simp [results, Tryz.results57, go_sem, lR4]) rfl ⟨a1, n, c1, f, a3, n3, c3, f3, rfl, by omega, by omega, k1, k2, k3⟩
  have e0 : (z == 0) = false := by simp [z0]
  clear z0
  by_cases z1 : z = 1
  · have e1 : (z == 1) = true := by simp [z1]
    clear z1
    obtain ⟨ga, rfl⟩ : ∃ g, a1 = some ⟨g, 0, none⟩ := by
      rcases ho2.block with ⟨_, h, _⟩ | ⟨g, _, h, _⟩
      · omega
      · exact ⟨g, h⟩
    have hHI := HHI.out
    have n0 : (0 : Int) ≤ (n : Int) := by omega
    have hwn : IntKind.i64.wrap ((n : Int) + 1) = (n : Int) + 1 := IntWalk.i64_in _ ⟨by omega, by omega⟩
    have HRL : Hid (∀ i, i < n → (vs.getD i svO).2.1 = n) := Lib.hid fun i hi => by rw [(ho2.row i hi).len, hsf.row hi]
    obtain ⟨A, hA⟩ : ∃ A : Nat → Option Addr, ∀ i, A i = (vs.getD i svO).1 := ⟨_, fun _ => rfl⟩
    obtain ⟨C, hC⟩ : ∃ C : Nat → Nat, ∀ i, C i = (vs.getD i svO).2.2 := ⟨_, fun _ => rfl⟩
    have hcS : ∀ (v : World) (lo c : Nat) (t' : List (List Int)), OwnT v lo (some ⟨ga, 0, none⟩) n c vs t' → ∀ i, i < n → v.cell? ⟨ga, i, none⟩ = some (.slice (A i) n (C i)) := fun v lo c t' ho i hi => by
      obtain ⟨gq, eq, _, hc1, _⟩ := ho.cells hn1
      cases eq
      rw [hc1 i hi, HRL.out i hi, hA, hC]
    have HCS := Lib.hid hcS
    have HA := Lib.hid hA
    clear hcS hA hC
    have k2 := And.intro hP2.two.1 (HCS.out _ _ _ _ ho2)
    have HGR : Hid (∀ i, i < n → ∃ gr, A i = some ⟨gr, 0, none⟩) := Lib.hid fun i hi => by
      rcases (ho2.row i hi).block with ⟨_, q2, _⟩ | ⟨g, cur, q1, _⟩
      · rw [HRL.out i hi] at q2; omega
      · exact ⟨g, by rw [HA.out]; exact q1⟩
    have tok1 : True := trivial
    go_upto_region 7 with fail
    go_region_held3 (fun v => v.cell? ⟨w1.heap.size, 0, none⟩ = some (.slice (some ⟨ga, 0, none⟩) n c1) ∧ ∀ i, i < n → v.cell? ⟨ga, i, none⟩ = some (.slice (A i) n (C i)))
      (first | exact k8 | exact k7 | exact k6 | exact k5 | exact k2 | go_keep)
      (first
        | (go_at_call 92; have _t := tok1; clear _t tok1; have tok2 : True := trivial; refine (l01Next_ok b n _ (hs2.below (below_drewN (Below.refl _ _) 1)) ⟨by omega, by omega⟩).mono ?_; rintro e w5 ⟨x, rfl, _, hx, hs5, hg5'⟩; obtain ⟨hx1, hx2⟩ := hx (by omega); obtain ⟨X1, rfl⟩ : ∃ X : Nat, x = (X : Int) := ⟨x.toNat, (Int.toNat_of_nonneg hx1).symm⟩; have hX1n : X1 < n := (by omega); obtain ⟨gr, hgr⟩ := HGR.out X1 hX1n; have hg5 : w2.grownBy w5 (some b) := grown_trans (grown_of_below (below_drewN (Below.refl _ _) 1) (some b)) hg5'; have hP5 := hP2.grown hg5 (by simp; omega); have ho5 := ho2.src hg5 (by omega); have hXX5 := hX2.src hg5 (by omega); have k5 := And.intro hP5.two.1 (HCS.out _ _ _ _ ho5); have hR5 := hR2.grown hg5 (by simp; omega); have hG5 := grown_trans hG2 hg5)
        | (go_at_call 92; have _t := tok2; clear _t tok2; have tok3 : True := trivial; refine (l01Next_ok b n _ hs5 ⟨by omega, by omega⟩).mono ?_; rintro e w6 ⟨x2, rfl, _, hx', hs6, hg6⟩; obtain ⟨hx3, hx4⟩ := hx' (by omega); obtain ⟨X2, rfl⟩ : ∃ X : Nat, x2 = (X : Int) := ⟨x2.toNat, (Int.toNat_of_nonneg hx3).symm⟩; have hX2n : X2 < n := (by omega); have hP6 := hP5.grown hg6 (by simp; omega); have ho6 := ho5.src hg6 (by omega); have hXX6 := hXX5.src hg6 (by omega); have k6 := And.intro hP6.two.1 (HCS.out _ _ _ _ ho6); have hR6 := hR5.grown hg6 (by simp; omega); have hG6 := grown_trans hG5 hg6)
        | (go_at_call 92; have _t := tok3; clear _t tok3; refine (l01Next_ok b ((n : Int) + 1) _ hs6 ⟨by omega, by omega⟩).mono ?_; rintro e w7 ⟨v, rfl, _, hv, hs7, hg7⟩; have hP7 := hP6.grown hg7 (by simp; omega); have ho7 := ho6.src hg7 (by omega); have hXX7 := hXX6.src hg7 (by omega); have k7 := And.intro hP7.two.1 (HCS.out _ _ _ _ ho7); have hR7 := hR6.grown hg7 (by simp; omega); have hG7 := grown_trans hG6 hg7; have hgr' := (HA.out X1).symm.trans hgr; have hrow7 := ho7.row X1 hX1n; rw [hgr', HRL.out X1 hX1n] at hrow7; have d1 := hrow7.cells.2.1 X2 hX2n; have d2 := hrow7.cells.2.2 X2; have hset7 := ho7.setrow X1 hX1n hgr' X2 v; have hgP : w1.heap.size ≠ gr := (by have h9 := hHI gr (.inr ⟨X1, hX1n, hgr'⟩); omega); have hPS7 := hP7.setne (a := ⟨gr, X2, none⟩) hgP (.int .i64 v); have lPS7 := hPS7.two; have k8 : (fun v => v.cell? ⟨w1.heap.size, 0, none⟩ = some (.slice (some ⟨ga, 0, none⟩) n c1) ∧ ∀ i, i < n → v.cell? ⟨ga, i, none⟩ = some (.slice (A i) n (C i))) (w7.setCell ⟨gr, X2, none⟩ (.int .i64 v)) := ⟨lPS7.1, HCS.out _ _ _ _ hset7⟩))
    all_goals
      have hgl : w.heap.size + 1 ≤ gr := hset7.uLo gr (.inr ⟨X1, hX1n, hgr'⟩)
      have hRS := hR7.setne (a := ⟨gr, X2, none⟩) (by show w.heap.size ≠ gr; omega) (.int .i64 v)
      have lRS := hRS.two
      have hXS : Tbl (w7.setCell ⟨gr, X2, none⟩ (.int .i64 v)) a2 n g := hXX7 _ fun q h1 h2 h3 => Below.heap_setCell _ _ _ q (fun e => h3 (show TblS (some ⟨ga, 0, none⟩) n vs q from Or.inr ⟨X1, hX1n, by rw [hgr', e]⟩))
      have hXS2 : TbX (w7.setCell ⟨gr, X2, none⟩ (.int .i64 v)) (w.heap.size + 1) (TblS (some ⟨ga, 0, none⟩) n vs) a2 n g := fun w'' hk => hXX7 w'' fun q h1 h2 h3 => (hk q h1 (by rw [size_set]; exact h2) h3).trans (Below.heap_setCell _ _ _ q (fun e => h3 (show TblS (some ⟨ga, 0, none⟩) n vs q from Or.inr ⟨X1, hX1n, by rw [hgr', e]⟩)))
      have f1 := ((hset7.setlo (p := ⟨w.heap.size, 0, none⟩) (show w.heap.size < w.heap.size + 1 by omega) (.slice (some ⟨ga, 0, none⟩) n c1)).setlo (p := ⟨w.heap.size, 1, none⟩) (show w.heap.size < w.heap.size + 1 by omega) (.slice a2 n c2)).tbX (lo := w.heap.size) (by omega)
      have f2 := ((hXS2.setlo (p := ⟨w.heap.size, 0, none⟩) (show w.heap.size < w.heap.size + 1 by omega) (.slice (some ⟨ga, 0, none⟩) n c1)).setlo (p := ⟨w.heap.size, 1, none⟩) (show w.heap.size < w.heap.size + 1 by omega) (.slice a2 n c2)).all.mono (lo' := w.heap.size) (by omega)
      have f3 := grown_set (p := ⟨w.heap.size, 1, none⟩) (grown_set (p := ⟨w.heap.size, 0, none⟩) (grown_set (p := ⟨gr, X2, none⟩) hG7 (.inr (by show w.heap.size ≤ gr; omega)) (.int .i64 v)) (.inr (Nat.le_refl _)) (.slice (some ⟨ga, 0, none⟩) n c1)) (.inr (Nat.le_refl _)) (.slice a2 n c2)
      clear HCS
      go_wp2
      exact bodyPost_ret (v := sAgg (some ⟨ga, 0, none⟩) n c1 a2 n c2) (by simp [results, Tryz.results57, go_sem, lRS]) rfl ⟨_, n, c1, _, a2, n, c2, g, rfl, by omega, by omega, f1, f2, f3⟩
  have e1 : (z == 1) = false := by simp [z1]
  clear z1
  by_cases z2 : z = 2
  · have e2 : (z == 2) = true := by simp [z2]
    clear z2
    obtain ⟨aT, tl, efr, hfr⟩ := slice_tailR a2 n c2 hn1
    have HFR := Lib.hid hfr
    have lP2 := hP2.two
    have hP4 := hP2.set 1 (.slice aT (n - 1) (c2 - 1))
    have lP4 := hP4.two
    have hR4 := hR2.setne (a := ⟨w1.heap.size, 1, none⟩) (by show w.heap.size ≠ w1.heap.size; omega) (.slice aT (n - 1) (c2 - 1))
    have lR4 := hR4.two
    have hk : ∀ q, TblS a1 n vs q → q ≠ w1.heap.size ∧ q ≠ w.heap.size := fun q hq => by have := HHI.out q hq; have := ho2.uLo q hq; omega
    have k1 : TbX (((w2.setCell ⟨w1.heap.size, 1, none⟩ (.slice aT (n - 1) (c2 - 1))).setCell ⟨w.heap.size, 0, none⟩ (.slice a1 n c1)).setCell ⟨w.heap.size, 1, none⟩ (.slice aT (n - 1) (c2 - 1))) w.heap.size (fun _ => False) a1 n f :=
      (ho2.keep fun q hq hl => ((Below.heap_setCell _ _ _ q (hk q hq).2).trans (Below.heap_setCell _ _ _ q (hk q hq).2)).trans (Below.heap_setCell _ _ _ q (hk q hq).1)).tbX (by omega)
    have k2 : TbX (((w2.setCell ⟨w1.heap.size, 1, none⟩ (.slice aT (n - 1) (c2 - 1))).setCell ⟨w.heap.size, 0, none⟩ (.slice a1 n c1)).setCell ⟨w.heap.size, 1, none⟩ (.slice aT (n - 1) (c2 - 1))) w.heap.size (fun _ => False) aT (n - 1) (tl g) := fun V hV => HFR.out V g (HX1.out V fun q h1 h2 h3 => (hV q (by omega) (by rw [size_set, size_set, size_set]; omega) id).trans ((((Below.heap_setCell _ _ _ q (by show q ≠ w.heap.size; omega)).trans (Below.heap_setCell _ _ _ q (by show q ≠ w.heap.size; omega))).trans (Below.heap_setCell _ _ _ q (by show q ≠ w1.heap.size; omega))).trans (HB12.out q h1 h2)))
    have k3 := grown_set (p := ⟨w.heap.size, 1, none⟩) (grown_set (p := ⟨w.heap.size, 0, none⟩) (grown_set (p := ⟨w1.heap.size, 1, none⟩) hG2 (.inr (by show w.heap.size ≤ w1.heap.size; omega)) (.slice aT (n - 1) (c2 - 1))) (.inr (Nat.le_refl _)) (.slice a1 n c1)) (.inr (Nat.le_refl _)) (.slice aT (n - 1) (c2 - 1))
    have hn1i : (1 : Int) ≤ (n : Int) := by omega
    go_wp2
    exact bodyPost_ret (v := sAgg a1 n c1 aT (n - 1) (c2 - 1)) (by simp [results, Tryz.results57, go_sem, lR4]) rfl ⟨a1, n, c1, f, aT, n - 1, c2 - 1, tl g, rfl, by omega, by omega, k1, k2, k3⟩
  have e2 : (z == 2) = false := by simp [z2]
  clear z2
  have lP2 := hP2.two
  have lR2 := hR2.two
  have f1 := ((ho2.setlo (p := ⟨w.heap.size, 0, none⟩) (show w.heap.size < w.heap.size + 1 by omega) (.slice a1 n c1)).setlo (p := ⟨w.heap.size, 1, none⟩) (show w.heap.size < w.heap.size + 1 by omega) (.slice a2 n c2)).tbX (lo := w.heap.size) (by omega)
  have f2 := ((hX2.setlo (p := ⟨w.heap.size, 0, none⟩) (show w.heap.size < w.heap.size + 1 by omega) (.slice a1 n c1)).setlo (p := ⟨w.heap.size, 1, none⟩) (show w.heap.size < w.heap.size + 1 by omega) (.slice a2 n c2)).all.mono (lo' := w.heap.size) (by omega)
  have f3 := grown_set (p := ⟨w.heap.size, 1, none⟩) (grown_set (p := ⟨w.heap.size, 0, none⟩) hG2 (.inr (Nat.le_refl _)) (.slice a1 n c1)) (.inr (Nat.le_refl _)) (.slice a2 n c2)
  go_wp2
  exact bodyPost_ret (v := sAgg a1 n c1 a2 n c2) (by simp [results, Tryz.results57, go_sem, lR2]) rfl ⟨a1, n, c1, f, a2, n, c2, g, rfl, by omega, by omega, f1, f2, f3⟩
def BrIs (w : World) (e : Ending) (w' : World) : Prop := ∃ a1 n1 c1 f a2 n2 c2 g, e = .returned (sAgg a1 n1 c1 a2 n2 c2) ∧ n1 ≤ 1000 ∧ n2 ≤ 1000 ∧ TbX w' w.heap.size (fun _ => False) a1 n1 f ∧ TbX w' w.heap.size (fun _ => False) a2 n2 g ∧ Below w.heap.size w w'
set_option maxHeartbeats 8000000 in
theorem DrawIsBrace_ok (a : Option Addr) (n c : Nat) (xs : List Int) (w : World) (h : Bts w a n xs) (hn : n ≤ 9223372036854775807) :
    Calls Tryz.prog 24 #[.slice a n c] w (BrIs w) := by
  have hR := Loc.new w rfl #[.slice none 0 0, .slice none 0 0] 26
  have hb0 := below_al (Below.refl w.heap.size w) (.cells #[.slice none 0 0, .slice none 0 0] 26)
  have hz0 : (w.alloc (.cells #[.slice none 0 0, .slice none 0 0] 26)).heap.size = w.heap.size + 1 := by simp
  have HZ0 := Lib.hid hz0
  clear hz0
  go_enter Tryz.func24, Tryz.ntmps24
  go_wp2_with fail
  refine (l01From_ok a n c xs _ (h.below hb0) hn).mono ?_
  rintro e w1 ⟨b, rfl, hb, hs1, hb1⟩
  have hR1 := hR.below hb1 hR.lt
  have hB1 := hb0.trans (hb1.mono hb0.size)
  have hbz : w.heap.size + 1 ≤ b := by have := HZ0.out; omega
  have hw1 : w.heap.size + 1 ≤ w1.heap.size := by have := hb1.size; have := HZ0.out; omega
  clear hR hb0 hb hb1
  go_wp2_with fail
  refine (l11DrawAny_ok b w1 hs1).mono ?_
  rintro e w2 ⟨a1, n1, c1, f, a2, n2, c2, g, rfl, h1, h2, k1, k2, hg⟩
  have hR2 := hR1.grown hg (by simp; omega)
  have hB2 := below_grown hB1 hg (by omega)
  have lR := hR2.two
  have f1 := ((k1.setlo (p := ⟨w.heap.size, 0, none⟩) (show w.heap.size < w1.heap.size by omega) (.slice a1 n1 c1)).setlo (p := ⟨w.heap.size, 1, none⟩) (show w.heap.size < w1.heap.size by omega) (.slice a2 n2 c2)).mono (lo' := w.heap.size) (by omega)
  have f2 := ((k2.setlo (p := ⟨w.heap.size, 0, none⟩) (show w.heap.size < w1.heap.size by omega) (.slice a1 n1 c1)).setlo (p := ⟨w.heap.size, 1, none⟩) (show w.heap.size < w1.heap.size by omega) (.slice a2 n2 c2)).mono (lo' := w.heap.size) (by omega)
  have f3 := below_setne (a := ⟨w.heap.size, 1, none⟩) (below_setne (a := ⟨w.heap.size, 0, none⟩) hB2 (Nat.le_refl _) (.slice a1 n1 c1)) (Nat.le_refl _) (.slice a2 n2 c2)
  go_wp2
  exact bodyPost_ret (v := sAgg a1 n1 c1 a2 n2 c2) (by simp [results, Tryz.results24, go_sem, lR]) rfl ⟨a1, n1, c1, f, a2, n2, c2, g, rfl, h1, h2, f1, f2, f3⟩
set_option maxHeartbeats 8000000 in
theorem DrawBraceSolution_ok (a : Option Addr) (n c : Nat) (xs : List Int) (w : World) (h : Bts w a n xs) (hn : n ≤ 9223372036854775807) :
    Calls Tryz.prog 5 #[.slice a n c] w fun e w' => ∃ (b1 : Option Addr) (n1 d1 : Nat) (f : List (List Int)) (b2 : Option Addr) (n2 d2 : Nat) (g : List (List Int)), e = .returned (sAgg b1 n1 d1 b2 n2 d2) ∧ n1 ≤ 1000 ∧ n2 ≤ 1000 ∧ Tbl w' b1 n1 f ∧ Tbl w' b2 n2 g ∧ Below w.heap.size w w' := by
  have hR := Loc.new w rfl #[.slice none 0 0, .slice none 0 0] 26
  have hb0 := below_al (Below.refl w.heap.size w) (.cells #[.slice none 0 0, .slice none 0 0] 26)
  have hz0 : (w.alloc (.cells #[.slice none 0 0, .slice none 0 0] 26)).heap.size = w.heap.size + 1 := by simp
  have HZ0 := Lib.hid hz0
  clear hz0
  go_enter Tryz.func5, Tryz.ntmps5
  go_wp2_with fail
  refine (DrawIsBrace_ok a n c xs _ (h.below hb0) hn).mono ?_
  rintro e w2 ⟨a1, n1, c1, f, a2, n2, c2, g, rfl, h1, h2, k1, k2, hb⟩
  have hR2 := hR.below hb hR.lt
  have hB2 := hb0.trans (hb.mono hb0.size)
  have lR := hR2.two
  have hz := HZ0.out
  have f1 := ((k1.setlo (p := ⟨w.heap.size, 0, none⟩) (by rw [hz]; show w.heap.size < w.heap.size + 1; omega) (.slice a1 n1 c1)).setlo (p := ⟨w.heap.size, 1, none⟩) (by rw [hz]; show w.heap.size < w.heap.size + 1; omega) (.slice a2 n2 c2)).now
  have f2 := ((k2.setlo (p := ⟨w.heap.size, 0, none⟩) (by rw [hz]; show w.heap.size < w.heap.size + 1; omega) (.slice a1 n1 c1)).setlo (p := ⟨w.heap.size, 1, none⟩) (by rw [hz]; show w.heap.size < w.heap.size + 1; omega) (.slice a2 n2 c2)).now
  have f3 := below_setne (a := ⟨w.heap.size, 1, none⟩) (below_setne (a := ⟨w.heap.size, 0, none⟩) hB2 (Nat.le_refl _) (.slice a1 n1 c1)) (Nat.le_refl _) (.slice a2 n2 c2)
  clear hz
  go_wp2
  exact bodyPost_ret (v := sAgg a1 n1 c1 a2 n2 c2) (by simp [results, Tryz.results5, go_sem, lR]) rfl ⟨a1, n1, c1, f, a2, n2, c2, g, rfl, h1, h2, f1, f2, f3⟩
end Go.Proofs.YtiliimkfobfbnaaGreat
