/-
  Walks and plain laws of this seat, some texts in one.
  No condition but bounds on lengths.
-/
import Derived.Test.YtpdgpgbgakinlaaGreatPa41
import Derived.Test.YtpdgpgbgakinlaaGreatPa30
import Derived.Test.YtpdgpgbgakinlaaGreatPa28
import Derived.Test.YtpdgpgbgakinlaaGreatPa32
import Derived.Test.YtpdgpgbgakinlaaGreatPa19
import Derived.Test.YtpdgpgbgakinlaaGreatPa12
namespace Go.Proofs.YtpdgpgbgakinlaaGreat
set_option maxRecDepth 100000
set_option linter.unusedVariables false
set_option linter.unusedSimpArgs false
open Go.RowKit
def RkA (b : Nat) (w : World) (e : Ending) (w' : World) : Prop :=
  ∃ (a : Option Addr) (n c : Nat) (T : List (List Int)), e = .returned (rAgg a n c) ∧ n ≤ 14 ∧ TbR w' w.heap.size a n T ∧ Src w' b ∧ w.grownBy w' (some b)
theorem TbR.nil (w : World) (lo : Nat) (a : Option Addr) : TbR w lo a 0 [] := ⟨⟨rfl, fun i hi => absurd hi (by omega)⟩, fun _ _ _ => ⟨rfl, fun i hi => absurd hi (by omega)⟩⟩
set_option maxHeartbeats 16000000 in
theorem l03DrawAny_ok (M b : Nat) (w : World) (h : Src w b) (h1 : 1 ≤ M) (hM : M ≤ 7) :
    Calls Tryz.prog 99 #[.pointer (some ⟨b, 0, none⟩), .int .i64 M] w (RkA b w) := by
  have hlt := h.lt
  have hR := Loc.new w rfl #[.slice none 0 0] 45
  have hG0 := World.grownBy_alloc w (.cells #[.slice none 0 0] 45) (some b)
  go_enter Tryz.func99, Tryz.ntmps99
  go_wp2_with fail
  refine (l03Draw_ok M b _ (h.below (below_al (Below.refl _ _) _)) h1 (by omega)).mono ?_
  rintro e w1 ⟨n, a1, c1, vs1, t, hn1, hnM, rfl, ho1, hsq, hs1, hg1⟩
  have hR1 := hR.grown hg1 (by simp; omega)
  have hG1 := grown_trans hG0 hg1
  have hz1 := hR1.lt
  replace ho1 := ho1.mono (lo' := w.heap.size + 1) (by simp)
  have HSQ := Lib.hid hsq
  obtain ⟨w2, hw2⟩ : ∃ w2, w1.alloc (.cells #[.slice a1 n c1] 45) = w2 := ⟨_, rfl⟩
  have hX2 : Loc w2 w1.heap.size #[.slice a1 n c1] 45 := by rw [← hw2]; exact Loc.new w1 rfl _ _
  have hb2 : Below w1.heap.size w1 w2 := by rw [← hw2]; exact below_al (Below.refl _ _) _
  have hR2 := hR1.below hb2 hz1
  have ho2 := ho1.below hb2
  have hs2 := hs1.below hb2
  have hG2 := grown_trans hG1 (grown_of_below hb2 (some b))
  have HW2 := Lib.hid hw2
  have hz2 := hX2.lt
  have HT1 : Hid (∀ g, TblS a1 n vs1 g → g < w1.heap.size) := Lib.hid ho1.uHi
  clear hw2 hsq hR hG0 hR1 hG1 ho1 hs1 hg1 hb2
  go_wp2_with fail
  try rw [HW2.out]
  refine (l01Next_ok b 24 _ hs2 ⟨by omega, by omega⟩).mono ?_
  rintro e w3 ⟨y, rfl, _, _, hs3, hg3⟩
  have hR3 := hR2.grown hg3 (by simp; omega)
  have hX3 := hX2.grown hg3 (by simp; omega)
  have ho3 := ho2.grownS hg3 (by omega)
  have hG3 := grown_trans hG2 hg3
  have hz3 := hg3.size
  have lX3 := hX3.one
  have lR3 := hR3.one
  obtain ⟨ga, rfl⟩ := ho3.head (by omega)
  have hga : ga < w1.heap.size := HT1.out ga (.inl rfl)
  have hga2 : w.heap.size + 1 ≤ ga := ho3.low ga rfl
  have FIN : Hid (∀ (V : World) (a : Option Addr) (m c : Nat) (T : List (List Int)), m ≤ 14 → TbR V (w.heap.size + 1) a m T → Src V b → w.grownBy V (some b) → RkA b w (.returned (rAgg a m c)) (V.setCell ⟨w.heap.size, 0, none⟩ (.slice a m c))) := Lib.hid fun V a m c T q1 q2 q3 q4 =>
    ⟨a, m, c, T, rfl, q1, (q2.setlo (by show w.heap.size < w.heap.size + 1; omega) _).mono (by omega), q3.setne (by show b < w.heap.size; omega) _, grown_set q4 (.inr (by simp)) _⟩
  clear hR2 hX2 ho2 hs2 hG2 hg3
  by_cases y0 : y = 0
  · subst y0
    have n0 : (0 : Int) ≤ (n : Int) := by omega
    go_upto_region 5 with fail
    go_region_held3 (fun v => v.cell? ⟨w1.heap.size, 0, none⟩ = some (.slice (some ⟨ga, 0, none⟩) n c1))
      (first | exact k7 | exact k6 | exact k5 | exact lX3.1 | go_keep)
      (first
        | (go_at_call 36; refine (l01Next_ok b n _ (hs3.below (below_drewN (Below.refl _ _) 1)) ⟨by omega, by omega⟩).mono ?_; rintro e w5 ⟨x, rfl, _, hx, hs5, hg5'⟩; obtain ⟨hx1, hx2⟩ := hx (by omega); have hg5 : w3.grownBy w5 (some b) := grown_trans (grown_of_below (below_drewN (Below.refl _ _) 1) (some b)) hg5'; have hX5 := hX3.grown hg5 (by simp; omega); have k5 := hX5.one.1; have hR5 := hR3.grown hg5 (by simp; omega); have ho5 := ho3.grownS hg5 (by omega); have hG5 := grown_trans hG3 hg5; have hz5 := hg5.size)
        | (go_at_call 124; refine (l03DrawPerm_ok b n _ hs5 (by omega)).mono ?_; rintro e w6 ⟨a6, c6, p, rfl, hp6, hor6, hs6, hg6⟩; have hX6 := hX5.grown hg6 (by simp <;> omega); have k6 := hX6.one.1; have hR6 := hR5.grown hg6 (by simp <;> omega); have ho6 := ho5.grownS hg6 (by omega); have hG6 := grown_trans hG5 hg6; have hz6 := hg6.size; obtain ⟨X, rfl⟩ : ∃ X : Nat, x = (X : Int) := ⟨x.toNat, (Int.toNat_of_nonneg hx1).symm⟩; have hXn : X < n := (by omega); have hcc := ho6.cells hn1; obtain ⟨gq, eq, _, hc1, hc2⟩ := hcc; cases eq; have d1 := hc1 X hXn; have d2 := hc2 X; have k7 : (w6.setCell ⟨ga, X, none⟩ (.slice a6 n c6)).cell? ⟨w1.heap.size, 0, none⟩ = some (.slice (some ⟨ga, 0, none⟩) n c1) := (hX6.setne (a := ⟨ga, X, none⟩) (by show w1.heap.size ≠ ga; omega) (.slice a6 n c6)).one.1))
    all_goals
      have hput := ho6.put X hXn (v := (a6, n, c6)) (hor6.mono (by omega)) (fun e => by have := hor6.lo ga e; omega) (fun j hj hjX g e1 e2 => by have q1 := hor6.lo g e1; have q2 := HT1.out g (.inr ⟨j, hj, e2⟩); omega)
      have hs7 := hs6.setne (p := ⟨ga, X, none⟩) (by show b < ga; omega) (.slice a6 n c6)
      have hG7 := grown_set (p := ⟨ga, X, none⟩) hG6 (.inr (by show w.heap.size ≤ ga; omega)) (.slice a6 n c6)
      have hR7 := hR6.setne (a := ⟨ga, X, none⟩) (by show w.heap.size ≠ ga; omega) (.slice a6 n c6)
      have lR7 := hR7.one
      have hW := FIN.out _ _ n c1 _ (by omega) (TbR.own hput) hs7 hG7
      go_wp2
    all_goals exact bodyPost_ret (v := rAgg (some ⟨ga, 0, none⟩) n c1) (by simp [results, Tryz.results99, go_sem, lR7]) rfl hW
  have yb0 : (y == 0) = false := by simpa using y0
  by_cases y1 : y = 1
  · subst y1
    have n0 : (0 : Int) ≤ (n : Int) := by omega
    have hwn : IntKind.i64.wrap ((n : Int) + 1) = (n : Int) + 1 := IntWalk.i64_in _ (by omega)
    have HRL : Hid (∀ i, i < n → (vs1.getD i svO).2.1 = n) := Lib.hid fun i hi => by rw [(ho3.row i hi).len, (HSQ.out.2 i hi).1]
    obtain ⟨A, hA⟩ : ∃ A : Nat → Option Addr, ∀ i, A i = (vs1.getD i svO).1 := ⟨_, fun _ => rfl⟩
    obtain ⟨C, hC⟩ : ∃ C : Nat → Nat, ∀ i, C i = (vs1.getD i svO).2.2 := ⟨_, fun _ => rfl⟩
    have hcS : ∀ (v : World) (lo c : Nat) (t' : List (List Int)), OwnT v lo (some ⟨ga, 0, none⟩) n c vs1 t' → ∀ i, i < n → v.cell? ⟨ga, i, none⟩ = some (.slice (A i) n (C i)) := fun v lo c t' ho i hi => by
      obtain ⟨gq, eq, _, hc1, _⟩ := ho.cells hn1
      cases eq
      rw [hc1 i hi, HRL.out i hi, hA, hC]
    have HCS := Lib.hid hcS
    have HA := Lib.hid hA
    clear hcS hA hC
    have k3 := And.intro lX3.1 (HCS.out _ _ _ _ ho3)
    have HGR : Hid (∀ i, i < n → ∃ gr, A i = some ⟨gr, 0, none⟩) := Lib.hid fun i hi => by
      rcases (ho3.row i hi).block with ⟨_, q2, _⟩ | ⟨g, cur, q1, _⟩
      · rw [HRL.out i hi] at q2; omega
      · exact ⟨g, by rw [HA.out]; exact q1⟩
    go_upto_region 7 with fail
    go_region_held3 (fun v => v.cell? ⟨w1.heap.size, 0, none⟩ = some (.slice (some ⟨ga, 0, none⟩) n c1) ∧ ∀ i, i < n → v.cell? ⟨ga, i, none⟩ = some (.slice (A i) n (C i)))
      (first | exact k8 | exact k7 | exact k6 | exact k5 | exact k3 | go_keep)
      (first
        | (go_at_call 36; have _t := hs6; clear _t; refine (l01Next_ok b ((n : Int) + 1) _ hs6 ⟨by omega, by omega⟩).mono ?_; rintro e w7 ⟨z, rfl, _, hz, hs7, hg7⟩; have hX7 := hX6.grown hg7 (by simp; omega); have ho7 := ho6.grownS hg7 (by omega); have k7 := And.intro hX7.one.1 (HCS.out _ _ _ _ ho7); have hR7 := hR6.grown hg7 (by simp; omega); have hG7 := grown_trans hG6 hg7; have hz7 := hg7.size; have hgr' := (HA.out X1).symm.trans hgr; have hrow7 := ho7.row X1 hX1n; rw [hgr', HRL.out X1 hX1n] at hrow7; have d1 := hrow7.cells.2.1 X2 hX2n; have d2 := hrow7.cells.2.2 X2; have hset7 := ho7.setrow X1 hX1n hgr' X2 z; have k8 : (w7.setCell ⟨gr, X2, none⟩ (.int .i64 z)).cell? ⟨w1.heap.size, 0, none⟩ = some (.slice (some ⟨ga, 0, none⟩) n c1) ∧ ∀ i, i < n → (w7.setCell ⟨gr, X2, none⟩ (.int .i64 z)).cell? ⟨ga, i, none⟩ = some (.slice (A i) n (C i)) := ⟨(hX7.setne (a := ⟨gr, X2, none⟩) (by have := HT1.out gr (.inr ⟨X1, hX1n, hgr'⟩); show w1.heap.size ≠ gr; omega) (.int .i64 z)).one.1, HCS.out _ _ _ _ hset7⟩)
        | (go_at_call 36; have _t := hs5; clear _t; refine (l01Next_ok b n _ hs5 ⟨by omega, by omega⟩).mono ?_; rintro e w6 ⟨x2, rfl, _, hx', hs6, hg6⟩; obtain ⟨hx3, hx4⟩ := hx' (by omega); obtain ⟨X2, rfl⟩ : ∃ X : Nat, x2 = (X : Int) := ⟨x2.toNat, (Int.toNat_of_nonneg hx3).symm⟩; have hX2n : X2 < n := (by omega); have hX6 := hX5.grown hg6 (by simp; omega); have ho6 := ho5.grownS hg6 (by omega); have k6 := And.intro hX6.one.1 (HCS.out _ _ _ _ ho6); have hR6 := hR5.grown hg6 (by simp; omega); have hG6 := grown_trans hG5 hg6; have hz6 := hg6.size)
        | (go_at_call 36; refine (l01Next_ok b n _ (hs3.below (below_drewN (Below.refl _ _) 1)) ⟨by omega, by omega⟩).mono ?_; rintro e w5 ⟨x, rfl, _, hx, hs5, hg5'⟩; obtain ⟨hx1, hx2⟩ := hx (by omega); obtain ⟨X1, rfl⟩ : ∃ X : Nat, x = (X : Int) := ⟨x.toNat, (Int.toNat_of_nonneg hx1).symm⟩; have hX1n : X1 < n := (by omega); obtain ⟨gr, hgr⟩ := HGR.out X1 hX1n; have hg5 : w3.grownBy w5 (some b) := grown_trans (grown_of_below (below_drewN (Below.refl _ _) 1) (some b)) hg5'; have hX5 := hX3.grown hg5 (by simp; omega); have ho5 := ho3.grownS hg5 (by omega); have k5 := And.intro hX5.one.1 (HCS.out _ _ _ _ ho5); have hR5 := hR3.grown hg5 (by simp; omega); have hG5 := grown_trans hG3 hg5; have hz5 := hg5.size))
    all_goals
      have hgl : w.heap.size + 1 ≤ gr := hset7.uLo gr (.inr ⟨X1, hX1n, hgr'⟩)
      have hs8 := hs7.setne (p := ⟨gr, X2, none⟩) (by show b < gr; omega) (.int .i64 z)
      have hG8 := grown_set (p := ⟨gr, X2, none⟩) hG7 (.inr (by show w.heap.size ≤ gr; omega)) (.int .i64 z)
      have lR8 := (hR7.setne (a := ⟨gr, X2, none⟩) (by show w.heap.size ≠ gr; omega) (.int .i64 z)).one
      have hW := FIN.out _ _ n c1 _ (by omega) (TbR.own hset7) hs8 hG8
      clear HCS
      go_wp2
    all_goals exact bodyPost_ret (v := rAgg (some ⟨ga, 0, none⟩) n c1) (by simp [results, Tryz.results99, go_sem, lR8]) rfl hW
  have yb1 : (y == 1) = false := by simpa using y1
  by_cases y2 : y = 2
  · subst y2
    by_cases hc1 : c1 = 1
    · subst hc1
      have hcap := ho3.cap
      obtain rfl : n = 1 := by omega
      have hX4 := hX3.set 0 (.slice (some ⟨ga, 0, none⟩) 0 0)
      have lX4 := hX4.one
      have lR4 := (hR3.setne (a := ⟨w1.heap.size, 0, none⟩) (by show w.heap.size ≠ w1.heap.size; omega) (.slice (some ⟨ga, 0, none⟩) 0 0)).one
      have hs4 := hs3.setne (p := ⟨w1.heap.size, 0, none⟩) (by show b < w1.heap.size; omega) (.slice (some ⟨ga, 0, none⟩) 0 0)
      have hG4 := grown_set (p := ⟨w1.heap.size, 0, none⟩) hG3 (.inr (by show w.heap.size ≤ w1.heap.size; omega)) (.slice (some ⟨ga, 0, none⟩) 0 0)
      go_wp2
      exact bodyPost_ret (v := rAgg (some ⟨ga, 0, none⟩) 0 0) (by simp [results, Tryz.results99, go_sem, lR4]) rfl (FIN.out _ _ _ 0 [] (by omega) (TbR.nil _ _ _) hs4 hG4)
    · have hcb : ¬ (c1 : Int) = 1 := by omega
      have hn1' : (1 : Int) ≤ (n : Int) := by omega
      have hcap := ho3.cap
      have ho4 := ho3.asetQ (p := ⟨w1.heap.size, 0, none⟩) (fun q hq => by have := HT1.out q hq; show q ≠ w1.heap.size; omega) (.slice (some ⟨ga, 1, none⟩) (n - 1) (c1 - 1))
      have htl := TbR.tail ho4 hn1
      have hX4 := hX3.set 0 (.slice (some ⟨ga, 1, none⟩) (n - 1) (c1 - 1))
      have lX4 := hX4.one
      have lR4 := (hR3.setne (a := ⟨w1.heap.size, 0, none⟩) (by show w.heap.size ≠ w1.heap.size; omega) (.slice (some ⟨ga, 1, none⟩) (n - 1) (c1 - 1))).one
      have hs4 := hs3.setne (p := ⟨w1.heap.size, 0, none⟩) (by show b < w1.heap.size; omega) (.slice (some ⟨ga, 1, none⟩) (n - 1) (c1 - 1))
      have hG4 := grown_set (p := ⟨w1.heap.size, 0, none⟩) hG3 (.inr (by show w.heap.size ≤ w1.heap.size; omega)) (.slice (some ⟨ga, 1, none⟩) (n - 1) (c1 - 1))
      have hW := FIN.out _ _ (n - 1) (c1 - 1) _ (by omega) htl hs4 hG4
      go_wp2
      exact bodyPost_ret (v := rAgg (some ⟨ga, 1, none⟩) (n - 1) (c1 - 1)) (by simp [results, Tryz.results99, go_sem, lR4]) rfl hW
  have yb2 : (y == 2) = false := by simpa using y2
  have hW := FIN.out w3 _ n c1 t (by omega) (TbR.own ho3) hs3 hG3
  go_wp2
  exact bodyPost_ret (v := rAgg (some ⟨ga, 0, none⟩) n c1) (by simp [results, Tryz.results99, go_sem, lR3]) rfl hW
end Go.Proofs.YtpdgpgbgakinlaaGreat

namespace Go.Proofs.YtpdgpgbgakinlaaGreat
set_option maxRecDepth 100000
set_option linter.unusedVariables false
set_option linter.unusedSimpArgs false
open Go.RowKit
def AyD (b : Nat) (w : World) (e : Ending) (w' : World) : Prop :=
  ∃ (a : Option Addr) (n c : Nat) (f : List (List Int)) (a' : Option Addr) (n' c' : Nat) (g : List (List Int)) (m : Int) (am : Option Addr) (nm cm : Nat) (F : List (List Int)), e = .returned (.tuple #[sAgg a n c a' n' c', .int .i64 m, .slice am nm cm]) ∧ n ≤ 14 ∧ n' ≤ 14 ∧ nm ≤ 14 ∧ -2 ≤ m ∧ m ≤ 13 ∧
    TbR w' w.heap.size a n f ∧ TbR w' w.heap.size a' n' g ∧ TbR w' w.heap.size am nm F ∧ Src w' b ∧ w.grownBy w' (some b)
set_option maxHeartbeats 16000000 in
theorem l18DrawAny_ok (M b : Nat) (w : World) (h : Src w b) (h1 : 1 ≤ M) (hM : M ≤ 12) :
    Calls Tryz.prog 34 #[.pointer (some ⟨b, 0, none⟩), .int .i64 M] w (AyD b w) := by
  have hlt := h.lt
  have hR := Loc.new w rfl #[.slice none 0 0, .slice none 0 0] 26
  go_enter Tryz.func34, Tryz.ntmps34
  go_wp2_with fail
  refine (l02Spoil_ok M b _ (h.below (below_al (Below.refl _ _) _)) h1 hM).mono ?_
  rintro e w1 ⟨a1, n1, c1, vs1, f, a2, n2, c2, vs2, g, rfl, hn1, hn2, hf1, hg1', hs1, hg1⟩
  have hR1 := hR.grown hg1 (by simp; omega)
  have hG1 := grown_trans (World.grownBy_alloc w (.cells #[.slice none 0 0, .slice none 0 0] 26) (some b)) hg1
  have hz1 := hR1.lt
  obtain ⟨w2, hw2⟩ : ∃ w2, w1.alloc (.cells #[.slice a1 n1 c1, .slice a2 n2 c2] 26) = w2 := ⟨_, rfl⟩
  have hb2 : Below w1.heap.size w1 w2 := by rw [← hw2]; exact below_al (Below.refl _ _) _
  have hO2 : Loc w2 w1.heap.size #[.slice a1 n1 c1, .slice a2 n2 c2] 26 := by rw [← hw2]; exact Loc.new w1 rfl _ _
  have hR2 := hR1.below hb2 hz1
  have hs2 := hs1.below hb2
  have hG2 := grown_trans hG1 (grown_of_below hb2 (some b))
  have hf2 := (TbR.own (hf1.below hb2)).mono (lo' := w.heap.size + 1) (by simp)
  have hg2 := (TbR.own (hg1'.below hb2)).mono (lo' := w.heap.size + 1) (by simp)
  have HW2 := Lib.hid hw2
  have hOl := hO2.lt
  clear hw2 hf1 hg1' hR hR1 hG1 hs1 hg1
  go_wp2_with fail
  rw [HW2.out]
  refine (l01Next_ok b 3 _ hs2 ⟨by omega, by omega⟩).mono ?_
  rintro e w3 ⟨x, rfl, _, _, hs3, hg3⟩
  have hR3 := hR2.grown hg3 (by simp; omega)
  have hO3 := hO2.grown hg3 (by simp; omega)
  have hG3 := grown_trans hG2 hg3
  have hf3 := hf2.grown hg3 (by omega)
  have hg3' := hg2.grown hg3 (by omega)
  have hO3l := hO3.lt
  clear hR2 hO2 hG2 hs2 hb2 hg3 hf2 hg2
  go_upto_if 14 with fail
  go_cut [7] (fun s7 wx => ∃ (a : Option Addr) (n c : Nat) (f : List (List Int)) (a' : Option Addr) (n' c' : Nat) (g : List (List Int)), s7 = .pointer (some ⟨w1.heap.size, 0, none⟩) ∧ n ≤ 14 ∧ n' ≤ 14 ∧ Loc wx w1.heap.size #[.slice a n c, .slice a' n' c'] 26 ∧ Loc wx w.heap.size #[.slice none 0 0, .slice none 0 0] 26 ∧ TbR wx (w.heap.size + 1) a n f ∧ TbR wx (w.heap.size + 1) a' n' g ∧ Src wx b ∧ w.grownBy wx (some b) ∧ w1.heap.size < wx.heap.size)
  case first => as_aux_lemma =>
    by_cases x0 : x = 0
    · subst x0
      go_wp2_with fail
      refine (l03Draw_ok M b _ hs3 h1 hM).mono ?_
      rintro e w4 ⟨n4, a4, c4, vs4, t, h41, h4M, rfl, ho4, sq4, hs4, hg4⟩
      have hR4 := hR3.grown hg4 (by simp; omega)
      have hO4 := hO3.grown hg4 (by simp; omega)
      have hG4 := grown_trans hG3 hg4
      have hz4 := hg4.size
      go_wp2_with fail
      refine (l03Solution_any a4 n4 c4 t _ ho4.tbl sq4 h41 (by omega)).mono ?_
      rintro e w5 ⟨a5, c5, vs5, a6, c6, vs6, rfl, ho5, hb5⟩
      have hR5 := (hR4.below hb5 (by omega)).setne (a := ⟨w1.heap.size, 0, none⟩) (by show w.heap.size ≠ w1.heap.size; omega) (.slice a5 n4 c5)
      have hR6 := hR5.setne (a := ⟨w1.heap.size, 1, none⟩) (by show w.heap.size ≠ w1.heap.size; omega) (.slice a6 n4 c6)
      have hO5 := hO4.below hb5 (by omega)
      have hO6 := (hO5.set 0 (.slice a5 n4 c5)).set 1 (.slice a6 n4 c6)
      have lO5 := hO5.two
      have hz5 := hb5.size
      have hs6 := ((hs4.below hb5).setne (p := ⟨w1.heap.size, 0, none⟩) (by show b < w1.heap.size; omega) (.slice a5 n4 c5)).setne (p := ⟨w1.heap.size, 1, none⟩) (by show b < w1.heap.size; omega) (.slice a6 n4 c6)
      have hf6 := (((TbR.own ho5.f).setlo (p := ⟨w1.heap.size, 0, none⟩) (by show w1.heap.size < w4.heap.size; omega) (.slice a5 n4 c5)).setlo (p := ⟨w1.heap.size, 1, none⟩) (by show w1.heap.size < w4.heap.size; omega) (.slice a6 n4 c6)).mono (lo' := w.heap.size + 1) (by omega)
      have hg6 := (((TbR.own ho5.s).setlo (p := ⟨w1.heap.size, 0, none⟩) (by show w1.heap.size < w4.heap.size; omega) (.slice a5 n4 c5)).setlo (p := ⟨w1.heap.size, 1, none⟩) (by show w1.heap.size < w4.heap.size; omega) (.slice a6 n4 c6)).mono (lo' := w.heap.size + 1) (by omega)
      have hG6 := grown_set (p := ⟨w1.heap.size, 1, none⟩) (grown_set (p := ⟨w1.heap.size, 0, none⟩) (grown_trans hG4 (grown_of_below hb5 (some b))) (.inr (by show w.heap.size ≤ w1.heap.size; omega)) (.slice a5 n4 c5)) (.inr (by show w.heap.size ≤ w1.heap.size; omega)) (.slice a6 n4 c6)
      go_wp2
      go_meet
      exact ⟨a5, n4, c5, _, a6, n4, c6, _, rfl, by omega, by omega, hO6, hR6, hf6, hg6, hs6, hG6, by rw [size_set, size_set]; omega⟩
    · have xb : (x == 0) = false := by simpa using x0
      go_wp2
      go_meet
      exact ⟨a1, n1, c1, f, a2, n2, c2, g, rfl, hn1, hn2, hO3, hR3, hf3, hg3', hs3, hG3, hO3l⟩
  case rest =>
  obtain ⟨a, n, c, f, a', n', c', g, rfl, hn, hn', hO, hR, hf, hg, hs, hG, hzw⟩ := hcut
  clear hO3 hR3 hf3 hg3' hs3 hG3 hO3l hn1 hn2 hOl
  have lO := hO.two
  go_wp2_with fail
  refine (l18DrawModulus_ok b _ hs).mono ?_
  rintro e w4 ⟨m, rfl, hm1, hm2, hs4, hg4⟩
  have hR4 := hR.grown hg4 (by simp; omega)
  have hO4 := hO.grown hg4 (by simp; omega)
  have hG4 := grown_trans hG hg4
  have hf4 := hf.grown hg4 (by omega)
  have hg4' := hg.grown hg4 (by omega)
  have hz4 := hg4.size
  have lO4 := hO4.two
  clear hR hO hG hf hg hs lO hg4
  go_upto_region 5 with fail
  go_region_held3 (fun v => v.cell? ⟨w1.heap.size, 0, none⟩ = some (.slice a n c) ∧ v.cell? ⟨w1.heap.size, 1, none⟩ = some (.slice a' n' c'))
    (first | exact l7 | exact l5 | exact ⟨lO4.1, lO4.2.1⟩ | go_keep)
    (first
      | (go_at_call 79; refine (l18DrawMatrix_ok b (w.heap.size + 1) n n' m a a' c c' f g _ (hs4.below (below_drewN (Below.refl _ _) 1)) (by omega) (by show w.heap.size + 1 ≤ w4.heap.size; omega) (hf4.below (below_drewN (Below.refl _ _) 1)) (hg4'.below (below_drewN (Below.refl _ _) 1)) hn hn' ⟨hm1, hm2⟩).mono ?_; rintro e w5 ⟨am, nm, cm, F, rfl, hnm, hF5', _, hs5, hg5'⟩; have hg5 : w4.grownBy w5 (some b) := grown_trans (grown_of_below (below_drewN (Below.refl _ _) 1) (some b)) hg5'; have hF5 : TbR w5 (w.heap.size + 1) am nm F := hF5'.mono (by show w.heap.size + 1 ≤ w4.heap.size; omega); have hO5 := hO4.grown hg5 (by simp; omega); have l5 := And.intro hO5.two.1 hO5.two.2.1; have hR5 := hR4.grown hg5 (by simp; omega); have lR5 := hR5.two; have hO7 := (hO5.setne (a := ⟨w.heap.size, 0, none⟩) (by show w1.heap.size ≠ w.heap.size; omega) (.slice a n c)).setne (a := ⟨w.heap.size, 1, none⟩) (by show w1.heap.size ≠ w.heap.size; omega) (.slice a' n' c'); have l7 := And.intro hO7.two.1 hO7.two.2.1))
  all_goals
    have hf7 := ((hf4.grown hg5 (by omega)).setlo (p := ⟨w.heap.size, 0, none⟩) (by show w.heap.size < w.heap.size + 1; omega) (.slice a n c)).setlo (p := ⟨w.heap.size, 1, none⟩) (by show w.heap.size < w.heap.size + 1; omega) (.slice a' n' c')
    have hg7 := ((hg4'.grown hg5 (by omega)).setlo (p := ⟨w.heap.size, 0, none⟩) (by show w.heap.size < w.heap.size + 1; omega) (.slice a n c)).setlo (p := ⟨w.heap.size, 1, none⟩) (by show w.heap.size < w.heap.size + 1; omega) (.slice a' n' c')
    have hF7 := (hF5.setlo (p := ⟨w.heap.size, 0, none⟩) (by show w.heap.size < w.heap.size + 1; omega) (.slice a n c)).setlo (p := ⟨w.heap.size, 1, none⟩) (by show w.heap.size < w.heap.size + 1; omega) (.slice a' n' c')
    have hs7 := (hs5.setne (p := ⟨w.heap.size, 0, none⟩) (by show b < w.heap.size; omega) (.slice a n c)).setne (p := ⟨w.heap.size, 1, none⟩) (by show b < w.heap.size; omega) (.slice a' n' c')
    have hG7 := grown_set (p := ⟨w.heap.size, 1, none⟩) (grown_set (p := ⟨w.heap.size, 0, none⟩) (grown_trans hG4 hg5) (.inr (by simp)) (.slice a n c)) (.inr (by simp)) (.slice a' n' c')
    go_wp2
  all_goals
    exact bodyPost_ret (v := .tuple #[sAgg a n c a' n' c', .int .i64 m, .slice am nm cm]) (by simp [results, Tryz.results34, go_sem, lR5]) rfl ⟨a, n, c, f, a', n', c', g, m, am, nm, cm, F, rfl, hn, hn', hnm, hm1, hm2, hf7.mono (by omega), hg7.mono (by omega), hF7.mono (by omega), hs7, hG7⟩
end Go.Proofs.YtpdgpgbgakinlaaGreat

namespace Go.Proofs.YtpdgpgbgakinlaaGreat
set_option maxRecDepth 100000
set_option linter.unusedVariables false
set_option linter.unusedSimpArgs false
open Go.RowKit
/-! ### tables that are read, whose blocks lie from lo on and below hi -/
def TbH (w : World) (lo hi : Nat) (a : Option Addr) (n : Nat) (F : List (List Int)) : Prop :=
  Tbl w a n F ∧ hi ≤ w.heap.size ∧ ∀ w' : World, w.heap.size ≤ w'.heap.size → (∀ k, lo ≤ k → k < hi → w'.heap[k]? = w.heap[k]?) → Tbl w' a n F
theorem TbH.keep {w w' : World} {lo hi : Nat} {a : Option Addr} {n : Nat} {F : List (List Int)} (h : TbH w lo hi a n F) (hs : w.heap.size ≤ w'.heap.size) (hk : ∀ k, lo ≤ k → k < hi → w'.heap[k]? = w.heap[k]?) : TbH w' lo hi a n F :=
  ⟨h.2.2 w' hs hk, Nat.le_trans h.2.1 hs, fun w'' hs2 hk2 => h.2.2 w'' (Nat.le_trans hs hs2) fun k h1 h2 => (hk2 k h1 h2).trans (hk k h1 h2)⟩
theorem TbH.grown {w w' : World} {lo hi : Nat} {a : Option Addr} {n : Nat} {F : List (List Int)} {row : Option Nat} (h : TbH w lo hi a n F) (hg : w.grownBy w' row) (hr : ∀ q, row = some q → q < lo ∨ hi ≤ q) : TbH w' lo hi a n F :=
  h.keep hg.size fun k h1 h2 => hg.block k (Nat.lt_of_lt_of_le h2 h.2.1) (fun e => by have := hr k e.symm; omega)
theorem TbH.below {w w' : World} {lo hi : Nat} {a : Option Addr} {n : Nat} {F : List (List Int)} (h : TbH w lo hi a n F) (hb : Below w.heap.size w w') : TbH w' lo hi a n F :=
  h.keep hb.size fun k _ h2 => hb.block k (Nat.lt_of_lt_of_le h2 h.2.1)
theorem TbH.set {w : World} {lo hi : Nat} {a : Option Addr} {n : Nat} {F : List (List Int)} (h : TbH w lo hi a n F) {p : Addr} (hp : p.block < lo ∨ hi ≤ p.block) (u : Value) : TbH (w.setCell p u) lo hi a n F :=
  h.keep (by rw [size_set]; exact Nat.le_refl _) fun k h1 h2 => Below.heap_setCell _ _ _ _ (by omega)
end Go.Proofs.YtpdgpgbgakinlaaGreat

namespace Go.Proofs.YtpdgpgbgakinlaaGreat
set_option maxRecDepth 100000
set_option linter.unusedVariables false
set_option linter.unusedSimpArgs false
open Go.RowKit
set_option maxHeartbeats 4000000 in
theorem l18Braid_ok (b : Nat) (w : World) (h : Src w b) :
    Calls Tryz.prog 58 #[.pointer (some ⟨b, 0, none⟩)] w (DrB b w 0 10 31) := by
  have hlt := h.lt
  go_enter Tryz.func58, Tryz.ntmps58
  have hR := Loc.new w rfl #[.int .i64 0, .slice none 0 0] 29
  have hG0 := World.grownBy_alloc w (.cells #[.int .i64 0, .slice none 0 0] 29) (some b)
  go_wp2_with fail
  refine (l01Next_ok b 3 _ (h.below (below_al (Below.refl _ _) _)) ⟨by omega, by omega⟩).mono ?_
  rintro e w1 ⟨x, rfl, _, hx, hs1, hg1⟩
  obtain ⟨hx1, hx2⟩ := hx (by omega)
  obtain ⟨K, hK⟩ : ∃ K : Nat, 2 + x = K := ⟨(2 + x).toNat, by omega⟩
  have hwK : IntKind.i64.wrap (2 + x) = (K : Int) := by rw [hK]; exact IntWalk.i64_in _ (by omega)
  have hKb : 2 ≤ K ∧ K ≤ 10 := by omega
  have hR1 := hR.grown hg1 (by simp; omega)
  have hG1 := grown_trans hG0 hg1
  have hz1 := hR1.lt
  clear hK hx hR hG0
  go_wp2_with fail
  refine (l16DrawAny_ok b K 8 _ hs1 hKb.1 hKb.2 (by omega)).mono ?_
  rintro e w2 ⟨S, ab, nb, cb, ys, rfl, hS1, hS2, hnb, hsm, hob, hs2, hg2⟩
  have hR2 := hR1.grown hg2 (by simp; omega)
  have hG2 := grown_trans hG1 hg2
  have lR2 := hR2.two
  go_wp2
  refine bodyPost_ret (v := bAgg S ab nb cb) (by simp [results, Tryz.results58, go_sem, lR2]) rfl ⟨S, ab, nb, cb, ys, rfl, hS1, hS2, hnb, hsm, ?_, ?_, ?_⟩
  · exact ((hob.setlo (by show w.heap.size < w1.heap.size; omega) _).setlo (by show w.heap.size < w1.heap.size; omega) _).mono (by omega)
  · exact (hs2.setne (by show b < w.heap.size; omega) _).setne (by show b < w.heap.size; omega) _
  · exact grown_set (grown_set hG2 (.inr (by simp)) _) (.inr (by simp)) _
theorem tbl_rows {w : World} {b : Nat} {cs : Array Value} {t : TypeId} (h : Loc w b cs t) (F : List (List Int)) (hr : ∀ i, i < F.length → ∃ ai ni ci, cs[i]? = some (.slice ai ni ci) ∧ Row w ai ni (F.getD i []) ∧ ni ≤ 9223372036854775807) : Tbl w (some ⟨b, 0, none⟩) F.length F := by
  refine ⟨rfl, fun i hi => ?_⟩
  obtain ⟨ai, ni, ci, e1, e2, e3⟩ := hr i hi
  exact ⟨b, 0, ai, ni, ci, rfl, h.lt, by rw [Nat.zero_add]; exact h.cell i e1, e2, e3⟩
def DrIw (w : World) (e : Ending) (w' : World) : Prop :=
  ∃ (a : Option Addr) (n c : Nat) (f : List (List Int)) (a' : Option Addr) (n' c' : Nat) (g : List (List Int)) (m : Int) (am : Option Addr) (nm cm : Nat) (F : List (List Int)),
      e = .returned (.tuple #[sAgg a n c a' n' c', .int .i64 m, .slice am nm cm]) ∧ n ≤ 14 ∧ n' ≤ 14 ∧ nm ≤ 14 ∧ -2 ≤ m ∧ m ≤ 13 ∧ Tbl w' a n f ∧ Tbl w' a' n' g ∧ Tbl w' am nm F ∧ Below w.heap.size w w'
set_option maxHeartbeats 16000000 in
theorem DrawIsWeight_ok (a : Option Addr) (n c : Nat) (xs : List Int) (w : World) (h : Bts w a n xs) (hn : n ≤ 9223372036854775807) :
    Calls Tryz.prog 21 #[.slice a n c] w (DrIw w) := by
  go_enter Tryz.func21, Tryz.ntmps21
  have hP := Loc.new w rfl #[.slice none 0 0, .slice none 0 0] 26
  have hB0 := below_al (Below.refl w.heap.size w) (.cells #[.slice none 0 0, .slice none 0 0] 26)
  go_wp2_with fail
  refine (l01From_ok a n c xs _ (h.below hB0) hn).mono ?_
  rintro e w1 ⟨b, rfl, hb, hs1, hb1⟩
  have hP1 := hP.below hb1 hP.lt
  have hB1 := below_th hB0 hb1
  rw [size_alloc] at hb
  have hz1 := hs1.lt
  clear hP hB0 hb1
  go_wp2_with fail
  refine (l18DrawAny_ok 6 b _ hs1 (by omega) (by omega)).mono ?_
  rintro e w2 ⟨a1, n1, c1, f, a2, n2, c2, g, m, am, nm, cm, F, rfl, hn1, hn2, hnm, hm1, hm2, hf2, hg2', hF2, hs2, hg2⟩
  have hP2 := hP1.grown hg2 (by simp; omega)
  have hB2 := below_grown hB1 hg2 (by omega)
  have hz2 := hg2.size
  obtain ⟨w3, hw3⟩ : ∃ w3, w2.alloc (.cells #[.slice a1 n1 c1, .slice a2 n2 c2] 26) = w3 := ⟨_, rfl⟩
  have hb3 : Below w2.heap.size w2 w3 := by rw [← hw3]; exact below_al (Below.refl _ _) _
  have hX3 : Loc w3 w2.heap.size #[.slice a1 n1 c1, .slice a2 n2 c2] 26 := by rw [← hw3]; exact Loc.new w2 rfl _ _
  have hP3 := hP2.below hb3 hP2.lt
  have hB3 := below_th hB2 hb3
  have hf3 := hf2.below hb3
  have hg3' := hg2'.below hb3
  have hF3 := hF2.below hb3
  have HW3 := Lib.hid hw3
  have lP3 := hP3.two
  have lX3 := hX3.two
  clear hw3
  go_upto_region 2 with fail
  rw [HW3.out]
  go_wp2
  refine bodyPost_ret (v := .tuple #[sAgg a1 n1 c1 a2 n2 c2, .int .i64 m, .slice am nm cm]) (by simp [results, Tryz.results21, go_sem, lP3]) rfl ⟨a1, n1, c1, f, a2, n2, c2, g, m, am, nm, cm, F, rfl, hn1, hn2, hnm, hm1, hm2, ?_, ?_, ?_, ?_⟩
  · exact ((hf3.setlo (by show w.heap.size < w1.heap.size; omega) _).setlo (by show w.heap.size < w1.heap.size; omega) _).1
  · exact ((hg3'.setlo (by show w.heap.size < w1.heap.size; omega) _).setlo (by show w.heap.size < w1.heap.size; omega) _).1
  · exact ((hF3.setlo (by show w.heap.size < w1.heap.size; omega) _).setlo (by show w.heap.size < w1.heap.size; omega) _).1
  · exact below_setne (below_setne hB3 (Nat.le_refl _) _) (Nat.le_refl _) _
end Go.Proofs.YtpdgpgbgakinlaaGreat
