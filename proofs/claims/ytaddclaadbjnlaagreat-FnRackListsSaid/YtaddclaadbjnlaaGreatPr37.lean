/-
  Walks and plain laws of this seat, some texts in one.
  No condition but bounds on lengths.
-/
import Derived.Test.YtaddclaadbjnlaaGreatPr36
import Derived.Test.YtaddclaadbjnlaaGreatPr28
import Derived.Test.YtaddclaadbjnlaaGreatPr26
import Derived.Test.YtaddclaadbjnlaaGreatPr12
import Derived.Test.YtaddclaadbjnlaaGreatPr7
import Derived.Test.YtaddclaadbjnlaaGreatPr2
import Derived.Test.YtaddclaadbjnlaaGreatPr3
import Derived.Test.YtaddclaadbjnlaaGreatPr13
import Derived.Test.YtaddclaadbjnlaaGreatPr16
namespace Go.Proofs.YtaddclaadbjnlaaGreat
set_option maxRecDepth 100000
set_option linter.unusedVariables false
set_option linter.unusedSimpArgs false
open Go.RowKit
def RkA (b : Nat) (w : World) (e : Ending) (w' : World) : Prop :=
  ∃ (a : Option Addr) (n c : Nat) (T : List (List Int)), e = .returned (rAgg a n c) ∧ n ≤ 14 ∧ TbR w' w.heap.size a n T ∧ Src w' b ∧ w.grownBy w' (some b)
theorem TbR.nil (w : World) (lo : Nat) (a : Option Addr) : TbR w lo a 0 [] := ⟨⟨rfl, fun i hi => absurd hi (by omega)⟩, fun _ _ _ => ⟨rfl, fun i hi => absurd hi (by omega)⟩⟩
set_option maxHeartbeats 16000000 in
theorem l03DrawAny_ok (M b : Nat) (w : World) (h : Src w b) (h1 : 1 ≤ M) (hM : M ≤ 7) :
    Calls Tryz.prog 56 #[.pointer (some ⟨b, 0, none⟩), .int .i64 M] w (RkA b w) := by
  have hlt := h.lt
  have hR := Loc.new w rfl #[.slice none 0 0] 34
  have hG0 := World.grownBy_alloc w (.cells #[.slice none 0 0] 34) (some b)
  go_enter Tryz.func56, Tryz.ntmps56
  go_wp2_with fail
  refine (l03Draw_ok M b _ (h.below (below_al (Below.refl _ _) _)) h1 (by omega)).mono ?_
  rintro e w1 ⟨n, a1, c1, vs1, t, hn1, hnM, rfl, ho1, hsq, hs1, hg1⟩
  have hR1 := hR.grown hg1 (by simp; omega)
  have hG1 := grown_trans hG0 hg1
  have hz1 := hR1.lt
  replace ho1 := ho1.mono (lo' := w.heap.size + 1) (by simp)
  have HSQ := Lib.hid hsq
  obtain ⟨w2, hw2⟩ : ∃ w2, w1.alloc (.cells #[.slice a1 n c1] 34) = w2 := ⟨_, rfl⟩
  have hX2 : Loc w2 w1.heap.size #[.slice a1 n c1] 34 := by rw [← hw2]; exact Loc.new w1 rfl _ _
  have hb2 : Below w1.heap.size w1 w2 := by rw [← hw2]; exact below_al (Below.refl _ _) _
  have hR2 := hR1.below hb2 hz1
  have ho2 := ho1.below hb2
  have hs2 := hs1.below hb2
  have hG2 := grown_trans hG1 (grown_of_below hb2 (some b))
  have HW2 := Lib.hid hw2
  have hz2 := hX2.lt
  have HT1 : Hid (∀ g, TblS a1 n vs1 g → g < w1.heap.size) := Lib.hid ho1.uHi
  clear hw2 hsq hR hG0 hR1 hG1 ho1 hs1 hg1 hb2
  go_wp2_with fail
  try rw [HW2.out]
  refine (l01Next_ok b 24 _ hs2 ⟨by omega, by omega⟩).mono ?_
  rintro e w3 ⟨y, rfl, _, _, hs3, hg3⟩
  have hR3 := hR2.grown hg3 (by simp; omega)
  have hX3 := hX2.grown hg3 (by simp; omega)
  have ho3 := ho2.grownS hg3 (by omega)
  have hG3 := grown_trans hG2 hg3
  have hz3 := hg3.size
  have lX3 := hX3.one
  have lR3 := hR3.one
  obtain ⟨ga, rfl⟩ := ho3.head (by omega)
  have hga : ga < w1.heap.size := HT1.out ga (.inl rfl)
  have hga2 : w.heap.size + 1 ≤ ga := ho3.low ga rfl
  have FIN : Hid (∀ (V : World) (a : Option Addr) (m c : Nat) (T : List (List Int)), m ≤ 14 → TbR V (w.heap.size + 1) a m T → Src V b → w.grownBy V (some b) → RkA b w (.returned (rAgg a m c)) (V.setCell ⟨w.heap.size, 0, none⟩ (.slice a m c))) := Lib.hid fun V a m c T q1 q2 q3 q4 =>
    ⟨a, m, c, T, rfl, q1, (q2.setlo (by show w.heap.size < w.heap.size + 1; omega) _).mono (by omega), q3.setne (by show b < w.heap.size; omega) _, grown_set q4 (.inr (by simp)) _⟩
  clear hR2 hX2 ho2 hs2 hG2 hg3
  by_cases y0 : y = 0
  · subst y0
    have n0 : (0 : Int) ≤ (n : Int) := by omega
    go_upto_region 5 with fail
    go_region_held3 (fun v => v.cell? ⟨w1.heap.size, 0, none⟩ = some (.slice (some ⟨ga, 0, none⟩) n c1))
      (first | exact k7 | exact k6 | exact k5 | exact lX3.1 | go_keep)
      (first
        | (go_at_call 57; refine (l01Next_ok b n _ (hs3.below (below_drewN (Below.refl _ _) 1)) ⟨by omega, by omega⟩).mono ?_; rintro e w5 ⟨x, rfl, _, hx, hs5, hg5'⟩; obtain ⟨hx1, hx2⟩ := hx (by omega); have hg5 : w3.grownBy w5 (some b) := grown_trans (grown_of_below (below_drewN (Below.refl _ _) 1) (some b)) hg5'; have hX5 := hX3.grown hg5 (by simp; omega); have k5 := hX5.one.1; have hR5 := hR3.grown hg5 (by simp; omega); have ho5 := ho3.grownS hg5 (by omega); have hG5 := grown_trans hG3 hg5; have hz5 := hg5.size)
        | (go_at_call 104; refine (l03DrawPerm_ok b n _ hs5 (by omega)).mono ?_; rintro e w6 ⟨a6, c6, p, rfl, hp6, hor6, hs6, hg6⟩; have hX6 := hX5.grown hg6 (by simp <;> omega); have k6 := hX6.one.1; have hR6 := hR5.grown hg6 (by simp <;> omega); have ho6 := ho5.grownS hg6 (by omega); have hG6 := grown_trans hG5 hg6; have hz6 := hg6.size; obtain ⟨X, rfl⟩ : ∃ X : Nat, x = (X : Int) := ⟨x.toNat, (Int.toNat_of_nonneg hx1).symm⟩; have hXn : X < n := (by omega); have hcc := ho6.cells hn1; obtain ⟨gq, eq, _, hc1, hc2⟩ := hcc; cases eq; have d1 := hc1 X hXn; have d2 := hc2 X; have k7 : (w6.setCell ⟨ga, X, none⟩ (.slice a6 n c6)).cell? ⟨w1.heap.size, 0, none⟩ = some (.slice (some ⟨ga, 0, none⟩) n c1) := (hX6.setne (a := ⟨ga, X, none⟩) (by show w1.heap.size ≠ ga; omega) (.slice a6 n c6)).one.1))
    all_goals
      have hput := ho6.put X hXn (v := (a6, n, c6)) (hor6.mono (by omega)) (fun e => by have := hor6.lo ga e; omega) (fun j hj hjX g e1 e2 => by have q1 := hor6.lo g e1; have q2 := HT1.out g (.inr ⟨j, hj, e2⟩); omega)
      have hs7 := hs6.setne (p := ⟨ga, X, none⟩) (by show b < ga; omega) (.slice a6 n c6)
      have hG7 := grown_set (p := ⟨ga, X, none⟩) hG6 (.inr (by show w.heap.size ≤ ga; omega)) (.slice a6 n c6)
      have hR7 := hR6.setne (a := ⟨ga, X, none⟩) (by show w.heap.size ≠ ga; omega) (.slice a6 n c6)
      have lR7 := hR7.one
      have hW := FIN.out _ _ n c1 _ (by omega) (TbR.own hput) hs7 hG7
      go_wp2
    all_goals exact bodyPost_ret (v := rAgg (some ⟨ga, 0, none⟩) n c1) (by simp [results, Tryz.results56, go_sem, lR7]) rfl hW
  have yb0 : (y == 0) = false := by simpa using y0
  by_cases y1 : y = 1
  · subst y1
    have n0 : (0 : Int) ≤ (n : Int) := by omega
    have hwn : IntKind.i64.wrap ((n : Int) + 1) = (n : Int) + 1 := IntWalk.i64_in _ (by omega)
    have HRL : Hid (∀ i, i < n → (vs1.getD i svO).2.1 = n) := Lib.hid fun i hi => by rw [(ho3.row i hi).len, (HSQ.out.2 i hi).1]
    obtain ⟨A, hA⟩ : ∃ A : Nat → Option Addr, ∀ i, A i = (vs1.getD i svO).1 := ⟨_, fun _ => rfl⟩
    obtain ⟨C, hC⟩ : ∃ C : Nat → Nat, ∀ i, C i = (vs1.getD i svO).2.2 := ⟨_, fun _ => rfl⟩
    have hcS : ∀ (v : World) (lo c : Nat) (t' : List (List Int)), OwnT v lo (some ⟨ga, 0, none⟩) n c vs1 t' → ∀ i, i < n → v.cell? ⟨ga, i, none⟩ = some (.slice (A i) n (C i)) := fun v lo c t' ho i hi => by
      obtain ⟨gq, eq, _, hc1, _⟩ := ho.cells hn1
      cases eq
      rw [hc1 i hi, HRL.out i hi, hA, hC]
    have HCS := Lib.hid hcS
    have HA := Lib.hid hA
    clear hcS hA hC
    have k3 := And.intro lX3.1 (HCS.out _ _ _ _ ho3)
    have HGR : Hid (∀ i, i < n → ∃ gr, A i = some ⟨gr, 0, none⟩) := Lib.hid fun i hi => by
      rcases (ho3.row i hi).block with ⟨_, q2, _⟩ | ⟨g, cur, q1, _⟩
      · rw [HRL.out i hi] at q2; omega
      · exact ⟨g, by rw [HA.out]; exact q1⟩
    go_upto_region 7 with fail
    go_region_held3 (fun v => v.cell? ⟨w1.heap.size, 0, none⟩ = some (.slice (some ⟨ga, 0, none⟩) n c1) ∧ ∀ i, i < n → v.cell? ⟨ga, i, none⟩ = some (.slice (A i) n (C i)))
      (first | exact k8 | exact k7 | exact k6 | exact k5 | exact k3 | go_keep)
      (first
        | (go_at_call 57; have _t := hs6; clear _t; refine (l01Next_ok b ((n : Int) + 1) _ hs6 ⟨by omega, by omega⟩).mono ?_; rintro e w7 ⟨z, rfl, _, hz, hs7, hg7⟩; have hX7 := hX6.grown hg7 (by simp; omega); have ho7 := ho6.grownS hg7 (by omega); have k7 := And.intro hX7.one.1 (HCS.out _ _ _ _ ho7); have hR7 := hR6.grown hg7 (by simp; omega); have hG7 := grown_trans hG6 hg7; have hz7 := hg7.size; have hgr' := (HA.out X1).symm.trans hgr; have hrow7 := ho7.row X1 hX1n; rw [hgr', HRL.out X1 hX1n] at hrow7; have d1 := hrow7.cells.2.1 X2 hX2n; have d2 := hrow7.cells.2.2 X2; have hset7 := ho7.setrow X1 hX1n hgr' X2 z; have k8 : (w7.setCell ⟨gr, X2, none⟩ (.int .i64 z)).cell? ⟨w1.heap.size, 0, none⟩ = some (.slice (some ⟨ga, 0, none⟩) n c1) ∧ ∀ i, i < n → (w7.setCell ⟨gr, X2, none⟩ (.int .i64 z)).cell? ⟨ga, i, none⟩ = some (.slice (A i) n (C i)) := ⟨(hX7.setne (a := ⟨gr, X2, none⟩) (by have := HT1.out gr (.inr ⟨X1, hX1n, hgr'⟩); show w1.heap.size ≠ gr; omega) (.int .i64 z)).one.1, HCS.out _ _ _ _ hset7⟩)
        | (go_at_call 57; have _t := hs5; clear _t; refine (l01Next_ok b n _ hs5 ⟨by omega, by omega⟩).mono ?_; rintro e w6 ⟨x2, rfl, _, hx', hs6, hg6⟩; obtain ⟨hx3, hx4⟩ := hx' (by omega); obtain ⟨X2, rfl⟩ : ∃ X : Nat, x2 = (X : Int) := ⟨x2.toNat, (Int.toNat_of_nonneg hx3).symm⟩; have hX2n : X2 < n := (by omega); have hX6 := hX5.grown hg6 (by simp; omega); have ho6 := ho5.grownS hg6 (by omega); have k6 := And.intro hX6.one.1 (HCS.out _ _ _ _ ho6); have hR6 := hR5.grown hg6 (by simp; omega); have hG6 := grown_trans hG5 hg6; have hz6 := hg6.size)
        | (go_at_call 57; refine (l01Next_ok b n _ (hs3.below (below_drewN (Below.refl _ _) 1)) ⟨by omega, by omega⟩).mono ?_; rintro e w5 ⟨x, rfl, _, hx, hs5, hg5'⟩; obtain ⟨hx1, hx2⟩ := hx (by omega); obtain ⟨X1, rfl⟩ : ∃ X : Nat, x = (X : Int) := ⟨x.toNat, (Int.toNat_of_nonneg hx1).symm⟩; have hX1n : X1 < n := (by omega); obtain ⟨gr, hgr⟩ := HGR.out X1 hX1n; have hg5 : w3.grownBy w5 (some b) := grown_trans (grown_of_below (below_drewN (Below.refl _ _) 1) (some b)) hg5'; have hX5 := hX3.grown hg5 (by simp; omega); have ho5 := ho3.grownS hg5 (by omega); have k5 := And.intro hX5.one.1 (HCS.out _ _ _ _ ho5); have hR5 := hR3.grown hg5 (by simp; omega); have hG5 := grown_trans hG3 hg5; have hz5 := hg5.size))
    all_goals
      have hgl : w.heap.size + 1 ≤ gr := hset7.uLo gr (.inr ⟨X1, hX1n, hgr'⟩)
      have hs8 := hs7.setne (p := ⟨gr, X2, none⟩) (by show b < gr; omega) (.int .i64 z)
      have hG8 := grown_set (p := ⟨gr, X2, none⟩) hG7 (.inr (by show w.heap.size ≤ gr; omega)) (.int .i64 z)
      have lR8 := (hR7.setne (a := ⟨gr, X2, none⟩) (by show w.heap.size ≠ gr; omega) (.int .i64 z)).one
      have hW := FIN.out _ _ n c1 _ (by omega) (TbR.own hset7) hs8 hG8
      clear HCS
      go_wp2
    all_goals exact bodyPost_ret (v := rAgg (some ⟨ga, 0, none⟩) n c1) (by simp [results, Tryz.results56, go_sem, lR8]) rfl hW
  have yb1 : (y == 1) = false := by simpa using y1
  by_cases y2 : y = 2
  · subst y2
    by_cases hc1 : c1 = 1
    · subst hc1
      have hcap := ho3.cap
      obtain rfl : n = 1 := by omega
      have hX4 := hX3.set 0 (.slice (some ⟨ga, 0, none⟩) 0 0)
      have lX4 := hX4.one
      have lR4 := (hR3.setne (a := ⟨w1.heap.size, 0, none⟩) (by show w.heap.size ≠ w1.heap.size; omega) (.slice (some ⟨ga, 0, none⟩) 0 0)).one
      have hs4 := hs3.setne (p := ⟨w1.heap.size, 0, none⟩) (by show b < w1.heap.size; omega) (.slice (some ⟨ga, 0, none⟩) 0 0)
      have hG4 := grown_set (p := ⟨w1.heap.size, 0, none⟩) hG3 (.inr (by show w.heap.size ≤ w1.heap.size; omega)) (.slice (some ⟨ga, 0, none⟩) 0 0)
      go_wp2
      exact bodyPost_ret (v := rAgg (some ⟨ga, 0, none⟩) 0 0) (by simp [results, Tryz.results56, go_sem, lR4]) rfl (FIN.out _ _ _ 0 [] (by omega) (TbR.nil _ _ _) hs4 hG4)
    · have hcb : ¬ (c1 : Int) = 1 := by omega
      have hn1' : (1 : Int) ≤ (n : Int) := by omega
      have hcap := ho3.cap
      have ho4 := ho3.asetQ (p := ⟨w1.heap.size, 0, none⟩) (fun q hq => by have := HT1.out q hq; show q ≠ w1.heap.size; omega) (.slice (some ⟨ga, 1, none⟩) (n - 1) (c1 - 1))
      have htl := TbR.tail ho4 hn1
      have hX4 := hX3.set 0 (.slice (some ⟨ga, 1, none⟩) (n - 1) (c1 - 1))
      have lX4 := hX4.one
      have lR4 := (hR3.setne (a := ⟨w1.heap.size, 0, none⟩) (by show w.heap.size ≠ w1.heap.size; omega) (.slice (some ⟨ga, 1, none⟩) (n - 1) (c1 - 1))).one
      have hs4 := hs3.setne (p := ⟨w1.heap.size, 0, none⟩) (by show b < w1.heap.size; omega) (.slice (some ⟨ga, 1, none⟩) (n - 1) (c1 - 1))
      have hG4 := grown_set (p := ⟨w1.heap.size, 0, none⟩) hG3 (.inr (by show w.heap.size ≤ w1.heap.size; omega)) (.slice (some ⟨ga, 1, none⟩) (n - 1) (c1 - 1))
      have hW := FIN.out _ _ (n - 1) (c1 - 1) _ (by omega) htl hs4 hG4
      go_wp2
      exact bodyPost_ret (v := rAgg (some ⟨ga, 1, none⟩) (n - 1) (c1 - 1)) (by simp [results, Tryz.results56, go_sem, lR4]) rfl hW
  have yb2 : (y == 2) = false := by simpa using y2
  have hW := FIN.out w3 _ n c1 t (by omega) (TbR.own ho3) hs3 hG3
  go_wp2
  exact bodyPost_ret (v := rAgg (some ⟨ga, 0, none⟩) n c1) (by simp [results, Tryz.results56, go_sem, lR3]) rfl hW
end Go.Proofs.YtaddclaadbjnlaaGreat

namespace Go.Proofs.YtaddclaadbjnlaaGreat
set_option maxRecDepth 100000
set_option linter.unusedVariables false
set_option linter.unusedSimpArgs false
open Go.RowKit
set_option maxHeartbeats 1000000 in
theorem isQuandle_ok (a : Option Addr) (n c : Nat) (t : List (List Int)) (w : World) (h : Tbl w a n t) (hrk : isRk t = true) :
    Calls Tryz.prog 16 #[rAgg a n c] w fun e w' => e = .returned (.tuple #[.bool (qdI n t), .int .i64 0]) ∧ Below w.heap.size w w' := by
  obtain ⟨h1, h12, hs⟩ := isTab_sq (show isTab t = true by unfold isRk at hrk; rw [Bool.and_eq_true] at hrk; exact hrk.1)
  rw [← h.len] at h1 h12 hs
  have HS := Lib.hid hs; have HR := Lib.hid hrk
  have hA := Loc.new w rfl #[.slice a n c] 34
  have hB := below_al (Below.refl w.heap.size w) (.cells #[.slice a n c] 34)
  clear hs hrk
  go_enter Tryz.func16, Tryz.ntmps16
  go_wp2_with fail
  generalize w.alloc (.cells #[.slice a n c] 34) = w0 at *
  have lA := hA.one
  refine (isRack_any a n c t _ (h.below hB) (by omega)).mono ?_
  rintro e w1 ⟨rfl, hb1⟩
  rw [HR.out]
  have hA1 := hA.below hb1 hA.lt
  have hB1 := below_th hB hb1
  have lA1 := hA1.one
  clear lA
  go_wp2_with fail
  refine (kinkOf_any a n c t _ (h.below hB1) HS.out h1 h12).mono ?_
  rintro e w2 ⟨a2, c2, rfl, ho2, hb2⟩
  have hB2 := below_th hB1 hb2
  go_wp2_with fail
  refine (isIdentity_any a2 n c2 _ _ ho2.row (by omega)).mono ?_
  rintro e w3 ⟨rfl, hb3⟩
  have hB3 := below_th hB2 hb3
  go_wp2
  go_ret2
  exact ⟨rfl, hB3⟩
set_option maxHeartbeats 4000000 in
theorem DrawPlaceOfRack_ok (a : Option Addr) (n c : Nat) (xs : List Int) (w : World) (h : Bts w a n xs) (hn : n ≤ 9223372036854775807) :
    Calls Tryz.prog 17 #[.slice a n c] w fun e w' => ∃ (a' : Option Addr) (n' c' : Nat) (T : List (List Int)), e = .returned (rAgg a' n' c') ∧ n' ≤ 14 ∧ Tbl w' a' n' T ∧ Below w.heap.size w w' := by
  go_enter Tryz.func17, Tryz.ntmps17
  have hP := Loc.new w rfl #[.slice none 0 0] 34
  have hB0 := below_al (Below.refl w.heap.size w) (.cells #[.slice none 0 0] 34)
  go_wp2_with fail
  refine (l01From_ok a n c xs _ (h.below hB0) hn).mono ?_
  rintro e w1 ⟨b, rfl, hb, hs1, hb1⟩
  have hP1 := hP.below hb1 hP.lt
  have hB1 := below_th hB0 hb1
  rw [size_alloc] at hb
  have hz1 := hs1.lt
  clear hP hB0 hb1
  go_wp2_with fail
  refine (l01Next_ok b 6 _ hs1 ⟨by omega, by omega⟩).mono ?_
  rintro e w2 ⟨x, rfl, _, hx, hs2, hg2⟩
  obtain ⟨hx1, hx2⟩ := hx (by omega)
  obtain ⟨X, rfl⟩ : ∃ X : Nat, x = X := ⟨x.toNat, by omega⟩
  obtain ⟨D, hD⟩ : ∃ D, X / 4 = D := ⟨_, rfl⟩
  have hDb : D ≤ 1 := by omega
  have e1 : Int.tdiv (X : Int) 4 = (D : Int) := by rw [← hD]; rfl
  have wD : IntKind.i64.wrap (D : Int) = (D : Int) := IntWalk.i64_in _ (by omega)
  have w4 : IntKind.i64.wrap (4 + (D : Int)) = 4 + (D : Int) := IntWalk.i64_in _ (by omega)
  have hP2 := hP1.grown hg2 (by simp; omega)
  have hB2 := below_grown hB1 hg2 (by omega)
  clear hx hD
  go_wp2_with fail
  refine (l01Next_ok b 16 _ hs2 ⟨by omega, by omega⟩).mono ?_
  rintro e w3 ⟨y, rfl, _, hy, hs3, hg3⟩
  obtain ⟨hy1, hy2⟩ := hy (by omega)
  obtain ⟨Y, rfl⟩ : ∃ Y : Nat, y = Y := ⟨y.toNat, by omega⟩
  obtain ⟨E, hE⟩ : ∃ E, Y / 15 = E := ⟨_, rfl⟩
  have hEb : E ≤ 1 := by omega
  have e2 : Int.tdiv (Y : Int) 15 = (E : Int) := by rw [← hE]; rfl
  have wE : IntKind.i64.wrap (E : Int) = (E : Int) := IntWalk.i64_in _ (by omega)
  obtain ⟨M, hM⟩ : ∃ M : Nat, 4 + D + E = M := ⟨_, rfl⟩
  have hMb : 1 ≤ M ∧ M ≤ 7 := by omega
  have wM : IntKind.i64.wrap (4 + (D : Int) + (E : Int)) = (M : Int) := by rw [show 4 + (D : Int) + (E : Int) = (M : Int) by omega]; exact IntWalk.i64_in _ (by omega)
  have hP3 := hP2.grown hg3 (by simp; omega)
  have hB3 := below_grown hB2 hg3 (by omega)
  clear hy hE hM
  go_wp2_with fail
  refine (l03DrawAny_ok M b _ hs3 hMb.1 hMb.2).mono ?_
  rintro e w5 ⟨a5, n5, c5, T, rfl, hn5, hT5, hs5, hg5⟩
  have hP5 := hP3.grown hg5 (by simp; omega)
  have hB5 := below_grown hB3 hg5 (by omega)
  have lP5 := hP5.one
  have hz := hg2.size
  have hz' := hg3.size
  go_wp2
  refine bodyPost_ret (v := rAgg a5 n5 c5) (by simp [results, Tryz.results17, go_sem, lP5]) rfl ⟨a5, n5, c5, T, rfl, hn5, ?_, ?_⟩
  · exact (hT5.setlo (by show w.heap.size < w3.heap.size; omega) _).1
  · exact below_setne hB5 (Nat.le_refl _) _
end Go.Proofs.YtaddclaadbjnlaaGreat
