/-
  Walks and plain laws of this seat, some texts in one.
  No condition but bounds on lengths.
-/
import Derived.Test.YtaddclaadbjnlaaGreatPr28
import Derived.Test.YtaddclaadbjnlaaGreatPr12
import Derived.Shelf.Abstract
import Derived.Test.YtaddclaadbjnlaaGreatPr8
import Derived.Test.YtaddclaadbjnlaaGreatPr24
import Derived.Test.YtaddclaadbjnlaaGreatPr3
import Derived.Test.YtaddclaadbjnlaaGreatPr25
import Derived.Test.YtaddclaadbjnlaaGreatPr1
namespace Go.Proofs.YtaddclaadbjnlaaGreat
set_option maxRecDepth 100000
set_option linter.unusedVariables false
set_option linter.unusedSimpArgs false
open Go.RowKit
attribute [local go_sem] Oper.semAt_some
theorem TB.one {S0 : Nat → Prop} {w1 W : World} {g n c : Nat} {t : List (List Int)} {A O C : Nat → Nat} {b off : Nat} (hG : Grid w1 b off A O C n t) (hs : Sq n t) (hL : Loc W g #[.slice (some ⟨b, off, none⟩) n c] 32) (hB : Below w1.heap.size w1 W) (hg : ¬ S0 g) (hS : ∀ q, S0 q → w1.heap.size ≤ q) :
    TB S0 W g 1 n (fun _ => b) (fun _ => off) (fun _ => c) (fun _ => A) (fun _ => O) (fun _ => C) [t] := by
  refine ⟨rfl, fun w' hm k hk => ?_, fun w' hm k hk => ?_, fun k hk => ?_⟩
  · obtain rfl : k = 0 := by omega
    have : Loc w' g #[.slice (some ⟨b, off, none⟩) n c] 32 := (hm.block g hL.lt hg).trans hL
    exact this.one.1
  · obtain rfl : k = 0 := by omega
    exact hG.below (hB.trans (hm.lowb hS hB.size))
  · obtain rfl : k = 0 := by omega
    exact hs
theorem wrap_one (a : Int) : wrap64 (wrap64 a + 1) = wrap64 (a + 1) := by unfold wrap64; omega
set_option maxHeartbeats 16000000 in
theorem CountRackAutomorphisms_ok (N : Nat) (at_ : Option Addr) (ct : Nat) (t : List (List Int)) (w : World) (hN : N ≤ 7) (hT : Tbl w at_ N t) (hrk : isRk t = true) :
    Calls Tryz.prog 11 #[rAgg at_ N ct] w fun e w' => ∃ Y, YA N [t] [t] Y ∧ e = .returned (.tuple #[.int .i64 (wrap64 (Y.length : Int)), .int .i64 0]) ∧ Below w.heap.size w w' := by
  obtain ⟨h1, _, hs⟩ := isTab_sq (show isTab t = true by unfold isRk at hrk; rw [Bool.and_eq_true] at hrk; exact hrk.1)
  rw [← hT.len] at h1 hs
  have HS := Lib.hid hs; have HR := Lib.hid hrk
  clear hs hrk
  obtain ⟨wa, hwa⟩ : ∃ wa, w.alloc (.cells #[.slice at_ N ct] 34) = wa := ⟨_, rfl⟩
  have hza : wa.heap.size = w.heap.size + 1 := by rw [← hwa]; simp
  have hBa : Below w.heap.size w wa := by rw [← hwa]; exact below_al (Below.refl _ _) _
  have hLa : Loc wa w.heap.size #[.slice at_ N ct] 34 := by rw [← hwa]; exact Loc.new w rfl _ _
  have lLa := hLa.one
  have hTa := hT.below hBa
  have i7 : decide ((7 : Int) < (N : Int)) = false := by simp; omega
  refine (callsIn_wide (n := 3)).1 ?_
  refine callsIn_of_wp_marks Tryz.func11 rfl trivial ?_ rfl
  simp only [Tryz.ntmps11, List.size_toArray, List.length_cons, List.length_nil, Nat.reduceAdd, Nat.reduceSub, Array.replicate_succ, Array.replicate_zero, List.push_toArray, List.append_toArray, List.nil_append, List.cons_append]
  gi_wp2_with (refine ⟨trivial, ?_⟩; gi_at_call 14; refine (callsIn_wide.2 (isRack_any at_ N ct t _ hTa (by omega))).mono ?_; rintro e w1 ⟨rfl, hb1⟩; rw [HR.out]; have hL1 := hLa.below hb1 hLa.lt; have lL1 := hL1.one; have hLc := hL1.alloc (.cells #[.int .i64 0] 2); have lLc := hLc.one; have hLd := hLc.alloc (.cells #[.slice at_ N ct] 32); have lLd := hLd.one)
  have hB1 := below_th hBa hb1
  have hT1 := hTa.below hb1
  have hz1 := hb1.size
  gi_wp2_with (refine ⟨trivial, ?_⟩; gi_at_call 47; refine (callsIn_wide.2 (isomorphisms_any _ _ 1 1 1 1 _)).mono ?_; rintro e w5 ⟨rfl, hb1', hb2', hb5⟩)
  gi_wp2
  obtain ⟨b, off, A, O, C, rfl, G1⟩ := hT1.grid HS.out h1
  obtain ⟨W0, hW0⟩ : ∃ W0, w5 = W0 := ⟨_, rfl⟩
  obtain ⟨w4, hw4⟩ : ∃ w4, ((w1.alloc (.cells #[.int .i64 0] 2)).alloc (.cells #[.slice (some ⟨b, off, none⟩) N ct] 32)).alloc (.cells #[.slice (some ⟨b, off, none⟩) N ct] 32) = w4 := ⟨_, rfl⟩
  have hz4 : w4.heap.size = w1.heap.size + 1 + 1 + 1 := by rw [← hw4]; simp
  have b4 : Below w1.heap.size w1 w4 := by rw [← hw4]; exact below_al (below_al (below_al (Below.refl _ _) _) _) _
  have Lc4 : Loc w4 w1.heap.size #[.int .i64 0] 2 := by rw [← hw4]; exact ((Loc.new w1 rfl _ _).alloc _).alloc _
  have Lf4 : Loc w4 (w1.heap.size + 1) #[.slice (some ⟨b, off, none⟩) N ct] 32 := by rw [← hw4]; exact (Loc.new _ (by simp) _ _).alloc _
  have Lt4 : Loc w4 (w1.heap.size + 1 + 1) #[.slice (some ⟨b, off, none⟩) N ct] 32 := by rw [← hw4]; exact Loc.new _ (by simp) _ _
  rw [hw4] at hb5
  rw [show World.heap (((w1.alloc (.cells #[.int .i64 0] 2)).alloc (.cells #[.slice (some ⟨b, off, none⟩) N ct] 32)).alloc (.cells #[.slice (some ⟨b, off, none⟩) N ct] 32)) = w4.heap by rw [hw4]] at hb1' hb2'
  rw [hz4] at hb1' hb2'
  have b5 : Below w1.heap.size w1 w5 := b4.trans (hb5.mono b4.size)
  have Lc5 := Lc4.below hb5 Lc4.lt
  have Lf5 := Lf4.below hb5 Lf4.lt
  have Lt5 := Lt4.below hb5 Lt4.lt
  have hz5 : w1.heap.size + 1 + 1 + 1 ≤ w5.heap.size := by have := hb5.size; omega
  have hBw5 : Below w.heap.size w w5 := hB1.trans (b5.mono hB1.size)
  have hw1s : w.heap.size ≤ w1.heap.size := hB1.size
  obtain ⟨S0, hS0⟩ : ∃ S0 : Nat → Prop, S0 = fun g => g = w1.heap.size := ⟨_, rfl⟩
  have s1 : ∀ q, S0 q → w1.heap.size ≤ q := fun q h => by rw [hS0] at h; omega
  have s2 : ¬ S0 (w1.heap.size + 1) := fun h => by rw [hS0] at h; omega
  have s3 : ¬ S0 (w1.heap.size + 1 + 1) := fun h => by rw [hS0] at h; omega
  have s4 : ∀ q, S0 q → q < w5.heap.size := fun q h => by rw [hS0] at h; omega
  have s5 : S0 w1.heap.size := by rw [hS0]
  have tb1 := TB.one (S0 := S0) G1 HS.out Lf5 b5 s2 s1
  have tb2 := TB.one (S0 := S0) G1 HS.out Lt5 b5 s3 s1
  clear hS0 hw4
  refine wpIn_rangeFunc_iso (n := N) (w1.heap.size + 1 + 1 + 1) (w1.heap.size + 1 + 1 + 1 + 1) rfl (enters_of Tryz.func94 (by kernel_rfl) rfl) (K := 1) (kf := 1) (kt := 1) _ _ _ _ _ _ _ _ _ _ _ _ tb1 tb2 h1 (by omega) (by omega) (by omega) s4 hb1' hb2' rfl
    (fun S ys W => Loc W w1.heap.size #[.int .i64 (wrap64 (ys.length : Int))] 2 ∧ Below w.heap.size w W ∧ (∀ g, S g → w5.heap.size ≤ g) ∧ w5.heap.size ≤ W.heap.size) (fun _ _ _ => False) ?abide ?abide2 ?start
    (fun bb => { tmps := #[rAgg (some ⟨b, off, none⟩) N ct, .pointer (some ⟨w.heap.size, 0, none⟩), .int .i64 0, .int .i64 0, .pointer (some ⟨w1.heap.size, 0, none⟩), .agg #[.slice (some ⟨b, off, none⟩) N ct], .bool true, .bool false, .pointer (some ⟨w.heap.size, 0, none⟩), .slice (some ⟨b, off, none⟩) N ct, .int .i64 N, .bool false,
      .pointer (some ⟨w.heap.size, 0, none⟩), .slice (some ⟨b, off, none⟩) N ct, .slice (some ⟨w1.heap.size + 1, 0, none⟩) 1 1, .pointer (some ⟨w.heap.size, 0, none⟩), .slice (some ⟨b, off, none⟩) N ct, .slice (some ⟨w1.heap.size + 1 + 1, 0, none⟩) 1 1,
      .func (.func 94) #[] #[.pointer (some ⟨w1.heap.size + 1 + 1 + 1, 0, none⟩), .pointer (some ⟨w1.heap.size + 1 + 1 + 1 + 1, 0, none⟩)], .slice (some ⟨bb, 0, none⟩) N N, undef, undef, undef], defers := [] })
    ?assign ?body ?done ?stop
  case abide =>
    rintro S S' ys A B ⟨q1, q2, q3, q4⟩ hm hS'
    have hz := hm.size
    refine ⟨(hm.block _ q1.lt (fun e => ?_)).trans q1, Marked.below q2 hm q2.size (fun k e => ?_), fun g hg => ?_, by omega⟩
    · rcases e with e | e
      · have := q3 _ e; omega
      · omega
    · rcases e with e | e
      · have := q3 _ e; omega
      · omega
    · rcases hS' g hg with e | e
      · exact q3 g e
      · omega
  case abide2 =>
    rintro S S' ys A B q
    exact q.elim
  case start =>
    intro S A hS hB
    exact ⟨(by rw [show wrap64 (((([] : List (List Int)).length : Nat)) : Int) = 0 from by unfold wrap64; simp]; exact Lc5.below hB Lc5.lt), hBw5.trans (hB.mono (by omega)), fun g hg => by have := (hS g hg).1; omega, hB.size⟩
  case assign =>
    intro l n' bb W K' hK
    gi_wp2
    simpa using hK
  case body =>
    rintro l n' bb S ys im W ⟨q1, q2, q3, q4⟩ hiso hSb hown hSS hmW
    have lc := q1.one
    have HWO := Lib.hid (wrap_one (ys.length : Int))
    have hL2 := q1.set 0 (.int .i64 (wrap64 (wrap64 (ys.length : Int) + 1)))
    have hB2 : Below w.heap.size w (W.setCell ⟨w1.heap.size, 0, none⟩ (.int .i64 (wrap64 (wrap64 (ys.length : Int) + 1)))) := below_setne q2 (by show w.heap.size ≤ w1.heap.size; omega) _
    have hmk : Marked (fun g => S0 g ∨ (w5.heap.size + 2 ≤ g ∧ ¬ S g)) W (W.setCell ⟨w1.heap.size, 0, none⟩ (.int .i64 (wrap64 (wrap64 (ys.length : Int) + 1)))) := mk_set (Marked.refl _ _) (.inl s5) _
    have hlen : (((ys ++ [im]).length : Nat) : Int) = (ys.length : Int) + 1 := by simp
    have HX : Hid (_ ∧ _ ∧ _) := Lib.hid (And.intro hL2 (And.intro hB2 hmk))
    have HLN := Lib.hid hlen
    clear hL2 hB2 hmk hlen q1 q2
    gi_wp2
    refine ⟨⟨?_, HX.out.2.1, q3, by rw [size_set]; omega⟩, HX.out.2.2⟩
    rw [HLN.out, ← HWO.out]; exact HX.out.1
  case done =>
    rintro S Y W hY ⟨q1, q2, q3, q4⟩ hd
    have lc := q1.one
    gi_wp2
    refine ⟨by simp, .inl ⟨_, _, rfl, run_takeDeferred hd, ?_⟩⟩
    refine ⟨_, results_tmp2 rfl _ _ _, Y, hY, rfl, ?_⟩
    exact q2.grown (grownBy_putObj' _ _ _) q2.size (fun j e => by cases e; omega)
  case stop =>
    rintro S Z W q
    exact q.elim
end Go.Proofs.YtaddclaadbjnlaaGreat

namespace Go.Proofs.YtaddclaadbjnlaaGreat
set_option maxRecDepth 100000
set_option linter.unusedVariables false
set_option linter.unusedSimpArgs false
open Go.RowKit
attribute [local go_sem] Oper.semAt_some
def RisP (N : Nat) (t u : List (List Int)) (w : World) (e : Ending) (w' : World) : Prop :=
  ((∃ (a : Option Addr) (c : Nat) (p : List Int), IsoL N [t] [u] p ∧ e = .returned (.tuple #[.slice a N c, .int .i64 0]) ∧ Own w' w.heap.size a N c p) ∨ ((∀ p, ¬ IsoL N [t] [u] p) ∧ e = .returned (.tuple #[.slice none 0 0, .int .i64 4]))) ∧ Below w.heap.size w w'
set_option maxHeartbeats 16000000 in
theorem RackIsomorphism_ok (N : Nat) (at_ au : Option Addr) (ct cu : Nat) (t u : List (List Int)) (w : World) (hN : N ≤ 7) (hT : Tbl w at_ N t) (hU : Tbl w au N u) (hrk : isRk t = true) (hru : isRk u = true) :
    Calls Tryz.prog 19 #[rAgg at_ N ct, rAgg au N cu] w (RisP N t u w) := by
  obtain ⟨h1, _, hs⟩ := isTab_sq (show isTab t = true by unfold isRk at hrk; rw [Bool.and_eq_true] at hrk; exact hrk.1)
  obtain ⟨_, _, hs2⟩ := isTab_sq (show isTab u = true by unfold isRk at hru; rw [Bool.and_eq_true] at hru; exact hru.1)
  rw [← hT.len] at h1 hs
  rw [← hU.len] at hs2
  have HS := Lib.hid hs; have HS2 := Lib.hid hs2; have HR := Lib.hid hrk; have HR2 := Lib.hid hru
  clear hs hs2 hrk hru
  obtain ⟨wa, hwa⟩ : ∃ wa, (((w.alloc (.cells #[.slice at_ N ct] 34)).alloc (.cells #[.slice au N cu] 34)).alloc (.cells #[.slice none 0 0] 41)).alloc (.cells #[.int .i64 0] 2) = wa := ⟨_, rfl⟩
  have hza : wa.heap.size = w.heap.size + 4 := by rw [← hwa]; simp
  have hBa : Below w.heap.size w wa := by rw [← hwa]; exact below_al (below_al (below_al (below_al (Below.refl _ _) _) _) _) _
  have hLr : Loc wa w.heap.size #[.slice at_ N ct] 34 := by rw [← hwa]; exact (((Loc.new w rfl _ _).alloc _).alloc _).alloc _
  have hLs : Loc wa (w.heap.size + 1) #[.slice au N cu] 34 := by rw [← hwa]; exact ((Loc.new _ (by simp) _ _).alloc _).alloc _
  have hL4 : Loc wa (w.heap.size + 2) #[.slice none 0 0] 41 := by rw [← hwa]; exact (Loc.new _ (by simp) _ _).alloc _
  have hL5 : Loc wa (w.heap.size + 3) #[.int .i64 0] 2 := by rw [← hwa]; exact Loc.new _ (by simp) _ _
  have lr := hLr.one
  have ls := hLs.one
  have hTa := hT.below hBa
  have hUa := hU.below hBa
  have HWA := Lib.hid hwa
  clear hwa
  refine (callsIn_wide (n := 3)).1 ?_
  refine callsIn_of_wp_marks Tryz.func19 rfl trivial ?_ rfl
  simp only [Tryz.ntmps19, List.size_toArray, List.length_cons, List.length_nil, Nat.reduceAdd, Nat.reduceSub, Array.replicate_succ, Array.replicate_zero, List.push_toArray, List.append_toArray, List.nil_append, List.cons_append]
  refine wpIn_wide.2 ?_
  go_upto_region 1 with fail
  try rw [HWA.out]
  go_wp2_with fail
  refine (isRack_any at_ N ct t _ hTa (by omega)).mono ?_
  rintro e w0 ⟨rfl, hb0⟩
  rw [HR.out]
  have hLr0 := hLr.below hb0 hLr.lt
  have hLs0 := hLs.below hb0 hLs.lt
  have lr0 := hLr0.one
  have ls0 := hLs0.one
  have hU0 := hUa.below hb0
  have hBb0 := below_th hBa hb0
  go_wp2_with fail
  refine (isRack_any au N cu u _ hU0 (by omega)).mono ?_
  rintro e w1 ⟨rfl, hb1⟩
  rw [HR2.out]
  have hB1 := below_th hBb0 hb1
  have hLr1 := hLr0.below hb1 hLr0.lt
  have hLs1 := hLs0.below hb1 hLs0.lt
  have lr1 := hLr1.one
  have ls1 := hLs1.one
  have h41 := (hL4.below hb0 hL4.lt).below hb1 (by have := hb0.size; omega)
  have h51 := (hL5.below hb0 hL5.lt).below hb1 (by have := hb0.size; omega)
  have hT1 := (hTa.below hb0).below hb1
  have hU1 := hU0.below hb1
  have hz1 : w.heap.size + 4 ≤ w1.heap.size := by have := hb0.size; have := hb1.size; omega
  have lsx := (hLs1.alloc (.cells #[.slice at_ N ct] 32)).one
  clear lr ls lr0 ls0
  go_wp2_with fail
  refine (isomorphisms_any _ _ 1 1 1 1 _).mono ?_
  rintro e w5 ⟨rfl, hb1', hb2', hb5⟩
  go_wp2
  obtain ⟨b, off, A, O, C, rfl, G1⟩ := hT.grid HS.out h1
  obtain ⟨b2, off2, A2, O2, C2, rfl, G2⟩ := hU.grid HS2.out h1
  obtain ⟨w4, hw4⟩ : ∃ w4, (w1.alloc (.cells #[.slice (some ⟨b, off, none⟩) N ct] 32)).alloc (.cells #[.slice (some ⟨b2, off2, none⟩) N cu] 32) = w4 := ⟨_, rfl⟩
  have hz4 : w4.heap.size = w1.heap.size + 1 + 1 := by rw [← hw4]; simp
  have b4 : Below w1.heap.size w1 w4 := by rw [← hw4]; exact below_al (below_al (Below.refl _ _) _) _
  have Lf4 : Loc w4 w1.heap.size #[.slice (some ⟨b, off, none⟩) N ct] 32 := by rw [← hw4]; exact (Loc.new _ rfl _ _).alloc _
  have Lt4 : Loc w4 (w1.heap.size + 1) #[.slice (some ⟨b2, off2, none⟩) N cu] 32 := by rw [← hw4]; exact Loc.new _ (by simp) _ _
  rw [hw4] at hb5
  rw [show World.heap ((w1.alloc (.cells #[.slice (some ⟨b, off, none⟩) N ct] 32)).alloc (.cells #[.slice (some ⟨b2, off2, none⟩) N cu] 32)) = w4.heap by rw [hw4]] at hb1' hb2'
  rw [hz4] at hb1' hb2'
  have b5 : Below w1.heap.size w1 w5 := b4.trans (hb5.mono b4.size)
  have Lf5 := Lf4.below hb5 Lf4.lt
  have Lt5 := Lt4.below hb5 Lt4.lt
  have hz5 : w1.heap.size + 1 + 1 ≤ w5.heap.size := by have := hb5.size; omega
  have hBw5 : Below w.heap.size w w5 := hB1.trans (b5.mono hB1.size)
  have r4 : Loc w5 (w.heap.size + 1 + 1) #[.slice none 0 0] 41 := h41.below b5 h41.lt
  have r5 : Loc w5 (w.heap.size + 1 + 1 + 1) #[.int .i64 0] 2 := h51.below b5 h51.lt
  obtain ⟨S0, hS0⟩ : ∃ S0 : Nat → Prop, S0 = fun g => g = w.heap.size + 1 + 1 ∨ g = w.heap.size + 1 + 1 + 1 := ⟨_, rfl⟩
  have s1 : ∀ q, S0 q → w.heap.size ≤ q := fun q h => by rw [hS0] at h; omega
  have s2 : ¬ S0 w1.heap.size := fun h => by rw [hS0] at h; omega
  have s3 : ¬ S0 (w1.heap.size + 1) := fun h => by rw [hS0] at h; omega
  have s4 : ∀ q, S0 q → q < w5.heap.size := fun q h => by rw [hS0] at h; omega
  have s5 : S0 (w.heap.size + 1 + 1) := by rw [hS0]; exact .inl rfl
  have s6 : S0 (w.heap.size + 1 + 1 + 1) := by rw [hS0]; exact .inr rfl
  have tb1 := TB.one (S0 := S0) G1 HS.out Lf5 hBw5 s2 s1
  have tb2 := TB.one (S0 := S0) G2 HS2.out Lt5 hBw5 s3 s1
  clear hS0 hw4 HWA hLr hLs hL4 hL5 hTa hUa hLr0 hLs0 hU0 hBb0 hLr1 hLs1 lr1 ls1 lsx h41 h51 hT1 hU1 G1 G2 Lf4 Lt4 b4 hb5 hb0 hb1
  refine (wpIn_wide (n := 3)).1 ?_
  refine wpIn_rangeFunc_iso (n := N) (w1.heap.size + 1 + 1) (w1.heap.size + 1 + 1 + 1) rfl (enters_of Tryz.func94 (by kernel_rfl) rfl) (K := 1) (kf := 1) (kt := 1) _ _ _ _ _ _ _ _ _ _ _ _ tb1 tb2 h1 (by omega) (by omega) (by omega) s4 hb1' hb2' rfl
    (fun S ys W => ys = [] ∧ Loc W (w.heap.size + 1 + 1) #[.slice none 0 0] 41 ∧ Loc W (w.heap.size + 1 + 1 + 1) #[.int .i64 0] 2 ∧ Below w.heap.size w W ∧ (∀ g, S g → w5.heap.size ≤ g) ∧ w5.heap.size ≤ W.heap.size)
    (fun S Z W => ∃ (a : Option Addr) (c : Nat) (p : List Int), IsoL N [t] [u] p ∧ Loc W (w.heap.size + 1 + 1) #[.slice a N c] 41 ∧ Loc W (w.heap.size + 1 + 1 + 1) #[.int .i64 0] 2 ∧ Own W w5.heap.size a N c p ∧ (∀ g, a = some ⟨g, 0, none⟩ → ¬ S g ∧ w5.heap.size + 2 ≤ g) ∧ Below w.heap.size w W ∧ (∀ g, S g → w5.heap.size ≤ g) ∧ w5.heap.size ≤ W.heap.size) ?abide ?abide2 ?start
    (fun bb => { tmps := #[rAgg (some ⟨b, off, none⟩) N ct, rAgg (some ⟨b2, off2, none⟩) N cu, .pointer (some ⟨w.heap.size, 0, none⟩), .pointer (some ⟨w.heap.size + 1, 0, none⟩), .pointer (some ⟨w.heap.size + 1 + 1, 0, none⟩), .pointer (some ⟨w.heap.size + 1 + 1 + 1, 0, none⟩), .slice (some ⟨bb, 0, none⟩) N N, .agg #[.slice (some ⟨b, off, none⟩) N ct], .bool true, .bool false, .bool false, .agg #[.slice (some ⟨b2, off2, none⟩) N cu], .bool true, .bool false, .bool false, .pointer (some ⟨w.heap.size, 0, none⟩),
      .slice (some ⟨b, off, none⟩) N ct, .slice (some ⟨w1.heap.size, 0, none⟩) 1 1, .pointer (some ⟨w.heap.size + 1, 0, none⟩), .slice (some ⟨b2, off2, none⟩) N cu, .slice (some ⟨w1.heap.size + 1, 0, none⟩) 1 1,
      .func (.func 94) #[] #[.pointer (some ⟨w1.heap.size + 1 + 1, 0, none⟩), .pointer (some ⟨w1.heap.size + 1 + 1 + 1, 0, none⟩)], .slice (some ⟨bb, 0, none⟩) N N, undef, undef], defers := [] })
    ?assign ?body ?done ?stop
  case abide =>
    rintro S S' ys A B ⟨q0, q1, q1', q2, q3, q4⟩ hm hS'
    have hz := hm.size
    have hge : ∀ k, (S k ∨ k = w5.heap.size + 1) → w5.heap.size ≤ k := fun k e => by
      rcases e with e | e
      · exact q3 _ e
      · omega
    refine ⟨q0, (hm.block _ q1.lt (fun e => by have := hge _ e; omega)).trans q1, (hm.block _ q1'.lt (fun e => by have := hge _ e; omega)).trans q1', Marked.below q2 hm q2.size (fun k e => by have := hge _ e; omega), fun g hg => ?_, by omega⟩
    rcases hS' g hg with e | e
    · exact q3 g e
    · omega
  case abide2 =>
    rintro S S' ys A B ⟨a, c, p, hp, q1, q1', qo, qa, q2, q3, q4⟩ hm hS'
    have hz := hm.size
    have hge : ∀ k, (S k ∨ k = w5.heap.size + 1) → w5.heap.size ≤ k := fun k e => by
      rcases e with e | e
      · exact q3 _ e
      · omega
    refine ⟨a, c, p, hp, (hm.block _ q1.lt (fun e => by have := hge _ e; omega)).trans q1, (hm.block _ q1'.lt (fun e => by have := hge _ e; omega)).trans q1', qo.keep (fun g hg hl => hm.block g hl (fun e => ?_)), fun g hg => ⟨fun e => ?_, (qa g hg).2⟩, Marked.below q2 hm q2.size (fun k e => by have := hge _ e; omega), fun g hg => ?_, by omega⟩
    · have := qa g hg
      rcases e with e | e
      · exact this.1 e
      · omega
    · rcases hS' g e with e | e
      · exact (qa g hg).1 e
      · have := qo.hi g hg; omega
    · rcases hS' g hg with e | e
      · exact q3 g e
      · omega
  case start =>
    intro S A hS hB
    exact ⟨rfl, r4.below hB r4.lt, r5.below hB r5.lt, hBw5.trans (hB.mono (by omega)), fun g hg => by have := (hS g hg).1; omega, hB.size⟩
  case assign =>
    intro l n' bb W K' hK
    gi_wp2
    simpa using hK
  case body =>
    rintro l n' bb S ys im W ⟨q0, q1, q1', q2, q3, q4⟩ hiso hSb hown hSS hmW
    have HI := Lib.hid hiso
    have hlen := hiso.1
    have HLN := Lib.hid hlen
    have hwz : w5.heap.size + 2 ≤ W.heap.size := by have := hSS bb hSb; omega
    clear hlen
    gi_wp2
    refine ⟨trivial, (fun h => by cases h), ?_⟩
    refine (CallsIn.inRound l (callsIn_wide.2 (clone_any _ N N im W hown.row (by omega)))).mono ?_
    rintro e w6 ⟨a6, c6, rfl, ho6, hb6⟩
    have h4 := q1.below hb6 q1.lt
    have l4 := h4.one
    have h5 := (q1'.below hb6 q1'.lt)
    have h5x := h5.setne (a := ⟨w.heap.size + 1 + 1, 0, none⟩) (by show w.heap.size + 1 + 1 + 1 ≠ w.heap.size + 1 + 1; omega) (.slice a6 N c6)
    have l5 := h5x.one
    dsimp only
    gi_wp2
    have hz6 := hb6.size
    have hmk : Marked (fun g => S0 g ∨ (w5.heap.size + 2 ≤ g ∧ ¬ S g)) W ((w6.setCell ⟨w.heap.size + 1 + 1, 0, none⟩ (.slice a6 N c6)).setCell ⟨w.heap.size + 1 + 1 + 1, 0, none⟩ (.int .i64 0)) := mk_set (mk_set (Marked.ofB hb6) (.inl s5) _) (.inl s6) _
    refine ⟨⟨a6, c6, im, HI.out, (h4.set 0 (.slice a6 N c6)).setne (by show w.heap.size + 1 + 1 ≠ w.heap.size + 1 + 1 + 1; omega) _, h5x.set 0 _, ?_, fun g hg => ⟨fun e => ?_, ?_⟩, below_setne (below_setne (q2.trans (hb6.mono q2.size)) (by show w.heap.size ≤ w.heap.size + 1 + 1; omega) _) (by show w.heap.size ≤ w.heap.size + 1 + 1 + 1; omega) _, q3, by rw [size_set, size_set]; omega⟩, hmk⟩
    · exact ((ho6.setlo (by show w.heap.size + 1 + 1 < W.heap.size; omega) _).setlo (by show w.heap.size + 1 + 1 + 1 < W.heap.size; omega) _).mono (by omega)
    · have := (hSS g e).2; have := ho6.lo g hg; omega
    · have := ho6.lo g hg; omega
  case done =>
    rintro S Y W hY ⟨q0, q1, q1', q2, q3, q4⟩ hd
    subst q0
    have HNO : Hid (∀ p, ¬ IsoL N [t] [u] p) := Lib.hid fun p hp => by have := (hY.2 p).2 hp; cases this
    have l4 := q1.one
    have hx5 := q1'.setne (a := ⟨w.heap.size + 1 + 1, 0, none⟩) (by show w.heap.size + 1 + 1 + 1 ≠ w.heap.size + 1 + 1; omega) (.slice none 0 0)
    have l5 := hx5.one
    clear hY
    gi_wp2
    go_wp2
    have hz : w1.heap.size ≤ w5.heap.size := by omega
    have hdF : ((W.setCell ⟨w.heap.size + 1 + 1, 0, none⟩ (.slice none 0 0)).setCell ⟨w.heap.size + 1 + 1 + 1, 0, none⟩ (.int .i64 4)).heap[w5.heap.size]? = some (.deferred (some [])) := ((Below.heap_setCell _ _ _ _ (by show w5.heap.size ≠ w.heap.size + 1 + 1 + 1; omega)).trans (Below.heap_setCell _ _ _ _ (by show w5.heap.size ≠ w.heap.size + 1 + 1; omega))).trans hd
    have hx4 := (q1.set 0 (.slice none 0 0)).setne (a := ⟨w.heap.size + 1 + 1 + 1, 0, none⟩) (by show w.heap.size + 1 + 1 ≠ w.heap.size + 1 + 1 + 1; omega) (.int .i64 4)
    have hx6 := hx5.set 0 (.int .i64 4)
    have hBF := below_setne (a := ⟨w.heap.size + 1 + 1 + 1, 0, none⟩) (below_setne (a := ⟨w.heap.size + 1 + 1, 0, none⟩) q2 (by show w.heap.size ≤ w.heap.size + 1 + 1; omega) (.slice none 0 0)) (by show w.heap.size ≤ w.heap.size + 1 + 1 + 1; omega) (.int .i64 4)
    refine ⟨by simp, .inl ⟨_, _, rfl, run_takeDeferred hdF, ?_⟩⟩
    generalize (W.setCell ⟨w.heap.size + 1 + 1, 0, none⟩ (.slice none 0 0)).setCell ⟨w.heap.size + 1 + 1 + 1, 0, none⟩ (.int .i64 4) = V at *
    have hP4 : Loc (V.putObj w5.heap.size (Obj.deferred none)) (w.heap.size + 1 + 1) _ _ := (World.putObj_heap_other (by omega)).trans hx4
    have hP5 : Loc (V.putObj w5.heap.size (Obj.deferred none)) (w.heap.size + 1 + 1 + 1) _ _ := (World.putObj_heap_other (by omega)).trans hx6
    have p4 := hP4.one
    have p5 := hP5.one
    refine ⟨.tuple #[.slice none 0 0, .int .i64 4], by simp [results, Tryz.results19, go_sem, p4, p5], .inr ⟨HNO.out, rfl⟩, ?_⟩
    exact hBF.grown (grownBy_putObj' _ _ _) hBF.size (fun j e => by cases e; omega)
  case stop =>
    rintro S Z W ⟨a, c, p, hp, q1, q1', qo, qa, q2, q3, q4⟩ hd
    gi_wp2
    have hz : w1.heap.size ≤ w5.heap.size := by omega
    refine ⟨by simp, .inl ⟨_, _, rfl, run_takeDeferred hd, ?_⟩⟩
    have hP4 : Loc (W.putObj w5.heap.size (Obj.deferred none)) (w.heap.size + 1 + 1) _ _ := (World.putObj_heap_other (by omega)).trans q1
    have hP5 : Loc (W.putObj w5.heap.size (Obj.deferred none)) (w.heap.size + 1 + 1 + 1) _ _ := (World.putObj_heap_other (by omega)).trans q1'
    have p4 := hP4.one
    have p5 := hP5.one
    refine ⟨.tuple #[.slice a N c, .int .i64 0], by simp [results, Tryz.results19, go_sem, p4, p5], .inl ⟨a, c, p, hp, rfl, ?_⟩, ?_⟩
    · exact (qo.keep (fun g hg hl => World.putObj_heap_other (by have := (qa g hg).2; omega))).mono (by omega)
    · exact q2.grown (grownBy_putObj' _ _ _) q2.size (fun j e => by cases e; omega)
end Go.Proofs.YtaddclaadbjnlaaGreat

namespace Go.Proofs.YtaddclaadbjnlaaGreat
set_option maxRecDepth 100000
set_option linter.unusedVariables false
set_option linter.unusedSimpArgs false
open Go.RowKit
set_option maxHeartbeats 2000000 in
theorem DrawAllRacks_ok (a : Option Addr) (n c : Nat) (xs : List Int) (w : World) (h : Bts w a n xs) (hn : n ≤ 9223372036854775807) :
    Calls Tryz.prog 6 #[.slice a n c] w fun e w' => ∃ q, e = .returned (.int .i64 q) ∧ q ∈ ([1, 2, 3, 4, 0, 5] : List Int) ∧ Below w.heap.size w w' := by
  go_enter Tryz.func6, Tryz.ntmps6
  go_wp2_with fail
  refine (l01From_ok a n c xs _ h hn).mono ?_
  rintro e w1 ⟨b, rfl, hb, hs, hb1⟩
  have hlt := hs.lt
  go_wp2_with fail
  refine (l01Pick_ok b _ _ _ [1, 2, 3, 4, 0, 5] _ (hs.below (below_al (Below.refl _ _) _)) (row_lit w1 _ _ _ rfl) (by decide) (by decide) (fun g o e => by cases e; omega)).mono ?_
  rintro e w3 ⟨q, rfl, hq, hs3, hg3⟩
  go_wp2
  go_ret
  exact ⟨_, rfl, hq, (below_al hb1 _).grown hg3 (below_al hb1 _).size (fun k hk => by cases hk; exact hb)⟩
end Go.Proofs.YtaddclaadbjnlaaGreat

namespace Go.Proofs.YtaddclaadbjnlaaGreat
set_option maxRecDepth 100000
set_option linter.unusedVariables false
set_option linter.unusedSimpArgs false
open Go.RowKit
set_option maxHeartbeats 400000 in
theorem likeInts_any (a1 a2 : Option Addr) (n1 n2 c1 c2 : Nat) (xs ys : List Int) (w : World) (h1 : Row w a1 n1 xs) (h2 : Row w a2 n2 ys) (hm : n1 ≤ 9223372036854775807) :
    Calls Tryz.prog 52 #[.slice a1 n1 c1, .slice a2 n2 c2] w fun e w' => e = .returned (.bool (decide (xs = ys))) ∧ ∃ n, w' = w.drewN n := by
  have hl1 := h1.len
  have hl2 := h2.len
  by_cases hl : n1 = n2
  · subst hl
    have HL := Lib.hid hl1; have HL2 := Lib.hid hl2; clear hl1 hl2
    have hb : ((n1 : Int) != (n1 : Int)) = false := by simp
    go_enter Tryz.func52, Tryz.ntmps52
    go_wp2
    clear hb
    go_loopw [5] (fun i wr => ∃ k : Nat, k ≤ n1 ∧ i = .int .i64 k ∧ xs.take k = ys.take k ∧ ∃ n, wr = w.drewN n) (fun i _ => n1 - (intOf i).toNat)
    case atStart => exact ⟨0, Nat.zero_le _, rfl, by simp, 0, rfl⟩
    case round =>
      obtain ⟨k, hk, rfl, ht, n, rfl⟩ := hrel
      have HT := Lib.hid ht; clear ht
      by_cases hlt : k < n1
      · obtain ⟨b1, o1, rfl, g1⟩ := h1.at k hlt
        obtain ⟨b2, o2, rfl, g2⟩ := h2.at k hlt
        have hx : k < xs.length := by have := HL.out; omega
        have hy : k < ys.length := by have := HL2.out; omega
        clear h1 h2
        go_wp2
        go_quiet (fail)
        go_wp2
        · go_ret
          refine ⟨ret_bool ?_, n + nq, by rw [World.drewN_drewN]⟩
          rename_i hne
          simp only [Bool.false_eq, decide_eq_false_iff_not]
          rintro rfl
          simp at hne
        · go_roundw
          case rel =>
            rename_i hne
            refine ⟨k + 1, by omega, by go_num, take_eq_succ hx hy HT.out (by simpa using hne), n + nq, rfl⟩
          case measure => simp [intOf]; omega
      · obtain rfl : k = n1 := by omega
        go_wp2
        go_ret
        refine ⟨ret_bool ?_, _, rfl⟩
        have := HT.out
        rw [List.take_of_length_le (by have := HL.out; omega), List.take_of_length_le (by have := HL2.out; omega)] at this
        simp [this]
  · have hb : ((n1 : Int) != (n2 : Int)) = true := by simp; omega
    have hne : ¬ xs = ys := by rintro rfl; omega
    clear hl1 hl2
    go_enter Tryz.func52, Tryz.ntmps52
    go_wp2
    go_ret
    exact ⟨ret_bool (by simp [hne]), 0, rfl⟩
set_option maxHeartbeats 1000000 in
theorem same9_any (a1 a2 : Option Addr) (n1 n2 c1 c2 : Nat) (xs ys : List (List Int)) (w : World) (h1 : Tbl w a1 n1 xs) (h2 : Tbl w a2 n2 ys) (hm : n1 ≤ 9223372036854775807) :
    Calls Tryz.prog 13 #[.slice a1 n1 c1, .slice a2 n2 c2] w fun e w' => e = .returned (.bool (decide (xs = ys))) ∧ ∃ n, w' = w.drewN n := by
  have hl1 := h1.len
  have hl2 := h2.len
  by_cases hl : n1 = n2
  · subst hl
    have HL := Lib.hid hl1; have HL2 := Lib.hid hl2; clear hl1 hl2
    have hb : ((n1 : Int) != (n1 : Int)) = false := by simp
    go_enter Tryz.func13, Tryz.ntmps13
    go_wp2
    clear hb
    go_loopw [5] (fun i wr => ∃ k : Nat, k ≤ n1 ∧ i = .int .i64 k ∧ Hid (xs.take k = ys.take k) ∧ Hid (∃ n, wr = w.drewN n)) (fun i _ => n1 - (intOf i).toNat)
    case atStart => exact ⟨0, Nat.zero_le _, rfl, by simp [Hid], ⟨0, rfl⟩⟩
    case round =>
      obtain ⟨k, hk, rfl, HT, HW⟩ := hrel
      obtain ⟨m, hm'⟩ := HW.out
      have h1' : Tbl wr a1 n1 xs := by rw [hm']; exact h1.drewN m
      have h2' : Tbl wr a2 n1 ys := by rw [hm']; exact h2.drewN m
      clear hm'
      by_cases hlt : k < n1
      · obtain ⟨b1, o1, a1', m1, c1', rfl, g1, r1, lm1⟩ := h1'.at k hlt
        obtain ⟨b2, o2, a2', m2, c2', rfl, g2, r2, lm2⟩ := h2'.at k hlt
        have hx : k < xs.length := by have := HL.out; omega
        have hy : k < ys.length := by have := HL2.out; omega
        rw [Tbl.getD hx] at r1
        rw [Tbl.getD hy] at r2
        clear h1' h2' h1 h2
        by_cases he : xs[k] = ys[k]
        · have hq : ∀ q, Calls Tryz.prog 52 #[.slice a1' m1 c1', .slice a2' m2 c2'] (wr.drewN q) fun e w' => e = .returned (.bool true) ∧ ∃ m, w' = (wr.drewN q).drewN m := fun q =>
            (likeInts_any _ _ _ _ _ _ _ _ _ (r1.drewN q) (r2.drewN q) lm1).mono fun e w' ⟨h, h'⟩ => ⟨h.trans (ret_bool (by simpa using he)), h'⟩
          have HQ := Lib.hid hq; have HE := Lib.hid he; clear hq he
          go_wp2
          go_quiet ((go_at_call 52; exact Calls.quiet_of (HQ.out _)))
          go_wp2
          go_roundw
          case rel =>
            refine ⟨k + 1, by omega, by go_num, ?_, ?_⟩
            · show xs.take (k + 1) = ys.take (k + 1)
              rw [List.take_succ_eq_append_getElem hx, List.take_succ_eq_append_getElem hy, HT.out, HE.out]
            · obtain ⟨m, hm⟩ := HW.out
              exact ⟨m + nq, by rw [hm, World.drewN_drewN]⟩
          case measure => simp [intOf]; omega
        · have hq : ∀ q, Calls Tryz.prog 52 #[.slice a1' m1 c1', .slice a2' m2 c2'] (wr.drewN q) fun e w' => e = .returned (.bool false) ∧ ∃ m, w' = (wr.drewN q).drewN m := fun q =>
            (likeInts_any _ _ _ _ _ _ _ _ _ (r1.drewN q) (r2.drewN q) lm1).mono fun e w' ⟨h, h'⟩ => ⟨h.trans (ret_bool (by simpa using he)), h'⟩
          have hne : ¬ xs = ys := by rintro rfl; exact he rfl
          have HQ := Lib.hid hq; have HE := Lib.hid hne; clear hq he hne
          go_wp2
          go_quiet ((go_at_call 52; exact Calls.quiet_of (HQ.out _)))
          go_wp2
          go_ret
          obtain ⟨m, hm⟩ := HW.out
          exact ⟨ret_bool (by simp [HE.out]), m + nq, by rw [hm, World.drewN_drewN]⟩
      · obtain rfl : k = n1 := by omega
        clear h1' h2' h1 h2
        go_wp2
        go_ret
        refine ⟨ret_bool ?_, HW.out⟩
        have := HT.out
        rw [List.take_of_length_le (by have := HL.out; omega), List.take_of_length_le (by have := HL2.out; omega)] at this
        simp [this]
  · have hb : ((n1 : Int) != (n2 : Int)) = true := by simp; omega
    have hne : ¬ xs = ys := by rintro rfl; omega
    clear hl1 hl2
    go_enter Tryz.func13, Tryz.ntmps13
    go_wp2
    go_ret
    exact ⟨ret_bool (by simp [hne]), 0, rfl⟩
theorem same9_same (a1 a2 : Option Addr) (n1 n2 c1 c2 : Nat) (xs : List (List Int)) (w : World) (h1 : Tbl w a1 n1 xs) (h2 : Tbl w a2 n2 xs) (hm : n1 ≤ 9223372036854775807) :
    Calls Tryz.prog 13 #[.slice a1 n1 c1, .slice a2 n2 c2] w fun e w' => e = .returned (.bool true) ∧ Below w.heap.size w w' :=
  (same9_any a1 a2 n1 n2 c1 c2 xs xs w h1 h2 hm).mono fun e w' ⟨he, m, hw⟩ => ⟨he.trans (ret_bool (by simp)), by rw [hw]; exact below_drewN (Below.refl _ _) m⟩
theorem big_any (a : Option Addr) (n c : Nat) (w : World) (hm : n ≤ 9223372036854775807) :
    Calls Tryz.prog 5 #[.slice a n c] w fun e w' => e = .returned (.bool (decide (4096 < n))) ∧ w = w' := by
  go_enter Tryz.func5, Tryz.ntmps5
  go_wp2
  go_ret
  refine ⟨ret_bool (by rw [Bool.eq_iff_iff]; simp; try omega), rfl⟩
end Go.Proofs.YtaddclaadbjnlaaGreat
