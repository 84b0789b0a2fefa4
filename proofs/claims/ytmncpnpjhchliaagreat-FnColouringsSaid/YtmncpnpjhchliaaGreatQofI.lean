/-
  The program's quandle of a rack, and its solution of a rack.
  No condition but bounds.
-/
import Derived.Test.YtmncpnpjhchliaaGreatQofL
import Derived.Test.YtmncpnpjhchliaaGreatKnkI
import Derived.Test.YtmncpnpjhchliaaGreatBase
import Derived.Test.YtmncpnpjhchliaaGreatRkSolI
import Derived.Test.YtmncpnpjhchliaaGreatBase2
namespace Go.Proofs.YtmncpnpjhchliaaGreat
set_option maxRecDepth 100000
set_option linter.unusedVariables false
set_option linter.unusedSimpArgs false
open Go.RowKit

set_option maxHeartbeats 4000000 in
theorem QuandleOf1_any (n bb br : Nat) (tb tr : TypeId) (ab a : Option Addr) (cb c : Nat) (t : List (List Int)) (w : World) (hB : Loc w bb #[.slice ab n cb] tb) (hR : Loc w br #[.slice a n c] tr)
    (h2 : Row w ab n (backF (knkL n t))) (h3 : Tbl w a n t) (hs : Sq n t) (hn : n ≤ 12) (x y : Nat) (hx : x < n) (hy : y < n) :
    Calls Tryz.prog 54 #[.int .i64 x, .int .i64 y, .pointer (some ⟨bb, 0, none⟩), .pointer (some ⟨br, 0, none⟩)] w fun e w' => e = .returned (.int .i64 ((backF (knkL n t)).getD (tv t x y) 0)) ∧ ∃ m, w' = w.drewN m := by
  obtain ⟨bf, of, A, O, C, rfl, G⟩ := h3.grid hs (by omega)
  have g4 := G.look hx hy
  have hv := hs.lt hx hy
  generalize tv t x y = v at *
  obtain ⟨b3, o3, rfl, g3⟩ := h2.at v hv
  generalize (backF (knkL n t)).getD v 0 = u at *
  have l2 := hB.one
  have l3 := hR.one
  have i1 : (0 : Int) ≤ (x : Int) := by omega
  have i2 : (x : Int) < (n : Int) := by omega
  have i3 : (0 : Int) ≤ (y : Int) := by omega
  have i4 : (y : Int) < (n : Int) := by omega
  have i5 : (0 : Int) ≤ (v : Int) := by omega
  have i6 : (v : Int) < (n : Int) := by omega
  go_enter Tryz.func54, Tryz.ntmps54
  go_wp2
  go_quiet (fail)
  go_wp2
  go_ret
  exact ⟨rfl, _, rfl⟩
theorem ent_qof1 : Ent 54 := fun _ _ => rfl

set_option maxHeartbeats 4000000 in
theorem QuandleOf_ok (n : Nat) (a : Option Addr) (c : Nat) (t : List (List Int)) (w : World) (h1 : Tbl w a n t) (h : isRk t = true) :
    Calls Tryz.prog 16 #[rAgg a n c] w fun e w' => ∃ a1 c1 vs, e = .returned (.tuple #[rAgg a1 n c1, .int .i64 0]) ∧ OwnT w' w.heap.size a1 n c1 vs (quL n t) ∧ Below w.heap.size w w' := by
  obtain ⟨hn1, hn, hs⟩ := isRk_sq h
  have hck := rck_of h
  rw [← h1.len] at hn1 hn hs hck
  have hkp := hck.k_isP
  have HS := Lib.hid hs; have HK := Lib.hid h
  have HM : Hid (∀ x ∈ knkL n t, 0 ≤ x ∧ x < n) := Lib.hid hkp.mem
  clear hs h hck hkp
  have hA := (Loc.new w rfl #[.slice a n c] 46).alloc (.cells #[.slice none 0 0] 46)
  have hR := Loc.new (w.alloc (.cells #[.slice a n c] 46)) rfl #[.slice none 0 0] 46
  rw [size_alloc] at hR
  have hB := below_al (below_al (Below.refl w.heap.size w) (.cells #[.slice a n c] 46)) (.cells #[.slice none 0 0] 46)
  have lA := hA.one
  generalize hw0 : (w.alloc (.cells #[.slice a n c] 46)).alloc (.cells #[.slice none 0 0] 46) = w0 at *
  have hz0 : w.heap.size + 2 = w0.heap.size := by rw [← hw0]; simp
  go_enter Tryz.func16, Tryz.ntmps16
  go_wp2_with fail
  try rw [hw0]
  refine (isRack_any a n c t _ (h1.below hB) (by omega)).mono ?_
  rintro e w1 ⟨rfl, hb1⟩
  rw [HK.out]
  have hz1 := hb1.size
  have hB1 := below_th hB hb1
  have hA1 := hA.below hb1 hA.lt
  have hR1 := hR.below hb1 hR.lt
  have lA1 := hA1.one
  go_wp2_with fail
  refine (kinkOf_any a n c t _ (h1.below hB1) HS.out hn1 hn).mono ?_
  rintro e w2 ⟨a2, c2, rfl, ho2, hb2⟩
  have hz2 := hb2.size
  have hB2 := below_th hB1 hb2
  have hA2 := hA1.below hb2 (by omega)
  have hR2 := hR1.below hb2 (by omega)
  go_wp2_with fail
  refine (inverse_any a2 n c2 (knkL n t) _ ho2.row (by omega) HM.out).mono ?_
  rintro e w5 ⟨a5, c5, rfl, ho5, hb5⟩
  have hz5 := hb5.size
  have hB5 := below_th hB2 hb5
  have hA5 := hA2.below hb5 (by omega)
  have hR5 := hR2.below hb5 (by omega)
  obtain ⟨w6, hw6⟩ : ∃ w6, (w5.alloc (.cells #[.slice none 0 0] 27)).setCell ⟨w5.heap.size, 0, none⟩ (.slice a5 n c5) = w6 := ⟨_, rfl⟩
  have hL6 : Loc w6 w5.heap.size #[.slice a5 n c5] 27 := by rw [← hw6]; exact (Loc.new w5 rfl _ _).set 0 _
  have hb6 : Below w5.heap.size w5 w6 := by rw [← hw6]; exact (below_al (Below.refl _ _) _).setCell (Nat.le_refl _) _
  have hz6 := hb6.size
  have hB6 := below_th hB5 hb6
  have hA6 := hA5.below hb6 (by omega)
  have hR6 := hR5.below hb6 (by omega)
  have lA5 := hA5.one
  have lA6 := hA6.one
  have ho6 := ho5.below hb6
  have hc1 : Hid (∀ x y, x < n → y < n → ∀ w7, Below w6.heap.size w6 w7 → Calls Tryz.prog 54 (#[.int .i64 x, .int .i64 y] ++ #[.pointer (some ⟨w5.heap.size, 0, none⟩), .pointer (some ⟨w.heap.size, 0, none⟩)]) w7 fun e w' => e = .returned (.int .i64 ((backF (knkL n t)).getD (tv t x y) 0)) ∧ Below w7.heap.size w7 w') := Lib.hid fun x y hx hy w7 hb7 =>
    (QuandleOf1_any n _ _ _ _ a5 a c5 c t w7 (hL6.below hb7 hL6.lt) (hA6.below hb7 hA6.lt) (ho6.below hb7).row (h1.below (below_th hB6 hb7)) HS.out hn x y hx hy).mono fun e w' ⟨he, k, hk⟩ => ⟨he, by rw [hk]; exact below_drewN (Below.refl _ _) k⟩
  go_wp2_with fail
  try rw [hw6]
  refine (tableBy_any _ _ (fun x y => (backF (knkL n t)).getD (tv t x y) 0) n _ (by omega) ent_qof1 hc1.out).mono ?_
  rintro e w7 ⟨a1, c1, vs, rfl, ho, hb7⟩
  have hB7 := below_th hB6 hb7
  have hR7 := hR6.below hb7 (by omega)
  have lR := hR7.one
  go_wp2
  refine bodyPost_ret (v := .tuple #[rAgg a1 n c1, .int .i64 0]) (by simp [results, Tryz.results16, go_sem, lR]) rfl ⟨a1, c1, vs, rfl, ?_, ?_⟩
  · exact (ho.setlo (by show w.heap.size + 1 < w6.heap.size; omega) _).mono (by omega)
  · exact below_setne hB7 (by show w.heap.size ≤ w.heap.size + 1; omega) _

set_option maxHeartbeats 4000000 in
theorem RackSolution_ok (n : Nat) (a : Option Addr) (c : Nat) (t : List (List Int)) (w : World) (h1 : Tbl w a n t) (h : isRk t = true) :
    Calls Tryz.prog 17 #[rAgg a n c] w fun e w' => ∃ a1 c1 vs a1' c1' vs', e = .returned (.tuple #[sAgg a1 n c1 a1' n c1', .int .i64 0]) ∧ OwnS w' w.heap.size a1 n c1 vs t a1' n c1' vs' (cstL n) ∧ Below w.heap.size w w' := by
  obtain ⟨hn1, hn, hs⟩ := isRk_sq h
  rw [← h1.len] at hn1 hn hs
  have HS := Lib.hid hs; have HK := Lib.hid h
  clear hs h
  have hA := (Loc.new w rfl #[.slice a n c] 46).alloc (.cells #[.slice none 0 0, .slice none 0 0] 26)
  have hR := Loc.new (w.alloc (.cells #[.slice a n c] 46)) rfl #[.slice none 0 0, .slice none 0 0] 26
  rw [size_alloc] at hR
  have hB := below_al (below_al (Below.refl w.heap.size w) (.cells #[.slice a n c] 46)) (.cells #[.slice none 0 0, .slice none 0 0] 26)
  have lA := hA.one
  generalize hw0 : (w.alloc (.cells #[.slice a n c] 46)).alloc (.cells #[.slice none 0 0, .slice none 0 0] 26) = w0 at *
  have hz0 : w.heap.size + 2 = w0.heap.size := by rw [← hw0]; simp
  go_enter Tryz.func17, Tryz.ntmps17
  go_wp2_with fail
  try rw [hw0]
  refine (isRack_any a n c t _ (h1.below hB) (by omega)).mono ?_
  rintro e w1 ⟨rfl, hb1⟩
  rw [HK.out]
  have hz1 := hb1.size
  have hB1 := below_th hB hb1
  have hA1 := hA.below hb1 hA.lt
  have hR1 := hR.below hb1 hR.lt
  have lA1 := hA1.one
  go_wp2_with fail
  refine (rackSolution_any a n c t _ (h1.below hB1) HS.out hn1 hn).mono ?_
  rintro e w7 ⟨a1, c1, vs, a1', c1', vs', rfl, ho, hb7⟩
  have hB7 := below_th hB1 hb7
  have hR7 := hR1.below hb7 (by omega)
  have lO := hR7.two
  go_wp2
  refine bodyPost_ret (v := .tuple #[sAgg a1 n c1 a1' n c1', .int .i64 0]) (by simp [results, Tryz.results17, go_sem, lO]) rfl ⟨a1, c1, vs, a1', c1', vs', rfl, ⟨?_, ?_, ho.ap⟩, ?_⟩
  · exact ((ho.f.setlo (by show w.heap.size + 1 < w1.heap.size; omega) _).setlo (by show w.heap.size + 1 < w1.heap.size; omega) _).mono (by omega)
  · exact ((ho.s.setlo (by show w.heap.size + 1 < w1.heap.size; omega) _).setlo (by show w.heap.size + 1 < w1.heap.size; omega) _).mono (by omega)
  · exact below_setne (below_setne hB7 (by show w.heap.size ≤ w.heap.size + 1; omega) _) (by show w.heap.size ≤ w.heap.size + 1; omega) _
end Go.Proofs.YtmncpnpjhchliaaGreat
