/-
  The walk of the law of AllSolutions: it answers true.
  No condition.
-/
import Derived.Test.YthgafpeblpnolaaAsl
import Derived.Test.YthgafpeblpnolaaBase
namespace Go.Proofs.Ythgafpeblpnolaa
set_option maxRecDepth 100000
set_option linter.unusedVariables false
set_option linter.unusedSimpArgs false
open Go.RowKit

set_option maxHeartbeats 8000000 in
theorem law_Asl (w : World) (x_0 : Int) (h0_0 : I64 x_0) : Calls Try.prog 3 #[.int .i64 x_0] w fun e w' => e = .returned (.bool true) ∧ Below w.heap.size w w' := by
  have hlen := aslF_len x_0
  obtain ⟨L, code, HS, HI, HL⟩ : ∃ (L : List T2) (code : Int), Hid (∀ w' : World, Calls Try.prog 5 #[.int .i64 x_0] w' (RetLSo w' L code)) ∧ Hid (∀ w' : World, Calls Try.prog 6 #[.int .i64 x_0] w' (RetLSo w' L code)) ∧ (L.length ≤ 1000000 ∧ totP L ≤ 1000000000) :=
    ⟨_, _, Lib.hid fun w' => spec_Asl_l x_0 w' h0_0, Lib.hid fun w' => impl_Asl_l x_0 w' h0_0, hlen⟩
  clear hlen
  have hne : (code != code) = false := by simp
  have hm1 : (1 : Int) + totP L ≤ 8000000000000000000 := by omega
  have hlt : ¬ (1 : Int) + totP L < 0 := by omega
  have hnq : ((1 : Int) + totP L != (1 : Int) + totP L) = false := by simp
  go_enter Try.func3, Try.ntmps3
  go_wp2_with fail
  refine (HS.out _).mono ?_
  rintro e w1 ⟨a1, n1, c1, us1, rfl, ho1, hb1⟩
  have HN := Lib.hid ho1.len
  have hn1 : n1 ≤ 1000000000 := by have := HN.out; omega
  have t1 := ho1.sbS
  go_wp2_with fail
  refine (HI.out _).mono ?_
  rintro e w2 ⟨a2, n2, c2, us2, rfl, ho2, hb2⟩
  have HN2 := Lib.hid ho2.len
  have hn2 : n2 ≤ 1000000000 := by have := HN2.out; omega
  have hB2 := below_th hb1 hb2
  have hz1 := hb1.size
  go_wp2_with fail
  refine (eqLSo_any _ _ _ _ _ _ L _ ho2.sbS (t1.below hb2) hn2).mono ?_
  rintro e w3 ⟨rfl, hb3⟩
  have hB3 := below_th hB2 hb3
  have ho3 := ho2.below hb3
  go_wp2_with fail
  refine (markLSo_any _ _ _ _ _ L 1 _ ho3 (by omega) hm1).mono ?_
  rintro e w4 ⟨rfl, ho4, hM4⟩
  have hlo : ∀ g, SSS a2 n2 us2 g → w1.heap.size ≤ g := ho2.uLo
  have hb34 : Below w1.heap.size w3 w4 := Marked.lowb hM4 hlo (by have := hb2.size; have := hb3.size; omega)
  have hB4 : Below w.heap.size w w4 := hB3.trans (hb34.mono hz1)
  have t4 := ((t1.below hb2).below hb3)
  have t14 : SbS w4 a1 n1 L := t1.below ((hb2.trans (hb3.mono hb2.size)).trans hb34)
  go_wp2_with fail
  refine (heldLSo_any _ _ _ L 1 _ ho4.sbS (by omega) hn2 hm1).mono ?_
  rintro e w5 ⟨rfl, hb5⟩
  have hB5 := below_th hB4 hb5
  have ho5 := ho4.below hb5
  go_wp2_with fail
  refine (HI.out _).mono ?_
  rintro e w6 ⟨a6, n6, c6, us6, rfl, ho6, hb6⟩
  have HN6 := Lib.hid ho6.len
  have hn6 : n6 ≤ 1000000000 := by have := HN6.out; omega
  have hB6 := below_th hB5 hb6
  have ho56 := ho5.below hb6
  go_wp2_with fail
  refine (eqLSo_any _ _ _ _ _ _ L _ ho6.sbS ((t14.below hb5).below hb6) hn6).mono ?_
  rintro e w7 ⟨rfl, hb7⟩
  have hB7 := below_th hB6 hb7
  have ho7 := ho56.below hb7
  go_wp2_with fail
  refine (heldLSo_any _ _ _ L 1 _ ho7.sbS (by omega) hn2 hm1).mono ?_
  rintro e w8 ⟨rfl, hb8⟩
  have hB8 := below_th hB7 hb8
  go_wp2
  go_ret
  exact ⟨rfl, hB8⟩
end Go.Proofs.Ythgafpeblpnolaa
