/-
  The solution of a rack, its kink, and whether a matrix is a quandle weight: what the program's functions compute.
  No condition but bounds on lengths.
-/
import Derived.Test.YtmncpnpjhchliaaGreatBase3
import Derived.Test.YtmncpnpjhchliaaGreatKnkI
import Derived.Test.YtmncpnpjhchliaaGreatSolBy
import Derived.Test.YtmncpnpjhchliaaGreatBase2
import Derived.Test.YtmncpnpjhchliaaGreatBase5
namespace Go.Proofs.YtmncpnpjhchliaaGreat
set_option maxRecDepth 100000
set_option linter.unusedVariables false
set_option linter.unusedSimpArgs false
open Go.RowKit

set_option maxHeartbeats 400000 in
theorem rackSolution1_any (b : Nat) (t : TypeId) (bf of : Nat) (A O C : Nat → Nat) (n c : Nat) (f : List (List Int)) (x y : Nat) (w : World) (hL : Loc w b #[.slice (some ⟨bf, of, none⟩) n c] t) (gf : Grid w bf of A O C n f) (hx : x < n) (hy : y < n) :
    Calls Tryz.prog 96 #[.int .i64 x, .int .i64 y, .pointer (some ⟨b, 0, none⟩)] w fun e w' => e = .returned (.tuple #[.int .i64 ((tv f x y : Nat) : Int), .int .i64 x]) ∧ Below w.heap.size w w' := by
  have lL := hL.one
  obtain ⟨r1, k1⟩ := gf.look hx hy
  have i1 : (0 : Int) ≤ (x : Int) := by omega
  have i2 : (x : Int) < (n : Int) := by omega
  have i3 : (0 : Int) ≤ (y : Int) := by omega
  have i4 : (y : Int) < (n : Int) := by omega
  generalize tv f x y = V at *
  go_enter Tryz.func96, Tryz.ntmps96
  go_wp2
  go_ret2
  exact ⟨rfl, Below.refl _ _⟩
theorem ent_rks1 : Ent 96 := fun _ _ => rfl

set_option maxHeartbeats 1000000 in
theorem rackSolution_any (a : Option Addr) (n c : Nat) (f : List (List Int)) (w : World) (h : Tbl w a n f) (hf : Sq n f) (hn1 : 1 ≤ n) (hn : n ≤ 12) :
    Calls Tryz.prog 55 #[rAgg a n c] w fun e w' => ∃ a1 c1 vs a1' c1' vs', e = .returned (sAgg a1 n c1 a1' n c1') ∧ OwnS w' w.heap.size a1 n c1 vs f a1' n c1' vs' (cstL n) ∧ Below w.heap.size w w' := by
  have hA := (Loc.new w rfl #[.slice a n c] 46).alloc (.cells #[.slice none 0 0, .slice none 0 0] 26)
  have hR := Loc.new (w.alloc (.cells #[.slice a n c] 46)) rfl #[.slice none 0 0, .slice none 0 0] 26
  rw [size_alloc] at hR
  have hB := below_al (below_al (Below.refl w.heap.size w) (.cells #[.slice a n c] 46)) (.cells #[.slice none 0 0, .slice none 0 0] 26)
  have HE := Lib.hid hf.eq_tabF
  obtain ⟨bf, of, A, O, C, rfl, gf⟩ := h.grid hf (by omega)
  clear h hf
  go_enter Tryz.func55, Tryz.ntmps55
  have lA := hA.one
  go_wp2_with fail
  generalize (w.alloc (.cells #[.slice (some ⟨bf, of, none⟩) n c] 46)).alloc (.cells #[.slice none 0 0, .slice none 0 0] 26) = w0 at *
  have hp : PairAt 96 #[.pointer (some ⟨w.heap.size, 0, none⟩)] (fun x y => ((tv f x y : Nat) : Int)) (fun x _ => (x : Int)) n w0 := fun x y hx hy w1 hb1 =>
    rackSolution1_any _ _ bf of A O C n c f x y w1 (hA.below hb1 hA.lt) ((gf.below hB).below hb1) hx hy
  refine (solutionBy_any _ _ _ _ n _ (by omega) ent_rks1 hp).mono ?_
  rintro e w1 ⟨a1, c1, vs, a1', c1', vs', rfl, ho, hb1⟩
  rw [HE.out] at ho
  have hB1 := below_th hB hb1
  have hR1 := hR.below hb1 hR.lt
  have hz : w.heap.size + 1 < w0.heap.size := hR.lt
  have lR := hR1.two
  clear lA
  go_wp2
  refine bodyPost_ret (v := sAgg a1 n c1 a1' n c1') (by simp [results, Tryz.results55, go_sem, lR]) rfl ⟨a1, c1, vs, a1', c1', vs', rfl, ⟨?_, ?_, ho.ap⟩, ?_⟩
  · exact ((ho.f.setlo (by show w.heap.size + 1 < w0.heap.size; omega) _).setlo (by show w.heap.size + 1 < w0.heap.size; omega) _).mono (by have := hB.size; omega)
  · exact ((ho.s.setlo (by show w.heap.size + 1 < w0.heap.size; omega) _).setlo (by show w.heap.size + 1 < w0.heap.size; omega) _).mono (by have := hB.size; omega)
  · exact below_setne (below_setne hB1 (by show w.heap.size ≤ w.heap.size + 1; omega) _) (by show w.heap.size ≤ w.heap.size + 1; omega) _

end Go.Proofs.YtmncpnpjhchliaaGreat
