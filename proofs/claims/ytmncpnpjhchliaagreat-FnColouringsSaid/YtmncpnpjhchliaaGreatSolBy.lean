/-
  What solutionBy computes, at any function value that writes nothing that is there.
  No condition but bounds on lengths.
-/
import Derived.Test.YtmncpnpjhchliaaGreatBase
namespace Go.Proofs.YtmncpnpjhchliaaGreat
set_option maxRecDepth 100000
set_option linter.unusedVariables false
set_option linter.unusedSimpArgs false
open Go.RowKit

/-- the function value f with what it holds, at some numbers, hands back the two numbers v1 and v2 -/
def PairAt (f : FuncId) (caps : Array Value) (v1 v2 : Nat → Nat → Int) (n : Nat) (w : World) : Prop :=
  ∀ x y, x < n → y < n → ∀ w1, Below w.heap.size w w1 → Calls Tryz.prog f (#[.int .i64 x, .int .i64 y] ++ caps) w1 fun e w' => e = .returned (.tuple #[.int .i64 (v1 x y), .int .i64 (v2 x y)]) ∧ Below w1.heap.size w1 w'
theorem PairAt.below {f : FuncId} {caps : Array Value} {v1 v2 : Nat → Nat → Int} {n : Nat} {w w' : World} (h : PairAt f caps v1 v2 n w) (hb : Below w.heap.size w w') : PairAt f caps v1 v2 n w' :=
  fun x y hx hy w1 h1 => h x y hx hy w1 (below_th hb h1)

set_option maxHeartbeats 400000 in
theorem solutionBy1_any (f : FuncId) (caps : Array Value) (v1 v2 : Nat → Nat → Int) (n b : Nat) (t : TypeId) (x y : Nat) (w : World) (hL : Loc w b #[.func (.func f) #[] caps] t) (hcf : Ent f) (hf : PairAt f caps v1 v2 n w) (hx : x < n) (hy : y < n) :
    Calls Tryz.prog 137 #[.int .i64 x, .int .i64 y, .pointer (some ⟨b, 0, none⟩)] w fun e w' => e = .returned (.int .i64 (v1 x y)) ∧ Below w.heap.size w w' := by
  have hcf' : ∀ (args : Array Value) (w : World), (callFunc f args).run Tryz.prog w = .ok (.enter f args) w := hcf
  have HF := Lib.hid (hf x y hx hy w (Below.refl _ _))
  have lL := hL.one
  clear hf
  go_enter Tryz.func137, Tryz.ntmps137
  go_wp2_with fail
  refine HF.out.mono ?_
  rintro e w1 ⟨rfl, hb⟩
  go_wp2
  go_ret
  exact ⟨rfl, hb⟩
set_option maxHeartbeats 400000 in
theorem solutionBy2_any (f : FuncId) (caps : Array Value) (v1 v2 : Nat → Nat → Int) (n b : Nat) (t : TypeId) (x y : Nat) (w : World) (hL : Loc w b #[.func (.func f) #[] caps] t) (hcf : Ent f) (hf : PairAt f caps v1 v2 n w) (hx : x < n) (hy : y < n) :
    Calls Tryz.prog 138 #[.int .i64 x, .int .i64 y, .pointer (some ⟨b, 0, none⟩)] w fun e w' => e = .returned (.int .i64 (v2 x y)) ∧ Below w.heap.size w w' := by
  have hcf' : ∀ (args : Array Value) (w : World), (callFunc f args).run Tryz.prog w = .ok (.enter f args) w := hcf
  have HF := Lib.hid (hf x y hx hy w (Below.refl _ _))
  have lL := hL.one
  clear hf
  go_enter Tryz.func138, Tryz.ntmps138
  go_wp2_with fail
  refine HF.out.mono ?_
  rintro e w1 ⟨rfl, hb⟩
  go_wp2
  go_ret
  exact ⟨rfl, hb⟩
theorem ent_sb1 : Ent 137 := fun _ _ => rfl
theorem ent_sb2 : Ent 138 := fun _ _ => rfl

set_option maxHeartbeats 2000000 in
theorem solutionBy_any (f : FuncId) (caps : Array Value) (v1 v2 : Nat → Nat → Int) (n : Nat) (w : World) (hn : n ≤ 1000000) (hcf : Ent f) (hf : PairAt f caps v1 v2 n w) :
    Calls Tryz.prog 95 #[.int .i64 n, .func (.func f) #[] caps] w fun e w' => ∃ a c vs a' c' vs', e = .returned (sAgg a n c a' n c') ∧ OwnS w' w.heap.size a n c vs (tabF n v1) a' n c' vs' (tabF n v2) ∧ Below w.heap.size w w' := by
  have hA := (Loc.new w rfl #[.func (.func f) #[] caps] 122).alloc (.cells #[.slice none 0 0, .slice none 0 0] 26)
  have hR := Loc.new (w.alloc (.cells #[.func (.func f) #[] caps] 122)) rfl #[.slice none 0 0, .slice none 0 0] 26
  rw [size_alloc] at hR
  have hB := below_al (below_al (Below.refl w.heap.size w) (.cells #[.func (.func f) #[] caps] 122)) (.cells #[.slice none 0 0, .slice none 0 0] 26)
  have HF := Lib.hid hf; clear hf
  go_enter Tryz.func95, Tryz.ntmps95
  go_wp2_with fail
  generalize (w.alloc (.cells #[.func (.func f) #[] caps] 122)).alloc (.cells #[.slice none 0 0, .slice none 0 0] 26) = w0 at *
  have hc1 : Hid (∀ x y, x < n → y < n → ∀ w1, Below w0.heap.size w0 w1 → Calls Tryz.prog 137 (#[.int .i64 x, .int .i64 y] ++ #[.pointer (some ⟨w.heap.size, 0, none⟩)]) w1 fun e w' => e = .returned (.int .i64 (v1 x y)) ∧ Below w1.heap.size w1 w') := Lib.hid fun x y hx hy w1 hb1 =>
    solutionBy1_any f caps v1 v2 n _ _ x y w1 (hA.below hb1 hA.lt) hcf (HF.out.below (below_th hB hb1)) hx hy
  refine (tableBy_any _ _ v1 n _ hn ent_sb1 hc1.out).mono ?_
  rintro e w1 ⟨a, c, vs, rfl, ho1, hb1⟩
  have hB1 := below_th hB hb1
  have hA1 := hA.below hb1 hA.lt
  have hR1 := hR.below hb1 hR.lt
  have hc2 : Hid (∀ x y, x < n → y < n → ∀ w2, Below w1.heap.size w1 w2 → Calls Tryz.prog 138 (#[.int .i64 x, .int .i64 y] ++ #[.pointer (some ⟨w.heap.size, 0, none⟩)]) w2 fun e w' => e = .returned (.int .i64 (v2 x y)) ∧ Below w2.heap.size w2 w') := Lib.hid fun x y hx hy w2 hb2 =>
    solutionBy2_any f caps v1 v2 n _ _ x y w2 (hA1.below hb2 hA1.lt) hcf (HF.out.below (below_th hB1 hb2)) hx hy
  go_wp2_with fail
  refine (tableBy_any _ _ v2 n _ hn ent_sb2 hc2.out).mono ?_
  rintro e w2 ⟨a', c', vs', rfl, ho2, hb2⟩
  have hB2 := below_th hB1 hb2
  have hR2 := hR1.below hb2 hR1.lt
  have hz : w.heap.size + 1 < w0.heap.size := hR.lt
  have hz1 := hb1.size
  have ho1' := ho1.below hb2
  have lR := hR2.two
  have hap : ∀ g, TblS a n vs g → ¬ TblS a' n vs' g := fun g h1 h2 => by have e1 := ho1.uHi g h1; have e2 := ho2.uLo g h2; omega
  go_wp2
  refine bodyPost_ret (v := sAgg a n c a' n c') (by simp [results, Tryz.results95, go_sem, lR]) rfl ⟨a, c, vs, a', c', vs', rfl, ⟨?_, ?_, hap⟩, ?_⟩
  · exact ((ho1'.setlo (by show w.heap.size + 1 < w0.heap.size; omega) _).setlo (by show w.heap.size + 1 < w0.heap.size; omega) _).mono (by have := hB.size; omega)
  · exact ((ho2.setlo (by show w.heap.size + 1 < w1.heap.size; omega) _).setlo (by show w.heap.size + 1 < w1.heap.size; omega) _).mono (by have := hB1.size; omega)
  · exact below_setne (below_setne hB2 (by show w.heap.size ≤ w.heap.size + 1; omega) _) (by show w.heap.size ≤ w.heap.size + 1; omega) _

end Go.Proofs.YtmncpnpjhchliaaGreat
