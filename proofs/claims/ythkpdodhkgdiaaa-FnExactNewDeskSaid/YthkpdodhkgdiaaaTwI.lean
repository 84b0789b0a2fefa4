/-
  The twist of two permutations, racks by values, and the new desk: what the program's functions compute.
  No condition but bounds on lengths.
-/
import Derived.Test.YthkpdodhkgdiaaaSolBy
import Derived.Test.YthkpdodhkgdiaaaPerm
import Derived.Test.YthkpdodhkgdiaaaUDS
namespace Go.Proofs.Ythkpdodhkgdiaaa
set_option maxRecDepth 100000
set_option linter.unusedVariables false
set_option linter.unusedSimpArgs false
open Go.RowKit

set_option maxHeartbeats 400000 in
theorem twist1_any (b1 b2 : Nat) (t1 t2 : TypeId) (a : Option Addr) (n c : Nat) (p : List Int) (a' : Option Addr) (c' : Nat) (q : List Int) (x y : Nat) (w : World) (hL1 : Loc w b1 #[.slice a n c] t1) (hL2 : Loc w b2 #[.slice a' n c'] t2) (hp : Row w a n p) (hq : Row w a' n q) (hx : x < n) (hy : y < n) :
    Calls Try.prog 187 #[.int .i64 x, .int .i64 y, .pointer (some ⟨b1, 0, none⟩), .pointer (some ⟨b2, 0, none⟩)] w fun e w' => e = .returned (.tuple #[.int .i64 (p.getD y 0), .int .i64 (q.getD x 0)]) ∧ Below w.heap.size w w' := by
  have l1 := hL1.one
  have l2 := hL2.one
  obtain ⟨bp, op, rfl, g1⟩ := hp.at y hy
  obtain ⟨bq, oq, rfl, g2⟩ := hq.at x hx
  have i1 : (0 : Int) ≤ (x : Int) := by omega
  have i2 : (x : Int) < (n : Int) := by omega
  have i3 : (0 : Int) ≤ (y : Int) := by omega
  have i4 : (y : Int) < (n : Int) := by omega
  clear hp hq
  generalize p.getD y 0 = P at *
  generalize q.getD x 0 = Q at *
  go_enter Try.func187, Try.ntmps187
  go_wp2
  go_quiet (fail)
  go_wp2
  go_ret2
  exact ⟨rfl, below_drewN (Below.refl _ _) _⟩
theorem ent_tw1 : Ent 187 := fun _ _ => rfl

set_option maxHeartbeats 1000000 in
theorem twist_any (a : Option Addr) (n c : Nat) (p : List Int) (a' : Option Addr) (c' : Nat) (q : List Int) (w : World) (hp : Row w a n p) (hq : Row w a' n q) (hn : n ≤ 1000) :
    Calls Try.prog 139 #[.slice a n c, .slice a' n c'] w fun e w' => ∃ a1 c1 vs a1' c1' vs', e = .returned (sAgg a1 n c1 a1' n c1') ∧ OwnS w' w.heap.size a1 n c1 vs (tabF n fun _ y => p.getD y 0) a1' n c1' vs' (tabF n fun x _ => q.getD x 0) ∧ Below w.heap.size w w' := by
  have hA := ((Loc.new w rfl #[.slice a n c] 22).alloc (.cells #[.slice a' n c'] 22)).alloc (.cells #[.slice none 0 0, .slice none 0 0] 35)
  have hC := (Loc.new (w.alloc (.cells #[.slice a n c] 22)) rfl #[.slice a' n c'] 22).alloc (.cells #[.slice none 0 0, .slice none 0 0] 35)
  have hR := Loc.new ((w.alloc (.cells #[.slice a n c] 22)).alloc (.cells #[.slice a' n c'] 22)) rfl #[.slice none 0 0, .slice none 0 0] 35
  rw [size_alloc] at hC
  rw [size_alloc, size_alloc] at hR
  have hB := below_al (below_al (below_al (Below.refl w.heap.size w) (.cells #[.slice a n c] 22)) (.cells #[.slice a' n c'] 22)) (.cells #[.slice none 0 0, .slice none 0 0] 35)
  go_enter Try.func139, Try.ntmps139
  have lA := hA.one
  go_wp2_with fail
  generalize ((w.alloc (.cells #[.slice a n c] 22)).alloc (.cells #[.slice a' n c'] 22)).alloc (.cells #[.slice none 0 0, .slice none 0 0] 35) = w0 at *
  have hpr : PairAt 187 #[.pointer (some ⟨w.heap.size, 0, none⟩), .pointer (some ⟨w.heap.size + 1, 0, none⟩)] (fun _ y => p.getD y 0) (fun x _ => q.getD x 0) n w0 := fun x y hx hy w1 hb1 =>
    twist1_any _ _ _ _ _ n _ p _ _ q x y w1 (hA.below hb1 hA.lt) (hC.below hb1 hC.lt) ((hp.below hB).below hb1) ((hq.below hB).below hb1) hx hy
  refine (solutionBy_any _ _ _ _ n _ (by omega) ent_tw1 hpr).mono ?_
  rintro e w1 ⟨a1, c1, vs, a1', c1', vs', rfl, ho, hb1⟩
  have hB1 := below_th hB hb1
  have hR1 := hR.below hb1 hR.lt
  have hz : w.heap.size + 1 + 1 < w0.heap.size := hR.lt
  have lR := hR1.two
  clear lA
  go_wp2
  refine bodyPost_ret (v := sAgg a1 n c1 a1' n c1') (by simp [results, Try.results139, go_sem, lR]) rfl ⟨a1, c1, vs, a1', c1', vs', rfl, ⟨?_, ?_, ho.ap⟩, ?_⟩
  · exact ((ho.f.setlo (by show w.heap.size + 1 + 1 < w0.heap.size; omega) _).setlo (by show w.heap.size + 1 + 1 < w0.heap.size; omega) _).mono (by have := hB.size; omega)
  · exact ((ho.s.setlo (by show w.heap.size + 1 + 1 < w0.heap.size; omega) _).setlo (by show w.heap.size + 1 + 1 < w0.heap.size; omega) _).mono (by have := hB.size; omega)
  · exact below_setne (below_setne hB1 (by show w.heap.size ≤ w.heap.size + 1 + 1; omega) _) (by show w.heap.size ≤ w.heap.size + 1 + 1; omega) _

/-! ### a rack by values -/
set_option maxHeartbeats 400000 in
theorem rackBy1_any (f : FuncId) (caps : Array Value) (V : Nat → Nat → Int) (b : Nat) (t : TypeId) (x y : Nat) (w : World) (hL : Loc w b #[.func (.func f) #[] caps] t) (hcf : Ent f) (hf : Calls Try.prog f (#[.int .i64 x, .int .i64 y] ++ caps) w fun e w' => e = .returned (.int .i64 (V x y)) ∧ Below w.heap.size w w') :
    Calls Try.prog 188 #[.int .i64 x, .int .i64 y, .pointer (some ⟨b, 0, none⟩)] w fun e w' => e = .returned (.int .i64 (V x y)) ∧ Below w.heap.size w w' := by
  have hcf' : ∀ (args : Array Value) (w : World), (callFunc f args).run Try.prog w = .ok (.enter f args) w := hcf
  have HF := Lib.hid hf
  have lL := hL.one
  clear hf
  go_enter Try.func188, Try.ntmps188
  go_wp2_with fail
  refine HF.out.mono ?_
  rintro e w1 ⟨rfl, hb⟩
  go_wp2
  go_ret
  exact ⟨rfl, hb⟩
theorem ent_rb1 : Ent 188 := fun _ _ => rfl

set_option maxHeartbeats 1000000 in
theorem rackBy_any (f : FuncId) (caps : Array Value) (V : Nat → Nat → Int) (n : Nat) (w : World) (hn : n ≤ 1000000) (hcf : Ent f)
    (hf : ∀ x y, x < n → y < n → ∀ w1, Below w.heap.size w w1 → Calls Try.prog f (#[.int .i64 x, .int .i64 y] ++ caps) w1 fun e w' => e = .returned (.int .i64 (V x y)) ∧ Below w1.heap.size w1 w') :
    Calls Try.prog 141 #[.int .i64 n, .func (.func f) #[] caps] w fun e w' => ∃ a c vs, e = .returned (rAgg a n c) ∧ OwnT w' w.heap.size a n c vs (tabF n V) ∧ Below w.heap.size w w' := by
  have hA := (Loc.new w rfl #[.func (.func f) #[] caps] 140).alloc (.cells #[.slice none 0 0] 37)
  have hR := Loc.new (w.alloc (.cells #[.func (.func f) #[] caps] 140)) rfl #[.slice none 0 0] 37
  rw [size_alloc] at hR
  have hB := below_al (below_al (Below.refl w.heap.size w) (.cells #[.func (.func f) #[] caps] 140)) (.cells #[.slice none 0 0] 37)
  have HF := Lib.hid hf; clear hf
  go_enter Try.func141, Try.ntmps141
  go_wp2_with fail
  generalize (w.alloc (.cells #[.func (.func f) #[] caps] 140)).alloc (.cells #[.slice none 0 0] 37) = w0 at *
  have hc1 : Hid (∀ x y, x < n → y < n → ∀ w1, Below w0.heap.size w0 w1 → Calls Try.prog 188 (#[.int .i64 x, .int .i64 y] ++ #[.pointer (some ⟨w.heap.size, 0, none⟩)]) w1 fun e w' => e = .returned (.int .i64 (V x y)) ∧ Below w1.heap.size w1 w') := Lib.hid fun x y hx hy w1 hb1 =>
    rackBy1_any f caps V _ _ x y w1 (hA.below hb1 hA.lt) hcf (HF.out x y hx hy w1 (below_th hB hb1))
  refine (tableBy_any _ _ V n _ hn ent_rb1 hc1.out).mono ?_
  rintro e w1 ⟨a, c, vs, rfl, ho1, hb1⟩
  have hB1 := below_th hB hb1
  have hR1 := hR.below hb1 hR.lt
  have lR := hR1.one
  have hz : w.heap.size + 1 < w0.heap.size := hR.lt
  go_wp2
  refine bodyPost_ret (v := rAgg a n c) (by simp [results, Try.results141, go_sem, lR]) rfl ⟨a, c, vs, rfl, ?_, ?_⟩
  · exact (ho1.setlo (by show w.heap.size + 1 < w0.heap.size; omega) _).mono (by have := hB.size; omega)
  · exact below_setne hB1 (by show w.heap.size ≤ w.heap.size + 1; omega) _

theorem newDesk1_any (x y : Nat) (w : World) : Calls Try.prog 142 (#[.int .i64 x, .int .i64 y] ++ #[]) w fun e w' => e = .returned (.int .i64 y) ∧ Below w.heap.size w w' := by
  show Calls Try.prog 142 #[.int .i64 x, .int .i64 y] w _
  go_enter Try.func142, Try.ntmps142
  go_wp2
  go_ret
  exact ⟨rfl, Below.refl _ _⟩
theorem ent_nd1 : Ent 142 := fun _ _ => rfl
theorem tab_p2 : (tabF 2 fun _ y => (unitL 2).getD y 0) = [[0, 1], [0, 1]] := by decide
theorem tab_q2 : (tabF 2 fun x _ => (unitL 2).getD x 0) = [[0, 0], [1, 1]] := by decide
theorem tab_r2 : (tabF 2 fun _ y => (y : Int)) = [[0, 1], [0, 1]] := by decide

set_option maxHeartbeats 2000000 in
theorem newDesk_any (w : World) : Calls Try.prog 78 #[] w (RetD0 w [[0, 1], [0, 1]] [[0, 0], [1, 1]] [[0, 1], [0, 1]] 2 []) := by
  have hR := Loc.new w rfl #[.slice none 0 0, .slice none 0 0, .slice none 0 0, .int .i64 0, .slice none 0 0] 39
  have hB := below_al (Below.refl w.heap.size w) (.cells #[.slice none 0 0, .slice none 0 0, .slice none 0 0, .int .i64 0, .slice none 0 0] 39)
  go_enter Try.func78, Try.ntmps78
  go_wp2_with fail
  generalize w.alloc (.cells #[.slice none 0 0, .slice none 0 0, .slice none 0 0, .int .i64 0, .slice none 0 0] 39) = w0 at *
  refine (identity_any 2 _ (by omega)).mono ?_
  rintro e w1 ⟨a1, c1, rfl, ho1, hb1⟩
  go_wp2_with fail
  refine (identity_any 2 _ (by omega)).mono ?_
  rintro e w2 ⟨a2, c2, rfl, ho2, hb2⟩
  go_wp2_with fail
  refine (twist_any _ 2 _ (unitL 2) _ _ (unitL 2) _ (ho1.below hb2).row ho2.row (by omega)).mono ?_
  rintro e w3 ⟨a3, c3, vs3, a3', c3', vs3', rfl, ho3, hb3⟩
  rw [tab_p2, tab_q2] at ho3
  go_wp2_with fail
  refine (rackBy_any _ _ (fun _ y => (y : Int)) 2 _ (by omega) ent_nd1 (fun x y _ _ w1 _ => newDesk1_any x y w1)).mono ?_
  rintro e w4 ⟨a4, c4, vs4, rfl, ho4, hb4⟩
  rw [tab_r2] at ho4
  have hB4 := below_th (below_th (below_th (below_th hB hb1) hb2) hb3) hb4
  have hR4 := (((hR.below hb1 hR.lt).below hb2 (hR.below hb1 hR.lt).lt).below hb3 ((hR.below hb1 hR.lt).below hb2 (hR.below hb1 hR.lt).lt).lt).below hb4 (((hR.below hb1 hR.lt).below hb2 (hR.below hb1 hR.lt).lt).below hb3 ((hR.below hb1 hR.lt).below hb2 (hR.below hb1 hR.lt).lt).lt).lt
  have hz : w.heap.size < w0.heap.size := hR.lt
  have s1 := hb1.size; have s2 := hb2.size; have s3 := hb3.size; have s4 := hb4.size
  have ho3' := ho3.below hb4
  have lR := hR4.five
  have hap : ∀ g, SolS a3 2 vs3 a3' 2 vs3' g → ¬ TblS a4 2 vs4 g := fun g h1 h2 => by have e1 := ho3.uHi g h1; have e2 := ho4.uLo g h2; omega
  go_wp2
  refine bodyPost_ret (v := dAgg a3 2 c3 a3' 2 c3' a4 2 c4 2 none 0 0) (by simp [results, Try.results78, go_sem, lR]) rfl ⟨a3, 2, c3, a3', 2, c3', a4, 2, c4, none, 0, 0, vs3, vs3', vs4, rfl, ⟨⟨?_, ?_, Own.nil _ _⟩, hap, (fun g _ h => by cases h), (fun g _ h => by cases h)⟩, ?_⟩
  · refine OwnS.mono (lo := w2.heap.size) ?_ (by omega)
    iterate 5 refine OwnS.setlo ?_ (by show w.heap.size < w2.heap.size; omega) _
    exact ho3'
  · refine OwnT.mono (lo := w3.heap.size) ?_ (by omega)
    iterate 5 refine OwnT.setlo ?_ (by show w.heap.size < w3.heap.size; omega) _
    exact ho4
  · iterate 5 refine below_setne ?_ (by show w.heap.size ≤ w.heap.size; omega) _
    exact hB4

set_option maxHeartbeats 2000000 in
theorem impl_Nd_l (w : World) : Calls Try.prog 23 #[] w (RetD0 w [[0, 1], [0, 1]] [[0, 0], [1, 1]] [[0, 1], [0, 1]] 2 []) := by
  have hR := Loc.new w rfl #[.slice none 0 0, .slice none 0 0, .slice none 0 0, .int .i64 0, .slice none 0 0] 39
  have hB := below_al (Below.refl w.heap.size w) (.cells #[.slice none 0 0, .slice none 0 0, .slice none 0 0, .int .i64 0, .slice none 0 0] 39)
  go_enter Try.func23, Try.ntmps23
  go_wp2_with fail
  generalize w.alloc (.cells #[.slice none 0 0, .slice none 0 0, .slice none 0 0, .int .i64 0, .slice none 0 0] 39) = w0 at *
  refine (newDesk_any _).mono ?_
  rintro e w1 ⟨a, n, c, a', n', c', p, m, d, q, l, k, vs, vs', ps, rfl, ho, hb1⟩
  have hR1 := hR.below hb1 hR.lt
  have hz : w.heap.size < w0.heap.size := hR.lt
  have lR := hR1.five
  go_wp2
  refine bodyPost_ret (v := dAgg a n c a' n' c' p m d 2 q l k) (by simp [results, Try.results23, go_sem, lR]) rfl ⟨a, n, c, a', n', c', p, m, d, q, l, k, vs, vs', ps, rfl, ⟨⟨?_, ?_, ?_⟩, ho.ap1, ho.ap2, ho.ap3⟩, ?_⟩
  · refine OwnS.mono (lo := w0.heap.size) ?_ (by omega)
    iterate 5 refine OwnS.setlo ?_ (by show w.heap.size < w0.heap.size; omega) _
    exact ho.o.s
  · refine OwnT.mono (lo := w0.heap.size) ?_ (by omega)
    iterate 5 refine OwnT.setlo ?_ (by show w.heap.size < w0.heap.size; omega) _
    exact ho.o.r
  · refine Own.mono (lo := w0.heap.size) ?_ (by omega)
    iterate 5 refine Own.setlo ?_ (by show w.heap.size < w0.heap.size; omega) _
    exact ho.o.b
  · iterate 5 refine below_setne ?_ (by show w.heap.size ≤ w.heap.size; omega) _
    exact below_th hB hb1

end Go.Proofs.Ythkpdodhkgdiaaa
