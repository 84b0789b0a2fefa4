/-
  Desks (a pair map, a rack and a braid in one), as the laws' walks take them.
  No condition but bounds on lengths.
-/
import Derived.Test.YthkpdodhkgdiaaaUS
import Derived.Test.YthkpdodhkgdiaaaUR
import Derived.Test.YthkpdodhkgdiaaaUB
namespace Go.Proofs.Ythkpdodhkgdiaaa
set_option maxRecDepth 100000
set_option linter.unusedVariables false
set_option linter.unusedSimpArgs false
open Go.RowKit

abbrev dAgg (a : Option Addr) (n c : Nat) (a' : Option Addr) (n' c' : Nat) (p : Option Addr) (m d : Nat) (s : Int) (q : Option Addr) (l e : Nat) : Value := .agg #[.slice a n c, .slice a' n' c', .slice p m d, .int .i64 s, .slice q l e]
structure Dsk (w : World) (a : Option Addr) (n : Nat) (xss : List (List Int)) (a' : Option Addr) (n' : Nat) (yss : List (List Int)) (p : Option Addr) (m : Nat) (zss : List (List Int)) (q : Option Addr) (l : Nat) (ws : List Int) : Prop where
  s : Sol w a n xss a' n' yss
  r : Tbl w p m zss
  b : Row w q l ws
theorem Loc.five {w : World} {b : Nat} {x y z u v : Value} {t : TypeId} (h : Loc w b #[x, y, z, u, v] t) : (w.cell? ⟨b, 0, none⟩ = some x ∧ w.cell? ⟨b, 1, none⟩ = some y ∧ w.cell? ⟨b, 2, none⟩ = some z ∧ w.cell? ⟨b, 3, none⟩ = some u ∧ w.cell? ⟨b, 4, none⟩ = some v) ∧ w.frozen? ⟨b, 0, none⟩ = false ∧ w.frozen? ⟨b, 1, none⟩ = false ∧ w.frozen? ⟨b, 2, none⟩ = false ∧ w.frozen? ⟨b, 3, none⟩ = false ∧ w.frozen? ⟨b, 4, none⟩ = false :=
  ⟨⟨h.cell 0 rfl, h.cell 1 rfl, h.cell 2 rfl, h.cell 3 rfl, h.cell 4 rfl⟩, h.free 0, h.free 1, h.free 2, h.free 3, h.free 4⟩
section
variable {w w' : World} {lo : Nat} {s : Int} {a a' p q a1 a1' p1 q1 a2 a2' p2 q2 : Option Addr} {n n' m l c c' d e n1 n1' m1 l1 c1 c1' d1 e1 n2 n2' m2 l2 c2 c2' d2 e2 : Nat} {xss yss zss : List (List Int)} {ws : List Int}
theorem Dsk.below (h : Dsk w a n xss a' n' yss p m zss q l ws) (hb : Below w.heap.size w w') : Dsk w' a n xss a' n' yss p m zss q l ws := ⟨h.s.below hb, h.r.below hb, h.b.below hb⟩
theorem Dsk.alloc (h : Dsk w a n xss a' n' yss p m zss q l ws) (o : Obj) : Dsk (w.alloc o) a n xss a' n' yss p m zss q l ws := ⟨h.s.alloc o, h.r.alloc o, h.b.alloc o⟩
set_option maxHeartbeats 1000000 in
theorem szDesk_ok' {L : Int} (hr : Dsk w a n xss a' n' yss p m zss q l ws) (h0 : (n : Int) + tot xss + n' + tot yss + m + tot zss + l ≤ L) (h1 : L ≤ 1048576) : Calls Try.prog 58 #[dAgg a n c a' n' c' p m d s q l e, .int .i64 L] w fun e w' => e = .returned (.int .i64 (L - n - tot xss - n' - tot yss - m - tot zss - l)) ∧ Below w.heap.size w w' := by
  go_enter Try.func58, Try.ntmps58
  have hA := Loc.new w rfl #[.slice a n c, .slice a' n' c', .slice p m d, .int .i64 s, .slice q l e] 73
  go_wp2_with fail
  refine (szSol_ok' (hr.s.alloc _) (by omega) (by omega)).mono ?_
  rintro e w1 ⟨rfl, hb1⟩
  have lA := (hA.below hb1 hA.lt).five
  have h1 : Dsk w1 a n xss a' n' yss p m zss q l ws := (hr.alloc _).below hb1
  go_wp2_with fail
  refine (szRack_ok' h1.r (by omega) (by omega)).mono ?_
  rintro e w2 ⟨rfl, hb2⟩
  have lA := ((hA.below hb1 hA.lt).below hb2 (hA.below hb1 hA.lt).lt).five
  have h2 := h1.below hb2
  go_wp2_with fail
  refine (szBraid_ok' h2.b (by omega) (by omega)).mono ?_
  rintro e w3 ⟨rfl, hb3⟩
  go_wp2
  go_ret
  exact ⟨rfl, below_th (below_th (below_alth (Below.refl _ _) hb1) hb2) hb3⟩
set_option maxHeartbeats 1000000 in
theorem szDesk_no' {L : Int} (hr : Dsk w a n xss a' n' yss p m zss q l ws) (h0 : L < (n : Int) + tot xss + n' + tot yss + m + tot zss + l) (h1 : L ≤ 1048576) (h2 : 0 ≤ L) (hn : (n ≤ 9223372036854775807 ∧ n' ≤ 9223372036854775807) ∧ m ≤ 9223372036854775807 ∧ l ≤ 9223372036854775807) : Calls Try.prog 58 #[dAgg a n c a' n' c' p m d s q l e, .int .i64 L] w fun e w' => e = .returned (.int .i64 (-1)) ∧ Below w.heap.size w w' := by
  by_cases hk : L < (n : Int) + tot xss + n' + tot yss
  · skip
    go_enter Try.func58, Try.ntmps58
    have hA := Loc.new w rfl #[.slice a n c, .slice a' n' c', .slice p m d, .int .i64 s, .slice q l e] 73
    go_wp2_with fail
    refine (szSol_no' (hr.s.alloc _) hk (by omega) (by omega) hn.1).mono ?_
    rintro e w1 ⟨rfl, hb1⟩
    go_wp2
    go_ret
    exact ⟨rfl, below_alth (Below.refl _ _) hb1⟩
  by_cases hk2 : L < (n : Int) + tot xss + n' + tot yss + m + tot zss
  · skip
    go_enter Try.func58, Try.ntmps58
    have hA := Loc.new w rfl #[.slice a n c, .slice a' n' c', .slice p m d, .int .i64 s, .slice q l e] 73
    go_wp2_with fail
    refine (szSol_ok' (hr.s.alloc _) (by omega) (by omega)).mono ?_
    rintro e w1 ⟨rfl, hb1⟩
    have lA := (hA.below hb1 hA.lt).five
    have h1' : Dsk w1 a n xss a' n' yss p m zss q l ws := (hr.alloc _).below hb1
    go_wp2_with fail
    refine (szRack_no' h1'.r (by omega) (by omega) (by omega) hn.2.1).mono ?_
    rintro e w2 ⟨rfl, hb2⟩
    go_wp2
    go_ret
    exact ⟨rfl, below_th (below_alth (Below.refl _ _) hb1) hb2⟩
  · skip
    go_enter Try.func58, Try.ntmps58
    have hA := Loc.new w rfl #[.slice a n c, .slice a' n' c', .slice p m d, .int .i64 s, .slice q l e] 73
    go_wp2_with fail
    refine (szSol_ok' (hr.s.alloc _) (by omega) (by omega)).mono ?_
    rintro e w1 ⟨rfl, hb1⟩
    have lA := (hA.below hb1 hA.lt).five
    have h1' : Dsk w1 a n xss a' n' yss p m zss q l ws := (hr.alloc _).below hb1
    go_wp2_with fail
    refine (szRack_ok' h1'.r (by omega) (by omega)).mono ?_
    rintro e w2 ⟨rfl, hb2⟩
    have lA := ((hA.below hb1 hA.lt).below hb2 (hA.below hb1 hA.lt).lt).five
    have h2' := h1'.below hb2
    go_wp2_with fail
    refine (szBraid_no' h2'.b (by omega) (by omega) (by omega) hn.2.2).mono ?_
    rintro e w3 ⟨rfl, hb3⟩
    go_wp2
    go_ret
    exact ⟨rfl, below_th (below_th (below_alth (Below.refl _ _) hb1) hb2) hb3⟩
set_option maxHeartbeats 1000000 in
theorem eqDesk_u (h1 : Dsk w a1 n1 xss a1' n1' yss p1 m1 zss q1 l1 ws) (h2 : Dsk w a2 n2 xss a2' n2' yss p2 m2 zss q2 l2 ws) (hn : (n1 ≤ 9223372036854775807 ∧ n1' ≤ 9223372036854775807) ∧ m1 ≤ 9223372036854775807 ∧ l1 ≤ 9223372036854775807) : Calls Try.prog 24 #[dAgg a1 n1 c1 a1' n1' c1' p1 m1 d1 s q1 l1 e1, dAgg a2 n2 c2 a2' n2' c2' p2 m2 d2 s q2 l2 e2] w fun e w' => e = .returned (.bool true) ∧ Below w.heap.size w w' := by
  go_enter Try.func24, Try.ntmps24
  have hA := (Loc.new w rfl #[.slice a1 n1 c1, .slice a1' n1' c1', .slice p1 m1 d1, .int .i64 s, .slice q1 l1 e1] 39).alloc (.cells #[.slice a2 n2 c2, .slice a2' n2' c2', .slice p2 m2 d2, .int .i64 s, .slice q2 l2 e2] 39)
  have hC := Loc.new (w.alloc (.cells #[.slice a1 n1 c1, .slice a1' n1' c1', .slice p1 m1 d1, .int .i64 s, .slice q1 l1 e1] 39)) rfl #[.slice a2 n2 c2, .slice a2' n2' c2', .slice p2 m2 d2, .int .i64 s, .slice q2 l2 e2] 39
  rw [size_alloc] at hC
  have k1 := (h1.alloc (.cells #[.slice a1 n1 c1, .slice a1' n1' c1', .slice p1 m1 d1, .int .i64 s, .slice q1 l1 e1] 39)).alloc (.cells #[.slice a2 n2 c2, .slice a2' n2' c2', .slice p2 m2 d2, .int .i64 s, .slice q2 l2 e2] 39)
  have k2 := (h2.alloc (.cells #[.slice a1 n1 c1, .slice a1' n1' c1', .slice p1 m1 d1, .int .i64 s, .slice q1 l1 e1] 39)).alloc (.cells #[.slice a2 n2 c2, .slice a2' n2' c2', .slice p2 m2 d2, .int .i64 s, .slice q2 l2 e2] 39)
  have hB := below_al (below_al (Below.refl w.heap.size w) (.cells #[.slice a1 n1 c1, .slice a1' n1' c1', .slice p1 m1 d1, .int .i64 s, .slice q1 l1 e1] 39)) (.cells #[.slice a2 n2 c2, .slice a2' n2' c2', .slice p2 m2 d2, .int .i64 s, .slice q2 l2 e2] 39)
  go_wp2_with fail
  generalize (w.alloc (.cells #[.slice a1 n1 c1, .slice a1' n1' c1', .slice p1 m1 d1, .int .i64 s, .slice q1 l1 e1] 39)).alloc (.cells #[.slice a2 n2 c2, .slice a2' n2' c2', .slice p2 m2 d2, .int .i64 s, .slice q2 l2 e2] 39) = w0 at *
  refine (eqSol_u k1.s k2.s hn.1).mono ?_
  rintro e w1 ⟨rfl, hb1⟩
  have hA1 := hA.below hb1 hA.lt
  have hC1 := hC.below hb1 hC.lt
  have k11 := k1.below hb1
  have k21 := k2.below hb1
  have lA := hA1.five
  have lC := hC1.five
  go_wp2_with fail
  refine (eqRack_u k11.r k21.r hn.2.1).mono ?_
  rintro e w2 ⟨rfl, hb2⟩
  have k12 := k11.below hb2
  have k22 := k21.below hb2
  have lA := (hA1.below hb2 hA1.lt).five
  have lC := (hC1.below hb2 hC1.lt).five
  go_wp2_with fail
  refine (eqBraid_u k12.b k22.b hn.2.2).mono ?_
  rintro e w3 ⟨rfl, hb3⟩
  go_wp2
  go_ret
  exact ⟨rfl, below_th (below_th (below_th hB hb1) hb2) hb3⟩
structure OwnD (w : World) (lo : Nat) (a : Option Addr) (n c : Nat) (vs : List SV) (xss : List (List Int)) (a' : Option Addr) (n' c' : Nat) (vs' : List SV) (yss : List (List Int)) (p : Option Addr) (m d : Nat) (ps : List SV) (zss : List (List Int)) (q : Option Addr) (l e : Nat) (ws : List Int) : Prop where
  s : OwnS w lo a n c vs xss a' n' c' vs' yss
  r : OwnT w lo p m d ps zss
  b : Own w lo q l e ws
theorem OwnD.dsk {vs vs' ps : List SV} (h : OwnD w lo a n c vs xss a' n' c' vs' yss p m d ps zss q l e ws) : Dsk w a n xss a' n' yss p m zss q l ws := ⟨h.s.sol, h.r.tbl, h.b.row⟩
theorem OwnS.setlo {vs vs' : List SV} (h : OwnS w lo a n c vs xss a' n' c' vs' yss) {x : Addr} (hp : x.block < lo) (u : Value) : OwnS (w.setCell x u) lo a n c vs xss a' n' c' vs' yss := ⟨h.f.setlo hp u, h.s.setlo hp u, h.ap⟩
theorem OwnD.below {vs vs' ps : List SV} (h : OwnD w lo a n c vs xss a' n' c' vs' yss p m d ps zss q l e ws) (hb : Below w.heap.size w w') : OwnD w' lo a n c vs xss a' n' c' vs' yss p m d ps zss q l e ws := ⟨h.s.below hb, h.r.below hb, h.b.below hb⟩
set_option maxHeartbeats 2000000 in
theorem toDesk_u (h : Dsk w a n xss a' n' yss p m zss q l ws) (hm : n + tot xss + n' + tot yss + m + tot zss + l ≤ 1048576) : Calls Try.prog 60 #[dAgg a n c a' n' c' p m d s q l e] w fun e' w' => ∃ b f b' f' vs vs' g h ps i j, e' = .returned (dAgg b n f b' n' f' g m h s i l j) ∧ OwnD w' w.heap.size b n f vs xss b' n' f' vs' yss g m h ps zss i l j ws ∧ Below w.heap.size w w' := by
  go_enter Try.func60, Try.ntmps60
  have hP := ((Loc.new w rfl #[.slice a n c, .slice a' n' c', .slice p m d, .int .i64 s, .slice q l e] 73).alloc (.cells #[.slice none 0 0, .slice none 0 0, .slice none 0 0, .int .i64 0, .slice none 0 0] 39)).alloc (.cells #[.slice none 0 0, .slice none 0 0, .slice none 0 0, .int .i64 0, .slice none 0 0] 39)
  have hR := (Loc.new (w.alloc (.cells #[.slice a n c, .slice a' n' c', .slice p m d, .int .i64 s, .slice q l e] 73)) rfl #[.slice none 0 0, .slice none 0 0, .slice none 0 0, .int .i64 0, .slice none 0 0] 39).alloc (.cells #[.slice none 0 0, .slice none 0 0, .slice none 0 0, .int .i64 0, .slice none 0 0] 39)
  have hO := Loc.new ((w.alloc (.cells #[.slice a n c, .slice a' n' c', .slice p m d, .int .i64 s, .slice q l e] 73)).alloc (.cells #[.slice none 0 0, .slice none 0 0, .slice none 0 0, .int .i64 0, .slice none 0 0] 39)) rfl #[.slice none 0 0, .slice none 0 0, .slice none 0 0, .int .i64 0, .slice none 0 0] 39
  have hB : Below w.heap.size w (((w.alloc (.cells #[.slice a n c, .slice a' n' c', .slice p m d, .int .i64 s, .slice q l e] 73)).alloc (.cells #[.slice none 0 0, .slice none 0 0, .slice none 0 0, .int .i64 0, .slice none 0 0] 39)).alloc (.cells #[.slice none 0 0, .slice none 0 0, .slice none 0 0, .int .i64 0, .slice none 0 0] 39)) := below_al (below_al (below_al (Below.refl _ _) _) _) _
  rw [size_alloc] at hR
  rw [size_alloc, size_alloc] at hO
  go_wp2_with fail
  have hs0 : w.heap.size + 1 + 1 < (((w.alloc (.cells #[.slice a n c, .slice a' n' c', .slice p m d, .int .i64 s, .slice q l e] 73)).alloc (.cells #[.slice none 0 0, .slice none 0 0, .slice none 0 0, .int .i64 0, .slice none 0 0] 39)).alloc (.cells #[.slice none 0 0, .slice none 0 0, .slice none 0 0, .int .i64 0, .slice none 0 0] 39)).heap.size := hO.lt
  generalize (((w.alloc (.cells #[.slice a n c, .slice a' n' c', .slice p m d, .int .i64 s, .slice q l e] 73)).alloc (.cells #[.slice none 0 0, .slice none 0 0, .slice none 0 0, .int .i64 0, .slice none 0 0] 39)).alloc (.cells #[.slice none 0 0, .slice none 0 0, .slice none 0 0, .int .i64 0, .slice none 0 0] 39)) = w0 at *
  refine (toSol_u (h.s.below hB) (by omega)).mono ?_
  rintro e1 w1 ⟨b, f, b', f', vs, vs', rfl, ho1, hb1⟩
  have hP1 := hP.below hb1 hP.lt
  have hR1 := hR.below hb1 hR.lt
  have hO1 := hO.below hb1 hO.lt
  have hB1 := below_th hB hb1
  have lP := hP1.five
  have lO := hO1.five
  have lR := hR1.five
  have s1 := hb1.size
  have hP2 := (hP1.setne (a := ⟨w.heap.size + 1 + 1, 0, none⟩) (by show _ ≠ w.heap.size + 1 + 1; omega) (.slice b n f)).setne (a := ⟨w.heap.size + 1 + 1, 1, none⟩) (by show _ ≠ w.heap.size + 1 + 1; omega) (.slice b' n' f')
  have hR2 := (hR1.setne (a := ⟨w.heap.size + 1 + 1, 0, none⟩) (by show _ ≠ w.heap.size + 1 + 1; omega) (.slice b n f)).setne (a := ⟨w.heap.size + 1 + 1, 1, none⟩) (by show _ ≠ w.heap.size + 1 + 1; omega) (.slice b' n' f')
  have hO2 := (hO1.set 0 (.slice b n f)).set 1 (.slice b' n' f')
  have ho2 := (ho1.setlo (x := ⟨w.heap.size + 1 + 1, 0, none⟩) hs0 (.slice b n f)).setlo (x := ⟨w.heap.size + 1 + 1, 1, none⟩) hs0 (.slice b' n' f')
  have hB2 : Below w.heap.size w ((w1.setCell ⟨w.heap.size + 1 + 1, 0, none⟩ (.slice b n f)).setCell ⟨w.heap.size + 1 + 1, 1, none⟩ (.slice b' n' f')) := below_setne (below_setne hB1 (by show w.heap.size ≤ w.heap.size + 1 + 1; omega) _) (by show w.heap.size ≤ w.heap.size + 1 + 1; omega) _
  have s2 : ((w1.setCell ⟨w.heap.size + 1 + 1, 0, none⟩ (.slice b n f)).setCell ⟨w.heap.size + 1 + 1, 1, none⟩ (.slice b' n' f')).heap.size = w1.heap.size := by rw [size_set, size_set]
  go_wp2_with fail
  clear lP lO lR hP1 hR1 hO1 ho1 hP hR hO
  generalize (w1.setCell ⟨w.heap.size + 1 + 1, 0, none⟩ (.slice b n f)).setCell ⟨w.heap.size + 1 + 1, 1, none⟩ (.slice b' n' f') = w2 at *
  simp only [Array.setIfInBounds, List.size_toArray, List.length_cons, List.length_nil, Nat.zero_add, Nat.lt_add_one, Nat.reduceAdd, Nat.reduceLT, dif_pos, Nat.zero_lt_succ] at hO2
  refine (toRack_u (h.r.below hB2) (by omega)).mono ?_
  rintro e3 w3 ⟨g, h', ps, rfl, ho3, hb3⟩
  have hP3 := hP2.below hb3 hP2.lt
  have hR3 := hR2.below hb3 hR2.lt
  have hO3 := hO2.below hb3 hO2.lt
  have hf3 := ho2.below hb3
  have hB3 := below_th hB2 hb3
  have lP := hP3.five
  have lO := hO3.five
  have lR := hR3.five
  have s3 := hb3.size
  have hP4 := hP3.setne (a := ⟨w.heap.size + 1 + 1, 2, none⟩) (by show _ ≠ w.heap.size + 1 + 1; omega) (.slice g m h')
  have hR4 := hR3.setne (a := ⟨w.heap.size + 1 + 1, 2, none⟩) (by show _ ≠ w.heap.size + 1 + 1; omega) (.slice g m h')
  have hO4 := hO3.set 2 (.slice g m h')
  have hf4 := hf3.setlo (x := ⟨w.heap.size + 1 + 1, 2, none⟩) hs0 (.slice g m h')
  have ho4 := ho3.setlo (p := ⟨w.heap.size + 1 + 1, 2, none⟩) (by show w.heap.size + 1 + 1 < w2.heap.size; omega) (.slice g m h')
  have hB4 : Below w.heap.size w (w3.setCell ⟨w.heap.size + 1 + 1, 2, none⟩ (.slice g m h')) := below_setne hB3 (by show w.heap.size ≤ w.heap.size + 1 + 1; omega) _
  have s4 : (w3.setCell ⟨w.heap.size + 1 + 1, 2, none⟩ (.slice g m h')).heap.size = w3.heap.size := size_set _ _ _
  go_wp2_with fail
  clear lP lO lR hP3 hR3 hO3 ho3 hf3 hP2 hR2 hO2 ho2
  generalize w3.setCell ⟨w.heap.size + 1 + 1, 2, none⟩ (.slice g m h') = w4 at *
  simp only [Array.setIfInBounds, List.size_toArray, List.length_cons, List.length_nil, Nat.zero_add, Nat.lt_add_one, Nat.reduceAdd, Nat.reduceLT, dif_pos, Nat.zero_lt_succ] at hO4
  refine (toBraid_u (h.b.below hB4) (by omega)).mono ?_
  rintro e5 w5 ⟨i, j, rfl, ho5, hb5⟩
  have hR5 := hR4.below hb5 hR4.lt
  have hO5 := hO4.below hb5 hO4.lt
  have hf5 := hf4.below hb5
  have hr5 := ho4.below hb5
  have hB5 := below_th hB4 hb5
  have lO := hO5.five
  have lR := hR5.five
  have s5 := hb5.size
  go_wp2
  refine bodyPost_ret (v := dAgg b n f b' n' f' g m h' s i l j) (by simp [results, Try.results60, go_sem, lO, lR]) rfl ⟨b, f, b', f', vs, vs', g, h', ps, i, j, rfl, ⟨?_, ?_, ?_⟩, ?_⟩
  · refine OwnS.mono ?_ (lo' := w.heap.size) (lo := w0.heap.size) (by omega)
    iterate 7 refine OwnS.setlo ?_ (by first | exact hs0 | (show w.heap.size + 1 < w0.heap.size; omega)) _
    exact hf5
  · refine OwnT.mono ?_ (lo' := w.heap.size) (lo := w2.heap.size) (by omega)
    iterate 7 refine OwnT.setlo ?_ (by first | (show w.heap.size + 1 + 1 < w2.heap.size; omega) | (show w.heap.size + 1 < w2.heap.size; omega)) _
    exact hr5
  · refine Own.mono ?_ (lo' := w.heap.size) (lo := w4.heap.size) (by omega)
    iterate 7 refine Own.setlo ?_ (by first | (show w.heap.size + 1 + 1 < w4.heap.size; omega) | (show w.heap.size + 1 < w4.heap.size; omega)) _
    exact ho5
  · iterate 7 refine below_setne ?_ (by first | (show w.heap.size ≤ w.heap.size + 1 + 1; omega) | (show w.heap.size ≤ w.heap.size + 1; omega)) _
    exact hB5
end
end Go.Proofs.Ythkpdodhkgdiaaa
