/-
  Desks that a call owns: their blocks, marks, and a copy in the laws' own order of names.
  No condition but bounds on lengths.
-/
import Derived.Test.YthkpdodhkgdiaaaUD
namespace Go.Proofs.Ythkpdodhkgdiaaa
set_option maxRecDepth 100000
set_option linter.unusedVariables false
set_option linter.unusedSimpArgs false
open Go.RowKit

def DskS (a : Option Addr) (n : Nat) (vs : List SV) (a' : Option Addr) (n' : Nat) (vs' : List SV) (p : Option Addr) (m : Nat) (ps : List SV) (q : Option Addr) (g : Nat) : Prop := SolS a n vs a' n' vs' g ∨ TblS p m ps g ∨ RowS q g
/-- a desk whose parts lie apart -/
structure OwnDD (w : World) (lo : Nat) (a : Option Addr) (n c : Nat) (vs : List SV) (xss : List (List Int)) (a' : Option Addr) (n' c' : Nat) (vs' : List SV) (yss : List (List Int)) (p : Option Addr) (m d : Nat) (ps : List SV) (zss : List (List Int)) (q : Option Addr) (l e : Nat) (ws : List Int) : Prop where
  o : OwnD w lo a n c vs xss a' n' c' vs' yss p m d ps zss q l e ws
  ap1 : ∀ g, SolS a n vs a' n' vs' g → ¬ TblS p m ps g
  ap2 : ∀ g, SolS a n vs a' n' vs' g → ¬ RowS q g
  ap3 : ∀ g, TblS p m ps g → ¬ RowS q g
section
variable {w w' : World} {lo : Nat} {s : Int} {a a' p q a1 a1' p1 q1 a2 a2' p2 q2 : Option Addr} {n n' m l c c' d e n1 n1' m1 l1 c1 c1' d1 e1 n2 n2' m2 l2 c2 c2' d2 e2 : Nat} {xss yss zss : List (List Int)} {ws : List Int} {vs vs' ps : List SV}
theorem Dsk.drewN (h : Dsk w a n xss a' n' yss p m zss q l ws) (k : Nat) : Dsk (w.drewN k) a n xss a' n' yss p m zss q l ws := ⟨h.s.drewN k, h.r.drewN k, h.b.drewN k⟩
theorem OwnD.alloc (h : OwnD w lo a n c vs xss a' n' c' vs' yss p m d ps zss q l e ws) (o : Obj) : OwnD (w.alloc o) lo a n c vs xss a' n' c' vs' yss p m d ps zss q l e ws := ⟨h.s.alloc o, h.r.alloc o, h.b.alloc o⟩
theorem OwnD.drewN (h : OwnD w lo a n c vs xss a' n' c' vs' yss p m d ps zss q l e ws) (k : Nat) : OwnD (w.drewN k) lo a n c vs xss a' n' c' vs' yss p m d ps zss q l e ws := ⟨h.s.drewN k, h.r.drewN k, h.b.drewN k⟩
theorem OwnD.mono {lo' : Nat} (h : OwnD w lo a n c vs xss a' n' c' vs' yss p m d ps zss q l e ws) (hl : lo' ≤ lo) : OwnD w lo' a n c vs xss a' n' c' vs' yss p m d ps zss q l e ws := ⟨h.s.mono hl, h.r.mono hl, h.b.mono hl⟩
theorem OwnD.cap (h : OwnD w lo a n c vs xss a' n' c' vs' yss p m d ps zss q l e ws) : ((n ≤ c ∧ c ≤ 9223372036854775807) ∧ n' ≤ c' ∧ c' ≤ 9223372036854775807) ∧ (m ≤ d ∧ d ≤ 9223372036854775807) ∧ l ≤ e ∧ e ≤ 9223372036854775807 := ⟨h.s.cap, h.r.cap, h.b.cap⟩
theorem OwnD.uLo (h : OwnD w lo a n c vs xss a' n' c' vs' yss p m d ps zss q l e ws) : ∀ g, DskS a n vs a' n' vs' p m ps q g → lo ≤ g := fun g hg => hg.elim (h.s.uLo g) fun hg => hg.elim (h.r.uLo g) (h.b.uLo g)
theorem OwnD.uHi (h : OwnD w lo a n c vs xss a' n' c' vs' yss p m d ps zss q l e ws) : ∀ g, DskS a n vs a' n' vs' p m ps q g → g < w.heap.size := fun g hg => hg.elim (h.s.uHi g) fun hg => hg.elim (h.r.uHi g) (h.b.uHi g)
theorem OwnD.uKeep (h : OwnD w lo a n c vs xss a' n' c' vs' yss p m d ps zss q l e ws) {S : Nat → Prop} (hm : Marked S w w') (hS : ∀ g, DskS a n vs a' n' vs' p m ps q g → ¬ S g) : OwnD w' lo a n c vs xss a' n' c' vs' yss p m d ps zss q l e ws :=
  ⟨h.s.uKeep hm fun g hg => hS g (.inl hg), h.r.uKeep hm fun g hg => hS g (.inr (.inl hg)), h.b.uKeep hm fun g hg => hS g (.inr (.inr hg))⟩
theorem OwnDD.dsk (h : OwnDD w lo a n c vs xss a' n' c' vs' yss p m d ps zss q l e ws) : Dsk w a n xss a' n' yss p m zss q l ws := h.o.dsk
theorem OwnDD.below (h : OwnDD w lo a n c vs xss a' n' c' vs' yss p m d ps zss q l e ws) (hb : Below w.heap.size w w') : OwnDD w' lo a n c vs xss a' n' c' vs' yss p m d ps zss q l e ws := ⟨h.o.below hb, h.ap1, h.ap2, h.ap3⟩
theorem OwnDD.alloc (h : OwnDD w lo a n c vs xss a' n' c' vs' yss p m d ps zss q l e ws) (o : Obj) : OwnDD (w.alloc o) lo a n c vs xss a' n' c' vs' yss p m d ps zss q l e ws := ⟨h.o.alloc o, h.ap1, h.ap2, h.ap3⟩
theorem OwnDD.drewN (h : OwnDD w lo a n c vs xss a' n' c' vs' yss p m d ps zss q l e ws) (k : Nat) : OwnDD (w.drewN k) lo a n c vs xss a' n' c' vs' yss p m d ps zss q l e ws := ⟨h.o.drewN k, h.ap1, h.ap2, h.ap3⟩
theorem OwnDD.mono {lo' : Nat} (h : OwnDD w lo a n c vs xss a' n' c' vs' yss p m d ps zss q l e ws) (hl : lo' ≤ lo) : OwnDD w lo' a n c vs xss a' n' c' vs' yss p m d ps zss q l e ws := ⟨h.o.mono hl, h.ap1, h.ap2, h.ap3⟩
theorem OwnDD.cap (h : OwnDD w lo a n c vs xss a' n' c' vs' yss p m d ps zss q l e ws) : ((n ≤ c ∧ c ≤ 9223372036854775807) ∧ n' ≤ c' ∧ c' ≤ 9223372036854775807) ∧ (m ≤ d ∧ d ≤ 9223372036854775807) ∧ l ≤ e ∧ e ≤ 9223372036854775807 := h.o.cap
theorem OwnDD.uLo (h : OwnDD w lo a n c vs xss a' n' c' vs' yss p m d ps zss q l e ws) : ∀ g, DskS a n vs a' n' vs' p m ps q g → lo ≤ g := h.o.uLo
theorem OwnDD.uHi (h : OwnDD w lo a n c vs xss a' n' c' vs' yss p m d ps zss q l e ws) : ∀ g, DskS a n vs a' n' vs' p m ps q g → g < w.heap.size := h.o.uHi
theorem OwnDD.uKeep (h : OwnDD w lo a n c vs xss a' n' c' vs' yss p m d ps zss q l e ws) {S : Nat → Prop} (hm : Marked S w w') (hS : ∀ g, DskS a n vs a' n' vs' p m ps q g → ¬ S g) : OwnDD w' lo a n c vs xss a' n' c' vs' yss p m d ps zss q l e ws := ⟨h.o.uKeep hm hS, h.ap1, h.ap2, h.ap3⟩

theorem toDesk_v (h : Dsk w a n xss a' n' yss p m zss q l ws) (hm : n + tot xss + n' + tot yss + (m + tot zss) + l ≤ 1048576) : Calls Try.prog 60 #[dAgg a n c a' n' c' p m d s q l e] w fun e' w' => ∃ b f b' f' g h i j vs vs' ps, e' = .returned (dAgg b n f b' n' f' g m h s i l j) ∧ OwnD w' w.heap.size b n f vs xss b' n' f' vs' yss g m h ps zss i l j ws ∧ Below w.heap.size w w' :=
  (toDesk_u h (by omega)).mono fun e' w' ⟨b, f, b', f', vs, vs', g, h, ps, i, j, h1, h2, h3⟩ => ⟨b, f, b', f', g, h, i, j, vs, vs', ps, h1, h2, h3⟩
theorem eqDesk_v (h1 : Dsk w a1 n1 xss a1' n1' yss p1 m1 zss q1 l1 ws) (h2 : Dsk w a2 n2 xss a2' n2' yss p2 m2 zss q2 l2 ws) (hn : (n1 ≤ 9223372036854775807 ∧ n1' ≤ 9223372036854775807) ∧ m1 ≤ 9223372036854775807 ∧ l1 ≤ 9223372036854775807) : Calls Try.prog 24 #[dAgg a1 n1 c1 a1' n1' c1' p1 m1 d1 s q1 l1 e1, dAgg a2 n2 c2 a2' n2' c2' p2 m2 d2 s q2 l2 e2] w fun e w' => e = .returned (.bool true) ∧ Below w.heap.size w w' := eqDesk_u h1 h2 hn

set_option maxHeartbeats 2000000 in
theorem markDesk_u {k0 : Int} (h : OwnDD w lo a n c vs xss a' n' c' vs' yss p m d ps zss q l e ws) (hk0 : 0 ≤ k0) (hm : k0 + tot xss + tot yss + tot zss + l ≤ 9000000000000000000) :
    Calls Try.prog 25 #[dAgg a n c a' n' c' p m d s q l e, .int .i64 k0] w fun e' w' => e' = .returned (.int .i64 (k0 + tot xss + tot yss + tot zss + l)) ∧ OwnDD w' lo a n c vs (markT k0 xss) a' n' c' vs' (markT (k0 + tot xss) yss) p m d ps (markT (k0 + tot xss + tot yss) zss) q l e (markL (k0 + tot xss + tot yss + tot zss) l) ∧ Marked (DskS a n vs a' n' vs' p m ps q) w w' := by
  have hA := Loc.new w rfl #[.slice a n c, .slice a' n' c', .slice p m d, .int .i64 s, .slice q l e] 39
  go_enter Try.func25, Try.ntmps25
  go_wp2_with fail
  refine (markSol_u (h.o.s.alloc _) hk0 (by omega)).mono ?_
  rintro e1 w1 ⟨rfl, hs1, hm1⟩
  have hA1 := hA.marked hm1 (fun h2 => by have e1 := h.o.s.uHi _ h2; omega)
  have lA := hA1.five
  have hr1 := (h.o.r.alloc (.cells #[.slice a n c, .slice a' n' c', .slice p m d, .int .i64 s, .slice q l e] 39)).uKeep hm1 fun g h1 h2 => h.ap1 g h2 h1
  have hb1 := (h.o.b.alloc (.cells #[.slice a n c, .slice a' n' c', .slice p m d, .int .i64 s, .slice q l e] 39)).uKeep hm1 fun g h1 h2 => h.ap2 g h2 h1
  go_wp2_with fail
  refine (markRack_u hr1 (by omega) (by omega)).mono ?_
  rintro e2 w2 ⟨rfl, hr2, hm2⟩
  have lA := (hA1.marked hm2 (fun h2 => by have e1 := h.o.r.uHi _ h2; omega)).five
  have hs2 := hs1.uKeep hm2 fun g h1 h2 => h.ap1 g h1 h2
  have hb2 := hb1.uKeep hm2 fun g h1 h2 => h.ap3 g h2 h1
  go_wp2_with fail
  refine (markBraid_u hb2 (by omega) (by omega)).mono ?_
  rintro e3 w3 ⟨rfl, hb3, hm3⟩
  have hs3 := hs2.uKeep hm3 fun g h1 h2 => h.ap2 g h1 h2
  have hr3 := hr2.uKeep hm3 fun g h1 h2 => h.ap3 g h1 h2
  go_wp2
  go_ret
  exact ⟨rfl, ⟨⟨hs3, hr3, hb3⟩, h.ap1, h.ap2, h.ap3⟩, (((hm1.mono (fun g hg => Or.inl hg)).trans (hm2.mono (fun g hg => Or.inr (Or.inl hg)))).trans (hm3.mono (fun g hg => Or.inr (Or.inr hg)))).alloc⟩

set_option maxHeartbeats 1000000 in
theorem heldSol_u {k0 : Int} (h : Sol w a n (markT k0 xss) a' n' (markT (k0 + tot xss) yss)) (hk0 : 0 ≤ k0) (hm : k0 + tot xss + tot yss ≤ 9000000000000000000) (hn : n ≤ 9223372036854775807 ∧ n' ≤ 9223372036854775807) :
    Calls Try.prog 81 #[sAgg a n c a' n' c', .int .i64 k0] w fun e w' => e = .returned (.int .i64 (k0 + tot xss + tot yss)) ∧ Below w.heap.size w w' := by
  have hA := Loc.new w rfl #[.slice a n c, .slice a' n' c'] 35
  have hd1 : decide (k0 + (tot xss : Int) < 0) = false := decide_eq_false (by omega)
  have hd2 : decide (k0 + (tot xss : Int) + (tot yss : Int) < 0) = false := decide_eq_false (by omega)
  go_enter Try.func81, Try.ntmps81
  go_wp2_with fail
  refine (heldTbl_u (h.f.alloc _) hk0 (by omega) hn.1).mono ?_
  rintro e w1 ⟨rfl, hb1⟩
  have lA := (hA.below hb1 hA.lt).two
  go_wp2_with fail
  refine (heldTbl_u ((h.s.alloc _).below hb1) (by omega) (by omega) hn.2).mono ?_
  rintro e w2 ⟨rfl, hb2⟩
  go_wp2
  go_ret
  exact ⟨rfl, below_th (below_alth (Below.refl _ _) hb1) hb2⟩

set_option maxHeartbeats 2000000 in
theorem heldDesk_u {k0 : Int} (h : Dsk w a n (markT k0 xss) a' n' (markT (k0 + tot xss) yss) p m (markT (k0 + tot xss + tot yss) zss) q l (markL (k0 + tot xss + tot yss + tot zss) l)) (hk0 : 0 ≤ k0) (hm : k0 + tot xss + tot yss + tot zss + l ≤ 9000000000000000000) (hn : (n ≤ 9223372036854775807 ∧ n' ≤ 9223372036854775807) ∧ m ≤ 9223372036854775807 ∧ l ≤ 9223372036854775807) :
    Calls Try.prog 26 #[dAgg a n c a' n' c' p m d s q l e, .int .i64 k0] w fun e' w' => e' = .returned (.int .i64 (k0 + tot xss + tot yss + tot zss + l)) ∧ Below w.heap.size w w' := by
  have hA := Loc.new w rfl #[.slice a n c, .slice a' n' c', .slice p m d, .int .i64 s, .slice q l e] 39
  have hd1 : decide (k0 + (tot xss : Int) + (tot yss : Int) < 0) = false := decide_eq_false (by omega)
  have hd2 : decide (k0 + (tot xss : Int) + (tot yss : Int) + (tot zss : Int) < 0) = false := decide_eq_false (by omega)
  have hd3 : decide (k0 + (tot xss : Int) + (tot yss : Int) + (tot zss : Int) + (l : Int) < 0) = false := decide_eq_false (by omega)
  go_enter Try.func26, Try.ntmps26
  go_wp2_with fail
  refine (heldSol_u (h.s.alloc _) hk0 (by omega) hn.1).mono ?_
  rintro e1 w1 ⟨rfl, hb1⟩
  have hA1 := hA.below hb1 hA.lt
  have lA := hA1.five
  go_wp2_with fail
  refine (heldRack_u ((h.r.alloc _).below hb1) (by omega) (by omega) hn.2.1).mono ?_
  rintro e2 w2 ⟨rfl, hb2⟩
  have lA2 := (hA1.below hb2 hA1.lt).five
  go_wp2_with fail
  refine (heldBraid_u (((h.b.alloc _).below hb1).below hb2) (by omega) (by omega)).mono ?_
  rintro e3 w3 ⟨rfl, hb3⟩
  go_wp2
  go_ret
  exact ⟨rfl, below_th (below_th (below_alth (Below.refl _ _) hb1) hb2) hb3⟩
/-- a desk -/
def RetD0 (w : World) (xss yss zss : List (List Int)) (s : Int) (ws : List Int) (e : Ending) (w' : World) : Prop :=
  ∃ a n c a' n' c' p m d q l k vs vs' ps, e = .returned (dAgg a n c a' n' c' p m d s q l k) ∧ OwnDD w' w.heap.size a n c vs xss a' n' c' vs' yss p m d ps zss q l k ws ∧ Below w.heap.size w w'
end
end Go.Proofs.Ythkpdodhkgdiaaa
