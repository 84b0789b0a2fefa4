/-
  Pair maps, as the laws' walks take them.
  No condition but bounds on lengths.
-/
import Derived.Test.YthkpdodhkgdiaaaUT
import Derived.Test.YthkpdodhkgdiaaaSolI
namespace Go.Proofs.Ythkpdodhkgdiaaa
set_option maxRecDepth 100000
set_option linter.unusedVariables false
set_option linter.unusedSimpArgs false
open Go.RowKit

structure Sol (w : World) (a : Option Addr) (n : Nat) (xss : List (List Int)) (a' : Option Addr) (n' : Nat) (yss : List (List Int)) : Prop where
  f : Tbl w a n xss
  s : Tbl w a' n' yss
def SolS (a : Option Addr) (n : Nat) (vs : List SV) (a' : Option Addr) (n' : Nat) (vs' : List SV) (g : Nat) : Prop := TblS a n vs g ∨ TblS a' n' vs' g
structure OwnS (w : World) (lo : Nat) (a : Option Addr) (n c : Nat) (vs : List SV) (xss : List (List Int)) (a' : Option Addr) (n' c' : Nat) (vs' : List SV) (yss : List (List Int)) : Prop where
  f : OwnT w lo a n c vs xss
  s : OwnT w lo a' n' c' vs' yss
  ap : ∀ g, TblS a n vs g → ¬ TblS a' n' vs' g
section
variable {w w' : World} {lo : Nat} {a a' a1 a1' a2 a2' : Option Addr} {n n' c c' n1 n1' n2 n2' c1 c1' c2 c2' : Nat} {vs vs' : List SV} {xss yss : List (List Int)}
theorem Sol.below (h : Sol w a n xss a' n' yss) (hb : Below w.heap.size w w') : Sol w' a n xss a' n' yss := ⟨h.f.below hb, h.s.below hb⟩
theorem Sol.alloc (h : Sol w a n xss a' n' yss) (o : Obj) : Sol (w.alloc o) a n xss a' n' yss := ⟨h.f.alloc o, h.s.alloc o⟩
theorem Sol.drewN (h : Sol w a n xss a' n' yss) (k : Nat) : Sol (w.drewN k) a n xss a' n' yss := ⟨h.f.drewN k, h.s.drewN k⟩
theorem OwnS.sol (h : OwnS w lo a n c vs xss a' n' c' vs' yss) : Sol w a n xss a' n' yss := ⟨h.f.tbl, h.s.tbl⟩
theorem OwnS.below (h : OwnS w lo a n c vs xss a' n' c' vs' yss) (hb : Below w.heap.size w w') : OwnS w' lo a n c vs xss a' n' c' vs' yss := ⟨h.f.below hb, h.s.below hb, h.ap⟩
theorem OwnS.alloc (h : OwnS w lo a n c vs xss a' n' c' vs' yss) (o : Obj) : OwnS (w.alloc o) lo a n c vs xss a' n' c' vs' yss := ⟨h.f.alloc o, h.s.alloc o, h.ap⟩
theorem OwnS.drewN (h : OwnS w lo a n c vs xss a' n' c' vs' yss) (k : Nat) : OwnS (w.drewN k) lo a n c vs xss a' n' c' vs' yss := ⟨h.f.drewN k, h.s.drewN k, h.ap⟩
theorem OwnS.mono {lo' : Nat} (h : OwnS w lo a n c vs xss a' n' c' vs' yss) (hl : lo' ≤ lo) : OwnS w lo' a n c vs xss a' n' c' vs' yss := ⟨h.f.mono hl, h.s.mono hl, h.ap⟩
theorem OwnS.cap (h : OwnS w lo a n c vs xss a' n' c' vs' yss) : (n ≤ c ∧ c ≤ 9223372036854775807) ∧ n' ≤ c' ∧ c' ≤ 9223372036854775807 := ⟨h.f.cap, h.s.cap⟩
theorem OwnS.uLo (h : OwnS w lo a n c vs xss a' n' c' vs' yss) : ∀ g, SolS a n vs a' n' vs' g → lo ≤ g := fun g hg => hg.elim (h.f.uLo g) (h.s.uLo g)
theorem OwnS.uHi (h : OwnS w lo a n c vs xss a' n' c' vs' yss) : ∀ g, SolS a n vs a' n' vs' g → g < w.heap.size := fun g hg => hg.elim (h.f.uHi g) (h.s.uHi g)
theorem OwnS.uKeep (h : OwnS w lo a n c vs xss a' n' c' vs' yss) {S : Nat → Prop} (hm : Marked S w w') (hS : ∀ g, SolS a n vs a' n' vs' g → ¬ S g) : OwnS w' lo a n c vs xss a' n' c' vs' yss :=
  ⟨h.f.uKeep hm fun g hg => hS g (.inl hg), h.s.uKeep hm fun g hg => hS g (.inr hg), h.ap⟩

set_option maxHeartbeats 400000 in
theorem szSol_ok' {L : Int} (hr : Sol w a n xss a' n' yss) (h0 : (n : Int) + tot xss + n' + tot yss ≤ L) (h1 : L ≤ 1048576) : Calls Try.prog 36 #[sAgg a n c a' n' c', .int .i64 L] w fun e w' => e = .returned (.int .i64 (L - n - tot xss - n' - tot yss)) ∧ Below w.heap.size w w' := by
  go_enter Try.func36, Try.ntmps36
  go_wp2_with fail
  refine (szInt64SS_ok _ _ _ _ _ _ (hr.f.alloc _) (by omega) (by omega)).mono ?_
  rintro e w1 ⟨rfl, rfl⟩
  go_wp2_with fail
  refine (szInt64SS_ok _ _ _ _ _ _ (hr.s.alloc _) (by omega) (by omega)).mono ?_
  rintro e w1 ⟨rfl, rfl⟩
  go_wp2
  go_ret
  exact ⟨rfl, below_al (Below.refl _ _) _⟩
set_option maxHeartbeats 400000 in
theorem szSol_no' {L : Int} (hr : Sol w a n xss a' n' yss) (h0 : L < (n : Int) + tot xss + n' + tot yss) (h1 : L ≤ 1048576) (h2 : 0 ≤ L) (hn : n ≤ 9223372036854775807 ∧ n' ≤ 9223372036854775807) : Calls Try.prog 36 #[sAgg a n c a' n' c', .int .i64 L] w fun e w' => e = .returned (.int .i64 (-1)) ∧ Below w.heap.size w w' := by
  by_cases hb : L < (n : Int) + tot xss
  · go_enter Try.func36, Try.ntmps36
    go_wp2_with fail
    refine (szInt64SS_no _ _ _ _ _ _ (hr.f.alloc _) hb (by omega) (by omega) hn.1).mono ?_
    rintro e w1 ⟨rfl, rfl⟩
    go_wp2
    go_ret
    exact ⟨rfl, below_al (Below.refl _ _) _⟩
  · go_enter Try.func36, Try.ntmps36
    go_wp2_with fail
    refine (szInt64SS_ok _ _ _ _ _ _ (hr.f.alloc _) (by omega) (by omega)).mono ?_
    rintro e w1 ⟨rfl, rfl⟩
    go_wp2_with fail
    refine (szInt64SS_no _ _ _ _ _ _ (hr.s.alloc _) (by omega) (by omega) (by omega) hn.2).mono ?_
    rintro e w1 ⟨rfl, rfl⟩
    go_wp2
    go_ret
    exact ⟨rfl, below_al (Below.refl _ _) _⟩

set_option maxHeartbeats 1000000 in
theorem eqSol_u (h1 : Sol w a1 n1 xss a1' n1' yss) (h2 : Sol w a2 n2 xss a2' n2' yss) (hm : n1 ≤ 9223372036854775807 ∧ n1' ≤ 9223372036854775807) :
    Calls Try.prog 42 #[sAgg a1 n1 c1 a1' n1' c1', sAgg a2 n2 c2 a2' n2' c2'] w fun e w' => e = .returned (.bool true) ∧ Below w.heap.size w w' := by
  obtain ⟨hm1, hm2⟩ := hm
  go_enter Try.func42, Try.ntmps42
  have hA := (Loc.new w rfl #[.slice a1 n1 c1, .slice a1' n1' c1'] 35).alloc (.cells #[.slice a2 n2 c2, .slice a2' n2' c2'] 35)
  have hC := Loc.new (w.alloc (.cells #[.slice a1 n1 c1, .slice a1' n1' c1'] 35)) rfl #[.slice a2 n2 c2, .slice a2' n2' c2'] 35
  rw [size_alloc] at hC
  go_wp2_with fail
  refine (eqInt64SS_sameB _ _ _ _ _ _ _ _ ((h1.f.alloc _).alloc _) ((h2.f.alloc _).alloc _) hm1).mono ?_
  rintro e w1 ⟨rfl, hb1⟩
  have lA := (hA.below hb1 (by simp; omega)).two
  have lC := (hC.below hb1 (by simp)).two
  go_wp2_with fail
  refine (eqInt64SS_sameB _ _ _ _ _ _ _ _ (((h1.s.alloc _).alloc _).below hb1) (((h2.s.alloc _).alloc _).below hb1) hm2).mono ?_
  rintro e w2 ⟨rfl, hb2⟩
  go_wp2
  go_ret
  exact ⟨rfl, below_th (below_th (below_al (below_al (Below.refl _ _) _) _) hb1) hb2⟩

set_option maxHeartbeats 1000000 in
theorem toSol_u (h : Sol w a n xss a' n' yss) (hm : n + tot xss + n' + tot yss ≤ 1048576) :
    Calls Try.prog 38 #[sAgg a n c a' n' c'] w fun e w' => ∃ b d b' d' vs vs', e = .returned (sAgg b n d b' n' d') ∧ OwnS w' w.heap.size b n d vs xss b' n' d' vs' yss ∧ Below w.heap.size w w' := by
  go_enter Try.func38, Try.ntmps38
  have h3 := ((h.alloc (.cells #[.slice a n c, .slice a' n' c'] 52)).alloc (.cells #[.slice none 0 0, .slice none 0 0] 35)).alloc (.cells #[.slice none 0 0, .slice none 0 0] 35)
  have hP := ((Loc.new w rfl #[.slice a n c, .slice a' n' c'] 52).alloc (.cells #[.slice none 0 0, .slice none 0 0] 35)).alloc (.cells #[.slice none 0 0, .slice none 0 0] 35)
  have hR := (Loc.new (w.alloc (.cells #[.slice a n c, .slice a' n' c'] 52)) rfl #[.slice none 0 0, .slice none 0 0] 35).alloc (.cells #[.slice none 0 0, .slice none 0 0] 35)
  have hO := Loc.new ((w.alloc (.cells #[.slice a n c, .slice a' n' c'] 52)).alloc (.cells #[.slice none 0 0, .slice none 0 0] 35)) rfl #[.slice none 0 0, .slice none 0 0] 35
  have hB : Below w.heap.size w (((w.alloc (.cells #[.slice a n c, .slice a' n' c'] 52)).alloc (.cells #[.slice none 0 0, .slice none 0 0] 35)).alloc (.cells #[.slice none 0 0, .slice none 0 0] 35)) := below_al (below_al (below_al (Below.refl _ _) _) _) _
  rw [size_alloc] at hR
  rw [size_alloc, size_alloc] at hO
  go_wp2_with fail
  have hs0 : w.heap.size + 1 + 1 < (((w.alloc (.cells #[.slice a n c, .slice a' n' c'] 52)).alloc (.cells #[.slice none 0 0, .slice none 0 0] 35)).alloc (.cells #[.slice none 0 0, .slice none 0 0] 35)).heap.size := hO.lt
  generalize ((w.alloc (.cells #[.slice a n c, .slice a' n' c'] 52)).alloc (.cells #[.slice none 0 0, .slice none 0 0] 35)).alloc (.cells #[.slice none 0 0, .slice none 0 0] 35) = w0 at *
  refine (toInt64SS_any _ _ _ xss _ h3.f (by omega)).mono ?_
  rintro e w1 ⟨b, d, vs, rfl, ho1, hb1⟩
  have hP1 := hP.below hb1 hP.lt
  have hR1 := hR.below hb1 hR.lt
  have hO1 := hO.below hb1 hO.lt
  have lP := hP1.two
  have lO := hO1.two
  have lR := hR1.two
  have s1 := hb1.size
  have hP2 := hP1.setne (a := ⟨w.heap.size + 1 + 1, 0, none⟩) (by show _ ≠ w.heap.size + 1 + 1; omega) (.slice b n d)
  have hR2 := hR1.setne (a := ⟨w.heap.size + 1 + 1, 0, none⟩) (by show _ ≠ w.heap.size + 1 + 1; omega) (.slice b n d)
  have hO2 := hO1.set 0 (.slice b n d)
  have ho2 := ho1.setlo (p := ⟨w.heap.size + 1 + 1, 0, none⟩) hs0 (.slice b n d)
  have hT2 : Tbl (w1.setCell ⟨w.heap.size + 1 + 1, 0, none⟩ (.slice b n d)) a' n' yss := by
    have e1 : Below w.heap.size w (w1.setCell ⟨w.heap.size + 1 + 1, 0, none⟩ (.slice b n d)) := below_setne (below_th hB hb1) (by show w.heap.size ≤ w.heap.size + 1 + 1; omega) _
    exact h.s.below e1
  have hB2 : Below w.heap.size w (w1.setCell ⟨w.heap.size + 1 + 1, 0, none⟩ (.slice b n d)) := below_setne (below_th hB hb1) (by show w.heap.size ≤ w.heap.size + 1 + 1; omega) _
  have s2 : (w1.setCell ⟨w.heap.size + 1 + 1, 0, none⟩ (.slice b n d)).heap.size = w1.heap.size := size_set _ _ _
  go_wp2_with fail
  clear lP lO lR hP1 hR1 hO1 ho1 hP hR hO h3
  generalize w1.setCell ⟨w.heap.size + 1 + 1, 0, none⟩ (.slice b n d) = w2 at *
  simp only [Array.setIfInBounds, List.size_toArray, List.length_cons, List.length_nil, Nat.zero_add, Nat.lt_add_one, Nat.reduceAdd, Nat.reduceLT, dif_pos, Nat.zero_lt_succ] at hO2
  refine (toInt64SS_any _ _ _ yss _ hT2 (by omega)).mono ?_
  rintro e w3 ⟨b', d', vs', rfl, ho3, hb3⟩
  have hR3 := hR2.below hb3 hR2.lt
  have hO3 := hO2.below hb3 hO2.lt
  have lO := hO3.two
  have lR := hR3.two
  have hf3 := ho2.below hb3
  have s3 := hb3.size
  go_wp2
  refine bodyPost_ret (v := sAgg b n d b' n' d') (by simp [results, Try.results38, go_sem, lO, lR]) rfl ⟨b, d, b', d', vs, vs', rfl, ⟨?_, ?_, ?_⟩, ?_⟩
  · exact (((hf3.setlo (by show w.heap.size + 1 + 1 < w0.heap.size; omega) _).setlo (by show w.heap.size + 1 < w0.heap.size; omega) _).setlo (by show w.heap.size + 1 < w0.heap.size; omega) _).mono (by omega)
  · exact (((ho3.setlo (by show w.heap.size + 1 + 1 < w2.heap.size; omega) _).setlo (by show w.heap.size + 1 < w2.heap.size; omega) _).setlo (by show w.heap.size + 1 < w2.heap.size; omega) _).mono (by omega)
  · intro g h1 h2
    have e1 := ho2.uHi g h1
    have e2 := ho3.uLo g h2
    omega
  · exact below_setne (below_setne (below_setne (below_th hB2 hb3) (by show w.heap.size ≤ w.heap.size + 1 + 1; omega) _) (by show w.heap.size ≤ w.heap.size + 1; omega) _) (by show w.heap.size ≤ w.heap.size + 1; omega) _

set_option maxHeartbeats 1000000 in
theorem markSol_u {k0 : Int} (h : OwnS w lo a n c vs xss a' n' c' vs' yss) (hk0 : 0 ≤ k0) (hm : k0 + tot xss + tot yss ≤ 9000000000000000000) :
    Calls Try.prog 43 #[sAgg a n c a' n' c', .int .i64 k0] w fun e w' => e = .returned (.int .i64 (k0 + tot xss + tot yss)) ∧ OwnS w' lo a n c vs (markT k0 xss) a' n' c' vs' (markT (k0 + tot xss) yss) ∧ Marked (SolS a n vs a' n' vs') w w' := by
  have hA := Loc.new w rfl #[.slice a n c, .slice a' n' c'] 35
  go_enter Try.func43, Try.ntmps43
  go_wp2_with fail
  refine (markTbl_u (h.f.alloc _) hk0 (by omega)).mono ?_
  rintro e w1 ⟨rfl, hf1, hm1⟩
  have hs1 := (h.s.alloc _).uKeep hm1 fun g h1 h2 => h.ap g h2 h1
  have lA := (hA.marked hm1 (fun h2 => by have e1 := h.f.uHi _ h2; omega)).two
  go_wp2_with fail
  refine (markTbl_u hs1 (by omega) (by omega)).mono ?_
  rintro e w2 ⟨rfl, hs2, hm2⟩
  have hf2 := hf1.uKeep hm2 fun g h1 h2 => h.ap g h1 h2
  go_wp2
  go_ret
  exact ⟨rfl, ⟨hf2, hs2, h.ap⟩, ((hm1.mono (fun g hg => Or.inl hg)).trans (hm2.mono (fun g hg => Or.inr hg))).alloc⟩
end
end Go.Proofs.Ythkpdodhkgdiaaa
