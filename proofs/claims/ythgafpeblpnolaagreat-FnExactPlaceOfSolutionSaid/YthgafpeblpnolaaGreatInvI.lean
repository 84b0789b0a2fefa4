/-
  The inverse of a solution: what the program's function makes.
  No condition but bounds on lengths.
-/
import Derived.Test.YthgafpeblpnolaaGreatInvL
import Derived.Test.YthgafpeblpnolaaGreatBase
import Derived.Test.YthgafpeblpnolaaGreatSolP
import Derived.Deep.RegionHeld3
import Derived.Deep.DeepCutAuto
namespace Go.Proofs.YthgafpeblpnolaaGreat
set_option maxRecDepth 100000
set_option linter.unusedVariables false
set_option linter.unusedSimpArgs false
open Go.RowKit


theorem OwnT.uSet {w : World} {lo : Nat} {a : Option Addr} {n c : Nat} {vs : List SV} {xss : List (List Int)} (h : OwnT w lo a n c vs xss) {p : Addr} (hp : ∀ g, TblS a n vs g → g ≠ p.block) (u : Value) : OwnT (w.setCell p u) lo a n c vs xss :=
  h.keep fun g hg _ => Below.heap_setCell _ _ _ _ (hp g hg)
/-- two tables and the box of a pair map, all new -/
def InvMade (w1 : World) (n : Nat) (f g : List (List Int)) (s : Value) (wx : World) : Prop :=
  ∃ b4 b d vs b' d' vs', s = .pointer (some ⟨b4, 0, none⟩) ∧ w1.heap.size ≤ b4 ∧ Loc wx b4 #[.slice b n d, .slice b' n d'] 28 ∧ OwnS wx w1.heap.size b n d vs f b' n d' vs' g ∧ (∀ q, SolS b n vs b' n vs' q → q ≠ b4) ∧ Below w1.heap.size w1 wx
abbrev zBox : Obj := .cells #[.slice none 0 0, .slice none 0 0] 28
section
variable {w1 w2 w3 : World} {n : Nat} {f g : List (List Int)} {a2 a3 : Option Addr} {c2 c3 : Nat} {vs2 vs3 : List SV}
theorem made_end (ho2 : OwnT w2 w1.heap.size a2 n c2 vs2 f) (hq2 : Below w1.heap.size w1 w2) (ho3 : OwnT w3 w2.heap.size a3 n c3 vs3 g) (hb3 : Below w2.heap.size w2 w3) :
    InvMade w1 n f g (.pointer (some ⟨w3.heap.size, 0, none⟩)) (w3.alloc (.cells #[.slice a2 n c2, .slice a3 n c3] 28)) := by
  have s2 := hq2.size
  have s3 := hb3.size
  refine ⟨_, _, _, _, _, _, _, rfl, by omega, Loc.new _ rfl _ _, ⟨(ho2.below hb3).alloc _, (ho3.mono s2).alloc _, fun q h1 h2 => ?_⟩, fun q hq => ?_, below_al (below_th hq2 hb3) _⟩
  · have e1 := ho2.uHi q h1; have e2 := ho3.uLo q h2; omega
  · rcases hq with hq | hq
    · have := ho2.uHi q hq; omega
    · have := ho3.uHi q hq; omega
theorem made_mid (ho2 : OwnT w2 w1.heap.size a2 n c2 vs2 f) (hq2 : Below w1.heap.size w1 w2) (ho3 : OwnT w3 (w2.alloc zBox).heap.size a3 n c3 vs3 g) (hb3 : Below (w2.alloc zBox).heap.size (w2.alloc zBox) w3) :
    InvMade w1 n f g (.pointer (some ⟨w2.heap.size, 0, none⟩)) ((w3.setCell ⟨w2.heap.size, 0, none⟩ (.slice a2 n c2)).setCell ⟨w2.heap.size, 1, none⟩ (.slice a3 n c3)) := by
  have s2 := hq2.size
  have s3 := hb3.size
  rw [size_alloc] at s3
  have n2 : ∀ q, TblS a2 n vs2 q → q ≠ w2.heap.size := fun q hq => by have := ho2.uHi q hq; omega
  have n3 : ∀ q, TblS a3 n vs3 q → q ≠ w2.heap.size := fun q hq => by have := ho3.uLo q hq; rw [size_alloc] at this; omega
  have hO : Loc w3 w2.heap.size #[.slice none 0 0, .slice none 0 0] 28 := (Loc.new w2 rfl _ _).below hb3 (by simp)
  refine ⟨_, _, _, _, _, _, _, rfl, by omega, (hO.set 0 _).set 1 _, ⟨(((ho2.alloc _).below hb3).uSet n2 _).uSet n2 _, ((ho3.mono (by rw [size_alloc]; omega)).uSet n3 _).uSet n3 _, fun q h1 h2 => ?_⟩, fun q hq => ?_, ?_⟩
  · have e1 := ho2.uHi q h1; have e2 := ho3.uLo q h2; rw [size_alloc] at e2; omega
  · rcases hq with hq | hq
    · exact n2 q hq
    · exact n3 q hq
  · exact below_setne (below_setne (below_alth hq2 hb3) s2 _) s2 _
theorem made_first {w1' : World} (hw : Below w1.heap.size w1 w1') (hs1 : w1'.heap.size = w1.heap.size) (ho2 : OwnT w2 (w1'.alloc zBox).heap.size a2 n c2 vs2 f) (hb2 : Below (w1'.alloc zBox).heap.size (w1'.alloc zBox) w2) (ho3 : OwnT w3 w2.heap.size a3 n c3 vs3 g) (hb3 : Below w2.heap.size w2 w3) :
    InvMade w1 n f g (.pointer (some ⟨w1.heap.size, 0, none⟩)) ((w3.setCell ⟨w1.heap.size, 0, none⟩ (.slice a2 n c2)).setCell ⟨w1.heap.size, 1, none⟩ (.slice a3 n c3)) := by
  have s2 := hb2.size
  have s3 := hb3.size
  rw [size_alloc] at s2
  have n2 : ∀ q, TblS a2 n vs2 q → q ≠ w1.heap.size := fun q hq => by have := ho2.uLo q hq; rw [size_alloc] at this; omega
  have n3 : ∀ q, TblS a3 n vs3 q → q ≠ w1.heap.size := fun q hq => by have := ho3.uLo q hq; omega
  have hO : Loc w3 w1.heap.size #[.slice none 0 0, .slice none 0 0] 28 := ((Loc.new w1' hs1.symm _ _).below hb2 (by simp; omega)).below hb3 (by omega)
  refine ⟨_, _, _, _, _, _, _, rfl, Nat.le_refl _, (hO.set 0 _).set 1 _, ⟨(((ho2.mono (by rw [size_alloc]; omega)).below hb3).uSet n2 _).uSet n2 _, ((ho3.mono (by omega)).uSet n3 _).uSet n3 _, fun q h1 h2 => ?_⟩, fun q hq => ?_, ?_⟩
  · have e1 := ho2.uHi q h1; have e2 := ho3.uLo q h2; omega
  · rcases hq with hq | hq
    · exact n2 q hq
    · exact n3 q hq
  · exact below_setne (below_setne (below_th (below_alth hw hb2) hb3) (Nat.le_refl _) _) (Nat.le_refl _) _
end

/-- a store into a row of each table -/
theorem OwnS.put2 {w : World} {lo : Nat} {b b' : Option Addr} {n d d' : Nat} {vs vs' : List SV} {F G : List (List Int)} (h : OwnS w lo b n d vs F b' n d' vs' G) {u : Nat} (hu : u < n) {g1 g2 : Nat} (e1 : (vs.getD u svO).1 = some ⟨g1, 0, none⟩) (e2 : (vs'.getD u svO).1 = some ⟨g2, 0, none⟩) (v : Nat) (x y : Int) :
    OwnS ((w.setCell ⟨g1, v, none⟩ (.int .i64 x)).setCell ⟨g2, v, none⟩ (.int .i64 y)) lo b n d vs (F.set u ((F.getD u []).set v x)) b' n d' vs' (G.set u ((G.getD u []).set v y)) := by
  have m1 : TblS b n vs g1 := .inr ⟨u, hu, e1⟩
  have m2 : TblS b' n vs' g2 := .inr ⟨u, hu, e2⟩
  exact ⟨(h.f.setrow u hu e1 v x).uSet (fun q hq e => by subst e; exact h.ap _ hq m2) _, (h.s.uSet (p := ⟨g1, v, none⟩) (fun q hq e => by subst e; exact h.ap _ m1 hq) _).setrow u hu e2 v y, h.ap⟩
theorem OwnT.spot {w : World} {lo : Nat} {b : Option Addr} {n d : Nat} {vs : List SV} {F : List (List Int)} (h : OwnT w lo b n d vs F) {u v : Nat} (hu : u < n) (hv : v < (F.getD u []).length) :
    ∃ gb g1 k1 c1 z, b = some ⟨gb, 0, none⟩ ∧ (vs.getD u svO).1 = some ⟨g1, 0, none⟩ ∧ v < k1 ∧ w.cell? ⟨gb, u, none⟩ = some (.slice (some ⟨g1, 0, none⟩) k1 c1) ∧ w.cell? ⟨g1, v, none⟩ = some z ∧ w.frozen? ⟨g1, v, none⟩ = false := by
  obtain ⟨gb, hb, _, hc, _⟩ := h.cells (by omega)
  have hr := h.row u hu
  have hk : v < (vs.getD u svO).2.1 := by have := hr.len; omega
  obtain ⟨g1, o1, e1, _⟩ := hr.row.at v hk
  rw [e1] at hr
  obtain ⟨rfl, h2, h3⟩ := hr.cells
  have := hc u hu
  rw [e1] at this
  exact ⟨gb, g1, _, _, _, hb, e1, hk, this, h2 v hk, h3 v⟩

end Go.Proofs.YthgafpeblpnolaaGreat
