/-
  impl.orbitLabels for one permutation.
  No condition but bounds.
-/
import Derived.Test.YthgafpeblpnolaaOrbL
import Derived.Test.YthgafpeblpnolaaQueue
import Derived.Test.YthgafpeblpnolaaBase
namespace Go.Proofs.Ythgafpeblpnolaa
set_option maxRecDepth 100000
set_option linter.unusedVariables false
set_option linter.unusedSimpArgs false
open Go.RowKit

theorem least_ex (P : Nat → Prop) (h : ∃ m, P m) : ∃ m, P m ∧ ∀ k, P k → m ≤ k := by
  obtain ⟨m, hm⟩ := h
  induction m using Nat.strongRecOn with
  | ind m ih =>
    by_cases hk : ∃ k, k < m ∧ P k
    · obtain ⟨k, hlt, hp⟩ := hk
      exact ih k hlt hp
    · exact ⟨m, hm, fun k hp => by
        by_cases h : m ≤ k
        · exact h
        · exact absurd ⟨k, by omega, hp⟩ hk⟩
/-- the least number with P: the measure of a loop whose invariant counts -/
noncomputable def least (P : Nat → Prop) : Nat := open Classical in if h : ∃ m, P m then Classical.choose (least_ex P h) else 0
theorem least_at {P : Nat → Prop} (h : ∃ m, P m) : P (least P) := by
  unfold least; rw [dif_pos h]; exact (Classical.choose_spec (least_ex P h)).1
theorem least_le {P : Nat → Prop} {m : Nat} (h : P m) : least P ≤ m := by
  unfold least; rw [dif_pos ⟨m, h⟩]; exact (Classical.choose_spec (least_ex P ⟨m, h⟩)).2 m h

def OrbQ (f : Nat → Nat) (n s : Nat) (L0 : List Int) (v : Nat) (w : World) (q : Value) (wr : World) (m : Nat) : Prop :=
  ∃ (g off qn qc : Nat) (xs : List Int) (c : List Nat) (l rem : Nat), m = rem + qn ∧ q = .slice (some ⟨g, off, none⟩) qn qc ∧ Que wr (w.heap.size + 1) g off qn qc xs ∧
    ((xs = [(l : Int)] ∧ qn = 1) ∨ (xs = [] ∧ qn = 0 ∧ f l ∈ c)) ∧ OrbI f n s c l rem ∧ (∀ u ∈ c, L0.getD u 0 < 0) ∧
    Own wr w.heap.size (some ⟨w.heap.size, 0, none⟩) n n (setAll L0 c v) ∧ Below w.heap.size w wr

/-- after the one permutation of the list -/
def OrbN (f : Nat → Nat) (n s : Nat) (L0 : List Int) (v : Nat) (w : World) (c : List Nat) (l : Nat) (q : Value) (wr : World) : Prop :=
  ∃ (g off qc : Nat), (f l ∈ c ∧ q = .slice (some ⟨g, off, none⟩) 1 qc ∧ Que wr (w.heap.size + 1) g off 1 qc [(l : Int)] ∧
    Own wr w.heap.size (some ⟨w.heap.size, 0, none⟩) n n (setAll L0 c v) ∧ Below w.heap.size w wr) ∨
   (f l ∉ c ∧ q = .slice (some ⟨g, off, none⟩) 2 qc ∧ Que wr (w.heap.size + 1) g off 2 qc [(l : Int), (f l : Int)] ∧
    Own wr w.heap.size (some ⟨w.heap.size, 0, none⟩) n n (setAll L0 (c ++ [f l]) v) ∧ Below w.heap.size w wr)

end Go.Proofs.Ythgafpeblpnolaa
