/-
  spec.l01Orbit and spec.l01Orbits for one permutation.
  No condition but bounds.
-/
import Derived.Test.YthgafpeblpnolaaOrbI
import Derived.Test.YthgafpeblpnolaaBase
import Derived.Deep.RegionLaw
namespace Go.Proofs.Ythgafpeblpnolaa
set_option maxRecDepth 100000
set_option linter.unusedVariables false
set_option linter.unusedSimpArgs false
open Go.RowKit

def natL (c : List Nat) : List Int := c.map fun x : Nat => (x : Int)
theorem natL_mem (c : List Nat) (x : Nat) : ((x : Int) ∈ natL c) = (x ∈ c) := by
  simp only [natL, List.mem_map, eq_iff_iff]
  exact ⟨fun ⟨a, h, e⟩ => by
    have : a = x := by omega
    exact this ▸ h, fun h => ⟨x, h, rfl⟩⟩
theorem natL_snoc (c : List Nat) (x : Nat) : natL (c ++ [x]) = natL c ++ [(x : Int)] := by simp [natL]
theorem natL_get (c : List Nat) (i : Nat) (h : i < c.length) : (natL c).getD i 0 = (c[i] : Int) := by
  simp [natL, List.getD_eq_getElem?_getD, List.getElem?_map, h]

def OrbR (f : Nat → Nat) (n x : Nat) (w : World) (q i : Value) (wr : World) (m : Nat) : Prop :=
  ∃ (a : Option Addr) (on qc : Nat) (c : List Nat) (l rem b : Nat), m = rem + b ∧ on = c.length ∧ q = .slice a on qc ∧ i = .int .i64 ((on - b : Nat) : Int) ∧ Own wr w.heap.size a on qc (natL c) ∧
    OrbI f n x c l rem ∧ ((b = 1 ∧ (natL c).getD (on - 1) 0 = (l : Int)) ∨ (b = 0 ∧ f l ∈ c)) ∧ Below w.heap.size w wr
/-- after the one permutation -/
def OrbT (f : Nat → Nat) (w : World) (a : Option Addr) (on qc : Nat) (c : List Nat) (l : Nat) (q : Value) (wr : World) : Prop :=
  (f l ∈ c ∧ q = .slice a on qc ∧ Own wr w.heap.size a on qc (natL c) ∧ Below w.heap.size w wr) ∨
  (f l ∉ c ∧ ∃ a' c', q = .slice a' (on + 1) c' ∧ Own wr w.heap.size a' (on + 1) c' (natL (c ++ [f l])) ∧ Below w.heap.size w wr)

end Go.Proofs.Ythgafpeblpnolaa
