/-
  The components of a braid: what the program's and the reference's functions compute.
  No condition but bounds.
-/
import Derived.Test.YthgafpeblpnolaaOrbSS
import Derived.Deep.RegionHeld3
namespace Go.Proofs.Ythgafpeblpnolaa
set_option maxRecDepth 100000
set_option linter.unusedVariables false
set_option linter.unusedSimpArgs false
open Go.RowKit

theorem IsP.own {n : Nat} {p : List Int} (h : IsP n p) : ∃ g, IsPf n p (fun i => (p.getD i 0).toNat) g := by
  obtain ⟨f, g, hl, h1, h2⟩ := h
  have e : ∀ i, i < n → (p.getD i 0).toNat = f i := fun i hi => by rw [h2 i hi]; simp
  refine ⟨g, hl, fun i hi => ?_, fun i hi => ?_⟩
  · have hh := h1 i hi
    refine ⟨by show (p.getD i 0).toNat < n; rw [e i hi]; exact hh.1, hh.2.1, ?_, ?_⟩
    · show (p.getD (g i) 0).toNat = i
      rw [e _ hh.2.1]; exact hh.2.2.1
    · show g ((p.getD i 0).toNat) = i
      rw [e i hi]; exact hh.2.2.2
  · show _ = (((p.getD i 0).toNat : Nat) : Int)
    rw [e i hi]; exact h2 i hi
def compL (s : Nat) (xs : List Int) : List Int := labF (fun i => ((brP s xs).getD i 0).toNat) s
theorem compL_len (s : Nat) (xs : List Int) : (compL s xs).length = s := labS_len _ _ _
theorem Tbl.single {w : World} {a : Option Addr} {n c b : Nat} {xs : List Int} {t : TypeId} (h : Row w a n xs) (hn : n ≤ 9223372036854775807) (hb : b = w.heap.size) : Tbl (w.alloc (.cells #[.slice a n c] t)) (some ⟨b, 0, none⟩) 1 [xs] :=
by
  refine ⟨rfl, fun i hi => ?_⟩
  have e : i = 0 := by omega
  subst e
  have hL := Loc.new w hb #[.slice a n c] t
  exact ⟨b, 0, a, n, c, rfl, hL.lt, hL.one.1, h.alloc _, hn⟩

end Go.Proofs.Ythgafpeblpnolaa
