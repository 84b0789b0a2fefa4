/-
  What the laws' helpers do with slices of solutions.
  No condition but bounds.
-/
import Derived.Test.YthgafpeblpnolaaGreatTabSo
import Derived.Test.YthgafpeblpnolaaGreatMarkP
namespace Go.Proofs.YthgafpeblpnolaaGreat
set_option maxRecDepth 100000
set_option linter.unusedVariables false
set_option linter.unusedSimpArgs false
open Go.RowKit

/-- a result that is a slice of solutions, and a code -/
def RetLSo (w : World) (L : List T2) (code : Int) (e : Ending) (w' : World) : Prop := ∃ a k c us, e = .returned (.tuple #[.slice a k c, .int .i64 code]) ∧ OwnSo w' w.heap.size a k c us L ∧ Below w.heap.size w w'
/-- a slice of solutions that is read -/
def SbS (w : World) (a : Option Addr) (n : Nat) (ts : List T2) : Prop :=
  n = ts.length ∧ ∀ i, i < n → ∃ b ai ni ci di mi ei, a = some ⟨b, 0, none⟩ ∧ b < w.heap.size ∧ w.cell? ⟨b, i * 2, none⟩ = some (.slice ai ni ci) ∧ w.cell? ⟨b, i * 2 + 1, none⟩ = some (.slice di mi ei) ∧ Sol w ai ni (ts.getD i t2O).1 di mi (ts.getD i t2O).2 ∧ ni ≤ 9223372036854775807 ∧ mi ≤ 9223372036854775807
theorem SbS.len {w : World} {a : Option Addr} {n : Nat} {ts : List T2} (h : SbS w a n ts) : n = ts.length := h.1
theorem SbS.below {w w' : World} {a : Option Addr} {n : Nat} {ts : List T2} (h : SbS w a n ts) (hb : Below w.heap.size w w') : SbS w' a n ts :=
  ⟨h.1, fun i hi => by obtain ⟨b, ai, ni, ci, di, mi, ei, h1, h3, h2, h2', h4, h5, h6⟩ := h.2 i hi; exact ⟨b, ai, ni, ci, di, mi, ei, h1, Nat.lt_of_lt_of_le h3 hb.size, (hb.cell (p := ⟨b, i * 2, none⟩) h3).trans h2, (hb.cell (p := ⟨b, i * 2 + 1, none⟩) h3).trans h2', h4.below hb, h5, h6⟩⟩
theorem SbS.drewN {w : World} {a : Option Addr} {n : Nat} {ts : List T2} (h : SbS w a n ts) (k : Nat) : SbS (w.drewN k) a n ts := ⟨h.1, fun i hi => by obtain ⟨b, ai, ni, ci, di, mi, ei, h1, h3, h2, h2', h4, h5, h6⟩ := h.2 i hi; exact ⟨b, ai, ni, ci, di, mi, ei, h1, h3, h2, h2', h4.drewN k, h5, h6⟩⟩
theorem OwnSo.sbS {w : World} {lo : Nat} {a : Option Addr} {n c : Nat} {us : List PV} {ts : List T2} (h : OwnSo w lo a n c us ts) : SbS w a n ts := by
  refine ⟨h.len, fun i hi => ?_⟩
  obtain ⟨g, h1, h2, h3, _⟩ := h.cells (by omega)
  have hv := h.tab i hi
  have hc := OwnS.cap hv
  exact ⟨g, _, _, _, _, _, _, h1, h2, (h3 i hi).1, (h3 i hi).2, OwnS.sol hv, by omega, by omega⟩
/-- one element's tables are turned -/
theorem OwnSo.mark {w w' : World} {lo : Nat} {a : Option Addr} {n c : Nat} {us : List PV} {ts : List T2} (h : OwnSo w lo a n c us ts) {i : Nat} (hi : i < n) {t : T2} (hv : OwnPV w' lo (us.getD i pvO) t) (hm : Marked (PvS (us.getD i pvO)) w w') : OwnSo w' lo a n c us (ts.set i t) := by
  have hgs : ∀ j, (ts.set i t).getD j t2O = if j = i then t else ts.getD j t2O := fun j => by
    have hil : i < ts.length := by have := h.len; omega
    rw [List.getD_eq_getElem?_getD, List.getD_eq_getElem?_getD, List.getElem?_set]
    by_cases e : i = j
    · subst e; simp [hil]
    · rw [if_neg e, if_neg (fun h => e h.symm)]
  refine ⟨by rw [List.length_set]; exact h.len, h.ulen, ?_, fun j hj => ?_, h.ap, h.pw⟩
  · rcases h.block with ⟨h1, h2, h3⟩ | ⟨g, cur, h1, h2, h3, h4, h5, h6, h7⟩
    · omega
    · subst h1
      exact ownsRowSo_mk h.ulen h2 ((hm.block g h3.lt (h.ap i hi g rfl)).trans h3) h4 h5 h6 h7
  · rw [hgs]
    by_cases e : j = i
    · subst e; rw [if_pos rfl]; exact hv
    · rw [if_neg e]
      exact OwnPV.keep (h.tab j hj) fun g hg hlt => hm.block g hlt (fun h1 => h.pw j i hj hi e g hg h1)

end Go.Proofs.YthgafpeblpnolaaGreat
