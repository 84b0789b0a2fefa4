/-
  What the laws' helpers do with slices of cycle sets.
  No condition but bounds.
-/
import Derived.Test.YthgafpeblpnolaaTabCy
import Derived.Test.YthgafpeblpnolaaBase3
import Derived.Test.YthgafpeblpnolaaBase
namespace Go.Proofs.Ythgafpeblpnolaa
set_option maxRecDepth 100000
set_option linter.unusedVariables false
set_option linter.unusedSimpArgs false
open Go.RowKit

/-- a result that is a slice of cycle sets, and a code -/
def RetLCy (w : World) (L : List (List (List Int))) (code : Int) (e : Ending) (w' : World) : Prop := ∃ a k c us, e = .returned (.tuple #[.slice a k c, .int .i64 code]) ∧ OwnCy w' w.heap.size a k c us L ∧ Below w.heap.size w w'
theorem OwnCy.tbS {w : World} {lo : Nat} {a : Option Addr} {n c : Nat} {us : List TV} {ts : List (List (List Int))} (h : OwnCy w lo a n c us ts) : TbS w a n ts := by
  refine ⟨h.len, fun i hi => ?_⟩
  obtain ⟨g, h1, h2, h3, _⟩ := h.cells (by omega)
  have hv := h.tab i hi
  exact ⟨g, 0, _, _, _, h1, h2, by rw [Nat.zero_add]; exact h3 i hi, OwnT.tbl hv, by have := OwnT.cap hv; omega⟩
/-- one element's table is turned -/
theorem OwnCy.mark {w w' : World} {lo : Nat} {a : Option Addr} {n c : Nat} {us : List TV} {ts : List (List (List Int))} (h : OwnCy w lo a n c us ts) {i : Nat} (hi : i < n) {t : List (List Int)} (hv : OwnV w' lo (us.getD i tvO) t) (hm : Marked (TvS (us.getD i tvO)) w w') : OwnCy w' lo a n c us (ts.set i t) := by
  refine ⟨by rw [List.length_set]; exact h.len, h.ulen, ?_, fun j hj => ?_, h.ap, h.pw⟩
  · rcases h.block with ⟨h1, h2, h3⟩ | ⟨g, cur, h1, h2, h3, h4, h5, h6, h7⟩
    · omega
    · subst h1
      exact ownsRowCy_mk h.ulen h2 ((hm.block g h3.lt (h.ap i hi g rfl)).trans h3) h4 h5 h6 h7
  · rw [getD_set' _ _ _ _ _ (by have := h.len; omega)]
    by_cases e : j = i
    · subst e; rw [if_pos rfl]; exact hv
    · rw [if_neg e]
      exact OwnT.keep (h.tab j hj) fun g hg hlt => hm.block g hlt (fun h1 => h.pw j i hj hi e g hg h1)
end Go.Proofs.Ythgafpeblpnolaa
