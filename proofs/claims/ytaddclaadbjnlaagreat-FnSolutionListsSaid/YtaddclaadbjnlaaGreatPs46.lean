/-
  Walks and plain laws of this seat, some texts in one.
  No condition but bounds on lengths.
-/
import Derived.Test.YtaddclaadbjnlaaGreatPs38
import Derived.Test.YtaddclaadbjnlaaGreatPs45
namespace Go.Proofs.YtaddclaadbjnlaaGreat
set_option linter.unusedVariables false
set_option maxHeartbeats 0 in
theorem even_cnt : ∀ n : Fin 4, 1 ≤ n.1 → ((solL n.1).filter (fun s => ivlB n.1 s.1 s.2 && ownB n.1 s)).length = [0, 1, 2, 5].getD n.1 0 := by decide +kernel
theorem even_slr {n : Nat} (h1 : 1 ≤ n) (h3 : n ≤ 3) : ((slrL n).filter fun s => ivlB n s.1 s.2).length = [0, 1, 2, 5].getD n 0 := by
  have hP := (slrL_map (solL_lens h1 h3)).2.1
  rw [(hP.filter _).length_eq]
  unfold lstSo
  rw [List.filter_filter]
  exact even_cnt ⟨n, by omega⟩ h1
end Go.Proofs.YtaddclaadbjnlaaGreat
