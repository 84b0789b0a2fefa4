/-
  Slices of slices of numbers, as the laws' walks take them.
  No condition but bounds on lengths.
-/
import Derived.Test.YtehomfbehhlhmaaU
import Derived.Test.YtehomfbehhlhmaaHelpT
namespace Go.Proofs.Ytehomfbehhlhmaa
set_option maxRecDepth 100000
set_option linter.unusedVariables false
set_option linter.unusedSimpArgs false
open Go.RowKit

/-- g is one of the table's blocks -/
def TblS (a : Option Addr) (n : Nat) (vs : List SV) (g : Nat) : Prop := a = some ⟨g, 0, none⟩ ∨ ∃ i, i < n ∧ (vs.getD i svO).1 = some ⟨g, 0, none⟩
section
variable {w w' : World} {lo : Nat} {a a1 a2 : Option Addr} {n n1 n2 c c1 c2 : Nat} {vs : List SV} {xss : List (List Int)}
theorem OwnT.uLo (h : OwnT w lo a n c vs xss) : ∀ g, TblS a n vs g → lo ≤ g := fun g hg => h.blo g hg
theorem OwnT.uHi (h : OwnT w lo a n c vs xss) : ∀ g, TblS a n vs g → g < w.heap.size := fun g hg => h.bhi g hg
theorem OwnT.uKeep (h : OwnT w lo a n c vs xss) {S : Nat → Prop} (hm : Marked S w w') (hS : ∀ g, TblS a n vs g → ¬ S g) : OwnT w' lo a n c vs xss := h.keep fun g hg hlt => hm.block g hlt (hS g hg)

theorem toTbl_u (h : Tbl w a n xss) (hm : n + tot xss ≤ 1048576) : Calls Try.prog 131 #[.slice a n c] w fun e w' => ∃ a' c' vs, e = .returned (.slice a' n c') ∧ OwnT w' w.heap.size a' n c' vs xss ∧ Below w.heap.size w w' :=
  toInt64SS_any a n c xss w h hm
theorem eqTbl_u (h1 : Tbl w a1 n1 xss) (h2 : Tbl w a2 n2 xss) (hm : n1 ≤ 9223372036854775807) : Calls Try.prog 137 #[.slice a1 n1 c1, .slice a2 n2 c2] w fun e w' => e = .returned (.bool true) ∧ Below w.heap.size w w' :=
  eqInt64SS_sameB a1 a2 n1 n2 c1 c2 xss w h1 h2 hm
theorem markTbl_u {k0 : Int} (h : OwnT w lo a n c vs xss) (hk0 : 0 ≤ k0) (hm : k0 + tot xss ≤ 9000000000000000000) : Calls Try.prog 115 #[.slice a n c, .int .i64 k0] w fun e w' => e = .returned (.int .i64 (k0 + tot xss)) ∧ OwnT w' lo a n c vs (markT k0 xss) ∧ Marked (TblS a n vs) w w' :=
  (markInt64SS_any a n c lo vs xss k0 w h hk0 hm).mono fun e w' ⟨he, ho, ht⟩ => ⟨he, ho, Marked.touch ht fun _ h => .inr h⟩
theorem heldTbl_u {k0 : Int} (h : Tbl w a n (markT k0 xss)) (hk0 : 0 ≤ k0) (hm : k0 + tot xss ≤ 9000000000000000000) (hn : n ≤ 9223372036854775807) : Calls Try.prog 116 #[.slice a n c, .int .i64 k0] w fun e w' => e = .returned (.int .i64 (k0 + tot xss)) ∧ Below w.heap.size w w' :=
  heldInt64SS_anyB a n c xss k0 w h hk0 hm hn
theorem szTbl_ok' {L : Int} (hr : Tbl w a n xss) (h0 : (n : Int) + tot xss ≤ L) (h1 : L ≤ 1048576) : Calls Try.prog 127 #[.slice a n c, .int .i64 L] w fun e w' => e = .returned (.int .i64 (L - n - tot xss)) ∧ Below w.heap.size w w' :=
  (szInt64SS_ok a n c xss L w hr h0 h1).mono fun e w' ⟨he, hw⟩ => ⟨he, by rw [← hw]; exact Below.refl _ _⟩
theorem szTbl_no' {L : Int} (hr : Tbl w a n xss) (h0 : L < (n : Int) + tot xss) (h1 : L ≤ 1048576) (h2 : 0 ≤ L) (hn : n ≤ 9223372036854775807) : Calls Try.prog 127 #[.slice a n c, .int .i64 L] w fun e w' => e = .returned (.int .i64 (-1)) ∧ Below w.heap.size w w' :=
  (szInt64SS_no a n c xss L w hr h0 h1 h2 hn).mono fun e w' ⟨he, hw⟩ => ⟨he, by rw [← hw]; exact Below.refl _ _⟩
end
end Go.Proofs.Ytehomfbehhlhmaa
