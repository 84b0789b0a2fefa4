/-
  NamedBraid: what the program's functions compute.
  No condition but bounds.
-/
import Derived.Test.YtmncpnpjhchliaaGreatOwnSt
import Derived.Test.YtmncpnpjhchliaaGreatBase
import Derived.Deep.RegionHeld3
namespace Go.Proofs.YtmncpnpjhchliaaGreat
set_option maxRecDepth 100000
set_option linter.unusedVariables false
set_option linter.unusedSimpArgs false
open Go.RowKit

/-- the letter of a byte, or 0 -/
def letW (c : UInt8) : Int := if 97 ≤ c.toNat ∧ c.toNat ≤ 101 then (c.toNat : Int) - 96 else if 65 ≤ c.toNat ∧ c.toNat ≤ 69 then 64 - (c.toNat : Int) else 0
/-- the first k letters of a text, behind its first two bytes -/
def wrdK (t : ByteArray) (k : Nat) : List Int := ((t.data.toList.drop 2).take k).map letW
theorem wrdK_succ (t : ByteArray) (k : Nat) (h : k + 2 < t.size) : wrdK t (k + 1) = wrdK t k ++ [letW t[k + 2]] := by
  unfold wrdK
  have hl : k < (t.data.toList.drop 2).length := by rw [List.length_drop]; have : t.data.toList.length = t.size := rfl
                                                    omega
  rw [List.take_succ_eq_append_getElem hl, List.map_append]
  congr 1
  simp only [List.map_cons, List.map_nil, List.getElem_drop, Array.getElem_toList]
  congr 2
  simp only [Nat.add_comm 2 k]; rfl
/-- a text of letters -/
def LetT (t : ByteArray) : Prop := ∀ i (h : i < t.size), 2 ≤ i → (97 ≤ t[i].toNat ∧ t[i].toNat ≤ 101) ∨ (65 ≤ t[i].toNat ∧ t[i].toNat ≤ 69)

/-- the text of the braid with a name, or none -/
def namB (t : ByteArray) : ByteArray :=
  if (t.toList == [117, 110, 107, 110, 111, 116]) = true then ⟨#[50, 58, 97]⟩ else
  if (t.toList == [117, 110, 108, 105, 110, 107]) = true then ⟨#[50, 58]⟩ else
  if (t.toList == [104, 111, 112, 102]) = true then ⟨#[50, 58, 97, 97]⟩ else
  if (t.toList == [116, 114, 101, 102, 111, 105, 108]) = true then ⟨#[50, 58, 97, 97, 97]⟩ else
  if (t.toList == [101, 105, 103, 104, 116]) = true then ⟨#[51, 58, 97, 66, 97, 66]⟩ else
  if (t.toList == [115, 111, 108, 111, 109, 111, 110]) = true then ⟨#[50, 58, 97, 97, 97, 97]⟩ else
  if (t.toList == [115, 116, 97, 114]) = true then ⟨#[50, 58, 97, 97, 97, 97, 97]⟩ else
  if (t.toList == [119, 104, 105, 116, 101, 104, 101, 97, 100]) = true then ⟨#[51, 58, 97, 66, 97, 66, 66]⟩ else
  if (t.toList == [114, 105, 110, 103, 115]) = true then ⟨#[51, 58, 97, 66, 97, 66, 97, 66]⟩ else
  if (t.toList == [99, 104, 97, 105, 110]) = true then ⟨#[51, 58, 97, 97, 98, 98]⟩ else
  ByteArray.empty
/-- a text that is read as a braid -/
def TxtOk (u : ByteArray) : Prop := ∃ h : 2 ≤ u.size, u.size ≤ 10 ∧ u[1].toNat = 58 ∧ (u[0].toNat = 50 ∨ u[0].toNat = 51) ∧ LetT u ∧ isBr ((u[0].toNat : Int) - 48) (wrdK u (u.size - 2)) = true ∧ u.toList.isEmpty = false
theorem namB_ok (t : ByteArray) : namB t = ByteArray.empty ∨ TxtOk (namB t) := by
  unfold namB
  repeat' split
  all_goals first | exact .inl rfl | (refine .inr ?_; unfold TxtOk LetT; exact ⟨by decide, by decide, by decide, by decide, by decide, by kernel_rfl, by kernel_rfl⟩)

/-- the number of strands that a text names -/
def namS (u : ByteArray) : Int := if h : 0 < u.size then (u[0].toNat : Int) - 48 else 0
/-- what NamedBraid answers -/
def nbF (t : ByteArray) : Int × List Int × Int := if (namB t).size = 0 then (0, [], 4) else (namS (namB t), wrdK (namB t) ((namB t).size - 2), 0)

end Go.Proofs.YtmncpnpjhchliaaGreat
