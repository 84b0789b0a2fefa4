/-
  What slices.Reverse does to the end of a slice of numbers that the call owns.
  No condition but bounds on lengths.
-/
import Derived.Test.YtehomfbehhlhmaaBase
namespace Go.Proofs.Ytehomfbehhlhmaa
set_option maxRecDepth 100000
set_option linter.unusedVariables false
set_option linter.unusedSimpArgs false
open Go.RowKit

theorem app_getD (ys l : List Int) (o i : Nat) (ho : ys.length = o) : (ys ++ l).getD (o + i) 0 = l.getD i 0 := by
  simp [List.getD_eq_getElem?_getD, List.getElem?_append_right, ← ho]
theorem app_set (ys l : List Int) (o i : Nat) (x : Int) (ho : ys.length = o) : (ys ++ l).set (o + i) x = ys ++ l.set i x := by
  rw [List.set_append_right _ _ (by omega)]
  congr 2; omega

set_option maxHeartbeats 2000000 in
theorem reverse_mid (g N C lo o n c : Nat) (ys xs : List Int) (w : World) (h1 : Own w lo (some ⟨g, 0, none⟩) N C (ys ++ xs)) (hy : ys.length = o) (hx : xs.length = n) :
    Calls Try.prog 108 #[.slice (some ⟨g, o, none⟩) n c] w fun e w' => e = .returned (.tuple #[]) ∧ Own w' lo (some ⟨g, 0, none⟩) N C (ys ++ xs.reverse) ∧ Touch (fun q => q = g) w w' := by
  have hcap := h1.cap
  have hl := h1.len
  rw [List.length_append, hx, hy] at hl
  have HL := Lib.hid hl; have HX := Lib.hid hx; have HY := Lib.hid hy
  have hN : o + n ≤ 9223372036854775807 := by omega
  clear hl hx hy hcap
  go_enter Try.func108, Try.ntmps108
  go_wp2
  go_loopw [2, 3] (fun i j wr => ∃ k : Nat, 2 * k ≤ n + 1 ∧ i = .int .i64 k ∧ j = .int .i64 ((n : Int) - 1 - k) ∧ Own wr lo (some ⟨g, 0, none⟩) N C (ys ++ revK xs k) ∧ Touch (fun q => q = g) w wr) (fun i _ _ => n - (intOf i).toNat)
  case atStart => exact ⟨0, by omega, rfl, by simp, by rw [revK_zero]; exact h1, Touch.refl _ _⟩
  case round =>
    obtain ⟨k, hk, rfl, rfl, ho, ht⟩ := hrel
    by_cases hlt : 2 * k + 1 < n
    · obtain ⟨_, hc, hf⟩ := ho.cells
      have hxl := HX.out
      have hyl := HY.out
      have hNl := HL.out
      obtain ⟨m, hm⟩ : ∃ m, m = n - 1 - k := ⟨_, rfl⟩
      have hkm : k < m := by omega
      have hmn : m < n := by omega
      have hck := hc (o + k) (by omega)
      have hcj := hc (o + m) (by omega)
      rw [app_getD _ _ _ _ hyl, revK_getD _ _ _ (by omega), if_neg (by omega)] at hck hcj
      have hfk := hf (o + k)
      have hfj := hf (o + m)
      have ej : (n : Int) - 1 - k = (m : Int) := by omega
      have es : ((revK xs k).set k (xs.getD m 0)).set m (xs.getD k 0) = revK xs (k + 1) := by
        have := revK_step xs k (by omega)
        rw [hxl, ← hm] at this; exact this
      obtain ⟨X, hX⟩ : ∃ X, X = xs.getD k 0 := ⟨_, rfl⟩
      obtain ⟨Y, hY⟩ : ∃ Y, Y = xs.getD m 0 := ⟨_, rfl⟩
      rw [← hX] at hck es
      rw [← hY] at hcj es
      clear hc hf
      have HS := Lib.hid es
      have HM := Lib.hid hm
      clear es hxl hyl hNl hX hY hm
      rw [ej]; clear ej
      go_wp2
      go_region
      all_goals go_wp2
      all_goals go_roundw
      case rel =>
        refine ⟨k + 1, by omega, by go_num, ?_, ?_, ?_⟩
        · have := HM.out
          exact congrArg (Value.int .i64) (by omega)
        · rw [← HS.out, ← app_set _ _ o _ _ HY.out, ← app_set _ _ o _ _ HY.out]
          exact (ho.set (o + k) Y).set (o + m) X
        · exact Touch.drewN (Touch.set (p := ⟨g, o + m, none⟩) (Touch.set (p := ⟨g, o + k, none⟩) ht rfl _) rfl _) 1
      case measure => simp [intOf]; omega
    · go_wp2
      go_end0
      refine ⟨rfl, ?_, ht⟩
      rw [revK_end _ _ (by have := HX.out; omega)] at ho
      exact ho

/-- the last place before which a list can grow -/
def nxI (p : List Int) : Nat → Option Nat
  | 0 => none
  | j + 1 => if p.getD (j + 1) 0 < p.getD j 0 then nxI p j else some j
/-- the last place, up to j, of a number that is at least v -/
def nxK (p : List Int) (v : Int) : Nat → Nat
  | 0 => 0
  | j + 1 => if p.getD (j + 1) 0 < v then nxK p v j else j + 1
def swpQ (p : List Int) (i k : Nat) : List Int := (p.set i (p.getD k 0)).set k (p.getD i 0)
/-- the next permutation -/
def nxP (p : List Int) : Option (List Int) :=
  match nxI p (p.length - 1) with
  | none => none
  | some i => some ((fun q : List Int => q.take (i + 1) ++ (q.drop (i + 1)).reverse) (swpQ p i (nxK p (p.getD i 0) (p.length - 1))))
end Go.Proofs.Ytehomfbehhlhmaa
