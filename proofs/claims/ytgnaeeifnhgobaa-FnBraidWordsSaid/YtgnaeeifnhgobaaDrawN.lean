/-
  Drawn texts: what the drawing functions leave, whatever they draw.
  No condition but bounds.
-/
import Derived.Test.YtgnaeeifnhgobaaDraw
import Derived.Test.YtgnaeeifnhgobaaNamS
namespace Go.Proofs.Ytgnaeeifnhgobaa
set_option linter.unusedVariables false
set_option linter.unusedSimpArgs false
set_option maxRecDepth 100000
open Go.RowKit

def sgnL : List ByteArray := [⟨#[48]⟩, ⟨#[49]⟩, ⟨#[50]⟩, ⟨#[53]⟩, ⟨#[57]⟩, ⟨#[97]⟩, ⟨#[98]⟩, ⟨#[99]⟩, ⟨#[47]⟩, ⟨#[124]⟩, ⟨#[32]⟩, ⟨#[44]⟩, ⟨#[45]⟩, ⟨#[58]⟩, ⟨#[120]⟩, ⟨#[121]⟩, ⟨#[115]⟩, ⟨#[10]⟩]
theorem sgnL_one (k : Nat) (h : k < 18) : (sgnL.getD k ByteArray.empty).size = 1 := by
  exact (by decide : ∀ k : Fin 18, (sgnL.getD k.1 ByteArray.empty).size = 1) ⟨k, h⟩
theorem rowSt_lit (w : World) (cs : Array Value) (t : TypeId) (xs : List ByteArray) (h : cs.toList = xs.map Value.string) : RowSt (w.alloc (.cells cs t)) (some ⟨w.heap.size, 0, none⟩) xs.length xs := by
  refine ⟨rfl, fun i hi => ⟨w.heap.size, 0, rfl, by simp, (Loc.new w rfl cs t).cell _ ?_⟩⟩
  rw [Nat.zero_add, ← Array.getElem?_toList, h, List.getElem?_map, List.getElem?_eq_getElem hi]
  simp [List.getD_eq_getElem?_getD, List.getElem?_eq_getElem hi]
theorem RowSt.grown {w w' : World} {a : Option Addr} {n : Nat} {xs : List ByteArray} {r : Option Nat} (h : RowSt w a n xs) (hg : w.grownBy w' r) (hne : ∀ g o, 0 < n → a = some ⟨g, o, none⟩ → some g ≠ r) : RowSt w' a n xs :=
  ⟨h.1, fun i hi => by
    obtain ⟨b, off, h1, h3, h2⟩ := h.2 i hi
    exact ⟨b, off, h1, Nat.lt_of_lt_of_le h3 hg.size, hg.cell (a := ⟨b, off + i, none⟩) h2 (hne b off (by omega) h1)⟩⟩

set_option maxHeartbeats 4000000 in
theorem l01Damage_ok (b : Nat) (t : ByteArray) (w : World) (h : Src w b) (ht : t.size ≤ 1000) :
    Calls Try.prog 49 #[.pointer (some ⟨b, 0, none⟩), .string t] w fun e w' => ∃ u, e = .returned (.string u) ∧ u.size ≤ t.size + 1 ∧ Src w' b ∧ w.grownBy w' (some b) := by
  have hlt := h.lt
  go_enter Try.func49, Try.ntmps49
  go_wp2_with fail
  refine (l01Next_ok b 18 _ (h.below (below_al (Below.refl _ _) _)) ⟨by omega, by omega⟩).mono ?_
  rintro e w1 ⟨x, rfl, _, hx, hs1, hg1⟩
  obtain ⟨hx1, hx2⟩ := hx (by omega)
  obtain ⟨k, rfl⟩ : ∃ k : Nat, x = k := ⟨x.toNat, by omega⟩
  have hR := (rowSt_lit w _ _ sgnL rfl).grown hg1 (fun g o _ e => by cases e; simp; omega)
  have hG1 := grown_trans (World.grownBy_alloc w _ (some b)) hg1
  obtain ⟨q, off, e1, hc⟩ := hR.at k (by show k < 18; omega)
  cases e1
  have hcz := sgnL_one k (by omega)
  obtain ⟨C, HC⟩ : ∃ C, Hid (sgnL.getD k ByteArray.empty = C) := ⟨_, rfl⟩
  rw [HC.out] at hc hcz
  rw [Nat.zero_add] at hc
  clear hR
  by_cases h0 : t.size = 0
  · have h0' : (t.size : Int) = 0 := by omega
    go_wp2
    go_ret
    exact ⟨_, rfl, by omega, hs1, hG1⟩
  · have h0' : ¬ (t.size : Int) = 0 := by omega
    go_wp2_with fail
    refine (l01Next_ok b (t.size : Int) _ hs1 ⟨by omega, by omega⟩).mono ?_
    rintro e w2 ⟨y, rfl, _, hy, hs2, hg2⟩
    obtain ⟨hy1, hy2⟩ := hy (by omega)
    obtain ⟨j, rfl⟩ : ∃ j : Nat, y = j := ⟨y.toNat, by omega⟩
    have hG2 := grown_trans hG1 hg2
    go_wp2_with fail
    refine (l01Next_ok b 3 _ hs2 ⟨by omega, by omega⟩).mono ?_
    rintro e w3 ⟨z, rfl, _, hz, hs3, hg3⟩
    obtain ⟨hz1, hz2⟩ := hz (by omega)
    have hG3 := grown_trans hG2 hg3
    have s1 : (0 : Int) ≤ (j : Int) := by omega
    have s2 : (j : Int) ≤ (t.size : Int) := by omega
    have s3 : IntKind.i64.wrap ((j : Int) + 1) = (j : Int) + 1 := IntWalk.i64_in _ ⟨by omega, by omega⟩
    have s4 : (0 : Int) ≤ (j : Int) + 1 := by omega
    have s5 : (j : Int) + 1 ≤ (t.size : Int) := by omega
    have s6 : ((j : Int) + 1).toNat = j + 1 := by omega
    have hz3 : z = 0 ∨ z = 1 ∨ z = 2 := by omega
    clear hx hy hz hx1 hx2 hy1 hy2 hz1 hz2
    rcases hz3 with rfl | rfl | rfl
    · go_wp2
      go_quiet (fail)
      go_wp2
      go_ret
      exact ⟨_, rfl, by simp; omega, hs3.below (below_drewN (Below.refl _ _) _), grown_drewN hG3 _⟩
    · go_wp2
      go_quiet (fail)
      go_wp2
      go_ret
      exact ⟨_, rfl, by simp; omega, hs3.below (below_drewN (Below.refl _ _) _), grown_drewN hG3 _⟩
    · go_wp2
      go_quiet (fail)
      go_wp2
      go_ret
      exact ⟨_, rfl, by simp; omega, hs3.below (below_drewN (Below.refl _ _) _), grown_drewN hG3 _⟩

theorem txtL_le (k : Nat) (h : k < 20) : (txtL.getD k ByteArray.empty).size ≤ 100 := (by decide : ∀ k : Fin 20, (txtL.getD k.1 ByteArray.empty).size ≤ 100) ⟨k, h⟩
end Go.Proofs.Ytgnaeeifnhgobaa
