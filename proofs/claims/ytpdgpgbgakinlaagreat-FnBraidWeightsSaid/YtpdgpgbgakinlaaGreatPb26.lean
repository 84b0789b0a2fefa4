/-
  Walks and plain laws of this seat, some texts in one.
  No condition but bounds on lengths.
-/
import Derived.Test.YtpdgpgbgakinlaaGreatPb5
import Derived.Test.YtpdgpgbgakinlaaGreatPb7
import Derived.Test.YtpdgpgbgakinlaaGreatPb8
import Derived.Test.YtpdgpgbgakinlaaGreatPb16
import Derived.Deep.RegionHeld3
import Derived.IntWalk
import Derived.Test.YtpdgpgbgakinlaaGreatPb1
import Derived.Test.YtpdgpgbgakinlaaGreatPb10
import Derived.Test.YtpdgpgbgakinlaaGreatPb12
import Derived.Test.YtpdgpgbgakinlaaGreatPb4
import Derived.Test.YtpdgpgbgakinlaaGreatPb3
import Derived.Test.YtpdgpgbgakinlaaGreatPb11
namespace Go.Proofs.YtpdgpgbgakinlaaGreat
set_option maxRecDepth 100000
set_option linter.unusedVariables false
set_option linter.unusedSimpArgs false
open Go.RowKit
def isPr (p : Int) : Prop := p = 2 ∨ p = 3 ∨ p = 5 ∨ p = 7
instance (p : Int) : Decidable (isPr p) := by unfold isPr; infer_instance
theorem inv_facts {p a : Int} (hp : isPr p) (h0 : 0 < a) (h1 : a < p) : ∃ I : Nat, invF p a = I ∧ 1 ≤ I ∧ I ≤ 6 ∧ (∀ k : Nat, 1 ≤ k → k ≤ I → 0 ≤ a * (k : Int) ∧ a * (k : Int) ≤ 49 ∧ (a * (k : Int) % p = 1 ↔ k = I)) := by
  obtain ⟨v1, v2, v3, v4⟩ := invF_ok hp a h0 h1
  unfold IsInv at v1
  unfold isPr at hp
  obtain ⟨I, hI⟩ : ∃ I : Nat, invF p a = I := ⟨(invF p a).toNat, by omega⟩
  rw [hI] at v1 v2 v3 v4
  refine ⟨I, hI, by omega, by omega, fun k k1 k2 => ⟨Int.mul_nonneg (by omega) (by omega), ?_, ?_, ?_⟩⟩
  · have : a * (k : Int) ≤ 7 * 7 := Int.mul_le_mul (by omega) (by omega) (by omega) (by omega)
    omega
  · intro e
    by_cases q : k = I
    · exact q
    · exact absurd e (v4 k k1 (by omega))
  · rintro rfl; exact v1
set_option maxHeartbeats 1000000 in
theorem l15Inverse_ok (a p : Int) (hp : isPr p) (h0 : 0 < a) (h1 : a < p) (w : World) :
    Calls Tryz.prog 184 #[.int .i64 a, .int .i64 p] w fun e w' => e = .returned (.int .i64 (invF p a)) ∧ w = w' := by
  obtain ⟨I, hI, i1, i6, hk⟩ := inv_facts hp h0 h1
  rw [hI]
  have HK := Lib.hid hk; clear hk
  have p2 : 2 ≤ p ∧ p ≤ 7 := by unfold isPr at hp; omega
  clear hp hI
  have p0 : p ≠ 0 := by omega
  go_enter Tryz.func184, Tryz.ntmps184
  go_wp2
  go_loop [5] (fun i => ∃ k : Nat, 1 ≤ k ∧ k ≤ I ∧ i = .int .i64 k) (fun i => I - (intOf i).toNat)
  case atStart => exact ⟨1, by omega, by omega, rfl⟩
  case round =>
    obtain ⟨k, k1, kI, rfl⟩ := hrel
    obtain ⟨m0, m1, m2⟩ := HK.out k k1 kI
    have hw : IntKind.i64.wrap (a * (k : Int)) = a * (k : Int) := IntWalk.i64_in _ (by omega)
    have ht : (a * (k : Int)).tmod p = a * (k : Int) % p := IntWalk.rem_in _ _ (by omega)
    obtain ⟨R, hR⟩ : ∃ R, a * (k : Int) % p = R := ⟨_, rfl⟩
    rw [hR] at m2 ht
    clear hR m0 m1
    by_cases e : k = I
    · obtain rfl : R = 1 := m2.2 e
      clear m2
      subst e
      go_wp2
      go_ret
      exact ⟨rfl, rfl⟩
    · have hb : (R != 1) = true := by simpa using fun h => e (m2.1 h)
      clear m2
      go_wp2
      go_round
      case rel => exact ⟨k + 1, by omega, by omega, by go_num⟩
      case measure => simp [intOf]; omega
def ldI (xs : List Int) : Int := if ldN xs = xs.length then -1 else ldN xs
theorem ldI_hit {xs : List Int} {k : Nat} (hk : k < xs.length) (h1 : ∀ i, i < k → gv xs i = 0) (h2 : gv xs k ≠ 0) : ldI xs = k := by
  unfold ldI; rw [ldN_eq hk h2 h1, if_neg (by omega)]
theorem ldI_miss {xs : List Int} (h1 : ∀ i, i < xs.length → gv xs i = 0) : ldI xs = -1 := by
  unfold ldI
  have : ¬ ldN xs < xs.length := fun h => ldN_lt h (h1 _ h)
  have := ldN_le xs
  rw [if_pos (by omega)]
set_option maxHeartbeats 1000000 in
theorem l15First_any (a : Option Addr) (n c : Nat) (xs : List Int) (w : World) (h1 : Row w a n xs) (hm : n ≤ 1000000000000) :
    Calls Tryz.prog 167 #[.slice a n c] w fun e w' => e = .returned (.int .i64 (ldI xs)) ∧ w = w' := by
  have hl := h1.len
  have HL := Lib.hid hl; clear hl
  go_enter Tryz.func167, Tryz.ntmps167
  go_wp2
  go_loop [3] (fun i => ∃ k : Nat, k ≤ n ∧ i = .int .i64 k ∧ Hid (∀ j, j < k → gv xs j = 0)) (fun i => n - (intOf i).toNat)
  case atStart => exact ⟨0, Nat.zero_le _, rfl, Lib.hid fun j hj => absurd hj (by omega)⟩
  case round =>
    obtain ⟨k, hk, rfl, hz⟩ := hrel
    by_cases hlt : k < n
    · obtain ⟨b, off, rfl, g1⟩ := h1.at k hlt
      clear h1
      obtain ⟨X, hX⟩ : ∃ X, xs.getD k 0 = X := ⟨_, rfl⟩
      rw [hX] at g1
      have HX := Lib.hid hX; clear hX
      by_cases e : X = 0
      · subst e
        go_wp2
        go_round
        case rel =>
          refine ⟨k + 1, by omega, by go_num, Lib.hid fun j hj => ?_⟩
          by_cases q : j < k
          · exact hz.out j q
          · obtain rfl : j = k := by omega
            exact HX.out
        case measure => simp [intOf]; omega
      · have hb : (X != 0) = true := by simpa using e
        go_wp2
        go_ret
        exact ⟨ret_int (ldI_hit (by have := HL.out; omega) hz.out (by unfold gv; rw [HX.out]; exact e)).symm, rfl⟩
    · obtain rfl : k = n := by omega
      go_wp2
      go_ret
      exact ⟨ret_int (ldI_miss (by have := HL.out; rw [← this]; exact hz.out)).symm, rfl⟩
set_option maxHeartbeats 1000000 in
theorem l15Prime_ok (p : Int) (b : Bool) (h : decide (isPr p) = b) (w : World) :
    Calls Tryz.prog 128 #[.int .i64 p] w fun e w' => e = .returned (.bool b) ∧ w = w' := by
  by_cases q2 : p = 2
  · have e : b = true := by rw [← h]; simp [isPr, q2]
    subst e q2; clear h
    go_enter Tryz.func128, Tryz.ntmps128
    go_wp2
    go_ret
    exact ⟨rfl, rfl⟩
  by_cases q3 : p = 3
  · have e : b = true := by rw [← h]; simp [isPr, q3]
    subst e q3; clear h
    go_enter Tryz.func128, Tryz.ntmps128
    go_wp2
    go_ret
    exact ⟨rfl, rfl⟩
  by_cases q5 : p = 5
  · have e : b = true := by rw [← h]; simp [isPr, q5]
    subst e q5; clear h
    go_enter Tryz.func128, Tryz.ntmps128
    go_wp2
    go_ret
    exact ⟨rfl, rfl⟩
  by_cases q7 : p = 7
  · have e : b = true := by rw [← h]; simp [isPr, q7]
    subst e q7; clear h
    go_enter Tryz.func128, Tryz.ntmps128
    go_wp2
    go_ret
    exact ⟨rfl, rfl⟩
  have e : b = false := by rw [← h]; simp [isPr, q2, q3, q5, q7]
  subst e; clear h
  have b2 : (p == 2) = false := by simpa using q2
  have b3 : (p == 3) = false := by simpa using q3
  have b5 : (p == 5) = false := by simpa using q5
  have b7 : (p == 7) = false := by simpa using q7
  go_enter Tryz.func128, Tryz.ntmps128
  go_wp2
  go_ret
  exact ⟨rfl, rfl⟩
end Go.Proofs.YtpdgpgbgakinlaaGreat

namespace Go.Proofs.YtpdgpgbgakinlaaGreat
set_option maxRecDepth 100000
set_option linter.unusedVariables false
set_option linter.unusedSimpArgs false
open Go.RowKit
theorem grw_refl (w : World) (r : Option Nat) : w.grownBy w r := ⟨rfl, rfl, rfl, Nat.le_refl _, fun _ _ _ => rfl⟩
theorem grw_set {a w : World} {b : Nat} (h : a.grownBy w (some b)) {p : Addr} (hp : p.block = b ∨ a.heap.size ≤ p.block) (u : Value) : a.grownBy (w.setCell p u) (some b) :=
  ⟨h.os, h.tape, h.output, by rw [size_set]; exact h.size, fun k hk hn => (Below.heap_setCell _ _ _ k (fun e => by rcases hp with hp | hp; exact hn (by rw [e, hp]); omega)).trans (h.block k hk hn)⟩
theorem Row.grw {w w' : World} {a : Option Addr} {n : Nat} {xs : List Int} {r : Option Nat} (h : Row w a n xs) (hg : w.grownBy w' r) (hne : ∀ g o, 0 < n → a = some ⟨g, o, none⟩ → some g ≠ r) : Row w' a n xs :=
  ⟨h.1, fun i hi => by
    obtain ⟨b, off, h1, h3, h2⟩ := h.2 i hi
    exact ⟨b, off, h1, Nat.lt_of_lt_of_le h3 hg.size, hg.cell (a := ⟨b, off + i, none⟩) h2 (hne b off (by omega) h1)⟩⟩
theorem gv_set {a : List Int} {j i : Nat} {x : Int} (h : i < a.length) : gv (a.set j x) i = if i = j then x else gv a i := by
  unfold gv
  simp only [List.getD_eq_getElem?_getD, List.getElem?_set]
  by_cases e : i = j
  · subst e; simp [h]
  · rw [if_neg e, if_neg (fun h => e h.symm)]
theorem mul_bd {x y : Int} (h0 : 0 ≤ x) (h1 : x ≤ 7) (g0 : 0 ≤ y) (g1 : y ≤ 7) : 0 ≤ x * y ∧ x * y ≤ 49 :=
  ⟨Int.mul_nonneg h0 g0, by have : x * y ≤ 7 * 7 := Int.mul_le_mul h1 g1 g0 (by omega); omega⟩
theorem addL_take {p t : Int} {a b : List Int} {j : Nat} (h : j < a.length) : (addL p t a b).take (j + 1) = (addL p t a b).take j ++ [(gv a j + t * gv b j) % p] := by
  have hx : j < (addL p t a b).length := by rw [addL_len]; exact h
  rw [List.take_succ_eq_append_getElem hx]
  simp [addL]
set_option maxHeartbeats 2000000 in
theorem l15Less_ok (p f : Int) (a1 a2 : Option Addr) (n c1 c2 : Nat) (xs ys : List Int) (w : World) (h1 : Row w a1 n xs) (h2 : Row w a2 n ys) (hn : n ≤ 1000000)
    (p2 : 2 ≤ p ∧ p ≤ 7) (ht : 0 ≤ p - f ∧ p - f ≤ 7) (hx : Vec p n xs) (hy : Vec p n ys) :
    Calls Tryz.prog 183 #[.slice a1 n c1, .slice a2 n c2, .int .i64 f, .int .i64 p] w fun e w' => ∃ a c, e = .returned (.slice a n c) ∧ Own w' w.heap.size a n c (addL p (p - f) xs ys) ∧ Below w.heap.size w w' := by
  have HX := Lib.hid hx; have HY := Lib.hid hy
  clear hx hy
  have p0 : p ≠ 0 := by omega
  obtain ⟨t, hT⟩ : ∃ t, p - f = t := ⟨_, rfl⟩
  have hWT : IntKind.i64.wrap (p - f) = t := by rw [hT]; exact IntWalk.i64_in _ (by omega)
  rw [hT] at ht ⊢
  clear hT
  have hlen : Hid (∀ k, n ≤ k → (addL p t xs ys).take k = addL p t xs ys) := Lib.hid fun k hk => List.take_of_length_le (by rw [addL_len]; have := HX.out.1; omega)
  go_enter Tryz.func183, Tryz.ntmps183
  go_wp2
  have ho := Own.fresh w rfl
  have hb := below_al (Below.refl w.heap.size w) (.cells #[] 2)
  go_loopw [9, 10] (fun z i wr => ∃ (k : Nat) (a' : Option Addr) (c' : Nat), k ≤ n ∧ i = .int .i64 k ∧ z = .slice a' k c' ∧ Own wr w.heap.size a' k c' ((addL p t xs ys).take k) ∧ Below w.heap.size w wr) (fun _ i _ => n - (intOf i).toNat)
  case atStart => exact ⟨0, _, _, Nat.zero_le _, rfl, rfl, by simpa using ho, hb⟩
  case round =>
    clear ho hb
    obtain ⟨k, a', c', hk, rfl, rfl, ho, hb⟩ := hrel
    by_cases hlt : k < n
    · obtain ⟨b1, o1, rfl, d1⟩ := h1.at k hlt
      obtain ⟨b2, o2, rfl, d2⟩ := h2.at k hlt
      clear h1 h2
      have z1 : b1 < w.heap.size := World.block_lt_of_cell? w _ d1
      have z2 : b2 < w.heap.size := World.block_lt_of_cell? w _ d2
      have d1 : wr.cell? ⟨b1, o1 + k, none⟩ = some (.int .i64 (gv xs k)) := (hb.cell (p := ⟨b1, o1 + k, none⟩) z1).trans d1
      have d2 : wr.cell? ⟨b2, o2 + k, none⟩ = some (.int .i64 (gv ys k)) := (hb.cell (p := ⟨b2, o2 + k, none⟩) z2).trans d2
      have hX := HX.out.2 k hlt
      have hY := HY.out.2 k hlt
      have hst := addL_take (p := p) (t := t) (a := xs) (b := ys) (j := k) (by have := HX.out.1; omega)
      have hwr := hb.size
      generalize gv xs k = X at *
      generalize gv ys k = Y at *
      have hm := mul_bd ht.1 ht.2 hY.1 (by omega)
      have hmw : IntKind.i64.wrap (t * Y) = t * Y := IntWalk.i64_in _ (by omega)
      have hsw : IntKind.i64.wrap (X + t * Y) = X + t * Y := IntWalk.i64_in _ (by omega)
      have hrw : (X + t * Y).tmod p = (X + t * Y) % p := IntWalk.rem_in _ _ (by omega)
      have HST := Lib.hid hst; clear hst hX hY hm
      go_wp2
      go_region_held3 (fun w' => w'.cell? ⟨b1, o1 + k, none⟩ = some (.int .i64 X) ∧ w'.cell? ⟨b2, o2 + k, none⟩ = some (.int .i64 Y))
        (first | exact ⟨d1, d2⟩ | exact ⟨hK1, hK2⟩ | go_keep)
        (first
        | (refine step_app1 rfl rfl ho rfl rfl ?_ ?_ ?_; (omega); (omega); intro g' cc w5 hO hg5 hs5 hb5; have hK1 := (hb5.cell (p := ⟨b1, o1 + k, none⟩) (z1)).trans d1; have hK2 := (hb5.cell (p := ⟨b2, o2 + k, none⟩) (z2)).trans d2))
      all_goals
        go_wp2
        go_roundw
        case rel =>
          refine ⟨k + 1, _, _, by omega, by go_num, rfl, ?_, hb.trans hb5⟩
          rw [HST.out]
          exact hO
        case measure => simp [intOf]; omega
    · obtain rfl : k = n := by omega
      rw [hlen.out k (by omega)] at ho
      go_wp2
      go_ret
      exact ⟨_, _, rfl, ho, hb⟩
end Go.Proofs.YtpdgpgbgakinlaaGreat

namespace Go.Proofs.YtpdgpgbgakinlaaGreat
set_option maxRecDepth 100000
set_option linter.unusedVariables false
set_option linter.unusedSimpArgs false
open Go.RowKit
/-! ### A slice of numbers that is read -/
def RowIn (w : World) (a : Option Addr) (n : Nat) (xs : List Int) : Prop :=
  n = xs.length ∧ ∀ i, i < n → ∃ b off, a = some ⟨b, off, none⟩ ∧ b < w.heap.size ∧ w.cell? ⟨b, off + i, none⟩ = some ((Value.int .i64) (xs.getD i 0))
theorem RowIn.nil (w : World) (a : Option Addr) : RowIn w a 0 [] := ⟨rfl, fun i h => absurd h (by omega)⟩
theorem RowIn.len {w : World} {a : Option Addr} {n : Nat} {xs : List Int} (h : RowIn w a n xs) : n = xs.length := h.1
theorem RowIn.at {w : World} {a : Option Addr} {n : Nat} {xs : List Int} (h : RowIn w a n xs) (i : Nat) (hi : i < n) : ∃ b off, a = some ⟨b, off, none⟩ ∧ w.cell? ⟨b, off + i, none⟩ = some ((Value.int .i64) (xs.getD i 0)) := by
  obtain ⟨b, off, h1, _, h2⟩ := h.2 i hi; exact ⟨b, off, h1, h2⟩
theorem RowIn.all {w : World} {a : Option Addr} {n : Nat} {xs : List Int} (h : RowIn w a n xs) (hn : 0 < n) : ∃ b off, a = some ⟨b, off, none⟩ ∧ b < w.heap.size ∧ ∀ i, i < n → w.cell? ⟨b, off + i, none⟩ = some ((Value.int .i64) (xs.getD i 0)) := by
  obtain ⟨b, off, h1, h3, h2⟩ := h.2 0 hn
  refine ⟨b, off, h1, h3, fun i hi => ?_⟩
  obtain ⟨b', off', h4, _, h5⟩ := h.2 i hi
  rw [h1] at h4; cases h4; exact h5
theorem RowIn.below {w w' : World} {a : Option Addr} {n : Nat} {xs : List Int} (h : RowIn w a n xs) (hb : Below w.heap.size w w') : RowIn w' a n xs :=
  ⟨h.1, fun i hi => by obtain ⟨b, off, h1, h3, h2⟩ := h.2 i hi; exact ⟨b, off, h1, Nat.lt_of_lt_of_le h3 hb.size, (hb.cell (p := ⟨b, off + i, none⟩) h3).trans h2⟩⟩
theorem RowIn.drewN {w : World} {a : Option Addr} {n : Nat} {xs : List Int} (h : RowIn w a n xs) (k : Nat) : RowIn (w.drewN k) a n xs := h
theorem RowIn.alloc {w : World} {a : Option Addr} {n : Nat} {xs : List Int} (h : RowIn w a n xs) (o : Obj) : RowIn (w.alloc o) a n xs := h.below ((Below.refl _ _).alloc (Nat.le_refl _) o)
/-! ### A slice of numbers that the call owns (its block lies from 'lo' on) -/
def OwnIn (w : World) (lo : Nat) (a : Option Addr) (n c : Nat) (xs : List Int) : Prop := n = xs.length ∧ w.ownsRow lo 3 1 (.slice a n c) n (xs.map (((Value.int .i64))))
theorem OwnIn.nil (w : World) (lo : Nat) : OwnIn w lo none 0 0 [] := ⟨rfl, World.ownsRow_nil w lo _ 1⟩
theorem OwnIn.len {w : World} {lo : Nat} {a : Option Addr} {n c : Nat} {xs : List Int} (h : OwnIn w lo a n c xs) : n = xs.length := h.1
theorem OwnIn.alloc {w : World} {lo : Nat} {a : Option Addr} {n c : Nat} {xs : List Int} (h : OwnIn w lo a n c xs) (o : Obj) : OwnIn (w.alloc o) lo a n c xs := ⟨h.1, h.2.alloc o⟩
theorem OwnIn.drew {w : World} {lo : Nat} {a : Option Addr} {n c : Nat} {xs : List Int} (h : OwnIn w lo a n c xs) : OwnIn w.drew lo a n c xs := h
theorem OwnIn.drewN {w : World} {lo : Nat} {a : Option Addr} {n c : Nat} {xs : List Int} (h : OwnIn w lo a n c xs) (k : Nat) : OwnIn (w.drewN k) lo a n c xs := h
theorem OwnIn.block {w : World} {lo : Nat} {a : Option Addr} {n c : Nat} {xs : List Int} (h : OwnIn w lo a n c xs) : (a = none ∧ n = 0 ∧ c = 0) ∨ ∃ g cur, a = some ⟨g, 0, none⟩ ∧ lo ≤ g ∧ Loc w g cur 3 ∧ n ≤ c ∧ c ≤ maxLen ∧ cur.size = c ∧ cur.toList.take n = xs.map (((Value.int .i64))) := by
  rcases h.2.2 with ⟨h1, h2⟩ | ⟨g, cap, cur, h1, h2, h3, h4, h5, h6, h7⟩
  · cases h1; exact .inl ⟨rfl, rfl, rfl⟩
  · cases h1; exact .inr ⟨g, cur, rfl, h2, h3, h4, h5, by simpa using h6, by simpa using h7⟩
theorem OwnIn.mk {w : World} {lo : Nat} {g n c : Nat} {xs : List Int} {cur : Array Value} (hn : n = xs.length) (h1 : lo ≤ g) (h2 : Loc w g cur 3) (h3 : n ≤ c) (h4 : c ≤ maxLen) (h5 : cur.size = c) (h6 : cur.toList.take n = xs.map (((Value.int .i64)))) : OwnIn w lo (some ⟨g, 0, none⟩) n c xs :=
  ⟨hn, by simp [hn], .inr ⟨g, c, cur, rfl, h1, h2, h3, h4, by simpa using h5, by simpa using h6⟩⟩
theorem OwnIn.lt {w : World} {lo : Nat} {g o n c : Nat} {xs : List Int} (h : OwnIn w lo (some ⟨g, o, none⟩) n c xs) : lo ≤ g ∧ g < w.heap.size := by
  rcases h.block with ⟨h1, _⟩ | ⟨g', cur, h1, h2, h3, _⟩
  · cases h1
  · cases h1; exact ⟨h2, h3.lt⟩
theorem OwnIn.mono {w : World} {lo lo' : Nat} {a : Option Addr} {n c : Nat} {xs : List Int} (h : OwnIn w lo a n c xs) (hl : lo' ≤ lo) : OwnIn w lo' a n c xs := by
  rcases h.block with ⟨rfl, rfl, rfl⟩ | ⟨g, cur, rfl, h2, h3, h4, h5, h6, h7⟩
  · have : xs = [] := List.eq_nil_of_length_eq_zero h.1.symm
    subst this; exact OwnIn.nil _ _
  · exact OwnIn.mk h.1 (by omega) h3 h4 h5 h6 h7
theorem OwnIn.keep {w w' : World} {lo : Nat} {a : Option Addr} {n c : Nat} {xs : List Int} (h : OwnIn w lo a n c xs) (hk : ∀ g, a = some ⟨g, 0, none⟩ → g < w.heap.size → w'.heap[g]? = w.heap[g]?) : OwnIn w' lo a n c xs := by
  rcases h.block with ⟨rfl, rfl, rfl⟩ | ⟨g, cur, rfl, h2, h3, h4, h5, h6, h7⟩
  · have : xs = [] := List.eq_nil_of_length_eq_zero h.1.symm
    subst this; exact OwnIn.nil _ _
  · exact OwnIn.mk h.1 h2 ((hk g rfl h3.lt).trans h3) h4 h5 h6 h7
theorem OwnIn.below {w w' : World} {lo : Nat} {a : Option Addr} {n c : Nat} {xs : List Int} (h : OwnIn w lo a n c xs) (hb : Below w.heap.size w w') : OwnIn w' lo a n c xs := h.keep fun g _ hlt => hb.block g hlt
theorem OwnIn.setne {w : World} {lo : Nat} {a : Option Addr} {n c : Nat} {xs : List Int} (h : OwnIn w lo a n c xs) {p : Addr} (hp : ∀ g, a = some ⟨g, 0, none⟩ → g ≠ p.block) (u : Value) : OwnIn (w.setCell p u) lo a n c xs := h.keep fun g hg _ => Below.heap_setCell _ _ _ _ (hp g hg)
theorem OwnIn.setlo {w : World} {lo : Nat} {a : Option Addr} {n c : Nat} {xs : List Int} (h : OwnIn w lo a n c xs) {p : Addr} (hp : p.block < lo) (u : Value) : OwnIn (w.setCell p u) lo a n c xs := by
  refine h.setne (fun g hg => ?_) u
  subst hg; have := h.lt; omega
theorem OwnIn.grown {w w' : World} {lo : Nat} {a : Option Addr} {n c : Nat} {xs : List Int} {row : Option Nat} (h : OwnIn w lo a n c xs) (hg : w.grownBy w' row) (hne : ∀ g, a = some ⟨g, 0, none⟩ → some g ≠ row) : OwnIn w' lo a n c xs := h.keep fun g hg' hlt => hg.block g hlt (hne g hg')
theorem OwnIn.cap {w : World} {lo : Nat} {a : Option Addr} {n c : Nat} {xs : List Int} (h : OwnIn w lo a n c xs) : n ≤ c ∧ c ≤ 9223372036854775807 := by
  rcases h.block with ⟨rfl, rfl, rfl⟩ | ⟨g, cur, rfl, h2, h3, h4, h5, h6, h7⟩
  · omega
  · unfold maxLen at h5; omega
theorem OwnIn.cells {w : World} {lo : Nat} {g o n c : Nat} {xs : List Int} (h : OwnIn w lo (some ⟨g, o, none⟩) n c xs) : o = 0 ∧ (∀ i, i < n → w.cell? ⟨g, i, none⟩ = some ((Value.int .i64) (xs.getD i 0))) ∧ (∀ i, w.frozen? ⟨g, i, none⟩ = false) := by
  rcases h.block with ⟨h1, _⟩ | ⟨g', cur, h1, h2, h3, h4, h5, h6, h7⟩
  · cases h1
  · cases h1
    refine ⟨rfl, fun i hi => h3.cell i ?_, fun i => h3.free i⟩
    have hx : (cur.toList.take n)[i]? = (xs.map (((Value.int .i64))))[i]? := by rw [h7]
    have hxi : i < xs.length := by have := h.1; omega
    rw [List.getElem?_take, if_pos hi] at hx
    simp [List.getElem?_eq_getElem hxi] at hx
    simp [List.getD_eq_getElem?_getD, List.getElem?_eq_getElem hxi, hx]
theorem OwnIn.row {w : World} {lo : Nat} {a : Option Addr} {n c : Nat} {xs : List Int} (h : OwnIn w lo a n c xs) : RowIn w a n xs := by
  refine ⟨h.1, fun i hi => ?_⟩
  rcases h.block with ⟨rfl, rfl, rfl⟩ | ⟨g, cur, rfl, h2, h3, _⟩
  · omega
  · exact ⟨g, 0, rfl, h3.lt, by simpa using h.cells.2.1 i hi⟩
theorem OwnIn.set {w : World} {lo : Nat} {g n c : Nat} {xs : List Int} (h : OwnIn w lo (some ⟨g, 0, none⟩) n c xs) (i : Nat) (x : Int) : OwnIn (w.setCell ⟨g, i, none⟩ ((Value.int .i64) x)) lo (some ⟨g, 0, none⟩) n c (xs.set i x) := by
  rcases h.block with ⟨h1, _⟩ | ⟨g', cur, h1, h2, h3, h4, h5, h6, h7⟩
  · cases h1
  · cases h1
    refine OwnIn.mk (by simp [h.1]) h2 (h3.set i _) h4 h5 (by simpa using h6) ?_
    rw [Array.toList_setIfInBounds, List.take_set, h7, List.map_set]
theorem OwnIn.hi {w : World} {lo : Nat} {a : Option Addr} {n c : Nat} {xs : List Int} (h : OwnIn w lo a n c xs) : ∀ g, a = some ⟨g, 0, none⟩ → g < w.heap.size := fun g hg => by subst hg; exact h.lt.2
theorem OwnIn.lo {w : World} {lo : Nat} {a : Option Addr} {n c : Nat} {xs : List Int} (h : OwnIn w lo a n c xs) : ∀ g, a = some ⟨g, 0, none⟩ → lo ≤ g := fun g hg => by subst hg; exact h.lt.1
theorem OwnIn.single (w : World) {b : Nat} (hb : b = w.heap.size) (y : Int) : OwnIn (w.alloc (.cells #[Value.int .i64 y] 3)) w.heap.size (some ⟨b, 0, none⟩) 1 1 [y] :=
  OwnIn.mk rfl (by omega) (Loc.new _ hb _ _) (Nat.le_refl _) (by unfold maxLen; omega) rfl rfl
theorem OwnIn.fresh (w : World) {b : Nat} (hb : b = w.heap.size) : OwnIn (w.alloc (.cells #[] 3)) w.heap.size (some ⟨b, 0, none⟩) 0 0 [] :=
  OwnIn.mk rfl (by omega) (Loc.new _ hb _ _) (Nat.le_refl _) (by unfold maxLen; omega) rfl rfl
end Go.Proofs.YtpdgpgbgakinlaaGreat

namespace Go.Proofs.YtpdgpgbgakinlaaGreat
set_option maxRecDepth 100000
set_option linter.unusedVariables false
set_option linter.unusedSimpArgs false
open Go.RowKit
set_option maxHeartbeats 1000000 in
theorem l15Tuple_any (n k N : Nat) (w : World) (hn1 : 1 ≤ n) (hn : n ≤ 1000000) (hk : k ≤ 1000000) (hN : N ≤ 1000000000000) :
    Calls Tryz.prog 165 #[.int .i64 n, .int .i64 k, .int .i64 N] w fun e w' => ∃ a c, e = .returned (.slice a k c) ∧ Own w' w.heap.size a k c (digL n k N) ∧ Below w.heap.size w w' := by
  go_enter Tryz.func165, Tryz.ntmps165
  go_wp2_with (at_make; refine make1 rfl rfl rfl rfl (by omega) ?_; intro w1 ho hs hb)
  have hn0 : (n : Int) ≠ 0 := by omega
  go_loopw [2, 8] (fun q i wr => ∃ j : Nat, j ≤ k ∧ i = .int .i64 ((k : Int) - 1 - j) ∧ q = .int .i64 ((N / n ^ j : Nat) : Int) ∧ Own wr w.heap.size (some ⟨w.heap.size, 0, none⟩) k k (digP n k N j) ∧ Below w.heap.size w wr) (fun _ i _ => (intOf i + 1).toNat)
  case atStart => exact ⟨0, Nat.zero_le _, by go_num, by simp, by rw [digP_zero]; exact ho, hb⟩
  case round =>
    clear ho hb
    obtain ⟨j, hj, rfl, rfl, ho, hb⟩ := hrel
    by_cases hlt : j < k
    · have hq : N / n ^ j ≤ N := Nat.div_le_self _ _
      have hst := digP_step n k N j hlt
      have hdv := div_pow_succ n j N
      obtain ⟨Q, hQ⟩ : ∃ Q, Q = N / n ^ j := ⟨_, rfl⟩
      rw [← hQ] at hq hst hdv ⊢
      have Qr : ((Q : Int)).tmod (n : Int) = ((Q % n : Nat) : Int) := by rw [Int.tmod_eq_emod_of_nonneg (by omega)]; simp
      have Qd : ((Q : Int)).tdiv (n : Int) = ((Q / n : Nat) : Int) := by rw [Int.tdiv_eq_ediv_of_nonneg (by omega)]; simp
      have b1 : Q % n ≤ Q := Nat.mod_le _ _
      have b2 : Q / n ≤ Q := Nat.div_le_self _ _
      have HST := Lib.hid hst; have HDV := Lib.hid hdv
      clear hst hdv hQ
      obtain ⟨i, hi⟩ : ∃ i : Nat, i = k - 1 - j := ⟨_, rfl⟩
      have hii : (k : Int) - 1 - (j : Int) = (i : Int) := by omega
      have hik : i < k := by omega
      rw [hii]
      have HI := Lib.hid hi; have HII := Lib.hid hii
      clear hi hii
      generalize hR : Q % n = R at *
      generalize hD : Q / n = D at *
      have HR := Lib.hid hR; have HD := Lib.hid hD; clear hR hD
      have Wr : IntKind.i64.wrap (R : Int) = (R : Int) := IntWalk.i64_in _ (by omega)
      have Wd : IntKind.i64.wrap (D : Int) = (D : Int) := IntWalk.i64_in _ (by omega)
      have Wi : IntKind.i64.wrap ((i : Int) - 1) = (i : Int) - 1 := IntWalk.i64_in _ (by omega)
      obtain ⟨_, hc, hf⟩ := ho.cells
      have hc1 := hc i hik
      have hf1 := hf i
      clear hc hf
      go_wp2
      go_roundw
      case rel =>
        refine ⟨j + 1, by omega, ?_, by rw [← HDV.out], ?_, hb.setCell (by simp) _⟩
        · have := HII.out
          congr 1
          omega
        · rw [← HST.out, ← HI.out]
          exact ho.set i _
      case measure => first | (simp [intOf]; done) | (simp [intOf]; omega)
    · obtain rfl : j = k := by omega
      have e1 : (j : Int) - 1 - (j : Int) = -1 := by omega
      rw [e1]
      rw [digP_full] at ho
      go_wp2
      go_ret
      exact ⟨_, _, rfl, ho, hb⟩
/-! ### counted pairs -/
def numP (n : Nat) (l : List Int) (k : Nat) : Nat := (l.getD k 0).toNat * n + (l.getD (k + 1) 0).toNat
def cpS (f g : List (List Int)) (n : Nat) (p t : Int) (st : List Int × List Int) (k : Nat) : List Int × List Int :=
  (doF f g k st.1, st.2.set (numP n st.1 k) ((gv st.2 (numP n st.1 k) + t) % p))
def cpF (f g : List (List Int)) (n : Nat) (p t : Int) (ks : List Nat) (st : List Int × List Int) : List Int × List Int := ks.foldl (cpS f g n p t) st
def rowW (f g : List (List Int)) (n : Nat) (p : Int) (m : Nat) : List Int :=
  (cpF f g n p (p - 1) [1, 0, 1] (digL n 3 m, (cpF f g n p 1 [0, 1, 0] (digL n 3 m, List.replicate (n * n) 0)).2)).2
theorem cpF_take {f g : List (List Int)} {n : Nat} {p t : Int} {ks : List Nat} {st : List Int × List Int} {i : Nat} (h : i < ks.length) : cpF f g n p t (ks.take (i + 1)) st = cpS f g n p t (cpF f g n p t (ks.take i) st) ks[i] := by
  unfold cpF; rw [List.take_succ_eq_append_getElem h, List.foldl_append]; rfl
theorem set_vec {p : Int} {N : Nat} {r : List Int} (h : Vec p N r) (j : Nat) {z : Int} (h0 : 0 ≤ z) (h1 : z < p) : Vec p N (r.set j z) := by
  refine ⟨by rw [List.length_set]; exact h.1, fun i hi => ?_⟩
  rw [gv_set (by rw [h.1]; exact hi)]
  by_cases e : i = j
  · rw [if_pos e]; exact ⟨h0, h1⟩
  · rw [if_neg e]; exact h.2 i hi
structure CpI (n : Nat) (p : Int) (s : Nat) (st : List Int × List Int) : Prop where
  len : st.1.length = s
  less : Less n st.1
  vec : Vec p (n * n) st.2
theorem CpI.step {f g : List (List Int)} {n : Nat} {p t : Int} {s : Nat} {st : List Int × List Int} (h : CpI n p s st) (hf : Sq n f) (hg : Sq n g) (hp : 0 < p) {k : Nat} (hk : k + 1 < s) : CpI n p s (cpS f g n p t st k) := by
  have hl := h.len
  exact ⟨by show (doF f g k st.1).length = s; rw [doF_len]; exact hl, h.less.do_ hf hg k (by omega), set_vec h.vec _ (Int.emod_nonneg _ (by omega)) (Int.emod_lt_of_pos _ hp)⟩
theorem CpI.fold {f g : List (List Int)} {n : Nat} {p t : Int} {s : Nat} {st : List Int × List Int} (h : CpI n p s st) (hf : Sq n f) (hg : Sq n g) (hp : 0 < p) {ks : List Nat} (hk : ∀ k, k ∈ ks → k + 1 < s) : CpI n p s (cpF f g n p t ks st) := by
  induction ks generalizing st with
  | nil => exact h
  | cons k ks ih => exact ih (h.step hf hg hp (hk k (by simp))) fun j hj => hk j (by simp [hj])
end Go.Proofs.YtpdgpgbgakinlaaGreat
