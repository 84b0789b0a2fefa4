/-
  Walks and plain laws of this seat, some texts in one.
  No condition but bounds on lengths.
-/
import Derived.Test.YtpdgpgbgakinlaaGreatPb30
import Derived.Test.YtpdgpgbgakinlaaGreatPb3
import Derived.Test.YtpdgpgbgakinlaaGreatPb17
import Derived.Test.YtpdgpgbgakinlaaGreatPb23
import Derived.Test.YtpdgpgbgakinlaaGreatPb9
import Derived.Test.YtpdgpgbgakinlaaGreatPb7
namespace Go.Proofs.YtpdgpgbgakinlaaGreat
set_option linter.unusedVariables false
set_option linter.unusedSimpArgs false
set_option maxRecDepth 100000
open Go.RowKit
theorem ins_isP {i q : Nat} {p : List Int} (h : IsP i p) (hq : q ≤ i) : IsP (i + 1) (p.take q ++ ((i : Int) :: p.drop q)) := by
  obtain ⟨f, g, hl, h1, h2⟩ := h
  refine ⟨fun j => if j < q then f j else if j = q then i else f (j - 1), fun v => if v = i then q else if g v < q then g v else g v + 1, ?_, fun j hj => ?_, fun j hj => ?_⟩
  · simp; omega
  · refine ⟨?_, ?_, ?_, ?_⟩
    · dsimp only
      split
      · have := (h1 j (by omega)).1; omega
      · split
        · omega
        · have := (h1 (j - 1) (by omega)).1; omega
    · dsimp only
      split
      · omega
      · have := (h1 j (by omega)).2.1
        split <;> omega
    · dsimp only
      by_cases e : j = i
      · rw [if_pos e, if_neg (by omega), if_pos rfl, e]
      · rw [if_neg e]
        have h3 := h1 j (by omega)
        by_cases e2 : g j < q
        · rw [if_pos e2, if_pos e2, h3.2.2.1]
        · rw [if_neg e2, if_neg (by omega), if_neg (by omega), Nat.add_sub_cancel, h3.2.2.1]
    · dsimp only
      by_cases e : j < q
      · have h3 := h1 j (by omega)
        rw [if_pos e, if_neg (by omega), h3.2.2.2, if_pos e]
      · rw [if_neg e]
        by_cases e2 : j = q
        · rw [if_pos e2, if_pos rfl, e2]
        · have h3 := h1 (j - 1) (by omega)
          rw [if_neg e2, if_neg (by omega), h3.2.2.2, if_neg (by omega)]; omega
  · dsimp only
    by_cases e : j < q
    · rw [if_pos e, List.getD_eq_getElem?_getD, List.getElem?_append_left (by simp; omega), List.getElem?_take, if_pos e, ← List.getD_eq_getElem?_getD]
      exact h2 j (by omega)
    · rw [if_neg e, List.getD_eq_getElem?_getD, List.getElem?_append_right (by simp; omega)]
      have : (p.take q).length = q := by simp; omega
      rw [this]
      by_cases e2 : j = q
      · rw [if_pos e2, e2, Nat.sub_self]; simp
      · rw [if_neg e2]
        obtain ⟨r, hr⟩ : ∃ r, j - q = r + 1 := ⟨j - q - 1, by omega⟩
        rw [hr, List.getElem?_cons_succ, List.getElem?_drop, ← List.getD_eq_getElem?_getD]
        have : q + r = j - 1 := by omega
        rw [this]
        exact h2 (j - 1) (by omega)
theorem Row.take0 {w : World} {a : Option Addr} {n : Nat} {xs : List Int} (h : Row w a n xs) (m : Nat) (hm : m ≤ n) : Row w a m (xs.take m) := by
  refine ⟨by rw [List.length_take, ← h.len]; omega, fun i hi => ?_⟩
  obtain ⟨b, off, e1, e2, e3⟩ := h.2 i (by omega)
  refine ⟨b, off, e1, e2, ?_⟩
  rw [e3]
  simp [List.getD_eq_getElem?_getD, List.getElem?_take, hi]
theorem Row.drop0 {w : World} {g n : Nat} {xs : List Int} (h : Row w (some ⟨g, 0, none⟩) n xs) (q : Nat) (hq : q ≤ n) : Row w (some ⟨g, q, none⟩) (n - q) (xs.drop q) := by
  refine ⟨by rw [List.length_drop, h.len], fun i hi => ?_⟩
  obtain ⟨b, off, e1, e2, e3⟩ := h.2 (q + i) (by omega)
  cases e1
  refine ⟨g, q, rfl, e2, ?_⟩
  rw [Nat.zero_add] at e3
  rw [e3]
  simp [List.getD_eq_getElem?_getD]
set_option maxHeartbeats 8000000 in
theorem l03DrawPerm_ok (b n : Nat) (w : World) (h : Src w b) (hn : n ≤ 100) :
    Calls Tryz.prog 124 #[.pointer (some ⟨b, 0, none⟩), .int .i64 n] w (PrD b w n) := by
  have hlt := h.lt
  have hO := Own.fresh w rfl
  have hs0 := h.below (below_al (Below.refl w.heap.size w) (.cells #[] 2))
  have hG0 := World.grownBy_alloc w (.cells #[] 2) (some b)
  go_enter Tryz.func124, Tryz.ntmps124
  go_wp2
  go_loopw [5, 6, 7, 8] (fun z i _ _ wr => ∃ (k : Nat) (g c : Nat) (p : List Int), k ≤ n ∧ i = .int .i64 k ∧ z = .slice (some ⟨g, 0, none⟩) k c ∧ Hid (IsP k p) ∧ Own wr w.heap.size (some ⟨g, 0, none⟩) k c p ∧ Src wr b ∧ w.grownBy wr (some b)) (fun _ i _ _ _ => n - (intOf i).toNat)
  case atStart => exact ⟨0, _, 0, [], Nat.zero_le _, rfl, rfl, Lib.hid ⟨id, id, rfl, fun i hi => absurd hi (by omega), fun i hi => absurd hi (by omega)⟩, hO, hs0, hG0⟩
  case round =>
    clear hO hs0 hG0
    obtain ⟨k, g, c, p, hk, rfl, rfl, HP, ho, hs, hG⟩ := hrel
    by_cases hlt2 : k < n
    · go_wp2_with fail
      refine (l01Next_ok b ((k : Int) + 1) _ hs ⟨by omega, by omega⟩).mono ?_
      rintro e w3 ⟨x, rfl, _, hx, hs3, hg3⟩
      obtain ⟨hx1, hx2⟩ := hx (by omega)
      obtain ⟨q, rfl⟩ : ∃ q : Nat, x = q := ⟨x.toNat, by omega⟩
      have hq : q ≤ k := by omega
      clear hx hx1 hx2
      have hlo := ho.lo _ rfl
      have ho3 := ho.grown hg3 (fun g e => by have := ho.lo g e; simp; omega)
      have hG3 := grown_trans hG hg3
      have hcap := ho3.cap
      have i1 : (0 : Int) ≤ (q : Int) := by omega
      have i2 : (q : Int) ≤ (k : Int) := by omega
      have i3 : (q : Int) ≤ (c : Int) := by omega
      have i4 : (k : Int) ≤ (c : Int) := by omega
      have hrow : Row (w3.alloc (.cells #[.int .i64 k] 2)) (if c = q then some ⟨g, 0, none⟩ else some ⟨g, q, none⟩) (k - q) (p.drop q) := by
        split
        · have e0 : k - q = 0 := by omega
          have e1 : p.drop q = [] := List.drop_of_length_le (by have := ho3.len; omega)
          rw [e0, e1]; exact Row.nil _ _
        · exact (ho3.row.alloc _).drop0 q hq
      have HINS := Lib.hid (ins_isP HP.out hq)

      go_upto_region 7 with (at_builtin; refine appL rfl rfl (Own.single w3 rfl (k : Int)) rfl hrow rfl (by omega) (by simp) ?_; intro a5 c5 w5 hO5 hg5 hb5')
      have hb5 : Below w3.heap.size w3 w5 := (below_al (Below.refl w3.heap.size w3) _).trans hb5'
      have hz5 := hb5.size
      have ho5 : Own w5 w.heap.size (some ⟨g, 0, none⟩) k c p := ho3.below hb5
      have hs5 := hs3.below hb5
      have hG5 := grown_trans hG3 (grown_of_below hb5 (some b))
      have htk := ((ho5.row).take0 q hq).alloc (.cells #[] 2)
      have hw3s : w.heap.size ≤ w3.heap.size := Nat.le_of_lt (Nat.lt_of_le_of_lt hlo (ho3.hi _ rfl))
      go_wp2_with (first
        | (at_builtin; refine appL rfl rfl (Own.fresh w5 rfl) rfl htk rfl (by omega) (by simp) ?_; intro a6 c6 w6 hO6 hg6 hb6'; have hb6 : Below w5.heap.size w5 w6 := (below_al (Below.refl w5.heap.size w5) _).trans hb6'; rw [Nat.zero_add] at hO6 ⊢; have hO5' := hO5.below hb6)
        | (at_builtin; refine appL rfl rfl hO6 rfl hO5'.row rfl (by omega) hb6.size ?_; intro a7 c7 w7 hO7 hg7 hb7; rw [show q + (1 + (k - q)) = k + 1 by omega] at hO7 ⊢))
      have hb56 : Below w5.heap.size w5 w7 := hb6.trans hb7
      obtain ⟨g7, rfl⟩ : ∃ g7, a7 = some ⟨g7, 0, none⟩ := by
        rcases hO7.block with ⟨_, e, _⟩ | ⟨g7, cur, e, _⟩
        · omega
        · exact ⟨g7, e⟩
      go_roundw
      case rel => exact ⟨k + 1, g7, c7, _, by omega, by go_num, rfl, HINS.out, (by simpa using hO7.mono (lo' := w.heap.size) (by omega)), hs5.below hb56, grown_trans hG5 (grown_of_below hb56 _)⟩
      case measure => simp [intOf]; omega
    · obtain rfl : k = n := by omega
      go_wp2
      go_ret
      exact ⟨_, _, p, rfl, HP.out, ho, hs, hG⟩
end Go.Proofs.YtpdgpgbgakinlaaGreat

namespace Go.Proofs.YtpdgpgbgakinlaaGreat
set_option linter.unusedVariables false
set_option linter.unusedSimpArgs false
set_option maxRecDepth 100000
open Go.RowKit
def cjI (L : List (List Int)) (x y : Nat) : Nat := L.findIdx fun r => decide (r = cjL (L.getD x []) (L.getD y []))
theorem cjI_at {L : List (List Int)} {x y : Nat} (h : cjI L x y < L.length) : L.getD (cjI L x y) [] = cjL (L.getD x []) (L.getD y []) := by
  have t : decide (L[cjI L x y] = cjL (L.getD x []) (L.getD y [])) = true := List.findIdx_getElem (p := fun r => decide (r = cjL (L.getD x []) (L.getD y []))) (xs := L) (w := h)
  rw [List.getD_eq_getElem?_getD (l := L) (i := cjI L x y), List.getElem?_eq_getElem h, Option.getD_some]
  simpa using t
theorem cjI_ne {L : List (List Int)} {x y j : Nat} (h : j < cjI L x y) : L.getD j [] ≠ cjL (L.getD x []) (L.getD y []) := by
  have hl : j < L.length := Nat.lt_of_lt_of_le h List.findIdx_le_length
  have t := List.not_of_lt_findIdx (p := fun r => decide (r = cjL (L.getD x []) (L.getD y []))) (xs := L) h
  rw [List.getD_eq_getElem?_getD (l := L) (i := j), List.getElem?_eq_getElem hl, Option.getD_some]
  simpa using t
def trL : List (List Int) := [[0, 2, 1], [1, 0, 2], [2, 1, 0]]
structure CjOk (m : Nat) (L : List (List Int)) : Prop where
  len : L.length = m
  isP : ∀ x, x < m → IsP 3 (L.getD x [])
  lt : ∀ x y, x < m → y < m → cjI L x y < m
theorem cj_of {m : Nat} {L : List (List Int)} (hl : L.length = m) (h : ((List.range m).all fun x => isPb 3 (L.getD x []) && (List.range m).all fun y => decide (cjI L x y < m)) = true) : CjOk m L := by
  refine ⟨hl, fun x hx => ?_, fun x y hx hy => ?_⟩
  · have := List.all_eq_true.1 h x (List.mem_range.2 hx)
    rw [Bool.and_eq_true] at this
    exact isPb_ok this.1
  · have := List.all_eq_true.1 h x (List.mem_range.2 hx)
    rw [Bool.and_eq_true] at this
    simpa using List.all_eq_true.1 this.2 y (List.mem_range.2 hy)
theorem cj_prm : CjOk 6 (prmL 3) := cj_of (by decide +kernel) (by decide +kernel)
theorem cj_tr : CjOk 3 trL := cj_of (by decide +kernel) (by decide +kernel)
theorem litT (w : World) (t t' : TypeId) : Tbl ((((w.alloc (.cells #[.int .i64 0, .int .i64 2, .int .i64 1] t)).alloc (.cells #[.int .i64 1, .int .i64 0, .int .i64 2] t)).alloc (.cells #[.int .i64 2, .int .i64 1, .int .i64 0] t)).alloc (.cells #[.slice (some ⟨w.heap.size, 0, none⟩) 3 3, .slice (some ⟨w.heap.size + 1, 0, none⟩) 3 3, .slice (some ⟨w.heap.size + 1 + 1, 0, none⟩) 3 3] t')) (some ⟨w.heap.size + 1 + 1 + 1, 0, none⟩) 3 trL := by
  have h1 := (((Loc.new w rfl #[.int .i64 0, .int .i64 2, .int .i64 1] t).alloc (.cells #[.int .i64 1, .int .i64 0, .int .i64 2] t)).alloc (.cells #[.int .i64 2, .int .i64 1, .int .i64 0] t)).alloc (.cells #[.slice (some ⟨w.heap.size, 0, none⟩) 3 3, .slice (some ⟨w.heap.size + 1, 0, none⟩) 3 3, .slice (some ⟨w.heap.size + 1 + 1, 0, none⟩) 3 3] t')
  have h2 := ((Loc.new (w.alloc (.cells #[.int .i64 0, .int .i64 2, .int .i64 1] t)) (b := w.heap.size + 1) (by simp) #[.int .i64 1, .int .i64 0, .int .i64 2] t).alloc (.cells #[.int .i64 2, .int .i64 1, .int .i64 0] t)).alloc (.cells #[.slice (some ⟨w.heap.size, 0, none⟩) 3 3, .slice (some ⟨w.heap.size + 1, 0, none⟩) 3 3, .slice (some ⟨w.heap.size + 1 + 1, 0, none⟩) 3 3] t')
  have h3 := (Loc.new ((w.alloc (.cells #[.int .i64 0, .int .i64 2, .int .i64 1] t)).alloc (.cells #[.int .i64 1, .int .i64 0, .int .i64 2] t)) (b := w.heap.size + 1 + 1) (by simp) #[.int .i64 2, .int .i64 1, .int .i64 0] t).alloc (.cells #[.slice (some ⟨w.heap.size, 0, none⟩) 3 3, .slice (some ⟨w.heap.size + 1, 0, none⟩) 3 3, .slice (some ⟨w.heap.size + 1 + 1, 0, none⟩) 3 3] t')
  have hh := Loc.new (((w.alloc (.cells #[.int .i64 0, .int .i64 2, .int .i64 1] t)).alloc (.cells #[.int .i64 1, .int .i64 0, .int .i64 2] t)).alloc (.cells #[.int .i64 2, .int .i64 1, .int .i64 0] t)) (b := w.heap.size + 1 + 1 + 1) (by simp) #[.slice (some ⟨w.heap.size, 0, none⟩) 3 3, .slice (some ⟨w.heap.size + 1, 0, none⟩) 3 3, .slice (some ⟨w.heap.size + 1 + 1, 0, none⟩) 3 3] t'
  refine ⟨rfl, fun i hi => ?_⟩
  match i, hi with
  | 0, _ => exact ⟨_, 0, _, 3, 3, rfl, hh.lt, hh.cell 0 rfl, row_loc h1 rfl rfl, by omega⟩
  | 1, _ => exact ⟨_, 0, _, 3, 3, rfl, hh.lt, hh.cell 1 rfl, row_loc h2 rfl rfl, by omega⟩
  | 2, _ => exact ⟨_, 0, _, 3, 3, rfl, hh.lt, hh.cell 2 rfl, row_loc h3 rfl rfl, by omega⟩
theorem cell_mark {w w' : World} {S : Nat → Prop} (hm : Marked S w w') {b o : Nat} (hb : b < w.heap.size) (hS : ¬ S b) : w'.cell? ⟨b, o, none⟩ = w.cell? ⟨b, o, none⟩ := World.cell?_of_block (hm.block b hb hS)
theorem Row.mark0 {w w' : World} {a : Option Addr} {n B0 : Nat} {xs : List Int} (h : Row w a n xs) (hm : Marked (fun g => g = B0) w w') (h0 : ∀ k, w.cell? ⟨B0, k, none⟩ = none) : Row w' a n xs :=
  ⟨h.1, fun i hi => by
    obtain ⟨b, off, h1, h3, h2⟩ := h.2 i hi
    exact ⟨b, off, h1, Nat.lt_of_lt_of_le h3 hm.size, (cell_mark hm h3 (fun e => by have e : b = B0 := e; rw [e, h0] at h2; cases h2)).trans h2⟩⟩
theorem Tbl.mark0 {w w' : World} {a : Option Addr} {n B0 : Nat} {xss : List (List Int)} (h : Tbl w a n xss) (hm : Marked (fun g => g = B0) w w') (h0 : ∀ k, w.cell? ⟨B0, k, none⟩ = none) : Tbl w' a n xss :=
  ⟨h.1, fun i hi => by
    obtain ⟨b, off, ai, ni, ci, h1, h3, h2, h4, h5⟩ := h.2 i hi
    exact ⟨b, off, ai, ni, ci, h1, Nat.lt_of_lt_of_le h3 hm.size, (cell_mark hm h3 (fun e => by have e : b = B0 := e; rw [e, h0] at h2; cases h2)).trans h2, h4.mark0 hm h0, h5⟩⟩
theorem loc_none {w : World} {b : Nat} {t : TypeId} (h : Loc w b #[] t) : ∀ k, w.cell? ⟨b, k, none⟩ = none := fun k => by
  unfold Loc at h; simp [World.cell?, h]
end Go.Proofs.YtpdgpgbgakinlaaGreat
