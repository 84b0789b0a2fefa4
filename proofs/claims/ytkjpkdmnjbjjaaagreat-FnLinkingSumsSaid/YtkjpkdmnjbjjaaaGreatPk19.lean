/-
  Walks and plain laws of this seat, some texts in one.
  No condition but bounds on lengths.
-/
import Derived.Test.YtkjpkdmnjbjjaaaGreatPk6
import Derived.Test.YtkjpkdmnjbjjaaaGreatPk7
import Derived.Test.YtkjpkdmnjbjjaaaGreatPk1
import Derived.Test.YtkjpkdmnjbjjaaaGreatPk8
import Derived.Test.YtkjpkdmnjbjjaaaGreatPk10
import Derived.Test.YtkjpkdmnjbjjaaaGreatPk9
import Derived.Test.YtkjpkdmnjbjjaaaGreatPk18
import Derived.Test.YtkjpkdmnjbjjaaaGreatPk2
import Derived.Test.YtkjpkdmnjbjjaaaGreatPk14
import Derived.Deep.RegionHeld3
import Derived.Deep.LoopGhost
import Derived.Sort.LoopGhostIn
import Derived.RangeFuncNested
import Derived.RangeFuncBound
import Derived.RangeFuncCalls
import Derived.RangeFuncLeaves
import Derived.OwnWalkIn
import Derived.TacticsInMore
import Derived.LoopNIn
import Derived.LoopIn
import Derived.Test.YtkjpkdmnjbjjaaaGreatPk12
import Derived.Test.YtkjpkdmnjbjjaaaGreatPk3
import Derived.ChangeMaps5
namespace Go.Proofs.YtkjpkdmnjbjjaaaGreat
set_option maxRecDepth 100000
set_option linter.unusedVariables false
set_option linter.unusedSimpArgs false
open Go.RowKit
theorem Own.cut {w : World} {lo : Nat} {a : Option Addr} {n c : Nat} {xs : List Int} (h : Own w lo a n c xs) {m : Nat} (hm : m ≤ n) : Own w lo a m c (xs.take m) := by
  rcases h.block with ⟨rfl, rfl, rfl⟩ | ⟨g, cur, rfl, h2, h3, h4, h5, h6, h7⟩
  · obtain rfl : m = 0 := by omega
    exact Own.nil _ _
  · refine Own.mk (by rw [List.length_take]; have := h.1; omega) h2 h3 (by omega) h5 h6 ?_
    have := congrArg (List.take m) h7
    rw [List.take_take, Nat.min_eq_left hm] at this
    rw [this, List.map_take]
theorem redF_no {ys : List Int} {x : Int} (h : ys.length = 0 ∨ ys.getD (ys.length - 1) 0 ≠ -x) : redF ys x = ys ++ [x] := by
  unfold redF
  rw [if_neg]
  intro e
  rw [List.getLast?_eq_getElem?] at e
  obtain ⟨hl, e2⟩ := List.getElem?_eq_some_iff.1 e
  rcases h with h | h
  · omega
  · exact h (by rw [List.getD_eq_getElem?_getD, e]; rfl)
theorem redF_yes {ys : List Int} {x : Int} {q : Nat} (hl : ys.length = q + 1) (h : ys.getD q 0 = -x) : redF ys x = ys.take q := by
  unfold redF
  rw [if_pos]
  · rw [List.dropLast_eq_take, hl]; rfl
  · rw [List.getLast?_eq_getElem?, hl]
    rw [List.getD_eq_getElem?_getD, Nat.add_sub_cancel, List.getElem?_eq_getElem (by omega)] at *
    simpa using h
theorem redF_len (ys : List Int) (x : Int) : (redF ys x).length ≤ ys.length + 1 := by
  unfold redF; split
  · simp; omega
  · simp
theorem red_succ (xs : List Int) (k : Nat) (h : k < xs.length) : (xs.take (k + 1)).foldl redF [] = redF ((xs.take k).foldl redF []) xs[k] := by
  rw [List.take_succ_eq_append_getElem h, List.foldl_append]; rfl
theorem red_len (xs : List Int) : ∀ k, k ≤ xs.length → ((xs.take k).foldl redF []).length ≤ k := by
  intro k
  induction k with
  | zero => intro _; simp
  | succ k ih => intro h; rw [red_succ xs k (by omega)]; have := ih (by omega); have := redF_len ((xs.take k).foldl redF []) xs[k]; omega
set_option maxHeartbeats 4000000 in
theorem impl_Red_ok (s : Int) (a : Option Addr) (n c : Nat) (xs : List Int) (w : World) (h1 : Row w a n xs) (hm : n ≤ 9223372036854775807) (hb : isBr s xs = true) :
    Calls Tryz.prog 30 #[bAgg s a n c] w (RetB w s (redL xs) 0) := by
  have HB := Lib.hid hb
  have hbr := isBr_let hb
  have HL := Lib.hid h1.len
  have hn30 : n ≤ 30 := by have := h1.len; omega
  have HRL := Lib.hid (red_len xs)
  have HLB : Hid (∀ k (h : k < xs.length), -6 ≤ xs[k] ∧ xs[k] ≤ 6) := Lib.hid fun k h => by have := hbr.2.2 _ (List.getElem_mem h); omega
  clear hb hbr
  obtain ⟨w0, hw0⟩ : ∃ w0, (w.alloc (.cells #[.int .i64 s, .slice a n c] 42)).alloc (.cells #[.int .i64 0, .slice none 0 0] 42) = w0 := ⟨_, rfl⟩
  have hA : Loc w0 w.heap.size #[.int .i64 s, .slice a n c] 42 := by rw [← hw0]; exact (Loc.new w rfl _ _).alloc _
  have hR : Loc w0 (w.heap.size + 1) #[.int .i64 0, .slice none 0 0] 42 := by rw [← hw0]; exact Loc.new _ (by simp) _ _
  have hB0 : Below w.heap.size w w0 := by rw [← hw0]; exact below_al (below_al (Below.refl _ _) _) _
  have hz0 : w0.heap.size = w.heap.size + 2 := by rw [← hw0]; simp
  have hr0 := h1.below hB0
  have HW0 := Lib.hid hw0
  have HZ0 := Lib.hid hz0
  clear hw0 hz0
  have lA0 := hA.two
  go_enter Tryz.func30, Tryz.ntmps30
  go_wp2_with fail
  rw [HW0.out]
  refine (isBraid_any _ _ _ _ xs _ hr0 hm).mono ?_
  rintro e w1 ⟨rfl, hb1⟩
  rw [HB.out]
  replace hA := hA.below hb1 hA.lt
  replace hR := hR.below hb1 hR.lt
  have hB1 := below_th hB0 hb1
  have lA1 := hA.two
  have hz1 : w.heap.size + 2 ≤ w1.heap.size := by have := hb1.size; have := HZ0.out; omega
  have hr1 := hr0.below hb1
  have hrw := hr1.alloc (.cells #[.int .i64 s, .slice none 0 0] 42)
  have lA2 := (hA.alloc (.cells #[.int .i64 s, .slice none 0 0] 42)).two
  clear lA0
  go_wp2
  go_loopw [6, 7, 18] (fun _ _ i wr => ∃ (k : Nat) (a' : Option Addr) (m c' : Nat), k ≤ n ∧ i = .int .i64 k ∧ Loc wr w.heap.size #[.int .i64 s, .slice a n c] 42 ∧ Loc wr (w.heap.size + 1) #[.int .i64 0, .slice none 0 0] 42 ∧ Loc wr w1.heap.size #[.int .i64 s, .slice a' m c'] 42 ∧
    Own wr (w1.heap.size + 1) a' m c' ((xs.take k).foldl redF []) ∧ Below w.heap.size w wr ∧ w1.heap.size + 1 ≤ wr.heap.size) (fun _ _ i _ => n - (intOf i).toNat)
  case atStart => exact ⟨0, none, 0, 0, Nat.zero_le _, rfl, hA.alloc _, hR.alloc _, Loc.new w1 rfl _ _, Own.nil _ _, below_al hB1 _, by simp⟩
  case round =>
    clear hA hR lA1 lA2
    obtain ⟨k, a', m, c', hk, rfl, hA, hR, hL, ho, hB, hz⟩ := hrel
    have lL := hL.two
    have lR := hR.two
    by_cases hlt : k < n
    · obtain ⟨b, off, rfl, g1⟩ := (h1.below hB).at k hlt
      have hx : k < xs.length := by have := HL.out; omega
      have hm30 : m ≤ 30 := by have := ho.len; have := HRL.out k (by omega); omega
      have hy := HLB.out k hx
      have hS := red_succ xs k hx
      rw [getD_at hx] at g1
      obtain ⟨X, HX⟩ : ∃ X, Hid (xs[k] = X) := ⟨_, Lib.hid rfl⟩
      rw [HX.out] at g1 hy hS
      obtain ⟨hy1, hy2⟩ := hy
      have hng : IntKind.i64.wrap (-X) = -X := IntWalk.i64_in _ ⟨by omega, by omega⟩
      have i1 : (0 : Int) ≤ (k : Int) := by omega
      have i2 : (k : Int) < (n : Int) := by omega
      have HLE := Lib.hid ho.len
      obtain ⟨ys, HYS⟩ : ∃ ys, Hid ((xs.take k).foldl redF [] = ys) := ⟨_, rfl⟩
      rw [HYS.out] at ho hS HLE
      clear lR
      rcases m with _ | q
      · have HS := Lib.hid (hS.trans (redF_no (.inl HLE.out.symm)))
        clear hS
        go_wp2_with (at_builtin; refine app1 rfl rfl ho rfl rfl (by omega) (by omega) ?_; intro g' cc w8 hO hg8 hs8 hb8; have hL8 := hL.below hb8 (by omega); have lL8 := hL8.two)
        go_roundw
        case rel =>
          refine ⟨k + 1, some ⟨g', 0, none⟩, 0 + 1, cc, by omega, by go_num, (hA.below hb8 (by omega)).setne (by simp; omega) _, (hR.below hb8 (by omega)).setne (by simp; omega) _, hL8.set 1 _, ?_, (hB.trans (hb8.mono (by omega))).setCell (by simp; omega) _, by rw [size_set]; omega⟩
          rw [HS.out]
          exact hO.setlo (by simp) _
        case measure => simp [intOf]; omega
      · obtain ⟨gy, oy, rfl, g2⟩ := ho.row.at q (by omega)
        have hc := ho.cap
        have hw1 : IntKind.i64.wrap (((q + 1 : Nat) : Int) - 1) = (q : Int) := (IntWalk.i64_in _ ⟨by omega, by omega⟩).trans (by omega)
        obtain ⟨Y, HY⟩ : ∃ Y, Hid (ys.getD q 0 = Y) := ⟨_, rfl⟩
        rw [HY.out] at g2
        have i3 : (0 : Int) ≤ (q : Int) := by omega
        have i4 : (q : Int) < ((q + 1 : Nat) : Int) := by omega
        have i5 : (q : Int) ≤ (c' : Int) := by omega
        by_cases hyx : Y = -X
        · have HS := Lib.hid (hS.trans (redF_yes HLE.out.symm (HY.out.trans hyx)))
          subst hyx
          clear hS
          have hcut := ho.cut (show q ≤ q + 1 by omega)
          go_wp2
          go_roundw
          case rel =>
            refine ⟨k + 1, some ⟨gy, oy, none⟩, q, c', by omega, by go_num, hA.setne (by simp; omega) _, hR.setne (by simp; omega) _, hL.set 1 _, ?_, hB.setCell (by simp; omega) _, by rw [size_set]; exact hz⟩
            rw [HS.out]
            exact hcut.setlo (by simp) _
          case measure => simp [intOf]; omega
        · have HS := Lib.hid (hS.trans (redF_no (.inr (by rw [← HLE.out, Nat.add_sub_cancel, HY.out]; exact hyx))))
          have hyx2 : (Y == -X) = false := by simpa using hyx
          clear hS
          go_wp2_with (at_builtin; refine app1 rfl rfl ho rfl rfl (by omega) (by omega) ?_; intro g' cc w8 hO hg8 hs8 hb8; have hL8 := hL.below hb8 (by omega); have lL8 := hL8.two)
          go_roundw
          case rel =>
            refine ⟨k + 1, some ⟨g', 0, none⟩, (q + 1) + 1, cc, by omega, by go_num, (hA.below hb8 (by omega)).setne (by simp; omega) _, (hR.below hb8 (by omega)).setne (by simp; omega) _, hL8.set 1 _, ?_, (hB.trans (hb8.mono (by omega))).setCell (by simp; omega) _, by rw [size_set]; omega⟩
            rw [HS.out]
            exact hO.setlo (by simp) _
          case measure => simp [intOf]; omega
    · obtain rfl : n = k := by omega
      have HE : Hid ((xs.take n).foldl redF [] = redL xs) := Lib.hid (by rw [List.take_of_length_le (by have := HL.out; omega)]; rfl)
      rw [HE.out] at ho
      go_wp2
      refine bodyPost_ret (v := .tuple #[bAgg s a' m c', .int .i64 0]) (by simp [results, Tryz.results30, go_sem, lL, lR]) rfl ⟨a', m, c', rfl, ?_, ?_⟩
      · exact ((ho.setlo (by simp; omega) _).setlo (by simp; omega) _).mono (by omega)
      · exact (hB.setCell (by simp) _).setCell (by simp) _
end Go.Proofs.YtkjpkdmnjbjjaaaGreat

namespace Go.Proofs.YtkjpkdmnjbjjaaaGreat
set_option maxRecDepth 100000
set_option linter.unusedVariables false
set_option linter.unusedSimpArgs false
open Go.RowKit
structure WA (M : Nat) (X : List Int) (e : Int) (L : List Pm) : Prop where
  ltr : ∀ x ∈ X, Ltr M x
  fx : AFx M L
  sim : Sim M (begS M (0, []) X) (e, L)
structure WB (M : Nat) (X : List Int) (p : Pm) (e : Int) (L : List Pm) : Prop where
  ltr : ∀ x ∈ X, Ltr M x
  fp : Fx M p
  fx : AFx M L
  sim : ∀ ws, Wd M p ws → Sim M (begS M (0, []) (X ++ ws)) (e, L)
theorem afx_nil (M : Nat) : AFx M ([] : List Pm) := fun p hp => by simp at hp
theorem WA.beg {M : Nat} {X : List Int} {e : Int} {L : List Pm} (h : WA M X e L) : AFx M (begS M (0, []) X).2 := beg_fx X _ (afx_nil M) h.ltr
theorem WA.start (M : Nat) : WA M [] 0 [] := ⟨fun x hx => by simp at hx, afx_nil M, Sim.refl _ _⟩
theorem ltr_app {M : Nat} {X Y : List Int} (h1 : ∀ x ∈ X, Ltr M x) (h2 : ∀ x ∈ Y, Ltr M x) : ∀ x ∈ X ++ Y, Ltr M x := fun x hx => (List.mem_append.1 hx).elim (h1 x) (h2 x)
theorem WA.more {M : Nat} {X : List Int} {e : Int} {L : List Pm} {p : Pm} (h : WA M X e L) (hp : Fx M p) : WB M X p e (L ++ [p]) := by
  have hL : AFx M (L ++ [p]) := h.fx.app fun q hq => by simp at hq; rw [hq]; exact hp
  refine ⟨h.ltr, hp, hL, fun ws hw => ?_⟩
  have hl := wd_ltr hw hp
  rw [beg_app]
  exact Sim.trans (beg_fx _ _ h.fx hl) (Sim.beg ws h.beg h.fx hl h.sim) (wd_sim hw hp (e, L) h.fx)
theorem WB.step {M : Nat} {X : List Int} {p : Pm} {e : Int} {L : List Pm} {k : Nat} (h : WB M X p e L) (hs : St p k) : WB M (X ++ [(k : Int) + 1]) ((Pm.s k).m p) e L := by
  have hk := h.fp.st hs
  refine ⟨ltr_app h.ltr fun x hx => ?_, (Fx.s hk).m h.fp, h.fx, fun ws hw => ?_⟩
  · simp at hx; rw [hx]; exact ⟨by omega, by rw [plN_suc]; exact hk⟩
  · rw [List.append_assoc]
    exact h.sim _ (.cons p k ws hs hw)
theorem ltr_br {M : Nat} (h2 : 2 ≤ M) (h6 : M ≤ 6) {X : List Int} (hx : ∀ x ∈ X, Ltr M x) (hl : X.length ≤ 30) : isBr M X = true := by
  have e1 : wrap64 (1 - (M : Int)) = 1 - (M : Int) := IntWalk.wrap64_in _ ⟨by omega, by omega⟩
  have e2 : wrap64 ((M : Int) - 1) = (M : Int) - 1 := IntWalk.wrap64_in _ ⟨by omega, by omega⟩
  simp only [isBr, Bool.and_eq_true, decide_eq_true_eq, List.all_eq_true]
  refine ⟨⟨⟨by omega, by omega⟩, hl⟩, fun x h => ?_⟩
  obtain ⟨h0, h1⟩ := hx x h
  unfold plN at h1
  unfold isLet
  simp only [e1, e2, Bool.and_eq_true, decide_eq_true_eq, bne_iff_ne, ne_eq]
  split at h1 <;> exact ⟨h0, by omega, by omega⟩
theorem WA.same {M : Nat} {X ys : List Int} {r r' : Int × List (List Int)} {Z : List Pm} (h2 : 2 ≤ M) (h : WA M X r.1 Z) (hy : ∀ x ∈ ys, Ltr M x) (hZ : Sim M (begS M (0, []) ys) (r.1, Z)) (hr : NFo M (begS M (0, []) ys) r) (hr' : NFo M (begS M (0, []) X) r') : r = r' :=
  nfo_sim h2 (beg_fx ys _ (afx_nil M) hy) h.beg (Sim.trans h.fx hZ h.sim.symm) hr hr'
end Go.Proofs.YtkjpkdmnjbjjaaaGreat

namespace Go.Proofs.YtkjpkdmnjbjjaaaGreat
set_option maxRecDepth 100000
set_option linter.unusedVariables false
set_option linter.unusedSimpArgs false
open Go.RowKit
def TbS (w : World) (a : Option Addr) (n : Nat) (ts : List (List (List Int))) : Prop :=
  n = ts.length ∧ ∀ i, i < n → ∃ b off ai ni ci, a = some ⟨b, off, none⟩ ∧ b < w.heap.size ∧ w.cell? ⟨b, off + i, none⟩ = some (.slice ai ni ci) ∧ Tbl w ai ni (ts.getD i []) ∧ ni ≤ 9223372036854775807
theorem TbS.len {w : World} {a : Option Addr} {n : Nat} {ts : List (List (List Int))} (h : TbS w a n ts) : n = ts.length := h.1
theorem TbS.at {w : World} {a : Option Addr} {n : Nat} {ts : List (List (List Int))} (h : TbS w a n ts) (i : Nat) (hi : i < n) : ∃ b off ai ni ci, a = some ⟨b, off, none⟩ ∧ w.cell? ⟨b, off + i, none⟩ = some (.slice ai ni ci) ∧ Tbl w ai ni (ts.getD i []) ∧ ni ≤ 9223372036854775807 := by
  obtain ⟨b, off, ai, ni, ci, h1, _, h2⟩ := h.2 i hi; exact ⟨b, off, ai, ni, ci, h1, h2⟩
theorem TbS.below {w w' : World} {a : Option Addr} {n : Nat} {ts : List (List (List Int))} (h : TbS w a n ts) (hb : Below w.heap.size w w') : TbS w' a n ts :=
  ⟨h.1, fun i hi => by obtain ⟨b, off, ai, ni, ci, h1, h3, h2, h4, h5⟩ := h.2 i hi; exact ⟨b, off, ai, ni, ci, h1, Nat.lt_of_lt_of_le h3 hb.size, (hb.cell (p := ⟨b, off + i, none⟩) h3).trans h2, h4.below hb, h5⟩⟩
theorem TbS.drewN {w : World} {a : Option Addr} {n : Nat} {ts : List (List (List Int))} (h : TbS w a n ts) (k : Nat) : TbS (w.drewN k) a n ts := h
theorem TbS.alloc {w : World} {a : Option Addr} {n : Nat} {ts : List (List (List Int))} (h : TbS w a n ts) (o : Obj) : TbS (w.alloc o) a n ts := h.below ((Below.refl _ _).alloc (Nat.le_refl _) o)
end Go.Proofs.YtkjpkdmnjbjjaaaGreat

namespace Go.Proofs.YtkjpkdmnjbjjaaaGreat
set_option maxRecDepth 100000
set_option linter.unusedVariables false
set_option linter.unusedSimpArgs false
open Go.RowKit
section
variable {w w' : World} {lo : Nat} {a : Option Addr} {n c : Nat} {vs : List SV}
end
theorem HdR.take {w : World} {a : Option Addr} {n k : Nat} {vs : List SV} (h : HdR w a n vs) (hk : k ≤ n) : HdR w a k (vs.take k) := by
  refine ⟨by rw [List.length_take]; have := h.1; omega, fun i hi => ?_⟩
  obtain ⟨b, off, h1, h2, h3⟩ := h.2 i (by omega)
  exact ⟨b, off, h1, h2, by rw [h3]; simp [List.getD_eq_getElem?_getD, List.getElem?_take, hi]⟩
theorem HdR.drop {w : World} {b off n k : Nat} {vs : List SV} (h : HdR w (some ⟨b, off, none⟩) n vs) (hk : k ≤ n) : HdR w (some ⟨b, off + k, none⟩) (n - k) (vs.drop k) := by
  refine ⟨by rw [List.length_drop]; have := h.1; omega, fun i hi => ?_⟩
  obtain ⟨b', off', h1, h2, h3⟩ := h.2 (k + i) (by omega)
  cases h1
  exact ⟨b, off + k, rfl, h2, by rw [Nat.add_assoc, h3]; simp [List.getD_eq_getElem?_getD, List.getElem?_drop]⟩
theorem HdR.nil {w : World} (a : Option Addr) : HdR w a 0 [] := ⟨rfl, fun i h => absurd h (by omega)⟩
structure LstQ (w : World) (a : Option Addr) (n : Nat) (vs : List SV) (L : List (List (List (List Int)))) : Prop where
  hd : HdR w a n vs
  len : n = L.length
  el : ∀ i, i < n → TbS w (vs.getD i svO).1 (vs.getD i svO).2.1 (L.getD i []) ∧ (vs.getD i svO).2.1 ≤ 9223372036854775807
theorem LstQ.below {w w' : World} {a : Option Addr} {n : Nat} {vs : List SV} {L : List (List (List (List Int)))} (h : LstQ w a n vs L) (hb : Below w.heap.size w w') : LstQ w' a n vs L :=
  ⟨h.hd.below hb, h.len, fun i hi => ⟨(h.el i hi).1.below hb, (h.el i hi).2⟩⟩
end Go.Proofs.YtkjpkdmnjbjjaaaGreat

namespace Go.Proofs.YtkjpkdmnjbjjaaaGreat
set_option maxRecDepth 100000
set_option linter.unusedVariables false
set_option linter.unusedSimpArgs false
open Go.RowKit
set_option maxHeartbeats 1000000 in
theorem l01Perm_any (a : Option Addr) (n c : Nat) (p : List Int) (w : World) (h1 : Row w a n p) (hm : n ≤ 9223372036854775807) :
    Calls Tryz.prog 177 #[.slice a n c] w fun e w' => e = .returned (.bool (rngB 1 12 n && permOk p)) ∧ w = w' := by
  have hl := h1.len
  cases hv : rngB 1 12 n with
  | false =>
    have HC := Lib.hid (fun w => l01In_b n 1 12 false hv w)
    clear hv hl
    go_enter Tryz.func177, Tryz.ntmps177
    go_wp2_with fail
    refine (HC.out _).mono ?_
    rintro e w2 ⟨rfl, rfl⟩
    go_wp2
    go_ret
    exact ⟨rfl, rfl⟩
  | true =>
    have HC := Lib.hid (fun w => l01In_b n 1 12 true hv w)
    have HQ : Hid (permOk p = allN n fun x : Nat => p.contains (x : Int)) := Lib.hid (by unfold permOk; rw [hl])
    have hn12 : 1 ≤ n ∧ n ≤ 12 := by unfold rngB at hv; simp at hv; omega
    clear hv hl
    go_enter Tryz.func177, Tryz.ntmps177
    go_wp2_with fail
    refine (HC.out _).mono ?_
    rintro e w2 ⟨rfl, rfl⟩
    go_wp2
    go_loop [4] (fun i => ∃ k : Nat, k ≤ n ∧ i = .int .i64 k ∧ Hid (allN k (fun x : Nat => p.contains (x : Int)) = true)) (fun i => n - (intOf i).toNat)
    case atStart => exact ⟨0, Nat.zero_le _, rfl, Lib.hid rfl⟩
    case round =>
      obtain ⟨k, hk, rfl, hI⟩ := hrel
      by_cases hlt : k < n
      · have hcd : decide ((k : Int) ∈ p) = p.contains (k : Int) := by rw [Bool.eq_iff_iff]; simp
        have HH := Lib.hid (l01Has_any a n c p (k : Int) w h1 (by omega))
        cases hc : p.contains (k : Int) with
        | true =>
          rw [hc] at hcd
          have HD := Lib.hid hcd; have HCC := Lib.hid hc
          clear hc hcd
          go_wp2_with fail
          refine HH.out.mono ?_
          rintro e w2 ⟨rfl, rfl⟩
          rw [HD.out]
          go_wp2
          go_round
          case rel => exact ⟨k + 1, by omega, by go_num, Lib.hid (allN_succ hI.out HCC.out)⟩
          case measure => simp [intOf]; omega
        | false =>
          rw [hc] at hcd
          have HD := Lib.hid hcd; have HCC := Lib.hid hc
          clear hc hcd
          go_wp2_with fail
          refine HH.out.mono ?_
          rintro e w2 ⟨rfl, rfl⟩
          rw [HD.out]
          go_wp2
          go_ret
          exact ⟨ret_bool (by rw [HQ.out, allN_no hlt HCC.out]; rfl), rfl⟩
      · obtain rfl : k = n := by omega
        go_wp2
        go_ret
        exact ⟨ret_bool ((congrArg (fun b => true && b) (HQ.out.trans hI.out)).symm), rfl⟩
end Go.Proofs.YtkjpkdmnjbjjaaaGreat

namespace Go.Proofs.YtkjpkdmnjbjjaaaGreat
set_option maxRecDepth 100000
set_option linter.unusedVariables false
set_option linter.unusedSimpArgs false
open Go.RowKit
def GrTT (E : Nat → Prop) (w : World) (lo : Nat) (a : Option Addr) (n : Nat) (us : List TV) (ts : List (List (List Int))) (e : Ending) (w' : World) : Prop :=
  ∃ a' n' c' us', e = .returned (.slice a' n' c') ∧ OwnTT w' lo a' n' c' us' ts ∧ Marked (TTS a n us) w w' ∧ ∀ g, TTS a' n' us' g → TTS a n us g ∨ E g ∨ w.heap.size ≤ g
theorem GrTT.one {w w' : World} {E : Nat → Prop} {lo : Nat} {a : Option Addr} {n c : Nat} {us : List TV} {ts : List (List (List Int))} {g c' : Nat} {u : TV} {t : List (List Int)} (h : OwnTT w lo a n c us ts) (hg : w.grownBy w' (Value.slice a n c).ownBlock) (hat : (Value.slice a n c).ownBlock = some g ∨ w.heap.size ≤ g)
    (hO : OwnTT w' lo (some ⟨g, 0, none⟩) (n + 1) c' (us ++ [u]) (ts ++ [t])) (hE : ∀ q, TvS u q → E q) : GrTT E w lo a n us (ts ++ [t]) (.returned (.slice (some ⟨g, 0, none⟩) (n + 1) c')) w' := by
  refine ⟨_, _, _, _, rfl, hO, Marked.grownTT h hg, fun q hq => ?_⟩
  rcases TTS.snoc (a := a) h.ulen hq with rfl | h' | h'
  · rcases hat with h2 | h2
    · exact .inl (.inl (h.ownBlk h2))
    · exact .inr (.inr h2)
  · exact .inr (.inl (hE q h'))
  · exact .inl h'
theorem TTS.nil {g : Nat} : ¬ TTS none 0 [] g := by
  rintro (h | ⟨i, hi, _⟩)
  · cases h
  · omega
end Go.Proofs.YtkjpkdmnjbjjaaaGreat

namespace Go.Proofs.YtkjpkdmnjbjjaaaGreat
set_option linter.unusedVariables false
set_option linter.unusedSimpArgs false
def isPb (n : Nat) (p : List Int) : Bool := decide (p.length = n) && (List.range n).all fun i => decide (0 ≤ p.getD i 0) && decide ((p.getD i 0).toNat < n) && decide (((backF p).getD i 0).toNat < n) && decide ((p.getD ((backF p).getD i 0).toNat 0).toNat = i) && decide (((backF p).getD (p.getD i 0).toNat 0).toNat = i)
theorem isPb_ok {n : Nat} {p : List Int} (h : isPb n p = true) : IsP n p := by
  simp only [isPb, Bool.and_eq_true, decide_eq_true_eq, List.all_eq_true, List.mem_range] at h
  refine ⟨fun i => (p.getD i 0).toNat, fun i => ((backF p).getD i 0).toNat, h.1, fun i hi => ?_, fun i hi => ?_⟩
  · have := h.2 i hi
    exact ⟨this.1.1.1.2, this.1.1.2, this.1.2, this.2⟩
  · have := h.2 i hi
    have h0 := this.1.1.1.1
    show p.getD i 0 = (((p.getD i 0).toNat : Nat) : Int)
    omega
end Go.Proofs.YtkjpkdmnjbjjaaaGreat

namespace Go.Proofs.YtkjpkdmnjbjjaaaGreat
set_option maxRecDepth 100000
set_option linter.unusedVariables false
set_option linter.unusedSimpArgs false
open Go.RowKit
attribute [local go_sem] Oper.semAt_some
theorem Touch.grownBy {w w' : World} {b : Nat} (h : Touch (fun q => q = b) w w') : w.grownBy w' (some b) :=
  ⟨h.os, h.tape, h.output, by rw [h.size]; exact Nat.le_refl _, fun k hk hne => h.block k (fun e => hne (by rw [e]))⟩
end Go.Proofs.YtkjpkdmnjbjjaaaGreat

namespace Go.Proofs.YtkjpkdmnjbjjaaaGreat
set_option maxRecDepth 100000
set_option linter.unusedVariables false
set_option linter.unusedSimpArgs false
open Go.RowKit
def RowsOf (P : Nat) (pvs : List SV) (perms : List (List Int)) (vs : List SV) (rows : List (List Int)) : Prop := vs.length = rows.length ∧ ∀ i, i < rows.length → ∃ j, j < P ∧ vs.getD i svO = pvs.getD j svO ∧ rows.getD i [] = perms.getD j []
theorem RowsOf.nil (P : Nat) (pvs : List SV) (perms : List (List Int)) : RowsOf P pvs perms [] [] := ⟨rfl, fun i h => absurd h (by simp)⟩
theorem RowsOf.snoc {P : Nat} {pvs : List SV} {perms : List (List Int)} {vs : List SV} {rows : List (List Int)} (h : RowsOf P pvs perms vs rows) {j : Nat} (hj : j < P) : RowsOf P pvs perms (vs ++ [pvs.getD j svO]) (rows ++ [perms.getD j []]) := by
  refine ⟨by simp [h.1], fun i hi => ?_⟩
  simp only [List.length_append, List.length_cons, List.length_nil] at hi
  by_cases e : i < rows.length
  · obtain ⟨j', h1, h2, h3⟩ := h.2 i e
    exact ⟨j', h1, by rw [← h2]; simp [List.getD_eq_getElem?_getD, List.getElem?_append_left (show i < vs.length by have := h.1; omega)], by rw [← h3]; simp [List.getD_eq_getElem?_getD, List.getElem?_append_left e]⟩
  · obtain rfl : i = rows.length := by omega
    refine ⟨j, hj, ?_, ?_⟩
    · rw [← h.1]; simp [List.getD_eq_getElem?_getD]
    · simp [List.getD_eq_getElem?_getD]
theorem RowsOf.tbl {w : World} {lo : Nat} {pa a : Option Addr} {P pc n : Nat} {pvs vs : List SV} {perms rows : List (List Int)} (h : RowsOf P pvs perms vs rows) (hp : OwnT w lo pa P pc pvs perms) (hh : HdR w a n vs) : Tbl w a n rows :=
  hh.tbl (by have := hh.1; have := h.1; omega) fun i hi => by
    obtain ⟨j, h1, h2, h3⟩ := h.2 i (by have := hh.1; have := h.1; omega)
    rw [h2, h3]
    exact ⟨(hp.row j h1).row, by have := (hp.row j h1).cap; omega⟩
end Go.Proofs.YtkjpkdmnjbjjaaaGreat

namespace Go.Proofs.YtkjpkdmnjbjjaaaGreat
set_option maxRecDepth 100000
set_option linter.unusedVariables false
set_option linter.unusedSimpArgs false
open Go.RowKit
theorem RwsOk.at {n : Nat} {rows : List (List Int)} (h : RwsOk n rows) {x nx : Nat} (hx : x < n) {w : World} {a : Option Addr} (hr : Row w a nx (rows.getD x [])) : (nx = 0 ∧ rows.getD x [] = []) ∨ (nx = n ∧ IsP n (rows.getD x [])) := by
  rcases h.2 x hx with e | e
  · exact .inl ⟨by have := hr.len; rw [e] at this; simpa using this, e⟩
  · exact .inr ⟨by have := hr.len; rw [e.len] at this; exact this, e⟩
end Go.Proofs.YtkjpkdmnjbjjaaaGreat

namespace Go.Proofs.YtkjpkdmnjbjjaaaGreat
set_option maxRecDepth 100000
set_option linter.unusedVariables false
set_option linter.unusedSimpArgs false
open Go.RowKit
def RwsP (n : Nat) (t : List (List Int)) : Prop := t.length = n ∧ ∀ i, i < n → IsP n (t.getD i [])
theorem RwsP.sq {n : Nat} {t : List (List Int)} (h : RwsP n t) : Sq n t := by
  refine ⟨h.1, fun x hx => ⟨(h.2 x hx).len, fun y hy => ?_⟩⟩
  obtain ⟨z, hz, hzn⟩ := (h.2 x hx).at hy
  have : tv t x y = z := by unfold tv; rw [hz, Int.toNat_natCast]
  rw [this]; exact ⟨hzn, hz⟩
end Go.Proofs.YtkjpkdmnjbjjaaaGreat

namespace Go.Proofs.YtkjpkdmnjbjjaaaGreat
set_option maxRecDepth 100000
set_option linter.unusedVariables false
set_option linter.unusedSimpArgs false
open Go.RowKit
structure OwnRk (w : World) (lo : Nat) (a : Option Addr) (n c : Nat) (us : List TV) (ts : List (List (List Int))) : Prop where
  len : n = ts.length
  ulen : us.length = n
  hdr : w.ownsRow lo 58 1 (.slice a n c) n (us.map slT)
  tab : ∀ i, i < n → OwnV w lo (us.getD i tvO) (ts.getD i [])
  ap : ∀ i, i < n → ∀ g, a = some ⟨g, 0, none⟩ → ¬ TvS (us.getD i tvO) g
  pw : ∀ i j, i < n → j < n → i ≠ j → ∀ g, TvS (us.getD i tvO) g → ¬ TvS (us.getD j tvO) g
section
variable {w w' : World} {lo : Nat} {a : Option Addr} {n c : Nat} {us : List TV} {ts : List (List (List Int))}
theorem OwnRk.nil (w : World) (lo : Nat) : OwnRk w lo none 0 0 [] [] :=
  ⟨rfl, rfl, World.ownsRow_nil w lo _ 1, fun i h => absurd h (by omega), fun i h => absurd h (by omega), fun i j h => absurd h (by omega)⟩
theorem OwnRk.block (h : OwnRk w lo a n c us ts) : (a = none ∧ n = 0 ∧ c = 0) ∨ ∃ g cur, a = some ⟨g, 0, none⟩ ∧ lo ≤ g ∧ Loc w g cur 58 ∧ n ≤ c ∧ c ≤ maxLen ∧ cur.size = c ∧ cur.toList.take n = us.map slT := by
  rcases h.hdr.2 with ⟨h1, h2⟩ | ⟨g, cap, cur, h1, h2, h3, h4, h5, h6, h7⟩
  · cases h1; exact .inl ⟨rfl, rfl, rfl⟩
  · cases h1; exact .inr ⟨g, cur, rfl, h2, h3, h4, h5, by simpa using h6, by simpa using h7⟩
theorem ownsRowRk_mk {w : World} {lo g n c : Nat} {us : List TV} {cur : Array Value} (hn : us.length = n) (h1 : lo ≤ g) (h2 : Loc w g cur 58) (h3 : n ≤ c) (h4 : c ≤ maxLen) (h5 : cur.size = c) (h6 : cur.toList.take n = us.map slT) :
    w.ownsRow lo 58 1 (.slice (some ⟨g, 0, none⟩) n c) n (us.map slT) :=
  ⟨by simp [hn], .inr ⟨g, c, cur, rfl, h1, h2, h3, h4, by simpa using h5, by simpa using h6⟩⟩
theorem OwnRk.high (h : OwnRk w lo a n c us ts) : ∀ g, a = some ⟨g, 0, none⟩ → g < w.heap.size := by
  intro g hg
  rcases h.block with ⟨h1, _⟩ | ⟨g', cur, h1, h2, h3, _⟩
  · rw [h1] at hg; cases hg
  · rw [h1] at hg; cases hg; exact h3.lt
theorem OwnRk.low (h : OwnRk w lo a n c us ts) : ∀ g, a = some ⟨g, 0, none⟩ → lo ≤ g := by
  intro g hg
  rcases h.block with ⟨h1, _⟩ | ⟨g', cur, h1, h2, h3, _⟩
  · rw [h1] at hg; cases hg
  · rw [h1] at hg; cases hg; exact h2
theorem OwnRk.uLo (h : OwnRk w lo a n c us ts) : ∀ g, TTS a n us g → lo ≤ g := fun g hg => by
  rcases hg with hg | ⟨i, hi, hg⟩
  · exact h.low g hg
  · exact (h.tab i hi).uLo g hg
theorem OwnRk.uHi (h : OwnRk w lo a n c us ts) : ∀ g, TTS a n us g → g < w.heap.size := fun g hg => by
  rcases hg with hg | ⟨i, hi, hg⟩
  · exact h.high g hg
  · exact (h.tab i hi).uHi g hg
theorem OwnRk.keep (h : OwnRk w lo a n c us ts) (hk : ∀ g, TTS a n us g → g < w.heap.size → w'.heap[g]? = w.heap[g]?) : OwnRk w' lo a n c us ts := by
  refine ⟨h.len, h.ulen, ?_, fun i hi => OwnT.keep (h.tab i hi) fun g hg hlt => hk g (.inr ⟨i, hi, hg⟩) hlt, h.ap, h.pw⟩
  rcases h.block with ⟨h1, h2, h3⟩ | ⟨g, cur, h1, h2, h3, h4, h5, h6, h7⟩
  · subst h1 h2 h3
    have : us = [] := List.eq_nil_of_length_eq_zero h.ulen
    subst this; exact World.ownsRow_nil _ _ _ _
  · subst h1
    exact ownsRowRk_mk h.ulen h2 ((hk g (.inl rfl) h3.lt).trans h3) h4 h5 h6 h7
theorem OwnRk.below (h : OwnRk w lo a n c us ts) (hb : Below w.heap.size w w') : OwnRk w' lo a n c us ts := h.keep fun g _ hlt => hb.block g hlt
theorem OwnRk.alloc (h : OwnRk w lo a n c us ts) (o : Obj) : OwnRk (w.alloc o) lo a n c us ts := h.below ((Below.refl _ _).alloc (Nat.le_refl _) o)
theorem OwnRk.drewN (h : OwnRk w lo a n c us ts) (k : Nat) : OwnRk (w.drewN k) lo a n c us ts := h.keep fun _ _ _ => rfl
theorem OwnRk.mono {lo' : Nat} (h : OwnRk w lo a n c us ts) (hl : lo' ≤ lo) : OwnRk w lo' a n c us ts := by
  refine ⟨h.len, h.ulen, ?_, fun i hi => (h.tab i hi).mono hl, h.ap, h.pw⟩
  rcases h.block with ⟨h1, h2, h3⟩ | ⟨g, cur, h1, h2, h3, h4, h5, h6, h7⟩
  · subst h1 h2 h3
    have : us = [] := List.eq_nil_of_length_eq_zero h.ulen
    subst this; exact World.ownsRow_nil _ _ _ _
  · subst h1; exact ownsRowRk_mk h.ulen (Nat.le_trans hl h2) h3 h4 h5 h6 h7
theorem OwnRk.setlo (h : OwnRk w lo a n c us ts) {p : Addr} (hp : p.block < lo) (u : Value) : OwnRk (w.setCell p u) lo a n c us ts :=
  h.keep fun g hg _ => Below.heap_setCell _ _ _ _ (by have := h.uLo g hg; omega)
theorem OwnRk.cap (h : OwnRk w lo a n c us ts) : n ≤ c ∧ c ≤ 9223372036854775807 := by
  rcases h.block with ⟨_, h1, h2⟩ | ⟨g', cur, h1, h2, h3, h4, h5, _⟩
  · omega
  · unfold maxLen at h5; omega
theorem OwnRk.cells (h : OwnRk w lo a n c us ts) (hn : 0 < n) : ∃ g, a = some ⟨g, 0, none⟩ ∧ g < w.heap.size ∧ (∀ i, i < n → w.cell? ⟨g, i, none⟩ = some (slT (us.getD i tvO))) ∧ ∀ i, w.frozen? ⟨g, i, none⟩ = false := by
  rcases h.block with ⟨h1, h2, h3⟩ | ⟨g, cur, h1, h2, h3, h4, h5, h6, h7⟩
  · omega
  · refine ⟨g, h1, h3.lt, fun i hi => h3.cell i ?_, fun i => h3.free i⟩
    have hx : (cur.toList.take n)[i]? = (us.map slT)[i]? := by rw [h7]
    have hxi : i < us.length := by have := h.ulen; omega
    rw [List.getElem?_take, if_pos hi] at hx
    simp [List.getElem?_eq_getElem hxi] at hx
    simp [List.getD_eq_getElem?_getD, List.getElem?_eq_getElem hxi, hx]
theorem OwnRk.ownBlk (h : OwnRk w lo a n c us ts) {g : Nat} (e : (Value.slice a n c).ownBlock = some g) : a = some ⟨g, 0, none⟩ := by
  rcases h.block with ⟨r1, _⟩ | ⟨g2, cur, r1, _⟩
  · subst r1; simp [Value.ownBlock] at e
  · subst r1; simp [Value.ownBlock] at e; subst e; rfl
theorem OwnRk.snoc {o : Obj} {g cap : Nat} {u : TV} {t : List (List Int)} (h : OwnRk w lo a n c us ts) (hv : OwnV w lo u t) (h1 : ∀ q, TvS u q → ¬ TTS a n us q)
    (ho : w'.ownsRow lo 58 1 (.slice (some ⟨g, 0, none⟩) (n + 1) cap) (n + 1) (us.map slT ++ [slT u]))
    (hg : w.grownBy w' (Value.slice a n c).ownBlock) (hat : (Value.slice a n c).ownBlock = some g ∨ w.heap.size ≤ g) : OwnRk w' lo (some ⟨g, 0, none⟩) (n + 1) cap (us ++ [u]) (ts ++ [t]) := by
  have hl := h.len
  have hul := h.ulen
  have gl : ∀ i, i < n → (us ++ [u]).getD i tvO = us.getD i tvO := fun i hi => by simp [List.getD_eq_getElem?_getD, List.getElem?_append_left (show i < us.length by omega)]
  have gn : (us ++ [u]).getD n tvO = u := by rw [← hul]; simp [List.getD_eq_getElem?_getD]
  have xl : ∀ i, i < n → (ts ++ [t]).getD i [] = ts.getD i [] := fun i hi => by simp [List.getD_eq_getElem?_getD, List.getElem?_append_left (show i < ts.length by omega)]
  have xn : (ts ++ [t]).getD n [] = t := by rw [hl]; simp [List.getD_eq_getElem?_getD]
  have keepR : ∀ i, i < n → OwnV w' lo (us.getD i tvO) (ts.getD i []) := fun i hi => OwnT.keep (h.tab i hi) fun q hq hlt => hg.block q hlt fun e => h.ap i hi q (h.ownBlk e.symm) hq
  have keepV : OwnV w' lo u t := OwnT.keep hv fun q hq hlt => hg.block q hlt fun e => h1 q hq (.inl (h.ownBlk e.symm))
  refine ⟨by simp [hl], by simp [hul], by simpa using ho, fun i hi => ?_, fun i hi q hq hs => ?_, fun i j hi hj hij q h3 h4 => ?_⟩
  · by_cases e : i < n
    · rw [gl i e, xl i e]; exact keepR i e
    · obtain rfl : i = n := by omega
      rw [gn, xn]; exact keepV
  · cases hq
    by_cases e : i < n
    · rw [gl i e] at hs
      rcases hat with hat | hat
      · exact h.ap i e g (h.ownBlk hat) hs
      · have := (h.tab i e).uHi g hs; omega
    · obtain rfl : i = n := by omega
      rw [gn] at hs
      rcases hat with hat | hat
      · exact h1 g hs (.inl (h.ownBlk hat))
      · have := OwnT.uHi hv g hs; omega
  · by_cases e : i < n
    · rw [gl i e] at h3
      by_cases e' : j < n
      · rw [gl j e'] at h4; exact h.pw i j e e' hij q h3 h4
      · obtain rfl : j = n := by omega
        rw [gn] at h4; exact h1 q h4 (.inr ⟨i, e, h3⟩)
    · obtain rfl : i = n := by omega
      rw [gn] at h3
      have e' : j < i := by omega
      rw [gl j e'] at h4; exact h1 q h3 (.inr ⟨j, e', h4⟩)
end
end Go.Proofs.YtkjpkdmnjbjjaaaGreat

namespace Go.Proofs.YtkjpkdmnjbjjaaaGreat
set_option maxRecDepth 100000
set_option linter.unusedVariables false
set_option linter.unusedSimpArgs false
structure Cmp {α : Type} (c : α → α → Int) : Prop where
  eq : ∀ x y, c x y = 0 ↔ x = y
  anti : ∀ x y, c y x = - c x y
  trans : ∀ x y z, c x y < 0 → c y z < 0 → c x z < 0
theorem Cmp.refl {α : Type} {c : α → α → Int} (h : Cmp c) (x : α) : c x x = 0 := (h.eq x x).2 rfl
end Go.Proofs.YtkjpkdmnjbjjaaaGreat

namespace Go.Proofs.YtkjpkdmnjbjjaaaGreat
set_option linter.unusedVariables false
set_option linter.unusedSimpArgs false
set_option maxRecDepth 100000
open Go.ChangeShapes Go.WideShapes Go.ChangeAt Go.RowKit Go.Joins
theorem und_bytesO : Tryz.prog.underlying 22 = some (.slice 5) := by kernel_rfl
theorem und_u8O : Tryz.prog.underlying 5 = some (.int .u8) := by kernel_rfl
theorem cells_u8 : Tryz.prog.cellsOf 5 = 1 := by kernel_rfl
def Bts (w : World) (a : Option Addr) (n : Nat) (xs : List Int) : Prop :=
  n = xs.length ∧ (∀ i, i < n → ∃ b off, a = some ⟨b, off, none⟩ ∧ b < w.heap.size ∧ w.cell? ⟨b, off + i, none⟩ = some (.int .u8 (xs.getD i 0))) ∧ ∀ i, 0 ≤ xs.getD i 0 ∧ xs.getD i 0 ≤ 255
theorem Bts.below {w w' : World} {a : Option Addr} {n : Nat} {xs : List Int} (h : Bts w a n xs) (hb : Below w.heap.size w w') : Bts w' a n xs :=
  ⟨h.1, fun i hi => by obtain ⟨b, off, h1, h3, h2⟩ := h.2.1 i hi; exact ⟨b, off, h1, Nat.lt_of_lt_of_le h3 hb.size, (hb.cell (p := ⟨b, off + i, none⟩) h3).trans h2⟩, h.2.2⟩
theorem Bts.len {w : World} {a : Option Addr} {n : Nat} {xs : List Int} (h : Bts w a n xs) : n = xs.length := h.1
theorem Bts.at {w : World} {a : Option Addr} {n : Nat} {xs : List Int} (h : Bts w a n xs) (i : Nat) (hi : i < n) : ∃ b off, a = some ⟨b, off, none⟩ ∧ w.cell? ⟨b, off + i, none⟩ = some (.int .u8 (xs.getD i 0)) := by
  obtain ⟨b, off, h1, _, h2⟩ := h.2.1 i hi; exact ⟨b, off, h1, h2⟩
theorem open_bytes {H : Type} {enc : TypeId × Value → H} {W : World} {b0 : Nat} {v : Value} {d : DataW H} {p : List MemPlace} {sp : Nat → Bool} (hsp : ∀ b, sp b = true) (hv : Value.okWide Tryz.prog W .any b0 22 v)
    (h : DataW.Trod enc Tryz.prog W 0 sp true 22 v d p) : ∃ a n c xs, v = .slice a n c ∧ Bts W a n xs ∧ n ≤ 9223372036854775807 := by
  obtain ⟨a, n, c, rfl⟩ := okWide_slice und_bytesO hv
  obtain ⟨fuel, hf⟩ := h
  rcases open_ints und_bytesO und_u8O cells_u8 hf with ⟨hcs, _⟩ | ⟨⟨b, off, spot⟩, l, c', zs, hcs, _, hl, hm, hz, _, hcell, hwz⟩
  · simp [Value.cells] at hcs
    obtain ⟨rfl, rfl, rfl⟩ := hcs
    exact ⟨_, _, _, [], rfl, ⟨rfl, fun i hi => absurd hi (by omega), fun i => by simp⟩, by omega⟩
  · simp [Value.cells] at hcs
    obtain ⟨rfl, rfl, rfl⟩ := hcs
    rw [if_pos (hsp _)] at hz
    refine ⟨_, _, _, zs.take n, rfl, ⟨by rw [List.length_take]; omega, fun i hi => ?_, fun i => ?_⟩, by unfold maxLen at hm; omega⟩
    · have h0 := hcell 0 (by omega)
      have hi' := hcell i (by omega)
      have hspot : spot = none := by simpa [Addr.add] using World.cell?_spot h0
      subst hspot
      have e : (⟨b, off, none⟩ : Addr).add i = ⟨b, off + i, none⟩ := by unfold Addr.add; split <;> simp_all
      rw [e] at hi'
      refine ⟨b, off, rfl, World.block_lt_of_cell? W ⟨b, off + i, none⟩ hi', hi'.trans ?_⟩
      simp [List.getD_eq_getElem?_getD, List.getElem?_take, hi]
    · have hb := range_u8 hwz i
      rw [List.getD_eq_getElem?_getD, List.getElem?_take]
      split
      · exact hb
      · simp
end Go.Proofs.YtkjpkdmnjbjjaaaGreat
