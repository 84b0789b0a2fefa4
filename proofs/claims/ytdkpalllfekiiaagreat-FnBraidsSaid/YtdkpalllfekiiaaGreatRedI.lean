/-
  ReduceBraid: what the program's computes.
  No condition but bounds.
-/
import Derived.Test.YtdkpalllfekiiaaGreatGarL
import Derived.Test.YtdkpalllfekiiaaGreatBase
namespace Go.Proofs.YtdkpalllfekiiaaGreat
set_option maxRecDepth 100000
set_option linter.unusedVariables false
set_option linter.unusedSimpArgs false
open Go.RowKit

/-- a slice cut short -/
theorem Own.cut {w : World} {lo : Nat} {a : Option Addr} {n c : Nat} {xs : List Int} (h : Own w lo a n c xs) {m : Nat} (hm : m ≤ n) : Own w lo a m c (xs.take m) := by
  rcases h.block with ⟨rfl, rfl, rfl⟩ | ⟨g, cur, rfl, h2, h3, h4, h5, h6, h7⟩
  · obtain rfl : m = 0 := by omega
    exact Own.nil _ _
  · refine Own.mk (by rw [List.length_take]; have := h.1; omega) h2 h3 (by omega) h5 h6 ?_
    have := congrArg (List.take m) h7
    rw [List.take_take, Nat.min_eq_left hm] at this
    rw [this, List.map_take]
theorem redF_no {ys : List Int} {x : Int} (h : ys.length = 0 ∨ ys.getD (ys.length - 1) 0 ≠ -x) : redF ys x = ys ++ [x] := by
  unfold redF
  rw [if_neg]
  intro e
  rw [List.getLast?_eq_getElem?] at e
  obtain ⟨hl, e2⟩ := List.getElem?_eq_some_iff.1 e
  rcases h with h | h
  · omega
  · exact h (by rw [List.getD_eq_getElem?_getD, e]; rfl)
theorem redF_yes {ys : List Int} {x : Int} {q : Nat} (hl : ys.length = q + 1) (h : ys.getD q 0 = -x) : redF ys x = ys.take q := by
  unfold redF
  rw [if_pos]
  · rw [List.dropLast_eq_take, hl]; rfl
  · rw [List.getLast?_eq_getElem?, hl]
    rw [List.getD_eq_getElem?_getD, Nat.add_sub_cancel, List.getElem?_eq_getElem (by omega)] at *
    simpa using h
theorem redF_len (ys : List Int) (x : Int) : (redF ys x).length ≤ ys.length + 1 := by
  unfold redF; split
  · simp; omega
  · simp
theorem red_succ (xs : List Int) (k : Nat) (h : k < xs.length) : (xs.take (k + 1)).foldl redF [] = redF ((xs.take k).foldl redF []) xs[k] := by
  rw [List.take_succ_eq_append_getElem h, List.foldl_append]; rfl
theorem red_len (xs : List Int) : ∀ k, k ≤ xs.length → ((xs.take k).foldl redF []).length ≤ k := by
  intro k
  induction k with
  | zero => intro _; simp
  | succ k ih => intro h; rw [red_succ xs k (by omega)]; have := ih (by omega); have := redF_len ((xs.take k).foldl redF []) xs[k]; omega

set_option maxHeartbeats 4000000 in
theorem impl_Red_ok (s : Int) (a : Option Addr) (n c : Nat) (xs : List Int) (w : World) (h1 : Row w a n xs) (hm : n ≤ 9223372036854775807) (hb : isBr s xs = true) :
    Calls Tryz.prog 23 #[bAgg s a n c] w (RetB w s (redL xs) 0) := by
  have HB := Lib.hid hb
  have hbr := isBr_let hb
  have HL := Lib.hid h1.len
  have hn30 : n ≤ 30 := by have := h1.len; omega
  have HRL := Lib.hid (red_len xs)
  have HLB : Hid (∀ k (h : k < xs.length), -6 ≤ xs[k] ∧ xs[k] ≤ 6) := Lib.hid fun k h => by have := hbr.2.2 _ (List.getElem_mem h); omega
  clear hb hbr
  obtain ⟨w0, hw0⟩ : ∃ w0, (w.alloc (.cells #[.int .i64 s, .slice a n c] 26)).alloc (.cells #[.int .i64 0, .slice none 0 0] 26) = w0 := ⟨_, rfl⟩
  have hA : Loc w0 w.heap.size #[.int .i64 s, .slice a n c] 26 := by rw [← hw0]; exact (Loc.new w rfl _ _).alloc _
  have hR : Loc w0 (w.heap.size + 1) #[.int .i64 0, .slice none 0 0] 26 := by rw [← hw0]; exact Loc.new _ (by simp) _ _
  have hB0 : Below w.heap.size w w0 := by rw [← hw0]; exact below_al (below_al (Below.refl _ _) _) _
  have hz0 : w0.heap.size = w.heap.size + 2 := by rw [← hw0]; simp
  have hr0 := h1.below hB0
  have HW0 := Lib.hid hw0
  have HZ0 := Lib.hid hz0
  clear hw0 hz0
  have lA0 := hA.two
  go_enter Tryz.func23, Tryz.ntmps23
  go_wp2_with fail
  rw [HW0.out]
  refine (isBraid_any _ _ _ _ xs _ hr0 hm).mono ?_
  rintro e w1 ⟨rfl, hb1⟩
  rw [HB.out]
  replace hA := hA.below hb1 hA.lt
  replace hR := hR.below hb1 hR.lt
  have hB1 := below_th hB0 hb1
  have lA1 := hA.two
  have hz1 : w.heap.size + 2 ≤ w1.heap.size := by have := hb1.size; have := HZ0.out; omega
  have hr1 := hr0.below hb1
  have hrw := hr1.alloc (.cells #[.int .i64 s, .slice none 0 0] 26)
  have lA2 := (hA.alloc (.cells #[.int .i64 s, .slice none 0 0] 26)).two
  clear lA0
  go_wp2
  go_loopw [6, 7, 18] (fun _ _ i wr => ∃ (k : Nat) (a' : Option Addr) (m c' : Nat), k ≤ n ∧ i = .int .i64 k ∧ Loc wr w.heap.size #[.int .i64 s, .slice a n c] 26 ∧ Loc wr (w.heap.size + 1) #[.int .i64 0, .slice none 0 0] 26 ∧ Loc wr w1.heap.size #[.int .i64 s, .slice a' m c'] 26 ∧
    Own wr (w1.heap.size + 1) a' m c' ((xs.take k).foldl redF []) ∧ Below w.heap.size w wr ∧ w1.heap.size + 1 ≤ wr.heap.size) (fun _ _ i _ => n - (intOf i).toNat)
  case atStart => exact ⟨0, none, 0, 0, Nat.zero_le _, rfl, hA.alloc _, hR.alloc _, Loc.new w1 rfl _ _, Own.nil _ _, below_al hB1 _, by simp⟩
  case round =>
    clear hA hR lA1 lA2
    obtain ⟨k, a', m, c', hk, rfl, hA, hR, hL, ho, hB, hz⟩ := hrel
    have lL := hL.two
    have lR := hR.two
    by_cases hlt : k < n
    · obtain ⟨b, off, rfl, g1⟩ := (h1.below hB).at k hlt
      have hx : k < xs.length := by have := HL.out; omega
      have hm30 : m ≤ 30 := by have := ho.len; have := HRL.out k (by omega); omega
      have hy := HLB.out k hx
      have hS := red_succ xs k hx
      rw [getD_at hx] at g1
      obtain ⟨X, HX⟩ : ∃ X, Hid (xs[k] = X) := ⟨_, Lib.hid rfl⟩
      rw [HX.out] at g1 hy hS
      obtain ⟨hy1, hy2⟩ := hy
      have hng : IntKind.i64.wrap (-X) = -X := IntWalk.i64_in _ ⟨by omega, by omega⟩
      have i1 : (0 : Int) ≤ (k : Int) := by omega
      have i2 : (k : Int) < (n : Int) := by omega
      have HLE := Lib.hid ho.len
      obtain ⟨ys, HYS⟩ : ∃ ys, Hid ((xs.take k).foldl redF [] = ys) := ⟨_, rfl⟩
      rw [HYS.out] at ho hS HLE
      clear lR
      rcases m with _ | q
      · have HS := Lib.hid (hS.trans (redF_no (.inl HLE.out.symm)))
        clear hS
        go_wp2_with (at_builtin; refine app1 rfl rfl ho rfl rfl (by omega) (by omega) ?_; intro g' cc w8 hO hg8 hs8 hb8; have hL8 := hL.below hb8 (by omega); have lL8 := hL8.two)
        go_roundw
        case rel =>
          refine ⟨k + 1, some ⟨g', 0, none⟩, 0 + 1, cc, by omega, by go_num, (hA.below hb8 (by omega)).setne (by simp; omega) _, (hR.below hb8 (by omega)).setne (by simp; omega) _, hL8.set 1 _, ?_, (hB.trans (hb8.mono (by omega))).setCell (by simp; omega) _, by rw [size_set]; omega⟩
          rw [HS.out]
          exact hO.setlo (by simp) _
        case measure => simp [intOf]; omega
      · obtain ⟨gy, oy, rfl, g2⟩ := ho.row.at q (by omega)
        have hc := ho.cap
        have hw1 : IntKind.i64.wrap (((q + 1 : Nat) : Int) - 1) = (q : Int) := (IntWalk.i64_in _ ⟨by omega, by omega⟩).trans (by omega)
        obtain ⟨Y, HY⟩ : ∃ Y, Hid (ys.getD q 0 = Y) := ⟨_, rfl⟩
        rw [HY.out] at g2
        have i3 : (0 : Int) ≤ (q : Int) := by omega
        have i4 : (q : Int) < ((q + 1 : Nat) : Int) := by omega
        have i5 : (q : Int) ≤ (c' : Int) := by omega
        by_cases hyx : Y = -X
        · have HS := Lib.hid (hS.trans (redF_yes HLE.out.symm (HY.out.trans hyx)))
          subst hyx
          clear hS
          have hcut := ho.cut (show q ≤ q + 1 by omega)
          go_wp2
          go_roundw
          case rel =>
            refine ⟨k + 1, some ⟨gy, oy, none⟩, q, c', by omega, by go_num, hA.setne (by simp; omega) _, hR.setne (by simp; omega) _, hL.set 1 _, ?_, hB.setCell (by simp; omega) _, by rw [size_set]; exact hz⟩
            rw [HS.out]
            exact hcut.setlo (by simp) _
          case measure => simp [intOf]; omega
        · have HS := Lib.hid (hS.trans (redF_no (.inr (by rw [← HLE.out, Nat.add_sub_cancel, HY.out]; exact hyx))))
          have hyx2 : (Y == -X) = false := by simpa using hyx
          clear hS
          go_wp2_with (at_builtin; refine app1 rfl rfl ho rfl rfl (by omega) (by omega) ?_; intro g' cc w8 hO hg8 hs8 hb8; have hL8 := hL.below hb8 (by omega); have lL8 := hL8.two)
          go_roundw
          case rel =>
            refine ⟨k + 1, some ⟨g', 0, none⟩, (q + 1) + 1, cc, by omega, by go_num, (hA.below hb8 (by omega)).setne (by simp; omega) _, (hR.below hb8 (by omega)).setne (by simp; omega) _, hL8.set 1 _, ?_, (hB.trans (hb8.mono (by omega))).setCell (by simp; omega) _, by rw [size_set]; omega⟩
            rw [HS.out]
            exact hO.setlo (by simp) _
          case measure => simp [intOf]; omega
    · obtain rfl : n = k := by omega
      have HE : Hid ((xs.take n).foldl redF [] = redL xs) := Lib.hid (by rw [List.take_of_length_le (by have := HL.out; omega)]; rfl)
      rw [HE.out] at ho
      go_wp2
      refine bodyPost_ret (v := .tuple #[bAgg s a' m c', .int .i64 0]) (by simp [results, Tryz.results23, go_sem, lL, lR]) rfl ⟨a', m, c', rfl, ?_, ?_⟩
      · exact ((ho.setlo (by simp; omega) _).setlo (by simp; omega) _).mono (by omega)
      · exact (hB.setCell (by simp) _).setCell (by simp) _
theorem impl_Red_no (s : Int) (a : Option Addr) (n c : Nat) (xs : List Int) (w : World) (h1 : Row w a n xs) (hm : n ≤ 9223372036854775807) (hb : isBr s xs = false) :
    Calls Tryz.prog 23 #[bAgg s a n c] w (RetB w 0 [] 1) := by
  have HB := Lib.hid hb; clear hb
  obtain ⟨w0, hw0⟩ : ∃ w0, (w.alloc (.cells #[.int .i64 s, .slice a n c] 26)).alloc (.cells #[.int .i64 0, .slice none 0 0] 26) = w0 := ⟨_, rfl⟩
  have hA : Loc w0 w.heap.size #[.int .i64 s, .slice a n c] 26 := by rw [← hw0]; exact (Loc.new w rfl _ _).alloc _
  have hR : Loc w0 (w.heap.size + 1) #[.int .i64 0, .slice none 0 0] 26 := by rw [← hw0]; exact Loc.new _ (by simp) _ _
  have hB0 : Below w.heap.size w w0 := by rw [← hw0]; exact below_al (below_al (Below.refl _ _) _) _
  have hr0 := h1.below hB0
  have HW0 := Lib.hid hw0
  clear hw0
  have lA0 := hA.two
  go_enter Tryz.func23, Tryz.ntmps23
  go_wp2_with fail
  rw [HW0.out]
  refine (isBraid_any _ _ _ _ xs _ hr0 hm).mono ?_
  rintro e w1 ⟨rfl, hb1⟩
  rw [HB.out]
  replace hR := hR.below hb1 hR.lt
  have hB1 := below_th hB0 hb1
  have lR := hR.two
  clear lA0
  go_wp2
  refine bodyPost_ret (v := .tuple #[bAgg 0 none 0 0, .int .i64 1]) (by simp [results, Tryz.results23, go_sem, lR]) rfl ⟨none, 0, 0, rfl, Own.nil _ _, ?_⟩
  exact (hB1.setCell (by simp) _).setCell (by simp) _
end Go.Proofs.YtdkpalllfekiiaaGreat
