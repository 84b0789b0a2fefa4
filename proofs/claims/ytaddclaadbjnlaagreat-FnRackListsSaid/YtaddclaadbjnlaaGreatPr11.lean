/-
  Walks and plain laws of this seat, some texts in one.
  No condition but bounds on lengths.
-/
import Derived.Test.YtaddclaadbjnlaaGreatPr10
import Derived.Test.YtaddclaadbjnlaaGreatPr2
import Derived.Test.YtaddclaadbjnlaaGreatPr6
import Derived.Test.YtaddclaadbjnlaaGreatPr7
import Derived.Test.YtaddclaadbjnlaaGreatPr1
import Derived.Test.YtaddclaadbjnlaaGreatPr4
namespace Go.Proofs.YtaddclaadbjnlaaGreat
set_option maxRecDepth 100000
set_option linter.unusedVariables false
set_option linter.unusedSimpArgs false
open Go.RowKit
theorem isNaN_any (x : Int) (w : World) : Calls Tryz.prog 180 #[.int .i64 x] w fun e w' => e = .returned (.bool false) ∧ w = w' := by
  have h : (x != x) = false := by simp
  go_enter Tryz.func180, Tryz.ntmps180
  go_wp2
  go_ret
  exact ⟨rfl, rfl⟩
theorem compareI_any (x y : Int) (w : World) : Calls Tryz.prog 155 #[.int .i64 x, .int .i64 y] w fun e w' => e = .returned (.int .i64 (cmpI x y)) ∧ w = w' := by
  by_cases h1 : x < y
  · have hq : cmpI x y = -1 := by unfold cmpI; rw [if_pos h1]
    rw [hq]; clear hq
    go_enter Tryz.func155, Tryz.ntmps155
    go_wp2_with fail
    refine (isNaN_any _ _).mono ?_
    rintro e w2 ⟨rfl, rfl⟩
    go_wp2_with fail
    refine (isNaN_any _ _).mono ?_
    rintro e w2 ⟨rfl, rfl⟩
    go_wp2
    go_ret
    exact ⟨rfl, rfl⟩
  · by_cases h2 : y < x
    · have hq : cmpI x y = 1 := by unfold cmpI; rw [if_neg h1, if_pos h2]
      rw [hq]; clear hq
      go_enter Tryz.func155, Tryz.ntmps155
      go_wp2_with fail
      refine (isNaN_any _ _).mono ?_
      rintro e w2 ⟨rfl, rfl⟩
      go_wp2_with fail
      refine (isNaN_any _ _).mono ?_
      rintro e w2 ⟨rfl, rfl⟩
      go_wp2
      go_ret
      exact ⟨rfl, rfl⟩
    · have hq : cmpI x y = 0 := by unfold cmpI; rw [if_neg h1, if_neg h2]
      rw [hq]; clear hq
      go_enter Tryz.func155, Tryz.ntmps155
      go_wp2_with fail
      refine (isNaN_any _ _).mono ?_
      rintro e w2 ⟨rfl, rfl⟩
      go_wp2_with fail
      refine (isNaN_any _ _).mono ?_
      rintro e w2 ⟨rfl, rfl⟩
      go_wp2
      go_ret
      exact ⟨rfl, rfl⟩
set_option maxHeartbeats 4000000 in
theorem compareR_any (a1 a2 : Option Addr) (n1 n2 c1 c2 : Nat) (xs ys : List Int) (w : World) (h1 : Row w a1 n1 xs) (h2 : Row w a2 n2 ys) (hm : n1 ≤ 9223372036854775807) :
    Calls Tryz.prog 137 #[.slice a1 n1 c1, .slice a2 n2 c2] w fun e w' => e = .returned (.int .i64 (cmpL xs ys)) ∧ w = w' := by
  have HL1 := Lib.hid h1.len; have HL2 := Lib.hid h2.len
  go_enter Tryz.func137, Tryz.ntmps137
  go_wp2
  go_loop [5, 6, 7, 8, 11] (fun _ _ _ _ i => ∃ k : Nat, k ≤ n1 ∧ i = .int .i64 k ∧ (k ≤ n2) ∧ Hid (cmpL xs ys = cmpG cmpI (xs.drop k) (ys.drop k))) (fun _ _ _ _ i => n1 - (intOf i).toNat)
  case atStart => exact ⟨0, Nat.zero_le _, rfl, Nat.zero_le _, Lib.hid rfl⟩
  case round =>
    obtain ⟨k, hk, rfl, hk2, HK⟩ := hrel
    by_cases hlt : k < n1
    · obtain ⟨b1, o1, rfl, g1⟩ := h1.at k hlt
      obtain ⟨X, HX⟩ : ∃ X, Hid (xs.getD k 0 = X) := ⟨_, rfl⟩
      rw [HX.out] at g1
      have i1 : (0 : Int) ≤ (k : Int) := by omega
      have i2 : (k : Int) < (n1 : Int) := by omega
      by_cases hlt2 : k < n2
      · obtain ⟨b2, o2, rfl, g2⟩ := h2.at k hlt2
        obtain ⟨Y, HY⟩ : ∃ Y, Hid (ys.getD k 0 = Y) := ⟨_, rfl⟩
        rw [HY.out] at g2
        have i3 : (k : Int) < (n2 : Int) := by omega
        have i4 : ¬ (n2 : Int) ≤ (k : Int) := by omega
        have hst := cmpG_step (c := cmpI) (xs := xs) (ys := ys) (k := k) 0 (by have := HL1.out; omega) (by have := HL2.out; omega)
        rw [HX.out, HY.out] at hst
        by_cases hc : cmpI X Y = 0
        · rw [if_pos hc] at hst
          have HST := Lib.hid hst
          have HC := Lib.hid hc
          have t1 : ((0 : Int) != 0) = false := rfl
          clear hst hc
          go_wp2_with fail
          refine (compareI_any _ _ _).mono ?_
          rintro e w2 ⟨rfl, rfl⟩
          rw [HC.out]
          go_wp2
          go_round
          case rel => exact ⟨k + 1, by omega, by go_num, by omega, Lib.hid (by rw [HK.out, HST.out])⟩
          case measure => simp [intOf]; omega
        · rw [if_neg hc] at hst
          have HR : Hid (cmpI X Y = cmpL xs ys) := Lib.hid (by rw [HK.out, hst])
          obtain ⟨C, HC⟩ : ∃ C, Hid (cmpI X Y = C) := ⟨_, rfl⟩
          have t1 : (C != 0) = true := by rw [← HC.out]; simp [hc]
          clear hst hc
          go_wp2_with fail
          refine (compareI_any _ _ _).mono ?_
          rintro e w2 ⟨rfl, rfl⟩
          rw [HC.out]
          go_wp2
          go_ret
          exact ⟨ret_int (by rw [← HC.out, HR.out]), rfl⟩
      · have i4 : (n2 : Int) ≤ (k : Int) := by omega
        have HR : Hid (cmpL xs ys = 1) := Lib.hid (by rw [HK.out, cmpG_long (by have := HL1.out; omega) (by have := HL2.out; omega)])
        go_wp2
        go_ret
        exact ⟨ret_int HR.out.symm, rfl⟩
    · obtain rfl : n1 = k := by omega
      by_cases hlt2 : n1 < n2
      · have i3 : (n1 : Int) < (n2 : Int) := by omega
        have HR : Hid (cmpL xs ys = -1) := Lib.hid (by rw [HK.out, cmpG_short HL1.out (by have := HL2.out; omega)])
        go_wp2
        go_ret
        exact ⟨ret_int HR.out.symm, rfl⟩
      · have i3 : ¬ (n1 : Int) < (n2 : Int) := by omega
        have HR : Hid (cmpL xs ys = 0) := Lib.hid (by rw [HK.out, cmpG_even HL1.out (by have := HL2.out; omega)])
        go_wp2
        go_ret
        exact ⟨ret_int HR.out.symm, rfl⟩
theorem compareT1_any (a1 a2 : Option Addr) (n1 n2 c1 c2 : Nat) (xs ys : List Int) (w : World) (h1 : Row w a1 n1 xs) (h2 : Row w a2 n2 ys) (hm : n1 ≤ 9223372036854775807) :
    Calls Tryz.prog 136 #[.slice a1 n1 c1, .slice a2 n2 c2] w fun e w' => e = .returned (.int .i64 (cmpL xs ys)) ∧ w = w' := by
  have H := Lib.hid (compareR_any a1 a2 n1 n2 c1 c2 xs ys w h1 h2 hm)
  go_enter Tryz.func136, Tryz.ntmps136
  go_wp2_with fail
  refine H.out.mono ?_
  rintro e w2 ⟨rfl, rfl⟩
  go_wp2
  go_ret
  exact ⟨rfl, rfl⟩
set_option maxHeartbeats 4000000 in
theorem compareF_any (a1 a2 : Option Addr) (n1 n2 c1 c2 : Nat) (xss yss : List (List Int)) (w : World) (h1 : Tbl w a1 n1 xss) (h2 : Tbl w a2 n2 yss) (hm : n1 ≤ 9223372036854775807) :
    Calls Tryz.prog 135 #[.slice a1 n1 c1, .slice a2 n2 c2, .func (.func 136) #[] #[]] w fun e w' => e = .returned (.int .i64 (cmpT xss yss)) ∧ w = w' := by
  have HL1 := Lib.hid h1.len; have HL2 := Lib.hid h2.len
  go_enter Tryz.func135, Tryz.ntmps135
  go_wp2
  go_loop [7, 8, 9, 10, 13] (fun _ _ _ _ i => ∃ k : Nat, k ≤ n1 ∧ i = .int .i64 k ∧ (k ≤ n2) ∧ Hid (cmpT xss yss = cmpG cmpL (xss.drop k) (yss.drop k))) (fun _ _ _ _ i => n1 - (intOf i).toNat)
  case atStart => exact ⟨0, Nat.zero_le _, rfl, Nat.zero_le _, Lib.hid rfl⟩
  case round =>
    obtain ⟨k, hk, rfl, hk2, HK⟩ := hrel
    by_cases hlt : k < n1
    · obtain ⟨b1, o1, ax, nx, cx, rfl, g1, r1, l1⟩ := h1.at k hlt
      have i1 : (0 : Int) ≤ (k : Int) := by omega
      have i2 : (k : Int) < (n1 : Int) := by omega
      by_cases hlt2 : k < n2
      · obtain ⟨b2, o2, ay, ny, cy, rfl, g2, r2, l2⟩ := h2.at k hlt2
        have i3 : (k : Int) < (n2 : Int) := by omega
        have i4 : ¬ (n2 : Int) ≤ (k : Int) := by omega
        have hst := cmpG_step (c := cmpL) (xs := xss) (ys := yss) (k := k) [] (by have := HL1.out; omega) (by have := HL2.out; omega)
        by_cases hc : cmpL (xss.getD k []) (yss.getD k []) = 0
        · rw [if_pos hc] at hst
          have HST := Lib.hid hst
          have HC := Lib.hid hc
          have t1 : ((0 : Int) != 0) = false := rfl
          clear hst hc
          go_wp2_with fail
          refine (compareT1_any _ _ _ _ _ _ _ _ _ r1 r2 l1).mono ?_
          rintro e w2 ⟨rfl, rfl⟩
          rw [HC.out]
          go_wp2
          go_round
          case rel => exact ⟨k + 1, by omega, by go_num, by omega, Lib.hid (by rw [HK.out, HST.out])⟩
          case measure => simp [intOf]; omega
        · rw [if_neg hc] at hst
          obtain ⟨C, HC⟩ : ∃ C, Hid (cmpL (xss.getD k []) (yss.getD k []) = C) := ⟨_, rfl⟩
          have HR : Hid (C = cmpT xss yss) := Lib.hid (by rw [HK.out, hst, HC.out])
          have t1 : (C != 0) = true := by rw [← HC.out]; simpa using hc
          clear hst hc
          go_wp2_with fail
          refine (compareT1_any _ _ _ _ _ _ _ _ _ r1 r2 l1).mono ?_
          rintro e w2 ⟨rfl, rfl⟩
          rw [HC.out]
          go_wp2
          go_ret
          exact ⟨ret_int HR.out, rfl⟩
      · have i4 : (n2 : Int) ≤ (k : Int) := by omega
        have HR : Hid (cmpT xss yss = 1) := Lib.hid (by rw [HK.out, cmpG_long (by have := HL1.out; omega) (by have := HL2.out; omega)])
        go_wp2
        go_ret
        exact ⟨ret_int HR.out.symm, rfl⟩
    · obtain rfl : n1 = k := by omega
      by_cases hlt2 : n1 < n2
      · have i3 : (n1 : Int) < (n2 : Int) := by omega
        have HR : Hid (cmpT xss yss = -1) := Lib.hid (by rw [HK.out, cmpG_short HL1.out (by have := HL2.out; omega)])
        go_wp2
        go_ret
        exact ⟨ret_int HR.out.symm, rfl⟩
      · have i3 : ¬ (n1 : Int) < (n2 : Int) := by omega
        have HR : Hid (cmpT xss yss = 0) := Lib.hid (by rw [HK.out, cmpG_even HL1.out (by have := HL2.out; omega)])
        go_wp2
        go_ret
        exact ⟨ret_int HR.out.symm, rfl⟩
theorem compareTables_any (a1 a2 : Option Addr) (n1 n2 c1 c2 : Nat) (xss yss : List (List Int)) (w : World) (h1 : Tbl w a1 n1 xss) (h2 : Tbl w a2 n2 yss) (hm : n1 ≤ 9223372036854775807) :
    Calls Tryz.prog 97 #[.slice a1 n1 c1, .slice a2 n2 c2] w fun e w' => e = .returned (.int .i64 (cmpT xss yss)) ∧ w = w' := by
  have H := Lib.hid (compareF_any a1 a2 n1 n2 c1 c2 xss yss w h1 h2 hm)
  go_enter Tryz.func97, Tryz.ntmps97
  go_wp2_with fail
  refine H.out.mono ?_
  rintro e w2 ⟨rfl, rfl⟩
  go_wp2
  go_ret
  exact ⟨rfl, rfl⟩
theorem equalTables_any (a1 a2 : Option Addr) (n1 n2 c1 c2 : Nat) (xss yss : List (List Int)) (w : World) (h1 : Tbl w a1 n1 xss) (h2 : Tbl w a2 n2 yss) (hm : n1 ≤ 9223372036854775807) :
    Calls Tryz.prog 51 #[.slice a1 n1 c1, .slice a2 n2 c2] w fun e w' => e = .returned (.bool (decide (xss = yss))) ∧ w = w' := by
  have H := Lib.hid (compareTables_any a1 a2 n1 n2 c1 c2 xss yss w h1 h2 hm)
  have hq : decide (xss = yss) = (cmpT xss yss == 0) := by
    rw [Bool.eq_iff_iff]; simp [cmpT_eq]
  rw [hq]; clear hq
  obtain ⟨C, HC⟩ : ∃ C, Hid (cmpT xss yss = C) := ⟨_, rfl⟩
  rw [HC.out] at H ⊢
  go_enter Tryz.func51, Tryz.ntmps51
  go_wp2_with fail
  refine H.out.mono ?_
  rintro e w2 ⟨rfl, rfl⟩
  go_wp2
  go_ret
  exact ⟨rfl, rfl⟩
end Go.Proofs.YtaddclaadbjnlaaGreat

namespace Go.Proofs.YtaddclaadbjnlaaGreat
set_option maxRecDepth 100000
set_option linter.unusedVariables false
set_option linter.unusedSimpArgs false
open Go.RowKit
attribute [local go_sem] Oper.semAt_some
def lstF (n : Nat) (t best : List (List Int)) (p : List Int) : List (List Int) := if cmpT (rnL n t p) best < 0 then rnL n t p else best
def lstK (n : Nat) (t : List (List Int)) (k : Nat) : List (List Int) := ((prmL n).take k).foldl (lstF n t) t
def leastL (n : Nat) (t : List (List Int)) : List (List Int) := (prmL n).foldl (lstF n t) t
theorem lstK_succ (n : Nat) (t : List (List Int)) {k : Nat} (h : k < (prmL n).length) : lstK n t (k + 1) = lstF n t (lstK n t k) ((prmL n).getD k []) := by
  unfold lstK
  rw [List.take_succ_eq_append_getElem h, List.foldl_append]
  simp [List.getD_eq_getElem?_getD, List.getElem?_eq_getElem h]
set_option maxHeartbeats 16000000 in
theorem leastTable_any (N : Nat) (at_ : Option Addr) (ct : Nat) (t : List (List Int)) (w : World) (h1 : 1 ≤ N) (h4 : N ≤ 4) (hT : Tbl w at_ N t) (hs : Sq N t) :
    Calls Tryz.prog 48 #[.slice at_ N ct] w fun e w' => ∃ a c vs, e = .returned (.tuple #[.slice a N c, .int .i64 0]) ∧ OwnT w' w.heap.size a N c vs (leastL N t) ∧ Below w.heap.size w w' := by
  have HIT : Hid (isTab t = true) := Lib.hid (sq_isTab hs h1 (by omega))
  have HRW : Hid (∀ i, i < N → (t.getD i []).length ≤ 1000000) := Lib.hid fun i hi => by rw [hs.row hi]; omega
  have HS := Lib.hid hs
  clear hs
  obtain ⟨wa, hwa⟩ : ∃ wa, w.alloc (.cells #[.slice at_ N ct] 32) = wa := ⟨_, rfl⟩
  have hza : wa.heap.size = w.heap.size + 1 := by rw [← hwa]; simp
  have hBa : Below w.heap.size w wa := by rw [← hwa]; exact below_al (Below.refl _ _) _
  have hLa : Loc wa w.heap.size #[.slice at_ N ct] 32 := by rw [← hwa]; exact Loc.new w rfl _ _
  have lLa := hLa.one
  have hTa := hT.below hBa
  refine (callsIn_wide (n := 3)).1 ?_
  refine callsIn_of_wp_marks Tryz.func48 rfl trivial ?_ rfl
  simp only [Tryz.ntmps48, List.size_toArray, List.length_cons, List.length_nil, Nat.reduceAdd, Nat.reduceSub, Array.replicate_succ, Array.replicate_zero, List.push_toArray, List.append_toArray, List.nil_append, List.cons_append]
  gi_wp2_with (refine ⟨trivial, ?_⟩; gi_at_call 53; refine (callsIn_wide.2 (isTable_any at_ N ct t _ hTa (by omega))).mono ?_; rintro e w1 ⟨rfl, hb1⟩; rw [HIT.out]; have hL1 := hLa.below hb1 hLa.lt; have lL1 := hL1.one)
  have hB1 := below_th hBa hb1
  have hT1 := hTa.below hb1
  gi_wp2_with (refine ⟨trivial, ?_⟩; gi_at_call 90; refine (callsIn_wide.2 (cloneTable_any at_ N ct t _ hT1 (by omega) HRW.out)).mono ?_; rintro e w2 ⟨a2, c2, vs2, rfl, ho2, hb2⟩; have hL3 := (hL1.below hb2 hL1.lt).alloc (.cells #[.slice a2 N c2] 32); have lL3 := hL3.one)
  have hB2 := below_th hB1 hb2
  have hz2 := hb2.size
  have hz1 := hb1.size
  obtain ⟨w3, hw3⟩ : ∃ w3, w2.alloc (.cells #[.slice a2 N c2] 32) = w3 := ⟨_, rfl⟩
  rw [hw3] at hL3 lL3
  have hz3 : w3.heap.size = w2.heap.size + 1 := by rw [← hw3]; simp
  have hB3 : Below w.heap.size w w3 := by rw [← hw3]; exact below_al hB2 _
  have hM3 : Loc w3 w2.heap.size #[.slice a2 N c2] 32 := by rw [← hw3]; exact Loc.new w2 rfl _ _
  have ho3 : OwnT w3 w1.heap.size a2 N c2 vs2 t := by rw [← hw3]; exact ho2.alloc _
  have i7 : decide ((7 : Int) < (N : Int)) = false := by simp; omega
  rw [hw3]
  gi_wp2_with (refine ⟨trivial, ?_⟩; gi_at_call 88; refine (callsIn_wide.2 (perms_any N _)).mono ?_; rintro e w4 ⟨rfl, rfl⟩)
  obtain ⟨W0, hW0⟩ : ∃ W0, w3.alloc (.cells #[.int .i64 N] 3) = W0 := ⟨_, rfl⟩
  rw [hW0]
  have hs0 : W0.heap.size = w2.heap.size + 2 := by rw [← hW0]; simp; omega
  have hB0 : Below w.heap.size w W0 := by rw [← hW0]; exact below_al hB3 _
  have hLT : Loc W0 w.heap.size #[.slice at_ N ct] 32 := by rw [← hW0]; exact hL3.alloc _
  have hLM : Loc W0 w2.heap.size #[.slice a2 N c2] 32 := by rw [← hW0]; exact hM3.alloc _
  have hLN : Loc W0 (w2.heap.size + 1) #[.int .i64 N] 3 := by rw [← hW0]; exact Loc.new w3 (by omega) _ _
  have hoM : OwnT W0 w.heap.size a2 N c2 vs2 t := by rw [← hW0]; exact (ho3.alloc _).mono (by omega)
  have hhi : ∀ g, TblS a2 N vs2 g → g < w2.heap.size := fun g hg => ho2.uHi g hg
  have HM := Lib.hid (prm_bd h1 h4)
  have HPP := Lib.hid (prm_isP h1 h4)
  have HHI := Lib.hid hhi
  have HW3 := Lib.hid hw3
  clear hW0 hw3 hwa hhi
  refine wpIn_rangeFunc_it rfl (by omega) (gf := 126) (lb := #[.pointer (some ⟨w2.heap.size + 1, 0, none⟩)]) rfl trivial (enters_of Tryz.func126 (by kernel_rfl) rfl)
    (perms1_it _ N (w2.heap.size + 1) W0 (by omega) hLN.one.1 h1 h4) (Below.refl _ _) rfl
    (fun b k W => ∃ a c vs, Loc W w2.heap.size #[.slice a N c] 32 ∧ OwnT W w.heap.size a N c vs (lstK N t k) ∧ (∀ g, TblS a N vs g → g ≠ b ∧ g ≠ w2.heap.size ∧ g ≠ W0.heap.size ∧ g ≠ W0.heap.size + 1) ∧ b < W.heap.size ∧ Loc W w.heap.size #[.slice at_ N ct] 32 ∧ Below w.heap.size w W)
    ?start ?abide
    (fun b c => { tmps := #[.slice at_ N ct, .pointer (some ⟨w.heap.size, 0, none⟩), .slice none 0 0, .int .i64 0, .pointer (some ⟨w2.heap.size, 0, none⟩), .slice (some ⟨b, 0, none⟩) N c, undef, .slice at_ N ct, .bool true, .bool false, .slice at_ N ct, .int .i64 N,
      .bool false, .slice at_ N ct, .slice a2 N c2, .slice at_ N ct, .int .i64 N, .func (.func 126) #[] #[.pointer (some ⟨w2.heap.size + 1, 0, none⟩)], .slice (some ⟨b, 0, none⟩) N c, undef, undef, undef, undef, undef, undef, undef, undef, undef], defers := [] })
    ?assign ?body ?done
  case start =>
    intro b W' hb hlt hB
    exact ⟨a2, c2, vs2, hLM.below hB (by omega), OwnT.keep hoM fun g h1 h2 => hB.block g (by have := HHI.out g h1; omega), fun g hg => by have := HHI.out g hg; omega, hlt, hLT.below hB (by omega), hB0.trans (hB.mono (by omega))⟩
  case abide =>
    rintro b k A B r hr hb ⟨a, c, vs, q1, q2, q3, q4, q5, q6⟩ hg
    have hne : ∀ g, (g < W0.heap.size) → some g ≠ some r := fun g hg e => by cases e; omega
    refine ⟨a, c, vs, q1.grown hg (hne _ (by omega)), OwnT.keep q2 fun g h1 h2 => hg.block g h2 (fun e => ?_), q3, by have := hg.size; omega, q5.grown hg (hne _ (by omega)), q6.grown hg q6.size (fun j e => by cases e; omega)⟩
    have e' : g = r := by injection e
    have h3 := q3 g h1
    omega
  case assign =>
    intro l b c W K hK
    gi_wp2
    exact hK
  case body =>
    rintro l b c k W hb hkM ⟨a, ca, vs, hL, ho, hav, hbW, hLt, hB⟩ hs hown
    have hpk := HPP.out k hkM
    have lL := hL.one
    have lT := hLt.one
    have hTW := hT.below hB
    have HAV := Lib.hid hav
    have HKK := Lib.hid (lstK_succ N t hkM)
    obtain ⟨p, HP⟩ : ∃ p, Hid ((prmL N).getD k [] = p) := ⟨_, rfl⟩
    rw [HP.out] at hpk hown HKK
    have HPK := Lib.hid hpk
    clear hav hpk
    obtain ⟨C, HC⟩ : ∃ C, Hid (cmpT (rnL N t p) (lstK N t k) = C) := ⟨_, rfl⟩
    have hC64 : -1 ≤ C ∧ C ≤ 1 := by rw [← HC.out]; exact cmpT_bd _ _
    by_cases hC : C < 0
    · have HKN : Hid (lstK N t (k + 1) = rnL N t p) := Lib.hid (by rw [HKK.out]; unfold lstF; rw [HC.out, if_pos hC])
      gi_wp2_with (first
        | (refine ⟨trivial, ?_⟩; gi_at_call 96; refine (CallsIn.inRound l (callsIn_wide.2 (renamed_any N _ _ _ _ t p W hTW hown.row HS.out HPK.out (by omega)))).mono ?_; rintro e w5 ⟨a5, c5, vs5, rfl, ho5, hb5⟩; have hL5 := hL.below hb5 hL.lt; have lL5 := hL5.one)
        | (refine ⟨trivial, ?_⟩; gi_at_call 97; refine (CallsIn.inRound l (callsIn_wide.2 (compareTables_any _ _ _ _ _ _ _ _ w5 ho5.tbl (ho.below hb5).tbl (by omega)))).mono ?_; rintro e w6 ⟨rfl, rfl⟩; rw [HC.out]))
      have hz5 := hb5.size
      have hsc : ∀ q, q ≠ w2.heap.size → (w5.setCell ⟨w2.heap.size, 0, none⟩ (.slice a5 N c5)).heap[q]? = w5.heap[q]? := fun q hq => Below.heap_setCell _ _ _ _ hq
      refine ⟨⟨a5, c5, vs5, hL5.set 0 _, ?_, ?_, by rw [size_set]; omega, ?_, ?_⟩, ?_, by rw [size_set]; omega, ?_, ?_⟩
      · rw [HKN.out]
        exact (OwnT.keep ho5 fun g h1 h2 => hsc g (by have := ho5.uLo g h1; omega)).mono hB.size
      · intro g hg
        have := ho5.uLo g hg
        omega
      · exact ((hsc _ (by omega)).trans (hb5.block _ hLt.lt)).trans hLt
      · exact (hB.trans (hb5.mono hB.size)).setCell (by show w.heap.size ≤ w2.heap.size; omega) _
      · exact (hsc _ (by omega)).trans (hb5.block _ hbW)
      · exact (hsc _ (by omega)).trans (hb5.block _ (by omega))
      · exact (hsc _ (by omega)).trans (hb5.block _ (by omega))
    · have HKN : Hid (lstK N t (k + 1) = lstK N t k) := Lib.hid (by rw [HKK.out]; unfold lstF; rw [HC.out, if_neg hC])
      gi_wp2_with (first
        | (refine ⟨trivial, ?_⟩; gi_at_call 96; refine (CallsIn.inRound l (callsIn_wide.2 (renamed_any N _ _ _ _ t p W hTW hown.row HS.out HPK.out (by omega)))).mono ?_; rintro e w5 ⟨a5, c5, vs5, rfl, ho5, hb5⟩; have hL5 := hL.below hb5 hL.lt; have lL5 := hL5.one)
        | (refine ⟨trivial, ?_⟩; gi_at_call 97; refine (CallsIn.inRound l (callsIn_wide.2 (compareTables_any _ _ _ _ _ _ _ _ w5 ho5.tbl (ho.below hb5).tbl (by omega)))).mono ?_; rintro e w6 ⟨rfl, rfl⟩; rw [HC.out]))
      have hz5 := hb5.size
      refine ⟨⟨a, ca, vs, hL5, ?_, HAV.out, by omega, hLt.below hb5 hLt.lt, hB.trans (hb5.mono hB.size)⟩, hb5.block _ hbW, by omega, hb5.block _ (by omega), hb5.block _ (by omega)⟩
      rw [HKN.out]
      exact ho.below hb5
  case done =>
    rintro b W hb ⟨a, c, vs, hL, ho, hav, hbW, hLt, hB⟩ hK
    have lL := hL.one
    have HAV := Lib.hid hav
    have hE : lstK N t (prmL N).length = leastL N t := by unfold lstK leastL; rw [List.take_length]
    rw [hE] at ho
    clear hav hE
    gi_wp2
    refine ⟨by simp, .inl ⟨_, _, rfl, run_takeDeferred hK, ?_⟩⟩
    refine ⟨_, results_tmp2 rfl _ _ _, a, c, vs, rfl, ?_, ?_⟩
    · exact OwnT.keep ho fun g hg hlt => World.putObj_heap_other (HAV.out g hg).2.2.1
    · exact hB.grown (grownBy_putObj' _ _ _) hB.size (fun j e => by cases e; omega)
end Go.Proofs.YtaddclaadbjnlaaGreat

namespace Go.Proofs.YtaddclaadbjnlaaGreat
set_option maxRecDepth 100000
set_option linter.unusedVariables false
set_option linter.unusedSimpArgs false
open Go.RowKit
theorem info_bool : (Tryz.prog.info? 4).map (fun i => (i.zero, i.size, i.bytes)) = some (some (.bool false), 1, 1) := by kernel_rfl
theorem und_bools : Tryz.prog.underlying 104 = some (.slice 4) := by kernel_rfl
/-! ### A slice of truths that the call owns (its block lies from 'lo' on) -/
def OwnBo (w : World) (lo : Nat) (a : Option Addr) (n c : Nat) (xs : List Bool) : Prop := n = xs.length ∧ w.ownsRow lo 4 1 (.slice a n c) n (xs.map Value.bool)
theorem OwnBo.nil (w : World) (lo : Nat) : OwnBo w lo none 0 0 [] := ⟨rfl, World.ownsRow_nil w lo _ 1⟩
theorem OwnBo.len {w : World} {lo : Nat} {a : Option Addr} {n c : Nat} {xs : List Bool} (h : OwnBo w lo a n c xs) : n = xs.length := h.1
theorem OwnBo.alloc {w : World} {lo : Nat} {a : Option Addr} {n c : Nat} {xs : List Bool} (h : OwnBo w lo a n c xs) (o : Obj) : OwnBo (w.alloc o) lo a n c xs := ⟨h.1, h.2.alloc o⟩
theorem OwnBo.drew {w : World} {lo : Nat} {a : Option Addr} {n c : Nat} {xs : List Bool} (h : OwnBo w lo a n c xs) : OwnBo w.drew lo a n c xs := h
theorem OwnBo.drewN {w : World} {lo : Nat} {a : Option Addr} {n c : Nat} {xs : List Bool} (h : OwnBo w lo a n c xs) (k : Nat) : OwnBo (w.drewN k) lo a n c xs := h
theorem OwnBo.block {w : World} {lo : Nat} {a : Option Addr} {n c : Nat} {xs : List Bool} (h : OwnBo w lo a n c xs) : (a = none ∧ n = 0 ∧ c = 0) ∨ ∃ g cur, a = some ⟨g, 0, none⟩ ∧ lo ≤ g ∧ Loc w g cur 4 ∧ n ≤ c ∧ c ≤ maxLen ∧ cur.size = c ∧ cur.toList.take n = xs.map Value.bool := by
  rcases h.2.2 with ⟨h1, h2⟩ | ⟨g, cap, cur, h1, h2, h3, h4, h5, h6, h7⟩
  · cases h1; exact .inl ⟨rfl, rfl, rfl⟩
  · cases h1; exact .inr ⟨g, cur, rfl, h2, h3, h4, h5, by simpa using h6, by simpa using h7⟩
theorem OwnBo.mk {w : World} {lo : Nat} {g n c : Nat} {xs : List Bool} {cur : Array Value} (hn : n = xs.length) (h1 : lo ≤ g) (h2 : Loc w g cur 4) (h3 : n ≤ c) (h4 : c ≤ maxLen) (h5 : cur.size = c) (h6 : cur.toList.take n = xs.map Value.bool) : OwnBo w lo (some ⟨g, 0, none⟩) n c xs :=
  ⟨hn, by simp [hn], .inr ⟨g, c, cur, rfl, h1, h2, h3, h4, by simpa using h5, by simpa using h6⟩⟩
theorem OwnBo.lt {w : World} {lo : Nat} {g o n c : Nat} {xs : List Bool} (h : OwnBo w lo (some ⟨g, o, none⟩) n c xs) : lo ≤ g ∧ g < w.heap.size := by
  rcases h.block with ⟨h1, _⟩ | ⟨g', cur, h1, h2, h3, _⟩
  · cases h1
  · cases h1; exact ⟨h2, h3.lt⟩
theorem OwnBo.mono {w : World} {lo lo' : Nat} {a : Option Addr} {n c : Nat} {xs : List Bool} (h : OwnBo w lo a n c xs) (hl : lo' ≤ lo) : OwnBo w lo' a n c xs := by
  rcases h.block with ⟨rfl, rfl, rfl⟩ | ⟨g, cur, rfl, h2, h3, h4, h5, h6, h7⟩
  · have : xs = [] := List.eq_nil_of_length_eq_zero h.1.symm
    subst this; exact OwnBo.nil _ _
  · exact OwnBo.mk h.1 (by omega) h3 h4 h5 h6 h7
theorem OwnBo.keep {w w' : World} {lo : Nat} {a : Option Addr} {n c : Nat} {xs : List Bool} (h : OwnBo w lo a n c xs) (hk : ∀ g, a = some ⟨g, 0, none⟩ → g < w.heap.size → w'.heap[g]? = w.heap[g]?) : OwnBo w' lo a n c xs := by
  rcases h.block with ⟨rfl, rfl, rfl⟩ | ⟨g, cur, rfl, h2, h3, h4, h5, h6, h7⟩
  · have : xs = [] := List.eq_nil_of_length_eq_zero h.1.symm
    subst this; exact OwnBo.nil _ _
  · exact OwnBo.mk h.1 h2 ((hk g rfl h3.lt).trans h3) h4 h5 h6 h7
theorem OwnBo.below {w w' : World} {lo : Nat} {a : Option Addr} {n c : Nat} {xs : List Bool} (h : OwnBo w lo a n c xs) (hb : Below w.heap.size w w') : OwnBo w' lo a n c xs := h.keep fun g _ hlt => hb.block g hlt
theorem OwnBo.setne {w : World} {lo : Nat} {a : Option Addr} {n c : Nat} {xs : List Bool} (h : OwnBo w lo a n c xs) {p : Addr} (hp : ∀ g, a = some ⟨g, 0, none⟩ → g ≠ p.block) (u : Value) : OwnBo (w.setCell p u) lo a n c xs := h.keep fun g hg _ => Below.heap_setCell _ _ _ _ (hp g hg)
theorem OwnBo.setlo {w : World} {lo : Nat} {a : Option Addr} {n c : Nat} {xs : List Bool} (h : OwnBo w lo a n c xs) {p : Addr} (hp : p.block < lo) (u : Value) : OwnBo (w.setCell p u) lo a n c xs := by
  refine h.setne (fun g hg => ?_) u
  subst hg; have := h.lt; omega
theorem OwnBo.grown {w w' : World} {lo : Nat} {a : Option Addr} {n c : Nat} {xs : List Bool} {row : Option Nat} (h : OwnBo w lo a n c xs) (hg : w.grownBy w' row) (hne : ∀ g, a = some ⟨g, 0, none⟩ → some g ≠ row) : OwnBo w' lo a n c xs := h.keep fun g hg' hlt => hg.block g hlt (hne g hg')
theorem OwnBo.cap {w : World} {lo : Nat} {a : Option Addr} {n c : Nat} {xs : List Bool} (h : OwnBo w lo a n c xs) : n ≤ c ∧ c ≤ 9223372036854775807 := by
  rcases h.block with ⟨rfl, rfl, rfl⟩ | ⟨g, cur, rfl, h2, h3, h4, h5, h6, h7⟩
  · omega
  · unfold maxLen at h5; omega
theorem OwnBo.cells {w : World} {lo : Nat} {g o n c : Nat} {xs : List Bool} (h : OwnBo w lo (some ⟨g, o, none⟩) n c xs) : o = 0 ∧ (∀ i, i < n → w.cell? ⟨g, i, none⟩ = some (.bool (xs.getD i false))) ∧ (∀ i, w.frozen? ⟨g, i, none⟩ = false) := by
  rcases h.block with ⟨h1, _⟩ | ⟨g', cur, h1, h2, h3, h4, h5, h6, h7⟩
  · cases h1
  · cases h1
    refine ⟨rfl, fun i hi => h3.cell i ?_, fun i => h3.free i⟩
    have hx : (cur.toList.take n)[i]? = (xs.map Value.bool)[i]? := by rw [h7]
    have hxi : i < xs.length := by have := h.1; omega
    rw [List.getElem?_take, if_pos hi] at hx
    simp [List.getElem?_eq_getElem hxi] at hx
    simp [List.getD_eq_getElem?_getD, List.getElem?_eq_getElem hxi, hx]
theorem OwnBo.set {w : World} {lo : Nat} {g n c : Nat} {xs : List Bool} (h : OwnBo w lo (some ⟨g, 0, none⟩) n c xs) (i : Nat) (x : Bool) : OwnBo (w.setCell ⟨g, i, none⟩ (.bool x)) lo (some ⟨g, 0, none⟩) n c (xs.set i x) := by
  rcases h.block with ⟨h1, _⟩ | ⟨g', cur, h1, h2, h3, h4, h5, h6, h7⟩
  · cases h1
  · cases h1
    refine OwnBo.mk (by simp [h.1]) h2 (h3.set i _) h4 h5 (by simpa using h6) ?_
    rw [Array.toList_setIfInBounds, List.take_set, h7, List.map_set]
theorem OwnBo.hi {w : World} {lo : Nat} {a : Option Addr} {n c : Nat} {xs : List Bool} (h : OwnBo w lo a n c xs) : ∀ g, a = some ⟨g, 0, none⟩ → g < w.heap.size := fun g hg => by subst hg; exact h.lt.2
theorem OwnBo.lo {w : World} {lo : Nat} {a : Option Addr} {n c : Nat} {xs : List Bool} (h : OwnBo w lo a n c xs) : ∀ g, a = some ⟨g, 0, none⟩ → lo ≤ g := fun g hg => by subst hg; exact h.lt.1
theorem makeBo {ops : Array Oper} {rest : List Oper} {o : Oper} {a : Act} {Q : Exit → Act → World → Prop} {w : World} (hgd : o.guard = none) {l c : Operand}
    (ho : o.op = Op.makeSlice 104 l c) {n : Nat} (hl : a.eval l = .int .i64 n) (hc : a.eval c = .int .i64 n) (hn : n ≤ 1000000000000)
    (h : ∀ w', OwnBo w' w.heap.size (some ⟨w.heap.size, 0, none⟩) n n (List.replicate n false) → w.heap.size < w'.heap.size → Below w.heap.size w w' → wpList Tryz.prog ops Q rest (a.put o.dst (.slice (some ⟨w.heap.size, 0, none⟩) n n)) w') :
    wpList Tryz.prog ops Q (o :: rest) a w := by
  obtain ⟨i0, hi, hz0, hz1, hz2⟩ := info_parts info_bool
  refine wpList_make_full w hgd l c 104 ho w.heap.size 4 i0 (.bool false) 1 und_bools hi hz0 hz1 .i64 .i64 n n n hl hc rfl rfl (by rw [hz2]; omega) (by unfold maxLen; omega) (Nat.le_refl _) ?_
  intro w' ho' hg
  refine h w' ⟨by simp, ?_⟩ ?_ ((Below.refl _ _).grown hg (Nat.le_refl _) (by simp))
  · have e : (madeCells (Value.bool false).cells (n * 1)).toList = (List.replicate n false).map Value.bool := by
      rw [Nat.mul_one, List.map_replicate]; exact toList_madeCells_one _ _
    rw [e] at ho'; exact ho'
  · rcases ho'.2 with ⟨h1, _⟩ | ⟨g, cap, cur, h1, h2, h3, _⟩
    · cases h1
    · cases h1; exact lt_of_block h3
end Go.Proofs.YtaddclaadbjnlaaGreat

namespace Go.Proofs.YtaddclaadbjnlaaGreat
set_option maxRecDepth 100000
set_option linter.unusedVariables false
set_option linter.unusedSimpArgs false
open Go.RowKit
theorem rng_of {k : Nat} {p : Nat → Bool} (h : ∀ y, y < k → p y = true) : (List.range k).all p = true := List.all_eq_true.2 fun y hy => h y (List.mem_range.1 hy)
theorem rng_no {k : Nat} {p : Nat → Bool} {y : Nat} (hy : y < k) (h : p y = false) : (List.range k).all p = false := by
  cases e : (List.range k).all p with
  | false => rfl
  | true => have := List.all_eq_true.1 e y (List.mem_range.2 hy); rw [h] at this; cases this
theorem step_lt {p : Nat → Prop} {x : Nat} (h : ∀ x', x' < x → p x') (hx : p x) : ∀ x', x' < x + 1 → p x' := fun x' h' => by
  by_cases e : x' = x
  · subst e; exact hx
  · exact h x' (by omega)
end Go.Proofs.YtaddclaadbjnlaaGreat

namespace Go.Proofs.YtaddclaadbjnlaaGreat
set_option maxRecDepth 100000
set_option linter.unusedVariables false
set_option linter.unusedSimpArgs false
open Go.RowKit
theorem RwsOk.at {n : Nat} {rows : List (List Int)} (h : RwsOk n rows) {x nx : Nat} (hx : x < n) {w : World} {a : Option Addr} (hr : Row w a nx (rows.getD x [])) : (nx = 0 ∧ rows.getD x [] = []) ∨ (nx = n ∧ IsP n (rows.getD x [])) := by
  rcases h.2 x hx with e | e
  · exact .inl ⟨by have := hr.len; rw [e] at this; simpa using this, e⟩
  · exact .inr ⟨by have := hr.len; rw [e.len] at this; exact this, e⟩
end Go.Proofs.YtaddclaadbjnlaaGreat
