/-
  The program's half twist.
  No condition but bounds.
-/
import Derived.Test.YtgnaeeifnhgobaaHtL
import Derived.Test.YtgnaeeifnhgobaaSldI
import Derived.Test.YtgnaeeifnhgobaaKnkI
namespace Go.Proofs.Ytgnaeeifnhgobaa
set_option maxRecDepth 100000
set_option linter.unusedVariables false
set_option linter.unusedSimpArgs false
open Go.RowKit

theorem htOk_at {n s : Nat} (h2 : 2 ≤ n) (h6 : n ≤ 6) (hs : s < n * (n - 1) / 2) : ∃ k, fstD (htS n s) = k ∧ (htS n s).length = n ∧ k + 1 < n ∧ (htS n s).getD (k + 1) 0 < (htS n s).getD k 0 ∧ (∀ j, j < k → (htS n s).getD j 0 < (htS n s).getD (j + 1) 0) ∧ (htW n).take (s + 1) = (htW n).take s ++ [(k : Int) + 1] ∧ incOk (htS n s) = false := by
  have h := List.all_eq_true.1 (htS_ok ⟨n, by omega⟩ h2) s (List.mem_range.2 hs)
  simp only [htOk, Bool.and_eq_true, decide_eq_true_eq, List.all_eq_true, List.mem_range] at h
  obtain ⟨h1, h3, h4, h5, h7⟩ := h
  refine ⟨_, rfl, h1, h3, h4, fun j hj => h5 j hj, ?_, ?_⟩
  · obtain ⟨hl, e⟩ := List.getElem?_eq_some_iff.1 h7
    rw [List.take_succ_eq_append_getElem hl, e]
  · unfold incOk
    rw [h1]
    exact allN_no (k := fstD (htS n s)) (by omega) (decide_eq_false (by omega))
theorem inc_unit : ∀ n : Fin 7, incOk (unitL n.1) = true := by decide +kernel
theorem htW_bd : ∀ n : Fin 7, n.1 * (n.1 - 1) / 2 ≤ 15 := by decide +kernel

set_option maxHeartbeats 4000000 in
theorem impl_Ht_ok (n : Nat) (w : World) (h2 : 2 ≤ n) (h6 : n ≤ 6) :
    Calls Try.prog 24 #[.int .i64 n] w (RetB w n (htW n) 0) := by
  have k1 : decide ((2 : Int) ≤ n) = true := by simp; omega
  have k2 : decide ((n : Int) ≤ 6) = true := by simp; omega
  obtain ⟨T, HT⟩ : ∃ T, Hid (n * (n - 1) / 2 = T) := ⟨_, rfl⟩
  have hT15 : T ≤ 15 := by rw [← HT.out]; exact htW_bd ⟨n, by omega⟩
  have HOK : Hid (∀ s, s < T → ∃ k, fstD (htS n s) = k ∧ (htS n s).length = n ∧ k + 1 < n ∧ (htS n s).getD (k + 1) 0 < (htS n s).getD k 0 ∧ (∀ j, j < k → (htS n s).getD j 0 < (htS n s).getD (j + 1) 0) ∧ (htW n).take (s + 1) = (htW n).take s ++ [(k : Int) + 1] ∧ incOk (htS n s) = false) := Lib.hid fun s hs => htOk_at h2 h6 (by rw [HT.out]; exact hs)
  have HEND : Hid (htS n T = unitL n) := Lib.hid (by rw [← HT.out]; exact htS_end ⟨n, by omega⟩)
  have HWL : Hid ((htW n).take T = htW n) := Lib.hid (List.take_of_length_le (by rw [← HT.out]; exact Nat.le_of_eq (htW_len ⟨n, by omega⟩)))
  have HIU : Hid (incOk (unitL n) = true) := Lib.hid (inc_unit ⟨n, by omega⟩)
  obtain ⟨w2, hw2⟩ : ∃ w2, (w.alloc (.cells #[.int .i64 0, .slice none 0 0] 26)).alloc (.cells #[.int .i64 n, .slice none 0 0] 26) = w2 := ⟨_, rfl⟩
  have hR : Loc w2 w.heap.size #[.int .i64 0, .slice none 0 0] 26 := by rw [← hw2]; exact (Loc.new w rfl _ _).alloc _
  have hX : Loc w2 (w.heap.size + 1) #[.int .i64 n, .slice none 0 0] 26 := by rw [← hw2]; exact Loc.new _ (by simp) _ _
  have hB2 : Below w.heap.size w w2 := by rw [← hw2]; exact below_al (below_al (Below.refl _ _) _) _
  have hz2 : w2.heap.size = w.heap.size + 2 := by rw [← hw2]; simp
  have HW2 := Lib.hid hw2
  clear hw2
  go_enter Try.func24, Try.ntmps24
  go_wp2_with fail
  refine (within_any _ _ _ _).mono ?_
  rintro e w' ⟨rfl, rfl⟩
  go_wp2_with fail
  rw [HW2.out]
  refine (halfTwist_any n w2 h6).mono ?_
  rintro e w3 ⟨ap, cp, rfl, hp, hb3⟩
  have hR3 := hR.below hb3 hR.lt
  have hX3 := hX.below hb3 hX.lt
  have hB3 := below_th hB2 hb3
  have hz3 := hb3.size
  have HPB := Lib.hid hp.hi
  have HPL := Lib.hid hp.lo
  have hp0 : Own w3 (w.heap.size + 2) ap n cp (htS n 0) := by
    have : htS n 0 = toL n (Pm.tw n) := rev_toL n
    rw [this]; exact hp.mono (by omega)
  clear hp HW2 hR hX hb3
  go_wp2
  go_loopg [6] T (fun gm _ wr => ∃ (s : Nat) (a : Option Addr) (c : Nat), s ≤ T ∧ gm = T - s ∧ Own wr (w.heap.size + 2) ap n cp (htS n s) ∧ Own wr w3.heap.size a s c ((htW n).take s) ∧ Loc wr w.heap.size #[.int .i64 0, .slice none 0 0] 26 ∧ Loc wr (w.heap.size + 1) #[.int .i64 n, .slice a s c] 26 ∧ Below w.heap.size w wr ∧ w3.heap.size ≤ wr.heap.size)
  case atStart => exact ⟨0, none, 0, Nat.zero_le _, by omega, hp0, Own.nil _ _, hR3, hX3, hB3, Nat.le_refl _⟩
  case round =>
    clear hp0 hR3 hX3 hB3
    obtain ⟨s, a, c, hs, hgm, hp, ho, hR, hX, hB, hz⟩ := hrel
    obtain ⟨W, rfl⟩ : ∃ W : World, W = wr := ⟨_, rfl⟩
    have lX := hX.two
    have lR := hR.two
    by_cases hlt : s < T
    · obtain ⟨K, hK, hpl, hKn, hdesc, hasc, htk, hinc⟩ := HOK.out s hlt
      have HTK := Lib.hid htk
      have HIN := Lib.hid hinc
      have HAS := Lib.hid hasc
      have HDS := Lib.hid hdesc
      have HFD := Lib.hid hK
      clear htk hinc hasc hdesc hpl hK
      go_wp2_with fail
      refine (isIdentity_any ap n cp _ W hp.row (by omega)).mono ?_
      rintro e w5 ⟨rfl, hb5⟩
      rw [HIN.out]
      have hp5 := hp.below hb5
      have ho5 := ho.below hb5
      have hX5 := hX.below hb5 hX.lt
      have hR5 := hR.below hb5 hR.lt
      have hB5 := below_th hB hb5
      have hz5 := hb5.size
      clear lX lR
      go_wp2
      go_loopw [6] (fun k' wr2 => ∃ j : Nat, j ≤ K ∧ k' = .int .i64 j ∧ Hid (∃ m, wr2 = w5.drewN m)) (fun k' _ => K - (intOf k').toNat)
      case atStart => exact ⟨0, Nat.zero_le _, rfl, Lib.hid ⟨0, rfl⟩⟩
      case round =>
        obtain ⟨j, hj, rfl, HW⟩ := hrel
        obtain ⟨V, rfl⟩ : ∃ V : World, V = wr := ⟨_, rfl⟩
        have hpV : Own V (w.heap.size + 2) ap n cp (htS n s) := by obtain ⟨m, hm⟩ := HW.out; rw [hm]; exact hp5.drewN m
        obtain ⟨gp, op, rfl, gx⟩ := hpV.row.at j (by omega)
        obtain ⟨gp', op', e5, gy⟩ := hpV.row.at (j + 1) (by omega)
        cases e5
        obtain ⟨X, HXX⟩ : ∃ X, Hid ((htS n s).getD j 0 = X) := ⟨_, rfl⟩
        obtain ⟨Y, HYY⟩ : ∃ Y, Hid ((htS n s).getD (j + 1) 0 = Y) := ⟨_, rfl⟩
        rw [HXX.out] at gx
        rw [HYY.out] at gy
        have i1 : (0 : Int) ≤ (j : Int) := by omega
        have i2 : (j : Int) < (n : Int) := by omega
        have i3 : ((j + 1 : Nat) : Int) < (n : Int) := by omega
        have hwj : IntKind.i64.wrap ((j : Int) + 1) = ((j + 1 : Nat) : Int) := (IntWalk.i64_in _ (by omega)).trans (by simp)
        by_cases hjk : j < K
        · have hlt2 := HAS.out j hjk
          rw [HXX.out, HYY.out] at hlt2
          have d1 : decide (X < Y) = true := decide_eq_true hlt2
          go_wp2
          go_quiet (fail)
          go_wp2
          go_roundw
          case rel => exact ⟨j + 1, by omega, by go_num, Lib.hid (by obtain ⟨m, hm⟩ := HW.out; exact ⟨m + nq, by rw [hm, World.drewN_drewN]⟩)⟩
          case measure => simp [intOf]; omega
        · obtain rfl : K = j := by omega
          have hlt2 := HDS.out
          rw [HXX.out, HYY.out] at hlt2
          have d1 : decide (X < Y) = false := decide_eq_false (by omega)
          have hVB : Below w5.heap.size w5 V := by obtain ⟨m, hm⟩ := HW.out; rw [hm]; exact below_drewN (Below.refl _ _) m
          go_wp2
          go_quiet (fail)
          obtain ⟨V2, hV2⟩ : ∃ V2, V.drewN nq = V2 := ⟨_, rfl⟩
          have hb2 : Below w5.heap.size w5 V2 := by rw [← hV2]; exact below_drewN hVB _
          rw [hV2]
          have ho6 := ho5.below hb2
          have hp6 := hp5.below hb2
          have hX6 := hX5.below hb2 hX5.lt
          have hR6 := hR5.below hb2 hR5.lt
          have hB6 := below_th hB5 hb2
          have hz6 := hb2.size
          have lX6 := hX6.two
          clear hV2 gx gy
          have hws : IntKind.i64.wrap ((K : Int) + 1) = (K : Int) + 1 := IntWalk.i64_in _ (by omega)
          go_wp2_with (at_builtin; refine app1 rfl rfl ho6 rfl rfl (by omega) (by omega) ?_; intro g' cc w8 hO8 hg8 hs8 hb8; have hX8 := hX6.below hb8 (by omega); have lX8 := hX8.two)
          have hp8 := hp6.keep (w' := w8) fun b hb hlt => hb8.block b (HPB.out b hb)
          have hR8 := hR6.below hb8 (by omega)
          have hB8 : Below w.heap.size w w8 := hB6.trans (hb8.mono (by omega))
          have hz8 := hb8.size
          obtain ⟨w9, hw9⟩ : ∃ w9, w8.setCell ⟨w.heap.size + 1, 1, none⟩ (.slice (some ⟨g', 0, none⟩) (s + 1) cc) = w9 := ⟨_, rfl⟩
          have hX9 : Loc w9 (w.heap.size + 1) #[.int .i64 n, .slice (some ⟨g', 0, none⟩) (s + 1) cc] 26 := by rw [← hw9]; exact hX8.set 1 _
          have hR9 : Loc w9 w.heap.size #[.int .i64 0, .slice none 0 0] 26 := by rw [← hw9]; exact hR8.setne (by simp) _
          have hB9 : Below w.heap.size w w9 := by rw [← hw9]; exact hB8.setCell (by simp) _
          have hp9 : Own w9 (w.heap.size + 2) (some ⟨gp, op, none⟩) n cp (htS n s) := by rw [← hw9]; exact hp8.setlo (by simp) _
          have hO9 : Own w9 w3.heap.size (some ⟨g', 0, none⟩) (s + 1) cc ((htW n).take (s + 1)) := by rw [← hw9, HTK.out]; exact hO8.setlo (by simp; omega) _
          have hz9 : w3.heap.size ≤ w9.heap.size := by rw [← hw9, size_set]; omega
          rw [hw9]
          clear hw9 hp8 hR8 hX8 lX8 hO8 hB8 hb8
          obtain ⟨rfl, hc, hf⟩ := hp9.cells
          have hcj := hc K (by omega)
          have hcj1 := hc (K + 1) (by omega)
          have hfj := hf K
          have hfj1 := hf (K + 1)
          have hgp1 : w.heap.size + 2 ≤ gp := hp9.lt.1
          have hgp2 : gp < w3.heap.size := HPB.out gp rfl
          clear hc hf
          have HSW : Hid (((htS n s).set K Y).set (K + 1) X = htS n (s + 1)) := Lib.hid (by
            show _ = swp (htS n s) (fstD (htS n s))
            rw [HFD.out, ← HXX.out, ← HYY.out]; rfl)
          rw [HXX.out] at hcj
          rw [HYY.out] at hcj1
          go_wp2
          go_region
          all_goals go_wp2
          all_goals go_roundg (T - (s + 1))
          case measure => omega
          case rel =>
            refine ⟨s + 1, some ⟨g', 0, none⟩, cc, by omega, rfl, ?_, ?_, ?_, ?_, ?_, by show w3.heap.size ≤ ((w9.setCell _ _).setCell _ _).heap.size; rw [size_set, size_set]; exact hz9⟩
            · rw [← HSW.out]; exact ((hp9.drewN 1).set K Y).set (K + 1) X
            · refine Own.setlo (Own.setlo (hO9.drewN 1) ?_ _) ?_ _
              · show gp < w3.heap.size; exact hgp2
              · show gp < w3.heap.size; exact hgp2
            · exact (hR9.setne (a := ⟨gp, K, none⟩) (by show w.heap.size ≠ gp; omega) _).setne (a := ⟨gp, K + 1, none⟩) (by show w.heap.size ≠ gp; omega) _
            · exact (hX9.setne (a := ⟨gp, K, none⟩) (by show w.heap.size + 1 ≠ gp; omega) _).setne (a := ⟨gp, K + 1, none⟩) (by show w.heap.size + 1 ≠ gp; omega) _
            · exact (((below_drewN hB9 1)).setCell (p := ⟨gp, K, none⟩) (by show w.heap.size ≤ gp; omega) _).setCell (p := ⟨gp, K + 1, none⟩) (by show w.heap.size ≤ gp; omega) _
    · obtain rfl : T = s := by omega
      rw [HEND.out] at hp
      rw [HWL.out] at ho
      go_wp2_with fail
      refine (isIdentity_any ap n cp _ W hp.row (by omega)).mono ?_
      rintro e w5 ⟨rfl, hb5⟩
      rw [HIU.out]
      have ho5 := ho.below hb5
      have hX5 := hX.below hb5 hX.lt
      have hR5 := hR.below hb5 hR.lt
      have hB5 := below_th hB hb5
      have hc := hX5.two
      have hd := hR5.two
      clear lX lR
      go_wp2
      refine bodyPost_ret (v := .tuple #[bAgg n a T c, .int .i64 0]) (by simp [results, Try.results24, go_sem, hc, hd]) rfl ⟨a, T, c, rfl, ?_, ?_⟩
      · exact ((ho5.setlo (by show w.heap.size < w3.heap.size; omega) _).setlo (by show w.heap.size < w3.heap.size; omega) _).mono (by omega)
      · exact (hB5.setCell (by simp) _).setCell (by simp) _
end Go.Proofs.Ytgnaeeifnhgobaa
