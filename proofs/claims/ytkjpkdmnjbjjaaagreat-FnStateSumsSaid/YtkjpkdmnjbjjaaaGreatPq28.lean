/-
  Walks and plain laws of this seat, some texts in one.
  No condition but bounds on lengths.
-/
import Derived.Test.YtkjpkdmnjbjjaaaGreatPq27
import Derived.Deep.DeepCutAuto
import Derived.Test.YtkjpkdmnjbjjaaaGreatPq14
import Derived.Test.YtkjpkdmnjbjjaaaGreatPq7
import Derived.Test.YtkjpkdmnjbjjaaaGreatPq2
import Derived.Test.YtkjpkdmnjbjjaaaGreatPq15
namespace Go.Proofs.YtkjpkdmnjbjjaaaGreat
set_option linter.unusedVariables false
set_option linter.unusedSimpArgs false
set_option maxRecDepth 100000
open Go.RowKit
set_option maxHeartbeats 32000000 in
theorem l03DrawTable_ok (M b : Nat) (w : World) (h : Src w b) (h1 : 1 ≤ M) (hM : M ≤ 12) :
    Calls Tryz.prog 194 #[.pointer (some ⟨b, 0, none⟩), .int .i64 M] w (SqD b w M) := by
  have hlt := h.lt
  go_enter Tryz.func194, Tryz.ntmps194
  go_wp2_with fail
  refine (l01Next_ok b (M : Int) _ h ⟨by omega, by omega⟩).mono ?_
  rintro e w1 ⟨y, rfl, _, hy, hs1, hg1⟩
  obtain ⟨hy1, hy2⟩ := hy (by omega)
  obtain ⟨y0, rfl⟩ : ∃ k : Nat, y = k := ⟨y.toNat, by omega⟩
  obtain ⟨N, hN⟩ : ∃ N, N = y0 + 1 := ⟨_, rfl⟩
  have e1 : (1 : Int) + (y0 : Int) = (N : Int) := by omega
  have hN1 : 1 ≤ N := by omega
  have hNM : N ≤ M := by omega
  clear hy hy1 hy2 hN
  go_wp2_with fail
  refine (l01Next_ok b 5 _ hs1 ⟨by omega, by omega⟩).mono ?_
  rintro e w2 ⟨x, rfl, _, hx, hs2, hg2⟩
  obtain ⟨hx1, hx2⟩ := hx (by omega)
  have hG2 := grown_trans hg1 hg2
  have hz2' : w.heap.size ≤ w2.heap.size := hG2.size
  clear hx hs1 hg1 hg2 e1
  have hx5 : x = 0 ∨ x = 1 ∨ x = 2 ∨ x = 3 ∨ x = 4 := by omega
  clear hx1 hx2
  rcases hx5 with rfl | rfl | rfl | rfl | rfl
  · go_wp2_with fail
    refine (l03DrawPerm_ok b N _ hs2 (by omega)).mono ?_
    rintro e w3 ⟨a3, c3, p, rfl, hp, ho3, hs3, hg3⟩
    have hG3 := grown_trans hG2 hg3
    have HSQ := Lib.hid (rep_sq hp)
    have hz3 := hg3.size
    obtain ⟨w4, hw4⟩ : ∃ w4, w3.alloc (.cells #[] 35) = w4 := ⟨_, rfl⟩
    have hO4 : OwnT w4 w3.heap.size (some ⟨w3.heap.size, 0, none⟩) 0 0 [] [] := by rw [← hw4]; exact OwnT.fresh w3 rfl
    have hb4 : Below w3.heap.size w3 w4 := by rw [← hw4]; exact below_al (Below.refl _ _) _
    have HW4 := Lib.hid hw4
    clear hw4 hp
    go_wp2
    try rw [HW4.out]
    go_loopw [7, 8] (fun z i wr => ∃ (k : Nat) (az : Option Addr) (cz : Nat) (vz : List SV), k ≤ N ∧ i = .int .i64 k ∧ z = .slice az k cz ∧ OwnT wr w3.heap.size az k cz vz ((repT N p).take k) ∧ Below w3.heap.size w3 wr) (fun _ i _ => N - (intOf i).toNat)
    case atStart => exact ⟨0, _, 0, _, Nat.zero_le _, rfl, rfl, by simpa using hO4, hb4⟩
    case round =>
      clear hO4 hb4
      obtain ⟨k, az, cz, vz, hk, rfl, rfl, ho, hb⟩ := hrel
      by_cases hlt2 : k < N
      · have HRS := Lib.hid (repT_succ p hlt2)
        have hbb := hb.size
        go_wp2_with fail
        refine (l01Own_any _ N c3 p _ (ho3.row.below hb) (by omega)).mono ?_
        rintro e w5 ⟨a5, c5, rfl, ho5, hb5⟩
        have hz5 := ho.below hb5
        have hs5 := hb5.size
        go_wp2_with (at_builtin; refine appT1 rfl rfl hz5 rfl (ho5.mono hbb) (fun g h1 h2 => by have h3 := ho.high _ h1; have h4 := ho5.lo _ h2; omega) (fun i hi g h1 h2 => by have h3 := ho5.lo _ h1; have h4 := (ho.row i hi).hi _ h2; omega) rfl (by omega) (by omega) ?_; intro g' cc w6 hO hb6)
        go_roundw
        case rel => exact ⟨k + 1, _, _, _, by omega, by go_num, rfl, by rw [HRS.out]; exact hO, (hb.trans (hb5.mono hbb)).trans hb6⟩
        case measure => simp [intOf]; omega
      · obtain rfl : k = N := by omega
        rw [List.take_of_length_le (by simp [repT])] at ho
        go_wp2
        go_ret
        exact ⟨_, _, _, vz, _, hN1, hNM, rfl, ho.mono (by omega), HSQ.out, hs3.below hb, grown_trans hG3 (grown_of_below hb _)⟩
  · obtain ⟨K, hK⟩ : ∃ K, K = N - 1 := ⟨_, rfl⟩
    obtain ⟨L, hL⟩ : ∃ L, 2 % N = L := ⟨_, rfl⟩
    have d1 : (N : Int) - 1 = (K : Int) := by omega
    have d2 : Int.tmod 2 (N : Int) = (L : Int) := by rw [← hL]; rfl
    have hLb : L ≤ 2 := by rw [← hL]; exact Nat.mod_le _ _
    have hKb : K ≤ 12 := by omega
    have hz1 : ¬ (N : Int) = 0 := by omega
    have hz2 : ((N : Int) == 0) = false := by simpa using hz1
    have hz3 : ¬ N = 0 := by omega
    clear hK hL
    go_wp2_with fail
    refine (l03Alexander_any N K L _ hN1 (by omega) (by omega) (by omega)).mono ?_
    rintro e w3 ⟨a3, c3, vs3, t3, rfl, ho3, sq3, hb3⟩
    have SQ3 := Lib.hid sq3
    clear sq3
    go_wp2
    go_ret
    exact ⟨N, _, _, vs3, t3, hN1, hNM, rfl, ho3.mono hz2', SQ3.out, hs2.below hb3, grown_trans hG2 (grown_of_below hb3 _)⟩
  -- printed by genDt.py from here on
  · go_wp2
    go_loopw [9, 10] (fun i _ wr => ∃ q : Nat, q ≤ 6 ∧ i = .int .i64 q ∧ Src wr b ∧ w.grownBy wr (some b)) (fun i _ _ => 6 - (intOf i).toNat)
    case atStart => exact ⟨0, by omega, rfl, hs2, hG2⟩
    case round =>
      clear hs2 hG2 hz2'
      obtain ⟨q, hq, rfl, hsr, hGr⟩ := hrel
      have hzr : w.heap.size ≤ wr.heap.size := hGr.size
      by_cases hlt6 : q < 6
      · have q6 : (q : Int) < 6 := by omega
        go_wp2_with fail
        refine (l01Next_ok b (N : Int) _ hsr ⟨by omega, by omega⟩).mono ?_
        rintro e wa ⟨aa, rfl, _, haa, hsa, hga⟩
        obtain ⟨ha1, ha2⟩ := haa (by omega)
        obtain ⟨av, rfl⟩ : ∃ z : Nat, aa = z := ⟨aa.toNat, by omega⟩
        have haN : av < N := by omega
        have hGa := grown_trans hGr hga
        clear haa ha1 ha2 hga hsr hGr hzr
        go_wp2_with fail
        refine (l03Coprime_any av N _ (by omega) (by omega)).mono ?_
        rintro e wx ⟨⟨qb, rfl⟩, hwx⟩
        subst hwx
        cases qb
        · go_wp2
          go_roundw
          case rel => exact ⟨q + 1, by omega, by go_num, hsa, hGa⟩
          case measure => simp [intOf]; omega
        · obtain ⟨E, hE⟩ : ∃ E, E = N + 1 - av := ⟨_, rfl⟩
          obtain ⟨L, hL⟩ : ∃ L, E % N = L := ⟨_, rfl⟩
          have d1 : (1 : Int) - (av : Int) + (N : Int) = (E : Int) := by omega
          have d2 : Int.tmod (E : Int) (N : Int) = (L : Int) := by rw [← hL]; rfl
          have hLb : L < N := by rw [← hL]; exact Nat.mod_lt _ hN1
          have hz1 : ¬ (N : Int) = 0 := by omega
          have hz2 : ((N : Int) == 0) = false := by simpa using hz1
          have hz3 : ¬ N = 0 := by omega
          have hEb : E ≤ 13 := by omega
          clear hE hL
          go_wp2_with fail
          refine (l03Alexander_any N av L _ hN1 (by omega) (by omega) (by omega)).mono ?_
          rintro e w3 ⟨a3, c3, vs3, t3, rfl, ho3, sq3, hb3⟩
          have SQ3 := Lib.hid sq3
          have hzx := hGa.size
          clear sq3
          go_wp2
          go_ret
          exact ⟨N, _, _, vs3, t3, hN1, hNM, rfl, ho3.mono hzx, SQ3.out, hsa.below hb3, grown_trans hGa (grown_of_below hb3 _)⟩
      · obtain rfl : q = 6 := by omega
        clear hq
        go_upto_region 39 with fail
        refine dt_tail M N b w wr hsr hGr hlt hzr hN1 hNM hM _ _ _ _ _ _ _ _ _ _ _ _ _ _ _ _ _ _ _ _ _ _ _ _ _ _ _ _ _ _ _ _ _ _ _ _ _ _ _ _ _ _ _ _ _ _ _ _ _ _ _ _ _ _ _ _ _ _ _ _ _ _ _ _ _ _ _ _ _ _ _ _ _ _ _ _ _ _ _ _ _ _ _ _ _ _ _ _ _ _ _ _ _ _ _ _ _ _ _ _ _ _ _ _ _ _ _ _ _ _ _ _ _ _ _ _ _ _ _ _ _ _ _ _ _ _ _ _ _ _ _ _ _ _ _ _ _ _ _ _ _ _ _ _ _ _ _ _ _ _ _ _ _ _ _ _ _ _ _ _ _ _ _ _ _ _ _ _ _ _ _ _ _ _ _ _ _ _ _ _ _ _ _ _ _ _ _ _ _ _ _ _ _ _ _ _ _ _ _ _ _ _ _ _ _ _ _ _ _ _ _ _ _ _ _ _ _ _ _ _ _ _ _ _ _ _ _ _ _ _ _ ?_
        assumption
  · by_cases hM6 : 6 ≤ M
    · have hM6i : (6 : Int) ≤ (M : Int) := by omega
      go_wp2_with fail
      refine (l01Perms_any 3 _ (by omega)).mono ?_
      rintro e w3 ⟨a3, n3, c3, vs3, rfl, ho3, hb3⟩
      obtain rfl : n3 = 6 := ho3.len.trans cj_prm.len
      have hs3 := hs2.below hb3
      have hG3 := grown_trans hG2 (grown_of_below hb3 (some b))
      have hz3 := hb3.size
      have hb2 := hs2.lt
      obtain ⟨w4, hw4⟩ : ∃ w4, w3.alloc (.cells #[] 35) = w4 := ⟨_, rfl⟩
      have hO4 : OwnT w4 w3.heap.size (some ⟨w3.heap.size, 0, none⟩) 0 0 [] [] := by rw [← hw4]; exact OwnT.fresh w3 rfl
      have hL4 : Loc w4 w3.heap.size #[] 35 := by rw [← hw4]; exact Loc.new _ rfl _ _
      have hb4 : Below w3.heap.size w3 w4 := by rw [← hw4]; exact below_al (Below.refl _ _) _
      have HW4 := Lib.hid hw4
      clear hw4
      have hs4 := hs3.below hb4
      have hG4 := grown_trans hG3 (grown_of_below hb4 (some b))
      have ho4 := ho3.below hb4
      clear ho3 hs3 hG3 hb3 hb4
      go_wp2_with fail
      try rw [HW4.out]
      refine (l01Next_ok b 2 _ hs4 ⟨by omega, by omega⟩).mono ?_
      rintro e w5 ⟨qq, rfl, _, hqq, hs5, hg5⟩
      obtain ⟨hq1, hq2⟩ := hqq (by omega)
      have hO5 : OwnT w5 w3.heap.size (some ⟨w3.heap.size, 0, none⟩) 0 0 [] [] := hO4.keep fun g hg hl => hg5.block g hl (fun e => by have := hO4.uLo g hg; cases e; omega)
      have hL5 : Loc w5 w3.heap.size #[] 35 := hL4.grown hg5 (by simp; omega)
      have t5 : Tbl w5 a3 6 (prmL 3) := (ho4.keep fun g hg hl => hg5.block g hl (fun e => by have := ho4.uLo g hg; cases e; omega)).tbl
      have hG5 := grown_trans hG4 hg5
      clear hqq hO4 hL4 ho4 hs4 hG4 hg5 hs2 hG2
      have hq : qq = 0 ∨ qq = 1 := by omega
      clear hq1 hq2
      rcases hq with rfl | rfl
      · obtain ⟨w6, hw6⟩ : ∃ w6, (((w5.alloc (.cells #[.int .i64 0, .int .i64 2, .int .i64 1] 2)).alloc (.cells #[.int .i64 1, .int .i64 0, .int .i64 2] 2)).alloc (.cells #[.int .i64 2, .int .i64 1, .int .i64 0] 2)).alloc (.cells #[.slice (some ⟨w5.heap.size, 0, none⟩) 3 3, .slice (some ⟨w5.heap.size + 1, 0, none⟩) 3 3, .slice (some ⟨w5.heap.size + 1 + 1, 0, none⟩) 3 3] 35) = w6 := ⟨_, rfl⟩
        have t6 : Tbl w6 (some ⟨w5.heap.size + 1 + 1 + 1, 0, none⟩) 3 trL := by rw [← hw6]; exact litT w5 _ _
        have hb6 : Below w5.heap.size w5 w6 := by rw [← hw6]; exact below_al (below_al (below_al (below_al (Below.refl _ _) _) _) _) _
        have hO6 := hO5.below hb6
        have hL6 := hL5.below hb6 hL5.lt
        have hs6 := hs5.below hb6
        have hG6 := grown_trans hG5 (grown_of_below hb6 (some b))
        have HW6 := Lib.hid hw6
        clear hw6 hO5 hL5 hs5 hG5 t5 hb6
        go_upto_region 25 with fail
        rw [HW6.out]
        refine dt_conj M N b 3 w3.heap.size 3 _ trL w w6 cj_tr t6 hO6 hL6 hs6 hG6 hlt (by omega) (by omega) (by omega) hM6 _ _ _ _ _ _ _ _ _ _ _ _ _ _ _ _ _ _ _ _ _ _ _ _ _ _ _ _ _ _ _ _ _ _ _ _ _ _ _ _ _ _ _ _ _ _ _ _ _ _ _ _ _ _ _ _ _ _ _ _ _ _ _ _ _ _ _ _ _ _ _ _ _ _ _ _ _ _ _ _ _ _ _ _ _ _ _ _ _ _ _ _ _ _ _ _ _ _ _ _ _ _ _ _ _ _ _ _ _ _ _ _ _ _ _ _ _ _ _ _ _ _ _ _ _ _ _ _ _ _ _ _ _ _ _ _ _ _ _ _ _ _ _ _ _ _ _ _ _ _ _ _ _ _ _ _ _ _ _ _ _ _ _ _ _ _ _ _ _ _ _ _ _ _ _ _ _ _ _ _ _ _ _ _ _ _ _ _ _ _ _ _ _ _ _ _ _ _ _ _ _ _ _ _ _ _ _ _ _ _ _ _ _ _ _ _ _ _ _ _ _ _ _ _ _ _ _ _ _ _ ?_ ?_
        · assumption
        · assumption
      · go_upto_region 25 with fail
        refine dt_conj M N b 6 w3.heap.size c3 a3 (prmL 3) w w5 cj_prm t5 hO5 hL5 hs5 hG5 hlt (by omega) (by omega) (by omega) hM6 _ _ _ _ _ _ _ _ _ _ _ _ _ _ _ _ _ _ _ _ _ _ _ _ _ _ _ _ _ _ _ _ _ _ _ _ _ _ _ _ _ _ _ _ _ _ _ _ _ _ _ _ _ _ _ _ _ _ _ _ _ _ _ _ _ _ _ _ _ _ _ _ _ _ _ _ _ _ _ _ _ _ _ _ _ _ _ _ _ _ _ _ _ _ _ _ _ _ _ _ _ _ _ _ _ _ _ _ _ _ _ _ _ _ _ _ _ _ _ _ _ _ _ _ _ _ _ _ _ _ _ _ _ _ _ _ _ _ _ _ _ _ _ _ _ _ _ _ _ _ _ _ _ _ _ _ _ _ _ _ _ _ _ _ _ _ _ _ _ _ _ _ _ _ _ _ _ _ _ _ _ _ _ _ _ _ _ _ _ _ _ _ _ _ _ _ _ _ _ _ _ _ _ _ _ _ _ _ _ _ _ _ _ _ _ _ _ _ _ _ _ _ _ _ _ _ _ _ _ _ ?_ ?_
        · assumption
        · assumption
    · have hM6i : ¬ (6 : Int) ≤ (M : Int) := by omega
      go_upto_region 39 with fail
      refine dt_tail M N b w w2 hs2 hG2 hlt hz2' hN1 hNM hM _ _ _ _ _ _ _ _ _ _ _ _ _ _ _ _ _ _ _ _ _ _ _ _ _ _ _ _ _ _ _ _ _ _ _ _ _ _ _ _ _ _ _ _ _ _ _ _ _ _ _ _ _ _ _ _ _ _ _ _ _ _ _ _ _ _ _ _ _ _ _ _ _ _ _ _ _ _ _ _ _ _ _ _ _ _ _ _ _ _ _ _ _ _ _ _ _ _ _ _ _ _ _ _ _ _ _ _ _ _ _ _ _ _ _ _ _ _ _ _ _ _ _ _ _ _ _ _ _ _ _ _ _ _ _ _ _ _ _ _ _ _ _ _ _ _ _ _ _ _ _ _ _ _ _ _ _ _ _ _ _ _ _ _ _ _ _ _ _ _ _ _ _ _ _ _ _ _ _ _ _ _ _ _ _ _ _ _ _ _ _ _ _ _ _ _ _ _ _ _ _ _ _ _ _ _ _ _ _ _ _ _ _ _ _ _ _ _ _ _ _ _ _ _ _ _ _ _ _ _ _ ?_
      assumption
  · skip
    go_upto_region 39 with fail
    refine dt_tail M N b w w2 hs2 hG2 hlt hz2' hN1 hNM hM _ _ _ _ _ _ _ _ _ _ _ _ _ _ _ _ _ _ _ _ _ _ _ _ _ _ _ _ _ _ _ _ _ _ _ _ _ _ _ _ _ _ _ _ _ _ _ _ _ _ _ _ _ _ _ _ _ _ _ _ _ _ _ _ _ _ _ _ _ _ _ _ _ _ _ _ _ _ _ _ _ _ _ _ _ _ _ _ _ _ _ _ _ _ _ _ _ _ _ _ _ _ _ _ _ _ _ _ _ _ _ _ _ _ _ _ _ _ _ _ _ _ _ _ _ _ _ _ _ _ _ _ _ _ _ _ _ _ _ _ _ _ _ _ _ _ _ _ _ _ _ _ _ _ _ _ _ _ _ _ _ _ _ _ _ _ _ _ _ _ _ _ _ _ _ _ _ _ _ _ _ _ _ _ _ _ _ _ _ _ _ _ _ _ _ _ _ _ _ _ _ _ _ _ _ _ _ _ _ _ _ _ _ _ _ _ _ _ _ _ _ _ _ _ _ _ _ _ _ _ _ ?_
    assumption
end Go.Proofs.YtkjpkdmnjbjjaaaGreat

namespace Go.Proofs.YtkjpkdmnjbjjaaaGreat
set_option linter.unusedVariables false
set_option linter.unusedSimpArgs false
set_option maxRecDepth 100000
open Go.RowKit
theorem OwnT.grownb {w w' : World} {lo b : Nat} {a : Option Addr} {n c : Nat} {vs : List SV} {t : List (List Int)} (h : OwnT w lo a n c vs t) (hg : w.grownBy w' (some b)) (hb : b < lo) : OwnT w' lo a n c vs t :=
  h.keep fun q hq hl => hg.block q hl (fun e => by have := h.uLo q hq; cases e; omega)
def RkD (b : Nat) (w : World) (N : Nat) (e : Ending) (w' : World) : Prop :=
  ∃ (n : Nat) (a : Option Addr) (c : Nat) (vs : List SV) (t : List (List Int)), 1 ≤ n ∧ n ≤ N ∧ e = .returned (rAgg a n c) ∧ OwnT w' w.heap.size a n c vs t ∧ Sq n t ∧ Src w' b ∧ w.grownBy w' (some b)
set_option maxHeartbeats 8000000 in
theorem l03Draw_ok (M b : Nat) (w : World) (h : Src w b) (h1 : 1 ≤ M) (hM : M ≤ 12) :
    Calls Tryz.prog 154 #[.pointer (some ⟨b, 0, none⟩), .int .i64 M] w (RkD b w M) := by
  have hlt := h.lt
  have hR := Loc.new w rfl #[.slice none 0 0] 58
  go_enter Tryz.func154, Tryz.ntmps154
  go_wp2_with fail
  refine (l03DrawTable_ok M b _ (h.below (below_al (Below.refl _ _) _)) h1 hM).mono ?_
  rintro e w1 ⟨n, a1, c1, vs1, t, n1, nM, rfl, ho1, sq, hs1, hg1⟩
  have hR1 := hR.grown hg1 (by simp; omega)
  have hG1 := grown_trans (World.grownBy_alloc w (.cells #[.slice none 0 0] 58) (some b)) hg1
  have hz1 := hR1.lt
  have SQ := Lib.hid sq
  have ho1 := ho1.mono (lo' := w.heap.size + 1) (by simp)
  clear sq hg1 hR
  go_wp2_with fail
  refine (l01Next_ok b 2 _ hs1 ⟨by omega, by omega⟩).mono ?_
  rintro e w2 ⟨x, rfl, _, hx, hs2, hg2⟩
  obtain ⟨hx1, hx2⟩ := hx (by omega)
  have hR2 := hR1.grown hg2 (by simp; omega)
  have hG2 := grown_trans hG1 hg2
  have ho2 := ho1.grownb hg2 (by omega)
  have hz2 := hR2.lt
  clear hx hR1 hG1 ho1 hs1 hg2
  have hx3 : x = 0 ∨ x = 1 := by omega
  clear hx1 hx2
  rcases hx3 with rfl | rfl
  · go_wp2_with fail
    refine (l03DrawPerm_ok b n _ hs2 (by omega)).mono ?_
    rintro e w3 ⟨a3, c3, p, rfl, hp, ho3, hs3, hg3⟩
    have hR3 := hR2.grown hg3 (by simp; omega)
    have hG3 := grown_trans hG2 hg3
    have ho23 := ho2.grownb hg3 (by omega)
    have HP := Lib.hid hp
    have hz3 := hR3.lt
    clear hp hR2 hG2 ho2 hs2 hg3
    go_wp2_with fail
    refine (l03Image_any n _ _ _ _ t p _ ho23.tbl ho3.row SQ.out HP.out n1 (by omega)).mono ?_
    rintro e w4 ⟨a4, c4, vs4, rfl, ho4, hb4⟩
    have hR4 := hR3.below hb4 hz3
    have hG4 := grown_trans hG3 (grown_of_below hb4 (some b))
    have hs4 := hs3.below hb4
    have lR := hR4.one
    go_wp2
    refine bodyPost_ret (v := rAgg a4 n c4) (by simp [results, Tryz.results154, go_sem, lR]) rfl ⟨n, a4, c4, vs4, _, n1, nM, rfl, ?_, rnL_sq HP.out SQ.out, ?_, ?_⟩
    · exact (ho4.setlo (p := ⟨w.heap.size, 0, none⟩) hz3 _).mono (by omega)
    · exact hs4.setne (p := ⟨w.heap.size, 0, none⟩) hlt _
    · exact grown_set hG4 (.inr (Nat.le_refl _)) _
  · have lR := hR2.one
    go_wp2
    refine bodyPost_ret (v := rAgg a1 n c1) (by simp [results, Tryz.results154, go_sem, lR]) rfl ⟨n, a1, c1, vs1, _, n1, nM, rfl, ?_, SQ.out, ?_, ?_⟩
    · exact (ho2.setlo (p := ⟨w.heap.size, 0, none⟩) (by show w.heap.size < w.heap.size + 1; omega) _).mono (by omega)
    · exact hs2.setne (p := ⟨w.heap.size, 0, none⟩) hlt _
    · exact grown_set hG2 (.inr (Nat.le_refl _)) _
end Go.Proofs.YtkjpkdmnjbjjaaaGreat

namespace Go.Proofs.YtkjpkdmnjbjjaaaGreat
set_option maxRecDepth 100000
set_option linter.unusedVariables false
set_option linter.unusedSimpArgs false
open Go.RowKit
set_option maxHeartbeats 2000000 in
theorem l06Move_any (a : Option Addr) (n c : Nat) (a' : Option Addr) (c' : Nat) (f g : List (List Int)) (al : Option Addr) (m cl : Nat) (l : List Int) (i : Nat) (w : World) (h1 : Tbl w a n f) (h2 : Tbl w a' n g) (hn1 : 1 ≤ n) (hf : Sq n f) (hg : Sq n g)
    (hl : Row w al m l) (hm : m ≤ 1000000) (hi : i + 1 < m) (hle : Less n l) :
    Calls Tryz.prog 206 #[sAgg a n c a' n c', .slice al m cl, .int .i64 i] w fun e w' => ∃ ao co, e = .returned (.slice ao m co) ∧ Own w' w.heap.size ao m co (doF f g i l) ∧ Below w.heap.size w w' := by
  obtain ⟨bf, of, A, O, C, rfl, Gf⟩ := h1.grid hf hn1
  obtain ⟨bg, og, A', O', C', rfl, Gg⟩ := h2.grid hg hn1
  clear h1 h2
  have hll := hl.len
  obtain ⟨x, hx, ex⟩ := hle i (by omega)
  obtain ⟨y, hy, ey⟩ := hle (i + 1) (by omega)
  have HDO : Hid (doF f g i l = (l.set i ((tv f x y : Nat) : Int)).set (i + 1) ((tv g x y : Nat) : Int)) := Lib.hid (by unfold doF; rw [ex, ey]; simp)
  have HX := Lib.hid ex; have HY := Lib.hid ey
  clear ex ey hll hle
  have hA := Loc.new w rfl #[.slice (some ⟨bf, of, none⟩) n c, .slice (some ⟨bg, og, none⟩) n c'] 26
  have gf := Gf.alloc (.cells #[.slice (some ⟨bf, of, none⟩) n c, .slice (some ⟨bg, og, none⟩) n c'] 26)
  have gg := Gg.alloc (.cells #[.slice (some ⟨bf, of, none⟩) n c, .slice (some ⟨bg, og, none⟩) n c'] 26)
  have hl0 := hl.alloc (.cells #[.slice (some ⟨bf, of, none⟩) n c, .slice (some ⟨bg, og, none⟩) n c'] 26)
  have hB := below_al (Below.refl w.heap.size w) (.cells #[.slice (some ⟨bf, of, none⟩) n c, .slice (some ⟨bg, og, none⟩) n c'] 26)
  clear Gf Gg hl
  have hwi : IntKind.i64.wrap ((i : Int) + 1) = ((i + 1 : Nat) : Int) := (IntWalk.i64_in _ (by omega)).trans (by simp)
  go_enter Tryz.func206, Tryz.ntmps206
  go_wp2_with fail
  refine (l01Own_any _ _ _ l _ hl0 (by omega)).mono ?_
  rintro e w1 ⟨ao, co, rfl, ho, hb1⟩
  have ho1 : Own w1 (w.heap.size + 1) ao m co l := ho.mono (by simp)
  clear ho
  obtain ⟨go, oo, rfl, _⟩ := ho1.row.at i (by omega)
  obtain ⟨rfl, hc, hfr⟩ := ho1.cells
  have hgo := ho1.lt
  obtain ⟨bl, ol, e1, hbl, hall⟩ := hl0.all (by omega)
  subst e1
  have hbB := hb1
  have hA1 := hA.below hb1 (by simp)
  have lA1 := hA1.two
  obtain ⟨r1, k1⟩ := (gf.below hb1).look hx hy
  have hl1 := hl0.below hb1
  have kx := (hb1.cell (p := ⟨bl, ol + i, none⟩) hbl).trans (hall i (by omega))
  have ky := (hb1.cell (p := ⟨bl, ol + (i + 1), none⟩) hbl).trans (hall (i + 1) (by omega))
  rw [HX.out] at kx; rw [HY.out] at ky
  have hci := hc i (by omega)
  have hfi := hfr i
  generalize hF : tv f x y = F at *
  generalize hG : tv g x y = G at *
  clear hc hfr hl1 hb1
  have HALL := Lib.hid hall; clear hall
  go_wp2
  go_region
  have hb2 := (below_setne (a := ⟨go, i, none⟩) hbB (by simpa using hgo.1) (.int .i64 F)).drew
  have ho2 : Own (w1.setCell ⟨go, i, none⟩ (.int .i64 F)).drew (w.heap.size + 1) (some ⟨go, 0, none⟩) m co (l.set i (F : Int)) := (ho1.set i _).drew
  clear hbB ho1 kx ky r1 k1 hci hfi hA1 lA1
  generalize (w1.setCell ⟨go, i, none⟩ (.int .i64 F)).drew = w2 at *
  obtain ⟨_, hc, hfr⟩ := ho2.cells
  have hA1 := hA.below hb2 (by simp)
  have lA1 := hA1.two
  obtain ⟨r2, k2⟩ := (gg.below hb2).look hx hy
  have kx := (hb2.cell (p := ⟨bl, ol + i, none⟩) hbl).trans (HALL.out i (by omega))
  have ky := (hb2.cell (p := ⟨bl, ol + (i + 1), none⟩) hbl).trans (HALL.out (i + 1) (by omega))
  rw [HX.out] at kx; rw [HY.out] at ky
  rw [hG] at k2
  have hci := hc (i + 1) (by omega)
  have hfi := hfr (i + 1)
  have HF := Lib.hid hF; have HG := Lib.hid hG; clear hF hG
  clear hc hfr
  go_wp2
  go_region
  go_wp2
  go_ret
  refine ⟨_, _, rfl, ?_, ?_⟩
  · rw [HDO.out]
    exact ((ho2.set (i + 1) _).drew).mono (by omega)
  · exact (below_setne (a := ⟨go, i + 1, none⟩) (hB.trans (hb2.mono (by simp))) (by have := hgo.1; show w.heap.size ≤ go; omega) _).drew
end Go.Proofs.YtkjpkdmnjbjjaaaGreat

namespace Go.Proofs.YtkjpkdmnjbjjaaaGreat
set_option maxRecDepth 100000
set_option linter.unusedVariables false
set_option linter.unusedSimpArgs false
open Go.RowKit
theorem below_undrew {w w' : World} {n : Nat} (h : Below (w.drewN n).heap.size (w.drewN n) w') : Below w.heap.size w w' := (below_drewN (Below.refl w.heap.size w) n).trans h
set_option maxHeartbeats 4000000 in
theorem l16Pair_any (a : Option Addr) (n c : Nat) (a' : Option Addr) (c' : Nat) (f g : List (List Int)) (u v : Nat) (w : World) (h1 : Tbl w a n f) (h2 : Tbl w a' n g) (hn1 : 1 ≤ n) (hn : n ≤ 12) (hf : Sq n f) (hg : Sq n g) (hc : collOk n f g = true) (hu : u < n) (hv : v < n) :
    Calls Tryz.prog 207 #[sAgg a n c a' n c', .int .i64 u, .int .i64 v] w fun e w' => e = .returned (.tuple #[.int .i64 ((tv (bfT n f g) u v : Nat) : Int), .int .i64 ((tv (bgT n f g) u v : Nat) : Int)]) ∧ Below w.heap.size w w' := by
  obtain ⟨bf, of, A, O, C, rfl, Gf⟩ := h1.grid hf hn1
  obtain ⟨bg, og, A', O', C', rfl, Gg⟩ := h2.grid hg hn1
  clear h1 h2
  have HEX : Hid (∃ x y, x < n ∧ y < n ∧ tv f x y = u ∧ tv g x y = v) := Lib.hid (pr_ex hn1 hf hg hc hu hv)
  have HBF : Hid (∀ x y, x < n → y < n → tv f x y = u → tv g x y = v → tv (bfT n f g) u v = x ∧ tv (bgT n f g) u v = y) := Lib.hid fun x y hx hy e1 e2 => ⟨bf_tv hn1 hc hx hy hu hv e1 e2, bg_tv hn1 hc hx hy hu hv e1 e2⟩
  clear hf hg hc
  go_enter Tryz.func207, Tryz.ntmps207
  have hA := Loc.new w rfl #[.slice (some ⟨bf, of, none⟩) n c, .slice (some ⟨bg, og, none⟩) n c'] 26
  have lA := hA.two
  have gf := Gf.alloc (.cells #[.slice (some ⟨bf, of, none⟩) n c, .slice (some ⟨bg, og, none⟩) n c'] 26)
  have gg := Gg.alloc (.cells #[.slice (some ⟨bf, of, none⟩) n c, .slice (some ⟨bg, og, none⟩) n c'] 26)
  have hB := below_al (Below.refl w.heap.size w) (.cells #[.slice (some ⟨bf, of, none⟩) n c, .slice (some ⟨bg, og, none⟩) n c'] 26)
  clear Gf Gg
  go_wp2
  generalize (w.alloc (.cells #[.slice (some ⟨bf, of, none⟩) n c, .slice (some ⟨bg, og, none⟩) n c'] 26)) = w0 at *
  go_loopw [8] (fun i wr => ∃ k : Nat, k ≤ n ∧ i = .int .i64 k ∧ Hid (∀ x y, x < k → y < n → ¬ (tv f x y = u ∧ tv g x y = v)) ∧ ∃ m, wr = w0.drewN m) (fun i _ => n - (intOf i).toNat)
  case atStart => exact ⟨0, Nat.zero_le _, rfl, Lib.hid fun x y hx => absurd hx (by omega), 0, rfl⟩
  case round =>
    obtain ⟨x, hx, rfl, hx1, m1, rfl⟩ := hrel
    by_cases hlt : x < n
    · go_wp2
      go_loopw [9] (fun i wr => ∃ k : Nat, k ≤ n ∧ i = .int .i64 k ∧ Hid (∀ y, y < k → ¬ (tv f x y = u ∧ tv g x y = v)) ∧ ∃ m, wr = w0.drewN m) (fun i _ => n - (intOf i).toNat)
      case atStart => exact ⟨0, Nat.zero_le _, rfl, Lib.hid fun y hy => absurd hy (by omega), m1, rfl⟩
      case round =>
        obtain ⟨y, hy, rfl, hy1, m2, rfl⟩ := hrel
        by_cases hlty : y < n
        · obtain ⟨r1, k1⟩ := gf.look hlt hlty
          obtain ⟨r2, k2⟩ := gg.look hlt hlty
          by_cases p1 : tv f x y = u
          · have u1 : ((tv f x y : Nat) : Int) = (u : Int) := by rw [p1]
            rw [u1] at k1
            by_cases p2 : tv g x y = v
            · have u2 : ((tv g x y : Nat) : Int) = (v : Int) := by rw [p2]
              rw [u2] at k2
              have b1 : ((u : Int) == (u : Int)) = true := by simp
              have b2 : ((v : Int) == (v : Int)) = true := by simp
              obtain ⟨e1, e2⟩ := HBF.out x y hlt hlty p1 p2
              have HE1 := Lib.hid e1; have HE2 := Lib.hid e2
              clear e1 e2 u1 u2 p1 p2
              go_wp2
              go_ret2
              exact ⟨by rw [HE1.out, HE2.out]; rfl, below_drewN hB _⟩
            · have b1 : ((u : Int) == (u : Int)) = true := by simp
              have b2 : (((tv g x y : Nat) : Int) == (v : Int)) = false := by simp; omega
              have HN : Hid (¬ (tv f x y = u ∧ tv g x y = v)) := Lib.hid fun h => p2 h.2
              generalize tv g x y = V at k2 b2
              clear p1 p2 u1
              go_wp2
              go_roundw
              case rel => exact ⟨y + 1, by omega, by go_num, Lib.hid fun z hz => by
                  by_cases e : z = y
                  · subst e; exact HN.out
                  · exact hy1.out z (by omega), _, rfl⟩
              case measure => simp [intOf]; omega
          · have b1 : (((tv f x y : Nat) : Int) == (u : Int)) = false := by simp; omega
            have HN : Hid (¬ (tv f x y = u ∧ tv g x y = v)) := Lib.hid fun h => p1 h.1
            generalize tv f x y = V at k1 b1
            clear p1
            go_wp2
            go_roundw
            case rel => exact ⟨y + 1, by omega, by go_num, Lib.hid fun z hz => by
                by_cases e : z = y
                · subst e; exact HN.out
                · exact hy1.out z (by omega), _, rfl⟩
            case measure => simp [intOf]; omega
        · obtain rfl : y = n := by omega
          go_wp2
          go_roundw
          case rel => exact ⟨x + 1, by omega, by go_num, Lib.hid fun z q hz hq => by
              by_cases e : z = x
              · subst e; exact hy1.out q hq
              · exact hx1.out z q (by omega) hq, _, rfl⟩
          case measure => simp [intOf]; omega
    · exfalso
      obtain ⟨x', y', h1, h2, h3, h4⟩ := HEX.out
      exact hx1.out x' y' (by omega) h2 ⟨h3, h4⟩
set_option maxHeartbeats 8000000 in
theorem l16Act_any (a : Option Addr) (n c : Nat) (a' : Option Addr) (c' : Nat) (f g : List (List Int)) (s : Nat) (ab : Option Addr) (nb cb : Nat) (xs : List Int) (al : Option Addr) (cl : Nat) (l : List Int) (w : World)
    (h1 : Tbl w a n f) (h2 : Tbl w a' n g) (hn1 : 1 ≤ n) (hn : n ≤ 12) (hf : Sq n f) (hg : Sq n g) (hc : collOk n f g = true)
    (hr : Row w ab nb xs) (hb : isBr s xs = true) (hl : Row w al s l) (hle : Less n l) :
    Calls Tryz.prog 167 #[sAgg a n c a' n c', bAgg s ab nb cb, .slice al s cl] w fun e w' => ∃ ao co, e = .returned (.slice ao s co) ∧ Own w' w.heap.size ao s co (actL n f g xs l) ∧ Below w.heap.size w w' := by
  obtain ⟨h26, h30, hlet⟩ := isBr_let hb
  have hll := hl.len
  have hrl := hr.len
  have hpl : ∀ x ∈ xs, 0 ≤ plc x ∧ plc x + 1 < s := fun x hx => by
    have := hlet x hx
    unfold plc; split <;> omega
  have hlt2 : ∀ k, Less n (actL n f g (xs.take k) l) := fun k => hle.act hn1 hf hg hc _ (fun x hx => by have := hpl x (List.mem_of_mem_take hx); omega)
  have hlen2 : ∀ k, (actL n f g (xs.take k) l).length = s := fun k => by rw [actL_len]; exact hll.symm
  have hn30 : nb ≤ 30 := by omega
  have hs2 : 2 ≤ s := by omega
  have hs6 : s ≤ 6 := by omega
  have HLet := Lib.hid hlet; have HP := Lib.hid hpl; have HLT := Lib.hid hlt2; have HLEN := Lib.hid hlen2; have HRL := Lib.hid hrl
  have HSF := Lib.hid hf; have HSG := Lib.hid hg; have HC := Lib.hid hc
  clear hlet hpl hlt2 hlen2 hb hf hg hc hrl hll h26
  have hA := (Loc.new w rfl #[.slice a n c, .slice a' n c'] 26).alloc (.cells #[.int .i64 s, .slice ab nb cb] 42)
  have hE := Loc.new (w.alloc (.cells #[.slice a n c, .slice a' n c'] 26)) rfl #[.int .i64 s, .slice ab nb cb] 42
  rw [size_alloc] at hE
  have hB := below_al (below_al (Below.refl w.heap.size w) (.cells #[.slice a n c, .slice a' n c'] 26)) (.cells #[.int .i64 s, .slice ab nb cb] 42)
  have hl0 := (hl.alloc (.cells #[.slice a n c, .slice a' n c'] 26)).alloc (.cells #[.int .i64 s, .slice ab nb cb] 42)
  go_enter Tryz.func167, Tryz.ntmps167
  go_wp2_with fail
  generalize (w.alloc (.cells #[.slice a n c, .slice a' n c'] 26)).alloc (.cells #[.int .i64 s, .slice ab nb cb] 42) = w0 at *
  refine (l01Own_any _ _ _ l _ hl0 (by omega)).mono ?_
  rintro e w1 ⟨ao, co, rfl, ho, hb1⟩
  have hA1 := hA.below hb1 hA.lt
  have hE1 := hE.below hb1 hE.lt
  have hB1 := below_th hB hb1
  have hsz := hE.lt
  have ho1 := ho.mono (lo' := w.heap.size + 2) (by omega)
  clear hA hE hB hb1 ho hl0 hl hsz
  go_wp2
  go_loopw [7, 8] (fun t i wr => ∃ (k : Nat) (ao : Option Addr) (co : Nat), k ≤ nb ∧ i = .int .i64 k ∧ t = .slice ao s co ∧ Own wr (w.heap.size + 2) ao s co (actL n f g (xs.take k) l) ∧ Loc wr w.heap.size #[.slice a n c, .slice a' n c'] 26 ∧ Loc wr (w.heap.size + 1) #[.int .i64 s, .slice ab nb cb] 42 ∧ Below w.heap.size w wr) (fun _ i _ => nb - (intOf i).toNat)
  case atStart => exact ⟨0, _, _, Nat.zero_le _, rfl, rfl, by simpa [actL] using ho1, hA1, hE1, hB1⟩
  case round =>
    clear ho1 hA1 hB1 hE1
    obtain ⟨k, ao, co, hk, rfl, rfl, ho, hA, hE, hB⟩ := hrel
    obtain ⟨W, rfl⟩ : ∃ W : World, W = wr := ⟨_, rfl⟩
    have lA := hA.two
    have lE := hE.two
    by_cases hlt : k < nb
    · have hr2 := hr.below hB
      obtain ⟨bb, off, rfl, g1⟩ := hr2.at k hlt
      have hx : k < xs.length := by have := HRL.out; omega
      rw [getD_eq_at hx] at g1
      have hle2 := HLet.out xs[k] (List.getElem_mem hx)
      have hpl2 := HP.out xs[k] (List.getElem_mem hx)
      have HS : Hid (actL n f g (xs.take (k + 1)) l = stepL n f g xs[k] (actL n f g (xs.take k) l)) := Lib.hid (actL_take n f g xs l k hx)
      have b1 : -1000 ≤ xs[k] := by omega
      have b2 : xs[k] ≤ 1000 := by omega
      have LT := HLT.out k
      have LEN := HLEN.out k
      obtain ⟨j, hj⟩ : ∃ j : Nat, plc xs[k] = j := ⟨(plc xs[k]).toNat, by omega⟩
      have hjs : j + 1 < s := by omega
      have hne0 : xs[k] ≠ 0 := hle2.1
      have HJ := Lib.hid hj
      clear hle2 hpl2
      generalize actL n f g (xs.take k) l = L at *
      generalize xs[k] = X at *
      have T1 := h1.below hB; have T2 := h2.below hB
      by_cases hpos : 0 < X
      · have HST : Hid (stepL n f g X L = doF f g j L) := Lib.hid (by unfold stepL; rw [if_pos hpos, hj]; rfl)
        clear hj
        go_wp2_with fail
        refine (l16Place_any _ _ b1 b2).mono ?_
        rintro e w2 ⟨rfl, rfl⟩
        rw [HJ.out]
        go_wp2_with fail
        refine (l06Move_any _ _ _ _ _ f g _ _ _ L j _ T1 T2 hn1 HSF.out HSG.out ho.row (by omega) hjs LT).mono ?_
        rintro e w2 ⟨ao2, co2, rfl, ho2, hb2⟩
        have hA2 := hA.below hb2 hA.lt
        have hE2 := hE.below hb2 hE.lt
        have hB2 := below_th hB hb2
        have hlo := hE.lt
        go_wp2
        go_roundw
        case rel => exact ⟨k + 1, _, _, by omega, by go_num, rfl, by rw [HS.out, HST.out]; exact ho2.mono (by omega), hA2, hE2, hB2⟩
        case measure => simp [intOf]; omega
      · obtain ⟨u, hu, eu⟩ := LT j (by omega)
        obtain ⟨v, hv, ev⟩ := LT (j + 1) (by omega)
        have HST : Hid (stepL n f g X L = (L.set j ((tv (bfT n f g) u v : Nat) : Int)).set (j + 1) ((tv (bgT n f g) u v : Nat) : Int)) := Lib.hid (by unfold stepL; rw [if_neg hpos, hj]; unfold doF; rw [Int.toNat_natCast, eu, ev]; simp)
        have HP0 := Lib.hid (l16Pair_any a n c a' c' f g u v)
        generalize tv (bfT n f g) u v = BX at *
        generalize tv (bgT n f g) u v = BY at *
        clear hj
        obtain ⟨go, oo, rfl, _⟩ := ho.row.at j (by omega)
        obtain ⟨rfl, hcs, hfs⟩ := ho.cells
        have hcj := hcs j (by omega)
        have hcj1 := hcs (j + 1) (by omega)
        rw [eu] at hcj; rw [ev] at hcj1
        have hgo := ho.lt
        have hwj : IntKind.i64.wrap ((j : Int) + 1) = ((j + 1 : Nat) : Int) := (IntWalk.i64_in _ (by omega)).trans (by simp)
        have hb0 : decide (0 < X) = false := by simpa using hpos
        have i1 : (0 : Int) ≤ (j : Int) := by omega
        have i2 : (j : Int) ≤ (s : Int) := by omega
        have i3 : (j : Int) < (s : Int) := by omega
        have i4 : ((j + 1 : Nat) : Int) < (s : Int) := by omega
        have i5 : (j : Int) + 1 < (s : Int) := by omega
        have i6 : (0 : Int) ≤ (j : Int) + 1 := by omega
        have i7 : (0 : Int) ≤ ((j + 1 : Nat) : Int) := by omega
        have i8 : ((j + 1 : Nat) : Int) ≤ (s : Int) := by omega
        clear hcs hfs eu ev
        go_wp2_with fail
        refine (l16Place_any _ _ b1 b2).mono ?_
        rintro e w2 ⟨rfl, rfl⟩
        rw [HJ.out]
        go_wp2
        go_region_held3 (fun w' => (w'.cell? ⟨w.heap.size, 0, none⟩ = some (.slice a n c) ∧ w'.cell? ⟨w.heap.size, 1, none⟩ = some (.slice a' n c')) ∧ w'.cell? ⟨go, j, none⟩ = some (.int .i64 u) ∧ w'.cell? ⟨go, j + 1, none⟩ = some (.int .i64 v))
          (first | exact ⟨⟨lA2.1, lA2.2.1⟩, hj2, hj3⟩ | exact ⟨⟨lA.1, lA.2.1⟩, hcj, hcj1⟩)
          (first
            | (go_at_call 207; refine (HP0.out _ (T1.drewN 1) (T2.drewN 1) hn1 hn HSF.out HSG.out HC.out hu hv).mono ?_; rintro e w2 ⟨rfl, hb2⟩; have hq2 := below_undrew hb2; have lA2 := (hA.below hq2 hA.lt).two; have hj2 := (hq2.cell (p := ⟨go, j, none⟩) hgo.2).trans hcj; have hj3 := (hq2.cell (p := ⟨go, j + 1, none⟩) hgo.2).trans hcj1))
        have ho2 := ho.below hq2
        obtain ⟨_, hcs, hfs⟩ := ho2.cells
        have hfj := hfs j
        have hfj1 := hfs (j + 1)
        clear hcs hfs lA hcj hcj1 g1
        have hne : (⟨go, j, none⟩ : Addr) ≠ ⟨go, j + 1, none⟩ := fun e => by simp at e
        go_wp2
        go_roundw
        case rel =>
          refine ⟨k + 1, _, _, by omega, by go_num, rfl, ?_, ?_, ?_, ?_⟩
          · rw [HS.out, HST.out]
            exact (ho2.set j _).set (j + 1) _
          · exact ((hA.below hq2 hA.lt).setne (a := ⟨go, j, none⟩) (by show w.heap.size ≠ go; omega) _).setne (a := ⟨go, j + 1, none⟩) (by show w.heap.size ≠ go; omega) _
          · exact ((hE.below hq2 hE.lt).setne (a := ⟨go, j, none⟩) (by show w.heap.size + 1 ≠ go; omega) _).setne (a := ⟨go, j + 1, none⟩) (by show w.heap.size + 1 ≠ go; omega) _
          · exact below_setne (below_setne (a := ⟨go, j, none⟩) (below_th hB hq2) (by show w.heap.size ≤ go; omega) _) (a := ⟨go, j + 1, none⟩) (by show w.heap.size ≤ go; omega) _
        case measure => simp [intOf]; omega
    · obtain rfl : k = nb := by omega
      rw [List.take_of_length_le (by have := HRL.out; omega)] at ho
      go_wp2
      go_ret
      exact ⟨_, _, rfl, ho.mono (by omega), hB⟩
end Go.Proofs.YtkjpkdmnjbjjaaaGreat
