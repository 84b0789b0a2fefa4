/-
  The reference's drawn tables of racks: squares, whatever is drawn.
  No condition but bounds.
-/
import Derived.Test.YtdkpalllfekiiaaGreatPrDu
import Derived.Deep.DeepCutAuto
namespace Go.Proofs.YtdkpalllfekiiaaGreat
set_option linter.unusedVariables false
set_option linter.unusedSimpArgs false
set_option maxRecDepth 100000
open Go.RowKit

set_option maxHeartbeats 32000000 in
theorem l03DrawTable_ok (M b : Nat) (w : World) (h : Src w b) (h1 : 1 ≤ M) (hM : M ≤ 12) :
    Calls Tryz.prog 105 #[.pointer (some ⟨b, 0, none⟩), .int .i64 M] w (SqD b w M) := by
  have hlt := h.lt
  go_enter Tryz.func105, Tryz.ntmps105
  go_wp2_with fail
  refine (l01Next_ok b (M : Int) _ h ⟨by omega, by omega⟩).mono ?_
  rintro e w1 ⟨y, rfl, _, hy, hs1, hg1⟩
  obtain ⟨hy1, hy2⟩ := hy (by omega)
  obtain ⟨y0, rfl⟩ : ∃ k : Nat, y = k := ⟨y.toNat, by omega⟩
  obtain ⟨N, hN⟩ : ∃ N, N = y0 + 1 := ⟨_, rfl⟩
  have e1 : (1 : Int) + (y0 : Int) = (N : Int) := by omega
  have hN1 : 1 ≤ N := by omega
  have hNM : N ≤ M := by omega
  clear hy hy1 hy2 hN
  go_wp2_with fail
  refine (l01Next_ok b 5 _ hs1 ⟨by omega, by omega⟩).mono ?_
  rintro e w2 ⟨x, rfl, _, hx, hs2, hg2⟩
  obtain ⟨hx1, hx2⟩ := hx (by omega)
  have hG2 := grown_trans hg1 hg2
  have hz2' : w.heap.size ≤ w2.heap.size := hG2.size
  clear hx hs1 hg1 hg2 e1
  have hx5 : x = 0 ∨ x = 1 ∨ x = 2 ∨ x = 3 ∨ x = 4 := by omega
  clear hx1 hx2
  rcases hx5 with rfl | rfl | rfl | rfl | rfl
  · go_wp2_with fail
    refine (l03DrawPerm_ok b N _ hs2 (by omega)).mono ?_
    rintro e w3 ⟨a3, c3, p, rfl, hp, ho3, hs3, hg3⟩
    have hG3 := grown_trans hG2 hg3
    have HSQ := Lib.hid (rep_sq hp)
    have hz3 := hg3.size
    obtain ⟨w4, hw4⟩ : ∃ w4, w3.alloc (.cells #[] 24) = w4 := ⟨_, rfl⟩
    have hO4 : OwnT w4 w3.heap.size (some ⟨w3.heap.size, 0, none⟩) 0 0 [] [] := by rw [← hw4]; exact OwnT.fresh w3 rfl
    have hb4 : Below w3.heap.size w3 w4 := by rw [← hw4]; exact below_al (Below.refl _ _) _
    have HW4 := Lib.hid hw4
    clear hw4 hp
    go_wp2
    try rw [HW4.out]
    go_loopw [7, 8] (fun z i wr => ∃ (k : Nat) (az : Option Addr) (cz : Nat) (vz : List SV), k ≤ N ∧ i = .int .i64 k ∧ z = .slice az k cz ∧ OwnT wr w3.heap.size az k cz vz ((repT N p).take k) ∧ Below w3.heap.size w3 wr) (fun _ i _ => N - (intOf i).toNat)
    case atStart => exact ⟨0, _, 0, _, Nat.zero_le _, rfl, rfl, by simpa using hO4, hb4⟩
    case round =>
      clear hO4 hb4
      obtain ⟨k, az, cz, vz, hk, rfl, rfl, ho, hb⟩ := hrel
      by_cases hlt2 : k < N
      · have HRS := Lib.hid (repT_succ p hlt2)
        have hbb := hb.size
        go_wp2_with fail
        refine (l01Own_any _ N c3 p _ (ho3.row.below hb) (by omega)).mono ?_
        rintro e w5 ⟨a5, c5, rfl, ho5, hb5⟩
        have hz5 := ho.below hb5
        have hs5 := hb5.size
        go_wp2_with (at_builtin; refine appT1 rfl rfl hz5 rfl (ho5.mono hbb) (fun g h1 h2 => by have h3 := ho.high _ h1; have h4 := ho5.lo _ h2; omega) (fun i hi g h1 h2 => by have h3 := ho5.lo _ h1; have h4 := (ho.row i hi).hi _ h2; omega) rfl (by omega) (by omega) ?_; intro g' cc w6 hO hb6)
        go_roundw
        case rel => exact ⟨k + 1, _, _, _, by omega, by go_num, rfl, by rw [HRS.out]; exact hO, (hb.trans (hb5.mono hbb)).trans hb6⟩
        case measure => simp [intOf]; omega
      · obtain rfl : k = N := by omega
        rw [List.take_of_length_le (by simp [repT])] at ho
        go_wp2
        go_ret
        exact ⟨_, _, _, vz, _, hN1, hNM, rfl, ho.mono (by omega), HSQ.out, hs3.below hb, grown_trans hG3 (grown_of_below hb _)⟩
  · obtain ⟨K, hK⟩ : ∃ K, K = N - 1 := ⟨_, rfl⟩
    obtain ⟨L, hL⟩ : ∃ L, 2 % N = L := ⟨_, rfl⟩
    have d1 : (N : Int) - 1 = (K : Int) := by omega
    have d2 : Int.tmod 2 (N : Int) = (L : Int) := by rw [← hL]; rfl
    have hLb : L ≤ 2 := by rw [← hL]; exact Nat.mod_le _ _
    have hKb : K ≤ 12 := by omega
    have hz1 : ¬ (N : Int) = 0 := by omega
    have hz2 : ((N : Int) == 0) = false := by simpa using hz1
    have hz3 : ¬ N = 0 := by omega
    clear hK hL
    go_wp2_with fail
    refine (l03Alexander_any N K L _ hN1 (by omega) (by omega) (by omega)).mono ?_
    rintro e w3 ⟨a3, c3, vs3, t3, rfl, ho3, sq3, hb3⟩
    have SQ3 := Lib.hid sq3
    clear sq3
    go_wp2
    go_ret
    exact ⟨N, _, _, vs3, t3, hN1, hNM, rfl, ho3.mono hz2', SQ3.out, hs2.below hb3, grown_trans hG2 (grown_of_below hb3 _)⟩
  -- printed by genDt.py from here on
  · go_wp2
    go_loopw [9, 10] (fun i _ wr => ∃ q : Nat, q ≤ 6 ∧ i = .int .i64 q ∧ Src wr b ∧ w.grownBy wr (some b)) (fun i _ _ => 6 - (intOf i).toNat)
    case atStart => exact ⟨0, by omega, rfl, hs2, hG2⟩
    case round =>
      clear hs2 hG2 hz2'
      obtain ⟨q, hq, rfl, hsr, hGr⟩ := hrel
      have hzr : w.heap.size ≤ wr.heap.size := hGr.size
      by_cases hlt6 : q < 6
      · have q6 : (q : Int) < 6 := by omega
        go_wp2_with fail
        refine (l01Next_ok b (N : Int) _ hsr ⟨by omega, by omega⟩).mono ?_
        rintro e wa ⟨aa, rfl, _, haa, hsa, hga⟩
        obtain ⟨ha1, ha2⟩ := haa (by omega)
        obtain ⟨av, rfl⟩ : ∃ z : Nat, aa = z := ⟨aa.toNat, by omega⟩
        have haN : av < N := by omega
        have hGa := grown_trans hGr hga
        clear haa ha1 ha2 hga hsr hGr hzr
        go_wp2_with fail
        refine (l03Coprime_any av N _ (by omega) (by omega)).mono ?_
        rintro e wx ⟨⟨qb, rfl⟩, hwx⟩
        subst hwx
        cases qb
        · go_wp2
          go_roundw
          case rel => exact ⟨q + 1, by omega, by go_num, hsa, hGa⟩
          case measure => simp [intOf]; omega
        · obtain ⟨E, hE⟩ : ∃ E, E = N + 1 - av := ⟨_, rfl⟩
          obtain ⟨L, hL⟩ : ∃ L, E % N = L := ⟨_, rfl⟩
          have d1 : (1 : Int) - (av : Int) + (N : Int) = (E : Int) := by omega
          have d2 : Int.tmod (E : Int) (N : Int) = (L : Int) := by rw [← hL]; rfl
          have hLb : L < N := by rw [← hL]; exact Nat.mod_lt _ hN1
          have hz1 : ¬ (N : Int) = 0 := by omega
          have hz2 : ((N : Int) == 0) = false := by simpa using hz1
          have hz3 : ¬ N = 0 := by omega
          have hEb : E ≤ 13 := by omega
          clear hE hL
          go_wp2_with fail
          refine (l03Alexander_any N av L _ hN1 (by omega) (by omega) (by omega)).mono ?_
          rintro e w3 ⟨a3, c3, vs3, t3, rfl, ho3, sq3, hb3⟩
          have SQ3 := Lib.hid sq3
          have hzx := hGa.size
          clear sq3
          go_wp2
          go_ret
          exact ⟨N, _, _, vs3, t3, hN1, hNM, rfl, ho3.mono hzx, SQ3.out, hsa.below hb3, grown_trans hGa (grown_of_below hb3 _)⟩
      · obtain rfl : q = 6 := by omega
        clear hq
        go_upto_region 39 with fail
        refine dt_tail M N b w wr hsr hGr hlt hzr hN1 hNM hM _ _ _ _ _ _ _ _ _ _ _ _ _ _ _ _ _ _ _ _ _ _ _ _ _ _ _ _ _ _ _ _ _ _ _ _ _ _ _ _ _ _ _ _ _ _ _ _ _ _ _ _ _ _ _ _ _ _ _ _ _ _ _ _ _ _ _ _ _ _ _ _ _ _ _ _ _ _ _ _ _ _ _ _ _ _ _ _ _ _ _ _ _ _ _ _ _ _ _ _ _ _ _ _ _ _ _ _ _ _ _ _ _ _ _ _ _ _ _ _ _ _ _ _ _ _ _ _ _ _ _ _ _ _ _ _ _ _ _ _ _ _ _ _ _ _ _ _ _ _ _ _ _ _ _ _ _ _ _ _ _ _ _ _ _ _ _ _ _ _ _ _ _ _ _ _ _ _ _ _ _ _ _ _ _ _ _ _ _ _ _ _ _ _ _ _ _ _ _ _ _ _ _ _ _ _ _ _ _ _ _ _ _ _ _ _ _ _ _ _ _ _ _ _ _ _ _ _ _ _ _ ?_
        assumption
  · by_cases hM6 : 6 ≤ M
    · have hM6i : (6 : Int) ≤ (M : Int) := by omega
      go_wp2_with fail
      refine (l01Perms_any 3 _ (by omega)).mono ?_
      rintro e w3 ⟨a3, n3, c3, vs3, rfl, ho3, hb3⟩
      obtain rfl : n3 = 6 := ho3.len.trans cj_prm.len
      have hs3 := hs2.below hb3
      have hG3 := grown_trans hG2 (grown_of_below hb3 (some b))
      have hz3 := hb3.size
      have hb2 := hs2.lt
      obtain ⟨w4, hw4⟩ : ∃ w4, w3.alloc (.cells #[] 24) = w4 := ⟨_, rfl⟩
      have hO4 : OwnT w4 w3.heap.size (some ⟨w3.heap.size, 0, none⟩) 0 0 [] [] := by rw [← hw4]; exact OwnT.fresh w3 rfl
      have hL4 : Loc w4 w3.heap.size #[] 24 := by rw [← hw4]; exact Loc.new _ rfl _ _
      have hb4 : Below w3.heap.size w3 w4 := by rw [← hw4]; exact below_al (Below.refl _ _) _
      have HW4 := Lib.hid hw4
      clear hw4
      have hs4 := hs3.below hb4
      have hG4 := grown_trans hG3 (grown_of_below hb4 (some b))
      have ho4 := ho3.below hb4
      clear ho3 hs3 hG3 hb3 hb4
      go_wp2_with fail
      try rw [HW4.out]
      refine (l01Next_ok b 2 _ hs4 ⟨by omega, by omega⟩).mono ?_
      rintro e w5 ⟨qq, rfl, _, hqq, hs5, hg5⟩
      obtain ⟨hq1, hq2⟩ := hqq (by omega)
      have hO5 : OwnT w5 w3.heap.size (some ⟨w3.heap.size, 0, none⟩) 0 0 [] [] := hO4.keep fun g hg hl => hg5.block g hl (fun e => by have := hO4.uLo g hg; cases e; omega)
      have hL5 : Loc w5 w3.heap.size #[] 24 := hL4.grown hg5 (by simp; omega)
      have t5 : Tbl w5 a3 6 (prmL 3) := (ho4.keep fun g hg hl => hg5.block g hl (fun e => by have := ho4.uLo g hg; cases e; omega)).tbl
      have hG5 := grown_trans hG4 hg5
      clear hqq hO4 hL4 ho4 hs4 hG4 hg5 hs2 hG2
      have hq : qq = 0 ∨ qq = 1 := by omega
      clear hq1 hq2
      rcases hq with rfl | rfl
      · obtain ⟨w6, hw6⟩ : ∃ w6, (((w5.alloc (.cells #[.int .i64 0, .int .i64 2, .int .i64 1] 2)).alloc (.cells #[.int .i64 1, .int .i64 0, .int .i64 2] 2)).alloc (.cells #[.int .i64 2, .int .i64 1, .int .i64 0] 2)).alloc (.cells #[.slice (some ⟨w5.heap.size, 0, none⟩) 3 3, .slice (some ⟨w5.heap.size + 1, 0, none⟩) 3 3, .slice (some ⟨w5.heap.size + 1 + 1, 0, none⟩) 3 3] 24) = w6 := ⟨_, rfl⟩
        have t6 : Tbl w6 (some ⟨w5.heap.size + 1 + 1 + 1, 0, none⟩) 3 trL := by rw [← hw6]; exact litT w5 _ _
        have hb6 : Below w5.heap.size w5 w6 := by rw [← hw6]; exact below_al (below_al (below_al (below_al (Below.refl _ _) _) _) _) _
        have hO6 := hO5.below hb6
        have hL6 := hL5.below hb6 hL5.lt
        have hs6 := hs5.below hb6
        have hG6 := grown_trans hG5 (grown_of_below hb6 (some b))
        have HW6 := Lib.hid hw6
        clear hw6 hO5 hL5 hs5 hG5 t5 hb6
        go_upto_region 25 with fail
        rw [HW6.out]
        refine dt_conj M N b 3 w3.heap.size 3 _ trL w w6 cj_tr t6 hO6 hL6 hs6 hG6 hlt (by omega) (by omega) (by omega) hM6 _ _ _ _ _ _ _ _ _ _ _ _ _ _ _ _ _ _ _ _ _ _ _ _ _ _ _ _ _ _ _ _ _ _ _ _ _ _ _ _ _ _ _ _ _ _ _ _ _ _ _ _ _ _ _ _ _ _ _ _ _ _ _ _ _ _ _ _ _ _ _ _ _ _ _ _ _ _ _ _ _ _ _ _ _ _ _ _ _ _ _ _ _ _ _ _ _ _ _ _ _ _ _ _ _ _ _ _ _ _ _ _ _ _ _ _ _ _ _ _ _ _ _ _ _ _ _ _ _ _ _ _ _ _ _ _ _ _ _ _ _ _ _ _ _ _ _ _ _ _ _ _ _ _ _ _ _ _ _ _ _ _ _ _ _ _ _ _ _ _ _ _ _ _ _ _ _ _ _ _ _ _ _ _ _ _ _ _ _ _ _ _ _ _ _ _ _ _ _ _ _ _ _ _ _ _ _ _ _ _ _ _ _ _ _ _ _ _ _ _ _ _ _ _ _ _ _ _ _ _ ?_ ?_
        · assumption
        · assumption
      · go_upto_region 25 with fail
        refine dt_conj M N b 6 w3.heap.size c3 a3 (prmL 3) w w5 cj_prm t5 hO5 hL5 hs5 hG5 hlt (by omega) (by omega) (by omega) hM6 _ _ _ _ _ _ _ _ _ _ _ _ _ _ _ _ _ _ _ _ _ _ _ _ _ _ _ _ _ _ _ _ _ _ _ _ _ _ _ _ _ _ _ _ _ _ _ _ _ _ _ _ _ _ _ _ _ _ _ _ _ _ _ _ _ _ _ _ _ _ _ _ _ _ _ _ _ _ _ _ _ _ _ _ _ _ _ _ _ _ _ _ _ _ _ _ _ _ _ _ _ _ _ _ _ _ _ _ _ _ _ _ _ _ _ _ _ _ _ _ _ _ _ _ _ _ _ _ _ _ _ _ _ _ _ _ _ _ _ _ _ _ _ _ _ _ _ _ _ _ _ _ _ _ _ _ _ _ _ _ _ _ _ _ _ _ _ _ _ _ _ _ _ _ _ _ _ _ _ _ _ _ _ _ _ _ _ _ _ _ _ _ _ _ _ _ _ _ _ _ _ _ _ _ _ _ _ _ _ _ _ _ _ _ _ _ _ _ _ _ _ _ _ _ _ _ _ _ _ _ ?_ ?_
        · assumption
        · assumption
    · have hM6i : ¬ (6 : Int) ≤ (M : Int) := by omega
      go_upto_region 39 with fail
      refine dt_tail M N b w w2 hs2 hG2 hlt hz2' hN1 hNM hM _ _ _ _ _ _ _ _ _ _ _ _ _ _ _ _ _ _ _ _ _ _ _ _ _ _ _ _ _ _ _ _ _ _ _ _ _ _ _ _ _ _ _ _ _ _ _ _ _ _ _ _ _ _ _ _ _ _ _ _ _ _ _ _ _ _ _ _ _ _ _ _ _ _ _ _ _ _ _ _ _ _ _ _ _ _ _ _ _ _ _ _ _ _ _ _ _ _ _ _ _ _ _ _ _ _ _ _ _ _ _ _ _ _ _ _ _ _ _ _ _ _ _ _ _ _ _ _ _ _ _ _ _ _ _ _ _ _ _ _ _ _ _ _ _ _ _ _ _ _ _ _ _ _ _ _ _ _ _ _ _ _ _ _ _ _ _ _ _ _ _ _ _ _ _ _ _ _ _ _ _ _ _ _ _ _ _ _ _ _ _ _ _ _ _ _ _ _ _ _ _ _ _ _ _ _ _ _ _ _ _ _ _ _ _ _ _ _ _ _ _ _ _ _ _ _ _ _ _ _ _ ?_
      assumption
  · skip
    go_upto_region 39 with fail
    refine dt_tail M N b w w2 hs2 hG2 hlt hz2' hN1 hNM hM _ _ _ _ _ _ _ _ _ _ _ _ _ _ _ _ _ _ _ _ _ _ _ _ _ _ _ _ _ _ _ _ _ _ _ _ _ _ _ _ _ _ _ _ _ _ _ _ _ _ _ _ _ _ _ _ _ _ _ _ _ _ _ _ _ _ _ _ _ _ _ _ _ _ _ _ _ _ _ _ _ _ _ _ _ _ _ _ _ _ _ _ _ _ _ _ _ _ _ _ _ _ _ _ _ _ _ _ _ _ _ _ _ _ _ _ _ _ _ _ _ _ _ _ _ _ _ _ _ _ _ _ _ _ _ _ _ _ _ _ _ _ _ _ _ _ _ _ _ _ _ _ _ _ _ _ _ _ _ _ _ _ _ _ _ _ _ _ _ _ _ _ _ _ _ _ _ _ _ _ _ _ _ _ _ _ _ _ _ _ _ _ _ _ _ _ _ _ _ _ _ _ _ _ _ _ _ _ _ _ _ _ _ _ _ _ _ _ _ _ _ _ _ _ _ _ _ _ _ _ _ ?_
    assumption
end Go.Proofs.YtdkpalllfekiiaaGreat
