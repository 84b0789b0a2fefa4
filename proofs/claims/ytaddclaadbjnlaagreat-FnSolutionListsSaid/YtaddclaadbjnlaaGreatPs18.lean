/-
  Walks and plain laws of this seat, some texts in one.
  No condition but bounds on lengths.
-/
import Derived.Test.YtaddclaadbjnlaaGreatPs17
import Derived.Deep.DeepCutAuto
import Derived.Test.YtaddclaadbjnlaaGreatPs15
import Derived.Test.YtaddclaadbjnlaaGreatPs2
import Derived.Test.YtaddclaadbjnlaaGreatPs13
import Derived.Test.YtaddclaadbjnlaaGreatPs5
namespace Go.Proofs.YtaddclaadbjnlaaGreat
set_option linter.unusedVariables false
set_option linter.unusedSimpArgs false
set_option maxRecDepth 100000
open Go.RowKit
set_option maxHeartbeats 32000000 in
theorem l03DrawTable_ok (M b : Nat) (w : World) (h : Src w b) (h1 : 1 ≤ M) (hM : M ≤ 12) :
    Calls Tryz.prog 139 #[.pointer (some ⟨b, 0, none⟩), .int .i64 M] w (SqD b w M) := by
  have hlt := h.lt
  go_enter Tryz.func139, Tryz.ntmps139
  go_wp2_with fail
  refine (l01Next_ok b (M : Int) _ h ⟨by omega, by omega⟩).mono ?_
  rintro e w1 ⟨y, rfl, _, hy, hs1, hg1⟩
  obtain ⟨hy1, hy2⟩ := hy (by omega)
  obtain ⟨y0, rfl⟩ : ∃ k : Nat, y = k := ⟨y.toNat, by omega⟩
  obtain ⟨N, hN⟩ : ∃ N, N = y0 + 1 := ⟨_, rfl⟩
  have e1 : (1 : Int) + (y0 : Int) = (N : Int) := by omega
  have hN1 : 1 ≤ N := by omega
  have hNM : N ≤ M := by omega
  clear hy hy1 hy2 hN
  go_wp2_with fail
  refine (l01Next_ok b 5 _ hs1 ⟨by omega, by omega⟩).mono ?_
  rintro e w2 ⟨x, rfl, _, hx, hs2, hg2⟩
  obtain ⟨hx1, hx2⟩ := hx (by omega)
  have hG2 := grown_trans hg1 hg2
  have hz2' : w.heap.size ≤ w2.heap.size := hG2.size
  clear hx hs1 hg1 hg2 e1
  have hx5 : x = 0 ∨ x = 1 ∨ x = 2 ∨ x = 3 ∨ x = 4 := by omega
  clear hx1 hx2
  rcases hx5 with rfl | rfl | rfl | rfl | rfl
  · go_wp2_with fail
    refine (l03DrawPerm_ok b N _ hs2 (by omega)).mono ?_
    rintro e w3 ⟨a3, c3, p, rfl, hp, ho3, hs3, hg3⟩
    have hG3 := grown_trans hG2 hg3
    have HSQ := Lib.hid (rep_sq hp)
    have hz3 := hg3.size
    obtain ⟨w4, hw4⟩ : ∃ w4, w3.alloc (.cells #[] 41) = w4 := ⟨_, rfl⟩
    have hO4 : OwnT w4 w3.heap.size (some ⟨w3.heap.size, 0, none⟩) 0 0 [] [] := by rw [← hw4]; exact OwnT.fresh w3 rfl
    have hb4 : Below w3.heap.size w3 w4 := by rw [← hw4]; exact below_al (Below.refl _ _) _
    have HW4 := Lib.hid hw4
    clear hw4 hp
    go_wp2
    try rw [HW4.out]
    go_loopw [7, 8] (fun z i wr => ∃ (k : Nat) (az : Option Addr) (cz : Nat) (vz : List SV), k ≤ N ∧ i = .int .i64 k ∧ z = .slice az k cz ∧ OwnT wr w3.heap.size az k cz vz ((repT N p).take k) ∧ Below w3.heap.size w3 wr) (fun _ i _ => N - (intOf i).toNat)
    case atStart => exact ⟨0, _, 0, _, Nat.zero_le _, rfl, rfl, by simpa using hO4, hb4⟩
    case round =>
      clear hO4 hb4
      obtain ⟨k, az, cz, vz, hk, rfl, rfl, ho, hb⟩ := hrel
      by_cases hlt2 : k < N
      · have HRS := Lib.hid (repT_succ p hlt2)
        have hbb := hb.size
        go_wp2_with fail
        refine (l01Own_any _ N c3 p _ (ho3.row.below hb) (by omega)).mono ?_
        rintro e w5 ⟨a5, c5, rfl, ho5, hb5⟩
        have hz5 := ho.below hb5
        have hs5 := hb5.size
        go_wp2_with (at_builtin; refine appT1 rfl rfl hz5 rfl (ho5.mono hbb) (fun g h1 h2 => by have h3 := ho.high _ h1; have h4 := ho5.lo _ h2; omega) (fun i hi g h1 h2 => by have h3 := ho5.lo _ h1; have h4 := (ho.row i hi).hi _ h2; omega) rfl (by omega) (by omega) ?_; intro g' cc w6 hO hb6)
        go_roundw
        case rel => exact ⟨k + 1, _, _, _, by omega, by go_num, rfl, by rw [HRS.out]; exact hO, (hb.trans (hb5.mono hbb)).trans hb6⟩
        case measure => simp [intOf]; omega
      · obtain rfl : k = N := by omega
        rw [List.take_of_length_le (by simp [repT])] at ho
        go_wp2
        go_ret
        exact ⟨_, _, _, vz, _, hN1, hNM, rfl, ho.mono (by omega), HSQ.out, hs3.below hb, grown_trans hG3 (grown_of_below hb _)⟩
  · obtain ⟨K, hK⟩ : ∃ K, K = N - 1 := ⟨_, rfl⟩
    obtain ⟨L, hL⟩ : ∃ L, 2 % N = L := ⟨_, rfl⟩
    have d1 : (N : Int) - 1 = (K : Int) := by omega
    have d2 : Int.tmod 2 (N : Int) = (L : Int) := by rw [← hL]; rfl
    have hLb : L ≤ 2 := by rw [← hL]; exact Nat.mod_le _ _
    have hKb : K ≤ 12 := by omega
    have hz1 : ¬ (N : Int) = 0 := by omega
    have hz2 : ((N : Int) == 0) = false := by simpa using hz1
    have hz3 : ¬ N = 0 := by omega
    clear hK hL
    go_wp2_with fail
    refine (l03Alexander_any N K L _ hN1 (by omega) (by omega) (by omega)).mono ?_
    rintro e w3 ⟨a3, c3, vs3, t3, rfl, ho3, sq3, hb3⟩
    have SQ3 := Lib.hid sq3
    clear sq3
    go_wp2
    go_ret
    exact ⟨N, _, _, vs3, t3, hN1, hNM, rfl, ho3.mono hz2', SQ3.out, hs2.below hb3, grown_trans hG2 (grown_of_below hb3 _)⟩
  -- printed by genDt.py from here on
  · go_wp2
    go_loopw [9, 10] (fun i _ wr => ∃ q : Nat, q ≤ 6 ∧ i = .int .i64 q ∧ Src wr b ∧ w.grownBy wr (some b)) (fun i _ _ => 6 - (intOf i).toNat)
    case atStart => exact ⟨0, by omega, rfl, hs2, hG2⟩
    case round =>
      clear hs2 hG2 hz2'
      obtain ⟨q, hq, rfl, hsr, hGr⟩ := hrel
      have hzr : w.heap.size ≤ wr.heap.size := hGr.size
      by_cases hlt6 : q < 6
      · have q6 : (q : Int) < 6 := by omega
        go_wp2_with fail
        refine (l01Next_ok b (N : Int) _ hsr ⟨by omega, by omega⟩).mono ?_
        rintro e wa ⟨aa, rfl, _, haa, hsa, hga⟩
        obtain ⟨ha1, ha2⟩ := haa (by omega)
        obtain ⟨av, rfl⟩ : ∃ z : Nat, aa = z := ⟨aa.toNat, by omega⟩
        have haN : av < N := by omega
        have hGa := grown_trans hGr hga
        clear haa ha1 ha2 hga hsr hGr hzr
        go_wp2_with fail
        refine (l03Coprime_any av N _ (by omega) (by omega)).mono ?_
        rintro e wx ⟨⟨qb, rfl⟩, hwx⟩
        subst hwx
        cases qb
        · go_wp2
          go_roundw
          case rel => exact ⟨q + 1, by omega, by go_num, hsa, hGa⟩
          case measure => simp [intOf]; omega
        · obtain ⟨E, hE⟩ : ∃ E, E = N + 1 - av := ⟨_, rfl⟩
          obtain ⟨L, hL⟩ : ∃ L, E % N = L := ⟨_, rfl⟩
          have d1 : (1 : Int) - (av : Int) + (N : Int) = (E : Int) := by omega
          have d2 : Int.tmod (E : Int) (N : Int) = (L : Int) := by rw [← hL]; rfl
          have hLb : L < N := by rw [← hL]; exact Nat.mod_lt _ hN1
          have hz1 : ¬ (N : Int) = 0 := by omega
          have hz2 : ((N : Int) == 0) = false := by simpa using hz1
          have hz3 : ¬ N = 0 := by omega
          have hEb : E ≤ 13 := by omega
          clear hE hL
          go_wp2_with fail
          refine (l03Alexander_any N av L _ hN1 (by omega) (by omega) (by omega)).mono ?_
          rintro e w3 ⟨a3, c3, vs3, t3, rfl, ho3, sq3, hb3⟩
          have SQ3 := Lib.hid sq3
          have hzx := hGa.size
          clear sq3
          go_wp2
          go_ret
          exact ⟨N, _, _, vs3, t3, hN1, hNM, rfl, ho3.mono hzx, SQ3.out, hsa.below hb3, grown_trans hGa (grown_of_below hb3 _)⟩
      · obtain rfl : q = 6 := by omega
        clear hq
        go_upto_region 39 with fail
        refine dt_tail M N b w wr hsr hGr hlt hzr hN1 hNM hM _ _ _ _ _ _ _ _ _ _ _ _ _ _ _ _ _ _ _ _ _ _ _ _ _ _ _ _ _ _ _ _ _ _ _ _ _ _ _ _ _ _ _ _ _ _ _ _ _ _ _ _ _ _ _ _ _ _ _ _ _ _ _ _ _ _ _ _ _ _ _ _ _ _ _ _ _ _ _ _ _ _ _ _ _ _ _ _ _ _ _ _ _ _ _ _ _ _ _ _ _ _ _ _ _ _ _ _ _ _ _ _ _ _ _ _ _ _ _ _ _ _ _ _ _ _ _ _ _ _ _ _ _ _ _ _ _ _ _ _ _ _ _ _ _ _ _ _ _ _ _ _ _ _ _ _ _ _ _ _ _ _ _ _ _ _ _ _ _ _ _ _ _ _ _ _ _ _ _ _ _ _ _ _ _ _ _ _ _ _ _ _ _ _ _ _ _ _ _ _ _ _ _ _ _ _ _ _ _ _ _ _ _ _ _ _ _ _ _ _ _ _ _ _ _ _ _ _ _ _ _ ?_
        assumption
  · by_cases hM6 : 6 ≤ M
    · have hM6i : (6 : Int) ≤ (M : Int) := by omega
      go_wp2_with fail
      refine (l01Perms_any 3 _ (by omega)).mono ?_
      rintro e w3 ⟨a3, n3, c3, vs3, rfl, ho3, hb3⟩
      obtain rfl : n3 = 6 := ho3.len.trans cj_prm.len
      have hs3 := hs2.below hb3
      have hG3 := grown_trans hG2 (grown_of_below hb3 (some b))
      have hz3 := hb3.size
      have hb2 := hs2.lt
      obtain ⟨w4, hw4⟩ : ∃ w4, w3.alloc (.cells #[] 41) = w4 := ⟨_, rfl⟩
      have hO4 : OwnT w4 w3.heap.size (some ⟨w3.heap.size, 0, none⟩) 0 0 [] [] := by rw [← hw4]; exact OwnT.fresh w3 rfl
      have hL4 : Loc w4 w3.heap.size #[] 41 := by rw [← hw4]; exact Loc.new _ rfl _ _
      have hb4 : Below w3.heap.size w3 w4 := by rw [← hw4]; exact below_al (Below.refl _ _) _
      have HW4 := Lib.hid hw4
      clear hw4
      have hs4 := hs3.below hb4
      have hG4 := grown_trans hG3 (grown_of_below hb4 (some b))
      have ho4 := ho3.below hb4
      clear ho3 hs3 hG3 hb3 hb4
      go_wp2_with fail
      try rw [HW4.out]
      refine (l01Next_ok b 2 _ hs4 ⟨by omega, by omega⟩).mono ?_
      rintro e w5 ⟨qq, rfl, _, hqq, hs5, hg5⟩
      obtain ⟨hq1, hq2⟩ := hqq (by omega)
      have hO5 : OwnT w5 w3.heap.size (some ⟨w3.heap.size, 0, none⟩) 0 0 [] [] := hO4.keep fun g hg hl => hg5.block g hl (fun e => by have := hO4.uLo g hg; cases e; omega)
      have hL5 : Loc w5 w3.heap.size #[] 41 := hL4.grown hg5 (by simp; omega)
      have t5 : Tbl w5 a3 6 (prmL 3) := (ho4.keep fun g hg hl => hg5.block g hl (fun e => by have := ho4.uLo g hg; cases e; omega)).tbl
      have hG5 := grown_trans hG4 hg5
      clear hqq hO4 hL4 ho4 hs4 hG4 hg5 hs2 hG2
      have hq : qq = 0 ∨ qq = 1 := by omega
      clear hq1 hq2
      rcases hq with rfl | rfl
      · obtain ⟨w6, hw6⟩ : ∃ w6, (((w5.alloc (.cells #[.int .i64 0, .int .i64 2, .int .i64 1] 2)).alloc (.cells #[.int .i64 1, .int .i64 0, .int .i64 2] 2)).alloc (.cells #[.int .i64 2, .int .i64 1, .int .i64 0] 2)).alloc (.cells #[.slice (some ⟨w5.heap.size, 0, none⟩) 3 3, .slice (some ⟨w5.heap.size + 1, 0, none⟩) 3 3, .slice (some ⟨w5.heap.size + 1 + 1, 0, none⟩) 3 3] 41) = w6 := ⟨_, rfl⟩
        have t6 : Tbl w6 (some ⟨w5.heap.size + 1 + 1 + 1, 0, none⟩) 3 trL := by rw [← hw6]; exact litT w5 _ _
        have hb6 : Below w5.heap.size w5 w6 := by rw [← hw6]; exact below_al (below_al (below_al (below_al (Below.refl _ _) _) _) _) _
        have hO6 := hO5.below hb6
        have hL6 := hL5.below hb6 hL5.lt
        have hs6 := hs5.below hb6
        have hG6 := grown_trans hG5 (grown_of_below hb6 (some b))
        have HW6 := Lib.hid hw6
        clear hw6 hO5 hL5 hs5 hG5 t5 hb6
        go_upto_region 25 with fail
        rw [HW6.out]
        refine dt_conj M N b 3 w3.heap.size 3 _ trL w w6 cj_tr t6 hO6 hL6 hs6 hG6 hlt (by omega) (by omega) (by omega) hM6 _ _ _ _ _ _ _ _ _ _ _ _ _ _ _ _ _ _ _ _ _ _ _ _ _ _ _ _ _ _ _ _ _ _ _ _ _ _ _ _ _ _ _ _ _ _ _ _ _ _ _ _ _ _ _ _ _ _ _ _ _ _ _ _ _ _ _ _ _ _ _ _ _ _ _ _ _ _ _ _ _ _ _ _ _ _ _ _ _ _ _ _ _ _ _ _ _ _ _ _ _ _ _ _ _ _ _ _ _ _ _ _ _ _ _ _ _ _ _ _ _ _ _ _ _ _ _ _ _ _ _ _ _ _ _ _ _ _ _ _ _ _ _ _ _ _ _ _ _ _ _ _ _ _ _ _ _ _ _ _ _ _ _ _ _ _ _ _ _ _ _ _ _ _ _ _ _ _ _ _ _ _ _ _ _ _ _ _ _ _ _ _ _ _ _ _ _ _ _ _ _ _ _ _ _ _ _ _ _ _ _ _ _ _ _ _ _ _ _ _ _ _ _ _ _ _ _ _ _ _ ?_ ?_
        · assumption
        · assumption
      · go_upto_region 25 with fail
        refine dt_conj M N b 6 w3.heap.size c3 a3 (prmL 3) w w5 cj_prm t5 hO5 hL5 hs5 hG5 hlt (by omega) (by omega) (by omega) hM6 _ _ _ _ _ _ _ _ _ _ _ _ _ _ _ _ _ _ _ _ _ _ _ _ _ _ _ _ _ _ _ _ _ _ _ _ _ _ _ _ _ _ _ _ _ _ _ _ _ _ _ _ _ _ _ _ _ _ _ _ _ _ _ _ _ _ _ _ _ _ _ _ _ _ _ _ _ _ _ _ _ _ _ _ _ _ _ _ _ _ _ _ _ _ _ _ _ _ _ _ _ _ _ _ _ _ _ _ _ _ _ _ _ _ _ _ _ _ _ _ _ _ _ _ _ _ _ _ _ _ _ _ _ _ _ _ _ _ _ _ _ _ _ _ _ _ _ _ _ _ _ _ _ _ _ _ _ _ _ _ _ _ _ _ _ _ _ _ _ _ _ _ _ _ _ _ _ _ _ _ _ _ _ _ _ _ _ _ _ _ _ _ _ _ _ _ _ _ _ _ _ _ _ _ _ _ _ _ _ _ _ _ _ _ _ _ _ _ _ _ _ _ _ _ _ _ _ _ _ _ ?_ ?_
        · assumption
        · assumption
    · have hM6i : ¬ (6 : Int) ≤ (M : Int) := by omega
      go_upto_region 39 with fail
      refine dt_tail M N b w w2 hs2 hG2 hlt hz2' hN1 hNM hM _ _ _ _ _ _ _ _ _ _ _ _ _ _ _ _ _ _ _ _ _ _ _ _ _ _ _ _ _ _ _ _ _ _ _ _ _ _ _ _ _ _ _ _ _ _ _ _ _ _ _ _ _ _ _ _ _ _ _ _ _ _ _ _ _ _ _ _ _ _ _ _ _ _ _ _ _ _ _ _ _ _ _ _ _ _ _ _ _ _ _ _ _ _ _ _ _ _ _ _ _ _ _ _ _ _ _ _ _ _ _ _ _ _ _ _ _ _ _ _ _ _ _ _ _ _ _ _ _ _ _ _ _ _ _ _ _ _ _ _ _ _ _ _ _ _ _ _ _ _ _ _ _ _ _ _ _ _ _ _ _ _ _ _ _ _ _ _ _ _ _ _ _ _ _ _ _ _ _ _ _ _ _ _ _ _ _ _ _ _ _ _ _ _ _ _ _ _ _ _ _ _ _ _ _ _ _ _ _ _ _ _ _ _ _ _ _ _ _ _ _ _ _ _ _ _ _ _ _ _ _ ?_
      assumption
  · skip
    go_upto_region 39 with fail
    refine dt_tail M N b w w2 hs2 hG2 hlt hz2' hN1 hNM hM _ _ _ _ _ _ _ _ _ _ _ _ _ _ _ _ _ _ _ _ _ _ _ _ _ _ _ _ _ _ _ _ _ _ _ _ _ _ _ _ _ _ _ _ _ _ _ _ _ _ _ _ _ _ _ _ _ _ _ _ _ _ _ _ _ _ _ _ _ _ _ _ _ _ _ _ _ _ _ _ _ _ _ _ _ _ _ _ _ _ _ _ _ _ _ _ _ _ _ _ _ _ _ _ _ _ _ _ _ _ _ _ _ _ _ _ _ _ _ _ _ _ _ _ _ _ _ _ _ _ _ _ _ _ _ _ _ _ _ _ _ _ _ _ _ _ _ _ _ _ _ _ _ _ _ _ _ _ _ _ _ _ _ _ _ _ _ _ _ _ _ _ _ _ _ _ _ _ _ _ _ _ _ _ _ _ _ _ _ _ _ _ _ _ _ _ _ _ _ _ _ _ _ _ _ _ _ _ _ _ _ _ _ _ _ _ _ _ _ _ _ _ _ _ _ _ _ _ _ _ _ ?_
    assumption
theorem OwnT.grownb {w w' : World} {lo b : Nat} {a : Option Addr} {n c : Nat} {vs : List SV} {t : List (List Int)} (h : OwnT w lo a n c vs t) (hg : w.grownBy w' (some b)) (hb : b < lo) : OwnT w' lo a n c vs t :=
  h.keep fun q hq hl => hg.block q hl (fun e => by have := h.uLo q hq; cases e; omega)
def RkD (b : Nat) (w : World) (N : Nat) (e : Ending) (w' : World) : Prop :=
  ∃ (n : Nat) (a : Option Addr) (c : Nat) (vs : List SV) (t : List (List Int)), 1 ≤ n ∧ n ≤ N ∧ e = .returned (rAgg a n c) ∧ OwnT w' w.heap.size a n c vs t ∧ Sq n t ∧ Src w' b ∧ w.grownBy w' (some b)
set_option maxHeartbeats 8000000 in
theorem l03Draw_ok (M b : Nat) (w : World) (h : Src w b) (h1 : 1 ≤ M) (hM : M ≤ 12) :
    Calls Tryz.prog 103 #[.pointer (some ⟨b, 0, none⟩), .int .i64 M] w (RkD b w M) := by
  have hlt := h.lt
  have hR := Loc.new w rfl #[.slice none 0 0] 34
  go_enter Tryz.func103, Tryz.ntmps103
  go_wp2_with fail
  refine (l03DrawTable_ok M b _ (h.below (below_al (Below.refl _ _) _)) h1 hM).mono ?_
  rintro e w1 ⟨n, a1, c1, vs1, t, n1, nM, rfl, ho1, sq, hs1, hg1⟩
  have hR1 := hR.grown hg1 (by simp; omega)
  have hG1 := grown_trans (World.grownBy_alloc w (.cells #[.slice none 0 0] 34) (some b)) hg1
  have hz1 := hR1.lt
  have SQ := Lib.hid sq
  have ho1 := ho1.mono (lo' := w.heap.size + 1) (by simp)
  clear sq hg1 hR
  go_wp2_with fail
  refine (l01Next_ok b 2 _ hs1 ⟨by omega, by omega⟩).mono ?_
  rintro e w2 ⟨x, rfl, _, hx, hs2, hg2⟩
  obtain ⟨hx1, hx2⟩ := hx (by omega)
  have hR2 := hR1.grown hg2 (by simp; omega)
  have hG2 := grown_trans hG1 hg2
  have ho2 := ho1.grownb hg2 (by omega)
  have hz2 := hR2.lt
  clear hx hR1 hG1 ho1 hs1 hg2
  have hx3 : x = 0 ∨ x = 1 := by omega
  clear hx1 hx2
  rcases hx3 with rfl | rfl
  · go_wp2_with fail
    refine (l03DrawPerm_ok b n _ hs2 (by omega)).mono ?_
    rintro e w3 ⟨a3, c3, p, rfl, hp, ho3, hs3, hg3⟩
    have hR3 := hR2.grown hg3 (by simp; omega)
    have hG3 := grown_trans hG2 hg3
    have ho23 := ho2.grownb hg3 (by omega)
    have HP := Lib.hid hp
    have hz3 := hR3.lt
    clear hp hR2 hG2 ho2 hs2 hg3
    go_wp2_with fail
    refine (l03Image_any n _ _ _ _ t p _ ho23.tbl ho3.row SQ.out HP.out n1 (by omega)).mono ?_
    rintro e w4 ⟨a4, c4, vs4, rfl, ho4, hb4⟩
    have hR4 := hR3.below hb4 hz3
    have hG4 := grown_trans hG3 (grown_of_below hb4 (some b))
    have hs4 := hs3.below hb4
    have lR := hR4.one
    go_wp2
    refine bodyPost_ret (v := rAgg a4 n c4) (by simp [results, Tryz.results103, go_sem, lR]) rfl ⟨n, a4, c4, vs4, _, n1, nM, rfl, ?_, rnL_sq HP.out SQ.out, ?_, ?_⟩
    · exact (ho4.setlo (p := ⟨w.heap.size, 0, none⟩) hz3 _).mono (by omega)
    · exact hs4.setne (p := ⟨w.heap.size, 0, none⟩) hlt _
    · exact grown_set hG4 (.inr (Nat.le_refl _)) _
  · have lR := hR2.one
    go_wp2
    refine bodyPost_ret (v := rAgg a1 n c1) (by simp [results, Tryz.results103, go_sem, lR]) rfl ⟨n, a1, c1, vs1, _, n1, nM, rfl, ?_, SQ.out, ?_, ?_⟩
    · exact (ho2.setlo (p := ⟨w.heap.size, 0, none⟩) (by show w.heap.size < w.heap.size + 1; omega) _).mono (by omega)
    · exact hs2.setne (p := ⟨w.heap.size, 0, none⟩) hlt _
    · exact grown_set hG2 (.inr (Nat.le_refl _)) _
end Go.Proofs.YtaddclaadbjnlaaGreat
namespace Go.Proofs.YtaddclaadbjnlaaGreat
set_option maxRecDepth 100000
set_option linter.unusedVariables false
set_option linter.unusedSimpArgs false
theorem permOk_isP {n : Nat} {p : List Int} (hl : p.length = n) (h : permOk p = true) : IsP n p := by
  obtain ⟨h1, h2⟩ := permOk_to h
  rw [hl] at h1 h2
  have hs : ∀ x, x < n → ∃ k, k < n ∧ p.getD k 0 = (x : Int) := fun x hx => by
    unfold permOk at h
    have := allN_get h (k := x) (by omega)
    rw [List.contains_iff_mem] at this
    obtain ⟨k, hk, e⟩ := List.getElem_of_mem this
    exact ⟨k, by omega, by rw [getD_at hk, e]⟩
  have hg : ∀ x, ∃ k, x < n → k < n ∧ p.getD k 0 = (x : Int) := fun x => by
    by_cases hx : x < n
    · obtain ⟨k, hk⟩ := hs x hx; exact ⟨k, fun _ => hk⟩
    · exact ⟨0, fun h => absurd h hx⟩
  obtain ⟨g, hg⟩ := Classical.axiomOfChoice hg
  refine ⟨fun i => (p.getD i 0).toNat, g, hl, fun i hi => ⟨?_, (hg i hi).1, ?_, ?_⟩, fun i hi => ?_⟩
  · have := h1 i hi
    show (p.getD i 0).toNat < n
    omega
  · show (p.getD (g i) 0).toNat = i
    rw [(hg i hi).2, Int.toNat_natCast]
  · have hr := h1 i hi
    have hx : (p.getD i 0).toNat < n := by omega
    refine h2 _ _ (hg _ hx).1 hi ?_
    rw [(hg _ hx).2]; omega
  · have := h1 i hi
    show p.getD i 0 = (((p.getD i 0).toNat : Nat) : Int)
    omega
end Go.Proofs.YtaddclaadbjnlaaGreat
namespace Go.Proofs.YtaddclaadbjnlaaGreat
set_option maxRecDepth 100000
set_option linter.unusedVariables false
set_option linter.unusedSimpArgs false
open Go.RowKit
theorem tab_ext {xs ys : List (List Int)} (hl : xs.length = ys.length) (h : ∀ j, j < xs.length → xs.getD j [] = ys.getD j []) : xs = ys := by
  apply List.ext_getElem hl
  intro i h1 h2
  have := h i h1
  simpa [List.getD_eq_getElem?_getD, List.getElem?_eq_getElem h1, List.getElem?_eq_getElem h2] using this
set_option maxHeartbeats 4000000 in
theorem l01Same2_any (a1 a2 : Option Addr) (n1 n2 c1 c2 : Nat) (xs ys : List (List Int)) (w : World) (h1 : Tbl w a1 n1 xs) (h2 : Tbl w a2 n2 ys) (hm : n1 ≤ 9223372036854775807) :
    Calls Tryz.prog 60 #[.slice a1 n1 c1, .slice a2 n2 c2] w fun e w' => e = .returned (.bool (decide (xs = ys))) ∧ ∃ m, w' = w.drewN m := by
  have HL1 := Lib.hid h1.len
  have HL2 := Lib.hid h2.len
  by_cases hl : n1 = n2
  · subst hl
    have hb : ((n1 : Int) != (n1 : Int)) = false := by simp
    go_enter Tryz.func60, Tryz.ntmps60
    go_wp2
    clear hb
    go_loopw [5] (fun i wr => ∃ k : Nat, k ≤ n1 ∧ i = .int .i64 k ∧ Hid (∀ j, j < k → xs.getD j [] = ys.getD j []) ∧ Hid (∃ n, wr = w.drewN n)) (fun i _ => n1 - (intOf i).toNat)
    case atStart => exact ⟨0, Nat.zero_le _, rfl, Lib.hid fun j hj => absurd hj (by omega), Lib.hid ⟨0, rfl⟩⟩
    case round =>
      obtain ⟨k, hk, rfl, HT, HW⟩ := hrel
      have h1r : Tbl wr a1 n1 xs := by obtain ⟨m, hm⟩ := HW.out; rw [hm]; exact h1.drewN m
      have h2r : Tbl wr a2 n1 ys := by obtain ⟨m, hm⟩ := HW.out; rw [hm]; exact h2.drewN m
      by_cases hlt : k < n1
      · obtain ⟨b3, o3, a3, n3, c3, rfl, g3, r3, l3⟩ := h1r.at k hlt
        obtain ⟨b4, o4, a4, n4, c4, rfl, g4, r4, l4⟩ := h2r.at k hlt
        obtain ⟨X, HX⟩ : ∃ X, Hid (xs.getD k [] = X) := ⟨_, rfl⟩
        obtain ⟨Y, HY⟩ : ∃ Y, Hid (ys.getD k [] = Y) := ⟨_, rfl⟩
        rw [HX.out] at r3
        rw [HY.out] at r4
        have j1 : (0 : Int) ≤ (k : Int) := by omega
        have j2 : (k : Int) < (n1 : Int) := by omega
        clear h1r h2r
        obtain ⟨D, HD⟩ : ∃ D, Hid (decide (X = Y) = D) := ⟨_, rfl⟩
        have HSA : Hid (∀ m, Calls Tryz.prog 110 #[.slice a3 n3 c3, .slice a4 n4 c4] (wr.drewN m) fun e w'' => e = .returned (.bool D) ∧ ∃ k, w'' = wr.drewN k) := Lib.hid fun m => (l01Same_any a3 a4 n3 n4 c3 c4 X Y (wr.drewN m) (r3.drewN m) (r4.drewN m) l3).mono fun e w'' ⟨he, k, hk⟩ => ⟨by rw [he, HD.out], m + k, by rw [hk, World.drewN_drewN]⟩
        cases D with
        | true =>
          go_wp2
          go_quiet ((go_at_call 110; exact HSA.out _))
          go_wp2
          go_roundw
          case rel => exact ⟨k + 1, by omega, by go_num, Lib.hid fun j hj => by
            by_cases e : j = k
            · subst e; rw [HX.out, HY.out]; exact of_decide_eq_true HD.out
            · exact HT.out j (by omega), Lib.hid (by obtain ⟨m, hm⟩ := HW.out; exact ⟨m + nq, by rw [hm, World.drewN_drewN]⟩)⟩
          case measure => simp [intOf]; omega
        | false =>
          go_wp2
          go_quiet ((go_at_call 110; exact HSA.out _))
          go_wp2
          go_ret
          exact ⟨ret_bool (by
            symm; rw [decide_eq_false_iff_not]; rintro rfl
            have := of_decide_eq_false HD.out
            exact this (by rw [← HX.out, ← HY.out])), by obtain ⟨m, hm⟩ := HW.out; exact ⟨m + nq, by rw [hm, World.drewN_drewN]⟩⟩
      · obtain rfl : n1 = k := by omega
        have HE : Hid (xs = ys) := Lib.hid (tab_ext (by have := HL1.out; have := HL2.out; omega) fun j hj => HT.out j (by have := HL1.out; omega))
        go_wp2
        go_ret
        exact ⟨ret_bool (by rw [HE.out]; simp), HW.out⟩
  · have hb : ((n1 : Int) != (n2 : Int)) = true := by simp; omega
    have hne : ¬ xs = ys := by rintro rfl; have := HL1.out; have := HL2.out; omega
    go_enter Tryz.func60, Tryz.ntmps60
    go_wp2
    go_ret
    exact ⟨ret_bool (by simp [hne]), 0, rfl⟩
end Go.Proofs.YtaddclaadbjnlaaGreat
