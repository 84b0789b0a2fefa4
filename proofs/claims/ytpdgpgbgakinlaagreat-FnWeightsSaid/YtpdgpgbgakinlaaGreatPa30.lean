/-
  Walks and plain laws of this seat, some texts in one.
  No condition but bounds on lengths.
-/
import Derived.Test.YtpdgpgbgakinlaaGreatPa29
import Derived.Deep.DeepCutAuto
import Derived.Test.YtpdgpgbgakinlaaGreatPa16
import Derived.Test.YtpdgpgbgakinlaaGreatPa9
import Derived.Test.YtpdgpgbgakinlaaGreatPa8
import Derived.Test.YtpdgpgbgakinlaaGreatPa5
import Derived.Test.YtpdgpgbgakinlaaGreatPa3
import Derived.Test.YtpdgpgbgakinlaaGreatPa4
import Derived.Test.YtpdgpgbgakinlaaGreatPa7
namespace Go.Proofs.YtpdgpgbgakinlaaGreat
set_option linter.unusedVariables false
set_option linter.unusedSimpArgs false
set_option maxRecDepth 100000
open Go.RowKit
set_option maxHeartbeats 32000000 in
theorem l03DrawTable_ok (M b : Nat) (w : World) (h : Src w b) (h1 : 1 ≤ M) (hM : M ≤ 12) :
    Calls Tryz.prog 122 #[.pointer (some ⟨b, 0, none⟩), .int .i64 M] w (SqD b w M) := by
  have hlt := h.lt
  go_enter Tryz.func122, Tryz.ntmps122
  go_wp2_with fail
  refine (l01Next_ok b (M : Int) _ h ⟨by omega, by omega⟩).mono ?_
  rintro e w1 ⟨y, rfl, _, hy, hs1, hg1⟩
  obtain ⟨hy1, hy2⟩ := hy (by omega)
  obtain ⟨y0, rfl⟩ : ∃ k : Nat, y = k := ⟨y.toNat, by omega⟩
  obtain ⟨N, hN⟩ : ∃ N, N = y0 + 1 := ⟨_, rfl⟩
  have e1 : (1 : Int) + (y0 : Int) = (N : Int) := by omega
  have hN1 : 1 ≤ N := by omega
  have hNM : N ≤ M := by omega
  clear hy hy1 hy2 hN
  go_wp2_with fail
  refine (l01Next_ok b 5 _ hs1 ⟨by omega, by omega⟩).mono ?_
  rintro e w2 ⟨x, rfl, _, hx, hs2, hg2⟩
  obtain ⟨hx1, hx2⟩ := hx (by omega)
  have hG2 := grown_trans hg1 hg2
  have hz2' : w.heap.size ≤ w2.heap.size := hG2.size
  clear hx hs1 hg1 hg2 e1
  have hx5 : x = 0 ∨ x = 1 ∨ x = 2 ∨ x = 3 ∨ x = 4 := by omega
  clear hx1 hx2
  rcases hx5 with rfl | rfl | rfl | rfl | rfl
  · go_wp2_with fail
    refine (l03DrawPerm_ok b N _ hs2 (by omega)).mono ?_
    rintro e w3 ⟨a3, c3, p, rfl, hp, ho3, hs3, hg3⟩
    have hG3 := grown_trans hG2 hg3
    have HSQ := Lib.hid (rep_sq hp)
    have hz3 := hg3.size
    obtain ⟨w4, hw4⟩ : ∃ w4, w3.alloc (.cells #[] 27) = w4 := ⟨_, rfl⟩
    have hO4 : OwnT w4 w3.heap.size (some ⟨w3.heap.size, 0, none⟩) 0 0 [] [] := by rw [← hw4]; exact OwnT.fresh w3 rfl
    have hb4 : Below w3.heap.size w3 w4 := by rw [← hw4]; exact below_al (Below.refl _ _) _
    have HW4 := Lib.hid hw4
    clear hw4 hp
    go_wp2
    try rw [HW4.out]
    go_loopw [7, 8] (fun z i wr => ∃ (k : Nat) (az : Option Addr) (cz : Nat) (vz : List SV), k ≤ N ∧ i = .int .i64 k ∧ z = .slice az k cz ∧ OwnT wr w3.heap.size az k cz vz ((repT N p).take k) ∧ Below w3.heap.size w3 wr) (fun _ i _ => N - (intOf i).toNat)
    case atStart => exact ⟨0, _, 0, _, Nat.zero_le _, rfl, rfl, by simpa using hO4, hb4⟩
    case round =>
      clear hO4 hb4
      obtain ⟨k, az, cz, vz, hk, rfl, rfl, ho, hb⟩ := hrel
      by_cases hlt2 : k < N
      · have HRS := Lib.hid (repT_succ p hlt2)
        have hbb := hb.size
        go_wp2_with fail
        refine (l01Own_any _ N c3 p _ (ho3.row.below hb) (by omega)).mono ?_
        rintro e w5 ⟨a5, c5, rfl, ho5, hb5⟩
        have hz5 := ho.below hb5
        have hs5 := hb5.size
        go_wp2_with (at_builtin; refine appT1 rfl rfl hz5 rfl (ho5.mono hbb) (fun g h1 h2 => by have h3 := ho.high _ h1; have h4 := ho5.lo _ h2; omega) (fun i hi g h1 h2 => by have h3 := ho5.lo _ h1; have h4 := (ho.row i hi).hi _ h2; omega) rfl (by omega) (by omega) ?_; intro g' cc w6 hO hb6)
        go_roundw
        case rel => exact ⟨k + 1, _, _, _, by omega, by go_num, rfl, by rw [HRS.out]; exact hO, (hb.trans (hb5.mono hbb)).trans hb6⟩
        case measure => simp [intOf]; omega
      · obtain rfl : k = N := by omega
        rw [List.take_of_length_le (by simp [repT])] at ho
        go_wp2
        go_ret
        exact ⟨_, _, _, vz, _, hN1, hNM, rfl, ho.mono (by omega), HSQ.out, hs3.below hb, grown_trans hG3 (grown_of_below hb _)⟩
  · obtain ⟨K, hK⟩ : ∃ K, K = N - 1 := ⟨_, rfl⟩
    obtain ⟨L, hL⟩ : ∃ L, 2 % N = L := ⟨_, rfl⟩
    have d1 : (N : Int) - 1 = (K : Int) := by omega
    have d2 : Int.tmod 2 (N : Int) = (L : Int) := by rw [← hL]; rfl
    have hLb : L ≤ 2 := by rw [← hL]; exact Nat.mod_le _ _
    have hKb : K ≤ 12 := by omega
    have hz1 : ¬ (N : Int) = 0 := by omega
    have hz2 : ((N : Int) == 0) = false := by simpa using hz1
    have hz3 : ¬ N = 0 := by omega
    clear hK hL
    go_wp2_with fail
    refine (l03Alexander_any N K L _ hN1 (by omega) (by omega) (by omega)).mono ?_
    rintro e w3 ⟨a3, c3, vs3, t3, rfl, ho3, sq3, hb3⟩
    have SQ3 := Lib.hid sq3
    clear sq3
    go_wp2
    go_ret
    exact ⟨N, _, _, vs3, t3, hN1, hNM, rfl, ho3.mono hz2', SQ3.out, hs2.below hb3, grown_trans hG2 (grown_of_below hb3 _)⟩
  -- printed by genDt.py from here on
  · go_wp2
    go_loopw [9, 10] (fun i _ wr => ∃ q : Nat, q ≤ 6 ∧ i = .int .i64 q ∧ Src wr b ∧ w.grownBy wr (some b)) (fun i _ _ => 6 - (intOf i).toNat)
    case atStart => exact ⟨0, by omega, rfl, hs2, hG2⟩
    case round =>
      clear hs2 hG2 hz2'
      obtain ⟨q, hq, rfl, hsr, hGr⟩ := hrel
      have hzr : w.heap.size ≤ wr.heap.size := hGr.size
      by_cases hlt6 : q < 6
      · have q6 : (q : Int) < 6 := by omega
        go_wp2_with fail
        refine (l01Next_ok b (N : Int) _ hsr ⟨by omega, by omega⟩).mono ?_
        rintro e wa ⟨aa, rfl, _, haa, hsa, hga⟩
        obtain ⟨ha1, ha2⟩ := haa (by omega)
        obtain ⟨av, rfl⟩ : ∃ z : Nat, aa = z := ⟨aa.toNat, by omega⟩
        have haN : av < N := by omega
        have hGa := grown_trans hGr hga
        clear haa ha1 ha2 hga hsr hGr hzr
        go_wp2_with fail
        refine (l03Coprime_any av N _ (by omega) (by omega)).mono ?_
        rintro e wx ⟨⟨qb, rfl⟩, hwx⟩
        subst hwx
        cases qb
        · go_wp2
          go_roundw
          case rel => exact ⟨q + 1, by omega, by go_num, hsa, hGa⟩
          case measure => simp [intOf]; omega
        · obtain ⟨E, hE⟩ : ∃ E, E = N + 1 - av := ⟨_, rfl⟩
          obtain ⟨L, hL⟩ : ∃ L, E % N = L := ⟨_, rfl⟩
          have d1 : (1 : Int) - (av : Int) + (N : Int) = (E : Int) := by omega
          have d2 : Int.tmod (E : Int) (N : Int) = (L : Int) := by rw [← hL]; rfl
          have hLb : L < N := by rw [← hL]; exact Nat.mod_lt _ hN1
          have hz1 : ¬ (N : Int) = 0 := by omega
          have hz2 : ((N : Int) == 0) = false := by simpa using hz1
          have hz3 : ¬ N = 0 := by omega
          have hEb : E ≤ 13 := by omega
          clear hE hL
          go_wp2_with fail
          refine (l03Alexander_any N av L _ hN1 (by omega) (by omega) (by omega)).mono ?_
          rintro e w3 ⟨a3, c3, vs3, t3, rfl, ho3, sq3, hb3⟩
          have SQ3 := Lib.hid sq3
          have hzx := hGa.size
          clear sq3
          go_wp2
          go_ret
          exact ⟨N, _, _, vs3, t3, hN1, hNM, rfl, ho3.mono hzx, SQ3.out, hsa.below hb3, grown_trans hGa (grown_of_below hb3 _)⟩
      · obtain rfl : q = 6 := by omega
        clear hq
        go_upto_region 39 with fail
        refine dt_tail M N b w wr hsr hGr hlt hzr hN1 hNM hM _ _ _ _ _ _ _ _ _ _ _ _ _ _ _ _ _ _ _ _ _ _ _ _ _ _ _ _ _ _ _ _ _ _ _ _ _ _ _ _ _ _ _ _ _ _ _ _ _ _ _ _ _ _ _ _ _ _ _ _ _ _ _ _ _ _ _ _ _ _ _ _ _ _ _ _ _ _ _ _ _ _ _ _ _ _ _ _ _ _ _ _ _ _ _ _ _ _ _ _ _ _ _ _ _ _ _ _ _ _ _ _ _ _ _ _ _ _ _ _ _ _ _ _ _ _ _ _ _ _ _ _ _ _ _ _ _ _ _ _ _ _ _ _ _ _ _ _ _ _ _ _ _ _ _ _ _ _ _ _ _ _ _ _ _ _ _ _ _ _ _ _ _ _ _ _ _ _ _ _ _ _ _ _ _ _ _ _ _ _ _ _ _ _ _ _ _ _ _ _ _ _ _ _ _ _ _ _ _ _ _ _ _ _ _ _ _ _ _ _ _ _ _ _ _ _ _ _ _ _ _ ?_
        assumption
  · by_cases hM6 : 6 ≤ M
    · have hM6i : (6 : Int) ≤ (M : Int) := by omega
      go_wp2_with fail
      refine (l01Perms_any 3 _ (by omega)).mono ?_
      rintro e w3 ⟨a3, n3, c3, vs3, rfl, ho3, hb3⟩
      obtain rfl : n3 = 6 := ho3.len.trans cj_prm.len
      have hs3 := hs2.below hb3
      have hG3 := grown_trans hG2 (grown_of_below hb3 (some b))
      have hz3 := hb3.size
      have hb2 := hs2.lt
      obtain ⟨w4, hw4⟩ : ∃ w4, w3.alloc (.cells #[] 27) = w4 := ⟨_, rfl⟩
      have hO4 : OwnT w4 w3.heap.size (some ⟨w3.heap.size, 0, none⟩) 0 0 [] [] := by rw [← hw4]; exact OwnT.fresh w3 rfl
      have hL4 : Loc w4 w3.heap.size #[] 27 := by rw [← hw4]; exact Loc.new _ rfl _ _
      have hb4 : Below w3.heap.size w3 w4 := by rw [← hw4]; exact below_al (Below.refl _ _) _
      have HW4 := Lib.hid hw4
      clear hw4
      have hs4 := hs3.below hb4
      have hG4 := grown_trans hG3 (grown_of_below hb4 (some b))
      have ho4 := ho3.below hb4
      clear ho3 hs3 hG3 hb3 hb4
      go_wp2_with fail
      try rw [HW4.out]
      refine (l01Next_ok b 2 _ hs4 ⟨by omega, by omega⟩).mono ?_
      rintro e w5 ⟨qq, rfl, _, hqq, hs5, hg5⟩
      obtain ⟨hq1, hq2⟩ := hqq (by omega)
      have hO5 : OwnT w5 w3.heap.size (some ⟨w3.heap.size, 0, none⟩) 0 0 [] [] := hO4.keep fun g hg hl => hg5.block g hl (fun e => by have := hO4.uLo g hg; cases e; omega)
      have hL5 : Loc w5 w3.heap.size #[] 27 := hL4.grown hg5 (by simp; omega)
      have t5 : Tbl w5 a3 6 (prmL 3) := (ho4.keep fun g hg hl => hg5.block g hl (fun e => by have := ho4.uLo g hg; cases e; omega)).tbl
      have hG5 := grown_trans hG4 hg5
      clear hqq hO4 hL4 ho4 hs4 hG4 hg5 hs2 hG2
      have hq : qq = 0 ∨ qq = 1 := by omega
      clear hq1 hq2
      rcases hq with rfl | rfl
      · obtain ⟨w6, hw6⟩ : ∃ w6, (((w5.alloc (.cells #[.int .i64 0, .int .i64 2, .int .i64 1] 2)).alloc (.cells #[.int .i64 1, .int .i64 0, .int .i64 2] 2)).alloc (.cells #[.int .i64 2, .int .i64 1, .int .i64 0] 2)).alloc (.cells #[.slice (some ⟨w5.heap.size, 0, none⟩) 3 3, .slice (some ⟨w5.heap.size + 1, 0, none⟩) 3 3, .slice (some ⟨w5.heap.size + 1 + 1, 0, none⟩) 3 3] 27) = w6 := ⟨_, rfl⟩
        have t6 : Tbl w6 (some ⟨w5.heap.size + 1 + 1 + 1, 0, none⟩) 3 trL := by rw [← hw6]; exact litT w5 _ _
        have hb6 : Below w5.heap.size w5 w6 := by rw [← hw6]; exact below_al (below_al (below_al (below_al (Below.refl _ _) _) _) _) _
        have hO6 := hO5.below hb6
        have hL6 := hL5.below hb6 hL5.lt
        have hs6 := hs5.below hb6
        have hG6 := grown_trans hG5 (grown_of_below hb6 (some b))
        have HW6 := Lib.hid hw6
        clear hw6 hO5 hL5 hs5 hG5 t5 hb6
        go_upto_region 25 with fail
        rw [HW6.out]
        refine dt_conj M N b 3 w3.heap.size 3 _ trL w w6 cj_tr t6 hO6 hL6 hs6 hG6 hlt (by omega) (by omega) (by omega) hM6 _ _ _ _ _ _ _ _ _ _ _ _ _ _ _ _ _ _ _ _ _ _ _ _ _ _ _ _ _ _ _ _ _ _ _ _ _ _ _ _ _ _ _ _ _ _ _ _ _ _ _ _ _ _ _ _ _ _ _ _ _ _ _ _ _ _ _ _ _ _ _ _ _ _ _ _ _ _ _ _ _ _ _ _ _ _ _ _ _ _ _ _ _ _ _ _ _ _ _ _ _ _ _ _ _ _ _ _ _ _ _ _ _ _ _ _ _ _ _ _ _ _ _ _ _ _ _ _ _ _ _ _ _ _ _ _ _ _ _ _ _ _ _ _ _ _ _ _ _ _ _ _ _ _ _ _ _ _ _ _ _ _ _ _ _ _ _ _ _ _ _ _ _ _ _ _ _ _ _ _ _ _ _ _ _ _ _ _ _ _ _ _ _ _ _ _ _ _ _ _ _ _ _ _ _ _ _ _ _ _ _ _ _ _ _ _ _ _ _ _ _ _ _ _ _ _ _ _ _ _ ?_ ?_
        · assumption
        · assumption
      · go_upto_region 25 with fail
        refine dt_conj M N b 6 w3.heap.size c3 a3 (prmL 3) w w5 cj_prm t5 hO5 hL5 hs5 hG5 hlt (by omega) (by omega) (by omega) hM6 _ _ _ _ _ _ _ _ _ _ _ _ _ _ _ _ _ _ _ _ _ _ _ _ _ _ _ _ _ _ _ _ _ _ _ _ _ _ _ _ _ _ _ _ _ _ _ _ _ _ _ _ _ _ _ _ _ _ _ _ _ _ _ _ _ _ _ _ _ _ _ _ _ _ _ _ _ _ _ _ _ _ _ _ _ _ _ _ _ _ _ _ _ _ _ _ _ _ _ _ _ _ _ _ _ _ _ _ _ _ _ _ _ _ _ _ _ _ _ _ _ _ _ _ _ _ _ _ _ _ _ _ _ _ _ _ _ _ _ _ _ _ _ _ _ _ _ _ _ _ _ _ _ _ _ _ _ _ _ _ _ _ _ _ _ _ _ _ _ _ _ _ _ _ _ _ _ _ _ _ _ _ _ _ _ _ _ _ _ _ _ _ _ _ _ _ _ _ _ _ _ _ _ _ _ _ _ _ _ _ _ _ _ _ _ _ _ _ _ _ _ _ _ _ _ _ _ _ _ _ ?_ ?_
        · assumption
        · assumption
    · have hM6i : ¬ (6 : Int) ≤ (M : Int) := by omega
      go_upto_region 39 with fail
      refine dt_tail M N b w w2 hs2 hG2 hlt hz2' hN1 hNM hM _ _ _ _ _ _ _ _ _ _ _ _ _ _ _ _ _ _ _ _ _ _ _ _ _ _ _ _ _ _ _ _ _ _ _ _ _ _ _ _ _ _ _ _ _ _ _ _ _ _ _ _ _ _ _ _ _ _ _ _ _ _ _ _ _ _ _ _ _ _ _ _ _ _ _ _ _ _ _ _ _ _ _ _ _ _ _ _ _ _ _ _ _ _ _ _ _ _ _ _ _ _ _ _ _ _ _ _ _ _ _ _ _ _ _ _ _ _ _ _ _ _ _ _ _ _ _ _ _ _ _ _ _ _ _ _ _ _ _ _ _ _ _ _ _ _ _ _ _ _ _ _ _ _ _ _ _ _ _ _ _ _ _ _ _ _ _ _ _ _ _ _ _ _ _ _ _ _ _ _ _ _ _ _ _ _ _ _ _ _ _ _ _ _ _ _ _ _ _ _ _ _ _ _ _ _ _ _ _ _ _ _ _ _ _ _ _ _ _ _ _ _ _ _ _ _ _ _ _ _ _ ?_
      assumption
  · skip
    go_upto_region 39 with fail
    refine dt_tail M N b w w2 hs2 hG2 hlt hz2' hN1 hNM hM _ _ _ _ _ _ _ _ _ _ _ _ _ _ _ _ _ _ _ _ _ _ _ _ _ _ _ _ _ _ _ _ _ _ _ _ _ _ _ _ _ _ _ _ _ _ _ _ _ _ _ _ _ _ _ _ _ _ _ _ _ _ _ _ _ _ _ _ _ _ _ _ _ _ _ _ _ _ _ _ _ _ _ _ _ _ _ _ _ _ _ _ _ _ _ _ _ _ _ _ _ _ _ _ _ _ _ _ _ _ _ _ _ _ _ _ _ _ _ _ _ _ _ _ _ _ _ _ _ _ _ _ _ _ _ _ _ _ _ _ _ _ _ _ _ _ _ _ _ _ _ _ _ _ _ _ _ _ _ _ _ _ _ _ _ _ _ _ _ _ _ _ _ _ _ _ _ _ _ _ _ _ _ _ _ _ _ _ _ _ _ _ _ _ _ _ _ _ _ _ _ _ _ _ _ _ _ _ _ _ _ _ _ _ _ _ _ _ _ _ _ _ _ _ _ _ _ _ _ _ _ ?_
    assumption
end Go.Proofs.YtpdgpgbgakinlaaGreat

namespace Go.Proofs.YtpdgpgbgakinlaaGreat
set_option linter.unusedVariables false
set_option linter.unusedSimpArgs false
set_option maxRecDepth 100000
open Go.RowKit
theorem OwnT.grownb {w w' : World} {lo b : Nat} {a : Option Addr} {n c : Nat} {vs : List SV} {t : List (List Int)} (h : OwnT w lo a n c vs t) (hg : w.grownBy w' (some b)) (hb : b < lo) : OwnT w' lo a n c vs t :=
  h.keep fun q hq hl => hg.block q hl (fun e => by have := h.uLo q hq; cases e; omega)
def RkD (b : Nat) (w : World) (N : Nat) (e : Ending) (w' : World) : Prop :=
  ∃ (n : Nat) (a : Option Addr) (c : Nat) (vs : List SV) (t : List (List Int)), 1 ≤ n ∧ n ≤ N ∧ e = .returned (rAgg a n c) ∧ OwnT w' w.heap.size a n c vs t ∧ Sq n t ∧ Src w' b ∧ w.grownBy w' (some b)
set_option maxHeartbeats 8000000 in
theorem l03Draw_ok (M b : Nat) (w : World) (h : Src w b) (h1 : 1 ≤ M) (hM : M ≤ 12) :
    Calls Tryz.prog 77 #[.pointer (some ⟨b, 0, none⟩), .int .i64 M] w (RkD b w M) := by
  have hlt := h.lt
  have hR := Loc.new w rfl #[.slice none 0 0] 45
  go_enter Tryz.func77, Tryz.ntmps77
  go_wp2_with fail
  refine (l03DrawTable_ok M b _ (h.below (below_al (Below.refl _ _) _)) h1 hM).mono ?_
  rintro e w1 ⟨n, a1, c1, vs1, t, n1, nM, rfl, ho1, sq, hs1, hg1⟩
  have hR1 := hR.grown hg1 (by simp; omega)
  have hG1 := grown_trans (World.grownBy_alloc w (.cells #[.slice none 0 0] 45) (some b)) hg1
  have hz1 := hR1.lt
  have SQ := Lib.hid sq
  have ho1 := ho1.mono (lo' := w.heap.size + 1) (by simp)
  clear sq hg1 hR
  go_wp2_with fail
  refine (l01Next_ok b 2 _ hs1 ⟨by omega, by omega⟩).mono ?_
  rintro e w2 ⟨x, rfl, _, hx, hs2, hg2⟩
  obtain ⟨hx1, hx2⟩ := hx (by omega)
  have hR2 := hR1.grown hg2 (by simp; omega)
  have hG2 := grown_trans hG1 hg2
  have ho2 := ho1.grownb hg2 (by omega)
  have hz2 := hR2.lt
  clear hx hR1 hG1 ho1 hs1 hg2
  have hx3 : x = 0 ∨ x = 1 := by omega
  clear hx1 hx2
  rcases hx3 with rfl | rfl
  · go_wp2_with fail
    refine (l03DrawPerm_ok b n _ hs2 (by omega)).mono ?_
    rintro e w3 ⟨a3, c3, p, rfl, hp, ho3, hs3, hg3⟩
    have hR3 := hR2.grown hg3 (by simp; omega)
    have hG3 := grown_trans hG2 hg3
    have ho23 := ho2.grownb hg3 (by omega)
    have HP := Lib.hid hp
    have hz3 := hR3.lt
    clear hp hR2 hG2 ho2 hs2 hg3
    go_wp2_with fail
    refine (l03Image_any n _ _ _ _ t p _ ho23.tbl ho3.row SQ.out HP.out n1 (by omega)).mono ?_
    rintro e w4 ⟨a4, c4, vs4, rfl, ho4, hb4⟩
    have hR4 := hR3.below hb4 hz3
    have hG4 := grown_trans hG3 (grown_of_below hb4 (some b))
    have hs4 := hs3.below hb4
    have lR := hR4.one
    go_wp2
    refine bodyPost_ret (v := rAgg a4 n c4) (by simp [results, Tryz.results77, go_sem, lR]) rfl ⟨n, a4, c4, vs4, _, n1, nM, rfl, ?_, rnL_sq HP.out SQ.out, ?_, ?_⟩
    · exact (ho4.setlo (p := ⟨w.heap.size, 0, none⟩) hz3 _).mono (by omega)
    · exact hs4.setne (p := ⟨w.heap.size, 0, none⟩) hlt _
    · exact grown_set hG4 (.inr (Nat.le_refl _)) _
  · have lR := hR2.one
    go_wp2
    refine bodyPost_ret (v := rAgg a1 n c1) (by simp [results, Tryz.results77, go_sem, lR]) rfl ⟨n, a1, c1, vs1, _, n1, nM, rfl, ?_, SQ.out, ?_, ?_⟩
    · exact (ho2.setlo (p := ⟨w.heap.size, 0, none⟩) (by show w.heap.size < w.heap.size + 1; omega) _).mono (by omega)
    · exact hs2.setne (p := ⟨w.heap.size, 0, none⟩) hlt _
    · exact grown_set hG2 (.inr (Nat.le_refl _)) _
end Go.Proofs.YtpdgpgbgakinlaaGreat

namespace Go.Proofs.YtpdgpgbgakinlaaGreat
set_option maxRecDepth 100000
set_option linter.unusedVariables false
set_option linter.unusedSimpArgs false
open Go.RowKit
theorem knk_succ {n : Nat} {t : List (List Int)} {k : Nat} (h : k < n) : (knkL n t).take (k + 1) = (knkL n t).take k ++ [((tv t k k : Nat) : Int)] := by
  have hl : k < (knkL n t).length := by simpa [knkL] using h
  rw [List.take_succ_eq_append_getElem hl]
  simp [knkL]
set_option maxHeartbeats 4000000 in
theorem l03Kink_any (a : Option Addr) (n c : Nat) (t : List (List Int)) (w : World) (h : Tbl w a n t) (hs : Sq n t) (hn : n ≤ 14) :
    Calls Tryz.prog 143 #[rAgg a n c] w fun e w' => ∃ a' c', e = .returned (.slice a' n c') ∧ Own w' w.heap.size a' n c' (knkL n t) ∧ Below w.heap.size w w' := by
  obtain ⟨w0, hw0⟩ : ∃ w0, (w.alloc (.cells #[.slice a n c] 45)).alloc (.cells #[] 2) = w0 := ⟨_, rfl⟩
  have hA : Loc w0 w.heap.size #[.slice a n c] 45 := by rw [← hw0]; exact (Loc.new w rfl _ _).alloc _
  have hO : Own w0 (w.heap.size + 1) (some ⟨w.heap.size + 1, 0, none⟩) 0 0 [] := by
    rw [← hw0]
    have := Own.fresh (w.alloc (.cells #[.slice a n c] 45)) rfl
    simpa using this
  have hB0 : Below w.heap.size w w0 := by rw [← hw0]; exact below_al (below_al (Below.refl _ _) _) _
  have hz0 := hA.lt
  have HW0 := Lib.hid hw0
  have HS := Lib.hid hs
  clear hw0 hs
  go_enter Tryz.func143, Tryz.ntmps143
  go_wp2
  try rw [HW0.out]
  go_loopw [3, 4] (fun o i wr => ∃ (k : Nat) (ao : Option Addr) (co : Nat), k ≤ n ∧ i = .int .i64 k ∧ o = .slice ao k co ∧ Own wr (w.heap.size + 1) ao k co ((knkL n t).take k) ∧ Loc wr w.heap.size #[.slice a n c] 45 ∧ Below w.heap.size w wr) (fun _ i _ => n - (intOf i).toNat)
  case atStart => exact ⟨0, _, 0, Nat.zero_le _, rfl, rfl, hO, hA, hB0⟩
  case round =>
    clear hO hA hB0
    obtain ⟨k, ao, co, hk, rfl, rfl, hO, hA, hB⟩ := hrel
    obtain ⟨V, rfl⟩ : ∃ V : World, V = wr := ⟨_, rfl⟩
    have lA := hA.one
    have hzV := hA.lt
    by_cases hlt : k < n
    · obtain ⟨b, o, ai, mi, ci, rfl, d1, r1, lm⟩ := (h.below hB).at k hlt
      obtain ⟨hrl, hrv⟩ := HS.out.2 k hlt
      have hmi : mi = n := by rw [r1.len, hrl]
      subst hmi
      obtain ⟨b2, o2, rfl, d2⟩ := r1.at k hlt
      obtain ⟨hv1, hv2⟩ := hrv k hlt
      rw [hv2] at d2
      have HT := Lib.hid (knk_succ (t := t) hlt)
      obtain ⟨X, hX⟩ : ∃ X : Int, ((tv t k k : Nat) : Int) = X := ⟨_, rfl⟩
      rw [hX] at d2 HT
      have hk1 : k + 1 ≤ 1000000000000 := by omega
      have hzz : w.heap.size + 1 ≤ V.heap.size := by omega
      clear hX hv1 hv2 hrl hrv r1
      go_wp2_with (at_builtin; refine app1 rfl rfl hO rfl rfl hk1 hzz ?_; intro g' cc w8 hO8 hg8 hs8 hb8)
      go_roundw
      case rel => exact ⟨k + 1, _, cc, by omega, by go_num, rfl, by rw [HT.out]; exact hO8, hA.below hb8 (by omega), hB.trans (hb8.mono (by omega))⟩
      case measure => simp [intOf]; omega
    · obtain rfl : k = n := by omega
      have HF : Hid ((knkL k t).take k = knkL k t) := Lib.hid (List.take_of_length_le (by simp [knkL]))
      go_wp2
      go_ret
      exact ⟨_, _, rfl, by rw [HF.out] at hO; exact hO.mono (by omega), hB⟩
theorem isRk_sq2 {t : List (List Int)} (h : isRk t = true) : 1 ≤ t.length ∧ t.length ≤ 12 ∧ Sq t.length t := by
  unfold isRk at h; rw [Bool.and_eq_true] at h; exact isTab_sq h.1
def QofD (w : World) (n : Nat) (e : Ending) (w' : World) : Prop := ∃ a1 c1 vs T, e = .returned (.tuple #[rAgg a1 n c1, .int .i64 0]) ∧ OwnT w' w.heap.size a1 n c1 vs T ∧ Below w.heap.size w w'
set_option maxHeartbeats 16000000 in
theorem spec_QofS (a : Option Addr) (n c : Nat) (t : List (List Int)) (w : World) (h : Tbl w a n t) (hr : isRk t = true) :
    Calls Tryz.prog 100 #[rAgg a n c] w (QofD w n) := by
  obtain ⟨hn1, hn12, hs⟩ := isRk_sq2 hr
  rw [← h.len] at hn1 hn12 hs
  have HR := Lib.hid hr
  have HS := Lib.hid hs
  have HK : Hid (∀ x ∈ knkL n t, 0 ≤ x ∧ x < n) := Lib.hid fun x hx => by
    obtain ⟨k, hk, rfl⟩ := List.mem_map.1 hx
    have := hs.lt (List.mem_range.1 hk) (List.mem_range.1 hk)
    omega
  have HRW : Hid (∀ k, k < n → ∀ x ∈ t.getD k [], 0 ≤ x ∧ x < n) := Lib.hid fun k hk x hx => by
    obtain ⟨h1, h2⟩ := hs.2 k hk
    obtain ⟨j, hj, rfl⟩ := List.getElem_of_mem hx
    obtain ⟨h3, h4⟩ := h2 j (by omega)
    rw [List.getD_eq_getElem?_getD, List.getElem?_eq_getElem hj, Option.getD_some] at h4
    omega
  clear hs hr
  obtain ⟨w0, hw0⟩ : ∃ w0, (w.alloc (.cells #[.slice a n c] 45)).alloc (.cells #[.slice none 0 0] 45) = w0 := ⟨_, rfl⟩
  have hA : Loc w0 w.heap.size #[.slice a n c] 45 := by rw [← hw0]; exact (Loc.new w rfl _ _).alloc _
  have hR : Loc w0 (w.heap.size + 1) #[.slice none 0 0] 45 := by rw [← hw0]; exact Loc.new _ (by simp) _ _
  have hB0 : Below w.heap.size w w0 := by rw [← hw0]; exact below_al (below_al (Below.refl _ _) _) _
  have hz0 : w0.heap.size = w.heap.size + 2 := by rw [← hw0]; simp
  have HW0 := Lib.hid hw0
  have HZ0 := Lib.hid hz0
  have hz0' : w.heap.size + 2 ≤ w0.heap.size := by omega
  clear hw0 hz0
  go_enter Tryz.func100, Tryz.ntmps100
  go_wp2_with fail
  try rw [HW0.out]
  refine (l03Is_any a n c t _ (h.below hB0) (by omega)).mono ?_
  rintro e w1 ⟨rfl, hb1⟩
  rw [HR.out]
  have hA1 := hA.below hb1 hA.lt
  have hR1 := hR.below hb1 hR.lt
  have hB1 := below_th hB0 hb1
  have lA1 := hA1.one
  have hz1 := hb1.size
  clear hA hR hB0 hb1
  go_wp2_with fail
  refine (l03Kink_any a n c t _ (h.below hB1) HS.out (by omega)).mono ?_
  rintro e w2 ⟨a2, c2, rfl, ho2, hb2⟩
  have hA2 := hA1.below hb2 hA1.lt
  have hR2 := hR1.below hb2 hR1.lt
  have hB2 := below_th hB1 hb2
  have lA2 := hA2.one
  have hz2 := hb2.size
  clear hA1 hR1 hB1 hb2 lA1
  go_wp2_with fail
  refine (l01Back_any a2 n c2 (knkL n t) _ ho2.row (by omega) HK.out).mono ?_
  rintro e w3 ⟨a3, c3, rfl, ho3, hb3⟩
  have hA3 := hA2.below hb3 hA2.lt
  have hR3 := hR2.below hb3 hR2.lt
  have hB3 := below_th hB2 hb3
  have hz3 := hb3.size
  have HBK : Hid (∀ g, a3 = some ⟨g, 0, none⟩ → g < w3.heap.size) := Lib.hid ho3.hi
  clear hA2 hR2 hB2 hb3 lA2 ho2
  obtain ⟨w4, hw4⟩ : ∃ w4, w3.alloc (.cells #[.slice none 0 0] 45) = w4 := ⟨_, rfl⟩
  have hX4 : Loc w4 w3.heap.size #[.slice none 0 0] 45 := by rw [← hw4]; exact Loc.new w3 rfl _ _
  have hb4 : Below w3.heap.size w3 w4 := by rw [← hw4]; exact below_al (Below.refl _ _) _
  have hA4 := hA3.below hb4 hA3.lt
  have hR4 := hR3.below hb4 hR3.lt
  have hB4 := below_th hB3 hb4
  have ho4 := ho3.below hb4
  have hz4 := hX4.lt
  have HW4 := Lib.hid hw4
  clear hw4 hA3 hR3 hB3 hb4
  go_wp2
  try rw [HW4.out]
  go_loopw [6] (fun i wr => ∃ (k : Nat) (az : Option Addr) (cz : Nat) (vz : List SV) (T : List (List Int)), k ≤ n ∧ i = .int .i64 k ∧ Loc wr w3.heap.size #[.slice az k cz] 45 ∧ Loc wr w.heap.size #[.slice a n c] 45 ∧ Loc wr (w.heap.size + 1) #[.slice none 0 0] 45 ∧ OwnT wr w4.heap.size az k cz vz T ∧ Own wr w2.heap.size a3 n c3 (backF (knkL n t)) ∧ Below w.heap.size w wr ∧ w4.heap.size ≤ wr.heap.size) (fun i _ => n - (intOf i).toNat)
  case atStart => exact ⟨0, none, 0, [], [], Nat.zero_le _, rfl, hX4, hA4, hR4, OwnT.nil _ _, ho4, hB4, Nat.le_refl _⟩
  case round =>
    clear hX4 hA4 hR4 ho4 hB4
    obtain ⟨k, az, cz, vz, T, hk, rfl, hX, hA, hR, hz, ho, hB, hw4W⟩ := hrel
    obtain ⟨W, rfl⟩ : ∃ W : World, W = wr := ⟨_, rfl⟩
    have hXl := hX.lt
    have lX := hX.one
    have lA := hA.one
    by_cases hlt : k < n
    · obtain ⟨b, o, ai, mi, ci, rfl, d1, r1, lm⟩ := (h.below hB).at k hlt
      have hmi : mi = n := by rw [r1.len]; exact (HS.out.2 k hlt).1
      subst hmi
      have hrw := HRW.out k hlt
      have HRK := Lib.hid hrw
      have hzhi := hz.uHi
      have hWz := hB.size
      have hkl : k + 1 ≤ 1000000000000 := by omega
      clear hrw
      have hrow := (r1.below (Below.refl _ _)).drewN 1
      have hbk := ho.row.drewN 1
      go_wp2
      go_region_law (first
        | (refine step_appT1n rfl rfl hz5 rfl (ho5.mono (by omega)) (fun g h1 h2 => by have h3 := hzhi _ (.inl h1); have h4 := ho5.lo _ h2; omega) (fun i hi g h1 h2 => by have h3 := ho5.lo _ h1; have h4 := hzhi _ (.inr ⟨i, hi, h2⟩); omega) rfl hkl (by omega) ?_; intro g6 cc6 w6 hOT6 hg6 hat6 hb6; have hX6 := hX5.below hb6 (by omega); have lX6 := hX6.one)
        | (go_simp; go_at_call 144; refine (l01Then_any ai a3 mi mi ci c3 (t.getD k []) (backF (knkL mi t)) _ hrow hbk (by omega) HRK.out).mono ?_; rintro e w5 ⟨a5, c5, rfl, ho5', hb5⟩; have ho5 := ho5'.mono (lo' := W.heap.size) (Nat.le_refl _); have hr5 : Below W.heap.size W w5 := (Below.drew (Below.refl _ _)).trans hb5; have hX5 := hX.below hr5 hXl; have lX5 := hX5.one; have lX5a := (hX5.alloc (.cells #[.slice a5 mi c5] 27)).one; have hz5 := hz.below hr5; have hw5 := hr5.size))
      all_goals
        have hA5 := (hA.below hr5 hA.lt).below hb6 (by have := hA.lt; omega)
        have hR5 := (hR.below hr5 hR.lt).below hb6 (by have := hR.lt; omega)
        have ho6 := (ho.below hr5).grown hg6 (fun g h1 h2 => by have h3 := ho.hi _ h1; have h4 := hz5.ownBlk h2.symm; have h5 := hz5.uLo _ h4; have h6 := HBK.out _ h1; omega)
        have hB5 := (hB.trans (hr5.mono (by omega))).trans (hb6.mono (by omega))
        have hX7 := hX6.set 0 (.slice (some ⟨g6, 0, none⟩) (k + 1) cc6)
        have hA7 := hA5.setne (a := ⟨w3.heap.size, 0, none⟩) (by show w.heap.size ≠ w3.heap.size; omega) (.slice (some ⟨g6, 0, none⟩) (k + 1) cc6)
        have hR7 := hR5.setne (a := ⟨w3.heap.size, 0, none⟩) (by show w.heap.size + 1 ≠ w3.heap.size; omega) (.slice (some ⟨g6, 0, none⟩) (k + 1) cc6)
        have hz7 := hOT6.setlo (p := ⟨w3.heap.size, 0, none⟩) (by show w3.heap.size < w4.heap.size; omega) (.slice (some ⟨g6, 0, none⟩) (k + 1) cc6)
        have ho7 := ho6.setne (p := ⟨w3.heap.size, 0, none⟩) (fun g e => by have := HBK.out g e; show g ≠ w3.heap.size; omega) (.slice (some ⟨g6, 0, none⟩) (k + 1) cc6)
        have hB7 := below_setne (a := ⟨w3.heap.size, 0, none⟩) hB5 (by show w.heap.size ≤ w3.heap.size; omega) (.slice (some ⟨g6, 0, none⟩) (k + 1) cc6)
        go_wp2
        go_roundw
        case rel => exact ⟨k + 1, _, cc6, _, _, by omega, by go_num, hX7, hA7, hR7, hz7, ho7, hB7, by rw [size_set]; have := hg6.size; omega⟩
        case measure => simp [intOf]; omega
    · obtain rfl : k = n := by omega
      have lR := hR.one
      have hzf := hz.setlo (p := ⟨w.heap.size + 1, 0, none⟩) (by show w.heap.size + 1 < w4.heap.size; omega) (.slice az k cz)
      have hBf := below_setne (a := ⟨w.heap.size + 1, 0, none⟩) hB (by show w.heap.size ≤ w.heap.size + 1; omega) (.slice az k cz)
      go_wp2
      exact bodyPost_ret (v := .tuple #[rAgg az k cz, .int .i64 0]) (by simp [results, Tryz.results100, go_sem, lR]) rfl ⟨az, cz, vz, T, rfl, hzf.mono (by omega), hBf⟩
end Go.Proofs.YtpdgpgbgakinlaaGreat

namespace Go.Proofs.YtpdgpgbgakinlaaGreat
set_option maxRecDepth 100000
set_option linter.unusedVariables false
set_option linter.unusedSimpArgs false
open Go.RowKit
set_option maxHeartbeats 2000000 in
theorem l06Move_any (a : Option Addr) (n c : Nat) (a' : Option Addr) (c' : Nat) (f g : List (List Int)) (al : Option Addr) (m cl : Nat) (l : List Int) (i : Nat) (w : World) (h1 : Tbl w a n f) (h2 : Tbl w a' n g) (hn1 : 1 ≤ n) (hf : Sq n f) (hg : Sq n g)
    (hl : Row w al m l) (hm : m ≤ 1000000) (hi : i + 1 < m) (hle : Less n l) :
    Calls Tryz.prog 140 #[sAgg a n c a' n c', .slice al m cl, .int .i64 i] w fun e w' => ∃ ao co, e = .returned (.slice ao m co) ∧ Own w' w.heap.size ao m co (doF f g i l) ∧ Below w.heap.size w w' := by
  obtain ⟨bf, of, A, O, C, rfl, Gf⟩ := h1.grid hf hn1
  obtain ⟨bg, og, A', O', C', rfl, Gg⟩ := h2.grid hg hn1
  clear h1 h2
  have hll := hl.len
  obtain ⟨x, hx, ex⟩ := hle i (by omega)
  obtain ⟨y, hy, ey⟩ := hle (i + 1) (by omega)
  have HDO : Hid (doF f g i l = (l.set i ((tv f x y : Nat) : Int)).set (i + 1) ((tv g x y : Nat) : Int)) := Lib.hid (by unfold doF; rw [ex, ey]; simp)
  have HX := Lib.hid ex; have HY := Lib.hid ey
  clear ex ey hll hle
  have hA := Loc.new w rfl #[.slice (some ⟨bf, of, none⟩) n c, .slice (some ⟨bg, og, none⟩) n c'] 26
  have gf := Gf.alloc (.cells #[.slice (some ⟨bf, of, none⟩) n c, .slice (some ⟨bg, og, none⟩) n c'] 26)
  have gg := Gg.alloc (.cells #[.slice (some ⟨bf, of, none⟩) n c, .slice (some ⟨bg, og, none⟩) n c'] 26)
  have hl0 := hl.alloc (.cells #[.slice (some ⟨bf, of, none⟩) n c, .slice (some ⟨bg, og, none⟩) n c'] 26)
  have hB := below_al (Below.refl w.heap.size w) (.cells #[.slice (some ⟨bf, of, none⟩) n c, .slice (some ⟨bg, og, none⟩) n c'] 26)
  clear Gf Gg hl
  have hwi : IntKind.i64.wrap ((i : Int) + 1) = ((i + 1 : Nat) : Int) := (IntWalk.i64_in _ (by omega)).trans (by simp)
  go_enter Tryz.func140, Tryz.ntmps140
  go_wp2_with fail
  refine (l01Own_any _ _ _ l _ hl0 (by omega)).mono ?_
  rintro e w1 ⟨ao, co, rfl, ho, hb1⟩
  have ho1 : Own w1 (w.heap.size + 1) ao m co l := ho.mono (by simp)
  clear ho
  obtain ⟨go, oo, rfl, _⟩ := ho1.row.at i (by omega)
  obtain ⟨rfl, hc, hfr⟩ := ho1.cells
  have hgo := ho1.lt
  obtain ⟨bl, ol, e1, hbl, hall⟩ := hl0.all (by omega)
  subst e1
  have hbB := hb1
  have hA1 := hA.below hb1 (by simp)
  have lA1 := hA1.two
  obtain ⟨r1, k1⟩ := (gf.below hb1).look hx hy
  have hl1 := hl0.below hb1
  have kx := (hb1.cell (p := ⟨bl, ol + i, none⟩) hbl).trans (hall i (by omega))
  have ky := (hb1.cell (p := ⟨bl, ol + (i + 1), none⟩) hbl).trans (hall (i + 1) (by omega))
  rw [HX.out] at kx; rw [HY.out] at ky
  have hci := hc i (by omega)
  have hfi := hfr i
  generalize hF : tv f x y = F at *
  generalize hG : tv g x y = G at *
  clear hc hfr hl1 hb1
  have HALL := Lib.hid hall; clear hall
  go_wp2
  go_region
  have hb2 := (below_setne (a := ⟨go, i, none⟩) hbB (by simpa using hgo.1) (.int .i64 F)).drew
  have ho2 : Own (w1.setCell ⟨go, i, none⟩ (.int .i64 F)).drew (w.heap.size + 1) (some ⟨go, 0, none⟩) m co (l.set i (F : Int)) := (ho1.set i _).drew
  clear hbB ho1 kx ky r1 k1 hci hfi hA1 lA1
  generalize (w1.setCell ⟨go, i, none⟩ (.int .i64 F)).drew = w2 at *
  obtain ⟨_, hc, hfr⟩ := ho2.cells
  have hA1 := hA.below hb2 (by simp)
  have lA1 := hA1.two
  obtain ⟨r2, k2⟩ := (gg.below hb2).look hx hy
  have kx := (hb2.cell (p := ⟨bl, ol + i, none⟩) hbl).trans (HALL.out i (by omega))
  have ky := (hb2.cell (p := ⟨bl, ol + (i + 1), none⟩) hbl).trans (HALL.out (i + 1) (by omega))
  rw [HX.out] at kx; rw [HY.out] at ky
  rw [hG] at k2
  have hci := hc (i + 1) (by omega)
  have hfi := hfr (i + 1)
  have HF := Lib.hid hF; have HG := Lib.hid hG; clear hF hG
  clear hc hfr
  go_wp2
  go_region
  go_wp2
  go_ret
  refine ⟨_, _, rfl, ?_, ?_⟩
  · rw [HDO.out]
    exact ((ho2.set (i + 1) _).drew).mono (by omega)
  · exact (below_setne (a := ⟨go, i + 1, none⟩) (hB.trans (hb2.mono (by simp))) (by have := hgo.1; show w.heap.size ≤ go; omega) _).drew
end Go.Proofs.YtpdgpgbgakinlaaGreat
