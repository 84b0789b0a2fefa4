/-
  Walks and plain laws of this seat, some texts in one.
  No condition but bounds on lengths.
-/
import Derived.Test.YtpdgpgbgakinlaaGreatPb32
import Derived.Deep.DeepCutAuto
import Derived.Test.YtpdgpgbgakinlaaGreatPb23
import Derived.Test.YtpdgpgbgakinlaaGreatPb10
import Derived.Test.YtpdgpgbgakinlaaGreatPb16
import Derived.Test.YtpdgpgbgakinlaaGreatPb17
import Derived.Test.YtpdgpgbgakinlaaGreatPb11
import Derived.Test.YtpdgpgbgakinlaaGreatPb15
import Derived.Test.YtpdgpgbgakinlaaGreatPb8
import Derived.Test.YtpdgpgbgakinlaaGreatPb2
import Derived.Test.YtpdgpgbgakinlaaGreatPb7
import Derived.Test.YtpdgpgbgakinlaaGreatPb3
import Derived.Deep.RegionWith
import Derived.Test.YtpdgpgbgakinlaaGreatPb4
namespace Go.Proofs.YtpdgpgbgakinlaaGreat
set_option linter.unusedVariables false
set_option linter.unusedSimpArgs false
set_option maxRecDepth 100000
open Go.RowKit
set_option maxHeartbeats 32000000 in
theorem l03DrawTable_ok (M b : Nat) (w : World) (h : Src w b) (h1 : 1 ≤ M) (hM : M ≤ 12) :
    Calls Tryz.prog 122 #[.pointer (some ⟨b, 0, none⟩), .int .i64 M] w (SqD b w M) := by
  have hlt := h.lt
  go_enter Tryz.func122, Tryz.ntmps122
  go_wp2_with fail
  refine (l01Next_ok b (M : Int) _ h ⟨by omega, by omega⟩).mono ?_
  rintro e w1 ⟨y, rfl, _, hy, hs1, hg1⟩
  obtain ⟨hy1, hy2⟩ := hy (by omega)
  obtain ⟨y0, rfl⟩ : ∃ k : Nat, y = k := ⟨y.toNat, by omega⟩
  obtain ⟨N, hN⟩ : ∃ N, N = y0 + 1 := ⟨_, rfl⟩
  have e1 : (1 : Int) + (y0 : Int) = (N : Int) := by omega
  have hN1 : 1 ≤ N := by omega
  have hNM : N ≤ M := by omega
  clear hy hy1 hy2 hN
  go_wp2_with fail
  refine (l01Next_ok b 5 _ hs1 ⟨by omega, by omega⟩).mono ?_
  rintro e w2 ⟨x, rfl, _, hx, hs2, hg2⟩
  obtain ⟨hx1, hx2⟩ := hx (by omega)
  have hG2 := grown_trans hg1 hg2
  have hz2' : w.heap.size ≤ w2.heap.size := hG2.size
  clear hx hs1 hg1 hg2 e1
  have hx5 : x = 0 ∨ x = 1 ∨ x = 2 ∨ x = 3 ∨ x = 4 := by omega
  clear hx1 hx2
  rcases hx5 with rfl | rfl | rfl | rfl | rfl
  · go_wp2_with fail
    refine (l03DrawPerm_ok b N _ hs2 (by omega)).mono ?_
    rintro e w3 ⟨a3, c3, p, rfl, hp, ho3, hs3, hg3⟩
    have hG3 := grown_trans hG2 hg3
    have HSQ := Lib.hid (rep_sq hp)
    have hz3 := hg3.size
    obtain ⟨w4, hw4⟩ : ∃ w4, w3.alloc (.cells #[] 27) = w4 := ⟨_, rfl⟩
    have hO4 : OwnT w4 w3.heap.size (some ⟨w3.heap.size, 0, none⟩) 0 0 [] [] := by rw [← hw4]; exact OwnT.fresh w3 rfl
    have hb4 : Below w3.heap.size w3 w4 := by rw [← hw4]; exact below_al (Below.refl _ _) _
    have HW4 := Lib.hid hw4
    clear hw4 hp
    go_wp2
    try rw [HW4.out]
    go_loopw [7, 8] (fun z i wr => ∃ (k : Nat) (az : Option Addr) (cz : Nat) (vz : List SV), k ≤ N ∧ i = .int .i64 k ∧ z = .slice az k cz ∧ OwnT wr w3.heap.size az k cz vz ((repT N p).take k) ∧ Below w3.heap.size w3 wr) (fun _ i _ => N - (intOf i).toNat)
    case atStart => exact ⟨0, _, 0, _, Nat.zero_le _, rfl, rfl, by simpa using hO4, hb4⟩
    case round =>
      clear hO4 hb4
      obtain ⟨k, az, cz, vz, hk, rfl, rfl, ho, hb⟩ := hrel
      by_cases hlt2 : k < N
      · have HRS := Lib.hid (repT_succ p hlt2)
        have hbb := hb.size
        go_wp2_with fail
        refine (l01Own_any _ N c3 p _ (ho3.row.below hb) (by omega)).mono ?_
        rintro e w5 ⟨a5, c5, rfl, ho5, hb5⟩
        have hz5 := ho.below hb5
        have hs5 := hb5.size
        go_wp2_with (at_builtin; refine appT1 rfl rfl hz5 rfl (ho5.mono hbb) (fun g h1 h2 => by have h3 := ho.high _ h1; have h4 := ho5.lo _ h2; omega) (fun i hi g h1 h2 => by have h3 := ho5.lo _ h1; have h4 := (ho.row i hi).hi _ h2; omega) rfl (by omega) (by omega) ?_; intro g' cc w6 hO hb6)
        go_roundw
        case rel => exact ⟨k + 1, _, _, _, by omega, by go_num, rfl, by rw [HRS.out]; exact hO, (hb.trans (hb5.mono hbb)).trans hb6⟩
        case measure => simp [intOf]; omega
      · obtain rfl : k = N := by omega
        rw [List.take_of_length_le (by simp [repT])] at ho
        go_wp2
        go_ret
        exact ⟨_, _, _, vz, _, hN1, hNM, rfl, ho.mono (by omega), HSQ.out, hs3.below hb, grown_trans hG3 (grown_of_below hb _)⟩
  · obtain ⟨K, hK⟩ : ∃ K, K = N - 1 := ⟨_, rfl⟩
    obtain ⟨L, hL⟩ : ∃ L, 2 % N = L := ⟨_, rfl⟩
    have d1 : (N : Int) - 1 = (K : Int) := by omega
    have d2 : Int.tmod 2 (N : Int) = (L : Int) := by rw [← hL]; rfl
    have hLb : L ≤ 2 := by rw [← hL]; exact Nat.mod_le _ _
    have hKb : K ≤ 12 := by omega
    have hz1 : ¬ (N : Int) = 0 := by omega
    have hz2 : ((N : Int) == 0) = false := by simpa using hz1
    have hz3 : ¬ N = 0 := by omega
    clear hK hL
    go_wp2_with fail
    refine (l03Alexander_any N K L _ hN1 (by omega) (by omega) (by omega)).mono ?_
    rintro e w3 ⟨a3, c3, vs3, t3, rfl, ho3, sq3, hb3⟩
    have SQ3 := Lib.hid sq3
    clear sq3
    go_wp2
    go_ret
    exact ⟨N, _, _, vs3, t3, hN1, hNM, rfl, ho3.mono hz2', SQ3.out, hs2.below hb3, grown_trans hG2 (grown_of_below hb3 _)⟩
  -- printed by genDt.py from here on
  · go_wp2
    go_loopw [9, 10] (fun i _ wr => ∃ q : Nat, q ≤ 6 ∧ i = .int .i64 q ∧ Src wr b ∧ w.grownBy wr (some b)) (fun i _ _ => 6 - (intOf i).toNat)
    case atStart => exact ⟨0, by omega, rfl, hs2, hG2⟩
    case round =>
      clear hs2 hG2 hz2'
      obtain ⟨q, hq, rfl, hsr, hGr⟩ := hrel
      have hzr : w.heap.size ≤ wr.heap.size := hGr.size
      by_cases hlt6 : q < 6
      · have q6 : (q : Int) < 6 := by omega
        go_wp2_with fail
        refine (l01Next_ok b (N : Int) _ hsr ⟨by omega, by omega⟩).mono ?_
        rintro e wa ⟨aa, rfl, _, haa, hsa, hga⟩
        obtain ⟨ha1, ha2⟩ := haa (by omega)
        obtain ⟨av, rfl⟩ : ∃ z : Nat, aa = z := ⟨aa.toNat, by omega⟩
        have haN : av < N := by omega
        have hGa := grown_trans hGr hga
        clear haa ha1 ha2 hga hsr hGr hzr
        go_wp2_with fail
        refine (l03Coprime_any av N _ (by omega) (by omega)).mono ?_
        rintro e wx ⟨⟨qb, rfl⟩, hwx⟩
        subst hwx
        cases qb
        · go_wp2
          go_roundw
          case rel => exact ⟨q + 1, by omega, by go_num, hsa, hGa⟩
          case measure => simp [intOf]; omega
        · obtain ⟨E, hE⟩ : ∃ E, E = N + 1 - av := ⟨_, rfl⟩
          obtain ⟨L, hL⟩ : ∃ L, E % N = L := ⟨_, rfl⟩
          have d1 : (1 : Int) - (av : Int) + (N : Int) = (E : Int) := by omega
          have d2 : Int.tmod (E : Int) (N : Int) = (L : Int) := by rw [← hL]; rfl
          have hLb : L < N := by rw [← hL]; exact Nat.mod_lt _ hN1
          have hz1 : ¬ (N : Int) = 0 := by omega
          have hz2 : ((N : Int) == 0) = false := by simpa using hz1
          have hz3 : ¬ N = 0 := by omega
          have hEb : E ≤ 13 := by omega
          clear hE hL
          go_wp2_with fail
          refine (l03Alexander_any N av L _ hN1 (by omega) (by omega) (by omega)).mono ?_
          rintro e w3 ⟨a3, c3, vs3, t3, rfl, ho3, sq3, hb3⟩
          have SQ3 := Lib.hid sq3
          have hzx := hGa.size
          clear sq3
          go_wp2
          go_ret
          exact ⟨N, _, _, vs3, t3, hN1, hNM, rfl, ho3.mono hzx, SQ3.out, hsa.below hb3, grown_trans hGa (grown_of_below hb3 _)⟩
      · obtain rfl : q = 6 := by omega
        clear hq
        go_upto_region 39 with fail
        refine dt_tail M N b w wr hsr hGr hlt hzr hN1 hNM hM _ _ _ _ _ _ _ _ _ _ _ _ _ _ _ _ _ _ _ _ _ _ _ _ _ _ _ _ _ _ _ _ _ _ _ _ _ _ _ _ _ _ _ _ _ _ _ _ _ _ _ _ _ _ _ _ _ _ _ _ _ _ _ _ _ _ _ _ _ _ _ _ _ _ _ _ _ _ _ _ _ _ _ _ _ _ _ _ _ _ _ _ _ _ _ _ _ _ _ _ _ _ _ _ _ _ _ _ _ _ _ _ _ _ _ _ _ _ _ _ _ _ _ _ _ _ _ _ _ _ _ _ _ _ _ _ _ _ _ _ _ _ _ _ _ _ _ _ _ _ _ _ _ _ _ _ _ _ _ _ _ _ _ _ _ _ _ _ _ _ _ _ _ _ _ _ _ _ _ _ _ _ _ _ _ _ _ _ _ _ _ _ _ _ _ _ _ _ _ _ _ _ _ _ _ _ _ _ _ _ _ _ _ _ _ _ _ _ _ _ _ _ _ _ _ _ _ _ _ _ _ ?_
        assumption
  · by_cases hM6 : 6 ≤ M
    · have hM6i : (6 : Int) ≤ (M : Int) := by omega
      go_wp2_with fail
      refine (l01Perms_any 3 _ (by omega)).mono ?_
      rintro e w3 ⟨a3, n3, c3, vs3, rfl, ho3, hb3⟩
      obtain rfl : n3 = 6 := ho3.len.trans cj_prm.len
      have hs3 := hs2.below hb3
      have hG3 := grown_trans hG2 (grown_of_below hb3 (some b))
      have hz3 := hb3.size
      have hb2 := hs2.lt
      obtain ⟨w4, hw4⟩ : ∃ w4, w3.alloc (.cells #[] 27) = w4 := ⟨_, rfl⟩
      have hO4 : OwnT w4 w3.heap.size (some ⟨w3.heap.size, 0, none⟩) 0 0 [] [] := by rw [← hw4]; exact OwnT.fresh w3 rfl
      have hL4 : Loc w4 w3.heap.size #[] 27 := by rw [← hw4]; exact Loc.new _ rfl _ _
      have hb4 : Below w3.heap.size w3 w4 := by rw [← hw4]; exact below_al (Below.refl _ _) _
      have HW4 := Lib.hid hw4
      clear hw4
      have hs4 := hs3.below hb4
      have hG4 := grown_trans hG3 (grown_of_below hb4 (some b))
      have ho4 := ho3.below hb4
      clear ho3 hs3 hG3 hb3 hb4
      go_wp2_with fail
      try rw [HW4.out]
      refine (l01Next_ok b 2 _ hs4 ⟨by omega, by omega⟩).mono ?_
      rintro e w5 ⟨qq, rfl, _, hqq, hs5, hg5⟩
      obtain ⟨hq1, hq2⟩ := hqq (by omega)
      have hO5 : OwnT w5 w3.heap.size (some ⟨w3.heap.size, 0, none⟩) 0 0 [] [] := hO4.keep fun g hg hl => hg5.block g hl (fun e => by have := hO4.uLo g hg; cases e; omega)
      have hL5 : Loc w5 w3.heap.size #[] 27 := hL4.grown hg5 (by simp; omega)
      have t5 : Tbl w5 a3 6 (prmL 3) := (ho4.keep fun g hg hl => hg5.block g hl (fun e => by have := ho4.uLo g hg; cases e; omega)).tbl
      have hG5 := grown_trans hG4 hg5
      clear hqq hO4 hL4 ho4 hs4 hG4 hg5 hs2 hG2
      have hq : qq = 0 ∨ qq = 1 := by omega
      clear hq1 hq2
      rcases hq with rfl | rfl
      · obtain ⟨w6, hw6⟩ : ∃ w6, (((w5.alloc (.cells #[.int .i64 0, .int .i64 2, .int .i64 1] 2)).alloc (.cells #[.int .i64 1, .int .i64 0, .int .i64 2] 2)).alloc (.cells #[.int .i64 2, .int .i64 1, .int .i64 0] 2)).alloc (.cells #[.slice (some ⟨w5.heap.size, 0, none⟩) 3 3, .slice (some ⟨w5.heap.size + 1, 0, none⟩) 3 3, .slice (some ⟨w5.heap.size + 1 + 1, 0, none⟩) 3 3] 27) = w6 := ⟨_, rfl⟩
        have t6 : Tbl w6 (some ⟨w5.heap.size + 1 + 1 + 1, 0, none⟩) 3 trL := by rw [← hw6]; exact litT w5 _ _
        have hb6 : Below w5.heap.size w5 w6 := by rw [← hw6]; exact below_al (below_al (below_al (below_al (Below.refl _ _) _) _) _) _
        have hO6 := hO5.below hb6
        have hL6 := hL5.below hb6 hL5.lt
        have hs6 := hs5.below hb6
        have hG6 := grown_trans hG5 (grown_of_below hb6 (some b))
        have HW6 := Lib.hid hw6
        clear hw6 hO5 hL5 hs5 hG5 t5 hb6
        go_upto_region 25 with fail
        rw [HW6.out]
        refine dt_conj M N b 3 w3.heap.size 3 _ trL w w6 cj_tr t6 hO6 hL6 hs6 hG6 hlt (by omega) (by omega) (by omega) hM6 _ _ _ _ _ _ _ _ _ _ _ _ _ _ _ _ _ _ _ _ _ _ _ _ _ _ _ _ _ _ _ _ _ _ _ _ _ _ _ _ _ _ _ _ _ _ _ _ _ _ _ _ _ _ _ _ _ _ _ _ _ _ _ _ _ _ _ _ _ _ _ _ _ _ _ _ _ _ _ _ _ _ _ _ _ _ _ _ _ _ _ _ _ _ _ _ _ _ _ _ _ _ _ _ _ _ _ _ _ _ _ _ _ _ _ _ _ _ _ _ _ _ _ _ _ _ _ _ _ _ _ _ _ _ _ _ _ _ _ _ _ _ _ _ _ _ _ _ _ _ _ _ _ _ _ _ _ _ _ _ _ _ _ _ _ _ _ _ _ _ _ _ _ _ _ _ _ _ _ _ _ _ _ _ _ _ _ _ _ _ _ _ _ _ _ _ _ _ _ _ _ _ _ _ _ _ _ _ _ _ _ _ _ _ _ _ _ _ _ _ _ _ _ _ _ _ _ _ _ _ ?_ ?_
        · assumption
        · assumption
      · go_upto_region 25 with fail
        refine dt_conj M N b 6 w3.heap.size c3 a3 (prmL 3) w w5 cj_prm t5 hO5 hL5 hs5 hG5 hlt (by omega) (by omega) (by omega) hM6 _ _ _ _ _ _ _ _ _ _ _ _ _ _ _ _ _ _ _ _ _ _ _ _ _ _ _ _ _ _ _ _ _ _ _ _ _ _ _ _ _ _ _ _ _ _ _ _ _ _ _ _ _ _ _ _ _ _ _ _ _ _ _ _ _ _ _ _ _ _ _ _ _ _ _ _ _ _ _ _ _ _ _ _ _ _ _ _ _ _ _ _ _ _ _ _ _ _ _ _ _ _ _ _ _ _ _ _ _ _ _ _ _ _ _ _ _ _ _ _ _ _ _ _ _ _ _ _ _ _ _ _ _ _ _ _ _ _ _ _ _ _ _ _ _ _ _ _ _ _ _ _ _ _ _ _ _ _ _ _ _ _ _ _ _ _ _ _ _ _ _ _ _ _ _ _ _ _ _ _ _ _ _ _ _ _ _ _ _ _ _ _ _ _ _ _ _ _ _ _ _ _ _ _ _ _ _ _ _ _ _ _ _ _ _ _ _ _ _ _ _ _ _ _ _ _ _ _ _ _ ?_ ?_
        · assumption
        · assumption
    · have hM6i : ¬ (6 : Int) ≤ (M : Int) := by omega
      go_upto_region 39 with fail
      refine dt_tail M N b w w2 hs2 hG2 hlt hz2' hN1 hNM hM _ _ _ _ _ _ _ _ _ _ _ _ _ _ _ _ _ _ _ _ _ _ _ _ _ _ _ _ _ _ _ _ _ _ _ _ _ _ _ _ _ _ _ _ _ _ _ _ _ _ _ _ _ _ _ _ _ _ _ _ _ _ _ _ _ _ _ _ _ _ _ _ _ _ _ _ _ _ _ _ _ _ _ _ _ _ _ _ _ _ _ _ _ _ _ _ _ _ _ _ _ _ _ _ _ _ _ _ _ _ _ _ _ _ _ _ _ _ _ _ _ _ _ _ _ _ _ _ _ _ _ _ _ _ _ _ _ _ _ _ _ _ _ _ _ _ _ _ _ _ _ _ _ _ _ _ _ _ _ _ _ _ _ _ _ _ _ _ _ _ _ _ _ _ _ _ _ _ _ _ _ _ _ _ _ _ _ _ _ _ _ _ _ _ _ _ _ _ _ _ _ _ _ _ _ _ _ _ _ _ _ _ _ _ _ _ _ _ _ _ _ _ _ _ _ _ _ _ _ _ _ ?_
      assumption
  · skip
    go_upto_region 39 with fail
    refine dt_tail M N b w w2 hs2 hG2 hlt hz2' hN1 hNM hM _ _ _ _ _ _ _ _ _ _ _ _ _ _ _ _ _ _ _ _ _ _ _ _ _ _ _ _ _ _ _ _ _ _ _ _ _ _ _ _ _ _ _ _ _ _ _ _ _ _ _ _ _ _ _ _ _ _ _ _ _ _ _ _ _ _ _ _ _ _ _ _ _ _ _ _ _ _ _ _ _ _ _ _ _ _ _ _ _ _ _ _ _ _ _ _ _ _ _ _ _ _ _ _ _ _ _ _ _ _ _ _ _ _ _ _ _ _ _ _ _ _ _ _ _ _ _ _ _ _ _ _ _ _ _ _ _ _ _ _ _ _ _ _ _ _ _ _ _ _ _ _ _ _ _ _ _ _ _ _ _ _ _ _ _ _ _ _ _ _ _ _ _ _ _ _ _ _ _ _ _ _ _ _ _ _ _ _ _ _ _ _ _ _ _ _ _ _ _ _ _ _ _ _ _ _ _ _ _ _ _ _ _ _ _ _ _ _ _ _ _ _ _ _ _ _ _ _ _ _ _ ?_
    assumption
end Go.Proofs.YtpdgpgbgakinlaaGreat

namespace Go.Proofs.YtpdgpgbgakinlaaGreat
set_option linter.unusedVariables false
set_option linter.unusedSimpArgs false
set_option maxRecDepth 100000
open Go.RowKit
theorem OwnT.grownb {w w' : World} {lo b : Nat} {a : Option Addr} {n c : Nat} {vs : List SV} {t : List (List Int)} (h : OwnT w lo a n c vs t) (hg : w.grownBy w' (some b)) (hb : b < lo) : OwnT w' lo a n c vs t :=
  h.keep fun q hq hl => hg.block q hl (fun e => by have := h.uLo q hq; cases e; omega)
def RkD (b : Nat) (w : World) (N : Nat) (e : Ending) (w' : World) : Prop :=
  ∃ (n : Nat) (a : Option Addr) (c : Nat) (vs : List SV) (t : List (List Int)), 1 ≤ n ∧ n ≤ N ∧ e = .returned (rAgg a n c) ∧ OwnT w' w.heap.size a n c vs t ∧ Sq n t ∧ Src w' b ∧ w.grownBy w' (some b)
set_option maxHeartbeats 8000000 in
theorem l03Draw_ok (M b : Nat) (w : World) (h : Src w b) (h1 : 1 ≤ M) (hM : M ≤ 12) :
    Calls Tryz.prog 77 #[.pointer (some ⟨b, 0, none⟩), .int .i64 M] w (RkD b w M) := by
  have hlt := h.lt
  have hR := Loc.new w rfl #[.slice none 0 0] 45
  go_enter Tryz.func77, Tryz.ntmps77
  go_wp2_with fail
  refine (l03DrawTable_ok M b _ (h.below (below_al (Below.refl _ _) _)) h1 hM).mono ?_
  rintro e w1 ⟨n, a1, c1, vs1, t, n1, nM, rfl, ho1, sq, hs1, hg1⟩
  have hR1 := hR.grown hg1 (by simp; omega)
  have hG1 := grown_trans (World.grownBy_alloc w (.cells #[.slice none 0 0] 45) (some b)) hg1
  have hz1 := hR1.lt
  have SQ := Lib.hid sq
  have ho1 := ho1.mono (lo' := w.heap.size + 1) (by simp)
  clear sq hg1 hR
  go_wp2_with fail
  refine (l01Next_ok b 2 _ hs1 ⟨by omega, by omega⟩).mono ?_
  rintro e w2 ⟨x, rfl, _, hx, hs2, hg2⟩
  obtain ⟨hx1, hx2⟩ := hx (by omega)
  have hR2 := hR1.grown hg2 (by simp; omega)
  have hG2 := grown_trans hG1 hg2
  have ho2 := ho1.grownb hg2 (by omega)
  have hz2 := hR2.lt
  clear hx hR1 hG1 ho1 hs1 hg2
  have hx3 : x = 0 ∨ x = 1 := by omega
  clear hx1 hx2
  rcases hx3 with rfl | rfl
  · go_wp2_with fail
    refine (l03DrawPerm_ok b n _ hs2 (by omega)).mono ?_
    rintro e w3 ⟨a3, c3, p, rfl, hp, ho3, hs3, hg3⟩
    have hR3 := hR2.grown hg3 (by simp; omega)
    have hG3 := grown_trans hG2 hg3
    have ho23 := ho2.grownb hg3 (by omega)
    have HP := Lib.hid hp
    have hz3 := hR3.lt
    clear hp hR2 hG2 ho2 hs2 hg3
    go_wp2_with fail
    refine (l03Image_any n _ _ _ _ t p _ ho23.tbl ho3.row SQ.out HP.out n1 (by omega)).mono ?_
    rintro e w4 ⟨a4, c4, vs4, rfl, ho4, hb4⟩
    have hR4 := hR3.below hb4 hz3
    have hG4 := grown_trans hG3 (grown_of_below hb4 (some b))
    have hs4 := hs3.below hb4
    have lR := hR4.one
    go_wp2
    refine bodyPost_ret (v := rAgg a4 n c4) (by simp [results, Tryz.results77, go_sem, lR]) rfl ⟨n, a4, c4, vs4, _, n1, nM, rfl, ?_, rnL_sq HP.out SQ.out, ?_, ?_⟩
    · exact (ho4.setlo (p := ⟨w.heap.size, 0, none⟩) hz3 _).mono (by omega)
    · exact hs4.setne (p := ⟨w.heap.size, 0, none⟩) hlt _
    · exact grown_set hG4 (.inr (Nat.le_refl _)) _
  · have lR := hR2.one
    go_wp2
    refine bodyPost_ret (v := rAgg a1 n c1) (by simp [results, Tryz.results77, go_sem, lR]) rfl ⟨n, a1, c1, vs1, _, n1, nM, rfl, ?_, SQ.out, ?_, ?_⟩
    · exact (ho2.setlo (p := ⟨w.heap.size, 0, none⟩) (by show w.heap.size < w.heap.size + 1; omega) _).mono (by omega)
    · exact hs2.setne (p := ⟨w.heap.size, 0, none⟩) hlt _
    · exact grown_set hG2 (.inr (Nat.le_refl _)) _
end Go.Proofs.YtpdgpgbgakinlaaGreat

namespace Go.Proofs.YtpdgpgbgakinlaaGreat
set_option maxRecDepth 100000
set_option linter.unusedVariables false
set_option linter.unusedSimpArgs false
open Go.RowKit
def cstR (n k : Nat) : List Int := (List.range n).map fun _ => (k : Int)
theorem cstR_len (n k : Nat) : (cstR n k).length = n := by simp [cstR]
theorem cstR_succ {n k j : Nat} (h : j < n) : (cstR n k).take (j + 1) = (cstR n k).take j ++ [(k : Int)] := by
  rw [List.take_succ_eq_append_getElem (by rw [cstR_len]; exact h)]; simp [cstR]
theorem cstL_succ {n k : Nat} (h : k < n) : (cstL n).take (k + 1) = (cstL n).take k ++ [cstR n k] := by
  have hl : k < (cstL n).length := by unfold cstL; rw [tabF_len]; exact h
  rw [List.take_succ_eq_append_getElem hl]
  have e := tabF_get n (fun x _ => (x : Int)) k h
  have e2 := Tbl.getD hl
  unfold cstL at *
  rw [← e2, e]; rfl
set_option maxHeartbeats 4000000 in
theorem l03Solution_any (a : Option Addr) (n c : Nat) (f : List (List Int)) (w : World) (h : Tbl w a n f) (hf : Sq n f) (hn1 : 1 ≤ n) (hn : n ≤ 12) :
    Calls Tryz.prog 65 #[rAgg a n c] w fun e w' => ∃ a1 c1 vs a1' c1' vs', e = .returned (sAgg a1 n c1 a1' n c1') ∧ OwnS w' w.heap.size a1 n c1 vs f a1' n c1' vs' (cstL n) ∧ Below w.heap.size w w' := by
  have hA := (Loc.new w rfl #[.slice a n c] 45).alloc (.cells #[.slice none 0 0, .slice none 0 0] 26)
  have hR := Loc.new (w.alloc (.cells #[.slice a n c] 45)) rfl #[.slice none 0 0, .slice none 0 0] 26
  rw [size_alloc] at hR
  have hB := below_al (below_al (Below.refl w.heap.size w) (.cells #[.slice a n c] 45)) (.cells #[.slice none 0 0, .slice none 0 0] 26)
  have hlen : ∀ x ∈ f, x.length ≤ 1000000 := fun x hx => by
    obtain ⟨i, hi, rfl⟩ := List.getElem_of_mem hx
    have := hf.row (show i < n by have := hf.len; omega)
    rw [Tbl.getD hi] at this; omega
  have HLEN := Lib.hid hlen; have HF := Lib.hid hf
  clear hlen hf
  go_enter Tryz.func65, Tryz.ntmps65
  have lA := hA.one
  go_wp2_with fail
  generalize (w.alloc (.cells #[.slice a n c] 45)).alloc (.cells #[.slice none 0 0, .slice none 0 0] 26) = w0 at *
  refine (l01Own2_any _ _ _ f _ (h.below hB) (by omega) HLEN.out).mono ?_
  rintro e w1 ⟨a1, c1, vs1, rfl, ho1, hb1⟩
  have hzr : w.heap.size + 1 < w0.heap.size := hR.lt
  have hz1 := hb1.size
  have hO := Loc.new w1 rfl #[.slice a1 n c1, .slice none 0 0] 26
  have hA1 := (hA.below hb1 hA.lt)
  have hR1 := (hR.below hb1 hR.lt)
  have hq0 : Below w1.heap.size w1 (w1.alloc (.cells #[.slice a1 n c1, .slice none 0 0] 26)) := below_al (Below.refl w1.heap.size w1) _
  have hB1 := below_th hB hb1
  have lA1 := (hA1.alloc (.cells #[.slice a1 n c1, .slice none 0 0] 26)).one
  clear hA hR hB lA hb1
  go_wp2
  clear lA1
  go_loopw [4] (fun i wr => ∃ (k : Nat) (az : Option Addr) (cz : Nat) (vz : List SV), k ≤ n ∧ i = .int .i64 k ∧ Loc wr w1.heap.size #[.slice a1 n c1, .slice az k cz] 26 ∧ OwnT wr (w1.heap.size + 1) az k cz vz ((cstL n).take k) ∧ Below w1.heap.size w1 wr) (fun i _ => n - (intOf i).toNat)
  case atStart => exact ⟨0, none, 0, [], Nat.zero_le _, rfl, hO, by simpa using OwnT.nil _ _, hq0⟩
  case round =>
    clear hO hq0
    obtain ⟨k, az, cz, vz, hk, rfl, hO, ho, hq⟩ := hrel
    have hAr := hA1.below hq hA1.lt
    have lA := hAr.one
    have hOlt := hO.lt
    by_cases hlt : k < n
    · have lA2 := (hAr.alloc (.cells #[] 2)).one
      have hE := Own.empty0 wr (lo := wr.heap.size) rfl (Nat.le_refl _)
      have hqe := below_al (Below.refl wr.heap.size wr) (.cells #[] 2)
      go_wp2
      clear lA lA2
      go_loopw [5, 6] (fun z i wq => ∃ (j : Nat) (ar : Option Addr) (cr : Nat), j ≤ n ∧ i = .int .i64 j ∧ z = .slice ar j cr ∧ Own wq wr.heap.size ar j cr ((cstR n k).take j) ∧ Below wr.heap.size wr wq) (fun _ i _ => n - (intOf i).toNat)
      case atStart => exact ⟨0, _, 0, Nat.zero_le _, rfl, rfl, by simpa using hE, hqe⟩
      case round =>
        clear hE hqe
        obtain ⟨j, ar, cr, hj, rfl, rfl, hor, hqr⟩ := hrel
        have hAq := hAr.below hqr hAr.lt
        have lA := hAq.one
        by_cases hjt : j < n
        · have HS := Lib.hid (cstR_succ (k := k) hjt)
          have hwq := hqr.size
          go_wp2_with (at_builtin; refine app1 rfl rfl hor rfl rfl (by omega) hwq ?_; intro g' cc w8 hOw hg8 hs8 hb8)
          go_roundw
          case rel => exact ⟨j + 1, _, _, by omega, by go_num, rfl, by rw [HS.out]; exact hOw, hqr.trans hb8⟩
          case measure => simp [intOf]; omega
        · obtain rfl : j = n := by omega
          rw [List.take_of_length_le (by rw [cstR_len]; exact Nat.le_refl _)] at hor
          have hO3 := hO.below hqr hO.lt
          have lO := hO3.two
          have lO' := (hO3.alloc (.cells #[.slice ar j cr] 27)).two
          have ho3 := ho.below hqr
          have HS := Lib.hid (cstL_succ hlt)
          have hwq := hqr.size
          go_wp2_with (at_builtin; refine appT1 rfl rfl ho3 rfl (hor.mono (by omega)) (fun g h1 h2 => by have h3 := ho.high _ h1; have h4 := hor.lo _ h2; omega) (fun i hi g h1 h2 => by have h3 := hor.lo _ h1; have h4 := (ho.row i hi).hi _ h2; omega) rfl (by omega) (by omega) ?_; intro g' cc w9 hOT hb9; have hO9 := hO3.below hb9 (by omega); have lO9 := hO9.two)
          have hset := hO9.set 1 (.slice (some ⟨g', 0, none⟩) (k + 1) cc)
          go_roundw
          case rel => exact ⟨k + 1, _, _, _, by omega, by go_num, hset, by rw [HS.out]; exact hOT.setlo (by show w1.heap.size < _; omega) _, below_setne ((hq.trans (hqr.mono (by omega))).trans (hb9.mono (by omega))) (by show _ ≤ w1.heap.size; omega) _⟩
          case measure => simp [intOf]; omega
    · obtain rfl : k = n := by omega
      rw [List.take_of_length_le (by unfold cstL; rw [tabF_len]; exact Nat.le_refl _)] at ho
      have lO := hO.two
      have hRr := hR1.below hq hR1.lt
      have lR := hRr.two
      have hT1 := ho1.below hq
      have hap : ∀ g, TblS a1 k vs1 g → ¬ TblS az k vz g := fun g h1 h2 => by have e1 := ho1.uHi g h1; have e2 := ho.uLo g h2; omega
      go_wp2
      refine bodyPost_ret (v := sAgg a1 k c1 az k cz) (by simp [results, Tryz.results65, go_sem, lR, lO]) rfl ⟨a1, c1, vs1, az, cz, vz, rfl, ⟨?_, ?_, hap⟩, ?_⟩
      · exact ((hT1.setlo (by show w.heap.size + 1 < w0.heap.size; omega) _).setlo (by show w.heap.size + 1 < w0.heap.size; omega) _).mono (by omega)
      · exact ((ho.setlo (by show w.heap.size + 1 < w1.heap.size + 1; omega) _).setlo (by show w.heap.size + 1 < w1.heap.size + 1; omega) _).mono (by omega)
      · exact below_setne (below_setne (hB1.trans (hq.mono hB1.size)) (by show w.heap.size ≤ w.heap.size + 1; omega) _) (by show w.heap.size ≤ w.heap.size + 1; omega) _
end Go.Proofs.YtpdgpgbgakinlaaGreat

namespace Go.Proofs.YtpdgpgbgakinlaaGreat
set_option maxRecDepth 100000
set_option linter.unusedVariables false
set_option linter.unusedSimpArgs false
open Go.RowKit
set_option maxHeartbeats 4000000 in
theorem impl_Bac_l (a : Option Addr) (n c : Nat) (f : List (List Int)) (a' : Option Addr) (n' c' : Nat) (g : List (List Int)) (s : Int) (ab : Option Addr) (nb cb : Nat) (xs : List Int) (al : Option Addr) (m cl : Nat) (l : List Int) (w : World)
    (h1 : Sol w a n f a' n' g) (hm : n ≤ 9223372036854775807 ∧ n' ≤ 9223372036854775807) (hs : I64 s) (hr : Row w ab nb xs) (hnb : nb ≤ 9223372036854775807) (hx : I64s xs) (hl : Row w al m l) (hml : m ≤ 9223372036854775807) (hxl : I64s l) :
    Calls Tryz.prog 12 #[sAgg a n c a' n' c', bAgg s ab nb cb, .slice al m cl] w (RetR w (bacF f g s xs l).1 (bacF f g s xs l).2) := by
  obtain ⟨hm1, hm2⟩ := hm
  have hA := (Loc.new w rfl #[.slice a n c, .slice a' n' c'] 26).alloc (.cells #[.int .i64 s, .slice ab nb cb] 29)
  have hE := Loc.new (w.alloc (.cells #[.slice a n c, .slice a' n' c'] 26)) rfl #[.int .i64 s, .slice ab nb cb] 29
  rw [size_alloc] at hE
  have hB := below_al (below_al (Below.refl w.heap.size w) (.cells #[.slice a n c, .slice a' n' c'] 26)) (.cells #[.int .i64 s, .slice ab nb cb] 29)
  by_cases hz : ckF f g s xs l = 0
  · obtain ⟨q1, q2, q3, q4⟩ := ckF_zero hz
    have hq : bacF f g s xs l = (actL f.length f g xs l, 0) := by unfold bacF; rw [if_pos hz]
    rw [hq]
    obtain ⟨hn1, hn12, sf, sg⟩ := isSol_sq q1
    have hcc := isSol_coll q1
    have hfl := h1.f.len
    have hl2 : n' = n := by rw [h1.s.len, hfl]; have := sg.len; omega
    subst hl2
    have hml2 := hl.len
    obtain rfl : s = (m : Int) := by omega
    rw [← hfl] at hn1 hn12 sf sg hcc q4 ⊢
    have HSF := Lib.hid sf; have HSG := Lib.hid sg; have HC := Lib.hid hcc; have H1 := Lib.hid q1; have H2 := Lib.hid q2; have HZ := Lib.hid hz; have HLE := Lib.hid q4
    clear q1 q2 q3 q4 hz sf sg hcc hfl hml2 hq
    go_enter Tryz.func12, Tryz.ntmps12
    go_wp2_with fail
    generalize (w.alloc (.cells #[.slice a n' c, .slice a' n' c'] 26)).alloc (.cells #[.int .i64 m, .slice ab nb cb] 29) = w0 at *
    refine (checkAction_any _ _ _ _ _ _ f g _ _ _ _ xs _ _ _ l _ (h1.f.below hB) (h1.s.below hB) hm1 hm2 hs (hr.below hB) hnb (hl.below hB) hml).mono ?_
    rintro e w1 ⟨rfl, hb1⟩
    rw [HZ.out]
    have hA1 := hA.below hb1 hA.lt
    have hE1 := hE.below hb1 hE.lt
    have hB1 := below_th hB hb1
    have lA := hA1.two
    have lE := hE1.two
    clear hA hE hB hb1
    have tok1 : True := trivial
    go_wp2
    go_region_held3 (fun w' => (w'.cell? ⟨w.heap.size, 0, none⟩ = some (.slice a n' c) ∧ w'.cell? ⟨w.heap.size, 1, none⟩ = some (.slice a' n' c')) ∧ w'.cell? ⟨w.heap.size + 1, 0, none⟩ = some (.int .i64 m) ∧ w'.cell? ⟨w.heap.size + 1, 1, none⟩ = some (.slice ab nb cb))
      (first | exact ⟨⟨lA3.1, lA3.2.1⟩, lE3.1, lE3.2.1⟩ | exact ⟨⟨lA2.1, lA2.2.1⟩, lE2.1, lE2.2.1⟩ | exact ⟨⟨lA.1, lA.2.1⟩, lE.1, lE.2.1⟩)
      (first
        | (go_at_call 45; refine (newAction_any _ _ _ _ _ f g _ ((h1.f.below hB1).drewN 1) ((h1.s.below hB1).drewN 1) H1.out hn12).mono ?_; rintro e w2 ⟨b, d, vs, b', d', vs', rfl, ho, hb2⟩; have hq2 : Below w1.heap.size w1 w2 := (Below.drew (Below.refl _ _)).trans hb2; have lA2 := (hA1.below hq2 hA1.lt).two; have lE2 := (hE1.below hq2 hE1.lt).two)
        | (go_at_call 54; refine (lead_any _ _ _ _ _ _ _ _ _ f g m _ _ _ xs _ _ l _ (h1.f.below (below_th hB1 hq2)) (h1.s.below (below_th hB1 hq2)) ho.f.tbl ho.s.tbl hn1 HSF.out HSG.out HC.out (hr.below (below_th hB1 hq2)) H2.out (hl.below (below_th hB1 hq2)) HLE.out).mono ?_; rintro e w3 ⟨ao, co, rfl, ho3, hb3⟩; have hq3 := below_th hq2 hb3; have lA3 := (hA1.below hq3 hA1.lt).two; have lE3 := (hE1.below hq3 hE1.lt).two))
    all_goals
      go_wp2
      go_ret2
      exact ⟨_, _, _, rfl, ho3.mono (below_th hB1 hq2).size, below_th hB1 hq3⟩
  · have hq : bacF f g s xs l = ([], ckF f g s xs l) := by unfold bacF; rw [if_neg hz]
    rw [hq]
    generalize hK : ckF f g s xs l = K at *
    have hb : (K != 0) = true := by simpa using hz
    have HK := Lib.hid hK
    clear hq hz hK
    go_enter Tryz.func12, Tryz.ntmps12
    go_wp2_with fail
    generalize (w.alloc (.cells #[.slice a n c, .slice a' n' c'] 26)).alloc (.cells #[.int .i64 s, .slice ab nb cb] 29) = w0 at *
    refine (checkAction_any _ _ _ _ _ _ f g _ _ _ _ xs _ _ _ l _ (h1.f.below hB) (h1.s.below hB) hm1 hm2 hs (hr.below hB) hnb (hl.below hB) hml).mono ?_
    rintro e w1 ⟨rfl, hb1⟩
    rw [HK.out]
    go_wp2
    go_ret2
    exact ⟨none, 0, 0, rfl, Own.nil _ _, below_th hB hb1⟩
end Go.Proofs.YtpdgpgbgakinlaaGreat

namespace Go.Proofs.YtpdgpgbgakinlaaGreat
set_option maxRecDepth 100000
set_option linter.unusedVariables false
set_option linter.unusedSimpArgs false
open Go.RowKit
set_option maxHeartbeats 1000000 in
theorem impl_Ivb_ok (s : Int) (a : Option Addr) (n c : Nat) (xs : List Int) (w : World) (h1 : Row w a n xs) (hb : isBr s xs = true) :
    Calls Tryz.prog 11 #[bAgg s a n c] w (RetB w s (ivL xs) 0) := by
  obtain ⟨h26, h30, hlet⟩ := isBr_let hb
  have hl := h1.len
  have hn30 : n ≤ 30 := by omega
  have HX := Lib.hid (show ∀ x ∈ xs, -1000 ≤ x ∧ x ≤ 1000 from fun x hx => by have := hlet x hx; omega); clear hlet
  have HB := Lib.hid hb; clear hb
  have HL := Lib.hid hl; clear hl
  go_enter Tryz.func11, Tryz.ntmps11
  go_wp2_with fail
  refine (isBraid_any _ _ _ _ xs _ ((h1.alloc _).alloc _) (by omega)).mono ?_
  rintro e w1 ⟨rfl, hb1⟩
  rw [HB.out]
  have hA : Loc w1 w.heap.size _ _ := ((Loc.new _ (by simp) _ _).alloc _).below hb1 (by simp <;> omega)
  have hR : Loc w1 (w.heap.size + 1) _ _ := (Loc.new _ (by simp) _ _).below hb1 (by simp)
  have hr1 := ((h1.alloc _).alloc _).below hb1
  have hB1 : Below w.heap.size w w1 := below_alth (below_al (Below.refl _ _) _) hb1
  have lA := hA.two
  have lR := hR.two
  have z1 : w.heap.size + 1 < w1.heap.size := hR.lt
  have z0 : w.heap.size < w1.heap.size := hA.lt
  clear h1 hb1
  go_wp2_with fail
  refine (opposites_any _ _ _ xs _ hr1 (by omega) HX.out).mono ?_
  rintro e w2 ⟨a', c', rfl, ho, hb2⟩
  have hA := hA.below hb2 hA.lt
  have hR := hR.below hb2 hR.lt
  have hB2 := below_th hB1 hb2
  go_wp2_with fail
  refine (reverse_any _ _ _ _ _ _ ho).mono ?_
  rintro e w3 ⟨rfl, ho3, ht3⟩
  have hlo : ∀ k, a' = some ⟨k, 0, none⟩ → w1.heap.size ≤ k := ho.lo
  have hB3 := Touch.below hB2 ht3 (fun k h => by have := hlo k h; have := hB1.size; omega)
  have hA := (ht3.block w.heap.size (fun h => by have := hlo _ h; omega)).trans hA
  have hR := (ht3.block (w.heap.size + 1) (fun h => by have := hlo _ h; omega)).trans hR
  have hA : Loc w3 w.heap.size _ _ := hA
  have hR : Loc w3 (w.heap.size + 1) _ _ := hR
  have lA := hA.two
  have lR := hR.two
  go_wp2
  refine bodyPost_ret (v := .tuple #[bAgg s a' n c', .int .i64 0]) (by simp [results, Tryz.results11, go_sem, lR]) rfl ⟨a', _, c', rfl, ?_, ?_⟩
  · exact ((ho3.setlo (by first | omega | (simp <;> omega)) _).setlo (by first | omega | (simp <;> omega)) _).mono (by first | omega | (simp <;> omega))
  · exact (hB3.setCell (by simp) _).setCell (by simp) _
end Go.Proofs.YtpdgpgbgakinlaaGreat
