/-
  Walks and plain laws of this seat, some texts in one.
  No condition but bounds on lengths.
-/
import Derived.Test.YtaddclaadbjnlaaGreatPs14
import Derived.Test.YtaddclaadbjnlaaGreatPs7
import Derived.Test.YtaddclaadbjnlaaGreatPs4
import Derived.Test.YtaddclaadbjnlaaGreatPs20
import Derived.Test.YtaddclaadbjnlaaGreatPs3
import Derived.Test.YtaddclaadbjnlaaGreatPs18
import Derived.Test.YtaddclaadbjnlaaGreatPs19
import Derived.Test.YtaddclaadbjnlaaGreatPs2
namespace Go.Proofs.YtaddclaadbjnlaaGreat
set_option maxRecDepth 100000
set_option linter.unusedVariables false
set_option linter.unusedSimpArgs false
open Go.RowKit
def cstR (n k : Nat) : List Int := (List.range n).map fun _ => (k : Int)
theorem cstR_len (n k : Nat) : (cstR n k).length = n := by simp [cstR]
theorem cstR_succ {n k j : Nat} (h : j < n) : (cstR n k).take (j + 1) = (cstR n k).take j ++ [(k : Int)] := by
  rw [List.take_succ_eq_append_getElem (by rw [cstR_len]; exact h)]; simp [cstR]
theorem cstL_succ {n k : Nat} (h : k < n) : (cstL n).take (k + 1) = (cstL n).take k ++ [cstR n k] := by
  have hl : k < (cstL n).length := by unfold cstL; rw [tabF_len]; exact h
  rw [List.take_succ_eq_append_getElem hl]
  have e := tabF_get n (fun x _ => (x : Int)) k h
  have e2 := Tbl.getD hl
  unfold cstL at *
  rw [← e2, e]; rfl
set_option maxHeartbeats 4000000 in
theorem l03Solution_any (a : Option Addr) (n c : Nat) (f : List (List Int)) (w : World) (h : Tbl w a n f) (hf : Sq n f) (hn1 : 1 ≤ n) (hn : n ≤ 12) :
    Calls Tryz.prog 115 #[rAgg a n c] w fun e w' => ∃ a1 c1 vs a1' c1' vs', e = .returned (sAgg a1 n c1 a1' n c1') ∧ OwnS w' w.heap.size a1 n c1 vs f a1' n c1' vs' (cstL n) ∧ Below w.heap.size w w' := by
  have hA := (Loc.new w rfl #[.slice a n c] 34).alloc (.cells #[.slice none 0 0, .slice none 0 0] 53)
  have hR := Loc.new (w.alloc (.cells #[.slice a n c] 34)) rfl #[.slice none 0 0, .slice none 0 0] 53
  rw [size_alloc] at hR
  have hB := below_al (below_al (Below.refl w.heap.size w) (.cells #[.slice a n c] 34)) (.cells #[.slice none 0 0, .slice none 0 0] 53)
  have hlen : ∀ x ∈ f, x.length ≤ 1000000 := fun x hx => by
    obtain ⟨i, hi, rfl⟩ := List.getElem_of_mem hx
    have := hf.row (show i < n by have := hf.len; omega)
    rw [Tbl.getD hi] at this; omega
  have HLEN := Lib.hid hlen; have HF := Lib.hid hf
  clear hlen hf
  go_enter Tryz.func115, Tryz.ntmps115
  have lA := hA.one
  go_wp2_with fail
  generalize (w.alloc (.cells #[.slice a n c] 34)).alloc (.cells #[.slice none 0 0, .slice none 0 0] 53) = w0 at *
  refine (l01Own2_any _ _ _ f _ (h.below hB) (by omega) HLEN.out).mono ?_
  rintro e w1 ⟨a1, c1, vs1, rfl, ho1, hb1⟩
  have hzr : w.heap.size + 1 < w0.heap.size := hR.lt
  have hz1 := hb1.size
  have hO := Loc.new w1 rfl #[.slice a1 n c1, .slice none 0 0] 53
  have hA1 := (hA.below hb1 hA.lt)
  have hR1 := (hR.below hb1 hR.lt)
  have hq0 : Below w1.heap.size w1 (w1.alloc (.cells #[.slice a1 n c1, .slice none 0 0] 53)) := below_al (Below.refl w1.heap.size w1) _
  have hB1 := below_th hB hb1
  have lA1 := (hA1.alloc (.cells #[.slice a1 n c1, .slice none 0 0] 53)).one
  clear hA hR hB lA hb1
  go_wp2
  clear lA1
  go_loopw [4] (fun i wr => ∃ (k : Nat) (az : Option Addr) (cz : Nat) (vz : List SV), k ≤ n ∧ i = .int .i64 k ∧ Loc wr w1.heap.size #[.slice a1 n c1, .slice az k cz] 53 ∧ OwnT wr (w1.heap.size + 1) az k cz vz ((cstL n).take k) ∧ Below w1.heap.size w1 wr) (fun i _ => n - (intOf i).toNat)
  case atStart => exact ⟨0, none, 0, [], Nat.zero_le _, rfl, hO, by simpa using OwnT.nil _ _, hq0⟩
  case round =>
    clear hO hq0
    obtain ⟨k, az, cz, vz, hk, rfl, hO, ho, hq⟩ := hrel
    have hAr := hA1.below hq hA1.lt
    have lA := hAr.one
    have hOlt := hO.lt
    by_cases hlt : k < n
    · have lA2 := (hAr.alloc (.cells #[] 2)).one
      have hE := Own.empty0 wr (lo := wr.heap.size) rfl (Nat.le_refl _)
      have hqe := below_al (Below.refl wr.heap.size wr) (.cells #[] 2)
      go_wp2
      clear lA lA2
      go_loopw [5, 6] (fun z i wq => ∃ (j : Nat) (ar : Option Addr) (cr : Nat), j ≤ n ∧ i = .int .i64 j ∧ z = .slice ar j cr ∧ Own wq wr.heap.size ar j cr ((cstR n k).take j) ∧ Below wr.heap.size wr wq) (fun _ i _ => n - (intOf i).toNat)
      case atStart => exact ⟨0, _, 0, Nat.zero_le _, rfl, rfl, by simpa using hE, hqe⟩
      case round =>
        clear hE hqe
        obtain ⟨j, ar, cr, hj, rfl, rfl, hor, hqr⟩ := hrel
        have hAq := hAr.below hqr hAr.lt
        have lA := hAq.one
        by_cases hjt : j < n
        · have HS := Lib.hid (cstR_succ (k := k) hjt)
          have hwq := hqr.size
          go_wp2_with (at_builtin; refine app1 rfl rfl hor rfl rfl (by omega) hwq ?_; intro g' cc w8 hOw hg8 hs8 hb8)
          go_roundw
          case rel => exact ⟨j + 1, _, _, by omega, by go_num, rfl, by rw [HS.out]; exact hOw, hqr.trans hb8⟩
          case measure => simp [intOf]; omega
        · obtain rfl : j = n := by omega
          rw [List.take_of_length_le (by rw [cstR_len]; exact Nat.le_refl _)] at hor
          have hO3 := hO.below hqr hO.lt
          have lO := hO3.two
          have lO' := (hO3.alloc (.cells #[.slice ar j cr] 41)).two
          have ho3 := ho.below hqr
          have HS := Lib.hid (cstL_succ hlt)
          have hwq := hqr.size
          go_wp2_with (at_builtin; refine appT1 rfl rfl ho3 rfl (hor.mono (by omega)) (fun g h1 h2 => by have h3 := ho.high _ h1; have h4 := hor.lo _ h2; omega) (fun i hi g h1 h2 => by have h3 := hor.lo _ h1; have h4 := (ho.row i hi).hi _ h2; omega) rfl (by omega) (by omega) ?_; intro g' cc w9 hOT hb9; have hO9 := hO3.below hb9 (by omega); have lO9 := hO9.two)
          have hset := hO9.set 1 (.slice (some ⟨g', 0, none⟩) (k + 1) cc)
          go_roundw
          case rel => exact ⟨k + 1, _, _, _, by omega, by go_num, hset, by rw [HS.out]; exact hOT.setlo (by show w1.heap.size < _; omega) _, below_setne ((hq.trans (hqr.mono (by omega))).trans (hb9.mono (by omega))) (by show _ ≤ w1.heap.size; omega) _⟩
          case measure => simp [intOf]; omega
    · obtain rfl : k = n := by omega
      rw [List.take_of_length_le (by unfold cstL; rw [tabF_len]; exact Nat.le_refl _)] at ho
      have lO := hO.two
      have hRr := hR1.below hq hR1.lt
      have lR := hRr.two
      have hT1 := ho1.below hq
      have hap : ∀ g, TblS a1 k vs1 g → ¬ TblS az k vz g := fun g h1 h2 => by have e1 := ho1.uHi g h1; have e2 := ho.uLo g h2; omega
      go_wp2
      refine bodyPost_ret (v := sAgg a1 k c1 az k cz) (by simp [results, Tryz.results115, go_sem, lR, lO]) rfl ⟨a1, c1, vs1, az, cz, vz, rfl, ⟨?_, ?_, hap⟩, ?_⟩
      · exact ((hT1.setlo (by show w.heap.size + 1 < w0.heap.size; omega) _).setlo (by show w.heap.size + 1 < w0.heap.size; omega) _).mono (by omega)
      · exact ((ho.setlo (by show w.heap.size + 1 < w1.heap.size + 1; omega) _).setlo (by show w.heap.size + 1 < w1.heap.size + 1; omega) _).mono (by omega)
      · exact below_setne (below_setne (hB1.trans (hq.mono hB1.size)) (by show w.heap.size ≤ w.heap.size + 1; omega) _) (by show w.heap.size ≤ w.heap.size + 1; omega) _
theorem TwistedSolution_k (a ap : Option Addr) (n c cp : Nat) (t : List (List Int)) (p : List Int) (w : World) (h1 : Tbl w a n t) (h2 : Row w ap n p) (sq : Sq n t) (n1 : 1 ≤ n) (hn : n ≤ 12) :
    Calls Tryz.prog 116 #[rAgg a n c, .slice ap n cp] w fun e w' => ∃ (K : Int) (b : Option Addr) (m d : Nat) (b' : Option Addr) (m' d' : Nat), e = .returned (.tuple #[sAgg b m d b' m' d', .int .i64 K]) ∧ Below w.heap.size w w' ∧
      Hid (K = 0 → m = n ∧ m' = n ∧ ∃ (vs : List SV) (f : List (List Int)) (vs' : List SV) (g : List (List Int)), OwnS w' w.heap.size b n d vs f b' n d' vs' g ∧ Sq n f ∧ Sq n g) := by
  refine (TwistedSolution_ok a ap n c cp t p w h1 h2 sq n1 hn).mono ?_
  rintro e w' (⟨k, hk, rfl, hb⟩ | ⟨a, c, vs, f, a', c', vs', g, rfl, ho, sf, sg, hb⟩)
  · exact ⟨k, none, 0, 0, none, 0, 0, rfl, hb, Lib.hid fun e => absurd e hk⟩
  · exact ⟨0, a, n, c, a', n, c', rfl, hb, Lib.hid fun _ => ⟨rfl, rfl, vs, f, vs', g, ho, sf, sg⟩⟩
theorem sold_alloc {b n : Nat} {w w' : World} {e : Ending} (h : SolDn b w n e w') (o : Obj) : SolDn b w n e (w'.alloc o) := by
  obtain ⟨a, c, vs, f, a', c', vs', g, he, ho, sf, sg, hs, hg⟩ := h
  exact ⟨a, c, vs, f, a', c', vs', g, he, ⟨ho.f.alloc o, ho.s.alloc o, ho.ap⟩, sf, sg, hs.below (below_al (Below.refl _ _) o), grown_alloc hg o⟩
set_option maxHeartbeats 16000000 in
theorem l06Draw_ok (M b : Nat) (w : World) (h : Src w b) (h1 : 1 ≤ M) (hM : M ≤ 12) :
    Calls Tryz.prog 73 #[.pointer (some ⟨b, 0, none⟩), .int .i64 M] w (SolD b w M) := by
  have hlt := h.lt
  have hR := Loc.new w rfl #[.slice none 0 0, .slice none 0 0] 53
  go_enter Tryz.func73, Tryz.ntmps73
  go_wp2_with fail
  refine (l01Next_ok b 3 _ (h.below (below_al (Below.refl _ _) _)) ⟨by omega, by omega⟩).mono ?_
  rintro e w1 ⟨x, rfl, _, hx, hs1, hg1⟩
  obtain ⟨hx1, hx2⟩ := hx (by omega)
  have hR1 := hR.grown hg1 (by simp; omega)
  have hG1 := grown_trans (World.grownBy_alloc w (.cells #[.slice none 0 0, .slice none 0 0] 53) (some b)) hg1
  have hz1 := hR1.lt
  clear hx hR hg1
  have hx3 : x = 0 ∨ x = 1 ∨ x = 2 := by omega
  clear hx1 hx2
  rcases hx3 with rfl | rfl | rfl
  · go_wp2_with fail
    refine (l03Draw_ok M b _ hs1 h1 hM).mono ?_
    rintro e w2 ⟨n, a2, c2, vs2, t, n1, nM, rfl, ho2, sq, hs2, hg2⟩
    have hR2 := hR1.grown hg2 (by simp; omega)
    have hG2 := grown_trans hG1 hg2
    have hz2 := hR2.lt
    go_wp2_with fail
    refine (l03Solution_any a2 n c2 t _ ho2.tbl sq n1 (by omega)).mono ?_
    rintro e w3 ⟨a3, c3, vs3, a3', c3', vs3', rfl, ho3, hb3⟩
    have hR3 := hR2.below hb3 hz2
    have hG3 := grown_trans hG2 (grown_of_below hb3 (some b))
    have hs3 := hs2.below hb3
    have lR := hR3.two
    go_wp2
    exact bodyPost_ret (v := sAgg a3 n c3 a3' n c3') (by simp [results, Tryz.results73, go_sem, lR]) rfl ⟨n, n1, nM, sol_ret ho3 hz2 hs3 hlt hG3 sq (cst_sq n)⟩
  · go_wp2_with fail
    refine (l03Draw_ok M b _ hs1 h1 hM).mono ?_
    rintro e w2 ⟨n, a2, c2, vs2, t, n1, nM, rfl, ho2, sq, hs2, hg2⟩
    have hR2 := hR1.grown hg2 (by simp; omega)
    have hG2 := grown_trans hG1 hg2
    have hz2 := hR2.lt
    have SQ := Lib.hid sq
    obtain ⟨w3, hw3⟩ : ∃ w3, w2.alloc (.cells #[.slice a2 n c2] 34) = w3 := ⟨_, rfl⟩
    have hb3 : Below w2.heap.size w2 w3 := by rw [← hw3]; exact below_al (Below.refl _ _) _
    have hA3 : Loc w3 w2.heap.size #[.slice a2 n c2] 34 := by rw [← hw3]; exact Loc.new w2 rfl _ _
    have HW3 := Lib.hid hw3
    have hR3 := hR2.below hb3 hz2
    have hG3 := grown_trans hG2 (grown_of_below hb3 (some b))
    have hs3 := hs2.below hb3
    have t3 := ho2.tbl.below hb3
    clear hw3 sq ho2 hs2 hg2 hR2 hG2 hR1 hG1 hs1
    obtain ⟨bt, ot, ar, nr, cr, rfl, lt3, g3, r3, _⟩ := t3.2 0 (by omega)
    obtain rfl : nr = n := by rw [r3.len]; exact SQ.out.row (by omega)
    rw [Nat.add_zero] at g3
    have lA := hA3.one
    have hz3 := hA3.lt
    have zn : (0 : Int) < (nr : Int) := by omega
    have zn2 : 0 < nr := by omega
    go_wp2
    try rw [HW3.out]
    go_region_held3 (fun w' => w'.cell? ⟨w2.heap.size, 0, none⟩ = some (.slice (some ⟨bt, ot, none⟩) nr c2) ∧ w'.cell? ⟨bt, ot, none⟩ = some (.slice ar nr cr))
      (first | exact lM | exact l4 | exact ⟨lA.1, g3⟩ | go_keep)
      (first
        | (go_at_call 116; refine (TwistedSolution_k _ _ nr _ _ t (t.getD 0 []) ((w3.alloc (.cells #[.slice none 0 0, .slice none 0 0] 53)).drewN 1) ((t3.alloc _).drewN 1) ((r3.alloc _).drewN 1) SQ.out n1 (by omega)).mono ?_; rintro e w4 ⟨K, b4, m4, d4, b4', m4', d4', rfl, hb4, HK⟩; have kindA : True := trivial; have q4 : Below w3.heap.size w3 w4 := (below_drewN (below_al (Below.refl w3.heap.size w3) _) 1).trans (hb4.mono (by simp)); have hO4 : Loc w4 w3.heap.size #[.slice none 0 0, .slice none 0 0] 53 := ((Loc.new w3 rfl _ _).drewN 1).below hb4 (by simp); have lO4 := hO4.two; have l4 : w4.cell? ⟨w2.heap.size, 0, none⟩ = some (.slice (some ⟨bt, ot, none⟩) nr c2) ∧ w4.cell? ⟨bt, ot, none⟩ = some (.slice ar nr cr) := ⟨(hA3.below q4 hA3.lt).one.1, (q4.cell (p := ⟨bt, ot, none⟩) lt3).trans g3⟩; have lM : ((w4.setCell ⟨w3.heap.size, 0, none⟩ (.slice b4 m4 d4)).setCell ⟨w3.heap.size, 1, none⟩ (.slice b4' m4' d4')).cell? ⟨w2.heap.size, 0, none⟩ = some (.slice (some ⟨bt, ot, none⟩) nr c2) ∧ ((w4.setCell ⟨w3.heap.size, 0, none⟩ (.slice b4 m4 d4)).setCell ⟨w3.heap.size, 1, none⟩ (.slice b4' m4' d4')).cell? ⟨bt, ot, none⟩ = some (.slice ar nr cr) := ⟨cell_setne (cell_setne l4.1 (by show w2.heap.size ≠ w3.heap.size; omega) _) (by show w2.heap.size ≠ w3.heap.size; omega) _, cell_setne (cell_setne l4.2 (by show bt ≠ w3.heap.size; omega) _) (by show bt ≠ w3.heap.size; omega) _⟩)
        | (go_at_call 116; refine (TwistedSolution_k _ _ nr _ _ t (t.getD 0 []) (w3.drewN 1) (t3.drewN 1) (r3.drewN 1) SQ.out n1 (by omega)).mono ?_; rintro e w4 ⟨K, b4, m4, d4, b4', m4', d4', rfl, hb4, HK⟩; have kindB : True := trivial; have q4 : Below w3.heap.size w3 w4 := (below_drewN (Below.refl w3.heap.size w3) 1).trans hb4; have l4 : w4.cell? ⟨w2.heap.size, 0, none⟩ = some (.slice (some ⟨bt, ot, none⟩) nr c2) ∧ w4.cell? ⟨bt, ot, none⟩ = some (.slice ar nr cr) := ⟨(hA3.below q4 hA3.lt).one.1, (q4.cell (p := ⟨bt, ot, none⟩) lt3).trans g3⟩))
    all_goals
    have hR4 := hR3.below q4 (by omega)
    have hG4 := grown_trans hG3 (grown_of_below q4 (some b))
    have hs4 := hs3.below q4
    have hz4 := hR4.lt
    have hzz := q4.size
    have hb3z := hs3.lt
    all_goals first
    | (have kind := kindA
       obtain ⟨w5, hw5⟩ : ∃ w5, (w4.setCell ⟨w3.heap.size, 0, none⟩ (.slice b4 m4 d4)).setCell ⟨w3.heap.size, 1, none⟩ (.slice b4' m4' d4') = w5 := ⟨_, rfl⟩
       have hO5 : Loc w5 w3.heap.size #[.slice b4 m4 d4, .slice b4' m4' d4'] 53 := by rw [← hw5]; exact (hO4.set 0 _).set 1 _
       have hR5 : Loc w5 w.heap.size #[.slice none 0 0, .slice none 0 0] 53 := by rw [← hw5]; exact (hR4.setne (by show w.heap.size ≠ w3.heap.size; omega) _).setne (by show w.heap.size ≠ w3.heap.size; omega) _
       have hs5 : Src w5 b := by rw [← hw5]; exact (hs4.setne (by show b < w3.heap.size; omega) _).setne (by show b < w3.heap.size; omega) _
       have hG5 : w.grownBy w5 (some b) := by rw [← hw5]; exact grown_set (grown_set hG4 (.inr (by show w.heap.size ≤ w3.heap.size; omega)) _) (.inr (by show w.heap.size ≤ w3.heap.size; omega)) _
       have HS5 : Hid (∀ (lo : Nat) (vs : List SV) (f : List (List Int)) (vs' : List SV) (g : List (List Int)), w3.heap.size < lo → OwnS w4 lo b4 nr d4 vs f b4' nr d4' vs' g → OwnS w5 lo b4 nr d4 vs f b4' nr d4' vs' g) := Lib.hid fun lo vs f vs' g hl ho => by
         rw [← hw5]
         exact ⟨(ho.f.setlo (by show w3.heap.size < lo; omega) _).setlo (by show w3.heap.size < lo; omega) _, (ho.s.setlo (by show w3.heap.size < lo; omega) _).setlo (by show w3.heap.size < lo; omega) _, ho.ap⟩
       have hz5 := hR5.lt
       have hloA : w3.heap.size < ((w3.alloc (.cells #[.slice none 0 0, .slice none 0 0] 53)).drewN 1).heap.size := by simp
       try rw [hw5]
       clear l4 lM hb4 hw5 hO4 lO4 hR4 hs4 hG4
       by_cases hK : K = 0
       · subst hK
         obtain ⟨rfl, rfl, vs4, f4, vs4', g4, ho4, sf, sg⟩ := HK.out rfl
         have lO := hO5.two
         have lR := hR5.two
         go_wp2
         exact bodyPost_ret (v := sAgg b4 m4' d4 b4' m4' d4') (by simp [results, Tryz.results73, go_sem, lR, lO]) rfl ⟨m4', n1, nM, sol_ret (HS5.out _ _ _ _ _ hloA ho4) (by omega) hs5 hlt hG5 sf sg⟩
       · have hK2 : (K == 0) = false := by simpa using hK
         go_wp2_with fail
         refine (l02Draw_ok M b _ hs5 h1 hM).mono ?_
         rintro e w6 ⟨n6, n61, n6M, a6, c6, vs6, f6, a6', c6', vs6', g6, rfl, ho6, sf, sg, hs6, hg6⟩
         have hR6 := hR5.grown hg6 (by simp; omega)
         have lR := hR6.two
         have hG6 := grown_trans hG5 hg6
         go_wp2
         exact bodyPost_ret (v := sAgg a6 n6 c6 a6' n6 c6') (by simp [results, Tryz.results73, go_sem, lR]) rfl ⟨n6, n61, n6M, sol_ret ho6 hz5 hs6 hlt hG6 sf sg⟩)
    | (have kind := kindB
       clear l4 hb4
       by_cases hK : K = 0
       · subst hK
         obtain ⟨rfl, rfl, vs4, f4, vs4', g4, ho4, sf, sg⟩ := HK.out rfl
         have hb5 : Below w4.heap.size w4 (w4.alloc (.cells #[.slice b4 m4' d4, .slice b4' m4' d4'] 53)) := below_al (Below.refl _ _) _
         have hO5 := Loc.new w4 rfl #[.slice b4 m4' d4, .slice b4' m4' d4'] 53
         have lO := hO5.two
         have lR := hR4.two
         have hF : Loc (((w4.setCell ⟨w.heap.size, 0, none⟩ (.slice b4 m4' d4)).setCell ⟨w.heap.size, 1, none⟩ (.slice b4' m4' d4')).alloc (.cells #[.slice b4 m4' d4, .slice b4' m4' d4'] 53)) w.heap.size #[.slice b4 m4' d4, .slice b4' m4' d4'] 53 := ((hR4.set 0 _).set 1 _).alloc _
         have lF := hF.two
         go_wp2
         exact bodyPost_ret (v := sAgg b4 m4' d4 b4' m4' d4') (by simp [results, Tryz.results73, go_sem, lF]) rfl ⟨m4', n1, nM, sold_alloc (sol_ret ho4 (by show w.heap.size < w3.heap.size; omega) hs4 hlt hG4 sf sg) _⟩
       · have hK2 : (K == 0) = false := by simpa using hK
         have hb5 : Below w4.heap.size w4 (w4.alloc (.cells #[.slice b4 m4 d4, .slice b4' m4' d4'] 53)) := below_al (Below.refl _ _) _
         have hR5 := hR4.below hb5 hz4
         have hz5 := hR5.lt
         have hG5 := grown_trans hG4 (grown_of_below hb5 (some b))
         have hs5 := hs4.below hb5
         go_wp2_with fail
         refine (l02Draw_ok M b _ hs5 h1 hM).mono ?_
         rintro e w6 ⟨n6, n61, n6M, a6, c6, vs6, f6, a6', c6', vs6', g6, rfl, ho6, sf, sg, hs6, hg6⟩
         have hR6 := hR5.grown hg6 (by simp; omega)
         have lR := hR6.two
         have hG6 := grown_trans hG5 hg6
         go_wp2
         exact bodyPost_ret (v := sAgg a6 n6 c6 a6' n6 c6') (by simp [results, Tryz.results73, go_sem, lR]) rfl ⟨n6, n61, n6M, sol_ret ho6 hz5 hs6 hlt hG6 sf sg⟩)
  · go_wp2_with fail
    refine (l02Draw_ok M b _ hs1 h1 hM).mono ?_
    rintro e w6 ⟨n6, n61, n6M, a6, c6, vs6, f6, a6', c6', vs6', g6, rfl, ho6, sf, sg, hs6, hg6⟩
    have hR6 := hR1.grown hg6 (by simp; omega)
    have lR := hR6.two
    have hG6 := grown_trans hG1 hg6
    go_wp2
    exact bodyPost_ret (v := sAgg a6 n6 c6 a6' n6 c6') (by simp [results, Tryz.results73, go_sem, lR]) rfl ⟨n6, n61, n6M, sol_ret ho6 hz1 hs6 hlt hG6 sf sg⟩
theorem below_grown {w0 w w' : World} {b : Nat} (h : Below w0.heap.size w0 w) (hg : w.grownBy w' (some b)) (hb : w0.heap.size ≤ b) : Below w0.heap.size w0 w' := h.grown hg h.size (fun k hk => by cases hk; exact hb)
def DrS (w : World) (e : Ending) (w' : World) : Prop :=
  ∃ (n : Nat) (a : Option Addr) (c : Nat) (vs : List SV) (f : List (List Int)) (a' : Option Addr) (c' : Nat) (vs' : List SV) (g : List (List Int)), 1 ≤ n ∧ n ≤ 6 ∧ e = .returned (sAgg a n c a' n c') ∧ OwnS w' w.heap.size a n c vs f a' n c' vs' g ∧ Below w.heap.size w w'
theorem wrap_s64 {P : Nat} (h : P ≤ 1000) : wrap64 ((P : Int) + 1) = ((P + 1 : Nat) : Int) := (IntWalk.wrap64_in _ (by omega)).trans (by simp)
theorem wrap_si64 {P : Nat} (h : P ≤ 1000) : IntKind.i64.wrap ((P : Int) + 1) = ((P + 1 : Nat) : Int) := (IntWalk.i64_in _ (by omega)).trans (by simp)
set_option maxHeartbeats 16000000 in
theorem DrawDerivedRack_ok (a : Option Addr) (n c : Nat) (xs : List Int) (w : World) (h : Bts w a n xs) (hn : n ≤ 9223372036854775807) :
    Calls Tryz.prog 74 #[.slice a n c] w (DrS w) := by
  go_enter Tryz.func74, Tryz.ntmps74
  have hR := Loc.new w rfl #[.slice none 0 0, .slice none 0 0] 53
  go_wp2_with fail
  refine (l01From_ok a n c xs _ (h.below (below_al (Below.refl _ _) _)) hn).mono ?_
  rintro e w1 ⟨b, rfl, hb, hs1, hb1⟩
  have hR1 := hR.below hb1 hR.lt
  have hB1 := below_alth (Below.refl _ _) hb1
  rw [size_alloc] at hb
  have hlb := hs1.lt
  go_wp2_with fail
  refine (l06Draw_ok 6 b _ hs1 (by omega) (by omega)).mono ?_
  rintro e w2 ⟨n2, n1, nM, a2, c2, vs2, f, a2', c2', vs2', g, rfl, ho2, sf, sg, hs2, hg2⟩
  have hR2 := hR1.grown hg2 (by simp; omega)
  have hB2 := below_grown hB1 hg2 (by omega)
  have hz2 := hR2.lt
  have hzz2 := hg2.size
  have hw01 := hB1.size
  obtain ⟨w3, hw3⟩ : ∃ w3, w2.alloc (.cells #[.slice a2 n2 c2, .slice a2' n2 c2'] 53) = w3 := ⟨_, rfl⟩
  have hb3 : Below w2.heap.size w2 w3 := by rw [← hw3]; exact below_al (Below.refl _ _) _
  have hX3 : Loc w3 w2.heap.size #[.slice a2 n2 c2, .slice a2' n2 c2'] 53 := by rw [← hw3]; exact Loc.new w2 rfl _ _
  have HW3 := Lib.hid hw3
  have hR3 := hR2.below hb3 hz2
  have hB3 := below_th hB2 hb3
  have hs3 := hs2.below hb3
  have ho3 := ho2.below hb3
  have HF := Lib.hid ho2.f.uHi
  have SF := Lib.hid sf
  clear hw3 hR hR1 hR2 hB1 hB2 hs1 hs2 ho2 sf sg hg2 hb1
  go_wp2_with fail
  try rw [HW3.out]
  refine (l01Next_ok b 12 _ hs3 ⟨by omega, by omega⟩).mono ?_
  rintro e w4 ⟨x, rfl, _, hx, hs4, hg4⟩
  clear hx
  have hX4 := hX3.grown hg4 (by simp; omega)
  have hR4 := hR3.grown hg4 (by simp; omega)
  have hB4 := below_grown hB3 hg4 (by omega)
  have ho4 := ho3.grownb hg4 (by omega)
  have hz4 := hX4.lt
  have lX := hX4.two
  have lR := hR4.two
  clear hX3 hR3 hB3 hs3 ho3 hg4
  by_cases hx0 : x = 0
  · subst hx0
    have zn : (0 : Int) < (n2 : Int) := by omega
    have zn2 : 0 < n2 := by omega
    obtain ⟨gb, g1, k1, c1, z, e1, ev, hk1, r1, r2, r3⟩ := ho4.f.spot (u := 0) (v := 0) (by omega) (by rw [SF.out.row (by omega)]; omega)
    subst e1
    have mg1 : TblS (some ⟨gb, 0, none⟩) n2 vs2 g1 := .inr ⟨0, by omega, ev⟩
    have hg1 := HF.out g1 mg1
    have hgb := HF.out gb (.inl rfl)
    have hl1 := ho4.f.uLo g1 mg1
    have hlg := ho4.f.uLo gb (.inl rfl)
    have hgg : gb ≠ g1 := fun e => ho4.f.ap 0 (by omega) g1 (by rw [e]) ev
    have zk : (0 : Int) < (k1 : Int) := by omega
    have zk2 : 0 < k1 := by omega
    have hn26 : n2 ≤ 1000 := by omega
    have h64 : I64 ((n2 + 1 : Nat) : Int) := ⟨by omega, by omega⟩
    have hXb : some w2.heap.size ≠ some b := by simp; omega
    have hblo : b < w1.heap.size := hlb
    have hgbb : some gb ≠ some b := by simp; omega
    have hg1b : some g1 ≠ some b := by simp; omega
    have hx1 : w2.heap.size ≠ g1 := by omega
    have hfl : 0 < (f.getD 0 []).length := by rw [SF.out.row (by omega)]; omega
    have hw := wrap_s64 hn26
    have hwi := wrap_si64 hn26
    go_upto_region 4 with fail
    go_region_held3 (fun w' => w'.cell? ⟨w2.heap.size, 0, none⟩ = some (.slice (some ⟨gb, 0, none⟩) n2 c2) ∧ w'.cell? ⟨gb, 0, none⟩ = some (.slice (some ⟨g1, 0, none⟩) k1 c1))
      (first | exact lM | exact l5 | exact ⟨lX.1, r1⟩ | go_keep)
      (first
        | (go_at_call 57; refine (l01Next_ok b ((n2 + 1 : Nat) : Int) _ (hs4.below (below_drewN (Below.refl _ _) 1)) h64).mono ?_; rintro e w5 ⟨y, rfl, _, _, hs5, hg5'⟩; have hg5 : w4.grownBy w5 (some b) := grown_trans (grown_of_below (below_drewN (Below.refl _ _) 1) (some b)) hg5'; have hX5 := hX4.grown hg5 hXb; have ho5 := ho4.grownb hg5 hblo; have l5 : w5.cell? ⟨w2.heap.size, 0, none⟩ = some (.slice (some ⟨gb, 0, none⟩) n2 c2) ∧ w5.cell? ⟨gb, 0, none⟩ = some (.slice (some ⟨g1, 0, none⟩) k1 c1) := ⟨hX5.two.1, hg5.cell (a := ⟨gb, 0, none⟩) r1 hgbb⟩; obtain ⟨_, q1, _, _, z5, e5, ev5, _, _, r5, r5f⟩ := ho5.f.spot (u := 0) (v := 0) n1 hfl; obtain rfl : q1 = g1 := by rw [ev] at ev5; cases ev5; rfl
           have lM : (w5.setCell ⟨q1, 0, none⟩ (.int .i64 y)).cell? ⟨w2.heap.size, 0, none⟩ = some (.slice (some ⟨gb, 0, none⟩) n2 c2) ∧ (w5.setCell ⟨q1, 0, none⟩ (.int .i64 y)).cell? ⟨gb, 0, none⟩ = some (.slice (some ⟨q1, 0, none⟩) k1 c1) := ⟨cell_setne l5.1 hx1 _, cell_setne l5.2 hgg _⟩))
    all_goals
      clear r5 r5f l5 lM hw hwi e5 ev5
      have hR5 := hR4.grown hg5 (by simp; omega)
      have hB5 := below_grown hB4 hg5 (by omega)
      have hX6 := hX5.setne (a := ⟨q1, 0, none⟩) (by show w2.heap.size ≠ q1; omega) (.int .i64 y)
      have hR6 := hR5.setne (a := ⟨q1, 0, none⟩) (by show w.heap.size ≠ q1; omega) (.int .i64 y)
      have lX6 := hX6.two
      have lR6 := hR6.two
      have hof := ho5.f.setrow 0 (by omega) ev 0 y
      have hos := ho5.s.uSet (p := ⟨q1, 0, none⟩) (fun q hq e => by subst e; exact ho5.ap _ mg1 hq) (.int .i64 y)
      have hB6 := below_setne (a := ⟨q1, 0, none⟩) hB5 (by show w.heap.size ≤ q1; omega) (.int .i64 y)
      go_wp2
      refine bodyPost_ret (v := sAgg (some ⟨gb, 0, none⟩) n2 c2 a2' n2 c2') (by simp [results, Tryz.results74, go_sem, lR6, lX6]) rfl ⟨n2, _, _, vs2, f.set 0 ((f.getD 0 []).set 0 y), _, _, vs2', g, n1, nM, rfl, ⟨?_, ?_, ho4.ap⟩, ?_⟩
      · exact ((hof.setlo (p := ⟨w.heap.size, 0, none⟩) (by show w.heap.size < w1.heap.size; omega) _).setlo (p := ⟨w.heap.size, 1, none⟩) (by show w.heap.size < w1.heap.size; omega) _).mono (by omega)
      · exact ((hos.setlo (p := ⟨w.heap.size, 0, none⟩) (by show w.heap.size < w1.heap.size; omega) _).setlo (p := ⟨w.heap.size, 1, none⟩) (by show w.heap.size < w1.heap.size; omega) _).mono (by omega)
      · exact (hB6.setCell (by simp) _).setCell (by simp) _
  · have hx2 : (x == 0) = false := by simpa using hx0
    go_wp2
    refine bodyPost_ret (v := sAgg a2 n2 c2 a2' n2 c2') (by simp [results, Tryz.results74, go_sem, lR, lX]) rfl ⟨n2, _, _, vs2, f, _, _, vs2', g, n1, nM, rfl, ⟨?_, ?_, ho4.ap⟩, ?_⟩
    · exact ((ho4.f.setlo (p := ⟨w.heap.size, 0, none⟩) (by show w.heap.size < w1.heap.size; omega) _).setlo (p := ⟨w.heap.size, 1, none⟩) (by show w.heap.size < w1.heap.size; omega) _).mono (by omega)
    · exact ((ho4.s.setlo (p := ⟨w.heap.size, 0, none⟩) (by show w.heap.size < w1.heap.size; omega) _).setlo (p := ⟨w.heap.size, 1, none⟩) (by show w.heap.size < w1.heap.size; omega) _).mono (by omega)
    · exact (hB4.setCell (by simp) _).setCell (by simp) _
set_option maxHeartbeats 8000000 in
theorem DrawPlaceOfSolution_ok (a : Option Addr) (n c : Nat) (xs : List Int) (w : World) (h : Bts w a n xs) (hn : n ≤ 9223372036854775807) :
    Calls Tryz.prog 31 #[.slice a n c] w fun e w' => ∃ (n' : Nat) (b1 : Option Addr) (d1 : Nat) (f : List (List Int)) (b2 : Option Addr) (d2 : Nat) (g : List (List Int)), e = .returned (sAgg b1 n' d1 b2 n' d2) ∧ 1 ≤ n' ∧ n' ≤ 6 ∧ Tbl w' b1 n' f ∧ Tbl w' b2 n' g ∧ Below w.heap.size w w' := by
  go_enter Tryz.func31, Tryz.ntmps31
  have hR := Loc.new w rfl #[.slice none 0 0, .slice none 0 0] 53
  go_wp2_with fail
  refine (l01From_ok a n c xs _ (h.below (below_al (Below.refl _ _) _)) hn).mono ?_
  rintro e w1 ⟨b, rfl, hb, hs1, hb1⟩
  have hR1 := hR.below hb1 hR.lt
  have hB1 := below_alth (Below.refl _ _) hb1
  rw [size_alloc] at hb
  have hlb := hs1.lt
  go_wp2_with fail
  refine (l06Draw_ok 3 b _ hs1 (by omega) (by omega)).mono ?_
  rintro e w2 ⟨n2, n1, nM, a2, c2, vs2, f, a2', c2', vs2', g, rfl, ho2, sf, sg, hs2, hg2⟩
  have hR2 := hR1.grown hg2 (by simp; omega)
  have hB2 := below_grown hB1 hg2 (by omega)
  have hz2 := hR2.lt
  have hzz2 := hg2.size
  have hw01 := hB1.size
  obtain ⟨w3, hw3⟩ : ∃ w3, w2.alloc (.cells #[.slice a2 n2 c2, .slice a2' n2 c2'] 53) = w3 := ⟨_, rfl⟩
  have hb3 : Below w2.heap.size w2 w3 := by rw [← hw3]; exact below_al (Below.refl _ _) _
  have hA3 : Loc w3 w2.heap.size #[.slice a2 n2 c2, .slice a2' n2 c2'] 53 := by rw [← hw3]; exact Loc.new w2 rfl _ _
  have hR3 := hR2.below hb3 hR2.lt
  have hs3 := hs2.below hb3
  have hB3 := below_th hB2 hb3
  have hT3 := ho2.f.tbl.below hb3
  have hT3' := ho2.s.tbl.below hb3
  have hlb2 := hs2.lt
  go_wp2_with fail
  refine (l01Next_ok b 12 _ hs3 ⟨by omega, by omega⟩).mono ?_
  rintro e w4 ⟨x, rfl, _, hx, hs4, hg4⟩
  have hR4 := hR3.grown hg4 (by simp; omega)
  have hA4 := hA3.grown hg4 (by simp; omega)
  have hB4 := below_grown hB3 hg4 (by omega)
  have ho4f := (ho2.f.below hb3).grownb hg4 (by omega)
  have ho4s := (ho2.s.below hb3).grownb hg4 (by omega)
  have hz3 := hb3.size
  have hz4 := hg4.size
  by_cases hx0 : x = 0
  · subst hx0
    go_wp2_with fail
    refine (DrawDerivedRack_ok a n c xs _ (h.below hB4) hn).mono ?_
    rintro e w5 ⟨n5, a5, c5, vs5, f5, a5', c5', vs5', g5, q1, q6, rfl, ho5, hb5⟩
    have hR5 := hR4.below hb5 hR4.lt
    have hB5 := below_th hB4 hb5
    have lR5 := hR5.two
    have hz5 := hb5.size
    have hRx := (hR5.set 0 (.slice a5 n5 c5)).set 1 (.slice a5' n5 c5')
    have lRx := hRx.two
    go_wp2
    refine bodyPost_ret (v := sAgg a5 n5 c5 a5' n5 c5') (by simp [results, Tryz.results31, go_sem, lRx, lR5]) rfl ⟨n5, a5, c5, f5, a5', c5', g5, rfl, q1, q6, ?_, ?_, ?_⟩
    · exact (((ho5.f.setlo (by show w.heap.size < w4.heap.size; omega) _).setlo (by show w.heap.size < w4.heap.size; omega) _)).tbl
    · exact (((ho5.s.setlo (by show w.heap.size < w4.heap.size; omega) _).setlo (by show w.heap.size < w4.heap.size; omega) _)).tbl
    · exact below_setne (below_setne hB5 (Nat.le_refl _) _) (Nat.le_refl _) _
  · have e0 : (x == 0) = false := by simpa using hx0
    have lA4 := hA4.two
    have lR4 := hR4.two
    have hRx := (hR4.set 0 (.slice a2 n2 c2)).set 1 (.slice a2' n2 c2')
    have lRx := hRx.two
    go_wp2
    refine bodyPost_ret (v := sAgg a2 n2 c2 a2' n2 c2') (by simp [results, Tryz.results31, go_sem, lRx, lR4]) rfl ⟨n2, a2, c2, f, a2', c2', g, rfl, n1, by omega, ?_, ?_, ?_⟩
    · exact (((ho4f.setlo (by show w.heap.size < w1.heap.size; omega) _).setlo (by show w.heap.size < w1.heap.size; omega) _)).tbl
    · exact (((ho4s.setlo (by show w.heap.size < w1.heap.size; omega) _).setlo (by show w.heap.size < w1.heap.size; omega) _)).tbl
    · exact below_setne (below_setne hB4 (Nat.le_refl _) _) (Nat.le_refl _) _
end Go.Proofs.YtaddclaadbjnlaaGreat
