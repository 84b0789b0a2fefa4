/-
  Walks and plain laws of this seat, some texts in one.
  No condition but bounds on lengths.
-/
import Derived.Test.YtaddclaadbjnlaaGreatPs33
import Derived.Test.YtaddclaadbjnlaaGreatPs35
import Derived.Test.YtaddclaadbjnlaaGreatPs20
import Derived.ControlIn
import Derived.Deep.CutRange
import Derived.Deep.RegionHeld3
import Derived.Test.YtaddclaadbjnlaaGreatPs4
import Derived.Test.YtaddclaadbjnlaaGreatPs7
import Derived.Test.YtaddclaadbjnlaaGreatPs13
import Derived.Test.YtaddclaadbjnlaaGreatPs14
import Derived.IntWalk
namespace Go.Proofs.YtaddclaadbjnlaaGreat
set_option maxRecDepth 100000
set_option linter.unusedVariables false
set_option linter.unusedSimpArgs false
open Go.RowKit
attribute [local go_sem] Oper.semAt_some
def rnS (n : Nat) (s : T2) (p : List Int) : T2 := (rnL n s.1 p, rnL n s.2 p)
def lesF (n : Nat) (s best : T2) (p : List Int) : T2 := if cmpT (rnL n s.1 p) best.1 > 0 then best else if cmpT (rnL n s.1 p) best.1 < 0 ∨ cmpS (rnS n s p) best < 0 then rnS n s p else best
def lesK (n : Nat) (s : T2) (k : Nat) : T2 := ((prmL n).take k).foldl (lesF n s) s
def lesL (n : Nat) (s : T2) : T2 := (prmL n).foldl (lesF n s) s
theorem lesK_succ (n : Nat) (s : T2) {k : Nat} (h : k < (prmL n).length) : lesK n s (k + 1) = lesF n s (lesK n s k) ((prmL n).getD k []) := by
  unfold lesK
  rw [List.take_succ_eq_append_getElem h, List.foldl_append]
  simp [List.getD_eq_getElem?_getD, List.getElem?_eq_getElem h]
theorem lesF_cmp (n : Nat) (s best : T2) (p : List Int) : lesF n s best p = if cmpS (rnS n s p) best < 0 then rnS n s p else best := by
  unfold lesF cmpS orI
  show _ = if (if cmpT (rnL n s.1 p) best.1 = 0 then cmpT (rnL n s.2 p) best.2 else cmpT (rnL n s.1 p) best.1) < 0 then rnS n s p else best
  by_cases h1 : cmpT (rnL n s.1 p) best.1 > 0
  · rw [if_pos h1, if_neg (show ¬ cmpT (rnL n s.1 p) best.1 = 0 by omega), if_neg (by omega)]
  · rw [if_neg h1]
    by_cases h2 : cmpT (rnL n s.1 p) best.1 < 0
    · rw [if_pos (.inl h2), if_neg (show ¬ cmpT (rnL n s.1 p) best.1 = 0 by omega), if_pos h2]
    · have h3 : cmpT (rnL n s.1 p) best.1 = 0 := by omega
      rw [if_pos h3]
      have e : (rnS n s p).1 = rnL n s.1 p := rfl
      have e2 : (rnS n s p).2 = rnL n s.2 p := rfl
      have hh : (if cmpT (rnS n s p).1 best.1 = 0 then cmpT (rnS n s p).2 best.2 else cmpT (rnS n s p).1 best.1) = cmpT (rnL n s.2 p) best.2 := by rw [e, e2, if_pos h3]
      by_cases h4 : cmpT (rnL n s.2 p) best.2 < 0
      · rw [if_pos (.inr (by rw [hh]; exact h4)), if_pos h4]
      · rw [if_neg (fun h => h.elim h2 (by rw [hh]; exact h4)), if_neg h4]
theorem below_grow (w : World) (q : Nat) (os : Array Obj) : Below w.heap.size w (Go.Sort.grow (w.drewN q) os) :=
  ⟨rfl, rfl, rfl, by show w.heap.size ≤ (w.heap ++ os).size; rw [Array.size_append]; omega, fun k hk => by show (w.heap ++ os)[k]? = w.heap[k]?; exact Array.getElem?_append_left hk⟩
set_option maxHeartbeats 16000000 in
theorem leastSolution_any (N : Nat) (a1 a2 : Option Addr) (c1 c2 : Nat) (t1 t2 : List (List Int)) (w : World) (h1 : 1 ≤ N) (h4 : N ≤ 4) (hT1 : Tbl w a1 N t1) (hT2 : Tbl w a2 N t2) (hs1 : Sq N t1) (hs2 : Sq N t2) :
    Calls Tryz.prog 75 #[sAgg a1 N c1 a2 N c2] w fun e w' => ∃ b d vs b' d' vs', e = .returned (sAgg b N d b' N d') ∧ OwnS w' w.heap.size b N d vs (lesL N (t1, t2)).1 b' N d' vs' (lesL N (t1, t2)).2 ∧ Below w.heap.size w w' := by
  have HRW1 : Hid (∀ i, i < N → (t1.getD i []).length ≤ 1000000) := Lib.hid fun i hi => by rw [hs1.row hi]; omega
  have HRW2 : Hid (∀ i, i < N → (t2.getD i []).length ≤ 1000000) := Lib.hid fun i hi => by rw [hs2.row hi]; omega
  have HS1 := Lib.hid hs1; have HS2 := Lib.hid hs2
  clear hs1 hs2
  obtain ⟨wa, hwa⟩ : ∃ wa, (w.alloc (.cells #[.slice a1 N c1, .slice a2 N c2] 53)).alloc (.cells #[.slice none 0 0, .slice none 0 0] 53) = wa := ⟨_, rfl⟩
  have hza : wa.heap.size = w.heap.size + 2 := by rw [← hwa]; simp
  have hBa : Below w.heap.size w wa := by rw [← hwa]; exact below_al (below_al (Below.refl _ _) _) _
  have hLa : Loc wa w.heap.size #[.slice a1 N c1, .slice a2 N c2] 53 := by rw [← hwa]; exact (Loc.new w rfl _ _).alloc _
  have hRa : Loc wa (w.heap.size + 1) #[.slice none 0 0, .slice none 0 0] 53 := by rw [← hwa]; exact Loc.new _ (by simp) _ _
  have lLa := hLa.two
  have hTa1 := (hT1.below hBa).drewN 1
  have hTa2 := (hT2.below hBa).drewN 1
  have HZA := Lib.hid hza
  have HWA := Lib.hid hwa
  clear hza hwa
  refine (callsIn_wide (n := 3)).1 ?_
  refine callsIn_of_wp_marks Tryz.func75 rfl trivial ?_ rfl
  simp only [Tryz.ntmps75, List.size_toArray, List.length_cons, List.length_nil, Nat.reduceAdd, Nat.reduceSub, Array.replicate_succ, Array.replicate_zero, List.push_toArray, List.append_toArray, List.nil_append, List.cons_append]
  refine wpIn_wide.2 ?_
  go_upto_region 1 with fail
  rw [HWA.out]
  have hsa := hLa.lt
  have hsb := hRa.lt
  go_cut [3] from 8 to 14 (fun s3 wx => InvMade wa N t1 t2 s3 wx)
  case first =>
    have tok1 : True := trivial
    go_region_held3 (fun w' => w'.cell? ⟨w.heap.size, 0, none⟩ = some (.slice a1 N c1) ∧ w'.cell? ⟨w.heap.size, 1, none⟩ = some (.slice a2 N c2))
      (first | exact ⟨lM.1, lM.2.1⟩ | exact ⟨lD.1, lD.2.1⟩ | exact ⟨lC.1, lC.2.1⟩ | exact ⟨lB'.1, lB'.2.1⟩ | exact ⟨lB.1, lB.2.1⟩ | exact ⟨lA'.1, lA'.2.1⟩ | exact ⟨lLa.1, lLa.2.1⟩ | go_keep)
      (first
        | (go_at_call 90; have _t := tok1; refine (cloneTable_any _ _ _ t1 _ (hT1.below (below_drewN hBa 1)) (by omega) HRW1.out).mono ?_; rintro e w2 ⟨aA, cA, VSa, rfl, hoA, hb2⟩; clear _t tok1; have tok2 : True := trivial; have hq2 : Below wa.heap.size wa w2 := (Below.drew (Below.refl _ _)).trans hb2; have lB := (hLa.below hq2 hLa.lt).two; have lB' := ((hLa.below hq2 hLa.lt).alloc zBox).two)
        | (go_at_call 90; have _t := tok1; refine (cloneTable_any _ _ _ t1 _ ((hT1.below (below_drewN hBa 1)).alloc _) (by omega) HRW1.out).mono ?_; rintro e w2 ⟨aA, cA, VSa, rfl, hoA, hb2⟩; clear _t tok1; have tok3 : True := trivial; have hO2 : Loc w2 wa.heap.size _ _ := (Loc.new (wa.drewN 1) rfl #[.slice none 0 0, .slice none 0 0] 53).below hb2 (by simp); have hq2 : Below wa.heap.size wa w2 := below_alth (below_drewN (Below.refl wa.heap.size wa) 1) hb2; have lB := (hLa.below hq2 hLa.lt).two)
        | (go_at_call 90; have _t := tok2; refine (cloneTable_any _ _ _ t2 _ (hT2.below (below_th hBa hq2)) (by omega) HRW2.out).mono ?_; rintro e w3 ⟨aB, cB, VSb, rfl, hoB, hb3⟩; clear _t tok2; have hq3 : Below wa.heap.size wa w3 := below_th hq2 hb3; have lC := (hLa.below hq3 hLa.lt).two; have lD := ((hLa.below hq3 hLa.lt).alloc zBox).two; have lM := ((hLa.below hq3 hLa.lt).alloc (.cells #[.slice aA N cA, .slice aB N cB] 53)).two)
        | (go_at_call 90; have _t := tok2; refine (cloneTable_any _ _ _ t2 _ ((hT2.below (below_th hBa hq2)).alloc _) (by omega) HRW2.out).mono ?_; rintro e w3 ⟨aB, cB, VSb, rfl, hoB, hb3⟩; clear _t tok2; have lO := ((Loc.new w2 rfl #[.slice none 0 0, .slice none 0 0] 53).below hb3 (by simp)).two; have hq3 : Below wa.heap.size wa w3 := below_alth hq2 hb3; have lC := (hLa.below hq3 hLa.lt).two; have lM := (((hLa.below hq3 hLa.lt).setne (a := ⟨w2.heap.size, 0, none⟩) (by have := hq2.size; show w.heap.size ≠ w2.heap.size; omega) (.slice aA N cA)).setne (a := ⟨w2.heap.size, 1, none⟩) (by have := hq2.size; show w.heap.size ≠ w2.heap.size; omega) (.slice aB N cB)).two)
        | (go_at_call 90; have _t := tok3; refine (cloneTable_any _ _ _ t2 _ (hT2.below (below_th hBa hq2)) (by omega) HRW2.out).mono ?_; rintro e w3 ⟨aB, cB, VSb, rfl, hoB, hb3⟩; clear _t tok3; have lO := (hO2.below hb3 hO2.lt).two; have hq3 : Below wa.heap.size wa w3 := below_th hq2 hb3; have lC := (hLa.below hq3 hLa.lt).two; have lM := (((hLa.below hq3 hLa.lt).setne (a := ⟨wa.heap.size, 0, none⟩) (by have := hq2.size; show w.heap.size ≠ wa.heap.size; omega) (.slice aA N cA)).setne (a := ⟨wa.heap.size, 1, none⟩) (by have := hq2.size; show w.heap.size ≠ wa.heap.size; omega) (.slice aB N cB)).two))
    all_goals (go_wp2_with fail; go_meet; first | exact made_end hoA hq2 hoB hb3 | exact made_mid hoA hq2 hoB hb3 | exact made_first (below_drewN (Below.refl _ _) 1) rfl hoA hb2 hoB hb3)
  case rest =>
    obtain ⟨B4, b, d, vs, b', d', vs', rfl, hB4, hO, ho, hap, hq⟩ := hcut
    have lLx := (hLa.below hq hLa.lt).two
    go_wp2_with fail
    refine (perms_any N _).mono ?_
    rintro e w4 ⟨rfl, rfl⟩
    go_wp2_with fail
    have hz4 : wa.heap.size ≤ wc.heap.size := hq.size
    have hB4c : B4 < wc.heap.size := hO.lt
    have hBc := below_th hBa hq
    have hLc := hLa.below hq hLa.lt
    have hRc := hRa.below hq hRa.lt
    obtain ⟨W0, hW0⟩ : ∃ W0, wc.alloc (.cells #[.int .i64 N] 3) = W0 := ⟨_, rfl⟩
    rw [hW0]
    have hs0 : W0.heap.size = wc.heap.size + 1 := by rw [← hW0]; simp
    have hB0 : Below w.heap.size w W0 := by rw [← hW0]; exact below_al hBc _
    have hLT : Loc W0 w.heap.size #[.slice a1 N c1, .slice a2 N c2] 53 := by rw [← hW0]; exact hLc.alloc _
    have hRT : Loc W0 (w.heap.size + 1) #[.slice none 0 0, .slice none 0 0] 53 := by rw [← hW0]; exact hRc.alloc _
    have hLM : Loc W0 B4 #[.slice b N d, .slice b' N d'] 53 := by rw [← hW0]; exact hO.alloc _
    have hLN : Loc W0 wc.heap.size #[.int .i64 N] 3 := by rw [← hW0]; exact Loc.new wc rfl _ _
    have hoM : OwnS W0 (w.heap.size + 2) b N d vs t1 b' N d' vs' t2 := by rw [← hW0]; exact (ho.alloc _).mono (by have := HZA.out; omega)
    have hhi : ∀ g, SolS b N vs b' N vs' g → g < wc.heap.size := fun g hg => ho.uHi g hg
    have hza : wa.heap.size = w.heap.size + 2 := HZA.out
    have HM := Lib.hid (prm_bd h1 h4)
    have HPP := Lib.hid (prm_isP h1 h4)
    have HHI := Lib.hid hhi
    have HAP := Lib.hid hap
    have hsz2 : w.heap.size + 2 ≤ wc.heap.size := by omega
    have hB42 : w.heap.size + 2 ≤ B4 := by omega
    clear hW0 hhi hap hza
    refine (wpIn_wide (n := 3)).1 ?_
    refine wpIn_rangeFunc_it (n := 3) rfl (by omega) (gf := 126) (lb := #[.pointer (some ⟨wc.heap.size, 0, none⟩)]) rfl trivial (enters_of Tryz.func126 (by kernel_rfl) rfl)
      (perms1_it _ N wc.heap.size W0 (by omega) hLN.one.1 h1 h4) (Below.refl _ _) rfl
      (fun bb k W => ∃ x1 d1 v1 x2 d2 v2, Loc W B4 #[.slice x1 N d1, .slice x2 N d2] 53 ∧ OwnS W (w.heap.size + 2) x1 N d1 v1 (lesK N (t1, t2) k).1 x2 N d2 v2 (lesK N (t1, t2) k).2 ∧ (∀ g, SolS x1 N v1 x2 N v2 g → g ≠ bb ∧ g ≠ B4 ∧ g ≠ W0.heap.size ∧ g ≠ W0.heap.size + 1) ∧ bb < W.heap.size ∧
        Loc W w.heap.size #[.slice a1 N c1, .slice a2 N c2] 53 ∧ Loc W (w.heap.size + 1) #[.slice none 0 0, .slice none 0 0] 53 ∧ Below w.heap.size w W)
      ?start ?abide
      (fun bb c => { tmps := #[sAgg a1 N c1 a2 N c2, .pointer (some ⟨w.heap.size, 0, none⟩), .pointer (some ⟨w.heap.size + 1, 0, none⟩), .pointer (some ⟨B4, 0, none⟩), .slice (some ⟨bb, 0, none⟩) N c, undef, undef, undef, u8, u9, u10, u11, u12, u13, u14,
        .pointer (some ⟨w.heap.size, 0, none⟩), .slice a1 N c1, .int .i64 N, .func (.func 126) #[] #[.pointer (some ⟨wc.heap.size, 0, none⟩)], .slice (some ⟨bb, 0, none⟩) N c,
        undef, undef, undef, undef, undef, undef, undef, undef, undef, undef, undef, undef, undef, undef, undef, undef, undef, undef, undef, undef, undef, undef, undef, undef, undef, undef], defers := [] })
      ?assign ?body ?done
    case start =>
      intro bb W' hbb hlt hB
      exact ⟨b, d, vs, b', d', vs', hLM.below hB (by omega), ⟨OwnT.keep hoM.f fun g h1 h2 => hB.block g (by have := HHI.out g (.inl h1); omega), OwnT.keep hoM.s fun g h1 h2 => hB.block g (by have := HHI.out g (.inr h1); omega), hoM.ap⟩, fun g hg => by have := HHI.out g hg; have := HAP.out g hg; omega, hlt, hLT.below hB (by omega), hRT.below hB (by omega), hB0.trans (hB.mono (by omega))⟩
    case abide =>
      rintro bb k A B r hr hb ⟨x1, d1, v1, x2, d2, v2, q1, q2, q3, q4, q5, q5', q6⟩ hg
      have hne : ∀ g, (g < W0.heap.size) → some g ≠ some r := fun g hg e => by cases e; omega
      refine ⟨x1, d1, v1, x2, d2, v2, q1.grown hg (hne _ (by omega)), ⟨OwnT.keep q2.f fun g h1 h2 => hg.block g h2 (fun e => ?_), OwnT.keep q2.s fun g h1 h2 => hg.block g h2 (fun e => ?_), q2.ap⟩, q3, by have := hg.size; omega, q5.grown hg (hne _ (by omega)), q5'.grown hg (hne _ (by omega)), q6.grown hg q6.size (fun j e => by cases e; omega)⟩
      · have e' : g = r := by injection e
        have h3 := q3 g (.inl h1)
        omega
      · have e' : g = r := by injection e
        have h3 := q3 g (.inr h1)
        omega
    case assign =>
      intro l bb c W K hK
      gi_wp2
      exact hK
    case body =>
      rintro l bb c k W hb hkM ⟨x1, d1, v1, x2, d2, v2, hL, hoB, hav, hbW, hLt, hRt, hB⟩ hs hown
      have hpk := HPP.out k hkM
      have lL := hL.two
      have lT := hLt.two
      have hTW1 := hT1.below hB
      have hTW2 := hT2.below hB
      have HAV := Lib.hid hav
      have HKK := Lib.hid (lesK_succ N (t1, t2) hkM)
      obtain ⟨p, HP⟩ : ∃ p, Hid ((prmL N).getD k [] = p) := ⟨_, Lib.hid rfl⟩
      rw [HP.out] at hpk hown HKK
      have HPK := Lib.hid hpk
      obtain ⟨best, HBE⟩ : ∃ best, Hid (lesK N (t1, t2) k = best) := ⟨_, Lib.hid rfl⟩
      rw [HBE.out] at hoB HKK
      clear hav hpk
      obtain ⟨C, HC⟩ : ∃ C, Hid (cmpT (rnL N t1 p) best.1 = C) := ⟨_, Lib.hid rfl⟩
      obtain ⟨D, HD⟩ : ∃ D, Hid (cmpS (rnL N t1 p, rnL N t2 p) (best.1, best.2) = D) := ⟨_, Lib.hid rfl⟩
      have hC64 : -1 ≤ C ∧ C ≤ 1 := by rw [← HC.out]; exact cmpT_bd _ _
      have hD64 : -1 ≤ D ∧ D ≤ 1 := by rw [← HD.out]; exact cmpS_bd _ _
      obtain ⟨hC1, hC2⟩ := hC64
      obtain ⟨hD1, hD2⟩ := hD64
      have tok1 : True := trivial
      by_cases hC : 0 < C
      · have HKN : Hid (lesK N (t1, t2) (k + 1) = best) := Lib.hid (by rw [HKK.out]; unfold lesF; exact if_pos (by show cmpT (rnL N t1 p) best.1 > 0; rw [HC.out]; exact hC))
        gi_wp2_with (first
          | (refine ⟨trivial, ?_⟩; gi_at_call 96; have _t := tok1; refine (CallsIn.inRound l (callsIn_wide.2 (renamed_any N _ _ _ _ t1 p W hTW1 hown.row HS1.out HPK.out (by omega)))).mono ?_; rintro e w5 ⟨a5, c5, vs5, rfl, ho5, hb5⟩; clear _t tok1; have tok2 : True := trivial; have hL5 := hL.below hb5 hL.lt; have lL5 := hL5.two)
          | (refine ⟨trivial, ?_⟩; gi_at_call 97; refine (CallsIn.inRound l (callsIn_wide.2 (compareTables_any _ _ _ _ _ _ _ _ w5 ho5.tbl (hoB.f.below hb5).tbl (by omega)))).mono ?_; rintro e w6 ⟨rfl, rfl⟩; rw [HC.out]))
        have hz5 := hb5.size
        refine ⟨⟨x1, d1, v1, x2, d2, v2, hL5, ?_, HAV.out, by omega, hLt.below hb5 hLt.lt, hRt.below hb5 hRt.lt, hB.trans (hb5.mono hB.size)⟩, hb5.block _ hbW, by omega, hb5.block _ (by omega), hb5.block _ (by omega)⟩
        rw [HKN.out]
        exact hoB.below hb5
      · by_cases hC0 : C < 0
        · have HKN : Hid (lesK N (t1, t2) (k + 1) = (rnL N t1 p, rnL N t2 p)) := Lib.hid (by rw [HKK.out]; unfold lesF; exact (if_neg (by show ¬ cmpT (rnL N t1 p) best.1 > 0; rw [HC.out]; exact hC)).trans (if_pos (.inl (by show cmpT (rnL N t1 p) best.1 < 0; rw [HC.out]; exact hC0))))
          gi_wp2_with (first
            | (refine ⟨trivial, ?_⟩; gi_at_call 96; have _t := tok1; refine (CallsIn.inRound l (callsIn_wide.2 (renamed_any N _ _ _ _ t1 p W hTW1 hown.row HS1.out HPK.out (by omega)))).mono ?_; rintro e w5 ⟨a5, c5, vs5, rfl, ho5, hb5⟩; clear _t tok1; have tok2 : True := trivial; have hL5 := hL.below hb5 hL.lt; have lL5 := hL5.two; have lT5 := (hLt.below hb5 hLt.lt).two)
            | (refine ⟨trivial, ?_⟩; gi_at_call 97; refine (CallsIn.inRound l (callsIn_wide.2 (compareTables_any _ _ _ _ _ _ _ _ w5 ho5.tbl (hoB.f.below hb5).tbl (by omega)))).mono ?_; rintro e w6 ⟨rfl, rfl⟩; rw [HC.out])
            | (refine ⟨trivial, ?_⟩; gi_at_call 96; have _t := tok2; refine (CallsIn.inRound l (callsIn_wide.2 (renamed_any N _ _ _ _ t2 p w5 (hTW2.below hb5) (hown.row.below hb5) HS2.out HPK.out (by omega)))).mono ?_; rintro e w6 ⟨a6, c6, vs6, rfl, ho6, hb6⟩; have hL6 := hL5.below hb6 hL5.lt; have lL6 := hL6.two; have hO7 := Loc.new w6 rfl #[.slice a5 N c5, .slice a6 N c6] 53; have lO7 := hO7.two; have lL7 := (hL6.alloc (.cells #[.slice a5 N c5, .slice a6 N c6] 53)).two)
            | (refine ⟨trivial, ?_⟩))
          have hz5 := hb5.size
          have hz6 := hb6.size
          have hb56' : Below W.heap.size W w6 := hb5.trans (hb6.mono hz5)
          have hbV : Below W.heap.size W (w6.alloc (.cells #[.slice a5 N c5, .slice a6 N c6] 53)) := hb56'.trans ((below_al (Below.refl w6.heap.size w6) _).mono (by omega))
          have hoF : OwnT (w6.alloc (.cells #[.slice a5 N c5, .slice a6 N c6] 53)) W.heap.size a5 N c5 vs5 (rnL N t1 p) := (ho5.below hb6).alloc _
          have hoG : OwnT (w6.alloc (.cells #[.slice a5 N c5, .slice a6 N c6] 53)) W.heap.size a6 N c6 vs6 (rnL N t2 p) := (ho6.alloc _).mono hz5
          have hap6 : ∀ g, TblS a5 N vs5 g → ¬ TblS a6 N vs6 g := fun g h1 h2 => by have := ho5.uHi g h1; have := ho6.uLo g h2; omega
          have hlV : Loc (w6.alloc (.cells #[.slice a5 N c5, .slice a6 N c6] 53)) B4 #[.slice x1 N d1, .slice x2 N d2] 53 := hL.below hbV hL.lt
          have hzV := hbV.size
          have lo5 : ∀ g, SolS a5 N vs5 a6 N vs6 g → W.heap.size ≤ g := fun g hg => hg.elim (fun h => hoF.uLo g h) (fun h => hoG.uLo g h)
          have hLtV := hLt.below hbV hLt.lt
          have hRtV := hRt.below hbV hRt.lt
          have hBV : Below w.heap.size w (w6.alloc (.cells #[.slice a5 N c5, .slice a6 N c6] 53)) := hB.trans (hbV.mono hB.size)
          have hblk := fun q (hq : q < W.heap.size) => hbV.block q hq
          generalize (w6.alloc (.cells #[.slice a5 N c5, .slice a6 N c6] 53)) = V at *
          have hsc : ∀ q, q ≠ B4 → ((V.setCell ⟨B4, 0, none⟩ (.slice a5 N c5)).setCell ⟨B4, 1, none⟩ (.slice a6 N c6)).heap[q]? = V.heap[q]? := fun q hq => (Below.heap_setCell _ _ _ _ hq).trans (Below.heap_setCell _ _ _ _ hq)
          refine ⟨⟨a5, c5, vs5, a6, c6, vs6, (hlV.set 0 _).set 1 _, ?_, ?_, by rw [size_set, size_set]; omega, ?_, ?_, ?_⟩, ?_, by rw [size_set, size_set]; omega, ?_, ?_⟩
          · rw [HKN.out]
            exact ⟨(OwnT.keep hoF fun g h1 h2 => hsc g (by have := hoF.uLo g h1; omega)).mono (by omega), (OwnT.keep hoG fun g h1 h2 => hsc g (by have := hoG.uLo g h1; omega)).mono (by omega), hap6⟩
          · intro g hg
            have := lo5 g hg
            omega
          · exact (hsc _ (by omega)).trans hLtV
          · exact (hsc _ (by omega)).trans hRtV
          · exact (hBV.setCell (by show w.heap.size ≤ B4; omega) _).setCell (by show w.heap.size ≤ B4; omega) _
          · exact (hsc _ (by omega)).trans (hblk _ hbW)
          · exact (hsc _ (by omega)).trans (hblk _ (by omega))
          · exact (hsc _ (by omega)).trans (hblk _ (by omega))
        · have hC3 : C = 0 := by omega
          subst hC3
          by_cases hD0 : D < 0
          · have HKN : Hid (lesK N (t1, t2) (k + 1) = (rnL N t1 p, rnL N t2 p)) := Lib.hid (by rw [HKK.out, lesF_cmp]; exact if_pos (by show cmpS (rnL N t1 p, rnL N t2 p) (best.1, best.2) < 0; rw [HD.out]; exact hD0))
            gi_wp2_with (first
              | (refine ⟨trivial, ?_⟩; gi_at_call 96; have _t := tok1; refine (CallsIn.inRound l (callsIn_wide.2 (renamed_any N _ _ _ _ t1 p W hTW1 hown.row HS1.out HPK.out (by omega)))).mono ?_; rintro e w5 ⟨a5, c5, vs5, rfl, ho5, hb5⟩; clear _t tok1; have tok2 : True := trivial; have hL5 := hL.below hb5 hL.lt; have lL5 := hL5.two; have lT5 := (hLt.below hb5 hLt.lt).two)
              | (refine ⟨trivial, ?_⟩; gi_at_call 97; refine (CallsIn.inRound l (callsIn_wide.2 (compareTables_any _ _ _ _ _ _ _ _ w5 ho5.tbl (hoB.f.below hb5).tbl (by omega)))).mono ?_; rintro e w6 ⟨rfl, rfl⟩; rw [HC.out])
              | (refine ⟨trivial, ?_⟩; gi_at_call 96; have _t := tok2; refine (CallsIn.inRound l (callsIn_wide.2 (renamed_any N _ _ _ _ t2 p w5 (hTW2.below hb5) (hown.row.below hb5) HS2.out HPK.out (by omega)))).mono ?_; rintro e w6 ⟨a6, c6, vs6, rfl, ho6, hb6⟩; have hL6 := hL5.below hb6 hL5.lt; have lL6 := hL6.two; have hO7 := Loc.new w6 rfl #[.slice a5 N c5, .slice a6 N c6] 53; have lO7 := hO7.two; have hL7 := (hL6.alloc (.cells #[.slice a5 N c5, .slice a6 N c6] 53)); have lL7 := hL7.two; have hb56 : Below W.heap.size W w6 := hb5.trans (hb6.mono hb5.size); have hz56 : W.heap.size ≤ w6.heap.size := hb56.size)
              | (refine ⟨trivial, ?_⟩; gi_at_call 78; refine (CallsIn.inRound l (callsIn_wide.2 (compareSolutions_any a5 a6 x1 x2 N N N N c5 c6 d1 d2 (rnL N t1 p) (rnL N t2 p) best.1 best.2 _ ((ho5.below hb6).alloc _).tbl (ho6.alloc _).tbl ((hoB.f.below hb56).alloc _).tbl ((hoB.s.below hb56).alloc _).tbl (by omega) (by omega)))).mono ?_; rintro e w8 ⟨rfl, qn, os', hw8⟩; rw [HD.out]; have hb8 : Below (w6.alloc (.cells #[.slice a5 N c5, .slice a6 N c6] 53)).heap.size (w6.alloc (.cells #[.slice a5 N c5, .slice a6 N c6] 53)) w8 := (by rw [hw8]; exact below_grow _ _ _); clear hw8; have hL8 := hL7.below hb8 hL7.lt; have lL8 := hL8.two; have hO8 := hO7.below hb8 hO7.lt; have lO8 := hO8.two))
            have hz5 := hb5.size
            have hz6 := hb6.size
            have hb56' : Below W.heap.size W w6 := hb5.trans (hb6.mono hz5)
            have hbV : Below W.heap.size W w8 := (hb56'.trans ((below_al (Below.refl w6.heap.size w6) (.cells #[.slice a5 N c5, .slice a6 N c6] 53)).mono (by omega))).trans (hb8.mono (by rw [size_alloc]; omega))
            have hoF : OwnT w8 W.heap.size a5 N c5 vs5 (rnL N t1 p) := ((ho5.below hb6).alloc _).below hb8
            have hoG : OwnT w8 W.heap.size a6 N c6 vs6 (rnL N t2 p) := ((ho6.alloc _).below hb8).mono hz5
            have hap6 : ∀ g, TblS a5 N vs5 g → ¬ TblS a6 N vs6 g := fun g h1 h2 => by have := ho5.uHi g h1; have := ho6.uLo g h2; omega
            have hlV : Loc w8 B4 #[.slice x1 N d1, .slice x2 N d2] 53 := hL.below hbV hL.lt
            have hzV := hbV.size
            have lo5 : ∀ g, SolS a5 N vs5 a6 N vs6 g → W.heap.size ≤ g := fun g hg => hg.elim (fun h => hoF.uLo g h) (fun h => hoG.uLo g h)
            have hLtV := hLt.below hbV hLt.lt
            have hRtV := hRt.below hbV hRt.lt
            have hBV : Below w.heap.size w w8 := hB.trans (hbV.mono hB.size)
            have hblk := fun q (hq : q < W.heap.size) => hbV.block q hq
            generalize w8 = V at *
            have hsc : ∀ q, q ≠ B4 → ((V.setCell ⟨B4, 0, none⟩ (.slice a5 N c5)).setCell ⟨B4, 1, none⟩ (.slice a6 N c6)).heap[q]? = V.heap[q]? := fun q hq => (Below.heap_setCell _ _ _ _ hq).trans (Below.heap_setCell _ _ _ _ hq)
            refine ⟨⟨a5, c5, vs5, a6, c6, vs6, (hlV.set 0 _).set 1 _, ?_, ?_, by rw [size_set, size_set]; omega, ?_, ?_, ?_⟩, ?_, by rw [size_set, size_set]; omega, ?_, ?_⟩
            · rw [HKN.out]
              exact ⟨(OwnT.keep hoF fun g h1 h2 => hsc g (by have := hoF.uLo g h1; omega)).mono (by omega), (OwnT.keep hoG fun g h1 h2 => hsc g (by have := hoG.uLo g h1; omega)).mono (by omega), hap6⟩
            · intro g hg
              have := lo5 g hg
              omega
            · exact (hsc _ (by omega)).trans hLtV
            · exact (hsc _ (by omega)).trans hRtV
            · exact (hBV.setCell (by show w.heap.size ≤ B4; omega) _).setCell (by show w.heap.size ≤ B4; omega) _
            · exact (hsc _ (by omega)).trans (hblk _ hbW)
            · exact (hsc _ (by omega)).trans (hblk _ (by omega))
            · exact (hsc _ (by omega)).trans (hblk _ (by omega))
          · have HKN : Hid (lesK N (t1, t2) (k + 1) = best) := Lib.hid (by rw [HKK.out, lesF_cmp]; exact if_neg (by show ¬ cmpS (rnL N t1 p, rnL N t2 p) (best.1, best.2) < 0; rw [HD.out]; exact hD0))
            gi_wp2_with (first
              | (refine ⟨trivial, ?_⟩; gi_at_call 96; have _t := tok1; refine (CallsIn.inRound l (callsIn_wide.2 (renamed_any N _ _ _ _ t1 p W hTW1 hown.row HS1.out HPK.out (by omega)))).mono ?_; rintro e w5 ⟨a5, c5, vs5, rfl, ho5, hb5⟩; clear _t tok1; have tok2 : True := trivial; have hL5 := hL.below hb5 hL.lt; have lL5 := hL5.two; have lT5 := (hLt.below hb5 hLt.lt).two)
              | (refine ⟨trivial, ?_⟩; gi_at_call 97; refine (CallsIn.inRound l (callsIn_wide.2 (compareTables_any _ _ _ _ _ _ _ _ w5 ho5.tbl (hoB.f.below hb5).tbl (by omega)))).mono ?_; rintro e w6 ⟨rfl, rfl⟩; rw [HC.out])
              | (refine ⟨trivial, ?_⟩; gi_at_call 96; have _t := tok2; refine (CallsIn.inRound l (callsIn_wide.2 (renamed_any N _ _ _ _ t2 p w5 (hTW2.below hb5) (hown.row.below hb5) HS2.out HPK.out (by omega)))).mono ?_; rintro e w6 ⟨a6, c6, vs6, rfl, ho6, hb6⟩; have hL6 := hL5.below hb6 hL5.lt; have lL6 := hL6.two; have hO7 := Loc.new w6 rfl #[.slice a5 N c5, .slice a6 N c6] 53; have lO7 := hO7.two; have hL7 := (hL6.alloc (.cells #[.slice a5 N c5, .slice a6 N c6] 53)); have lL7 := hL7.two; have hb56 : Below W.heap.size W w6 := hb5.trans (hb6.mono hb5.size); have hz56 : W.heap.size ≤ w6.heap.size := hb56.size)
              | (refine ⟨trivial, ?_⟩; gi_at_call 78; refine (CallsIn.inRound l (callsIn_wide.2 (compareSolutions_any a5 a6 x1 x2 N N N N c5 c6 d1 d2 (rnL N t1 p) (rnL N t2 p) best.1 best.2 _ ((ho5.below hb6).alloc _).tbl (ho6.alloc _).tbl ((hoB.f.below hb56).alloc _).tbl ((hoB.s.below hb56).alloc _).tbl (by omega) (by omega)))).mono ?_; rintro e w8 ⟨rfl, qn, os', hw8⟩; rw [HD.out]; have hb8 : Below (w6.alloc (.cells #[.slice a5 N c5, .slice a6 N c6] 53)).heap.size (w6.alloc (.cells #[.slice a5 N c5, .slice a6 N c6] 53)) w8 := (by rw [hw8]; exact below_grow _ _ _); clear hw8; have hL8 := hL7.below hb8 hL7.lt; have lL8 := hL8.two; have hO8 := hO7.below hb8 hO7.lt; have lO8 := hO8.two))
            have hz5 := hb5.size
            have hz6 := hb6.size
            have hb8' : Below W.heap.size W w8 := by
              have := hb56.trans ((below_al (Below.refl w6.heap.size w6) (.cells #[.slice a5 N c5, .slice a6 N c6] 53)).mono hz56)
              exact this.trans (hb8.mono (by rw [size_alloc]; omega))
            have hz8 := hb8'.size
            refine ⟨⟨x1, d1, v1, x2, d2, v2, hL8, ?_, HAV.out, by omega, hLt.below hb8' hLt.lt, hRt.below hb8' hRt.lt, hB.trans (hb8'.mono hB.size)⟩, hb8'.block _ hbW, by omega, hb8'.block _ (by omega), hb8'.block _ (by omega)⟩
            rw [HKN.out]
            exact hoB.below hb8'
    case done =>
      rintro bb W hb ⟨x1, d1, v1, x2, d2, v2, hL, hoB, hav, hbW, hLt, hRt, hB⟩ hK
      have lL := hL.two
      have lR := hRt.two
      have HAV := Lib.hid hav
      have hE : lesK N (t1, t2) (prmL N).length = lesL N (t1, t2) := by unfold lesK lesL; rw [List.take_length]
      rw [hE] at hoB
      clear hav hE
      have hsc : ∀ q, q ≠ w.heap.size + 1 → ((W.setCell ⟨w.heap.size + 1, 0, none⟩ (.slice x1 N d1)).setCell ⟨w.heap.size + 1, 1, none⟩ (.slice x2 N d2)).heap[q]? = W.heap[q]? := fun q hq => (Below.heap_setCell _ _ _ _ hq).trans (Below.heap_setCell _ _ _ _ hq)
      have hF : Loc ((W.setCell ⟨w.heap.size + 1, 0, none⟩ (.slice x1 N d1)).setCell ⟨w.heap.size + 1, 1, none⟩ (.slice x2 N d2)) (w.heap.size + 1) #[.slice x1 N d1, .slice x2 N d2] 53 := (hRt.set 0 _).set 1 _
      have hBF : Below w.heap.size w ((W.setCell ⟨w.heap.size + 1, 0, none⟩ (.slice x1 N d1)).setCell ⟨w.heap.size + 1, 1, none⟩ (.slice x2 N d2)) := (hB.setCell (by show w.heap.size ≤ w.heap.size + 1; omega) _).setCell (by show w.heap.size ≤ w.heap.size + 1; omega) _
      have hoF : OwnS ((W.setCell ⟨w.heap.size + 1, 0, none⟩ (.slice x1 N d1)).setCell ⟨w.heap.size + 1, 1, none⟩ (.slice x2 N d2)) (w.heap.size + 2) x1 N d1 v1 (lesL N (t1, t2)).1 x2 N d2 v2 (lesL N (t1, t2)).2 :=
        ⟨OwnT.keep hoB.f fun g h1 h2 => hsc g (by have := hoB.f.uLo g h1; omega), OwnT.keep hoB.s fun g h1 h2 => hsc g (by have := hoB.s.uLo g h1; omega), hoB.ap⟩
      have hKF := (hsc W0.heap.size (by omega)).trans hK
      go_wp2
      refine ⟨by simp, .inl ⟨_, _, rfl, run_takeDeferred hKF, ?_⟩⟩
      generalize (W.setCell ⟨w.heap.size + 1, 0, none⟩ (.slice x1 N d1)).setCell ⟨w.heap.size + 1, 1, none⟩ (.slice x2 N d2) = V at *
      have hP : Loc (V.putObj W0.heap.size (Obj.deferred none)) (w.heap.size + 1) #[.slice x1 N d1, .slice x2 N d2] 53 := (World.putObj_heap_other (by omega)).trans hF
      have lP := hP.two
      refine ⟨sAgg x1 N d1 x2 N d2, by simp [results, Tryz.results75, go_sem, lP], x1, d1, v1, x2, d2, v2, rfl, ?_, ?_⟩
      · exact OwnS.mono ⟨OwnT.keep hoF.f fun g hg hlt => World.putObj_heap_other (HAV.out g (.inl hg)).2.2.1, OwnT.keep hoF.s fun g hg hlt => World.putObj_heap_other (HAV.out g (.inr hg)).2.2.1, hoF.ap⟩ (by omega)
      · exact hBF.grown (grownBy_putObj' _ _ _) hBF.size (fun j e => by cases e; omega)
end Go.Proofs.YtaddclaadbjnlaaGreat
namespace Go.Proofs.YtaddclaadbjnlaaGreat
set_option maxRecDepth 100000
set_option linter.unusedVariables false
set_option linter.unusedSimpArgs false
def trnL (n : Nat) (t : List (List Int)) : List (List Int) := tabF n fun x y => ((tv t y x : Nat) : Int)
theorem trnL_tv {n : Nat} {t : List (List Int)} {x y : Nat} (hx : x < n) (hy : y < n) : tv (trnL n t) x y = tv t y x := by
  unfold trnL
  conv => lhs; unfold tv
  rw [tabF_get _ _ _ hx]
  simp only [List.getD_eq_getElem?_getD, List.getElem?_map, List.getElem?_range hy, Option.map_some, Option.getD_some, Int.toNat_natCast]
  simp only [tv, List.getD_eq_getElem?_getD]
theorem trnL_sq {n : Nat} {t : List (List Int)} (h : Sq n t) : Sq n (trnL n t) := by
  refine ⟨tabF_len _ _, fun x hx => ?_⟩
  have e : (trnL n t).getD x [] = (List.range n).map fun y => ((tv t y x : Nat) : Int) := tabF_get _ _ _ hx
  refine ⟨by rw [e]; simp, fun y hy => ⟨by rw [trnL_tv hx hy]; exact h.lt hy hx, ?_⟩⟩
  rw [trnL_tv hx hy, e]
  simp [List.getD_eq_getElem?_getD, hy]
def ndF (f g : List (List Int)) : Bool := f.all permOk && (trnL f.length g).all permOk
end Go.Proofs.YtaddclaadbjnlaaGreat
namespace Go.Proofs.YtaddclaadbjnlaaGreat
set_option maxRecDepth 100000
set_option linter.unusedVariables false
set_option linter.unusedSimpArgs false
open Go.RowKit
set_option maxHeartbeats 4000000 in
theorem transposed1_any (n bt : Nat) (tt : TypeId) (at_ : Option Addr) (ct : Nat) (t : List (List Int)) (w : World) (ht : Loc w bt #[.slice at_ n ct] tt)
    (h1 : Tbl w at_ n t) (hs : Sq n t) (hn : n ≤ 12) (x y : Nat) (hx : x < n) (hy : y < n) :
    Calls Tryz.prog 147 #[.int .i64 x, .int .i64 y, .pointer (some ⟨bt, 0, none⟩)] w fun e w' => e = .returned (.int .i64 ((tv t y x : Nat) : Int)) ∧ ∃ m, w' = w.drewN m := by
  obtain ⟨b, off, A, O, C, rfl, G⟩ := h1.grid hs (by omega)
  have g4 := G.look hy hx
  obtain ⟨v, HV⟩ : ∃ v, Hid (tv t y x = v) := ⟨_, rfl⟩
  rw [HV.out] at g4 ⊢
  have l2 := ht.one
  have i1 : (0 : Int) ≤ (x : Int) := by omega
  have i2 : (x : Int) < (n : Int) := by omega
  have i3 : (0 : Int) ≤ (y : Int) := by omega
  have i4 : (y : Int) < (n : Int) := by omega
  go_enter Tryz.func147, Tryz.ntmps147
  go_wp2
  go_ret
  exact ⟨rfl, 0, rfl⟩
theorem ent_trn1 : Ent 147 := fun _ _ => rfl
set_option maxHeartbeats 4000000 in
theorem transposed_any (n : Nat) (at_ : Option Addr) (ct : Nat) (t : List (List Int)) (w : World) (h1 : Tbl w at_ n t) (hs : Sq n t) (hn : n ≤ 12) :
    Calls Tryz.prog 114 #[.slice at_ n ct] w fun e w' => ∃ a c vs, e = .returned (.slice a n c) ∧ OwnT w' w.heap.size a n c vs (trnL n t) ∧ Below w.heap.size w w' := by
  have HS := Lib.hid hs
  clear hs
  obtain ⟨w0, hw0⟩ : ∃ w0, w.alloc (.cells #[.slice at_ n ct] 32) = w0 := ⟨_, rfl⟩
  have hB0 : Below w.heap.size w w0 := by rw [← hw0]; exact below_al (Below.refl _ _) _
  have hT : Loc w0 w.heap.size #[.slice at_ n ct] 32 := by rw [← hw0]; exact Loc.new w rfl _ _
  have lT := hT.one
  have hcl : ∀ x y, x < n → y < n → ∀ w3, Below w0.heap.size w0 w3 → Calls Tryz.prog 147 (#[.int .i64 x, .int .i64 y] ++ #[.pointer (some ⟨w.heap.size, 0, none⟩)]) w3 fun e w' => e = .returned (.int .i64 ((tv t y x : Nat) : Int)) ∧ Below w3.heap.size w3 w' := fun x y hx hy w3 hb3 => by
    have hB3 := below_th hB0 hb3
    refine (transposed1_any n _ _ at_ ct t w3 (hT.below hb3 hT.lt) (h1.below hB3) HS.out hn x y hx hy).mono fun e w' ⟨he, k, hk⟩ => ⟨he, ?_⟩
    rw [hk]; exact below_drewN (Below.refl _ _) k
  have HCL := Lib.hid hcl; clear hcl
  go_enter Tryz.func114, Tryz.ntmps114
  go_wp2_with fail
  refine (tableBy_any _ _ (fun x y => ((tv t y x : Nat) : Int)) n _ (by omega) ent_trn1 HCL.out).mono ?_
  rintro e w3 ⟨a, c, vs, rfl, ho, hb3⟩
  go_wp2
  go_ret
  exact ⟨_, _, _, rfl, ho.mono hB0.size, below_th hB0 hb3⟩
set_option maxHeartbeats 1000000 in
theorem l06Digits_any (n k N : Nat) (w : World) (hn1 : 1 ≤ n) (hn : n ≤ 1000000) (hk : k ≤ 1000000) (hN : N ≤ 1000000000000) :
    Calls Tryz.prog 144 #[.int .i64 N, .int .i64 n, .int .i64 k] w fun e w' => ∃ a c, e = .returned (.slice a k c) ∧ Own w' w.heap.size a k c (digL n k N) ∧ Below w.heap.size w w' := by
  go_enter Tryz.func144, Tryz.ntmps144
  go_wp2_with (at_make; refine make1 rfl rfl rfl rfl (by omega) ?_; intro w1 ho hs hb)
  have hn0 : (n : Int) ≠ 0 := by omega
  go_loopw [0, 8] (fun q i wr => ∃ j : Nat, j ≤ k ∧ i = .int .i64 ((k : Int) - 1 - j) ∧ q = .int .i64 ((N / n ^ j : Nat) : Int) ∧ Own wr w.heap.size (some ⟨w.heap.size, 0, none⟩) k k (digP n k N j) ∧ Below w.heap.size w wr) (fun _ i _ => (intOf i + 1).toNat)
  case atStart => exact ⟨0, Nat.zero_le _, by go_num, by simp, by rw [digP_zero]; exact ho, hb⟩
  case round =>
    clear ho hb
    obtain ⟨j, hj, rfl, rfl, ho, hb⟩ := hrel
    by_cases hlt : j < k
    · have hq : N / n ^ j ≤ N := Nat.div_le_self _ _
      have hst := digP_step n k N j hlt
      have hdv := div_pow_succ n j N
      obtain ⟨Q, hQ⟩ : ∃ Q, Q = N / n ^ j := ⟨_, rfl⟩
      rw [← hQ] at hq hst hdv ⊢
      have Qr : ((Q : Int)).tmod (n : Int) = ((Q % n : Nat) : Int) := by rw [Int.tmod_eq_emod_of_nonneg (by omega)]; simp
      have Qd : ((Q : Int)).tdiv (n : Int) = ((Q / n : Nat) : Int) := by rw [Int.tdiv_eq_ediv_of_nonneg (by omega)]; simp
      have b1 : Q % n ≤ Q := Nat.mod_le _ _
      have b2 : Q / n ≤ Q := Nat.div_le_self _ _
      have HST := Lib.hid hst; have HDV := Lib.hid hdv
      clear hst hdv hQ
      obtain ⟨i, hi⟩ : ∃ i : Nat, i = k - 1 - j := ⟨_, rfl⟩
      have hii : (k : Int) - 1 - (j : Int) = (i : Int) := by omega
      have hik : i < k := by omega
      rw [hii]
      have HI := Lib.hid hi; have HII := Lib.hid hii
      clear hi hii
      generalize hR : Q % n = R at *
      generalize hD : Q / n = D at *
      have HR := Lib.hid hR; have HD := Lib.hid hD; clear hR hD
      have Wr : IntKind.i64.wrap (R : Int) = (R : Int) := IntWalk.i64_in _ (by omega)
      have Wd : IntKind.i64.wrap (D : Int) = (D : Int) := IntWalk.i64_in _ (by omega)
      have Wi : IntKind.i64.wrap ((i : Int) - 1) = (i : Int) - 1 := IntWalk.i64_in _ (by omega)
      obtain ⟨_, hc, hf⟩ := ho.cells
      have hc1 := hc i hik
      have hf1 := hf i
      clear hc hf
      go_wp2
      go_roundw
      case rel =>
        refine ⟨j + 1, by omega, ?_, by rw [← HDV.out], ?_, hb.setCell (by simp) _⟩
        · have := HII.out
          congr 1
          omega
        · rw [← HST.out, ← HI.out]
          exact ho.set i _
      case measure => first | (simp [intOf]; done) | (simp [intOf]; omega)
    · obtain rfl : j = k := by omega
      have e1 : (j : Int) - 1 - (j : Int) = -1 := by omega
      rw [e1]
      rw [digP_full] at ho
      go_wp2
      go_ret
      exact ⟨_, _, rfl, ho, hb⟩
end Go.Proofs.YtaddclaadbjnlaaGreat
