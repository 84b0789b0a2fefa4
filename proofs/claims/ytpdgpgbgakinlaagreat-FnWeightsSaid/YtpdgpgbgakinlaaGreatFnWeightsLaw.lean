/-
  The walk of the law of weights: it answers true.
  No condition.
-/
import Derived.Test.YtpdgpgbgakinlaaGreatPa43
import Derived.Test.YtpdgpgbgakinlaaGreatPa46
import Derived.Test.YtpdgpgbgakinlaaGreatPa38
import Derived.Test.YtpdgpgbgakinlaaGreatPa39
import Derived.Test.YtpdgpgbgakinlaaGreatPa35
import Derived.Test.YtpdgpgbgakinlaaGreatPa32
import Derived.Test.YtpdgpgbgakinlaaGreatPa37
import Derived.Deep.DeepCutAuto
namespace Go.Proofs.YtpdgpgbgakinlaaGreat
set_option maxRecDepth 100000
set_option linter.unusedVariables false
set_option linter.unusedSimpArgs false
open Go.RowKit
theorem wq_row {n : Nat} {m : Int} {gs : List Int} (hl : gs.length = n) (h : ∀ x ∈ gs, 0 ≤ x ∧ x < m) : rowOk n m gs = true := by
  unfold rowOk
  rw [Bool.and_eq_true]
  refine ⟨by simp; omega, ?_⟩
  rw [List.all_eq_true]
  intro x hx
  have := h x hx
  unfold rngB; simp; omega
theorem less_i64W {n : Nat} (hn : n ≤ 1000000) {l : List Int} (h : Less n l) : I64s l := fun x hx => by
  obtain ⟨i, hi, rfl⟩ := List.getElem_of_mem hx
  obtain ⟨k, hk, e⟩ := h i hi
  rw [List.getD_eq_getElem?_getD, List.getElem?_eq_getElem hi, Option.getD_some] at e
  rw [e]; exact ⟨by omega, by omega⟩
set_option maxHeartbeats 64000000 in
theorem law_Wts (a : Option Addr) (n c : Nat) (xs : List Int) (w : World) (h : Bts w a n xs) (hn : n ≤ 9223372036854775807) :
    Calls Tryz.prog 5 #[.slice a n c] w fun e w' => e = .returned (.bool true) ∧ Below w.heap.size w w' := by
  go_enter Tryz.func5, Tryz.ntmps5
  go_wp2_with fail
  refine (big_any a n c _ hn).mono ?_
  rintro e w0 ⟨rfl, rfl⟩
  by_cases hbig : 4096 < n
  · have hd : decide (4096 < n) = true := by simpa using hbig
    rw [hd]
    go_wp2
    go_ret
    exact ⟨rfl, Below.refl _ _⟩
  have hd : decide (4096 < n) = false := by simpa using hbig
  rw [hd]
  clear hd hbig
  go_wp2_with fail
  refine (DrawIsWeight_ok a n c xs _ h hn).mono ?_
  rintro e w1 ⟨a1, n1, c1, f, a2, n2, c2, g, m, am, nm, cm, F, rfl, hn1, hn2, hnm, hm1, hm2, hof, hos, hoF, hb1⟩
  have HLF : Hid (f.length = n1) := Lib.hid hof.len.symm
  obtain ⟨w2, hw2⟩ : ∃ w2, w1.alloc (.cells #[.slice a1 n1 c1, .slice a2 n2 c2] 26) = w2 := ⟨_, rfl⟩
  have hb2 : Below w1.heap.size w1 w2 := by rw [← hw2]; exact below_al (Below.refl _ _) _
  have hL3 : Loc w2 w1.heap.size #[.slice a1 n1 c1, .slice a2 n2 c2] 26 := by rw [← hw2]; exact Loc.new w1 rfl _ _
  replace hof := hof.below hb2
  replace hos := hos.below hb2
  replace hoF := hoF.below hb2
  have hB2 := below_th hb1 hb2
  have l3 := hL3.two
  have HW2 := Lib.hid hw2
  clear hw2 hb1 hb2
  obtain ⟨O, K, hOK⟩ : ∃ O K, iswF f g m F = (O, K) := ⟨_, _, rfl⟩
  obtain ⟨L, K2, hLK⟩ : ∃ L K2, wtfF f g m F = (L, K2) := ⟨_, _, rfl⟩
  have HII : Hid (∀ (v : World) (az : Option Addr) (nz cz : Nat) (Z : List (List Int)) (O' : Bool) (K' : Int), iswF f g m Z = (O', K') → Below w2.heap.size w2 v → Tbl v az nz Z → nz ≤ 9223372036854775807 → Calls Tryz.prog 13 #[sAgg a1 n1 c1 a2 n2 c2, .int .i64 m, .slice az nz cz] v (RetO v O' K')) := Lib.hid fun v az nz cz Z O' K' e q hz hnz => by have := impl_Isw_l a1 n1 c1 f a2 n2 c2 g m az nz cz Z v ⟨hof.below q, hos.below q⟩ ⟨by omega, by omega⟩ ⟨by omega, by omega⟩ hz hnz; rw [e] at this; exact this
  have HIS : Hid (∀ v : World, Below w2.heap.size w2 v → Calls Tryz.prog 22 #[sAgg a1 n1 c1 a2 n2 c2, .int .i64 m, .slice am nm cm] v (RetO v O K)) := Lib.hid fun v q => by have := spec_Isw_l a1 n1 c1 f a2 n2 c2 g m am nm cm F v ⟨hof.below q, hos.below q⟩ ⟨by omega, by omega⟩ ⟨by omega, by omega⟩ (hoF.below q) (by omega); rw [hOK] at this; exact this
  have HFI : Hid (∀ v : World, Below w2.heap.size w2 v → Calls Tryz.prog 23 #[sAgg a1 n1 c1 a2 n2 c2, .int .i64 m, .slice am nm cm] v (RetR v L K2)) := Lib.hid fun v q => by have := impl_Wtf_l a1 n1 c1 f a2 n2 c2 g m am nm cm F v ⟨hof.below q, hos.below q⟩ ⟨by omega, by omega⟩ ⟨by omega, by omega⟩ (hoF.below q) (by omega); rw [hLK] at this; exact this
  have HFS : Hid (∀ v : World, Below w2.heap.size w2 v → Calls Tryz.prog 24 #[sAgg a1 n1 c1 a2 n2 c2, .int .i64 m, .slice am nm cm] v (RetR v L K2)) := Lib.hid fun v q => by have := spec_Wtf_l a1 n1 c1 f a2 n2 c2 g m am nm cm F v ⟨hof.below q, hos.below q⟩ ⟨by omega, by omega⟩ ⟨by omega, by omega⟩ (hoF.below q) (by omega); rw [hLK] at this; exact this
  have HOK := Lib.hid hOK
  have HLK := Lib.hid hLK
  have uK : (K != K) = false := by simp
  have uK2 : (K2 != K2) = false := by simp
  have uO : (O != O) = false := by simp
  clear hOK hLK
  go_wp2_with fail
  try rw [HW2.out]
  refine (HII.out _ am nm cm F O K HOK.out (Below.refl _ _) hoF (by omega)).mono ?_
  rintro e w3 ⟨rfl, hQ3⟩
  have l3a := (hL3.below hQ3 hL3.lt).two
  go_wp2_with fail
  refine (HIS.out _ hQ3).mono ?_
  rintro e w4 ⟨rfl, hb4⟩
  have hQ4 := below_th hQ3 hb4
  have l3b := (hL3.below hQ4 hL3.lt).two
  clear l3a hQ3 hb4
  go_wp2_with fail
  refine (HFI.out _ hQ4).mono ?_
  rintro e w5 ⟨a5, n5, c5, rfl, ho5, hb5⟩
  have hQ5 := below_th hQ4 hb5
  have hz24 := hQ4.size
  have l3c := (hL3.below hQ5 hL3.lt).two
  clear l3b hQ4 hb5
  go_wp2_with fail
  refine (HFS.out _ hQ5).mono ?_
  rintro e w6 ⟨a6, n6, c6, rfl, ho6, hb6⟩
  have hQ6 := below_th hQ5 hb6
  replace ho5 := ho5.below hb6
  have hc5 := ho5.cap
  clear l3c hb6 HIS HFI HFS
  go_wp2_with fail
  refine (likeInts_same a5 a6 n5 n6 c5 c6 L _ ho5.row ho6.row (by omega)).mono ?_
  rintro e w7 ⟨rfl, hb7⟩
  have hQ7 := below_th hQ6 hb7
  replace ho5 := ho5.below hb7
  have hB7 := below_th hB2 hQ7
  have l3d := (hL3.below hQ7 hL3.lt).two
  clear ho6 uK uK2 uO hQ5 hQ6 hb7
  go_upto_if 95 with fail
  go_cut [] (fun wx => Below w.heap.size w wx)
  case first => as_aux_lemma =>
    rcases wq_facts f g m F with ⟨k0, hk0, hk1, hk2⟩ | ⟨hsol, hmx, hisw, hwtf⟩
    · have e0 := HOK.out.symm.trans hk1
      have e1 := HLK.out.symm.trans hk2
      obtain ⟨rfl, rfl⟩ : O = false ∧ K = k0 := ⟨congrArg Prod.fst e0, congrArg Prod.snd e0⟩
      have hK0 : (K == 0) = false := by simpa using hk0
      clear e0 e1 hk0 hk1 hk2
      go_wp2
      go_meet
      exact hB7
    have e0 := HOK.out.symm.trans hisw
    have e1 := HLK.out.symm.trans hwtf
    obtain ⟨hO, rfl⟩ : O = decide (wtFlt f.length f g F m = []) ∧ K = 0 := ⟨congrArg Prod.fst e0, congrArg Prod.snd e0⟩
    clear e0 hisw hwtf
    have hmb := (isMx_sq hmx).1
    have HSOL := Lib.hid hsol; have HMX := Lib.hid hmx; have HLW := Lib.hid e1; have HO := Lib.hid hO
    clear hsol hmx e1 hO
    have HRW : Hid (∀ gs : List Int, n1 = gs.length → (∀ x ∈ gs, 0 ≤ x ∧ x < m) → rowOk f.length m gs = true) := Lib.hid fun gs e q => by rw [HLF.out]; exact wq_row e.symm q
    have HBO : Hid (∀ (v : World) (al : Option Addr) (cl : Nat) (gs : List Int), Below w2.heap.size w2 v → rowOk f.length m gs = true → I64s gs → Row v al n1 gs → Calls Tryz.prog 25 #[sAgg a1 n1 c1 a2 n2 c2, .int .i64 m, .slice al n1 cl] v (RetT v (bndL f.length m f g gs) 0)) := Lib.hid fun v al cl gs q hr hi hg => by have := impl_Bou_l a1 n1 c1 f a2 n2 c2 g m al n1 cl gs v ⟨hof.below q, hos.below q⟩ ⟨by omega, by omega⟩ ⟨by omega, by omega⟩ hg (by omega) hi; rw [(wq_bound HSOL.out HMX.out hr).1] at this; exact this
    have hz2 := hQ7.size
    go_upto_region 11 with fail
    go_cut [14, 15] (fun s14 s15 wx => ∃ (a12 : Option Addr) (n12 c12 : Nat) (vs12 : List SV) (gs : List Int), s14 = .slice a12 n12 c12 ∧ s15 = .int .i64 0 ∧ Hid (rowOk f.length m gs = true) ∧ n12 ≤ 9223372036854775807 ∧ OwnT wx w7.heap.size a12 n12 c12 vs12 (bndL f.length m f g gs) ∧ Own wx w2.heap.size a5 n5 c5 L ∧ Below w2.heap.size w2 wx)
    case first =>
      go_region_held3 (fun v => v.cell? ⟨w1.heap.size, 0, none⟩ = some (.slice a1 n1 c1) ∧ v.cell? ⟨w1.heap.size, 1, none⟩ = some (.slice a2 n2 c2))
        (first | exact k12 | exact k11 | exact k10 | exact ⟨l3d.1, l3d.2.1⟩ | go_keep)
        (first
          | (go_at_call 14; refine (roll_ok a n c xs 823 _ (h.below (below_drewN hB7 1)) hn).mono ?_; rintro e w10 ⟨bd, rfl, hbd, hd10, hb10⟩; have hQ10 : Below w2.heap.size w2 w10 := below_th (below_drewN hQ7 1) hb10; have k10 : w10.cell? ⟨w1.heap.size, 0, none⟩ = some (.slice a1 n1 c1) ∧ w10.cell? ⟨w1.heap.size, 1, none⟩ = some (.slice a2 n2 c2) := ⟨((hL3.below hQ10 hL3.lt).two).1, ((hL3.below hQ10 hL3.lt).two).2.1⟩; have hbd1 : w7.heap.size ≤ bd := hbd; have hbd2 : w2.heap.size ≤ bd := (by omega); have ho10 := (ho5.drewN 1).below hb10; have hz10 : w7.heap.size ≤ w10.heap.size := hb10.size)
          | (go_at_call 26; refine (list5_ok bd n1 m _ hd10 ⟨by omega, by omega⟩ (by omega)).mono ?_; rintro e w11 ⟨a11, c11, gs, rfl, hgs, _, ho11, hd11, hg11⟩; have hQ11 : Below w2.heap.size w2 w11 := below_grown hQ10 hg11 hbd2; have k11 : w11.cell? ⟨w1.heap.size, 0, none⟩ = some (.slice a1 n1 c1) ∧ w11.cell? ⟨w1.heap.size, 1, none⟩ = some (.slice a2 n2 c2) := ⟨((hL3.below hQ11 hL3.lt).two).1, ((hL3.below hQ11 hL3.lt).two).2.1⟩; have HGS := Lib.hid (hgs (by omega)); have HGR := Lib.hid (HRW.out gs ho11.len HGS.out); have HGI : Hid (I64s gs) := Lib.hid (fun x hx => by have := HGS.out x hx; exact ⟨by omega, by omega⟩))
          | (go_at_call 25; refine (HBO.out _ a11 c11 gs hQ11 HGR.out HGI.out ho11.row).mono ?_; rintro e w12 ⟨a12, n12, c12, vs12, rfl, ho12, hb12⟩; have hQ12 := below_th hQ11 hb12; have k12 : w12.cell? ⟨w1.heap.size, 0, none⟩ = some (.slice a1 n1 c1) ∧ w12.cell? ⟨w1.heap.size, 1, none⟩ = some (.slice a2 n2 c2) := ⟨((hL3.below hQ12 hL3.lt).two).1, ((hL3.below hQ12 hL3.lt).two).2.1⟩))
      all_goals
        have hcap12 := ho12.cap
        have hz11 := hg11.size
        have ho5b : Own w12 w2.heap.size a5 n5 c5 L := ((ho10.grown hg11 (fun g e => by have := ho5.hi g e; simp; omega)).below hb12).mono (by omega)
        have ho12b := ho12.mono (lo' := w7.heap.size) (by omega)
        go_wp2
        go_meet
      all_goals exact ⟨a12, n12, c12, vs12, gs, rfl, rfl, HGR, by omega, ho12b, ho5b, hQ12⟩
    case rest =>
    obtain ⟨a12, n12, c12, vs12, gs, rfl, rfl, HGR, hn12, ho12, ho5c, hQ12⟩ := hcut
    obtain ⟨V, hV⟩ : ∃ V : World, V = wc := ⟨_, rfl⟩
    rw [← hV] at ho12 ho5c hQ12 ⊢
    clear hV ho5 l3d
    obtain ⟨_, sb2, sb3, sb4⟩ := wq_bound HSOL.out HMX.out HGR.out
    rw [← HO.out] at sb4
    have HB2 := Lib.hid sb2; have HB3 := Lib.hid sb3; have HB4 := Lib.hid sb4
    clear sb2 sb3 sb4 HBO HRW HGR
    generalize bndL f.length m f g gs = BN at *
    generalize tabF f.length (addE m F BN) = SM at *
    go_wp2_with fail
    refine (show Calls Tryz.prog 27 #[.int .i64 m, .slice am nm cm, .slice a12 n12 c12] V (RetT V SM 0) from (by have := impl_AddM_l m am nm cm F a12 n12 c12 BN V ⟨by omega, by omega⟩ (hoF.below hQ12) (by omega) ho12.tbl (by omega); rw [HB2.out] at this; exact this)).mono ?_
    rintro e w13 ⟨a13, n13, c13, vs13, rfl, ho13, hb13⟩
    have hQ13 := below_th hQ12 hb13
    have hcap13 := ho13.cap
    replace ho12 := ho12.below hb13
    replace ho5c := ho5c.below hb13
    have l3f := (hL3.below hQ13 hL3.lt).two
    go_wp2_with fail
    refine (HII.out _ a12 n12 c12 BN true 0 HB3.out hQ13 ho12.tbl hn12).mono ?_
    rintro e w14 ⟨rfl, hb14⟩
    have hQ14 := below_th hQ13 hb14
    replace ho13 := ho13.below hb14
    replace ho5c := ho5c.below hb14
    have l3g := (hL3.below hQ14 hL3.lt).two
    clear l3f hQ12 hQ13 hb13 hb14 ho12
    go_wp2_with fail
    refine (HII.out _ a13 n13 c13 SM O 0 HB4.out hQ14 ho13.tbl (by omega)).mono ?_
    rintro e w15 ⟨rfl, hb15⟩
    have hQ15 := below_th hQ14 hb15
    replace ho5c := ho5c.below hb15
    have hB15 := below_th hB2 hQ15
    have l3h := (hL3.below hQ15 hL3.lt).two
    clear l3g hQ14 hb15 ho13
    by_cases hfl : wtFlt f.length f g F m = []
    · have e0 := HO.out
      have e1 := HLW.out
      rw [wtfP_nil hfl] at e1
      obtain ⟨rfl, rfl⟩ : L = [] ∧ K2 = 4 := ⟨congrArg Prod.fst e1, congrArg Prod.snd e1⟩
      obtain rfl : O = true := by rw [e0]; simpa using hfl
      clear e0 e1 hfl
      go_wp2
      go_meet
      exact hB15
    · have e0 := HO.out
      have e1 := HLW.out
      rw [wtfP_some hfl] at e1
      obtain ⟨hL, rfl⟩ : L = wtFlt f.length f g F m ∧ K2 = 0 := ⟨congrArg Prod.fst e1, congrArg Prod.snd e1⟩
      obtain rfl : O = false := by rw [e0]; simpa using hfl
      obtain ⟨q1, q2, A, B, hAB, hA, hB⟩ := wq_fault HSOL.out HMX.out hfl
      rw [← hL] at q1 q2 hA hB
      have HI := Lib.hid (less_i64W (by rw [HLF.out]; omega) q2)
      have hn5 : n5 = 3 := by rw [ho5c.len, q1]
      subst hn5
      have HA := Lib.hid hA; have HBb := Lib.hid hB
      have uAB : (A == B) = false := by simpa using hAB
      clear e0 e1 hfl hL q1 q2 hAB hA hB
      have HWT : Hid (∀ (v : World) (az : Addr) (zs : List Int) (Z : Int), wotF f g m F 3 zs L = (Z, 0) → I64s zs → Row v (some az) 3 zs → Below w15.heap.size w15 v → Calls Tryz.prog 8 #[sAgg a1 n1 c1 a2 n2 c2, .int .i64 m, .slice am nm cm, bAgg 3 (some az) 3 3, .slice a5 3 c5] v (RetI v Z 0)) := Lib.hid fun v az zs Z e hi hr q => by have q' := below_th hQ15 q; have := impl_Wot_l a1 n1 c1 f a2 n2 c2 g m am nm cm F 3 (some az) 3 3 zs a5 3 c5 L v ⟨hof.below q', hos.below q'⟩ ⟨by omega, by omega⟩ ⟨by omega, by omega⟩ (hoF.below q') (by omega) ⟨by omega, by omega⟩ hr (by omega) hi ⟨by omega, by omega⟩ (ho5c.below q).row (by omega) HI.out; rw [e] at this; exact this
      go_wp2_with fail
      refine (HWT.out _ _ [1, 2, 1] A HA.out (by intro x hx; simp at hx; exact ⟨by omega, by omega⟩) (row_lit w15 #[.int .i64 1, .int .i64 2, .int .i64 1] 2 [1, 2, 1] rfl) (below_al (Below.refl _ _) _)).mono ?_
      rintro e w16 ⟨rfl, hb16⟩
      have hR16 := below_th (below_al (Below.refl w15.heap.size w15) (.cells #[.int .i64 1, .int .i64 2, .int .i64 1] 2)) hb16
      have hQ16 := below_th hQ15 hR16
      have l3i := (hL3.below hQ16 hL3.lt).two
      clear l3h hb16
      go_wp2_with fail
      refine (HWT.out _ _ [2, 1, 2] B HBb.out (by intro x hx; simp at hx; exact ⟨by omega, by omega⟩) (row_lit w16 #[.int .i64 2, .int .i64 1, .int .i64 2] 2 [2, 1, 2] rfl) (below_al hR16 _)).mono ?_
      rintro e w17 ⟨rfl, hb17⟩
      have hR17 := below_th (below_al hR16 (.cells #[.int .i64 2, .int .i64 1, .int .i64 2] 2)) hb17
      have hB17 := below_th hB15 hR17
      clear l3i hb17 HWT
      go_wp2
      go_meet
      exact hB17
  case rest =>
  have hB0 := hcut
  obtain ⟨V, hV⟩ : ∃ V : World, V = wc := ⟨_, rfl⟩
  rw [← hV] at hB0 ⊢
  clear hV hcut hQ7 ho5 hB7 l3d HII HOK HLK HLF hof hos hoF hB2 l3 HW2 hL3
  go_wp2_with fail
  refine (DrawIsQuandleWeight_ok a n c xs _ (h.below hB0) hn).mono ?_
  rintro e v1 ⟨b1, k1, d1, T, p, bm, km, dm, E, rfl, hk1, hkm, hp1, hp2, hoT, hoE, hb1⟩
  have hB1 := below_th hB0 hb1
  obtain ⟨v2, hv2⟩ : ∃ v2, v1.alloc (.cells #[.slice b1 k1 d1] 45) = v2 := ⟨_, rfl⟩
  have hb2 : Below v1.heap.size v1 v2 := by rw [← hv2]; exact below_al (Below.refl _ _) _
  have hL1 : Loc v2 v1.heap.size #[.slice b1 k1 d1] 45 := by rw [← hv2]; exact Loc.new v1 rfl _ _
  replace hoT := hoT.below hb2
  replace hoE := hoE.below hb2
  have hB2 := below_th hB1 hb2
  have l1 := hL1.one
  have HW2 := Lib.hid hv2
  clear hv2 hb1 hb2 hB0 hB1
  obtain ⟨X, J, hXJ⟩ : ∃ X J, iqF T p E = (X, J) := ⟨_, _, rfl⟩
  have HQI := Lib.hid (show Calls Tryz.prog 29 #[rAgg b1 k1 d1, .int .i64 p, .slice bm km dm] v2 (RetO v2 X J) from (by have := impl_Iq_l b1 k1 d1 T p bm km dm E v2 hoT (by omega) ⟨by omega, by omega⟩ hoE (by omega); rw [hXJ] at this; exact this))
  have HQS : Hid (∀ v : World, Below v2.heap.size v2 v → Calls Tryz.prog 30 #[rAgg b1 k1 d1, .int .i64 p, .slice bm km dm] v (RetO v X J)) := Lib.hid fun v q => by have := spec_Iq_l b1 k1 d1 T p bm km dm E v (hoT.below q) (by omega) ⟨by omega, by omega⟩ (hoE.below q) (by omega); rw [hXJ] at this; exact this
  have HXJ := Lib.hid hXJ
  have uJ : (J != J) = false := by simp
  have uX : (X != X) = false := by simp
  clear hXJ
  go_wp2_with fail
  try rw [HW2.out]
  refine HQI.out.mono ?_
  rintro e v3 ⟨rfl, hQ3⟩
  have l1a := (hL1.below hQ3 hL1.lt).one
  go_wp2_with fail
  refine (HQS.out _ hQ3).mono ?_
  rintro e v4 ⟨rfl, hb4⟩
  have hQ4 := below_th hQ3 hb4
  have l1b := (hL1.below hQ4 hL1.lt).one
  have hB4 := below_th hB2 hQ4
  clear l1a hQ3 hb4 HQI HQS
  rcases iq_facts T p E with ⟨k0, hk0, hk1'⟩ | ⟨hrk, hmx, hiq, hisw, himp⟩
  · have e0 := HXJ.out.symm.trans hk1'
    obtain ⟨rfl, rfl⟩ : X = false ∧ J = k0 := ⟨congrArg Prod.fst e0, congrArg Prod.snd e0⟩
    have hJ0 : (J != 0) = true := by simpa using hk0
    clear e0 hk0 hk1'
    go_wp2
    go_ret
    exact ⟨rfl, hB4⟩
  have e0 := HXJ.out.symm.trans hiq
  obtain ⟨hX, rfl⟩ : X = qwOk T p E ∧ J = 0 := ⟨congrArg Prod.fst e0, congrArg Prod.snd e0⟩
  rw [← hX] at himp
  have HRK := Lib.hid hrk; have HMX := Lib.hid hmx
  have hTl := hoT.len
  have HRC := Lib.hid (fun (v : World) (q : Below v2.heap.size v2 v) => impl_Rcc_ok b1 k1 d1 T p bm km dm E v (hoT.below q) (by omega) (hoE.below q) (by omega) hrk hmx)
  obtain ⟨C, hC⟩ : ∃ C, rcOk T.length T p E = C := ⟨_, rfl⟩
  rw [hC] at himp HRC hisw
  have HISW := Lib.hid hisw
  have hcs : (cstL T.length).length = T.length := tabF_len _ _
  rw [← hTl] at hisw
  have HIW : Hid (∀ (v : World) (aA aB : Option Addr) (cA cB : Nat), Below v2.heap.size v2 v → Tbl v aA k1 T → Tbl v aB k1 (cstL k1) → Calls Tryz.prog 13 #[sAgg aA k1 cA aB k1 cB, .int .i64 p, .slice bm km dm] v (RetO v C 0)) := Lib.hid fun v aA aB cA cB q h1 h2 => by have := impl_Isw_l aA k1 cA T aB k1 cB (cstL k1) p bm km dm E v ⟨h1, h2⟩ ⟨by omega, by omega⟩ ⟨by omega, by omega⟩ (hoE.below q) (by omega); rw [hisw] at this; exact this
  clear e0 hiq hisw hX hrk hmx hC hcs hTl HXJ uX uJ
  go_wp2_with fail
  refine (RackSolution_sk k1 b1 d1 T _ (hoT.below hQ4) HRK.out).mono ?_
  rintro e v5 ⟨b5, d5, vs5, b6, d6, vs6, rfl, ho5, hb5⟩
  have hQ5 := below_th hQ4 hb5
  obtain ⟨v6, hv6⟩ : ∃ v6, v5.alloc (.cells #[.slice b5 k1 d5, .slice b6 k1 d6] 26) = v6 := ⟨_, rfl⟩
  have hb6 : Below v5.heap.size v5 v6 := by rw [← hv6]; exact below_al (Below.refl _ _) _
  have hL6 : Loc v6 v5.heap.size #[.slice b5 k1 d5, .slice b6 k1 d6] 26 := by rw [← hv6]; exact Loc.new v5 rfl _ _
  have hQ6 := below_th hQ5 hb6
  have hof := (ho5.f.below hb6).tbl
  have hos := (ho5.s.below hb6).tbl
  have l6 := hL6.two
  have l1c := (hL1.below hQ6 hL1.lt).one
  have HW6 := Lib.hid hv6
  clear hv6 hb5 hb6 hQ4 hQ5 l1b ho5 hB4
  go_wp2_with fail
  try rw [HW6.out]
  refine (HIW.out _ b5 b6 d5 d6 hQ6 hof hos).mono ?_
  rintro e v7 ⟨rfl, hb7⟩
  have hQ7 := below_th hQ6 hb7
  have l1d := (hL1.below hQ7 hL1.lt).one
  clear l6 l1c hof hos hQ6 hb7
  go_wp2_with fail
  refine (HRC.out _ hQ7).mono ?_
  rintro e v8 ⟨rfl, hb8⟩
  have hB8 := below_th (below_th hB2 hQ7) hb8
  clear l1d hQ7 hb8 HRC HIW HISW
  cases C with
  | true =>
    cases X with
    | true =>
      go_wp2
      go_ret
      exact ⟨rfl, hB8⟩
    | false =>
      go_wp2
      go_ret
      exact ⟨rfl, hB8⟩
  | false =>
    cases X with
    | true => exact absurd (himp rfl) (by decide)
    | false =>
      go_wp2
      go_ret
      exact ⟨rfl, hB8⟩
end Go.Proofs.YtpdgpgbgakinlaaGreat
