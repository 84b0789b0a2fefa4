/-
  Walks and plain laws of this seat, some texts in one.
  No condition but bounds on lengths.
-/
import Derived.Test.YtaddclaadbjnlaaGreatPs11
import Derived.Test.YtaddclaadbjnlaaGreatPs16
import Derived.Deep.DeepCutAuto
namespace Go.Proofs.YtaddclaadbjnlaaGreat
set_option linter.unusedVariables false
set_option linter.unusedSimpArgs false
set_option maxRecDepth 100000
open Go.RowKit
def seqAt (n : Nat) : Code → Option (Code × Code)
  | .seq x y => match x with
    | .region m ops d => if m = n then some (.region m ops d, y) else seqAt n y
    | _ => match seqAt n x with
      | some r => some r
      | none => seqAt n y
  | .cond _ x y => match seqAt n x with
    | some r => some r
    | none => seqAt n y
  | .block _ x => seqAt n x
  | .loop x => seqAt n x
  | .scope x => seqAt n x
  | _ => none
def SqD (b : Nat) (w : World) (N : Nat) (e : Ending) (w' : World) : Prop :=
  ∃ (n : Nat) (a : Option Addr) (c : Nat) (vs : List SV) (t : List (List Int)), 1 ≤ n ∧ n ≤ N ∧ e = .returned (.slice a n c) ∧ OwnT w' w.heap.size a n c vs t ∧ Sq n t ∧ Src w' b ∧ w.grownBy w' (some b)
theorem wrap_nat (k : Nat) (h : k ≤ 10000) : IntKind.i64.wrap (k : Int) = (k : Int) := by rw [IntKind.wrap_i64]; omega
set_option maxHeartbeats 32000000 in
theorem dt_tail (M N b : Nat) (w wd : World) (hs2 : Src wd b) (hG2 : w.grownBy wd (some b)) (hlt : b < w.heap.size) (hz2' : w.heap.size ≤ wd.heap.size) (hN1 : 1 ≤ N) (hNM : N ≤ M) (hM : M ≤ 12) (u2 u3 u4 u6 u7 u8 u9 u10 u11 u12 u13 u14 u15 u16 u17 u18 u19 u20 u21 u22 u23 u24 u25 u26 u27 u28 u29 u30 u31 u32 u33 u34 u35 u36 u37 u38 u39 u40 u41 u42 u43 u44 u45 u46 u47 u48 u49 u50 u51 u52 u53 u54 u55 u56 u57 u58 u59 u60 u61 u62 u63 u64 u65 u66 u67 u68 u69 u70 u71 u72 u73 u74 u75 u76 u77 u78 u79 u80 u81 u82 u83 u84 u85 u86 u87 u88 u89 u90 u91 u92 u93 u94 u95 u96 u97 u98 u99 u100 u101 u102 u103 u104 u105 u106 u107 u108 u109 u110 u111 u112 u113 u114 u115 u116 u117 u118 u119 u120 u121 u122 u123 u124 u125 u126 u127 u128 u129 u130 u131 u132 u133 u134 u135 u136 u137 u138 u139 u140 u141 u142 u143 u144 u145 u146 u147 u148 u149 u150 u151 u152 u153 u154 u155 u156 u157 u158 u159 u160 u161 u162 u163 u164 u165 u166 u167 u168 u169 u170 u171 u172 u173 u174 u175 u176 u177 u178 u179 u180 u181 u182 u183 u184 u185 u186 u187 u188 u189 u190 u191 u192 u193 u194 u195 u196 u197 u198 u199 u200 u201 u202 u203 u204 u205 u206 u207 u208 u209 u210 u211 u212 u213 u214 u215 u216 u217 u218 u219 u220 u221 u222 u223 u224 u225 u226 u227 u228 u229 u230 u231 u232 : Value)
    (K : Act → World → Prop) (hK : ∀ a w', Code.wp Tryz.prog (((Tryz.f139.body.bind (seqAt 39)).map Prod.snd).getD .skip) (bodyPost Tryz.prog Tryz.f139 (SqD b w M)) a w' → K a w') :
    Code.wp Tryz.prog (((Tryz.f139.body.bind (seqAt 39)).map Prod.fst).getD .skip) (Exit.then K (bodyPost Tryz.prog Tryz.f139 (SqD b w M))) ⟨#[.pointer (some ⟨b, 0, none⟩), .int .i64 M, u2, u3, u4, .int .i64 N, u6, u7, u8, u9, u10, u11, u12, u13, u14, u15, u16, u17, u18, u19, u20, u21, u22, u23, u24, u25, u26, u27, u28, u29, u30, u31, u32, u33, u34, u35, u36, u37, u38, u39, u40, u41, u42, u43, u44, u45, u46, u47, u48, u49, u50, u51, u52, u53, u54, u55, u56, u57, u58, u59, u60, u61, u62, u63, u64, u65, u66, u67, u68, u69, u70, u71, u72, u73, u74, u75, u76, u77, u78, u79, u80, u81, u82, u83, u84, u85, u86, u87, u88, u89, u90, u91, u92, u93, u94, u95, u96, u97, u98, u99, u100, u101, u102, u103, u104, u105, u106, u107, u108, u109, u110, u111, u112, u113, u114, u115, u116, u117, u118, u119, u120, u121, u122, u123, u124, u125, u126, u127, u128, u129, u130, u131, u132, u133, u134, u135, u136, u137, u138, u139, u140, u141, u142, u143, u144, u145, u146, u147, u148, u149, u150, u151, u152, u153, u154, u155, u156, u157, u158, u159, u160, u161, u162, u163, u164, u165, u166, u167, u168, u169, u170, u171, u172, u173, u174, u175, u176, u177, u178, u179, u180, u181, u182, u183, u184, u185, u186, u187, u188, u189, u190, u191, u192, u193, u194, u195, u196, u197, u198, u199, u200, u201, u202, u203, u204, u205, u206, u207, u208, u209, u210, u211, u212, u213, u214, u215, u216, u217, u218, u219, u220, u221, u222, u223, u224, u225, u226, u227, u228, u229, u230, u231, u232], []⟩ wd := by
  conv at hK => enter [a, w', 1]; arg 2; whnf
  conv => arg 2; whnf
  go_wp2_with fail
  refine (l01Next_ok b (N : Int) _ hs2 ⟨by omega, by omega⟩).mono ?_
  rintro e wa ⟨kk, rfl, _, hkk, hsa, hga⟩
  obtain ⟨hk1, hk2⟩ := hkk (by omega)
  obtain ⟨k, rfl⟩ : ∃ q : Nat, kk = q := ⟨kk.toNat, by omega⟩
  have hkN : k < N := by omega
  have hGa := grown_trans hG2 hga
  have hza : w.heap.size ≤ wa.heap.size := hGa.size
  clear hkk hk1 hk2
  obtain ⟨J, hJ⟩ : ∃ J, J = N - k := ⟨_, rfl⟩
  obtain ⟨K1, hK1⟩ : ∃ K1, K1 = max 1 k := ⟨_, rfl⟩
  obtain ⟨L1, hL1⟩ : ∃ L, 2 % K1 = L := ⟨_, rfl⟩
  obtain ⟨L2, hL2⟩ : ∃ L, 1 % J = L := ⟨_, rfl⟩
  have hJ1 : 1 ≤ J := by omega
  have hK11 : 1 ≤ K1 := by omega
  have hK1b : K1 ≤ 12 := by omega
  have hJb : J ≤ 12 := by omega
  have hL1b : L1 ≤ 2 := by rw [← hL1]; exact Nat.mod_le _ _
  have hL2b : L2 ≤ 1 := by rw [← hL2]; exact Nat.mod_le _ _
  have d1 : (N : Int) - (k : Int) = (J : Int) := by omega
  have d2 : Int.tmod 2 (K1 : Int) = (L1 : Int) := by rw [← hL1]; rfl
  have d3 : Int.tmod 1 (J : Int) = (L2 : Int) := by rw [← hL2]; rfl
  have d4 : (if (k : Int) > 1 then (k : Int) else 1) = (K1 : Int) := by split <;> omega
  have d5 : (if (1 : Int) < (k : Int) then (k : Int) else 1) = (K1 : Int) := by split <;> omega
  have d6 : max (1 : Int) (k : Int) = (K1 : Int) := by omega
  have z1 : ¬ (K1 : Int) = 0 := by omega
  have z2 : ((K1 : Int) == 0) = false := by simpa using z1
  have z3 : ¬ (J : Int) = 0 := by omega
  have z4 : ((J : Int) == 0) = false := by simpa using z3
  have z5 : ¬ K1 = 0 := by omega
  have z6 : ¬ J = 0 := by omega
  have wJ : IntKind.i64.wrap (J : Int) = (J : Int) := wrap_nat J (by omega)
  have wL2 : IntKind.i64.wrap (L2 : Int) = (L2 : Int) := wrap_nat L2 (by omega)
  have wL1 : IntKind.i64.wrap (L1 : Int) = (L1 : Int) := wrap_nat L1 (by omega)
  clear hJ hL2
  have wJ0 := hJ1
  go_upto_region 40 with fail
  go_cut [19, 20] from 140 to 156 (fun s19 s20 wx => ∃ (a4 : Option Addr) (c4 : Nat) (vs4 : List SV) (t4 : List (List Int)) (a5 : Option Addr) (c5 : Nat) (vs5 : List SV) (t5 : List (List Int)), s19 = .slice a4 K1 c4 ∧ s20 = .slice a5 J c5 ∧ OwnT wx wa.heap.size a4 K1 c4 vs4 t4 ∧ Sq K1 t4 ∧ OwnT wx wa.heap.size a5 J c5 vs5 t5 ∧ Sq J t5 ∧ Below wa.heap.size wa wx)
  case first =>
    have k3 : k = 0 ∨ k = 1 ∨ 1 < k := by omega
    rcases k3 with rfl | rfl | c1
    · obtain rfl : K1 = 1 := by omega
      obtain rfl : L1 = 0 := by omega
      obtain rfl : J = N := by omega
      clear hK1 hL1 d1 d4 d5 d6
      have tok1 : True := trivial
      go_region_held3 (fun w' => w'.heap.size = w'.heap.size) (first | exact rfl | go_keep)
        (first
          | (go_at_call 156; have _t := tok1; refine (l03Alexander_any 1 0 0 _ hK11 (by omega) (by omega) (by omega)).mono ?_; rintro e wb ⟨a4, c4, vs4, t4, rfl, ho4, sq4, hb4⟩; clear _t tok1; have tok2 : True := trivial)
          | (go_at_call 156; have _t := tok2; refine (l03Alexander_any J L2 0 _ hJ1 (by omega) (by omega) (by omega)).mono ?_; rintro e wc ⟨a5, c5, vs5, t5, rfl, ho5, sq5, hb5⟩; clear _t tok2))
      all_goals (go_wp2_with fail; go_meet; exact ⟨a4, c4, vs4, t4, a5, c5, vs5, t5, rfl, rfl, ho4.below hb5, sq4, ho5.mono hb4.size, sq5, ((below_drewN (Below.refl wa.heap.size wa) 1).trans hb4).trans (hb5.mono hb4.size)⟩)
    · obtain rfl : K1 = 1 := by omega
      obtain rfl : L1 = 0 := by omega
      have d1' : (N : Int) - 1 = (J : Int) := by omega
      clear hK1 hL1 d1 d4 d5 d6
      have tok1 : True := trivial
      go_region_held3 (fun w' => w'.heap.size = w'.heap.size) (first | exact rfl | go_keep)
        (first
          | (go_at_call 156; have _t := tok1; refine (l03Alexander_any 1 0 0 _ hK11 (by omega) (by omega) (by omega)).mono ?_; rintro e wb ⟨a4, c4, vs4, t4, rfl, ho4, sq4, hb4⟩; clear _t tok1; have tok2 : True := trivial)
          | (go_at_call 156; have _t := tok2; refine (l03Alexander_any J L2 0 _ hJ1 (by omega) (by omega) (by omega)).mono ?_; rintro e wc ⟨a5, c5, vs5, t5, rfl, ho5, sq5, hb5⟩; clear _t tok2))
      all_goals (go_wp2_with fail; go_meet; exact ⟨a4, c4, vs4, t4, a5, c5, vs5, t5, rfl, rfl, ho4.below hb5, sq4, ho5.mono hb4.size, sq5, ((below_drewN (Below.refl wa.heap.size wa) 1).trans hb4).trans (hb5.mono hb4.size)⟩)
    · obtain rfl : K1 = k := by omega
      obtain ⟨K0, hK0⟩ : ∃ K0, K0 = K1 - 1 := ⟨_, rfl⟩
      have d7 : (K1 : Int) - 1 = (K0 : Int) := by omega
      have hK0b : K0 ≤ 12 := by omega
      have c2 : (1 : Int) < (K1 : Int) := by omega
      have wK0 : IntKind.i64.wrap (K0 : Int) = (K0 : Int) := wrap_nat K0 (by omega)
      clear hK0 hK1 hL1 d4 d5 d6
      have tok1 : True := trivial
      go_region_held3 (fun w' => w'.heap.size = w'.heap.size) (first | exact rfl | go_keep)
        (first
          | (go_at_call 156; have _t := tok1; refine (l03Alexander_any K1 K0 L1 _ hK11 (by omega) (by omega) (by omega)).mono ?_; rintro e wb ⟨a4, c4, vs4, t4, rfl, ho4, sq4, hb4⟩; clear _t tok1; have tok2 : True := trivial)
          | (go_at_call 156; have _t := tok2; refine (l03Alexander_any J L2 0 _ hJ1 (by omega) (by omega) (by omega)).mono ?_; rintro e wc ⟨a5, c5, vs5, t5, rfl, ho5, sq5, hb5⟩; clear _t tok2))
      all_goals (go_wp2_with fail; go_meet; exact ⟨a4, c4, vs4, t4, a5, c5, vs5, t5, rfl, rfl, ho4.below hb5, sq4, ho5.mono hb4.size, sq5, ((below_drewN (Below.refl wa.heap.size wa) 1).trans hb4).trans (hb5.mono hb4.size)⟩)
  case rest =>
    obtain ⟨a4, c4, vs4, t4, a5, c5, vs5, t5, rfl, rfl, ho4, sq4, ho5, sq5, hbc⟩ := hcut
    have hsc := hsa.below hbc
    have hGc := grown_trans hGa (grown_of_below hbc _)
    have hzc := hbc.size
    have SQ4 := Lib.hid sq4
    have SQ5 := Lib.hid sq5
    clear sq4 sq5
    rcases Nat.eq_zero_or_pos k with rfl | hkp
    · obtain rfl : J = N := by omega
      clear d1 d2 d3 d4 d5 d6 hK1 hL1 wJ wL1 wL2
      go_wp2
      go_ret
      exact ⟨J, _, _, vs5, t5, hN1, hNM, rfl, ho5.mono hza, SQ5.out, hsc, hGc⟩
    · obtain rfl : K1 = k := by omega
      have kz : ¬ (K1 : Int) = 0 := by omega
      have kz2 : ((K1 : Int) == 0) = false := by simpa using kz
      clear hK1 hL1 d2 d3 d4 d5 d6
      go_wp2_with fail
      refine (l03DrawPerm_ok b J _ hsc (by omega)).mono ?_
      rintro e wp ⟨ap, cp, p, rfl, hp, hop, hsp, hgp⟩
      have ba := hsa.lt
      have T4 : Tbl wp a4 K1 t4 := (ho4.keep fun q hq hl => hgp.block q hl (fun e => by have := ho4.uLo q hq; cases e; omega)).tbl
      have T5 : Tbl wp a5 J t5 := (ho5.keep fun q hq hl => hgp.block q hl (fun e => by have := ho5.uLo q hq; cases e; omega)).tbl
      have hG := grown_trans hGc hgp
      have hzp : wc.heap.size ≤ wp.heap.size := hgp.size
      have hpR := hop.row
      obtain ⟨bt, ot, A1, O1, C1, rfl, G1⟩ := T4.grid SQ4.out hK11
      obtain ⟨bs, os, A2, O2, C2, rfl, G2⟩ := T5.grid SQ5.out hJ1
      clear T4 T5 ho4 ho5 hgp hop hGc hsc hbc hGa hga hsa
      obtain ⟨F, F', hpl, hF1, hF2⟩ := hp
      have HPF : Hid (∀ i, i < J → p.getD i 0 = (F i : Int) ∧ F i < J) := Lib.hid fun i hi => ⟨hF2 i hi, (hF1 i hi).1⟩
      clear hpl hF1 hF2
      obtain ⟨bp, op, rfl, _⟩ := hpR.at 0 hJ1
      obtain ⟨V, hV⟩ : ∃ V : Nat → Nat → Int, V = fun x y => if x < K1 ∧ y < K1 then ((tv t4 x y : Nat) : Int) else if ¬ x < K1 ∧ ¬ y < K1 then (K1 : Int) + ((F (tv t5 (x - K1) (y - K1)) : Nat) : Int) else (y : Int) := ⟨_, rfl⟩
      have HVE : Hid (∀ x y, V x y = if x < K1 ∧ y < K1 then ((tv t4 x y : Nat) : Int) else if ¬ x < K1 ∧ ¬ y < K1 then (K1 : Int) + ((F (tv t5 (x - K1) (y - K1)) : Nat) : Int) else (y : Int)) := Lib.hid fun x y => by rw [hV]
      clear hV
      have HSV : Hid (Sq N (tabF N V)) := Lib.hid (tabF_sqI fun x y hx hy => by
        rw [HVE.out]
        split
        · rename_i h; have := SQ4.out.lt h.1 h.2; omega
        · split
          · have h2 := SQ5.out.lt (x := x - K1) (y := y - K1) (by omega) (by omega)
            have := (HPF.out _ h2).2
            omega
          · omega)
      obtain ⟨w4, hw4⟩ : ∃ w4, wp.alloc (.cells #[] 41) = w4 := ⟨_, rfl⟩
      have hO4 : OwnT w4 wp.heap.size (some ⟨wp.heap.size, 0, none⟩) 0 0 [] [] := by rw [← hw4]; exact OwnT.fresh wp rfl
      have hb4 : Below wp.heap.size wp w4 := by rw [← hw4]; exact below_al (Below.refl _ _) _
      have HW4 := Lib.hid hw4
      clear hw4
      go_wp2
      try rw [HW4.out]
      go_loopw [22, 23, 24, 25] (fun z i _ _ wr => ∃ (x : Nat) (az : Option Addr) (cz : Nat) (vz : List SV), x ≤ N ∧ i = .int .i64 x ∧ z = .slice az x cz ∧ OwnT wr wp.heap.size az x cz vz ((tabF N V).take x) ∧ Below wp.heap.size wp wr) (fun _ i _ _ _ => N - (intOf i).toNat)
      case atStart => exact ⟨0, _, 0, _, Nat.zero_le _, rfl, rfl, by simpa using hO4, hb4⟩
      case round =>
        clear hO4 hb4
        obtain ⟨x, az, cz, vz, hx, rfl, rfl, ho, hb'⟩ := hrel
        by_cases hlt : x < N
        · have HRV := Lib.hid (tabF_succ V hlt)
          have hE := Own.fresh wr rfl
          have hqe := below_al (Below.refl wr.heap.size wr) (.cells #[] 2)
          go_wp2
          go_loopw [24, 25] (fun z i wq => ∃ (y : Nat) (ar : Option Addr) (cr : Nat), y ≤ N ∧ i = .int .i64 y ∧ z = .slice ar y cr ∧ Own wq wr.heap.size ar y cr ((List.range y).map fun y => V x y) ∧ Below wr.heap.size wr wq) (fun _ i _ => N - (intOf i).toNat)
          case atStart => exact ⟨0, _, 0, Nat.zero_le _, rfl, rfl, by simpa using hE, hqe⟩
          case round =>
            clear hE hqe
            obtain ⟨y, ar, cr, hy, rfl, rfl, hor, hqr⟩ := hrel
            have hwq := hqr.size
            obtain ⟨W, rfl⟩ : ∃ W : World, W = wr := ⟨_, rfl⟩
            by_cases hyt : y < N
            · have HV1 : Hid (((List.range (y + 1)).map fun y => V x y) = ((List.range y).map fun y => V x y) ++ [V x y]) := Lib.hid (by simp [List.range_succ])
              have HVK := Lib.hid (HVE.out x y)
              have hBW := hb'.trans (hqr.mono hb'.size)
              by_cases ck : x < K1
              · by_cases cj : y < K1
                · have q1 : (x : Int) < (K1 : Int) := by omega
                  have q2 : (y : Int) < (K1 : Int) := by omega
                  have z1 : (0 : Int) ≤ (x : Int) := by omega
                  have z2 : (0 : Int) ≤ (y : Int) := by omega
                  obtain ⟨r1, k1⟩ := (G1.below hBW).look ck cj
                  have hv : V x y = ((tv t4 x y : Nat) : Int) := by rw [HVK.out, if_pos ⟨ck, cj⟩]
                  rw [hv] at HV1
                  clear hv
                  go_wp2_with (at_builtin; refine app1 rfl rfl hor rfl rfl (by omega) hwq ?_; intro g' cc w8 hO8 hg8 hs8 hb8)
                  go_roundw
                  case rel => exact ⟨y + 1, _, _, by omega, by go_num, rfl, by rw [HV1.out]; exact hO8, hqr.trans hb8⟩
                  case measure => simp [intOf]; omega
                · have q1 : (x : Int) < (K1 : Int) := by omega
                  have q2 : ¬ (y : Int) < (K1 : Int) := by omega
                  have q3 : ¬ (K1 : Int) ≤ (x : Int) := by omega
                  have hv : V x y = (y : Int) := by rw [HVK.out, if_neg (fun h => cj h.2), if_neg (fun h => h.1 ck)]
                  rw [hv] at HV1
                  clear hv
                  go_wp2_with (at_builtin; refine app1 rfl rfl hor rfl rfl (by omega) hwq ?_; intro g' cc w8 hO8 hg8 hs8 hb8)
                  go_roundw
                  case rel => exact ⟨y + 1, _, _, by omega, by go_num, rfl, by rw [HV1.out]; exact hO8, hqr.trans hb8⟩
                  case measure => simp [intOf]; omega
              · by_cases cj : y < K1
                · have q1 : ¬ (x : Int) < (K1 : Int) := by omega
                  have q2 : (y : Int) < (K1 : Int) := by omega
                  have q3 : ¬ (K1 : Int) ≤ (y : Int) := by omega
                  have q4 : (K1 : Int) ≤ (x : Int) := by omega
                  have hv : V x y = (y : Int) := by rw [HVK.out, if_neg (fun h => ck h.1), if_neg (fun h => h.2 cj)]
                  rw [hv] at HV1
                  clear hv
                  go_wp2_with (at_builtin; refine app1 rfl rfl hor rfl rfl (by omega) hwq ?_; intro g' cc w8 hO8 hg8 hs8 hb8)
                  go_roundw
                  case rel => exact ⟨y + 1, _, _, by omega, by go_num, rfl, by rw [HV1.out]; exact hO8, hqr.trans hb8⟩
                  case measure => simp [intOf]; omega
                · obtain ⟨x', hx9⟩ : ∃ x', x' = x - K1 := ⟨_, rfl⟩
                  obtain ⟨y', hy9⟩ : ∃ y', y' = y - K1 := ⟨_, rfl⟩
                  have hx' : x' < J := by omega
                  have hy' : y' < J := by omega
                  have q1 : ¬ (x : Int) < (K1 : Int) := by omega
                  have q2 : ¬ (y : Int) < (K1 : Int) := by omega
                  have q3 : (K1 : Int) ≤ (x : Int) := by omega
                  have q4 : (K1 : Int) ≤ (y : Int) := by omega
                  have e1 : (x : Int) - (K1 : Int) = (x' : Int) := by omega
                  have e2 : (y : Int) - (K1 : Int) = (y' : Int) := by omega
                  have q5 : (x' : Int) < (J : Int) := by omega
                  have q6 : (y' : Int) < (J : Int) := by omega
                  have z1 : (0 : Int) ≤ (x' : Int) := by omega
                  have z2 : (0 : Int) ≤ (y' : Int) := by omega
                  obtain ⟨r1, k1⟩ := (G2.below hBW).look hx' hy'
                  have b1 := SQ5.out.lt hx' hy'
                  have hv : V x y = (K1 : Int) + ((F (tv t5 x' y') : Nat) : Int) := by rw [HVK.out, if_neg (fun h => ck h.1), if_pos ⟨ck, cj⟩, ← hx9, ← hy9]
                  have hpp := HPF.out _ b1
                  obtain ⟨bq, oq, hq1, hq2⟩ := (hpR.below hBW).at _ b1
                  obtain ⟨rfl, rfl⟩ : bp = bq ∧ op = oq := by simpa using hq1
                  rw [hpp.1] at hq2
                  generalize tv t5 x' y' = u at *
                  have q7 : (u : Int) < (J : Int) := by omega
                  have z3 : (0 : Int) ≤ (u : Int) := by omega
                  have hpp2 := hpp.2
                  generalize F u = v at *
                  rw [hv] at HV1
                  clear hv hx9 hy9 hpp
                  go_wp2_with (at_builtin; refine app1 rfl rfl hor rfl rfl (by omega) hwq ?_; intro g' cc w8 hO8 hg8 hs8 hb8)
                  go_roundw
                  case rel => exact ⟨y + 1, _, _, by omega, by go_num, rfl, by rw [HV1.out]; exact hO8, hqr.trans hb8⟩
                  case measure => simp [intOf]; omega
            · obtain rfl : y = N := by omega
              have hbb := hb'.size
              have hz1 := ho.below hqr
              have hq1 := hb'.trans (hqr.mono hbb)
              go_wp2_with (at_builtin; refine appT1 rfl rfl hz1 rfl (hor.mono hbb) (fun g h1 h2 => by have h3 := ho.high _ h1; have h4 := hor.lo _ h2; omega) (fun i hi g h1 h2 => by have h3 := hor.lo _ h1; have h4 := (ho.row i hi).hi _ h2; omega) rfl (by omega) (by omega) ?_; intro g' cc w9 hO hb9)
              go_roundw
              case rel => exact ⟨x + 1, _, _, _, by omega, by go_num, rfl, by rw [HRV.out]; exact hO, hq1.trans hb9⟩
              case measure => simp [intOf]; omega
        · obtain rfl : x = N := by omega
          rw [List.take_of_length_le (by rw [tabF_len]; exact Nat.le_refl _)] at ho
          go_wp2
          go_ret
          exact ⟨_, _, _, vz, _, hN1, hNM, rfl, ho.mono (by omega), HSV.out, hsp.below hb', grown_trans hG (grown_of_below hb' _)⟩
set_option maxHeartbeats 32000000 in
theorem dt_conj (M N b m B0 cL : Nat) (aL : Option Addr) (L : List (List Int)) (w wB : World) (hcj : CjOk m L) (tL : Tbl wB aL m L) (hO : OwnT wB B0 (some ⟨B0, 0, none⟩) 0 0 [] []) (hL : Loc wB B0 #[] 41) (hs : Src wB b) (hG : w.grownBy wB (some b)) (hlt : b < w.heap.size) (hz : w.heap.size ≤ B0) (hm1 : 1 ≤ m) (hm6 : m ≤ 6) (hM6 : 6 ≤ M) (u2 u3 u6 u7 u8 u9 u10 u13 u14 u15 u16 u17 u18 u19 u20 u21 u22 u23 u24 u25 u26 u27 u28 u29 u30 u31 u32 u33 u34 u35 u36 u37 u38 u39 u40 u41 u42 u43 u44 u45 u46 u47 u48 u49 u50 u51 u52 u53 u54 u55 u56 u57 u58 u59 u60 u61 u62 u63 u64 u65 u66 u67 u68 u69 u70 u71 u72 u73 u74 u75 u76 u77 u78 u79 u80 u81 u82 u83 u84 u85 u86 u87 u88 u89 u90 u91 u92 u93 u94 u95 u96 u97 u98 u99 u100 u101 u102 u103 u104 u105 u106 u107 u108 u109 u110 u111 u112 u113 u114 u115 u116 u117 u118 u119 u120 u121 u122 u123 u124 u125 u126 u127 u128 u129 u130 u131 u132 u133 u134 u135 u136 u137 u138 u139 u140 u141 u142 u143 u144 u145 u146 u147 u148 u149 u150 u151 u152 u153 u154 u155 u156 u157 u158 u159 u160 u161 u162 u163 u164 u165 u166 u167 u168 u169 u170 u171 u172 u173 u174 u175 u176 u177 u178 u179 u180 u181 u182 u183 u184 u185 u186 u187 u188 u189 u190 u191 u192 u193 u194 u195 u196 u197 u198 u199 u200 u201 u202 u203 u204 u205 u206 u207 u208 u209 u210 u211 u212 u213 u214 u215 u216 u217 u218 u219 u220 u221 u222 u223 u224 u225 u226 u227 u228 u229 u230 u231 u232 : Value)
    (K K1 K2 : Act → World → Prop) (hK1 : ∀ a w', Code.wp Tryz.prog (((Tryz.f139.body.bind (seqAt 38)).map fun p => Code.seq p.1 p.2).getD .skip) (Exit.inBlock 0 (Exit.then K2 (bodyPost Tryz.prog Tryz.f139 (SqD b w M)))) a w' → K1 a w') (hK : ∀ a w', Code.wp Tryz.prog (((Tryz.f139.body.bind (seqAt 25)).map Prod.snd).getD .skip) (Exit.then K1 (Exit.inBlock 0 (Exit.then K2 (bodyPost Tryz.prog Tryz.f139 (SqD b w M))))) a w' → K a w') :
    Code.wp Tryz.prog (((Tryz.f139.body.bind (seqAt 25)).map Prod.fst).getD .skip) (Exit.then K (Exit.then K1 (Exit.inBlock 0 (Exit.then K2 (bodyPost Tryz.prog Tryz.f139 (SqD b w M)))))) ⟨#[.pointer (some ⟨b, 0, none⟩), .int .i64 M, u2, u3, .slice none 0 0, .int .i64 N, u6, u7, u8, u9, u10, .slice aL m cL, .slice (some ⟨B0, 0, none⟩) 0 0, u13, u14, u15, u16, u17, u18, u19, u20, u21, u22, u23, u24, u25, u26, u27, u28, u29, u30, u31, u32, u33, u34, u35, u36, u37, u38, u39, u40, u41, u42, u43, u44, u45, u46, u47, u48, u49, u50, u51, u52, u53, u54, u55, u56, u57, u58, u59, u60, u61, u62, u63, u64, u65, u66, u67, u68, u69, u70, u71, u72, u73, u74, u75, u76, u77, u78, u79, u80, u81, u82, u83, u84, u85, u86, u87, u88, u89, u90, u91, u92, u93, u94, u95, u96, u97, u98, u99, u100, u101, u102, u103, u104, u105, u106, u107, u108, u109, u110, u111, u112, u113, u114, u115, u116, u117, u118, u119, u120, u121, u122, u123, u124, u125, u126, u127, u128, u129, u130, u131, u132, u133, u134, u135, u136, u137, u138, u139, u140, u141, u142, u143, u144, u145, u146, u147, u148, u149, u150, u151, u152, u153, u154, u155, u156, u157, u158, u159, u160, u161, u162, u163, u164, u165, u166, u167, u168, u169, u170, u171, u172, u173, u174, u175, u176, u177, u178, u179, u180, u181, u182, u183, u184, u185, u186, u187, u188, u189, u190, u191, u192, u193, u194, u195, u196, u197, u198, u199, u200, u201, u202, u203, u204, u205, u206, u207, u208, u209, u210, u211, u212, u213, u214, u215, u216, u217, u218, u219, u220, u221, u222, u223, u224, u225, u226, u227, u228, u229, u230, u231, u232], []⟩ wB := by
  conv at hK1 => enter [a, w', 1]; arg 2; whnf
  conv at hK => enter [a, w', 1]; arg 2; whnf
  conv => arg 2; whnf
  have HCJ := Lib.hid hcj
  obtain ⟨V, hV⟩ : ∃ V : Nat → Nat → Int, V = fun x y => ((cjI L x y : Nat) : Int) := ⟨_, rfl⟩
  have HVE : Hid (∀ x y, V x y = ((cjI L x y : Nat) : Int)) := Lib.hid fun x y => by rw [hV]
  clear hV
  have HSV : Hid (Sq m (tabF m V)) := Lib.hid (tabF_sqI fun x y hx hy => by rw [HVE.out]; have := HCJ.out.lt x y hx hy; omega)
  have HC0 := Lib.hid (loc_none hL)
  have hB0 : B0 ≤ wB.heap.size := Nat.le_of_lt hL.lt
  have HGB := Lib.hid hG
  have HSRC := Lib.hid hs
  go_wp2
  go_loopw [12, 13, 14, 15, 16, 17] (fun t i _ _ _ _ wr => ∃ (x : Nat) (az : Option Addr) (cz : Nat) (vz : List SV), x ≤ m ∧ i = .int .i64 x ∧ t = .slice az x cz ∧ OwnT wr B0 az x cz vz ((tabF m V).take x) ∧ Marked (fun g => g = B0) wB wr ∧ Hid (∀ g, TblS az x vz g → g = B0 ∨ wB.heap.size ≤ g)) (fun _ i _ _ _ _ _ => m - (intOf i).toNat)
  case atStart => exact ⟨0, _, 0, _, Nat.zero_le _, rfl, rfl, by simpa using hO, Marked.refl _ _, Lib.hid fun g hg => by
    rcases hg with e | ⟨i, hi, _⟩
    · cases e; exact .inl rfl
    · omega⟩
  case round =>
    clear hO
    obtain ⟨x, az, cz, vz, hx, rfl, rfl, ho, hm, HT⟩ := hrel
    obtain ⟨V0, rfl⟩ : ∃ V0 : World, V0 = wr := ⟨_, rfl⟩
    have hlow : Below B0 wB V0 := hm.lowb (fun g e => by have e : g = B0 := e; omega) hB0
    have hmz := hm.size
    by_cases hlt : x < m
    · have HRV := Lib.hid (tabF_succ V hlt)
      have tb := tL.mark0 hm HC0.out
      have hE := Own.fresh V0 rfl
      have hqe := below_al (Below.refl V0.heap.size V0) (.cells #[] 2)
      go_wp2
      go_loopw [14, 15, 16, 17] (fun z i _ _ wq => ∃ (y : Nat) (ar : Option Addr) (cr : Nat), y ≤ m ∧ i = .int .i64 y ∧ z = .slice ar y cr ∧ Own wq V0.heap.size ar y cr ((List.range y).map fun y => V x y) ∧ Below V0.heap.size V0 wq) (fun _ i _ _ _ => m - (intOf i).toNat)
      case atStart => exact ⟨0, _, 0, Nat.zero_le _, rfl, rfl, by simpa using hE, hqe⟩
      case round =>
        clear hE hqe
        obtain ⟨y, ar, cr, hy, rfl, rfl, hor, hqr⟩ := hrel
        have hwq := hqr.size
        obtain ⟨W, rfl⟩ : ∃ W : World, W = wr := ⟨_, rfl⟩
        by_cases hyt : y < m
        · have HV1 : Hid (((List.range (y + 1)).map fun y => V x y) = ((List.range y).map fun y => V x y) ++ [V x y]) := Lib.hid (by simp [List.range_succ])
          have TW := tb.below hqr
          obtain ⟨bL, oL, ax, nx, cx, eL, gL, gx, rx, _⟩ := TW.2 x hlt
          subst eL
          obtain ⟨_, _, ay, ny, cy, eL', _, gy, ry, _⟩ := TW.2 y hyt
          cases eL'
          have HPX := Lib.hid (HCJ.out.isP x hlt)
          have HPY := Lib.hid (HCJ.out.isP y hyt)
          obtain rfl : nx = 3 := by rw [rx.len, HPX.out.len]
          obtain rfl : ny = 3 := by rw [ry.len, HPY.out.len]
          have HI := Lib.hid (HCJ.out.lt x y hlt hyt)
          have HIA : Hid (L.getD (cjI L x y) [] = cjL (L.getD x []) (L.getD y [])) := Lib.hid (cjI_at (by rw [HCJ.out.len]; exact HI.out))
          have HIN : Hid (∀ j, j < cjI L x y → L.getD j [] ≠ cjL (L.getD x []) (L.getD y [])) := Lib.hid fun j hj => cjI_ne hj
          have hv : V x y = ((cjI L x y : Nat) : Int) := HVE.out x y
          rw [hv] at HV1
          clear hv
          obtain ⟨I, hI⟩ : ∃ I, cjI L x y = I := ⟨_, rfl⟩
          rw [hI] at HV1 HI HIA HIN
          clear hI
          have hIm := HI.out
          obtain ⟨px, hpx⟩ : ∃ px, L.getD x [] = px := ⟨_, rfl⟩
          obtain ⟨py, hpy⟩ : ∃ py, L.getD y [] = py := ⟨_, rfl⟩
          rw [hpx] at rx HPX HIA HIN
          rw [hpy] at ry HPY HIA HIN
          clear hpx hpy
          have HBX := Lib.hid (show ∀ v ∈ backF px, 0 ≤ v ∧ v < ((3 : Nat) : Int) from (back_isP HPX.out).mem)
          have HTX : Hid (∀ v ∈ thL (backF px) py, 0 ≤ v ∧ v < ((3 : Nat) : Int)) := Lib.hid (thL_mem (fun v hv => by have := HBX.out v hv; rw [HPY.out.len]; exact this) HPY.out.mem)
          have hW := (Below.drew (Below.refl W.heap.size W))
          have tok1 : True := trivial
          have c0 : W.cell? ⟨bL, oL + x, none⟩ = some (.slice ax 3 cx) ∧ W.cell? ⟨bL, oL + y, none⟩ = some (.slice ay 3 cy) := ⟨gx, gy⟩
          clear gx gy
          go_wp2
          go_region_held3 (fun w' => w'.cell? ⟨bL, oL + x, none⟩ = some (.slice ax 3 cx) ∧ w'.cell? ⟨bL, oL + y, none⟩ = some (.slice ay 3 cy))
            (first | exact c3 | exact c2 | exact c1 | exact c0)
            (first
              | (go_at_call 148; have _t := tok1; refine (l01Back_any _ 3 _ px _ (rx.drewN 1) (by omega) HPX.out.mem).mono ?_; rintro e u1 ⟨d1, f1, rfl, ob1, hbb1⟩; have q1 : Below W.heap.size W u1 := hW.trans hbb1; have c1 := show u1.cell? ⟨bL, oL + x, none⟩ = some (.slice ax 3 cx) ∧ u1.cell? ⟨bL, oL + y, none⟩ = some (.slice ay 3 cy) from ⟨(q1.cell (p := ⟨bL, oL + x, none⟩) gL).trans c0.1, (q1.cell (p := ⟨bL, oL + y, none⟩) gL).trans c0.2⟩; clear _t tok1; have tok2 : True := trivial)
              | (go_at_call 158; have _t := tok2; refine (l01Then_any _ _ 3 3 _ _ (backF px) py _ ob1.row (ry.below q1) (by omega) HBX.out).mono ?_; rintro e u2 ⟨d2, f2, rfl, ob2, hbb2⟩; have q2 := below_th q1 hbb2; have c2 := show u2.cell? ⟨bL, oL + x, none⟩ = some (.slice ax 3 cx) ∧ u2.cell? ⟨bL, oL + y, none⟩ = some (.slice ay 3 cy) from ⟨(q2.cell (p := ⟨bL, oL + x, none⟩) gL).trans c0.1, (q2.cell (p := ⟨bL, oL + y, none⟩) gL).trans c0.2⟩; clear _t tok2; have tok3 : True := trivial)
              | (go_at_call 158; have _t := tok3; refine (l01Then_any _ _ 3 3 _ _ (thL (backF px) py) px _ ob2.row (rx.below q2) (by omega) HTX.out).mono ?_; rintro e u3 ⟨d3, f3, rfl, ob3, hbb3⟩; have q3 := below_th q2 hbb3; have c3 := show u3.cell? ⟨bL, oL + x, none⟩ = some (.slice ax 3 cx) ∧ u3.cell? ⟨bL, oL + y, none⟩ = some (.slice ay 3 cy) from ⟨(q3.cell (p := ⟨bL, oL + x, none⟩) gL).trans c0.1, (q3.cell (p := ⟨bL, oL + y, none⟩) gL).trans c0.2⟩; clear _t tok3))
          all_goals
            have T3 := TW.below q3
            have hor3 := hor.below q3
            have hq3 := hqr.trans (q3.mono hwq)
            have hz3 := q3.size
            have obr := ob3.row
            clear ob1 ob2 hbb1 hbb2 hbb3 c0 c1 c2 c3 q1 q2 hor hqr
            go_wp2
            go_loopw [17] (fun i wq => ∃ j : Nat, j ≤ I ∧ i = .int .i64 j ∧ Below u3.heap.size u3 wq) (fun i _ => I - (intOf i).toNat)
            case atStart => exact ⟨0, Nat.zero_le _, rfl, Below.refl _ _⟩
            case round =>
              obtain ⟨j, hj, rfl, hqj⟩ := hrel
              obtain ⟨U, rfl⟩ : ∃ U : World, U = wr := ⟨_, rfl⟩
              have hjm : j < m := by omega
              obtain ⟨_, _, aj, nj, cj, ej, _, gj, rj, lj⟩ := (T3.below hqj).2 j hjm
              cases ej
              have obj := obr.below hqj
              by_cases hjI : j < I
              · have HNE : Hid (decide (L.getD j [] = thL (thL (backF px) py) px) = false) := Lib.hid (decide_eq_false (HIN.out j hjI))
                go_wp2_with fail
                refine (l01Same_b _ _ _ _ _ _ (L.getD j []) (thL (thL (backF px) py) px) _ rj obj lj false HNE.out).mono ?_
                rintro e u4 ⟨rfl, hb4⟩
                go_wp2
                go_roundw
                case rel => exact ⟨j + 1, by omega, by go_num, below_th hqj hb4⟩
                case measure => simp [intOf]; omega
              · obtain rfl : j = I := by omega
                have HEQ : Hid (decide (L.getD j [] = thL (thL (backF px) py) px) = true) := Lib.hid (decide_eq_true HIA.out)
                go_wp2_with fail
                refine (l01Same_b _ _ _ _ _ _ (L.getD j []) (thL (thL (backF px) py) px) _ rj obj lj true HEQ.out).mono ?_
                rintro e u4 ⟨rfl, hb4⟩
                have q4 := below_th hqj hb4
                have hor4 := hor3.below q4
                have hz4 := q4.size
                have hq4 := hq3.trans (q4.mono (by omega))
                go_wp2_with (at_builtin; refine app1 rfl rfl hor4 rfl rfl (by omega) (by omega) ?_; intro g' cc w8 hO8 hg8 hs8 hb8)
                go_roundw
                case rel => exact ⟨y + 1, _, _, by omega, by go_num, rfl, by rw [HV1.out]; exact hO8, hq4.trans hb8⟩
                case measure => simp [intOf]; omega
        · obtain rfl : y = m := by omega
          have hz1 := ho.below hqr
          have hlo := ho.high
          go_wp2_with (at_builtin; refine appT1g rfl rfl hz1 rfl (hor.mono (by omega)) (fun g h1 h2 => by have h3 := ho.high _ h1; have h4 := hor.lo _ h2; omega) (fun i hi g h1 h2 => by have h3 := hor.lo _ h1; have h4 := (ho.row i hi).hi _ h2; omega) rfl (by omega) (by omega) ?_; intro g' cc w9 hO9 hg9 hat9 hb9)
          have hm9 := hm.then ((Marked.ofB hqr).trans (Marked.grown hz1 hg9)) (fun g hg => HT.out g hg)
          have HT9 : Hid (∀ g, TblS (some ⟨g', 0, none⟩) (x + 1) (vz ++ [(ar, y, cr)]) g → g = B0 ∨ wB.heap.size ≤ g) := Lib.hid fun g hg => by
            rcases TblS.snoc hz1.vlen hg with rfl | e | e
            · rcases hat9 with e | e
              · exact HT.out _ (hz1.ownBlk e)
              · exact .inr (by omega)
            · have := hor.lo _ e
              exact .inr (by omega)
            · exact HT.out _ e
          go_roundw
          case rel => exact ⟨x + 1, _, _, _, by omega, by go_num, rfl, by rw [HRV.out]; exact hO9, hm9, HT9⟩
          case measure => simp [intOf]; omega
    · obtain rfl : x = m := by omega
      rw [List.take_of_length_le (by rw [tabF_len]; exact Nat.le_refl _)] at ho
      go_wp2
      go_ret
      exact ⟨_, _, _, vz, _, by omega, by omega, rfl, ho.mono (by omega), HSV.out, HSRC.out.keepB hlow (by omega), grown_below HGB.out hlow (by omega)⟩
end Go.Proofs.YtaddclaadbjnlaaGreat
