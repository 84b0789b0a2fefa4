/-
  Walks and plain laws of this seat, some texts in one.
  No condition but bounds on lengths.
-/
import Derived.Test.YtiliimkfobfbnaaGreatPt32
namespace Go.Proofs.YtiliimkfobfbnaaGreat
set_option maxRecDepth 100000
set_option linter.unusedVariables false
set_option linter.unusedSimpArgs false
open Go.RowKit
def SrR (lo : Nat) (r : List (List (List Int))) (w : World) (e : Ending) (w' : World) : Prop := ∃ a' N' c' vs', e = .returned (.slice a' N' c') ∧ LstN lo w' a' N' vs' r ∧ N' ≤ c' ∧ c' ≤ 9223372036854775807 ∧ Below w.heap.size w w'
set_option maxHeartbeats 16000000 in
theorem l13Search_all (n K : Nat) (T A : List (List Int)) (hT : Sq n T) (hA : RwsL n A) (hn1 : 1 ≤ n) (hn : n ≤ 7) (hK : K ≤ 1000) (ct ca : Nat) (ta aa : Option Addr) (lo : Nat) (kn : List Int) (o r : List (List (List Int))) (ka oa : Option Addr) (ck N oc : Nat) (vs : List SV) (w : World)
    (hr : r = insC (cirV T A n kn) o) (hneg : negF kn = n) (hrl : r.length ≤ 1000) (h1 : Tbl w ta n T) (h2 : Tbl w aa K A) (h3 : Row w ka n kn) (hl : LabN n K kn) (ho : LstN lo w oa N vs o) (hlo : lo ≤ w.heap.size) (hall : AllN n o) (hNc : N ≤ oc) (hcm : oc ≤ 9223372036854775807) :
    Calls Tryz.prog 139 #[.slice ta n ct, .slice aa K ca, .slice ka n ck, .slice oa N oc] w (SrR lo r w) := by
  have HRES := Lib.hid hr
  have HT0 := Lib.hid h1; have HA0 := Lib.hid h2; have HK0 := Lib.hid h3; have HL := Lib.hid hl
  have HKP : Hid (∀ i, i < n → 0 ≤ kn.getD i 0) := Lib.hid fun i hi => negF_pos (by rw [hl.1]; exact hneg) i (by rw [hl.1]; exact hi)
  have HAN := Lib.hid h2.len; have HRW := Lib.hid hA; have HLN := Lib.hid ho.len; have HALL := Lib.hid hall
  have hNb : N ≤ 1000 := by have := ho.len; rw [hr, insC_len] at hrl; omega
  have HO0 := Lib.hid ho
  obtain ⟨kb, ko, rfl, _⟩ := h3.at 0 (by omega)
  obtain ⟨ab, ao, _, _, _, rfl, _⟩ := h2.at 0 (by have h5 := (hl.2 0 (by omega)).2; have h6 := HKP.out 0 (by omega); omega)
  obtain ⟨tb, tof, _, _, _, rfl, _⟩ := h1.at 0 (by omega)
  obtain ⟨C, HC⟩ : ∃ C, Hid (cirV T A n kn = C) := ⟨_, Lib.hid rfl⟩
  have HCL : Hid (C.length = n) := Lib.hid (by rw [← HC.out]; exact cirV_len T A n kn)
  rw [HC.out] at HRES
  generalize hPP : SrR lo r w = PP
  have HPP := Lib.hid hPP
  clear h1 h2 h3 hl ho hall hr hrl hneg hA hPP
  go_enter Tryz.func139, Tryz.ntmps139
  go_wp2
  go_loopw [9] (fun i wr => ∃ x : Nat, x ≤ n ∧ i = .int .i64 x ∧ wr = w) (fun i _ => n - (intOf i).toNat)
  case atStart => exact ⟨0, Nat.zero_le _, rfl, rfl⟩
  case round =>
    obtain ⟨x, hx, rfl, hwr⟩ := hrel
    subst hwr
    by_cases hltx : x < n
    · obtain ⟨_, _, e9, s1⟩ := HK0.out.at x hltx
      cases e9
      have hp := HKP.out x hltx
      obtain ⟨v, HV⟩ : ∃ v, Hid (kn.getD x 0 = v) := ⟨_, Lib.hid rfl⟩
      rw [HV.out] at s1 hp
      have x1 : (0 : Int) ≤ (x : Int) := by omega
      have x2 : (x : Int) < (n : Int) := by omega
      go_wp2
      go_roundw
      case rel => exact ⟨x + 1, by omega, by go_num, trivial⟩
      case measure => simp [intOf]; omega
    · obtain rfl : n = x := by omega
      obtain ⟨w, rfl⟩ : ∃ v : World, v = wr := ⟨_, rfl⟩
      have hz0 := OwnT.fresh w rfl
      have hq0 := below_al (Below.refl w.heap.size w) (.cells #[] 50)
      have nn : ((n : Int) == (n : Int)) = true := by simp
      go_wp2
      clear nn
      go_loopw [10, 11] (fun z i wq => ∃ (y : Nat) (az : Option Addr) (cz : Nat) (vz : List SV), y ≤ n ∧ i = .int .i64 y ∧ z = .slice az y cz ∧ OwnT wq w.heap.size az y cz vz (C.take y) ∧ Below w.heap.size w wq) (fun _ i _ => n - (intOf i).toNat)
      case atStart => exact ⟨0, _, 0, _, Nat.zero_le _, rfl, rfl, by simpa using hz0, hq0⟩
      case round =>
        clear hz0 hq0
        obtain ⟨y, az, cz, vz, hy, rfl, rfl, hz, hq⟩ := hrel
        obtain ⟨W, rfl⟩ : ∃ W : World, W = wr := ⟨_, rfl⟩
        by_cases hlty : y < n
        · have hp := HKP.out y hlty
          have hb := (HL.out.2 y hlty).2
          obtain ⟨U, hU⟩ : ∃ U : Nat, kn.getD y 0 = (U : Int) := ⟨(kn.getD y 0).toNat, by omega⟩
          have HST : Hid (C.take (y + 1) = C.take y ++ [thL (A.getD U []) (T.getD y [])]) := Lib.hid (by rw [← HC.out, cirV_succ T A kn hlty, hU, Int.toNat_natCast])
          obtain ⟨_, _, e9, _, s1⟩ := HK0.out.2 y hlty
          cases e9
          rw [hU] at s1 hb
          have hUK : U < K := by omega
          obtain ⟨_, _, pa, pn, pc, e9, lb1, s2, r1, _⟩ := HA0.out.2 U hUK
          cases e9
          obtain ⟨_, _, qa, qn, qc, e9, lb2, s3, r2, _⟩ := HT0.out.2 y hlty
          cases e9
          obtain ⟨l1, v1⟩ := HRW.out U (by have := HAN.out; omega)
          obtain rfl : n = pn := by rw [r1.len]; exact l1.symm
          obtain rfl : n = qn := by rw [r2.len]; exact (hT.row hlty).symm
          have hpq : ∀ z ∈ A.getD U [], 0 ≤ z ∧ z < (n : Int) := fun z hz => by
            obtain ⟨i, hi, rfl⟩ := List.getElem_of_mem hz
            obtain ⟨t, ht, e⟩ := v1 i (by omega)
            rw [getD_at hi] at e
            omega
          have HPQ := Lib.hid hpq
          have lbk : kb < w.heap.size := by obtain ⟨_, _, e9, h9, _⟩ := HK0.out.2 y hlty; cases e9; exact h9
          have hKP : ∀ v, Below w.heap.size w v → (fun v => v.cell? ⟨kb, ko + y, none⟩ = some (.int .i64 (U : Int)) ∧ v.cell? ⟨ab, ao + U, none⟩ = some (.slice pa n pc) ∧ v.cell? ⟨tb, tof + y, none⟩ = some (.slice qa n qc)) v := fun v h => ⟨(h.cell (p := ⟨kb, ko + y, none⟩) lbk).trans s1, (h.cell (p := ⟨ab, ao + U, none⟩) lb1).trans s2, (h.cell (p := ⟨tb, tof + y, none⟩) lb2).trans s3⟩
          have HKE := Lib.hid hKP
          have r1W : Row (W.drewN 1) pa n (A.getD U []) := (r1.below hq).drewN 1
          have r2W : Row (W.drewN 1) qa n (T.getD y []) := (r2.below hq).drewN 1
          have lS := hKP W hq
          have hWs := hq.size
          have hzhi := hz.uHi
          have hn12 : n ≤ 1000000 := by omega
          have n1 : (0 : Int) ≤ (U : Int) := by omega
          have n2 : (U : Int) < (K : Int) := by omega
          have n3 : (0 : Int) ≤ (y : Int) := by omega
          have n4 : (y : Int) < (n : Int) := by omega
          clear hp hb hU s1 s2 s3 lb1 lb2 lbk r1 r2 l1 v1 hpq hKP
          go_wp2
          go_region_held3 (fun v => v.cell? ⟨kb, ko + y, none⟩ = some (.int .i64 (U : Int)) ∧ v.cell? ⟨ab, ao + U, none⟩ = some (.slice pa n pc) ∧ v.cell? ⟨tb, tof + y, none⟩ = some (.slice qa n qc)) (first | exact lS | exact lS5 | exact lS6 | go_keep) (first
            | (go_at_call 149; refine (l01Then_any pa qa n n pc qc (A.getD U []) (T.getD y []) _ r1W r2W hn12 HPQ.out).mono ?_; rintro e w5 ⟨a5, c5, rfl, ho5, hb5⟩; have hb15 : Below W.heap.size W w5 := (below_drewN (Below.refl _ _) 1).trans hb5; have hB5 := hq.trans (hb15.mono hWs); have lS5 := HKE.out w5 hB5; have hz5 := hz.below hb15; have hs5 := hb15.size; have ho5lo := ho5.lo)
            | (refine step_appT1n rfl rfl hz5 rfl (ho5.mono hWs) (fun g h1 h2 => by have h3 := hzhi _ (.inl h1); have h4 := ho5lo _ h2; have h5 : (W.drewN 1).heap.size = W.heap.size := rfl; omega) (fun i hi g h1 h2 => by have h3 := ho5lo _ h1; have h4 := hzhi _ (.inr ⟨i, hi, h2⟩); have h5 : (W.drewN 1).heap.size = W.heap.size := rfl; omega) rfl (by omega) (by omega) ?_; intro g6 cc6 w6 hOT6 hg6 hat6 hb6; have hB6 := hB5.trans hb6; have lS6 := HKE.out w6 hB6))
          all_goals
            go_wp2
            go_roundw
            case rel => exact ⟨y + 1, _, _, _, by omega, by go_num, rfl, by rw [HST.out]; exact hOT6, hB6⟩
            case measure => simp [intOf]; omega
        · obtain rfl : n = y := by omega
          rw [List.take_of_length_le (by have := HCL.out; omega)] at hz
          have hzt := hz.tbl
          have HZO := Lib.hid hz
          have HZT := Lib.hid hzt
          have hLW := HO0.out.now.below hq
          have hqW := hq
          clear hz hzt hq
          go_wp2
          go_loopw [12] (fun s wq => ∃ q : Nat, q ≤ N ∧ s = .int .i64 q ∧ Hid (∀ i, i < q → befS [o.getD i []] [C] = true) ∧ Below W.heap.size W wq) (fun s _ => N - (intOf s).toNat)
          case atStart => exact ⟨0, Nat.zero_le _, rfl, Lib.hid (fun i hi => by omega), Below.refl _ _⟩
          case round =>
            obtain ⟨q, hq9, rfl, HQ, hbq⟩ := hrel
            have hq := hq9
            obtain ⟨G, rfl⟩ : ∃ G : World, G = wr := ⟨_, rfl⟩
            have hLG := hLW.below hbq
            have hCG := HZT.out.below hbq
            have hbG : Below w.heap.size w G := hqW.trans (hbq.mono hqW.size)
            have hGW : Below W.heap.size W G := hbq
            have q1 : (0 : Int) ≤ (q : Int) := by omega
            have hEnd : Hid ((q = N ∨ befS [o.getD q []] [C] = false) → insC C o = o.take q ++ C :: o.drop q) := Lib.hid fun h2 => insC_at (by have := HLN.out; omega) HQ.out (by rcases h2 with h2 | h2; exact .inl (by have := HLN.out; omega); exact .inr h2)
            by_cases hltq : q < N
            · obtain ⟨ob, oo, rfl, kl, g1⟩ := hLG.hd.2 q hltq
              obtain ⟨hel, hel2⟩ := hLG.el q hltq
              obtain ⟨⟨va, vn, vc⟩, HV⟩ : ∃ v, Hid (vs.getD q svO = v) := ⟨_, rfl⟩
              rw [HV.out] at g1 hel hel2
              change G.cell? _ = some (.slice va vn vc) at g1
              obtain ⟨X, HX⟩ : ∃ X, Hid (o.getD q [] = X) := ⟨_, rfl⟩
              rw [HX.out] at hel
              change Tbl G va vn X at hel
              change vn ≤ _ at hel2
              have q2 : (q : Int) < (N : Int) := by omega
              obtain ⟨B, HB1⟩ : ∃ B, Hid (befS [X] [C] = B) := ⟨_, rfl⟩
              have hb1 := TbS.lit (w := G) rfl hel hel2 24 (c := vc)
              have hb2 := TbS.lit (w := G.alloc (.cells #[.slice va vn vc] 24)) (b := G.heap.size + 1) (by simp) (hCG.below (below_al (Below.refl _ _) _)) (by omega) 24 (c := cz)
              have hb1 := hb1.alloc (.cells #[.slice az n cz] 24)
              have hXn : X.length = n := by rw [← HX.out]; exact HALL.out q (by have := HLN.out; omega)
              have HXN : Hid (∀ k, k < 1 → ([X].getD k []).length ≤ ([C].getD k []).length) := Lib.hid fun k hk => by
                obtain rfl : k = 0 := by omega
                show X.length ≤ C.length
                have := HCL.out; omega
              have hbA := below_al (below_al (Below.refl G.heap.size G) (.cells #[.slice va vn vc] 24)) (.cells #[.slice az n cz] 24)
              clear hXn hel
              cases B with
              | true =>
                have HQN : Hid (∀ i, i < q + 1 → befS [o.getD i []] [C] = true) := Lib.hid fun i hi => by
                  rcases Nat.lt_or_ge i q with h | h
                  · exact HQ.out i h
                  · obtain rfl : i = q := by omega
                    rw [HX.out]; exact HB1.out
                go_wp2_with fail
                refine (l03Before_any _ _ 1 1 1 1 [X] [C] _ hb1 hb2 (Nat.le_refl _) (by omega) HXN.out).mono ?_
                rintro e w5 ⟨rfl, hw5⟩
                rw [HB1.out]
                have hb5 : Below W.heap.size W w5 := by obtain ⟨d, hd⟩ := hw5; rw [hd]; exact below_drewN (hbq.trans (hbA.mono hbq.size)) d
                clear hw5
                go_wp2
                go_roundw
                case rel => exact ⟨q + 1, by omega, by go_num, HQN, hb5⟩
                case measure => simp [intOf]; omega
              | false =>
                have hIN : insC C o = o.take q ++ C :: o.drop q := hEnd.out (.inr (by rw [HX.out]; exact HB1.out))
                have HIN := Lib.hid hIN
                clear hIN
                go_wp2_with fail
                refine (l03Before_any _ _ 1 1 1 1 [X] [C] _ hb1 hb2 (Nat.le_refl _) (by omega) HXN.out).mono ?_
                rintro e w5 ⟨rfl, hw5⟩
                rw [HB1.out]
                have hb5 : Below G.heap.size G w5 := by obtain ⟨d, hd⟩ := hw5; rw [hd]; exact below_drewN hbA d
                have hLG := hLG.below hb5
                have hCG := hCG.below hb5
                have hbG := hbG.trans (hb5.mono hbG.size)
                have hGW := hGW.trans (hb5.mono hGW.size)
                clear hw5 g1 hb1 hb2 hbA hb5 hbq kl
                obtain ⟨oa, hoa⟩ : ∃ oa, (some ⟨ob, oo, none⟩ : Option Addr) = oa := ⟨_, rfl⟩
                rw [hoa] at hLG ⊢
                clear hoa hLW
                obtain ⟨G, rfl⟩ : ∃ G : World, G = w5 := ⟨_, rfl⟩
                obtain ⟨aT, efr, hfr⟩ := slice_fromV oa N oc q hq
                have eto := fun v => slice_toV oa N oc q (by omega) v
                have hdr0 := hfr G vs hNc hLG.hd
                skip
                have hlit := Hv.one G rfl (az, n, cz)
                have hdrA : HdR (G.alloc (.cells #[.slice az n cz] 24)) aT (N - q) (vs.drop q) := hdr0.alloc _
                have hGz : G.heap.size ≤ (G.alloc (.cells #[.slice az n cz] 24)).heap.size := by rw [size_alloc]; omega
                have hln1 : 1 + (N - q) ≤ 1000000000000 := by omega
                clear hdr0 hfr
                go_wp2_with (at_builtin; first
                  | (refine appV rfl rfl hlit rfl hdrA rfl hln1 hGz ?_; intro ad1 cc1 w6 hO1 hg1 hb1; have hb16 : Below G.heap.size G w6 := (below_al (Below.refl _ _) _).trans hb1; have hd6 := ((hLG.hd.take hq).below hb16).alloc (.cells #[] 24); have hz6 := hb16.size)
                  | (refine appV rfl rfl (Hv.fresh w6 rfl) rfl hd6 rfl (by omega) (by simp) ?_; intro ad2 cc2 w7 hO2 hg2 hb2; rw [Nat.zero_add] at hO2 ⊢; have hb26 : Below w6.heap.size w6 w7 := (below_al (Below.refl _ _) _).trans hb2; have hO17 := (hO1.below hb26).read; have hz7 := hb26.size)
                  | (refine appV rfl rfl hO2 rfl hO17 rfl (by omega) hz7 ?_; intro ad3 cc3 w8 hO3 hg3 hb3))
                have hG6 : Below G.heap.size G w6 := hb16
                have hb58 : Below G.heap.size G w8 := hb16.trans ((hb26.mono hz6).trans (hb3.mono hz6))
                have hfin := finV hLG hCG hb58 hO3 hq HIN.out (by rw [HIN.out]; simp; have := HLN.out; omega) (by omega)
                obtain ⟨g8, rfl, hn8, hc8, hl8⟩ := hfin
                have hbW8 := hGW.trans (hb58.mono hGW.size)
                have hL8 : LstN lo w8 (some ⟨g8, 0, none⟩) (N + 1) (vs.take q ++ (az, n, cz) :: vs.drop q) (insC C o) := fun w'' hk => by
                  have hz'' := (HZO.out.below hbW8).keep (w' := w'') fun g hg hlt => hk g (by have := (HZO.out.below hbW8).uLo g hg; omega) hlt
                  have hO'' := hO3.keep (w' := w'') fun g hg hlt => hk g (by have := hO3.low g hg; have := hG6.size; have := hbG.size; omega) hlt
                  obtain ⟨_, e9, _, _, h9⟩ := finW ((HO0.out.below (hqW.trans (hbW8.mono hqW.size))) w'' hk) hz''.tbl hO'' hq HIN.out (by rw [HIN.out]; simp; have := HLN.out; omega) (by omega)
                  cases e9
                  exact h9
                rw [← HPP.out]
                exact ⟨_, N + 1, cc3, _, (by rw [show q + (1 + (N - q)) = N + 1 by omega]; rfl), by rw [HRES.out]; exact hL8, hn8, hc8, hbG.trans (hb58.mono hbG.size)⟩
            · obtain rfl : N = q := by omega
              have HIN : Hid (insC C o = o.take N ++ C :: o.drop N) := Lib.hid (hEnd.out (.inl rfl))
              obtain ⟨aT, efr, hfr⟩ := slice_fromV oa N oc N hq
              have eto := fun v => slice_toV oa N oc N (by omega) v
              have hdr0 := hfr G vs hNc hLG.hd
              rw [Nat.sub_self] at efr hdr0
              have hlit := Hv.one G rfl (az, n, cz)
              have hdrA : HdR (G.alloc (.cells #[.slice az n cz] 24)) aT 0 (vs.drop N) := hdr0.alloc _
              have hGz : G.heap.size ≤ (G.alloc (.cells #[.slice az n cz] 24)).heap.size := by rw [size_alloc]; omega
              have hln1 : 1 + 0 ≤ 1000000000000 := by omega
              clear hdr0 hfr
              go_wp2_with (at_builtin; first
                | (refine appV rfl rfl hlit rfl hdrA rfl hln1 hGz ?_; intro ad1 cc1 w6 hO1 hg1 hb1; have hb16 : Below G.heap.size G w6 := (below_al (Below.refl _ _) _).trans hb1; have hd6 := ((hLG.hd.take hq).below hb16).alloc (.cells #[] 24); have hz6 := hb16.size)
                | (refine appV rfl rfl (Hv.fresh w6 rfl) rfl hd6 rfl (by omega) (by simp) ?_; intro ad2 cc2 w7 hO2 hg2 hb2; rw [Nat.zero_add] at hO2 ⊢; have hb26 : Below w6.heap.size w6 w7 := (below_al (Below.refl _ _) _).trans hb2; have hO17 := (hO1.below hb26).read; have hz7 := hb26.size)
                | (refine appV rfl rfl hO2 rfl hO17 rfl (by omega) hz7 ?_; intro ad3 cc3 w8 hO3 hg3 hb3))
              have hG6 : Below G.heap.size G w6 := hb16
              have hb58 : Below G.heap.size G w8 := hb16.trans ((hb26.mono hz6).trans (hb3.mono hz6))
              have hfin := finV hLG hCG hb58 hO3 hq HIN.out (by rw [HIN.out]; simp; have := HLN.out; omega) (by omega)
              obtain ⟨g8, rfl, hn8, hc8, hl8⟩ := hfin
              have hbW8 := hGW.trans (hb58.mono hGW.size)
              have hL8 : LstN lo w8 (some ⟨g8, 0, none⟩) (N + 1) (vs.take N ++ (az, n, cz) :: vs.drop N) (insC C o) := fun w'' hk => by
                have hz'' := (HZO.out.below hbW8).keep (w' := w'') fun g hg hlt => hk g (by have := (HZO.out.below hbW8).uLo g hg; omega) hlt
                have hO'' := hO3.keep (w' := w'') fun g hg hlt => hk g (by have := hO3.low g hg; have := hG6.size; have := hbG.size; omega) hlt
                obtain ⟨_, e9, _, _, h9⟩ := finW ((HO0.out.below (hqW.trans (hbW8.mono hqW.size))) w'' hk) hz''.tbl hO'' hq HIN.out (by rw [HIN.out]; simp; have := HLN.out; omega) (by omega)
                cases e9
                exact h9
              rw [← HPP.out]
              exact ⟨_, N + 1, cc3, _, (by rw [show N + (1 + 0) = N + 1 by omega]), by rw [HRES.out]; exact hL8, hn8, hc8, hbG.trans (hb58.mono hbG.size)⟩
set_option maxHeartbeats 16000000 in
theorem l13Search_any (n K : Nat) (T A : List (List Int)) (hT : Sq n T) (hA : RwsL n A) (hAl : A.length = K) (hn1 : 1 ≤ n) (hn : n ≤ 7) (hK : K ≤ 1000) (ct ca : Nat) (ta aa : Option Addr) (lo : Nat) : ∀ (k : Nat) (kn : List Int) (o r : List (List (List Int))) (ka oa : Option Addr) (ck N oc : Nat) (vs : List SV) (w : World),
    srC T A n k kn o = some r → r.length ≤ 1000 → Tbl w ta n T → Tbl w aa K A → Row w ka n kn → LabN n K kn → LstN lo w oa N vs o → lo ≤ w.heap.size → AllN n o → N ≤ oc → oc ≤ 9223372036854775807 →
    Calls Tryz.prog 139 #[.slice ta n ct, .slice aa K ca, .slice ka n ck, .slice oa N oc] w (SrR lo r w) := by
  intro k
  induction k with
  | zero =>
    intro kn o r ka oa ck N oc vs w hr hrl h1 h2 h3 hl ho hlo hall hNc hcm
    by_cases e : negF kn = n
    · exact l13Search_all n K T A hT hA hn1 hn hK ct ca ta aa lo kn o r ka oa ck N oc vs w (srC_all hr e) e hrl h1 h2 h3 hl ho hlo hall hNc hcm
    · obtain ⟨j, hj, _⟩ := srC_go hr e; omega
  | succ k ih =>
    intro kn o r ka oa ck N oc vs w hr hrl h1 h2 h3 hl ho hlo hall hNc hcm
    by_cases e : negF kn = n
    · exact l13Search_all n K T A hT hA hn1 hn hK ct ca ta aa lo kn o r ka oa ck N oc vs w (srC_all hr e) e hrl h1 h2 h3 hl ho hlo hall hNc hcm
    obtain ⟨j, hj, hf⟩ := srC_go hr e
    obtain rfl : j = k := by omega
    have hAlK := hAl
    rw [hAlK] at hf
    obtain ⟨hx1, hx2, hx3⟩ := negF_lt (L := kn) (by rw [hl.1]; exact e)
    obtain ⟨X, HXX⟩ : ∃ X, Hid (negF kn = X) := ⟨_, Lib.hid rfl⟩
    rw [HXX.out] at hx1 hx2 hx3
    rw [hl.1] at hx1
    have HX2 := Lib.hid hx2; have HX3 := Lib.hid hx3
    have HF := Lib.hid hf
    have IH := Lib.hid ih
    have HT0 := Lib.hid h1; have HA0 := Lib.hid h2; have HK0 := Lib.hid h3; have HL := Lib.hid hl
    have HALL := Lib.hid hall; have HRW := Lib.hid hA; have HAL := Lib.hid hAl
    obtain ⟨kb, ko, rfl, _⟩ := h3.at 0 (by omega)
    generalize hPP : SrR lo r w = PP
    have HPP := Lib.hid hPP
    have HRL := Lib.hid hrl
    have HO0 := Lib.hid ho
    clear ih h1 h2 h3 hl hall hr hrl hA hAl hAlK hPP hf hx2 hx3 e hj ho
    go_enter Tryz.func139, Tryz.ntmps139
    go_wp2
    go_loopw [9] (fun i wr => ∃ x : Nat, x ≤ X ∧ i = .int .i64 x ∧ wr = w) (fun i _ => X - (intOf i).toNat)
    case atStart => exact ⟨0, Nat.zero_le _, rfl, rfl⟩
    case round =>
      obtain ⟨x, hx, rfl, hwr⟩ := hrel
      subst hwr
      have hxn : x < n := by omega
      obtain ⟨_, _, e9, s1⟩ := HK0.out.at x hxn
      cases e9
      have x1 : (0 : Int) ≤ (x : Int) := by omega
      have x2 : (x : Int) < (n : Int) := by omega
      obtain ⟨v, HV⟩ : ∃ v, Hid (kn.getD x 0 = v) := ⟨_, Lib.hid rfl⟩
      by_cases hltx : x < X
      · have hp := HX2.out x hltx
        rw [HV.out] at s1 hp
        go_wp2
        go_roundw
        case rel => exact ⟨x + 1, by omega, by go_num, trivial⟩
        case measure => simp [intOf]; omega
      · obtain rfl : X = x := by omega
        have hp := HX3.out
        rw [HV.out] at s1 hp
        have hp' : ¬ (0 : Int) ≤ v := by omega
        have nn : ((X : Int) == (n : Int)) = false := by rw [beq_eq_false_iff_ne]; omega
        obtain ⟨w, rfl⟩ : ∃ v : World, v = wr := ⟨_, rfl⟩
        go_wp2
        clear nn
        go_loopw [3, 14] (fun s i wq => ∃ (i' : Nat) (o' : List (List (List Int))) (a' : Option Addr) (N' c' : Nat) (vs' : List SV), i' ≤ K ∧ i = .int .i64 i' ∧ s = .slice a' N' c' ∧ Hid (foldO (srS T A n j kn) i' o = some o') ∧ LstN lo wq a' N' vs' o' ∧ Hid (AllN n o') ∧ N' ≤ c' ∧ c' ≤ 9223372036854775807 ∧ Below w.heap.size w wq) (fun _ i _ => K - (intOf i).toNat)
        case atStart => exact ⟨0, o, oa, N, oc, vs, Nat.zero_le _, rfl, rfl, Lib.hid rfl, HO0.out, HALL, hNc, hcm, Below.refl _ _⟩
        case round =>
          clear s1
          obtain ⟨i, o', a', N', c', vs', hi, rfl, rfl, HO, ho', HALo, hNc', hcm', hq⟩ := hrel
          obtain ⟨W, rfl⟩ : ∃ W : World, W = wr := ⟨_, rfl⟩
          by_cases hlti : i < K
          · obtain ⟨o2, HO2⟩ : ∃ o2, Hid (foldO (srS T A n j kn) (i + 1) o = some o2) := by
              obtain ⟨t, ht⟩ := foldO_le HF.out (show i + 1 ≤ K by omega); exact ⟨t, Lib.hid ht⟩
            have HST : Hid (srS T A n j kn o' i = some o2) := Lib.hid (by rw [← foldO_succ HO.out]; exact HO2.out)
            have HO2L : Hid (o2.length ≤ 1000) := Lib.hid (by have h5 := foldO_mono (fun o i r => srS_len o i r) HF.out (show i + 1 ≤ K by omega) HO2.out; have := HRL.out; omega)
            have hK0 := HK0.out.below hq
            go_wp2_with fail
            refine (l01Own_any _ n ck kn _ hK0 (by omega)).mono ?_
            rintro e w5 ⟨a5, c5, rfl, ho5, hb5⟩
            obtain ⟨g5, rfl⟩ : ∃ g, a5 = some ⟨g, 0, none⟩ := by
              rcases ho5.block with ⟨_, h, _⟩ | ⟨g, _, h, _⟩
              · omega
              · exact ⟨g, h⟩
            have f1 := ho5.cells.2.1 X hxn
            have f2 := ho5.cells.2.2 X
            have ho6 := ho5.set X (i : Int)
            have hg5 := ho5.lt.1
            have hb6 : Below W.heap.size W (w5.setCell ⟨g5, X, none⟩ (.int .i64 (i : Int))) := below_setne hb5 (by show W.heap.size ≤ g5; omega) _
            have i1 : (0 : Int) ≤ (i : Int) := by omega
            have i2 : (i : Int) < (K : Int) := by omega
            go_wp2_with fail
            obtain ⟨w6, hw6⟩ : ∃ w6, w5.setCell ⟨g5, X, none⟩ (.int .i64 (i : Int)) = w6 := ⟨_, rfl⟩
            rw [hw6] at ho6 hb6 ⊢
            clear f1 f2 ho5 hb5 hw6 hK0
            have hB6 := hq.trans (hb6.mono hq.size)
            have HLS : Hid (LabN n K (kn.set X (i : Int))) := Lib.hid (HL.out.set X (by omega) (by omega))
            cases hR : tpF T A n (n + 2) (kn.set X (i : Int)) with
            | none =>
              exfalso
              have h9 := HST.out
              unfold srS at h9
              rw [HXX.out, hR] at h9
              cases h9
            | some R =>
              have HR9 := Lib.hid hR
              clear hR
              refine (l13Spread_any n K T A hT HRW.out hn1 (by omega) hK ta aa _ ct ca c5 _ w6 (n + 2) R (HT0.out.below hB6) (HA0.out.below hB6) ho6.row HLS.out HR9.out).mono ?_
              rintro e w7 ⟨hb7, hres⟩
              have hb67 := hb6.trans (hb7.mono hb6.size)
              have hB7 := hq.trans (hb67.mono hq.size)
              have ho7 := ho'.below hb67
              cases R with
              | none =>
                have HE : Hid (o2 = o') := Lib.hid (by
                  have h9 := HST.out
                  unfold srS at h9
                  rw [HXX.out, HR9.out] at h9
                  exact (Option.some.inj h9).symm)
                obtain ⟨_, _, _, rfl⟩ := hres
                go_wp2
                go_roundw
                case rel => exact ⟨i + 1, o', a', N', c', vs', by omega, by go_num, rfl, by rw [← HE.out]; exact HO2, ho7, HALo, hNc', hcm', hB7⟩
                case measure => simp [intOf]; omega
              | some al =>
                have HSR : Hid (srC T A n j al o' = some o2) := Lib.hid (by
                  have h9 := HST.out
                  unfold srS at h9
                  rw [HXX.out, HR9.out] at h9
                  exact h9)
                obtain ⟨a8, c8, rfl, ho8, hl8⟩ := hres
                go_wp2_with fail
                refine (IH.out al o' o2 a8 a' c8 N' c' vs' w7 HSR.out HO2L.out (HT0.out.below hB7) (HA0.out.below hB7) ho8.row hl8 ho7 (by have := hB7.size; omega) HALo.out hNc' hcm').mono ?_
                rintro e w9 ⟨a9, N9, c9, vs9, rfl, hl9, hn9, hc9, hb9⟩
                have HAL9 : Hid (AllN n o2) := Lib.hid (srC_shape HSR.out HALo.out)
                go_wp2
                go_roundw
                case rel => exact ⟨i + 1, o2, a9, N9, c9, vs9, by omega, by go_num, rfl, HO2, hl9, HAL9, hn9, hc9, hB7.trans (hb9.mono hB7.size)⟩
                case measure => simp [intOf]; omega
          · obtain rfl : K = i := by omega
            have HE : Hid (o' = r) := Lib.hid (by have h9 := HO.out; rw [HF.out] at h9; exact (Option.some.inj h9).symm)
            go_wp2
            rw [← HPP.out]
            exact ⟨a', N', c', vs', rfl, by rw [← HE.out]; exact ho', hNc', hcm', hq⟩
def rowB (n : Nat) (r : List Int) : Bool := decide (r.length = n) && allN n fun i => decide (0 ≤ r.getD i 0) && decide (r.getD i 0 < (n : Int))
def tabB (n : Nat) (t : List (List Int)) : Bool := decide (t.length = n) && allN n fun x => rowB n (t.getD x [])
def okD (T : List (List Int)) (n : Nat) : Bool := match mapF T n with
  | none => false
  | some A => decide (1 ≤ A.length) && decide (A.length ≤ 1000) && (allN A.length fun k => rowB n (A.getD k [])) && match srC T A n n (knwN n) [] with
    | none => false
    | some L => decide (1 ≤ L.length) && decide (L.length ≤ 1000) && allN L.length fun k => tabB n (L.getD k [])
theorem rowB_ok {n : Nat} {r : List Int} (h : rowB n r = true) : r.length = n ∧ ∀ i, i < n → ∃ v : Nat, v < n ∧ r.getD i 0 = (v : Int) := by
  unfold rowB at h
  rw [Bool.and_eq_true] at h
  refine ⟨by simpa using h.1, fun i hi => ?_⟩
  have h2 := allN_get h.2 hi
  simp only [Bool.and_eq_true, decide_eq_true_eq] at h2
  exact ⟨(r.getD i 0).toNat, by omega, by omega⟩
theorem tabB_ok {n : Nat} {t : List (List Int)} (h : tabB n t = true) : Sq n t := by
  unfold tabB at h
  rw [Bool.and_eq_true] at h
  refine ⟨by simpa using h.1, fun x hx => ?_⟩
  obtain ⟨h2, h3⟩ := rowB_ok (allN_get h.2 hx)
  refine ⟨h2, fun y hy => ?_⟩
  obtain ⟨v, h4, h5⟩ := h3 y hy
  unfold tv
  rw [h5]
  exact ⟨by simpa using h4, by simp⟩
theorem okD_ok {T : List (List Int)} {n : Nat} (h : okD T n = true) : ∃ A L, mapF T n = some A ∧ RwsL n A ∧ 1 ≤ A.length ∧ A.length ≤ 1000 ∧ srC T A n n (knwN n) [] = some L ∧ 1 ≤ L.length ∧ L.length ≤ 1000 ∧ ∀ i, i < L.length → Sq n (L.getD i []) := by
  unfold okD at h
  split at h
  · cases h
  · rename_i A hA
    rw [Bool.and_eq_true, Bool.and_eq_true, Bool.and_eq_true] at h
    obtain ⟨⟨⟨h1, h2⟩, h3⟩, h4⟩ := h
    split at h4
    · cases h4
    · rename_i L hL
      rw [Bool.and_eq_true, Bool.and_eq_true] at h4
      obtain ⟨⟨h5, h6⟩, h7⟩ := h4
      exact ⟨A, L, hA, fun k hk => rowB_ok (allN_get h3 hk), by simpa using h1, by simpa using h2, hL, by simpa using h5, by simpa using h6, fun i hi => tabB_ok (allN_get h7 hi)⟩
theorem knwN_lab {n K : Nat} (hK : 1 ≤ K) : LabN n K (knwN n) := ⟨by simp [knwN], fun i hi => by
  by_cases e : i = 0
  · subst e
    rw [show (knwN n).getD 0 0 = 0 from by simp [knwN, List.getD_eq_getElem?_getD, hi]]
    omega
  · rw [show (knwN n).getD i 0 = -1 from by simp [knwN, List.getD_eq_getElem?_getD, List.getElem_set, show ¬ 0 = i by omega, hi]]
    omega⟩
theorem rep_snoc (k : Nat) : List.replicate (k + 1) (-1 : Int) = List.replicate k (-1 : Int) ++ [-1] := List.replicate_succ'
set_option maxHeartbeats 4000000 in
theorem l13Circles_any (n c : Nat) (T : List (List Int)) (hT : Sq n T) (hn1 : 1 ≤ n) (hn : n ≤ 7) (hok : okD T n = true) (a : Option Addr) (w : World) (h : Tbl w a n T) :
    Calls Tryz.prog 123 #[.slice a n c] w fun e w' => ∃ a' N c' vs L, e = .returned (.slice a' N c') ∧ LstN w.heap.size w' a' N vs L ∧ 1 ≤ N ∧ N ≤ 1000 ∧ (∀ i, i < N → Sq n (L.getD i [])) ∧ Below w.heap.size w w' := by
  obtain ⟨A, L, hA, hAr, hA1, hA2, hL, hL1, hL2, hLs⟩ := okD_ok hok
  obtain ⟨K, hK⟩ : ∃ K, A.length = K := ⟨_, rfl⟩
  rw [hK] at hA1 hA2
  have HK := Lib.hid hK
  have HA := Lib.hid hA; have HAR := Lib.hid hAr; have HL := Lib.hid hL; have HL1 := Lib.hid hL1; have HL2 := Lib.hid hL2; have HLS := Lib.hid hLs
  have HT0 := Lib.hid h
  clear hA hAr hL hL1 hL2 hLs hK hok h
  have hE := Own.fresh w rfl
  have hq0 := below_al (Below.refl w.heap.size w) (.cells #[] 2)
  go_enter Tryz.func123, Tryz.ntmps123
  go_wp2
  go_loopw [3, 4] (fun z i wq => ∃ (j : Nat) (ar : Option Addr) (cr : Nat), j ≤ n ∧ i = .int .i64 j ∧ z = .slice ar j cr ∧ Own wq w.heap.size ar j cr (List.replicate j (-1)) ∧ Below w.heap.size w wq) (fun _ i _ => n - (intOf i).toNat)
  case atStart => exact ⟨0, _, 0, Nat.zero_le _, rfl, rfl, by simpa using hE, hq0⟩
  case round =>
    clear hE hq0
    obtain ⟨j, ar, cr, hj, rfl, rfl, hor, hq⟩ := hrel
    obtain ⟨W, rfl⟩ : ∃ W : World, W = wr := ⟨_, rfl⟩
    have hWs := hq.size
    by_cases hlt : j < n
    · have HR := Lib.hid (rep_snoc j)
      go_wp2_with (at_builtin; refine app1 rfl rfl hor rfl rfl (by omega) hWs ?_; intro g' cc w8 hO8 hg8 hs8 hb8)
      go_roundw
      case rel => exact ⟨j + 1, _, _, by omega, by go_num, rfl, by rw [HR.out]; exact hO8, hq.trans hb8⟩
      case measure => simp [intOf]; omega
    · obtain rfl : n = j := by omega
      obtain ⟨g, rfl⟩ : ∃ g, ar = some ⟨g, 0, none⟩ := by
        rcases hor.block with ⟨_, h, _⟩ | ⟨g, _, h, _⟩
        · omega
        · exact ⟨g, h⟩
      have f1 := hor.cells.2.1 0 (by omega)
      have f2 := hor.cells.2.2 0
      have ho1 := hor.set 0 0
      have hg := hor.lt.1
      have hb1 : Below w.heap.size w (W.setCell ⟨g, 0, none⟩ (.int .i64 0)) := below_setne hq (by show w.heap.size ≤ g; omega) _
      go_wp2_with fail
      obtain ⟨w1, hw1⟩ : ∃ w1, W.setCell ⟨g, 0, none⟩ (.int .i64 0) = w1 := ⟨_, rfl⟩
      rw [hw1] at ho1 hb1 ⊢
      clear f1 f2 hw1 hor hq
      have hT1 := HT0.out.below hb1
      refine (l10Automorphisms_any n c T hT hn1 hn a A w1 hT1 HA.out).mono ?_
      rintro e w2 ⟨a2, k2, c2, vs2, rfl, ht2, hb2⟩
      have hB2 := hb1.trans (hb2.mono hb1.size)
      have HK2 : Hid (k2 = K) := Lib.hid (by rw [← HK.out]; exact ht2.len)
      have hk2 := HK2.out
      subst hk2
      go_wp2_with fail
      refine (l13Search_any n k2 T A hT HAR.out HK.out hn1 hn hA2 c c2 a a2 w.heap.size n (knwN n) [] L _ none cr 0 0 [] w2 HL.out HL2.out (HT0.out.below hB2) ht2.tbl (ho1.below hb2).row (knwN_lab hA1) (LstN.nil _ _ _) hB2.size (fun i hi => by simp at hi) (Nat.le_refl _) (by omega)).mono ?_
      rintro e w3 ⟨a3, N3, c3, vs3, rfl, hl3, hn3, hc3, hb3⟩
      have hlen := hl3.len
      have HLN := Lib.hid hlen
      clear hlen
      go_wp2
      go_ret
      exact ⟨a3, N3, c3, vs3, L, rfl, hl3, by rw [HLN.out]; exact HL1.out, by rw [HLN.out]; exact HL2.out, fun i hi => HLS.out i (by rw [← HLN.out]; exact hi), hB2.trans (hb3.mono hB2.size)⟩
end Go.Proofs.YtiliimkfobfbnaaGreat
