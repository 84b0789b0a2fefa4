/-
  Walks and plain laws of this seat, some texts in one.
  No condition but bounds on lengths.
-/
import Derived.Test.YtpdgpgbgakinlaaGreatPb27
import Derived.Deep.DeepCutAuto
import Derived.Deep.RegionLaw
namespace Go.Proofs.YtpdgpgbgakinlaaGreat
set_option maxRecDepth 100000
set_option linter.unusedVariables false
set_option linter.unusedSimpArgs false
open Go.RowKit
theorem mk_eq (n : Nat) (hn : n ≤ 1000000000000) : ∃ mk : World → World, ∀ v : World, (Instr.makeSlice 27 (.int .i64 n) (.int .i64 n)).run Tryz.prog v = .ok (.slice (some ⟨v.heap.size, 0, none⟩) n n) (mk v) ∧ Own (mk v) v.heap.size (some ⟨v.heap.size, 0, none⟩) n n (List.replicate n 0) ∧ Below v.heap.size v (mk v) ∧ v.heap.size < (mk v).heap.size := by
  have H : ∀ v : World, ∃ w' : World, (Instr.makeSlice 27 (.int .i64 n) (.int .i64 n)).run Tryz.prog v = .ok (.slice (some ⟨v.heap.size, 0, none⟩) n n) w' ∧ Own w' v.heap.size (some ⟨v.heap.size, 0, none⟩) n n (List.replicate n 0) ∧ Below v.heap.size v w' ∧ v.heap.size < w'.heap.size := fun v => by
    obtain ⟨i0, hi, hz0, hz1, hz2⟩ := info_parts info_int
    obtain ⟨w', hrun, r1, r2⟩ := run_make_full (P := Tryz.prog) v v.heap.size 27 2 i0 (.int .i64 0) 1 und_ints hi hz0 hz1 .i64 .i64 n (by rw [hz2]; omega) (by unfold maxLen; omega) (Nat.le_refl _)
    have ho : Own w' v.heap.size (some ⟨v.heap.size, 0, none⟩) n n (List.replicate n 0) := by
      refine ⟨by simp, ?_⟩
      have e : (madeCells (Value.int IntKind.i64 0).cells (n * 1)).toList = (List.replicate n (0 : Int)).map (.int .i64) := by
        rw [Nat.mul_one, List.map_replicate]; exact toList_madeCells_one _ _
      rw [e] at r1; exact r1
    exact ⟨w', hrun, ho, (Below.refl _ _).grown r2 (Nat.le_refl _) (by simp), ho.lt.2⟩
  obtain ⟨mk, h⟩ := Classical.axiomOfChoice H
  exact ⟨mk, h⟩
theorem rep_vec {p : Int} {N : Nat} (hp : 0 < p) : Vec p N (List.replicate N 0) := ⟨by simp, fun i hi => by
  have : gv (List.replicate N 0) i = 0 := by unfold gv; simp [List.getD_eq_getElem?_getD, hi]
  rw [this]; omega⟩
theorem mem_getD {S : List (List Int)} {j : Nat} (h : j < S.length) : S.getD j [] ∈ S := by
  rw [List.getD_eq_getElem?_getD, List.getElem?_eq_getElem h]; exact List.getElem_mem h
theorem ech_next {p : Int} {inv : Int → Int} {N k f : Nat} {P Q : List (List Int)} {T : List Int} (hf : P.length ≤ f) (hfn : f < (P ++ Q).length) (hz : ∀ j, P.length ≤ j → j < f → gv ((P ++ Q).getD j []) k = 0) (h1 : gv ((P ++ Q).getD f []) k ≠ 0)
    (hT : addL p (p - (p - inv (gv ((P ++ Q).getD f []) k))) (List.replicate N 0) ((P ++ Q).getD f []) = T) :
    (echS p inv N (P, Q) k).1 ++ (echS p inv N (P, Q) k).2 = clrK p k P.length T (((P ++ Q).set f ((P ++ Q).getD P.length [])).set P.length T) (P ++ Q).length ∧ (echS p inv N (P, Q) k).1.length = P.length + 1 := by
  have hfd := fnd_hit hf hfn hz h1
  have hlt : f - P.length < Q.length := by rw [List.length_append] at hfn; omega
  have e : echS p inv N (P, Q) k = (P.map (clrL p k T) ++ [T], ((Q.set (f - P.length) (Q.getD 0 [])).drop 1).map (clrL p k T)) := by
    unfold echS
    simp only [hfd]
    rw [if_neg (by omega), ← app_right hf, hT]
  rw [e]
  refine ⟨?_, by simp⟩
  rw [set_swap hf hfn]
  have hl : (P ++ Q).length = (P ++ T :: (Q.set (f - P.length) (Q.getD 0 [])).drop 1).length := by simp; omega
  rw [hl, clrK_end]
  simp
set_option maxHeartbeats 16000000 in
theorem l15Echelon_ok (p : Int) (a : Option Addr) (n c N : Nat) (rows : List (List Int)) (w : World) (h : Tbl w a n rows) (hp : isPr p) (hn : 1 ≤ n) (hm : n ≤ 1000000) (hN : N ≤ 1000000) (hr : ∀ r, r ∈ rows → Vec p N r) :
    Calls Tryz.prog 166 #[.slice a n c, .int .i64 p] w fun e w' => ∃ a' d c' vs, e = .returned (.slice a' d c') ∧ OwnT w' w.heap.size a' d c' vs (echL p (invF p) N rows) ∧ Below w.heap.size w w' := by
  have p2 : 2 ≤ p ∧ p ≤ 7 := by unfold isPr at hp; omega
  have HE : Hid (∀ k, k ≤ N → EchI p N rows k (echK p (invF p) N rows k)) := Lib.hid (ech_inv (by omega) (fun a h0 h1 => (invF_ok hp a h0 h1).1) hr)
  have HP := Lib.hid hp
  have HR := Lib.hid hr
  have HEL : Hid (echL p (invF p) N rows = (echK p (invF p) N rows N).1) := Lib.hid rfl
  have HLn := Lib.hid h.len
  clear hp hr
  have n0 : (0 : Int) < n := by omega
  have n1 : 0 < n := by omega
  go_enter Tryz.func166, Tryz.ntmps166
  go_wp2_with fail
  refine (l01Own2_any _ _ _ rows _ h (by omega) (fun x hx => by have := (HR.out x hx).1; omega)).mono ?_
  rintro e w1 ⟨a1, c1, vs1, rfl, ho1, hb1⟩
  have hT1 := h.below hb1
  clear h
  obtain ⟨b0, o0, ai, ni, ci, rfl, g0, hr0, _⟩ := hT1.at 0 (by omega)
  rw [Nat.add_zero] at g0
  obtain rfl : N = ni := by rw [hr0.len]; exact (HR.out _ (mem_getD (by have := HLn.out; omega))).1.symm
  clear hr0 hT1
  obtain ⟨g, rfl, hgl, _, _⟩ := ho1.cells (by omega)
  have hg0 := ho1.low g rfl
  go_wp2
  go_loopw [6, 8] (fun s6 s8 wr => ∃ (k d : Nat) (vs : List SV), k ≤ N ∧ s8 = .int .i64 k ∧ s6 = .int .i64 d ∧ Hid (d = (echK p (invF p) N rows k).1.length) ∧ OwnT wr w.heap.size (some ⟨g, 0, none⟩) n c1 vs ((echK p (invF p) N rows k).1 ++ (echK p (invF p) N rows k).2) ∧ Below w.heap.size w wr) (fun _ s8 _ => N - (intOf s8).toNat)
  case atStart => exact ⟨0, 0, vs1, Nat.zero_le _, rfl, rfl, Lib.hid rfl, ho1, hb1⟩
  case round =>
    clear ho1 hb1 g0
    obtain ⟨k, d, vs, hk, rfl, rfl, hd, ho, hb⟩ := hrel
    by_cases hlt : k < N
    · have HI := Lib.hid (HE.out k hk)
      have HS := Lib.hid (echK_succ p (invF p) N rows k)
      obtain ⟨⟨P, Q⟩, hPQ⟩ : ∃ s, echK p (invF p) N rows k = s := ⟨_, rfl⟩
      rw [hPQ] at HI HS hd ho
      simp only at ho hd
      clear hPQ
      have hdn : d ≤ n := by have := ho.len; rw [List.length_append] at this; have := hd.out; omega
      obtain ⟨S, hS⟩ : ∃ S, P ++ Q = S := ⟨_, rfl⟩
      rw [hS] at ho
      have HSQ := Lib.hid hS
      have HV : Hid (∀ j, j < n → Vec p N (S.getD j [])) := Lib.hid fun j hj => by
        have := mem_getD (S := S) (j := j) (by have := ho.len; omega)
        rw [← hS] at this ⊢
        rcases List.mem_append.1 this with q | q
        · exact HI.out.rdc.vec _ q
        · exact HI.out.vec _ q
      clear hS
      obtain ⟨_, hge, _, hcs, hfz⟩ := ho.cells (by omega)
      cases hge
      have hgw := ho.high g rfl
      have HC := Lib.hid hcs; have HFZ := Lib.hid hfz
      have HSL := Lib.hid ho.len
      clear hcs hfz
      go_wp2
      go_loop [9] (fun i => ∃ f : Nat, d ≤ f ∧ f ≤ n ∧ i = .int .i64 f ∧ Hid (∀ j, d ≤ j → j < f → gv (S.getD j []) k = 0)) (fun i => n - (intOf i).toNat)
      case atStart => exact ⟨d, Nat.le_refl _, hdn, rfl, Lib.hid fun j h1 h2 => absurd h1 (by omega)⟩
      case round =>
        obtain ⟨f, hdf, hfn, rfl, hz⟩ := hrel
        by_cases hfl : f < n
        · obtain ⟨⟨A, L, C⟩, hVf⟩ : ∃ v, vs.getD f svO = v := ⟨_, rfl⟩
          have c1' := HC.out f hfl
          have rw1 := (ho.row f hfl)
          have apf := ho.ap f hfl
          rw [hVf] at c1' rw1 apf
          simp only at c1' rw1 apf
          obtain rfl : N = L := by rw [rw1.len]; exact (HV.out f hfl).1.symm
          have hrow := rw1.row
          obtain ⟨b2, o2, rfl, g2⟩ := hrow.at k hlt
          obtain ⟨X, hX⟩ : ∃ X, (S.getD f []).getD k 0 = X := ⟨_, rfl⟩
          rw [hX] at g2
          have HX := Lib.hid hX; clear hX
          by_cases hX0 : X = 0
          · subst hX0
            go_wp2
            go_round
            case rel => exact ⟨f + 1, by omega, by omega, by go_num, Lib.hid fun j h1 h2 => by
              by_cases q : j = f
              · rw [q]; exact HX.out
              · exact hz.out j h1 (by omega)⟩
            case measure => simp [intOf]; omega
          · have hXb : (X == 0) = false := by simpa using hX0
            have hfne : ((f : Int) == (n : Int)) = false := by simp; omega
            have hdn2 : d < n := by omega
            obtain ⟨⟨Ad, Ld, Cd⟩, hVd⟩ : ∃ v, vs.getD d svO = v := ⟨_, rfl⟩
            have c2' := HC.out d hdn2
            rw [hVd] at c2'
            simp only at c2'
            have hfz1 := HFZ.out f
            have hXr : 0 < X ∧ X < p := by have := (HV.out f hfl).2 k hlt; unfold gv at this; rw [HX.out] at this; omega
            obtain ⟨I, hI, i1, i6, _⟩ := inv_facts HP.out hXr.1 hXr.2
            have HINV : Hid (∀ v : World, Calls Tryz.prog 184 #[.int .i64 X, .int .i64 p] v fun e w' => e = .returned (.int .i64 (I : Int)) ∧ v = w') := Lib.hid fun v => by have := l15Inverse_ok X p HP.out hXr.1 hXr.2 v; rw [hI] at this; exact this
            obtain ⟨T, hT⟩ : ∃ T, addL p (p - (p - (I : Int))) (List.replicate N 0) (S.getD f []) = T := ⟨_, rfl⟩
            obtain ⟨S4, hS4⟩ : ∃ S4, (S.set f (S.getD d [])).set d T = S4 := ⟨_, rfl⟩
            have hTv : Vec p N T := hT ▸ addL_vec (by omega) (by simp)
            have HT := Lib.hid hT; have HTV := Lib.hid hTv; have HS4 := Lib.hid hS4
            have HV4 : Hid (∀ j, j < n → Vec p N (S4.getD j [])) := Lib.hid fun j hj => by
              rw [← hS4, getD_set' _ _ _ _ _ (by rw [List.length_set]; have := HSL.out; omega), getD_set' _ _ _ _ _ (by have := HSL.out; omega)]
              by_cases q : j = d
              · rw [if_pos q]; exact hTv
              · rw [if_neg q]
                by_cases q2 : j = f
                · rw [if_pos q2]; exact HV.out d hdn2
                · rw [if_neg q2]; exact HV.out j hj
            have HL4 : Hid (S4.length = n) := Lib.hid (by rw [← hS4]; simp; exact HSL.out.symm)
            have HD4 : Hid (S4.getD d [] = T) := Lib.hid (by rw [← hS4, getD_set' _ _ _ _ _ (by rw [List.length_set]; have := HSL.out; omega), if_pos rfl])
            have HNX : Hid ((echK p (invF p) N rows (k + 1)).1 ++ (echK p (invF p) N rows (k + 1)).2 = clrK p k d T S4 n ∧ (echK p (invF p) N rows (k + 1)).1.length = d + 1) := Lib.hid (by
              have hP := hd.out
              have hgx : gv (S.getD f []) k = X := HX.out
              have := ech_next (p := p) (inv := invF p) (N := N) (k := k) (f := f) (P := P) (Q := Q) (T := T) (by omega) (by rw [HSQ.out]; have := HSL.out; omega) (fun j h1 h2 => by rw [HSQ.out]; exact hz.out j (by omega) h2) (by rw [HSQ.out, hgx]; exact hX0) (by rw [HSQ.out, hgx, hI]; exact hT)
              rw [HS.out]
              rw [HSQ.out, ← hP, hS4, ← HSL.out] at this
              exact this)
            clear hT hTv hS4 hI hz HX
            -- the header's store
            obtain ⟨W, hW⟩ : ∃ W, wr.setCell ⟨g, f, none⟩ (.slice Ad Ld Cd) = W := ⟨_, rfl⟩
            have hsz : W.heap.size = wr.heap.size := by rw [← hW]; exact size_set _ _ _
            have rwW : Own W w.heap.size (some ⟨b2, o2, none⟩) N C (S.getD f []) := by rw [← hW]; exact rw1.setne (fun q hq (e : q = g) => apf g rfl (by rw [hq, e])) _
            have g2W : W.cell? ⟨b2, o2 + k, none⟩ = some (.int .i64 X) := by
              rw [← hW]
              refine cell_setne (a := ⟨g, f, none⟩) g2 ?_ _
              show b2 ≠ g
              intro e
              rcases rw1.block with ⟨hh, _⟩ | ⟨q, cur, hh, _⟩
              · cases hh
              · cases hh
                exact apf g rfl (by rw [e])
            have HW := Lib.hid hW
            have HSZ := Lib.hid hsz
            have HVF := Lib.hid hVf
            have HVD := Lib.hid hVd
            obtain ⟨mk, hmk⟩ := mk_eq N (by omega)
            have HMK := Lib.hid hmk
            have hmk1 := fun v => (hmk v).1
            clear hmk
            have ho5 : Own (mk W.drew) W.heap.size (some ⟨W.heap.size, 0, none⟩) N N (List.replicate N 0) := (HMK.out W.drew).2.1
            have hr5 : Below W.heap.size W (mk W.drew) := (Below.drew (Below.refl _ _)).trans (HMK.out W.drew).2.2.1
            have hb2 : b2 < W.heap.size := World.block_lt_of_cell? W _ g2W
            have g25 : (mk W.drew).cell? ⟨b2, o2 + k, none⟩ = some (.int .i64 X) := (hr5.cell (p := ⟨b2, o2 + k, none⟩) hb2).trans g2W
            have row5 : Row (mk W.drew) (some ⟨b2, o2, none⟩) N (S.getD f []) := rwW.row.below hr5
            have hwI : IntKind.i64.wrap (p - (I : Int)) = p - (I : Int) := IntWalk.i64_in _ (by omega)
            clear hW hsz hVf hVd
            go_upto_region 14 with fail
            rw [HW.out]
            go_cut [10] (fun s10 w3 => ∃ (a3 : Option Addr) (c3 : Nat), s10 = .slice a3 N c3 ∧ Own w3 W.heap.size a3 N c3 T ∧ Below W.heap.size W w3)
            case first =>
              go_region_held3 (fun v => v.cell? ⟨b2, o2 + k, none⟩ = some (.int .i64 X))
                (first | exact g26 | exact g25 | exact g2W | go_keep)
                (first
                | (go_at_call 184; refine (HINV.out _).mono ?_; rintro e w' ⟨rfl, rfl⟩)
                | (go_at_call 183; refine (l15Less_ok p (p - (I : Int)) _ _ N _ _ (List.replicate N 0) (S.getD f []) _ ho5.row row5 hN p2 (by omega) (rep_vec (by omega)) (HV.out f hfl)).mono ?_; rintro e w3 ⟨a3, c3, rfl, ho3, hb3⟩; have g26 := (hb3.cell (p := ⟨b2, o2 + k, none⟩) (Nat.lt_of_lt_of_le hb2 hr5.size)).trans g25))
              all_goals
                rw [HT.out] at ho3
                go_wp2
                go_meet
                exact ⟨a3, c3, rfl, ho3.mono hr5.size, hr5.trans (hb3.mono hr5.size)⟩
            case rest =>
              obtain ⟨a3, c3, rfl, ho3, hbW⟩ := hcut
              have hsz := HSZ.out
              have hb4' : Below wr.heap.size (wr.setCell ⟨g, f, none⟩ (sl (vs.getD d svO))) wc := by
                rw [HVD.out]
                show Below _ (wr.setCell ⟨g, f, none⟩ (.slice Ad Ld Cd)) wc
                rw [HW.out]; exact hbW.mono (by omega)
              have hO4' := ho.swapIn hfl hdn2 (v := (a3, N, c3)) hb4' ho3 (by omega) hb.size
              have hfz3 : wc.frozen? ⟨g, d, none⟩ = false := by
                rcases ho.block with ⟨h1, _⟩ | ⟨g', cur, h1, _, h3, _⟩
                · cases h1
                · cases h1
                  have l1 := h3.set f (.slice Ad Ld Cd)
                  rw [HW.out] at l1
                  exact (l1.below hbW l1.lt).free d
              have hcd3 : ∃ v, wc.cell? ⟨g, d, none⟩ = some v := by
                rcases ho.block with ⟨h1, _⟩ | ⟨g', cur, h1, _, h3, h4, _, h6, _⟩
                · cases h1
                · cases h1
                  have l1 := h3.set f (.slice Ad Ld Cd)
                  rw [HW.out] at l1
                  have hsz' : d < (cur.setIfInBounds f (.slice Ad Ld Cd)).size := by simp; omega
                  exact ⟨_, (l1.below hbW l1.lt).cell d (Array.getElem?_eq_getElem hsz')⟩
              obtain ⟨vcd, hcd3⟩ := hcd3
              have hBW : Below w.heap.size w W := by rw [← HW.out]; exact below_setne (a := ⟨g, f, none⟩) hb hg0 _
              have hB4' := below_setne (a := ⟨g, d, none⟩) (hBW.trans (hbW.mono hBW.size)) hg0 (.slice a3 N c3)
              obtain ⟨w4, hw4⟩ : ∃ w4, wc.setCell ⟨g, d, none⟩ (.slice a3 N c3) = w4 := ⟨_, rfl⟩
              obtain ⟨vs4, hvs4⟩ : ∃ v, (vs.set f (vs.getD d svO)).set d (a3, N, c3) = v := ⟨_, rfl⟩
              have HD5 : Hid (vs4.getD d svO = (a3, N, c3)) := Lib.hid (by rw [← hvs4, getD_set' _ _ _ _ _ (by rw [List.length_set]; have := ho.vlen; omega), if_pos rfl])
              rw [hvs4, HS4.out] at hO4'
              have hO4 : OwnT w4 w.heap.size (some ⟨g, 0, none⟩) n c1 vs4 S4 := by rw [← hw4]; exact hO4'
              rw [hw4] at hB4'
              have HW4 := Lib.hid hw4
              clear hw4 hvs4 hO4' hb4' hsz c1' c2' rw1 apf hrow g2 hfz1 rwW g2W hmk1 ho5 row5 g25
              go_wp2
              rw [HW4.out]
              go_loopw [11] (fun s11 w5 => ∃ (i : Nat) (vs5 : List SV), i ≤ n ∧ s11 = .int .i64 i ∧ OwnT w5 w.heap.size (some ⟨g, 0, none⟩) n c1 vs5 (clrK p k d T S4 i) ∧ Hid (vs5.getD d svO = (a3, N, c3)) ∧ Below w.heap.size w w5) (fun s11 _ => n - (intOf s11).toNat)
              case atStart => exact ⟨0, vs4, Nat.zero_le _, rfl, by rw [clrK_zero]; exact hO4, HD5, hB4'⟩
              case round =>
                clear hO4 hB4' HW4
                obtain ⟨i, vs5, hi, rfl, ho5, hvd, hb5⟩ := hrel
                by_cases hin : i < n
                · by_cases hid : i = d
                  · have e1 : ((i : Int) != (d : Int)) = false := by simp; omega
                    go_wp2
                    go_roundw
                    case rel => exact ⟨i + 1, vs5, by omega, by go_num, by rw [clrK_skip (by have := HL4.out; omega) (.inl hid)]; exact ho5, hvd, hb5⟩
                    case measure => simp [intOf]; omega
                  · have e1 : ((i : Int) != (d : Int)) = true := by simp; omega
                    obtain ⟨⟨A5, L5, C5⟩, hVi⟩ : ∃ v, vs5.getD i svO = v := ⟨_, rfl⟩
                    obtain ⟨_, hge, _, hcs, hfz⟩ := ho5.cells (by omega)
                    cases hge
                    have d1 := hcs i hin
                    have d3 := hfz i
                    clear hcs hfz
                    have rwi := ho5.row i hin
                    rw [hVi] at d1 rwi
                    rw [clrK_at (by have := HL4.out; omega)] at rwi
                    simp only at d1 rwi
                    clear hVi
                    obtain rfl : N = L5 := by rw [rwi.len]; exact (HV4.out i hin).1.symm
                    have rI := rwi.row
                    clear rwi
                    obtain ⟨b6, o6, rfl, d2⟩ := rI.at k hlt
                    obtain ⟨Y, hY⟩ : ∃ Y, (S4.getD i []).getD k 0 = Y := ⟨_, rfl⟩
                    rw [hY] at d2
                    have HY : Hid (gv (S4.getD i []) k = Y) := Lib.hid hY; clear hY
                    by_cases hY0 : Y = 0
                    · subst hY0
                      go_wp2
                      go_roundw
                      case rel => exact ⟨i + 1, vs5, by omega, by go_num, by rw [clrK_skip (by have := HL4.out; omega) (.inr HY.out)]; exact ho5, hvd, hb5⟩
                      case measure => simp [intOf]; omega
                    · have hYb : (Y != 0) = true := by simpa using hY0
                      have hYr : 0 < Y ∧ Y < p := by have := (HV4.out i hin).2 k hlt; rw [HY.out] at this; omega
                      have rT := (ho5.row d hdn2).row
                      rw [hvd.out, clrK_get (by have := HL4.out; omega), if_neg (by omega), HD4.out] at rT
                      simp only at rT
                      have hL5 : ∃ cur, Loc wr g cur 27 := by
                        rcases ho5.block with ⟨h1, _⟩ | ⟨g', cur, h1, _, h3, _⟩
                        · cases h1
                        · cases h1; exact ⟨cur, h3⟩
                      obtain ⟨cur, hL5⟩ := hL5
                      have hq : Below wr.heap.size wr wr.drew := Below.drew (Below.refl _ _)
                      go_wp2
                      go_region_law (go_simp; go_at_call 183; refine (l15Less_ok p Y _ _ N _ _ (S4.getD i []) T _ (rI.below hq) (rT.below hq) hN p2 (by omega) (HV4.out i hin) HTV.out).mono ?_; rintro e w6 ⟨a6, c6, rfl, ho6, hb6⟩; have hb7 : Below wr.heap.size wr w6 := hq.trans hb6; have d6 := (hL5.below hb7 hL5.lt).free i; have d7 := (hb7.cell (p := ⟨g, i, none⟩) hL5.lt).trans d1)
                      all_goals
                        go_wp2
                        go_roundw
                        case rel =>
                          have hz6 : ∀ q, a6 = some ⟨q, 0, none⟩ → wr.heap.size ≤ q := ho6.lo
                          have hg5 := ho5.high g rfl
                          have hp := (ho5.below hb7).put i hin (v := (a6, N, c6)) (ho6.mono hb5.size) (fun e => by have := hz6 g e; omega) (fun j hj _ q h1 h2 => by have := hz6 q h1; have := (ho5.row j hj).hi _ h2; omega)
                          have hdo := clrK_do (p := p) (k := k) (d := d) (T := T) (S := S4) (i := i) (by have := HL4.out; omega) hid (by rw [HY.out]; exact hY0)
                          rw [HY.out] at hdo
                          rw [hdo] at hp
                          exact ⟨i + 1, _, by omega, by go_num, hp, Lib.hid (by rw [getD_set' _ _ _ _ _ (by have := ho5.vlen; omega), if_neg (by omega)]; exact hvd.out), below_setne (a := ⟨g, i, none⟩) (hb5.trans (hb7.mono hb5.size)) hg0 _⟩
                        case measure => simp [intOf]; omega
                · obtain rfl : i = n := by omega
                  go_wp2
                  go_roundw
                  case rel => exact ⟨k + 1, d + 1, vs5, by omega, by go_num, by go_num, Lib.hid HNX.out.2.symm, by rw [HNX.out.1]; exact ho5, hb5⟩
                  case measure => simp [intOf]; omega
        · obtain rfl : f = n := by omega
          have hfe : ((f : Int) == (f : Int)) = true := by simp
          go_wp2
          go_roundw
          case rel =>
            have he : echK p (invF p) N rows (k + 1) = (P, Q) := by
              rw [HS.out]
              unfold echS
              have := fnd_miss (k := k) (P := P) (Q := Q) fun j h1 h2 => by rw [HSQ.out] at h2 ⊢; exact hz.out j (by have := hd.out; omega) (by have := HSL.out; omega)
              rw [if_pos this]
            refine ⟨k + 1, d, vs, by omega, by go_num, rfl, Lib.hid ?_, ?_, hb⟩
            · rw [he]; exact hd.out
            · rw [he]; show OwnT _ _ _ _ _ _ (P ++ Q); rw [HSQ.out]; exact ho
          case measure => simp [intOf]; omega
    · obtain rfl : k = N := by omega
      have hdn : d ≤ n := by have := ho.len; rw [List.length_append] at this; have := hd.out; omega
      have hcap := ho.cap
      have hof := ho.front d hdn
      rw [List.take_left' hd.out.symm, ← HEL.out] at hof
      go_wp2
      go_ret
      exact ⟨_, _, _, _, rfl, hof, hb⟩
theorem echL_nil (p : Int) (inv : Int → Int) (N : Nat) : echL p inv N [] = [] := by
  have : ∀ k, echK p inv N [] k = ([], []) := by
    intro k
    induction k with
    | zero => rfl
    | succ k ih => rw [echK_succ, ih]; rfl
  exact congrArg Prod.fst (this N)
set_option maxHeartbeats 4000000 in
theorem l15Echelon_nil (p : Int) (a : Option Addr) (c N : Nat) (w : World) (h : Tbl w a 0 []) :
    Calls Tryz.prog 166 #[.slice a 0 c, .int .i64 p] w fun e w' => ∃ a' d c' vs, e = .returned (.slice a' d c') ∧ OwnT w' w.heap.size a' d c' vs (echL p (invF p) N []) ∧ Below w.heap.size w w' := by
  rw [echL_nil]
  go_enter Tryz.func166, Tryz.ntmps166
  go_wp2_with fail
  refine (l01Own2_any _ _ _ [] _ h (by omega) (fun x hx => by cases hx)).mono ?_
  rintro e w1 ⟨a1, c1, vs1, rfl, ho1, hb1⟩
  have hcap := ho1.cap
  go_wp2
  go_loopw [6, 8] (fun s6 s8 wr => s8 = .int .i64 0 ∧ s6 = .int .i64 0 ∧ w1 = wr) (fun _ _ _ => 0)
  case atStart => exact ⟨rfl, rfl, rfl⟩
  case round =>
    obtain ⟨rfl, rfl, rfl⟩ := hrel
    rcases ho1.block with ⟨rfl, _, rfl⟩ | ⟨g', cur, rfl, _⟩
    · go_wp2
      go_ret
      first | exact ⟨_, _, _, _, rfl, ho1, hb1⟩ | exact ⟨_, _, _, rfl, vs1, ho1, hb1⟩ | exact ⟨_, _, _, rfl, ⟨vs1, ho1⟩, hb1⟩
    · go_wp2
      go_ret
      first | exact ⟨_, _, _, _, rfl, ho1, hb1⟩ | exact ⟨_, _, _, rfl, vs1, ho1, hb1⟩ | exact ⟨_, _, _, rfl, ⟨vs1, ho1⟩, hb1⟩
theorem l15Echelon_any (p : Int) (a : Option Addr) (n c N : Nat) (rows : List (List Int)) (w : World) (h : Tbl w a n rows) (hp : isPr p) (hm : n ≤ 1000000) (hN : N ≤ 1000000) (hr : ∀ r, r ∈ rows → Vec p N r) :
    Calls Tryz.prog 166 #[.slice a n c, .int .i64 p] w fun e w' => ∃ a' d c' vs, e = .returned (.slice a' d c') ∧ OwnT w' w.heap.size a' d c' vs (echL p (invF p) N rows) ∧ Below w.heap.size w w' := by
  by_cases hn : 1 ≤ n
  · exact l15Echelon_ok p a n c N rows w h hp hn hm hN hr
  · obtain rfl : n = 0 := by omega
    have hl := h.len
    obtain rfl : rows = [] := List.eq_nil_of_length_eq_zero hl.symm
    exact l15Echelon_nil p a c N w h
end Go.Proofs.YtpdgpgbgakinlaaGreat
