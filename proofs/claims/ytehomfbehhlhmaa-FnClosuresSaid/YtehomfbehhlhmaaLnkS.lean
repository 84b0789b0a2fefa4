/-
  LinkingNumbers: what the reference's function computes.
  No condition but bounds.
-/
import Derived.Test.YtehomfbehhlhmaaLnkI
import Derived.Test.YtehomfbehhlhmaaTabA
import Derived.Deep.DeepCutAuto
namespace Go.Proofs.Ytehomfbehhlhmaa
set_option maxRecDepth 100000
set_option linter.unusedVariables false
set_option linter.unusedSimpArgs false
open Go.RowKit

set_option maxHeartbeats 1000000 in
theorem l01Greatest_any (a : Option Addr) (n c : Nat) (L : List Int) (w : World) (h : Row w a n L) (hm : n ≤ 1000000) (hL : ∀ x ∈ L, 0 ≤ x ∧ x ≤ 1000000) :
    Calls Try.prog 104 #[.slice a n c] w fun e w' => e = .returned (.int .i64 (grtL L)) ∧ w = w' := by
  have HL := Lib.hid h.len
  have HB := Lib.hid hL
  clear hL
  go_enter Try.func104, Try.ntmps104
  go_wp2
  go_loop [3, 4] (fun m i => ∃ (k : Nat), k ≤ n ∧ i = .int .i64 k ∧ m = .int .i64 (grtL (L.take k))) (fun _ i => n - (intOf i).toNat)
  case atStart => exact ⟨0, Nat.zero_le _, rfl, by simp [grtL]⟩
  case round =>
    obtain ⟨k, hk, rfl, rfl⟩ := hrel
    by_cases hlt : k < n
    · obtain ⟨b, off, rfl, g1⟩ := h.at k hlt
      have hx : k < L.length := by have := HL.out; omega
      have HT := Lib.hid (grtL_take hx)
      have hb := HB.out L[k] (List.getElem_mem hx)
      rw [getD_at hx] at g1 HT
      generalize L[k] = X at *
      generalize grtL (L.take k) = M at *
      have hsum : IntKind.i64.wrap (X + 1) = X + 1 := IntWalk.i64_in _ (by omega)
      by_cases hge : M ≤ X
      · rw [if_pos hge] at HT
        go_wp2
        go_round
        case rel => exact ⟨k + 1, by omega, by go_num, by rw [HT.out]⟩
        case measure => simp [intOf]; omega
      · rw [if_neg hge] at HT
        go_wp2
        go_round
        case rel => exact ⟨k + 1, by omega, by go_num, by rw [HT.out]⟩
        case measure => simp [intOf]; omega
    · obtain rfl : k = n := by omega
      go_wp2
      go_ret
      exact ⟨ret_int (by rw [List.take_of_length_le (by have := HL.out; omega)]), rfl⟩

theorem zrow_succ {N k : Nat} (h : k < N) : (tabF N fun _ _ => 0).take (k + 1) = (tabF N fun _ _ => 0).take k ++ [List.replicate N 0] := by
  have hl : k < (tabF N fun _ _ => 0).length := by rw [tabF_len]; exact h
  rw [List.take_succ_eq_append_getElem hl]
  have e2 := Tbl.getD hl
  rw [tabF_row h] at e2
  rw [← e2]
  congr 2
  apply List.ext_getElem <;> simp

set_option maxHeartbeats 16000000 in
theorem spec_Lnk_l (s : Int) (a : Option Addr) (n c : Nat) (xs : List Int) (w : World) (hs : I64 s) (h1 : Row w a n xs) (hm : n ≤ 9223372036854775807) (hx : I64s xs) :
    Calls Try.prog 36 #[bAgg s a n c] w (RetT w (lnkF s xs).1 (lnkF s xs).2) := by
  have hA := Loc.new w rfl #[.int .i64 s, .slice a n c] 24
  have hB := below_al (Below.refl w.heap.size w) (.cells #[.int .i64 s, .slice a n c] 24)
  go_enter Try.func36, Try.ntmps36
  go_wp2_with fail
  generalize w.alloc (.cells #[.int .i64 s, .slice a n c] 24) = w0 at *
  have lA := hA.two
  refine (l16Is_any _ _ _ _ xs _ (h1.below hB) hm hs).mono ?_
  rintro e w1 ⟨rfl, hb1⟩
  replace hB := below_th hB hb1; replace hA := hA.below hb1 hA.lt; replace lA := hA.two
  clear hb1
  cases q : isBr s xs with
  | false =>
    have HQ : Hid (lnkF s xs = ([], 1)) := Lib.hid (by unfold lnkF; rw [q]; rfl)
    clear q
    go_wp2
    go_ret2
    exact ⟨none, 0, 0, [], by rw [HQ.out]; rfl, by rw [HQ.out]; exact OwnT.nil _ _, hB⟩
  | true =>
  obtain ⟨h26, h30, hlet⟩ := isBr_let q
  obtain ⟨S, rfl⟩ : ∃ S : Nat, s = S := ⟨s.toNat, by omega⟩
  have hpl : ∀ x ∈ xs, 0 ≤ plc x ∧ plc x + 1 < (S : Int) := fun x hx => plc_let (hlet x hx)
  have hln := h1.len
  have HQ : Hid (lnkF S xs = (tabF (ncL S xs) (halV (lnkV S xs n)), 0)) := Lib.hid (by unfold lnkF; rw [q, ← hln]; simp)
  have HBR := Lib.hid q; have HLet := Lib.hid hlet; have HP := Lib.hid hpl; have HL := Lib.hid hln
  have hn30 : n ≤ 30 := by omega
  have hS6 : S ≤ 6 := by omega
  have hS2 : 2 ≤ S := by omega
  clear q hlet hpl hln h26 h30
  go_wp2_with fail
  refine (l17Components_any S _ _ _ xs _ (h1.below hB) HBR.out).mono ?_
  rintro e w2 ⟨al, cl, rfl, hol, hb2⟩
  replace hB := below_th hB hb2; replace hA := hA.below hb2 hA.lt; replace lA := hA.two
  clear hb2
  go_wp2_with fail
  refine (l01Greatest_any _ _ _ _ _ hol.row (by omega) (fun x hx => by
    obtain ⟨i, hi, rfl⟩ := List.getElem_of_mem hx
    have := compL_get S xs i (by rw [compL_len] at hi; exact hi)
    rw [getD_at hi] at this
    omega)).mono ?_
  rintro e w3 ⟨rfl, rfl⟩
  have hnc := ncL_le S xs
  rw [← ncL_cast]
  obtain ⟨N, hN⟩ : ∃ N, N = ncL S xs := ⟨_, rfl⟩
  rw [← hN] at hnc HQ ⊢
  have HN := Lib.hid hN
  clear hN
  have hwz := hB.size
  have HC := Lib.hid hol.row
  have hO := OwnT.fresh w2 rfl
  have hQ := below_al (Below.refl w2.heap.size w2) (.cells #[] 22)
  have T6 := h1.below hB
  clear h1 hol
  go_wp2
  go_loopw [6, 7] (fun z i wr => ∃ (k : Nat) (az : Option Addr) (cz : Nat) (vz : List SV), k ≤ N ∧ i = .int .i64 k ∧ z = .slice az k cz ∧ OwnT wr w2.heap.size az k cz vz ((tabF N fun _ _ => 0).take k) ∧ Below w2.heap.size w2 wr) (fun _ i _ => N - (intOf i).toNat)
  case atStart => exact ⟨0, _, 0, _, Nat.zero_le _, rfl, rfl, by simpa using hO, hQ⟩
  case round =>
    clear hO hQ
    obtain ⟨k, az, cz, vz, hk, rfl, rfl, ho, hq⟩ := hrel
    have hqs := hq.size
    by_cases hlt : k < N
    · have HS := Lib.hid (zrow_succ hlt)
      go_wp2_with (first | (at_make; refine make1 rfl rfl rfl rfl (by omega) ?_; intro w4 ho4 hs4 hb4; have hz4 := ho.below hb4) | (at_builtin; refine appT1 rfl rfl hz4 rfl (ho4.mono hqs) (fun g h1 h2 => by have h3 := ho.high _ h1; have h4 := ho4.lo _ h2; omega) (fun i hi g h1 h2 => by have h3 := ho4.lo _ h1; have h4 := (ho.row i hi).hi _ h2; omega) rfl (by omega) (by omega) ?_; intro g' cc w5 hO5 hb5))
      go_roundw
      case rel => exact ⟨k + 1, _, _, _, by omega, by go_num, rfl, by rw [HS.out]; exact hO5, (hq.trans (hb4.mono hqs)).trans hb5⟩
      case measure => simp [intOf]; omega
    · obtain rfl : k = N := by omega
      rw [List.take_of_length_le (by rw [tabF_len]; exact Nat.le_refl _)] at ho
      have hAr := hA.below hq hA.lt
      have lA := hAr.two
      have hhi := ho.uHi
      have hmlo := ho.uLo
      go_wp2_with fail
      refine (l01Unit_any S _ (by omega)).mono ?_
      rintro e w4 ⟨ast, cs, rfl, hos, hb4⟩
      obtain ⟨gs, os, rfl, _⟩ := hos.row.at 0 (by omega)
      obtain ⟨rfl, _, _⟩ := hos.cells
      have hgs := hos.lt.1
      have hom4 := ho.below hb4
      have hQ4 := hq.trans (hb4.mono hqs)
      have lA4 := (hA.below hQ4 hA.lt).two
      generalize wr.heap.size = B at *
      clear ho hq hb4 hAr lA
      have e0 : strd S (xs.take 0) = unitL S := by simp [strd]
      rw [← e0] at hos
      clear e0
      go_wp2
      clear lA4
      go_loopw [9] (fun i wr => ∃ q : Nat, q ≤ n ∧ i = .int .i64 q ∧ OwnT wr w2.heap.size az k cz vz (tabF k (lnkV S xs q)) ∧ Own wr B (some ⟨gs, 0, none⟩) S cs (strd S (xs.take q)) ∧ Below w2.heap.size w2 wr) (fun i _ => n - (intOf i).toNat)
      case atStart => exact ⟨0, Nat.zero_le _, rfl, hom4, hos, hQ4⟩
      case round =>
        clear hom4 hos hQ4
        obtain ⟨q, hq, rfl, hom, hos, hQ⟩ := hrel
        have hAr := hA.below hQ hA.lt
        have lA := hAr.two
        by_cases hlt : q < n
        · obtain ⟨b, off, rfl, g1⟩ := (T6.below hQ).at q hlt
          have hxk : q < xs.length := by have := HL.out; omega
          rw [getD_at hxk] at g1
          have hle := HLet.out xs[q] (List.getElem_mem hxk)
          have hpk := HP.out xs[q] (List.getElem_mem hxk)
          obtain ⟨j, hj⟩ : ∃ j : Nat, plc xs[q] = j := ⟨(plc xs[q]).toNat, by omega⟩
          have hjs : j + 1 < S := by omega
          have hpn : ∀ x ∈ xs, 0 ≤ plc x ∧ plc x + 1 < S := HP.out
          obtain ⟨hf0, ef0⟩ := atK_lt (k := q) hpn (show j < S by omega)
          obtain ⟨hf1, ef1⟩ := atK_lt (k := q) hpn hjs
          obtain ⟨hu, eu⟩ := labN_lt S xs _ hf0
          obtain ⟨hv, ev⟩ := labN_lt S xs _ hf1
          have hlk : lnkV S xs (q + 1) = addV (lnkV S xs q) (labN S xs (atK S xs q j)) (labN S xs (atK S xs q (j + 1))) (sgn xs[q]) := by
            show addV _ _ _ _ = _
            rw [getD_at hxk, hj]; rfl
          have hsw : strd S (xs.take (q + 1)) = swp (strd S (xs.take q)) j := by rw [strd_succ S xs q hxk, hj, Int.toNat_natCast]
          have hbd := lnkV_bd S xs q
          have hsg := sgn_bd xs[q]
          rw [← HN.out] at hu hv
          unfold swp at hsw
          rw [ef0, ef1] at hsw
          obtain ⟨bl, ol, rfl, _, hla⟩ := (HC.out.below hQ).all (by omega)
          have c1 := hla _ hf0
          have c2 := hla _ hf1
          rw [eu] at c1
          rw [ev] at c2
          generalize labN S xs (atK S xs q j) = u at *
          generalize labN S xs (atK S xs q (j + 1)) = v at *
          generalize atK S xs q j = p0 at *
          generalize atK S xs q (j + 1) = p1 at *
          have HSU := Lib.hid hsw; have HLK := Lib.hid hlk; have HJ := Lib.hid hj; have HBD := Lib.hid hbd; have EF0 := Lib.hid ef0; have EF1 := Lib.hid ef1
          have b1 : -1000 ≤ xs[q] := by omega
          have b2 : xs[q] ≤ 1000 := by omega
          obtain ⟨_, hc, hf⟩ := hos.cells
          have hcj := hc j (by omega)
          have hcj1 := hc (j + 1) (by omega)
          rw [ef0] at hcj
          rw [ef1] at hcj1
          clear hle hpk hj hpn hsw hlk hbd hc hf eu ev hla ef0 ef1
          generalize xs[q] = X at *
          generalize lnkV S xs q = V at *
          have hwj : IntKind.i64.wrap ((j : Int) + 1) = ((j + 1 : Nat) : Int) := (IntWalk.i64_in _ (by omega)).trans (by simp)
          have i1 : (0 : Int) ≤ (j : Int) := by omega
          have i2 : (j : Int) < (S : Int) := by omega
          have i3 : ((j + 1 : Nat) : Int) < (S : Int) := by omega
          have i4 : (u : Int) < (k : Int) := by omega
          have i5 : (v : Int) < (k : Int) := by omega
          have i6 : (p0 : Int) < (S : Int) := by omega
          have i7 : (p1 : Int) < (S : Int) := by omega
          obtain ⟨W, rfl⟩ : ∃ W : World, W = wr := ⟨_, rfl⟩
          go_wp2_with fail
          refine (l16Place_any _ _ b1 b2).mono ?_
          rintro e w6 ⟨rfl, hw6⟩
          subst hw6
          rw [HJ.out]
          go_upto_if 56 with (fail)
          go_cut [11] (fun s11 wx => s11 = .int .i64 (sgn X) ∧ wx = w6)
          case first =>
            by_cases hneg : X < 0
            · have e := Lib.hid (show sgn X = -1 from if_pos hneg)
              go_wp2
              go_meet
              exact ⟨by rw [e.out], rfl⟩
            · have e := Lib.hid (show sgn X = 1 from if_neg hneg)
              go_wp2
              go_meet
              exact ⟨by rw [e.out], rfl⟩
          case rest =>
            obtain ⟨rfl, hwc⟩ := hcut
            subst hwc
            generalize sgn X = sg at *
            clear g1
            go_wp2
            obtain ⟨gm, gu, cu, rfl, evu, r1, hcu, htu⟩ := hom.spotF hu
            have k1 := (hcu v hv).1
            have f1 := (hcu v hv).2
            have hbd := HBD.out u v
            obtain ⟨Z, hZ⟩ : ∃ Z, V u v + sg = Z := ⟨_, rfl⟩
            have HW3 : Hid (IntKind.i64.wrap (V u v + sg) = Z) := Lib.hid ((IntWalk.i64_in _ (by omega)).trans hZ)
            have HVV := Lib.hid hZ
            clear hcu hbd hZ
            go_quiet (fail)
            go_wp2
            refine wp_region_still_tail 15 (by kernel_rfl) (by kernel_rfl) ?_
            change wpStill _ _ (wc.drewN nq).drew (fun a' => wpList _ _ _ _ a' (wc.drewN nq).drew) _ _
            have hom7 : OwnT (wc.drewN nq).drew w2.heap.size (some ⟨gm, 0, none⟩) k cz vz (tabF k V) := (hom.drewN nq).drewN 1
            have hos7 : Own (wc.drewN nq).drew B (some ⟨gs, 0, none⟩) S cs (strd S (xs.take q)) := (hos.drewN nq).drewN 1
            have hB7 : Below w2.heap.size w2 (wc.drewN nq).drew := (below_drewN hQ nq).drew
            have r17 : (wc.drewN nq).drew.cell? ⟨gm, u, none⟩ = some (.slice (some ⟨gu, 0, none⟩) k cu) := r1
            have k17 : (wc.drewN nq).drew.cell? ⟨gu, v, none⟩ = some (.int .i64 (V u v)) := k1
            have f17 : (wc.drewN nq).drew.frozen? ⟨gu, v, none⟩ = false := f1
            clear hom hos hQ r1 k1 f1 hcj hcj1 c1 c2 lA hAr
            generalize (wc.drewN nq).drew = w8 at *
            simp only [List.take_succ_cons, List.take_zero, List.drop_succ_cons, List.drop_zero]
            repeat still_step
            refine wpStill_nil ?_
            rw [HW3.out]
            have hgu : w2.heap.size ≤ gu := hmlo gu htu
            have hguh := hhi gu htu
            have hne1 : gs ≠ gu := by omega
            have hneA : (⟨gs, j, none⟩ : Addr) ≠ ⟨gs, j + 1, none⟩ := fun e => by simp at e
            have hom9 := hom7.putF hu hv evu Z
            have hos9 := hos7.setne (p := ⟨gu, v, none⟩) (fun g hg => by cases hg; exact hne1) (.int .i64 Z)
            have hB9 := below_setne (a := ⟨gu, v, none⟩) hB7 hgu (.int .i64 Z)
            by_cases huv : u = v
            · subst huv
              have hbq : ((u : Int) != (u : Int)) = false := by simp
              have HLE : Hid (lnkV S xs (q + 1) = updF V u u Z) := Lib.hid (by rw [HLK.out]; unfold addV; rw [if_pos rfl, HVV.out])
              obtain ⟨_, hc, hf⟩ := hos9.cells
              have hcj := hc j (by omega)
              have hcj1 := hc (j + 1) (by omega)
              rw [EF0.out] at hcj
              rw [EF1.out] at hcj1
              have hfj := hf j
              have hfj1 := hf (j + 1)
              clear hc hf
              go_wp2
              go_roundw
              case rel =>
                refine ⟨q + 1, by omega, by go_num, ?_, ?_, ?_⟩
                · rw [HLE.out]
                  exact (hom9.aset (p := ⟨gs, j, none⟩) (fun q hq => by have := hhi q hq; show q ≠ gs; omega) _).aset (p := ⟨gs, j + 1, none⟩) (fun q hq => by have := hhi q hq; show q ≠ gs; omega) _
                · rw [HSU.out]
                  exact (hos9.set j _).set (j + 1) _
                · exact below_setne (below_setne (a := ⟨gs, j, none⟩) hB9 (by show w2.heap.size ≤ gs; omega) _) (a := ⟨gs, j + 1, none⟩) (by show w2.heap.size ≤ gs; omega) _
              case measure => simp [intOf]; omega
            · have hbq : ((u : Int) != (v : Int)) = true := by simp; omega
              go_wp2
              refine wp_region_still_tail 15 (by kernel_rfl) (by kernel_rfl) ?_
              change wpStill _ _ (w8.setCell ⟨gu, v, none⟩ (.int .i64 Z)).drew (fun a' => wpList _ _ _ _ a' (w8.setCell ⟨gu, v, none⟩ (.int .i64 Z)).drew) _ _
              replace hom9 : OwnT (w8.setCell ⟨gu, v, none⟩ (.int .i64 Z)).drew w2.heap.size (some ⟨gm, 0, none⟩) k cz vz (tabF k (updF V u v Z)) := hom9.drewN 1
              replace hos9 : Own (w8.setCell ⟨gu, v, none⟩ (.int .i64 Z)).drew B (some ⟨gs, 0, none⟩) S cs (strd S (xs.take q)) := hos9.drewN 1
              replace hB9 : Below w2.heap.size w2 (w8.setCell ⟨gu, v, none⟩ (.int .i64 Z)).drew := hB9.drew
              clear hom7 hos7 hB7 r17 k17 f17
              generalize (w8.setCell ⟨gu, v, none⟩ (.int .i64 Z)).drew = w10 at *
              obtain ⟨gm', gv, cv, e', evv, r2, hcv, htv⟩ := hom9.spotF hv
              cases e'
              have k2 := (hcv u hu).1
              have f2 := (hcv u hu).2
              have hup : updF V u v Z v u = V v u := by unfold updF; rw [if_neg (fun h => huv h.1.symm)]
              rw [hup] at k2
              have hbd2 := HBD.out v u
              have HLE : Hid (lnkV S xs (q + 1) = updF (updF V u v Z) v u (V v u + sg)) := Lib.hid (by rw [HLK.out]; unfold addV; rw [if_neg huv, HVV.out])
              obtain ⟨Z2, hV2⟩ : ∃ Z, V v u + sg = Z := ⟨_, rfl⟩
              have HW4 : Hid (IntKind.i64.wrap (V v u + sg) = Z2) := Lib.hid ((IntWalk.i64_in _ (by omega)).trans hV2)
              rw [hV2] at HLE
              have HV2 := Lib.hid hV2
              clear hV2 hcv hbd2 hup
              simp only [List.take_succ_cons, List.take_zero, List.drop_succ_cons, List.drop_zero]
              repeat still_step
              refine wpStill_nil ?_
              rw [HW4.out]
              have hgv : w2.heap.size ≤ gv := hmlo gv htv
              have hgvh := hhi gv htv
              have hne2 : gs ≠ gv := by omega
              have hom11 := hom9.putF hv hu evv Z2
              have hos11 := hos9.setne (p := ⟨gv, u, none⟩) (fun g hg => by cases hg; exact hne2) (.int .i64 Z2)
              have hB11 := below_setne (a := ⟨gv, u, none⟩) hB9 hgv (.int .i64 Z2)
              obtain ⟨_, hc, hf⟩ := hos11.cells
              have hcj := hc j (by omega)
              have hcj1 := hc (j + 1) (by omega)
              rw [EF0.out] at hcj
              rw [EF1.out] at hcj1
              have hfj := hf j
              have hfj1 := hf (j + 1)
              clear hc hf
              go_wp2
              go_roundw
              case rel =>
                refine ⟨q + 1, by omega, by go_num, ?_, ?_, ?_⟩
                · rw [HLE.out]
                  exact (hom11.aset (p := ⟨gs, j, none⟩) (fun q hq => by have := hhi q hq; show q ≠ gs; omega) _).aset (p := ⟨gs, j + 1, none⟩) (fun q hq => by have := hhi q hq; show q ≠ gs; omega) _
                · rw [HSU.out]
                  exact (hos11.set j _).set (j + 1) _
                · exact below_setne (below_setne (a := ⟨gs, j, none⟩) hB11 (by show w2.heap.size ≤ gs; omega) _) (a := ⟨gs, j + 1, none⟩) (by show w2.heap.size ≤ gs; omega) _
              case measure => simp [intOf]; omega
        · obtain rfl : q = n := by omega
          clear hos
          have HBN : Hid (∀ x y, -100 ≤ (lnkV S xs q x y).tdiv 2 ∧ (lnkV S xs q x y).tdiv 2 ≤ 100) := Lib.hid fun x y => tdiv2_bd (by have := lnkV_bd S xs q x y; omega) (by have := lnkV_bd S xs q x y; omega)
          generalize lnkV S xs q = V at *
          go_wp2
          clear lA hAr
          go_loopw [15] (fun i wq => ∃ p : Nat, p ≤ k ∧ i = .int .i64 p ∧ OwnT wq w2.heap.size az k cz vz (tabF k (halP V p 0)) ∧ Below w2.heap.size w2 wq) (fun i _ => k - (intOf i).toNat)
          case atStart => exact ⟨0, Nat.zero_le _, rfl, by rw [halP_zero]; exact hom, hQ⟩
          case round =>
            clear hom hQ
            obtain ⟨p, hp, rfl, hom, hQ⟩ := hrel
            by_cases hpt : p < k
            · obtain ⟨gm, gu, cu, rfl, evu, r1, hcu, htu⟩ := hom.spotF hpt
              have hgu : w2.heap.size ≤ gu := hmlo gu htu
              clear hcu r1
              go_wp2
              go_loopw [16] (fun i wy => ∃ t : Nat, t ≤ k ∧ i = .int .i64 t ∧ OwnT wy w2.heap.size (some ⟨gm, 0, none⟩) k cz vz (tabF k (halP V p t)) ∧ Below w2.heap.size w2 wy) (fun i _ => k - (intOf i).toNat)
              case atStart => exact ⟨0, Nat.zero_le _, rfl, hom, hQ⟩
              case round =>
                clear hom hQ
                obtain ⟨t, ht, rfl, hom, hQ⟩ := hrel
                by_cases htt : t < k
                · by_cases hpq : p = t
                  · subst hpq
                    have hbq : ((p : Int) != (p : Int)) = false := by simp
                    go_wp2
                    go_roundw
                    case rel => exact ⟨p + 1, by omega, by go_num, by rw [← halP_same]; exact hom, hQ⟩
                    case measure => simp [intOf]; omega
                  · have hbq : ((p : Int) != (t : Int)) = true := by simp; omega
                    obtain ⟨gm', gu', cu', e', evu', r1, hcu, _⟩ := hom.spotF hpt
                    cases e'
                    rw [evu] at evu'
                    cases evu'
                    have k1 := (hcu t htt).1
                    have f1 := (hcu t htt).2
                    rw [halP_at] at k1
                    have HH := Lib.hid (halP_step (v := V) hpq)
                    have hput := Lib.hid (hom.drewN 1 |>.putF hpt htt evu ((V p t).tdiv 2))
                    have hdv := HBN.out p t
                    have hwr : wrap64 ((V p t).tdiv 2) = (V p t).tdiv 2 := IntWalk.wrap64_in _ ⟨by omega, by omega⟩
                    have hwr2 : IntKind.i64.wrap ((V p t).tdiv 2) = (V p t).tdiv 2 := IntWalk.i64_in _ (by omega)
                    have i1 : (p : Int) < (k : Int) := by omega
                    have i2 : (t : Int) < (k : Int) := by omega
                    clear hcu
                    generalize V p t = Z at *
                    go_wp2
                    refine wp_region_still_tail 14 (by kernel_rfl) (by kernel_rfl) ?_
                    change wpStill _ _ wr.drew (fun a' => wpList _ _ _ _ a' wr.drew) _ _
                    have r17 : wr.drew.cell? ⟨gm, p, none⟩ = some (.slice (some ⟨gu, 0, none⟩) k cu) := r1
                    have k17 : wr.drew.cell? ⟨gu, t, none⟩ = some (.int .i64 Z) := k1
                    have f17 : wr.drew.frozen? ⟨gu, t, none⟩ = false := f1
                    replace hQ : Below w2.heap.size w2 wr.drew := hQ.drew
                    have hput2 : Hid (OwnT (wr.drew.setCell ⟨gu, t, none⟩ (.int .i64 (Z.tdiv 2))) w2.heap.size (some ⟨gm, 0, none⟩) k cz vz (tabF k (updF (halP V p t) p t (Z.tdiv 2)))) := hput
                    clear hom r1 k1 f1 hput
                    generalize wr.drew = w8 at *
                    simp only [List.take_succ_cons, List.take_zero, List.drop_succ_cons, List.drop_zero]
                    repeat still_step
                    refine wpStill_nil ?_
                    go_wp2
                    go_roundw
                    case rel => exact ⟨t + 1, by omega, by go_num, by rw [← HH.out]; exact hput2.out, below_setne hQ hgu _⟩
                    case measure => simp [intOf]; omega
                · obtain rfl : t = k := by omega
                  go_wp2
                  go_roundw
                  case rel => exact ⟨p + 1, by omega, by go_num, by rw [← halP_next]; exact hom, hQ⟩
                  case measure => simp [intOf]; omega
            · obtain rfl : p = k := by omega
              rw [halP_all] at hom
              go_wp2
              go_ret2
              exact ⟨az, p, cz, vz, by rw [HQ.out]; rfl, by rw [HQ.out]; exact hom.mono hwz, hB.trans (hQ.mono hwz)⟩

end Go.Proofs.Ytehomfbehhlhmaa
