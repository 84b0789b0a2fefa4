/-
  The program's reducedRows: it makes the reference's reduced basis.
  No condition but bounds.
-/
import Derived.Test.YtnlgmhckjpifiaaGreatSoR
import Derived.Test.YtnlgmhckjpifiaaGreatWbE
import Derived.Test.YtnlgmhckjpifiaaGreatBase
import Derived.Shelf.SlSortCmp.NoneTotal
namespace Go.Proofs.YtnlgmhckjpifiaaGreat
set_option maxRecDepth 100000
set_option linter.unusedVariables false
set_option linter.unusedSimpArgs false
open Go.RowKit

theorem mem_getR {S : List (List Int)} {j : Nat} (h : j < S.length) : S.getD j [] ∈ S := by
  rw [List.getD_eq_getElem?_getD, List.getElem?_eq_getElem h]; exact List.getElem_mem h
theorem rdcL_take {p : Int} {B : List (List Int)} {r : List Int} {j : Nat} (h : j < B.length) : rdcL p (B.take (j + 1)) r = if gv (rdcL p (B.take j) r) (ldN (B.getD j [])) = 0 then rdcL p (B.take j) r else addL p (p - gv (rdcL p (B.take j) r) (ldN (B.getD j []))) (rdcL p (B.take j) r) (B.getD j []) := by
  unfold rdcL
  rw [List.take_succ_eq_append_getElem h, List.foldl_append, List.foldl_cons, List.foldl_nil, List.getD_eq_getElem?_getD, List.getElem?_eq_getElem h, Option.getD_some]
theorem rdcL_vec {p : Int} {N : Nat} (hp : 0 < p) : ∀ (B : List (List Int)) (r : List Int), Vec p N r → Vec p N (rdcL p B r) := by
  intro B
  induction B with
  | nil => intro r h; exact h
  | cons b B ih =>
    intro r h
    refine ih _ ?_
    show Vec p N (if gv r (ldN b) = 0 then r else addL p (p - gv r (ldN b)) r b)
    by_cases c : gv r (ldN b) = 0
    · rw [if_pos c]; exact h
    · rw [if_neg c]; exact addL_vec hp h.1
theorem basL_take {p : Int} {inv : Int → Int} {rows : List (List Int)} {i : Nat} (h : i < rows.length) : basL p inv (rows.take (i + 1)) = insL p inv (basL p inv (rows.take i)) (rows.getD i []) := by
  unfold basL
  rw [List.take_succ_eq_append_getElem h, List.foldl_append, List.foldl_cons, List.foldl_nil, List.getD_eq_getElem?_getD, List.getElem?_eq_getElem h, Option.getD_some]
theorem clrK_map {p : Int} {k : Nat} {T : List Int} {B : List (List Int)} : clrK p k B.length T B B.length = B.map (clrL p k T) := lists_ext (by rw [clrK_len]; simp) fun j hj => by
  rw [clrK_len] at hj
  rw [clrK_get hj, if_pos (by omega), List.getD_eq_getElem?_getD, List.getElem?_eq_getElem hj, List.getD_eq_getElem?_getD, List.getElem?_map, List.getElem?_eq_getElem hj]; rfl
theorem ins_no {p : Int} {inv : Int → Int} {B : List (List Int)} {r : List Int} (h : ldN (rdcL p B r) = (rdcL p B r).length) : insL p inv B r = B := if_pos h
theorem ins_yes {p : Int} {inv : Int → Int} {B : List (List Int)} {r Q T : List Int} {K : Nat} (hQ : rdcL p B r = Q) (hK : ldN Q = K) (h : K < Q.length) (hT : sclL p (inv (gv Q K)) Q = T) : insL p inv B r = clrK p K B.length T B B.length ++ [T] := by
  unfold insL
  rw [hQ, hK, if_neg (by omega), hT, clrK_map]
  rfl

set_option maxHeartbeats 16000000 in
theorem reducedRows_any (p : Int) (a : Option Addr) (n c N : Nat) (rows : List (List Int)) (w : World) (h : Tbl w a n rows) (hp : isPr p) (hm : n ≤ 1000000) (N1 : 1 ≤ N) (hN : N ≤ 1000000) (hr : ∀ r, r ∈ rows → Vec p N r) :
    Calls Tryz.prog 99 #[.int .i64 p, .slice a n c] w fun e w' => ∃ a' d c' vs, e = .returned (.slice a' d c') ∧ OwnT w' w.heap.size a' d c' vs (echL p (invF p) N rows) ∧ Below w.heap.size w w' := by
  have p2 : 2 ≤ p ∧ p ≤ 7 := by unfold isPr at hp; omega
  have HP := Lib.hid hp
  have HR := Lib.hid hr
  have HLn := Lib.hid h.len
  have HRD : Hid (∀ i, Rdc p N (basL p (invF p) (rows.take i))) := Lib.hid fun i => (bas_ok (by omega) (fun a h0 h1 => (invF_ok hp a h0 h1).1) (fun r q => hr r (List.mem_of_mem_take q))).1
  have HSRT : Hid (∀ B : List (List Int), B.Perm (basL p (invF p) rows) → (B.Pairwise fun b c => ¬ cmpL b c < 0) → B = echL p (invF p) N rows) := Lib.hid fun B h1 h2 => bas_srt (by omega) (fun a h0 h1 => (invF_ok hp a h0 h1).1) hr h1 h2
  clear hp hr
  go_enter Tryz.func99, Tryz.ntmps99
  go_wp2
  go_loopw [5, 18] (fun s5 s18 wr => ∃ (i d : Nat) (a5 : Option Addr) (c5 : Nat) (vs : List SV), i ≤ n ∧ d ≤ i ∧ s18 = .int .i64 i ∧ s5 = .slice a5 d c5 ∧ OwnT wr w.heap.size a5 d c5 vs (basL p (invF p) (rows.take i)) ∧ Below w.heap.size w wr) (fun _ s18 _ => n - (intOf s18).toNat)
  case atStart => exact ⟨0, 0, none, 0, [], Nat.zero_le _, Nat.zero_le _, rfl, rfl, OwnT.nil _ _, Below.refl _ _⟩
  case round =>
    obtain ⟨i, d, a5, c5, vs, hi, hdi, rfl, rfl, ho, hb⟩ := hrel
    obtain ⟨W, rfl⟩ : ∃ W : World, W = wr := ⟨_, rfl⟩
    by_cases hlt : i < n
    · have HST : Hid (basL p (invF p) (rows.take (i + 1)) = insL p (invF p) (basL p (invF p) (rows.take i)) (rows.getD i [])) := Lib.hid (basL_take (by have := HLn.out; omega))
      have hrd := HRD.out i
      obtain ⟨B, hB⟩ : ∃ B, basL p (invF p) (rows.take i) = B := ⟨_, rfl⟩
      rw [hB] at ho HST hrd
      clear hB
      have HB := Lib.hid hrd
      have HBL : Hid (B.length = d) := Lib.hid ho.len.symm
      have hcap := ho.cap
      have hRv := HR.out (rows.getD i []) (by
        rw [List.getD_eq_getElem?_getD, List.getElem?_eq_getElem (by have := HLn.out; omega)]; exact List.getElem_mem _)
      obtain ⟨bz, oz, ai, ni, ci, rfl, z1, hri, _⟩ := (h.below hb).at i hlt
      obtain ⟨R, hR⟩ : ∃ R, rows.getD i [] = R := ⟨_, rfl⟩
      rw [hR] at hri hRv HST
      clear hR hrd
      obtain rfl : N = ni := by rw [hri.len]; exact hRv.1.symm
      have HRV := Lib.hid hRv
      clear hRv
      go_wp2_with fail
      refine (clone_any _ _ _ R _ hri (by omega)).mono ?_
      rintro e w1 ⟨a1, c1, rfl, ho1, hb1⟩
      clear hri z1
      rcases ho1.block with ⟨_, h1, _⟩ | ⟨g1, cur1, rfl, hg1, _⟩
      · omega
      have hbw := hb.size
      go_wp2
      go_loopw [26] (fun s26 w2 => ∃ (j : Nat), j ≤ d ∧ s26 = .int .i64 j ∧ Own w2 W.heap.size (some ⟨g1, 0, none⟩) N c1 (rdcL p (B.take j) R) ∧ Below W.heap.size W w2) (fun s26 _ => d - (intOf s26).toNat)
      case atStart => exact ⟨0, Nat.zero_le _, rfl, ho1, hb1⟩
      case round =>
        clear ho1 hb1
        obtain ⟨j, hj, rfl, ho1, hb1⟩ := hrel
        have ho2 := ho.below hb1
        by_cases hjd : j < d
        · have hjB : j < B.length := by have := HBL.out; omega
          have hbm : B.getD j [] ∈ B := mem_getR hjB
          have HV1 := Lib.hid (rdcL_vec (p := p) (by omega) (B.take j) R HRV.out)
          have HSTP := Lib.hid (rdcL_take (p := p) (r := R) hjB)
          have hbv := HB.out.vec _ hbm
          have hbl := HB.out.lt _ hbm
          obtain ⟨K, hK⟩ : ∃ K, ldN (B.getD j []) = K := ⟨_, rfl⟩
          have hld : ldI (B.getD j []) = K := by unfold ldI; rw [hK, if_neg (by have := hbv.1; omega)]
          rw [hK] at hbl HSTP
          clear hK
          have HLD : Hid (∀ (v : World) (a9 : Option Addr) (c9 : Nat), Row v a9 N (B.getD j []) → Calls Tryz.prog 156 #[.slice a9 N c9] v fun e v' => e = .returned (.int .i64 (K : Int)) ∧ v = v') := Lib.hid fun v a9 c9 h9 => by have := leading_any a9 N c9 _ v h9 (by omega); rw [hld] at this; exact this
          clear hld
          obtain ⟨⟨A, L, C⟩, hVj⟩ : ∃ v, vs.getD j svO = v := ⟨_, rfl⟩
          obtain ⟨gh, rfl, _, hcs, _⟩ := ho2.cells (by omega)
          have d1 := hcs j hjd
          have rwj := ho2.row j hjd
          have hhi := (ho.row j hjd).hi
          rw [hVj] at d1 rwj hhi
          simp only at d1 rwj hhi
          clear hcs hVj
          obtain rfl : N = L := by rw [rwj.len]; exact hbv.1.symm
          have rj := rwj.row
          have hne : ∀ o, A ≠ some ⟨g1, o, none⟩ := fun o e => by
            rcases rwj.block with ⟨h', _⟩ | ⟨q, cur, h', _⟩
            · rw [h'] at e; cases e
            · have := hhi q h'; rw [h'] at e; cases e; omega
          obtain ⟨_, hc1, hf1⟩ := ho1.cells
          have q1' := hc1 K hbl
          have q1 : wr.cell? ⟨g1, K, none⟩ = some (.int .i64 (gv (rdcL p (B.take j) R) K)) := q1'
          have hXv := HV1.out.2 K hbl
          clear q1' hc1 hf1
          obtain ⟨r', hr'⟩ : ∃ r', rdcL p (B.take j) R = r' := ⟨_, rfl⟩
          rw [hr'] at q1 ho1 HV1 HSTP hXv
          clear hr'
          obtain ⟨X, hX⟩ : ∃ X, gv r' K = X := ⟨_, rfl⟩
          rw [hX] at q1 HSTP hXv
          clear hX
          obtain ⟨b0, hb0⟩ : ∃ b0, B.getD j [] = b0 := ⟨_, rfl⟩
          rw [hb0] at HSTP hbv rj HLD
          have HBV := Lib.hid hbv
          clear hb0 hbm hbv rwj hhi
          have HNE := Lib.hid hne; clear hne
          go_wp2_with fail
          refine (HLD.out _ _ _ rj).mono ?_
          rintro e w' ⟨rfl, rfl⟩
          by_cases hX0 : X = 0
          · subst hX0
            go_wp2
            go_roundw
            case rel => exact ⟨j + 1, by omega, by go_num, by rw [HSTP.out]; simpa using ho1, hb1⟩
            case measure => simp [intOf]; omega
          · have hXb : (X != 0) = true := by simpa using hX0
            have hwX : IntKind.i64.wrap (p - X) = p - X := IntWalk.i64_in _ (by omega)
            go_wp2_with fail
            refine (addRow_ok p (p - X) g1 N c1 _ r' b0 A C _ ho1 rj HNE.out hN p2 (by omega) HV1.out HBV.out).mono ?_
            rintro e w4 ⟨rfl, ho4, hg4⟩
            go_wp2
            go_roundw
            case rel => exact ⟨j + 1, by omega, by go_num, by rw [HSTP.out, if_neg hX0]; exact ho4, hb1.grown hg4 hb1.size (fun k hk => by cases hk; exact hg1)⟩
            case measure => simp [intOf]; omega
        · obtain rfl : d = j := by omega
          rw [List.take_of_length_le (by have := HBL.out; omega)] at ho1
          have hQv := rdcL_vec (p := p) (by omega) B R HRV.out
          have hno := ins_no (p := p) (inv := invF p) (B := B) (r := R)
          have hyes := fun (T : List Int) (K : Nat) => ins_yes (p := p) (inv := invF p) (B := B) (r := R) (T := T) (K := K) rfl
          obtain ⟨Q, hQ⟩ : ∃ Q, rdcL p B R = Q := ⟨_, rfl⟩
          rw [hQ] at ho1 hQv hno
          simp only [hQ] at hyes
          clear hQ
          have HNO := Lib.hid hno; have HYES := Lib.hid hyes; have HQV := Lib.hid hQv
          clear hno hyes
          have hQl := ldN_le Q
          by_cases hl : ldN Q = N
          · have hld : ldI Q = -1 := by unfold ldI; rw [if_pos (by rw [hl]; exact hQv.1.symm)]
            have HLD := Lib.hid (leading_any _ N c1 _ _ ho1.row (by omega))
            rw [hld] at HLD
            have HIN : Hid (insL p (invF p) B R = B) := Lib.hid (HNO.out (by rw [hl]; exact hQv.1.symm))
            clear hld hl hQv hQl
            go_wp2_with fail
            refine HLD.out.mono ?_
            rintro e w' ⟨rfl, rfl⟩
            go_wp2
            go_roundw
            case rel => exact ⟨i + 1, _, a5, c5, vs, by omega, by omega, by go_num, rfl, by rw [HST.out, HIN.out]; exact ho2, below_th hb hb1⟩
            case measure => simp [intOf]; omega
          · obtain ⟨K, hK⟩ : ∃ K, ldN Q = K := ⟨_, rfl⟩
            have hKN : K < N := by have := hQv.1; omega
            have hld : ldI Q = K := by unfold ldI; rw [hK, if_neg (by have := hQv.1; omega)]
            have hX0 : gv Q K ≠ 0 := by rw [← hK]; exact ldN_lt (by have := hQv.1; omega)
            have HLD := Lib.hid (leading_any _ N c1 _ _ ho1.row (by omega))
            rw [hld] at HLD
            have hXv := hQv.2 K hKN
            obtain ⟨I, hI, i1, i6, _⟩ := inv_facts HP.out (show 0 < gv Q K by omega) hXv.2
            have HINV : Hid (∀ v : World, Calls Tryz.prog 159 #[.int .i64 p, .int .i64 (gv Q K)] v fun e v' => e = .returned (.int .i64 (I : Int)) ∧ v = v') := Lib.hid fun v => by have := inverseModulo_ok (gv Q K) p HP.out (by omega) hXv.2 v; rw [hI] at this; exact this
            obtain ⟨T, hT⟩ : ∃ T, sclL p (I : Int) Q = T := ⟨_, rfl⟩
            have HIN : Hid (insL p (invF p) B R = clrK p K B.length T B B.length ++ [T]) := Lib.hid (HYES.out T K hK (by have := hQv.1; omega) (by rw [hI]; exact hT))
            have HT := Lib.hid hT
            have HTV : Hid (Vec p N T) := Lib.hid (by rw [← hT]; exact sclL_vec (by omega) hQv.1)
            obtain ⟨_, hc1, hf1⟩ := ho1.cells
            have q1' := hc1 K hKN
            have q1 : wr.cell? ⟨g1, K, none⟩ = some (.int .i64 (gv Q K)) := q1'
            clear q1' hc1 hf1 hI hT hld hK hX0 hl hQl hQv
            generalize gv Q K = X at *
            have hK0 : ¬ ((K : Int) < 0) := by omega
            go_wp2_with fail
            refine HLD.out.mono ?_
            rintro e w' ⟨rfl, rfl⟩
            go_wp2_with fail
            refine (HINV.out _).mono ?_
            rintro e w' ⟨rfl, rfl⟩
            go_wp2_with fail
            refine (scaleRow_ok p (I : Int) g1 N c1 _ Q _ ho1 hN p2 (by omega) HQV.out).mono ?_
            rintro e w5 ⟨rfl, hoT, hg5⟩
            rw [HT.out] at hoT
            have hb5 : Below W.heap.size W w5 := hb1.grown hg5 hb1.size (fun k hk => by cases hk; exact hg1)
            have hO5 := ho.below hb5
            have hB5 := below_th hb hb5
            clear q1 ho1 hb1 ho2 hg5 hb5
            go_wp2
            go_loopw [60] (fun s60 w6 => ∃ (j : Nat), j ≤ d ∧ s60 = .int .i64 j ∧ Own w6 W.heap.size (some ⟨g1, 0, none⟩) N c1 T ∧ OwnT w6 w.heap.size a5 d c5 vs (clrK p K d T B j) ∧ Below w.heap.size w w6) (fun s60 _ => d - (intOf s60).toNat)
            case atStart => exact ⟨0, Nat.zero_le _, rfl, hoT, by rw [clrK_zero]; exact hO5, hB5⟩
            case round =>
              clear hoT hO5 hB5
              obtain ⟨j, hj, rfl, hoT, ho6, hb6⟩ := hrel
              by_cases hjd : j < d
              · have hjB : j < B.length := by have := HBL.out; omega
                have hbv := HB.out.vec _ (mem_getR hjB)
                obtain ⟨⟨A, L, C⟩, hVj⟩ : ∃ v, vs.getD j svO = v := ⟨_, rfl⟩
                obtain ⟨gh, rfl, _, hcs, _⟩ := ho6.cells (by omega)
                have d1 := hcs j hjd
                have rwj := ho6.row j hjd
                have hhi := (ho.row j hjd).hi
                rw [clrK_at hjB] at rwj
                rw [hVj] at d1 rwj hhi
                simp only at d1 rwj hhi
                clear hcs
                obtain rfl : N = L := by rw [rwj.len]; exact hbv.1.symm
                rcases rwj.block with ⟨_, h1, _⟩ | ⟨gb, curb, rfl, hgb, _⟩
                · omega
                have hgb2 := hhi gb rfl
                obtain ⟨_, hc1, hf1⟩ := rwj.cells
                have q1' := hc1 K hKN
                have q1 : wr.cell? ⟨gb, K, none⟩ = some (.int .i64 (gv (B.getD j []) K)) := q1'
                have hXv := hbv.2 K hKN
                clear q1' hc1 hf1 hhi
                have HBV := Lib.hid hbv; clear hbv
                have HSK := Lib.hid (fun h => clrK_skip (p := p) (k := K) (d := d) (T := T) (S := B) (i := j) hjB (.inr h))
                have HDO := Lib.hid (fun h => clrK_do (p := p) (k := K) (d := d) (T := T) (S := B) (i := j) hjB (by omega) h)
                have HVJ := Lib.hid hVj; clear hVj
                obtain ⟨b0, hb0⟩ : ∃ b0, B.getD j [] = b0 := ⟨_, rfl⟩
                rw [hb0] at q1 hXv HBV HSK HDO rwj
                clear hb0
                obtain ⟨Y, hY⟩ : ∃ Y, gv b0 K = Y := ⟨_, rfl⟩
                rw [hY] at q1 hXv HSK HDO
                clear hY
                by_cases hY0 : Y = 0
                · have HSK2 := Lib.hid (HSK.out hY0)
                  clear HSK HDO
                  subst hY0
                  go_wp2
                  go_roundw
                  case rel => exact ⟨j + 1, by omega, by go_num, hoT, by rw [HSK2.out]; exact ho6, hb6⟩
                  case measure => simp [intOf]; omega
                · have HDO2 := Lib.hid (HDO.out hY0)
                  clear HSK HDO
                  have hYb : (Y != 0) = true := by simpa using hY0
                  have hwY : IntKind.i64.wrap (p - Y) = p - Y := IntWalk.i64_in _ (by omega)
                  go_wp2_with fail
                  refine (addRow_ok p (p - Y) gb N C _ b0 T _ _ _ rwj hoT.row (fun o e => by cases e; omega) hN p2 (by omega) HBV.out HTV.out).mono ?_
                  rintro e w4 ⟨rfl, ho4, hg4⟩
                  go_wp2
                  go_roundw
                  case rel =>
                    refine ⟨j + 1, by omega, by go_num, hoT.grown hg4 (fun q e1 e2 => by cases e1; cases e2; omega), ?_, hb6.grown hg4 hb6.size (fun k hk => by cases hk; exact hgb)⟩
                    have hq := ho6.rowg j hjd (g := gb) (by rw [HVJ.out]) (ys := addL p (p - Y) b0 T) (by rw [HVJ.out]; exact ho4) hg4
                    rw [HDO2.out] at hq
                    exact hq
                  case measure => simp [intOf]; omega
              · obtain rfl : d = j := by omega
                have hv6 : Own wr w.heap.size (some ⟨g1, 0, none⟩) N c1 T := hoT.mono hbw
                go_wp2_with (at_builtin; refine appT1 rfl rfl ho6 rfl hv6 (fun q h1 h2 => by cases h2; have := ho.high _ h1; omega) (fun j' hj' q h1 h2 => by cases h1; have := (ho.row j' hj').hi _ h2; omega) rfl (by omega) hb6.size ?_; intro g7 c7 w7 hO7 hb7)
                go_roundw
                case rel =>
                  refine ⟨i + 1, d + 1, _, _, vs ++ [(some ⟨g1, 0, none⟩, N, c1)], by omega, by omega, by go_num, rfl, ?_, hb6.trans hb7⟩
                  rw [HST.out, HIN.out, HBL.out]
                  exact hO7
                case measure => simp [intOf]; omega
    · obtain rfl : i = n := by omega
      rw [List.take_of_length_le (by have := HLn.out; omega)] at ho
      by_cases hd0 : d = 0
      · subst hd0
        have HN9 := Lib.hid (sortR_none a5 c5 W)
        have hres : basL p (invF p) rows = [] := List.eq_nil_of_length_eq_zero ho.len.symm
        have HE9 : Hid ([] = echL p (invF p) N rows) := Lib.hid (HSRT.out [] (by rw [hres]) List.Pairwise.nil)
        rw [hres] at ho
        clear hres
        go_wp2_with fail
        refine HN9.out.mono ?_
        rintro e w' ⟨rfl, rfl⟩
        have ho' : OwnT w' w.heap.size a5 0 c5 vs (echL p (invF p) N rows) := by rw [← HE9.out]; exact ho
        go_wp2
        go_ret
        exact ⟨_, _, _, _, rfl, ho', hb⟩
      · have HS9 := Lib.hid (sortR_any d c5 _ a5 vs _ W ho (by omega) (by omega))
        have hlow := ho.low
        clear ho
        go_wp2_with fail
        refine HS9.out.mono ?_
        rintro e w9 ⟨rfl, vs9, ts9, ho9, hperm, hsort, hblk, hos, htp, hout, hsz⟩
        have hts : ts9 = echL p (invF p) N rows := HSRT.out ts9 hperm (hsort.imp fun h => by omega)
        subst hts
        have hb9 : Below w.heap.size W w9 := { os := hos, tape := htp, output := hout, size := hsz, block := fun q hq => hblk q (Nat.lt_of_lt_of_le hq hb.size) (fun e => by have := hlow q e; omega) }
        clear hblk hperm hsort
        go_wp2
        go_ret
        exact ⟨_, _, _, _, rfl, ho9, hb.trans hb9⟩
end Go.Proofs.YtnlgmhckjpifiaaGreat
