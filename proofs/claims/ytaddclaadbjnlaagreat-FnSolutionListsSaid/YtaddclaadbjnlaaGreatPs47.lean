/-
  Walks and plain laws of this seat, some texts in one.
  No condition but bounds on lengths.
-/
import Derived.Test.YtaddclaadbjnlaaGreatPs44
import Derived.Test.YtaddclaadbjnlaaGreatPs43
import Derived.Test.YtaddclaadbjnlaaGreatPs38
import Derived.Test.YtaddclaadbjnlaaGreatPs40
import Derived.Test.YtaddclaadbjnlaaGreatPs3
import Derived.Test.YtaddclaadbjnlaaGreatPs39
namespace Go.Proofs.YtaddclaadbjnlaaGreat
set_option maxRecDepth 100000
set_option linter.unusedVariables false
set_option linter.unusedSimpArgs false
open Go.RowKit
theorem LsT.lstQ {w : World} {lo : Nat} {a : Option Addr} {n c : Nat} {vs : List SV} {uss : List (List TV)} {L : List T2} (h : LsT w lo a n c vs uss L) : LstQ w a n vs (L.map prS) := by
  refine ⟨h.hd.read, by rw [List.length_map]; exact h.len, fun i hi => ?_⟩
  have hl := h.len
  have e := h.el i hi
  have hg : (L.map prS).getD i [] = prS (L.getD i t2O) := by
    simp [List.getD_eq_getElem?_getD, List.getElem?_map, List.getElem?_eq_getElem (show i < L.length by omega)]
  rw [hg, e.len]
  exact ⟨e.own.tbS, by omega⟩
theorem LstQ.alloc {w : World} {a : Option Addr} {n : Nat} {vs : List SV} {L : List (List (List (List Int)))} (h : LstQ w a n vs L) (o : Obj) : LstQ (w.alloc o) a n vs L := h.below ((Below.refl _ _).alloc (Nat.le_refl _) o)
theorem OwnSo.fresh (w : World) {b : Nat} (hb : b = w.heap.size) : OwnSo (w.alloc (.cells #[] 53)) w.heap.size (some ⟨b, 0, none⟩) 0 0 [] [] :=
  ⟨rfl, rfl, ownsRowSo_mk rfl (by omega) (Loc.new w hb _ _) (Nat.le_refl _) (by unfold maxLen; omega) rfl rfl, fun i h => absurd h (by omega), fun i h => absurd h (by omega), fun i j h => absurd h (by omega)⟩
set_option maxHeartbeats 16000000 in
theorem l19Sorted_any (n : Nat) (w : World) (h1 : 1 ≤ n) (h3 : n ≤ 3) :
    Calls Tryz.prog 64 #[.int .i64 n] w fun e w' => ∃ a k c us, e = .returned (.slice a k c) ∧ OwnSo w' w.heap.size a k c us (slrL n) ∧ Below w.heap.size w w' := by
  obtain ⟨R, HR⟩ : ∃ R, Hid (slrL n = R) := ⟨_, rfl⟩
  rw [HR.out]
  obtain ⟨L, HLL⟩ : ∃ L, Hid (solL n = L) := ⟨_, rfl⟩
  have hLQ := solL_sq h1 h3
  rw [HLL.out] at hLQ
  have HSQL := Lib.hid hLQ
  have HSH := Lib.hid (slrK_shp (n := n) (L := L) fun s hs => ⟨(hLQ s hs).1.1, (hLQ s hs).2.1⟩)
  have HPB := Lib.hid (prm_bd h1 (show n ≤ 4 by omega))
  have HPI := Lib.hid (prm_isP h1 (show n ≤ 4 by omega))
  have hbd := slsL_bd h1 h3
  rw [HLL.out] at hbd
  have HBD := Lib.hid hbd
  clear hLQ hbd
  go_enter Tryz.func64, Tryz.ntmps64
  go_wp2_with fail
  refine (l19Solutions_any n w h1 h3).mono ?_
  rintro e w1 ⟨a1, K, c1, vs1, uss1, rfl, ht1, hb1⟩
  rw [HLL.out] at ht1
  go_wp2_with fail
  refine (l01Perms_any n w1 (by omega)).mono ?_
  rintro e w2 ⟨pa, P, pc, pvs, rfl, hp2, hb2⟩
  obtain ⟨w3, hw3⟩ : ∃ w3, w2.alloc (.cells #[] 70) = w3 := ⟨_, rfl⟩
  have hz3 : w3.heap.size = w2.heap.size + 1 := by rw [← hw3]; simp
  have hB2 : Below w.heap.size w w2 := below_th hb1 hb2
  have hB3 : Below w.heap.size w w3 := by rw [← hw3]; exact below_al hB2 _
  have hQ3 : LstQ w3 (some ⟨w2.heap.size, 0, none⟩) 0 [] [] := by rw [← hw3]; exact LstQ.fresh w2 rfl _
  have HKL := Lib.hid ht1.len
  have ht3 : LstQ w3 a1 K vs1 (L.map prS) := by rw [← hw3]; exact ((ht1.below hb2).lstQ).alloc _
  have hp3 : Tbl w3 pa P (prmL n) := by rw [← hw3]; exact (hp2.alloc _).tbl
  have HPL := Lib.hid hp2.tbl.len
  have hKc : K ≤ 1000000 := by rw [HKL.out]; exact HBD.out
  have hP24 : P ≤ 1000000 := by have := HPL.out; have := HPB.out; omega
  clear ht1 hp2
  go_wp2
  clear hw3
  go_loopw [5, 6] (fun s7 i wr => ∃ (j N c' : Nat) (g : Nat) (vs : List SV), j ≤ K ∧ i = .int .i64 j ∧ s7 = .slice (some ⟨g, 0, none⟩) N c' ∧ N ≤ c' ∧ c' ≤ 9223372036854775807 ∧ LstQ wr (some ⟨g, 0, none⟩) N vs (slrK n L j) ∧ Below w3.heap.size w3 wr) (fun _ i _ => K - (intOf i).toNat)
  case atStart => exact ⟨0, 0, 0, _, [], Nat.zero_le _, rfl, rfl, Nat.le_refl _, by omega, by simpa [slrK] using hQ3, Below.refl _ _⟩
  case round =>
    clear hQ3
    obtain ⟨j, N, c', g, vs, hj, rfl, rfl, hNc, hc9, hQ, hq⟩ := hrel
    have hsh := HSH.out j (by have := HKL.out; omega)
    have hNj : N ≤ j := by have := hQ.len; omega
    have HSA := Lib.hid hsh.2
    clear hsh
    by_cases hlt : j < K
    · have htr := ht3.below hq
      obtain ⟨b1, o1, rfl, hg1, cj⟩ := htr.hd.2 j hlt
      have hv := (htr.el j hlt).1
      obtain ⟨⟨va, vn, vc⟩, HV⟩ : ∃ u, Hid (vs1.getD j svO = u) := ⟨_, rfl⟩
      rw [HV.out] at cj hv
      change wr.cell? _ = some (.slice va vn vc) at cj
      have hmem : L.getD j t2O ∈ L := by
        have := HKL.out
        rw [List.getD_eq_getElem?_getD, List.getElem?_eq_getElem (show j < L.length by omega)]; exact List.getElem_mem _
      have hgd : (L.map prS).getD j [] = prS (L.getD j t2O) := by
        have := HKL.out
        simp [List.getD_eq_getElem?_getD, List.getElem?_map, List.getElem?_eq_getElem (show j < L.length by omega)]
      have hsq := HSQL.out _ hmem
      have hKS := slrK_succ n L (k := j) (by have := HKL.out; omega)
      obtain ⟨s, HT⟩ : ∃ s, Hid (L.getD j t2O = s) := ⟨_, rfl⟩
      rw [hgd, HT.out] at hv
      rw [HT.out] at hsq hKS
      obtain rfl : 2 = vn := by have := hv.len; exact this.symm
      have i1 : (0 : Int) ≤ (j : Int) := by omega
      have i2 : (j : Int) < (K : Int) := by omega
      have HKS := Lib.hid hKS
      have hqw := hB3.trans (hq.mono hB3.size)
      have HLE : Hid (∀ i, i < N → Shp 2 n ((slrK n L j).getD i [])) := Lib.hid fun i hi => by
        have : i < (slrK n L j).length := by have := hQ.len; omega
        rw [List.getD_eq_getElem?_getD, List.getElem?_eq_getElem this, Option.getD_some]
        obtain ⟨s', hs', e⟩ := HSA.out _ (List.getElem_mem this)
        rw [e]
        exact prS_shp ⟨(HSQL.out s' hs').1.1, (HSQL.out s' hs').2.1⟩
      have HS1 : Hid (∀ k, k < 2 → Sq n ((prS s).getD k [])) := Lib.hid fun k hk => by
        match k, hk with
        | 0, _ => exact hsq.1
        | 1, _ => exact hsq.2
      have HSP : Hid (Shp 2 n (prS s)) := Lib.hid (prS_shp ⟨hsq.1.1, hsq.2.1⟩)
      have HPX : Hid (∀ i, i < P → IsP n ((prmL n).getD i [])) := Lib.hid fun i hi => HPI.out i (by have := HPL.out; omega)
      obtain ⟨B, HB⟩ : ∃ B, Hid (onlL n (prmL n) (prS s) = B) := ⟨_, rfl⟩
      have hpl := hp3.below hq
      clear hsq hKS htr hmem hgd
      cases B with
      | true =>
        have HK1 : Hid (slrK n L (j + 1) = insQ (prS s) (slrK n L j)) := Lib.hid (by rw [HKS.out]; unfold slrF; rw [HB.out]; rfl)
        go_wp2_with fail
        refine (l19Own_any n 2 P va pa vc pc (prS s) (prmL n) wr hv hpl h1 (by omega) (by omega) hP24 HS1.out HPX.out).mono ?_
        rintro e w5 ⟨rfl, hb5⟩
        rw [HB.out]
        have cj5 := (hb5.cell (p := ⟨b1, o1 + j, none⟩) hg1).trans cj
        go_wp2_with fail
        refine (l19Sort_any 2 n N c' (some ⟨g, 0, none⟩) va vc vs _ (prS s) w5 (hQ.below hb5) hNc hc9 ⟨_, _, rfl⟩ (hv.below hb5) (by omega) (by omega) HLE.out HSP.out).mono ?_
        rintro e w6 ⟨g6, c6, vs6, rfl, hn6, hc6, hQ6, hb6⟩
        go_wp2
        go_roundw
        case rel => exact ⟨j + 1, N + 1, c6, g6, vs6, by omega, by go_num, rfl, hn6, hc6, by rw [HK1.out]; exact hQ6, below_th (below_th hq hb5) hb6⟩
        case measure => simp [intOf]; omega
      | false =>
        have HK1 : Hid (slrK n L (j + 1) = slrK n L j) := Lib.hid (by rw [HKS.out]; unfold slrF; rw [HB.out]; rfl)
        go_wp2_with fail
        refine (l19Own_any n 2 P va pa vc pc (prS s) (prmL n) wr hv hpl h1 (by omega) (by omega) hP24 HS1.out HPX.out).mono ?_
        rintro e w5 ⟨rfl, hb5⟩
        rw [HB.out]
        go_wp2
        go_roundw
        case rel => exact ⟨j + 1, N, c', g, vs, by omega, by go_num, rfl, hNc, hc9, by rw [HK1.out]; exact hQ.below hb5, below_th hq hb5⟩
        case measure => simp [intOf]; omega
    · obtain ⟨W, rfl⟩ : ∃ W : World, W = wr := ⟨_, rfl⟩
      obtain rfl : K = j := by omega
      have hE : slrK n L K = (slrL n).map prS := by
        unfold slrK; rw [List.take_of_length_le (by have := HKL.out; omega), ← HLL.out]
        exact (slrL_map (solL_lens h1 h3)).1
      have hSM : ∀ s ∈ slrL n, s ∈ L := fun s hs => by
        have := (slrL_map (solL_lens h1 h3)).2.1.mem_iff.1 hs
        rw [← HLL.out]; exact (List.mem_filter.1 this).1
      rw [HR.out] at hE hSM
      rw [hE] at hQ
      have HSM := Lib.hid hSM
      have HRL : Hid (N = R.length) := Lib.hid (by have := hQ.len; rw [List.length_map] at this; exact this)
      have hO0 := OwnSo.fresh W rfl
      obtain ⟨B1, hB1⟩ : ∃ B1, B1 = W.heap.size := ⟨_, rfl⟩
      have hqB : Below B1 W W := Below.refl _ _
      have hO0 : OwnSo (W.alloc (.cells #[] 53)) B1 (some ⟨W.heap.size, 0, none⟩) 0 0 [] [] := hO0.mono (by omega)
      have hqw := hB3.trans (hq.mono hB3.size)
      clear hE ht3 hp3 hSM HSA
      go_wp2
      go_loopw [7, 8] (fun s10 i wr2 => ∃ (k : Nat) (a' : Option Addr) (c2 : Nat) (us2 : List PV), k ≤ N ∧ i = .int .i64 k ∧ s10 = .slice a' k c2 ∧ OwnSo wr2 B1 a' k c2 us2 (R.take k) ∧ Below W.heap.size W wr2) (fun _ i _ => N - (intOf i).toNat)
      case atStart => exact ⟨0, _, 0, [], Nat.zero_le _, rfl, rfl, by simpa using hO0, below_al (Below.refl _ _) _⟩
      case round =>
        clear hO0
        obtain ⟨k, a', c2, us2, hk, rfl, rfl, hO, hq2⟩ := hrel
        obtain ⟨V, rfl⟩ : ∃ V : World, V = wr := ⟨_, rfl⟩
        by_cases hlk : k < N
        · have hQ2 := hQ.below hq2
          obtain ⟨b, off, e1, hbb, gk⟩ := hQ2.hd.2 k hlk
          cases e1
          obtain ⟨hel, _⟩ := hQ2.el k hlk
          obtain ⟨⟨va, vn, vc⟩, HV⟩ : ∃ v, Hid (vs.getD k svO = v) := ⟨_, rfl⟩
          rw [HV.out] at gk hel
          change V.cell? _ = some (.slice va vn vc) at gk
          rw [Nat.zero_add] at gk
          have hk' : k < R.length := by have := HRL.out; omega
          have hgd : (R.map prS).getD k [] = prS (R.getD k t2O) := by
            simp [List.getD_eq_getElem?_getD, List.getElem?_map, List.getElem?_eq_getElem hk']
          have hmem : R.getD k t2O ∈ R := by
            rw [List.getD_eq_getElem?_getD, List.getElem?_eq_getElem hk']; exact List.getElem_mem _
          have hsq := HSQL.out _ (HSM.out _ hmem)
          have htk : R.take (k + 1) = R.take k ++ [R.getD k t2O] := by
            rw [List.take_succ_eq_append_getElem hk']
            simp [List.getD_eq_getElem?_getD, List.getElem?_eq_getElem hk']
          obtain ⟨⟨f, g2⟩, HT⟩ : ∃ s, Hid (R.getD k t2O = s) := ⟨_, rfl⟩
          rw [hgd, HT.out] at hel
          rw [HT.out] at hsq htk
          obtain rfl : 2 = vn := hel.len.symm
          obtain ⟨b3, o3, a3, n3, c3, e3, hb3, g3, t3, l3⟩ := hel.2 0 (show 0 < 2 by omega)
          obtain ⟨b4, o4, a4, n4, c4, e4, hb4, g4, t4, l4⟩ := hel.2 1 (show 1 < 2 by omega)
          have e3' : va = some ⟨b3, o3, none⟩ := e3
          subst e3'
          cases e4
          have t3 : Tbl V a3 n3 f := t3
          have t4 : Tbl V a4 n4 g2 := t4
          have g3 : V.cell? ⟨b3, o3, none⟩ = some (.slice a3 n3 c3) := g3
          have g4 : V.cell? ⟨b3, o3 + 1, none⟩ = some (.slice a4 n4 c4) := g4
          obtain rfl : n = n3 := by have := t3.len; rw [hsq.1.1] at this; exact this.symm
          obtain rfl : n = n4 := by have := t4.len; rw [hsq.2.1] at this; exact this.symm
          have HRW : Hid (∀ x ∈ f, x.length ≤ 1000000) := Lib.hid fun x hx => by
            obtain ⟨q, hq, rfl⟩ := List.getElem_of_mem hx
            have := (hsq.1.2 q (by rw [← hsq.1.1]; exact hq)).1
            rw [List.getD_eq_getElem?_getD, List.getElem?_eq_getElem hq, Option.getD_some] at this
            omega
          have HRW2 : Hid (∀ x ∈ g2, x.length ≤ 1000000) := Lib.hid fun x hx => by
            obtain ⟨q, hq, rfl⟩ := List.getElem_of_mem hx
            have := (hsq.2.2 q (by rw [← hsq.2.1]; exact hq)).1
            rw [List.getD_eq_getElem?_getD, List.getElem?_eq_getElem hq, Option.getD_some] at this
            omega
          have HTK := Lib.hid htk
          have HOU := Lib.hid hO.uHi
          have j1 : (0 : Int) ≤ (k : Int) := by omega
          have j2 : (k : Int) < (N : Int) := by omega
          have hzq := hq2.size
          have hwz := hqw.size
          have hkm : k ≤ 1000000 := by omega
          clear hel hsq hmem hgd htk
          have HL3 := Lib.hid l3
          clear l3 l4
          have HBBK : ∀ w', Below V.heap.size V w' → w'.cell? ⟨g, k, none⟩ = some (.slice (some ⟨b3, o3, none⟩) 2 vc) ∧ w'.cell? ⟨b3, o3, none⟩ = some (.slice a3 n c3) ∧ w'.cell? ⟨b3, o3 + 1, none⟩ = some (.slice a4 n c4) := fun w' hb => ⟨(hb.cell (p := ⟨g, k, none⟩) hbb).trans gk, (hb.cell (p := ⟨b3, o3, none⟩) hb3).trans g3, (hb.cell (p := ⟨b3, o3 + 1, none⟩) hb3).trans g4⟩
          have HCC := Lib.hid HBBK
          clear HBBK
          go_wp2
          go_region_law (first
            | (refine step_appSon rfl rfl hO6 rfl hOS HQ6.out rfl ?_ ?_ ?_; (omega); (omega); intro g' cc w8 hO8 hg8 hat8 hb8)
            | (have hq55 := hq5; go_simp; go_at_call 86; refine (l01Own2_any a4 n c4 g2 _ (t4.below hq5) (by omega) HRW2.out).mono ?_; rintro e w6 ⟨a6, c6, vs6, rfl, ho6, hb6⟩; have hq6 : Below V.heap.size V w6 := below_th hq5 hb6; have hO6 := hO.below hq6; have hz6 := hq6.size; have hz5 := hq5.size; have ho5v : OwnT w5 V.heap.size a5 n c5 vs5 f := ho5; have HHI5 := Lib.hid ho5v.uHi; have hOS : OwnS w6 B1 a5 n c5 vs5 f a6 n c6 vs6 g2 := ⟨(ho5v.below hb6).mono (by omega), ho6.mono (by omega), fun q h1 h2 => by have x1 : w5.heap.size ≤ q := ho6.uLo q h2; have := HHI5.out q h1; omega⟩; have HQ6 : Hid (∀ q, SolS a5 n vs5 a6 n vs6 q → ¬ SSS a' k us2 q) := Lib.hid (fun q h1 h2 => by have x2 := HOU.out q h2; exact h1.elim (fun h1 => by have x1 := ho5v.uLo q h1; omega) (fun h1 => by have x1 : w5.heap.size ≤ q := ho6.uLo q h1; omega)))
            | (go_simp; go_at_call 86; refine (l01Own2_any a3 n c3 f _ (t3.drewN 1) (by omega) HRW.out).mono ?_; rintro e w5 ⟨a5, c5, vs5, rfl, ho5, hb5⟩; have hq5 : Below V.heap.size V w5 := below_th (below_drewN (Below.refl _ _) 1) hb5; obtain ⟨d1, d2, d3⟩ := HCC.out w5 hq5))
          all_goals
            go_wp2
            go_roundw
            case rel => exact ⟨k + 1, _, cc, _, by omega, by go_num, rfl, by rw [HTK.out]; exact hO8, (below_th hq2 hq6).trans (by rw [← hB1]; exact hb8)⟩
            case measure => simp [intOf]; omega
        · obtain rfl : N = k := by omega
          go_wp2
          go_ret
          exact ⟨a', N, c2, us2, rfl, by rw [List.take_of_length_le (by have := HRL.out; omega)] at hO; exact hO.mono (by have := hqw.size; omega), hqw.trans (hq2.mono hqw.size)⟩
def aslF (x : Int) : List T2 × Int := if 1 ≤ x ∧ x ≤ 3 then (slrL x.toNat, 0) else ([], 2)
theorem slrL_mem {n : Nat} (h1 : 1 ≤ n) (h3 : n ≤ 3) {s : T2} (hs : s ∈ slrL n) : s ∈ solL n :=
  (List.mem_filter.1 ((slrL_map (solL_lens h1 h3)).2.1.mem_iff.1 hs)).1
theorem slrL_bd {n : Nat} (h1 : 1 ≤ n) (h3 : n ≤ 3) : (slrL n).length ≤ 1000000 := by
  have h := (slrL_map (solL_lens h1 h3)).2.1.length_eq
  have h2 : (lstSo n).length ≤ (solL n).length := List.length_filter_le _ _
  have := slsL_bd h1 h3
  omega
set_option maxHeartbeats 4000000 in
theorem spec_Asl_l (x : Int) (w : World) (hx : I64 x) :
    Calls Tryz.prog 23 #[.int .i64 x] w (RetLSo w (aslF x).1 (aslF x).2) := by
  have hin := fun w => l01In_any x 1 3 w
  by_cases h : 1 ≤ x ∧ x ≤ 3
  · obtain ⟨n, rfl⟩ : ∃ n : Nat, x = n := ⟨x.toNat, by omega⟩
    have h1 : 1 ≤ n := by omega
    have h3 : n ≤ 3 := by omega
    obtain ⟨K, HK⟩ : ∃ K, Hid (slrL n = K) := ⟨_, Lib.hid rfl⟩
    have hq : aslF n = (K, 0) := by unfold aslF; rw [if_pos h, Int.toNat_natCast, HK.out]
    rw [hq]
    have hd : (decide ((1 : Int) ≤ n) && decide ((n : Int) ≤ 3)) = true := by simp; omega
    rw [hd] at hin
    have HIN := Lib.hid hin
    clear hin hd h hq
    go_enter Tryz.func23, Tryz.ntmps23
    go_wp2_with fail
    refine (HIN.out _).mono ?_
    rintro e w1 ⟨rfl, rfl⟩
    go_wp2_with fail
    refine (l19Sorted_any n _ h1 h3).mono ?_
    rintro e w2 ⟨a, k, c, us, rfl, ho, hb⟩
    rw [HK.out] at ho
    go_wp2
    go_ret2
    exact ⟨a, k, c, us, rfl, ho, hb⟩
  · have hq : aslF x = ([], 2) := by unfold aslF; rw [if_neg h]
    rw [hq]
    have hd : (decide ((1 : Int) ≤ x) && decide (x ≤ 3)) = false := by simp; omega
    rw [hd] at hin
    have HIN := Lib.hid hin
    clear hin hd hq
    go_enter Tryz.func23, Tryz.ntmps23
    go_wp2_with fail
    refine (HIN.out _).mono ?_
    rintro e w1 ⟨rfl, rfl⟩
    go_wp2
    go_ret2
    exact ⟨none, 0, 0, [], rfl, OwnSo.nil _ _, Below.refl _ _⟩
set_option maxHeartbeats 4000000 in
theorem impl_Asl_l (x : Int) (w : World) (hx : I64 x) :
    Calls Tryz.prog 22 #[.int .i64 x] w (RetLSo w (aslF x).1 (aslF x).2) := by
  have hin := fun w => within_any x 1 3 w
  by_cases h : 1 ≤ x ∧ x ≤ 3
  · obtain ⟨n, rfl⟩ : ∃ n : Nat, x = n := ⟨x.toNat, by omega⟩
    have h1 : 1 ≤ n := by omega
    have h3 : n ≤ 3 := by omega
    obtain ⟨K, HK⟩ : ∃ K, Hid (slrL n = K) := ⟨_, Lib.hid rfl⟩
    have hq : aslF n = (K, 0) := by unfold aslF; rw [if_pos h, Int.toNat_natCast, HK.out]
    rw [hq]
    have hd : (decide ((1 : Int) ≤ n) && decide ((n : Int) ≤ 3)) = true := by simp; omega
    rw [hd] at hin
    have HIN := Lib.hid hin
    clear hin hd h hq
    go_enter Tryz.func22, Tryz.ntmps22
    go_wp2_with fail
    refine (HIN.out _).mono ?_
    rintro e w1 ⟨rfl, rfl⟩
    go_wp2_with fail
    refine (allSolutions_any n _ h1 h3).mono ?_
    rintro e w2 ⟨a, k, c, us, ts, rfl, ho, hp, hs, hb⟩
    have ht : ts = slrL n := slrL_eq (solL_lens h1 h3) hp hs
    rw [ht, HK.out] at ho
    clear ht hp hs
    go_wp2
    go_ret2
    exact ⟨a, k, c, us, rfl, ho, hb⟩
  · have hq : aslF x = ([], 2) := by unfold aslF; rw [if_neg h]
    rw [hq]
    have hd : (decide ((1 : Int) ≤ x) && decide (x ≤ 3)) = false := by simp; omega
    rw [hd] at hin
    have HIN := Lib.hid hin
    clear hin hd hq
    go_enter Tryz.func22, Tryz.ntmps22
    go_wp2_with fail
    refine (HIN.out _).mono ?_
    rintro e w1 ⟨rfl, rfl⟩
    go_wp2
    go_ret2
    exact ⟨none, 0, 0, [], rfl, OwnSo.nil _ _, Below.refl _ _⟩
theorem OwnCy.fresh (w : World) {b : Nat} (hb : b = w.heap.size) : OwnCy (w.alloc (.cells #[] 86)) w.heap.size (some ⟨b, 0, none⟩) 0 0 [] [] :=
  ⟨rfl, rfl, ownsRowCy_mk rfl (by omega) (Loc.new w hb _ _) (Nat.le_refl _) (by unfold maxLen; omega) rfl rfl, fun i h => absurd h (by omega), fun i h => absurd h (by omega), fun i j h => absurd h (by omega)⟩
def acyF (x : Int) : List (List (List Int)) × Int := if 1 ≤ x ∧ x ≤ 4 then ((rowL x.toNat (cycR x.toNat)).filter (lstB x.toNat), 0) else ([], 2)
set_option maxHeartbeats 16000000 in
theorem impl_Acy_l (x : Int) (w : World) (hx : I64 x) :
    Calls Tryz.prog 25 #[.int .i64 x] w (RetLCy w (acyF x).1 (acyF x).2) := by
  have hin := fun w => within_any x 1 4 w
  by_cases h : 1 ≤ x ∧ x ≤ 4
  · obtain ⟨n, rfl⟩ : ∃ n : Nat, x = n := ⟨x.toNat, by omega⟩
    have h1 : 1 ≤ n := by omega
    have h4 : n ≤ 4 := by omega
    obtain ⟨KK, HKK⟩ : ∃ KK, Hid ((rowL n (cycR n)).filter (lstB n) = KK) := ⟨_, rfl⟩
    have hqa : acyF n = (KK, 0) := by unfold acyF; rw [if_pos h, Int.toNat_natCast, HKK.out]
    rw [hqa]
    have hd : (decide ((1 : Int) ≤ n) && decide ((n : Int) ≤ 4)) = true := by simp; omega
    rw [hd] at hin
    have HIN := Lib.hid hin
    clear hin hd h hqa
    obtain ⟨L, HLL⟩ : ∃ L, Hid (rowL n (cycR n) = L) := ⟨_, rfl⟩
    rw [HLL.out] at HKK
    go_enter Tryz.func25, Tryz.ntmps25
    go_wp2_with fail
    refine (HIN.out _).mono ?_
    rintro e w1 ⟨rfl, rfl⟩
    go_wp2_with fail
    refine (rowTables_any n _ _ (cycR n) _ h1 h4 (cycleRows_fit h4)).mono ?_
    rintro e w1 ⟨a1, K, c1, us, rfl, ht1, hb1⟩
    have hz1 := hb1.size
    have HKL := Lib.hid ht1.len
    have HFS := Lib.hid (fun k (h : k < (rowL n (cycR n)).length) => filter_take_succ (lstB n) (rowL n (cycR n)) [] h)
    have HRP := Lib.hid (fun i (hi : i < (rowL n (cycR n)).length) => rowL_rwsP h1 h4 (fits := (cycR n)) hi)
    have HAL : Hid ((rowL n (cycR n)).take K = rowL n (cycR n)) := Lib.hid (by rw [HKL.out, List.take_length])
    have hKc : K ≤ 9223372036854775807 := by have := ht1.cap; omega
    have hKb : K ≤ 1000000 := by
      have h := rowG_bd (prmL n) (cycR n) n []
      have e1 := prm_bd h1 h4
      have e2 : (prmL n).length ^ n ≤ 24 ^ n := Nat.pow_le_pow_left e1.1 n
      have e3 : (24 : Nat) ^ n ≤ 24 ^ 4 := Nat.pow_le_pow_right (by omega) h4
      have e4 : (24 : Nat) ^ 4 ≤ 1000000 := by decide
      have e5 := HKL.out
      unfold rowL at e5
      omega
    rw [HLL.out] at HKL HFS HRP HAL ht1
    go_wp2
    go_loopw [4, 6, 13] (fun s3 _ i wr => ∃ (j : Nat) (a' : Option Addr) (m c' : Nat) (us' : List TV), j ≤ K ∧ i = .int .i64 j ∧ s3 = .slice a' m c' ∧ OwnCy wr w.heap.size a' m c' us' ((L.take j).filter (lstB n)) ∧ OwnTT wr w.heap.size a1 K c1 us L ∧ Hid (∀ g, a' = some ⟨g, 0, none⟩ → ¬ TTS a1 K us g) ∧ Hid (∀ i, i < m → ∃ j', j' < j ∧ us'.getD i tvO = us.getD j' tvO) ∧ m ≤ j ∧ Below w.heap.size w wr) (fun _ _ i _ => K - (intOf i).toNat)
    case atStart => exact ⟨0, none, 0, 0, [], Nat.zero_le _, rfl, rfl, OwnCy.nil _ _, ht1, Lib.hid (fun g h => by cases h), Lib.hid (fun i h => absurd h (by omega)), Nat.le_refl _, hb1⟩
    case round =>
      obtain ⟨j, a', m, c', us', hj, rfl, rfl, hR, hT, HA, HU, hmj, hq⟩ := hrel
      by_cases hlt : j < K
      · obtain ⟨g1, rfl, hg1, hcell, _⟩ := hT.cells (by omega)
        have cj := hcell j hlt
        have hv := hT.tab j hlt
        obtain ⟨⟨⟨va, vn, vc⟩, vv⟩, HV⟩ : ∃ u, Hid (us.getD j tvO = u) := ⟨_, rfl⟩
        rw [HV.out] at cj hv
        change wr.cell? _ = some (.slice va vn vc) at cj
        have hrp := HRP.out j (by have := HKL.out; omega)
        have hl5 : n = vn := by have := OwnT.len hv; rw [hrp.1] at this; exact this.symm
        subst hl5
        have HSQ := Lib.hid hrp.sq
        have i1 : (0 : Int) ≤ (j : Int) := by omega
        have i2 : (j : Int) < (K : Int) := by omega
        have HF := Lib.hid (HFS.out j (by have := HKL.out; omega))
        obtain ⟨t, HTT⟩ : ∃ t, Hid (L.getD j [] = t) := ⟨_, rfl⟩
        rw [HTT.out] at HF HSQ hv
        clear hcell hrp
        cases hb : lstB n t with
        | true =>
          have HF1 : Hid ((L.take (j + 1)).filter (lstB n) = (L.take j).filter (lstB n) ++ [t]) := Lib.hid (by rw [HF.out, hb]; rfl)
          have HBB := Lib.hid hb
          clear hb
          go_wp2_with fail
          refine (isLeast_any n va vc t wr h1 h4 (OwnT.tbl hv) HSQ.out).mono ?_
          rintro e w3 ⟨rfl, hb3⟩
          rw [HBB.out]
          have hR3 := hR.below hb3
          have hT3 := hT.below hb3
          have hv3 : OwnT w3 w.heap.size va n vc vv t := OwnT.below hv hb3
          have hz3 : w.heap.size ≤ w3.heap.size := Nat.le_trans hq.size hb3.size
          have HAP : Hid (∀ q, TblS va n vv q → ¬ TTS a' m us' q) := Lib.hid fun q h1 h2 => by
            have h3 : TvS (us.getD j tvO) q := by rw [HV.out]; exact h1
            rcases h2 with h2 | ⟨i, hi, h2⟩
            · exact HA.out q h2 (.inr ⟨j, hlt, h3⟩)
            · obtain ⟨j', hj', e⟩ := HU.out i hi
              rw [e] at h2
              exact hT.pw j' j (by omega) hlt (by omega) q h2 h3
          have HUL := Lib.hid hR.ulen
          have HHI := Lib.hid hT.uHi
          go_wp2_with (at_builtin; refine appCy rfl rfl hR3 rfl hv3 HAP.out rfl (by omega) hz3 ?_; intro g' cc w8 hO hg8 hat8 hb8)
          go_roundw
          case rel =>
            refine ⟨j + 1, _, m + 1, cc, _, by omega, by go_num, rfl, by rw [HF1.out]; exact hO, hT3.keep (fun g hg hlt => hg8.block g hlt (fun e => HA.out g (hR3.ownBlk e.symm) hg)), Lib.hid (fun g h => ?_), Lib.hid (fun i hi => ?_), by omega, (hq.trans (hb3.mono hq.size)).trans hb8⟩
            · cases h
              rcases hat8 with h2 | h2
              · exact HA.out _ (hR3.ownBlk h2)
              · intro h3; have := HHI.out _ h3; have := hb3.size; omega
            · by_cases e : i < m
              · obtain ⟨j', hj', e'⟩ := HU.out i e
                exact ⟨j', by omega, by rw [← e']; simp [List.getD_eq_getElem?_getD, List.getElem?_append_left (show i < us'.length by have := HUL.out; omega)]⟩
              · obtain rfl : i = m := by omega
                exact ⟨j, by omega, by rw [HV.out, ← HUL.out]; simp [List.getD_eq_getElem?_getD]⟩
          case measure => simp [intOf]; omega
        | false =>
          have HF1 : Hid ((L.take (j + 1)).filter (lstB n) = (L.take j).filter (lstB n)) := Lib.hid (by rw [HF.out, hb]; simp)
          have HBB := Lib.hid hb
          clear hb
          go_wp2_with fail
          refine (isLeast_any n va vc t wr h1 h4 (OwnT.tbl hv) HSQ.out).mono ?_
          rintro e w3 ⟨rfl, hb3⟩
          rw [HBB.out]
          go_wp2
          go_roundw
          case rel => exact ⟨j + 1, a', m, c', us', by omega, by go_num, rfl, by rw [HF1.out]; exact hR.below hb3, hT.below hb3, HA, Lib.hid (fun i hi => by obtain ⟨j', h1, h2⟩ := HU.out i hi; exact ⟨j', by omega, h2⟩), by omega, hq.trans (hb3.mono hq.size)⟩
          case measure => simp [intOf]; omega
      · obtain rfl : K = j := by omega
        go_wp2
        go_ret2
        exact ⟨a', m, c', us', rfl, by rw [HAL.out, HKK.out] at hR; exact hR, hq⟩
  · have hq : acyF x = ([], 2) := by unfold acyF; rw [if_neg h]
    rw [hq]
    have hd : (decide ((1 : Int) ≤ x) && decide (x ≤ 4)) = false := by simp; omega
    rw [hd] at hin
    have HIN := Lib.hid hin
    clear hin hd hq
    go_enter Tryz.func25, Tryz.ntmps25
    go_wp2_with fail
    refine (HIN.out _).mono ?_
    rintro e w1 ⟨rfl, rfl⟩
    go_wp2
    go_ret2
    exact ⟨none, 0, 0, [], rfl, OwnCy.nil _ _, Below.refl _ _⟩
end Go.Proofs.YtaddclaadbjnlaaGreat
