/-
  The reference's sorted list of solutions.
  No condition but bounds.
-/
import Derived.Test.YthgafpeblpnolaaGreatSlrL
import Derived.Test.YthgafpeblpnolaaGreatSlsS
namespace Go.Proofs.YthgafpeblpnolaaGreat
set_option maxRecDepth 100000
set_option linter.unusedVariables false
set_option linter.unusedSimpArgs false
open Go.RowKit

theorem LsT.lstQ {w : World} {lo : Nat} {a : Option Addr} {n c : Nat} {vs : List SV} {uss : List (List TV)} {L : List T2} (h : LsT w lo a n c vs uss L) : LstQ w a n vs (L.map prS) := by
  refine ⟨h.hd.read, by rw [List.length_map]; exact h.len, fun i hi => ?_⟩
  have hl := h.len
  have e := h.el i hi
  have hg : (L.map prS).getD i [] = prS (L.getD i t2O) := by
    simp [List.getD_eq_getElem?_getD, List.getElem?_map, List.getElem?_eq_getElem (show i < L.length by omega)]
  rw [hg, e.len]
  exact ⟨e.own.tbS, by omega⟩
theorem LstQ.alloc {w : World} {a : Option Addr} {n : Nat} {vs : List SV} {L : List (List (List (List Int)))} (h : LstQ w a n vs L) (o : Obj) : LstQ (w.alloc o) a n vs L := h.below ((Below.refl _ _).alloc (Nat.le_refl _) o)
theorem OwnSo.fresh (w : World) {b : Nat} (hb : b = w.heap.size) : OwnSo (w.alloc (.cells #[] 28)) w.heap.size (some ⟨b, 0, none⟩) 0 0 [] [] :=
  ⟨rfl, rfl, ownsRowSo_mk rfl (by omega) (Loc.new w hb _ _) (Nat.le_refl _) (by unfold maxLen; omega) rfl rfl, fun i h => absurd h (by omega), fun i h => absurd h (by omega), fun i j h => absurd h (by omega)⟩

set_option maxHeartbeats 16000000 in
theorem l19Sorted_any (n : Nat) (w : World) (h1 : 1 ≤ n) (h3 : n ≤ 3) :
    Calls Tryz.prog 42 #[.int .i64 n] w fun e w' => ∃ a k c us, e = .returned (.slice a k c) ∧ OwnSo w' w.heap.size a k c us (slrL n) ∧ Below w.heap.size w w' := by
  obtain ⟨R, HR⟩ : ∃ R, Hid (slrL n = R) := ⟨_, rfl⟩
  rw [HR.out]
  obtain ⟨L, HLL⟩ : ∃ L, Hid (solL n = L) := ⟨_, rfl⟩
  have hLQ := solL_sq h1 h3
  rw [HLL.out] at hLQ
  have HSQL := Lib.hid hLQ
  have HSH := Lib.hid (slrK_shp (n := n) (L := L) fun s hs => ⟨(hLQ s hs).1.1, (hLQ s hs).2.1⟩)
  have HPB := Lib.hid (prm_bd h1 (show n ≤ 4 by omega))
  have HPI := Lib.hid (prm_isP h1 (show n ≤ 4 by omega))
  have hbd := slsL_bd h1 h3
  rw [HLL.out] at hbd
  have HBD := Lib.hid hbd
  clear hLQ hbd
  go_enter Tryz.func42, Tryz.ntmps42
  go_wp2_with fail
  refine (l19Solutions_any n w h1 h3).mono ?_
  rintro e w1 ⟨a1, K, c1, vs1, uss1, rfl, ht1, hb1⟩
  rw [HLL.out] at ht1
  go_wp2_with fail
  refine (l01Perms_any n w1 (by omega)).mono ?_
  rintro e w2 ⟨pa, P, pc, pvs, rfl, hp2, hb2⟩
  obtain ⟨w3, hw3⟩ : ∃ w3, w2.alloc (.cells #[] 67) = w3 := ⟨_, rfl⟩
  have hz3 : w3.heap.size = w2.heap.size + 1 := by rw [← hw3]; simp
  have hB2 : Below w.heap.size w w2 := below_th hb1 hb2
  have hB3 : Below w.heap.size w w3 := by rw [← hw3]; exact below_al hB2 _
  have hQ3 : LstQ w3 (some ⟨w2.heap.size, 0, none⟩) 0 [] [] := by rw [← hw3]; exact LstQ.fresh w2 rfl _
  have HKL := Lib.hid ht1.len
  have ht3 : LstQ w3 a1 K vs1 (L.map prS) := by rw [← hw3]; exact ((ht1.below hb2).lstQ).alloc _
  have hp3 : Tbl w3 pa P (prmL n) := by rw [← hw3]; exact (hp2.alloc _).tbl
  have HPL := Lib.hid hp2.tbl.len
  have hKc : K ≤ 1000000 := by rw [HKL.out]; exact HBD.out
  have hP24 : P ≤ 1000000 := by have := HPL.out; have := HPB.out; omega
  clear ht1 hp2
  go_wp2
  clear hw3
  go_loopw [5, 6] (fun s7 i wr => ∃ (j N c' : Nat) (g : Nat) (vs : List SV), j ≤ K ∧ i = .int .i64 j ∧ s7 = .slice (some ⟨g, 0, none⟩) N c' ∧ N ≤ c' ∧ c' ≤ 9223372036854775807 ∧ LstQ wr (some ⟨g, 0, none⟩) N vs (slrK n L j) ∧ Below w3.heap.size w3 wr) (fun _ i _ => K - (intOf i).toNat)
  case atStart => exact ⟨0, 0, 0, _, [], Nat.zero_le _, rfl, rfl, Nat.le_refl _, by omega, by simpa [slrK] using hQ3, Below.refl _ _⟩
  case round =>
    clear hQ3
    obtain ⟨j, N, c', g, vs, hj, rfl, rfl, hNc, hc9, hQ, hq⟩ := hrel
    have hsh := HSH.out j (by have := HKL.out; omega)
    have hNj : N ≤ j := by have := hQ.len; omega
    have HSA := Lib.hid hsh.2
    clear hsh
    by_cases hlt : j < K
    · have htr := ht3.below hq
      obtain ⟨b1, o1, rfl, hg1, cj⟩ := htr.hd.2 j hlt
      have hv := (htr.el j hlt).1
      obtain ⟨⟨va, vn, vc⟩, HV⟩ : ∃ u, Hid (vs1.getD j svO = u) := ⟨_, rfl⟩
      rw [HV.out] at cj hv
      change wr.cell? _ = some (.slice va vn vc) at cj
      have hmem : L.getD j t2O ∈ L := by
        have := HKL.out
        rw [List.getD_eq_getElem?_getD, List.getElem?_eq_getElem (show j < L.length by omega)]; exact List.getElem_mem _
      have hgd : (L.map prS).getD j [] = prS (L.getD j t2O) := by
        have := HKL.out
        simp [List.getD_eq_getElem?_getD, List.getElem?_map, List.getElem?_eq_getElem (show j < L.length by omega)]
      have hsq := HSQL.out _ hmem
      have hKS := slrK_succ n L (k := j) (by have := HKL.out; omega)
      obtain ⟨s, HT⟩ : ∃ s, Hid (L.getD j t2O = s) := ⟨_, rfl⟩
      rw [hgd, HT.out] at hv
      rw [HT.out] at hsq hKS
      obtain rfl : 2 = vn := by have := hv.len; exact this.symm
      have i1 : (0 : Int) ≤ (j : Int) := by omega
      have i2 : (j : Int) < (K : Int) := by omega
      have HKS := Lib.hid hKS
      have hqw := hB3.trans (hq.mono hB3.size)
      have HLE : Hid (∀ i, i < N → Shp 2 n ((slrK n L j).getD i [])) := Lib.hid fun i hi => by
        have : i < (slrK n L j).length := by have := hQ.len; omega
        rw [List.getD_eq_getElem?_getD, List.getElem?_eq_getElem this, Option.getD_some]
        obtain ⟨s', hs', e⟩ := HSA.out _ (List.getElem_mem this)
        rw [e]
        exact prS_shp ⟨(HSQL.out s' hs').1.1, (HSQL.out s' hs').2.1⟩
      have HS1 : Hid (∀ k, k < 2 → Sq n ((prS s).getD k [])) := Lib.hid fun k hk => by
        match k, hk with
        | 0, _ => exact hsq.1
        | 1, _ => exact hsq.2
      have HSP : Hid (Shp 2 n (prS s)) := Lib.hid (prS_shp ⟨hsq.1.1, hsq.2.1⟩)
      have HPX : Hid (∀ i, i < P → IsP n ((prmL n).getD i [])) := Lib.hid fun i hi => HPI.out i (by have := HPL.out; omega)
      obtain ⟨B, HB⟩ : ∃ B, Hid (onlL n (prmL n) (prS s) = B) := ⟨_, rfl⟩
      have hpl := hp3.below hq
      clear hsq hKS htr hmem hgd
      cases B with
      | true =>
        have HK1 : Hid (slrK n L (j + 1) = insQ (prS s) (slrK n L j)) := Lib.hid (by rw [HKS.out]; unfold slrF; rw [HB.out]; rfl)
        go_wp2_with fail
        refine (l19Own_any n 2 P va pa vc pc (prS s) (prmL n) wr hv hpl h1 (by omega) (by omega) hP24 HS1.out HPX.out).mono ?_
        rintro e w5 ⟨rfl, hb5⟩
        rw [HB.out]
        have cj5 := (hb5.cell (p := ⟨b1, o1 + j, none⟩) hg1).trans cj
        go_wp2_with fail
        refine (l19Sort_any 2 n N c' (some ⟨g, 0, none⟩) va vc vs _ (prS s) w5 (hQ.below hb5) hNc hc9 ⟨_, _, rfl⟩ (hv.below hb5) (by omega) (by omega) HLE.out HSP.out).mono ?_
        rintro e w6 ⟨g6, c6, vs6, rfl, hn6, hc6, hQ6, hb6⟩
        go_wp2
        go_roundw
        case rel => exact ⟨j + 1, N + 1, c6, g6, vs6, by omega, by go_num, rfl, hn6, hc6, by rw [HK1.out]; exact hQ6, below_th (below_th hq hb5) hb6⟩
        case measure => simp [intOf]; omega
      | false =>
        have HK1 : Hid (slrK n L (j + 1) = slrK n L j) := Lib.hid (by rw [HKS.out]; unfold slrF; rw [HB.out]; rfl)
        go_wp2_with fail
        refine (l19Own_any n 2 P va pa vc pc (prS s) (prmL n) wr hv hpl h1 (by omega) (by omega) hP24 HS1.out HPX.out).mono ?_
        rintro e w5 ⟨rfl, hb5⟩
        rw [HB.out]
        go_wp2
        go_roundw
        case rel => exact ⟨j + 1, N, c', g, vs, by omega, by go_num, rfl, hNc, hc9, by rw [HK1.out]; exact hQ.below hb5, below_th hq hb5⟩
        case measure => simp [intOf]; omega
    · obtain ⟨W, rfl⟩ : ∃ W : World, W = wr := ⟨_, rfl⟩
      obtain rfl : K = j := by omega
      have hE : slrK n L K = (slrL n).map prS := by
        unfold slrK; rw [List.take_of_length_le (by have := HKL.out; omega), ← HLL.out]
        exact (slrL_map (solL_lens h1 h3)).1
      have hSM : ∀ s ∈ slrL n, s ∈ L := fun s hs => by
        have := (slrL_map (solL_lens h1 h3)).2.1.mem_iff.1 hs
        rw [← HLL.out]; exact (List.mem_filter.1 this).1
      rw [HR.out] at hE hSM
      rw [hE] at hQ
      have HSM := Lib.hid hSM
      have HRL : Hid (N = R.length) := Lib.hid (by have := hQ.len; rw [List.length_map] at this; exact this)
      have hO0 := OwnSo.fresh W rfl
      obtain ⟨B1, hB1⟩ : ∃ B1, B1 = W.heap.size := ⟨_, rfl⟩
      have hqB : Below B1 W W := Below.refl _ _
      have hO0 : OwnSo (W.alloc (.cells #[] 28)) B1 (some ⟨W.heap.size, 0, none⟩) 0 0 [] [] := hO0.mono (by omega)
      have hqw := hB3.trans (hq.mono hB3.size)
      clear hE ht3 hp3 hSM HSA
      go_wp2
      go_loopw [7, 8] (fun s10 i wr2 => ∃ (k : Nat) (a' : Option Addr) (c2 : Nat) (us2 : List PV), k ≤ N ∧ i = .int .i64 k ∧ s10 = .slice a' k c2 ∧ OwnSo wr2 B1 a' k c2 us2 (R.take k) ∧ Below W.heap.size W wr2) (fun _ i _ => N - (intOf i).toNat)
      case atStart => exact ⟨0, _, 0, [], Nat.zero_le _, rfl, rfl, by simpa using hO0, below_al (Below.refl _ _) _⟩
      case round =>
        clear hO0
        obtain ⟨k, a', c2, us2, hk, rfl, rfl, hO, hq2⟩ := hrel
        obtain ⟨V, rfl⟩ : ∃ V : World, V = wr := ⟨_, rfl⟩
        by_cases hlk : k < N
        · have hQ2 := hQ.below hq2
          obtain ⟨b, off, e1, hbb, gk⟩ := hQ2.hd.2 k hlk
          cases e1
          obtain ⟨hel, _⟩ := hQ2.el k hlk
          obtain ⟨⟨va, vn, vc⟩, HV⟩ : ∃ v, Hid (vs.getD k svO = v) := ⟨_, rfl⟩
          rw [HV.out] at gk hel
          change V.cell? _ = some (.slice va vn vc) at gk
          rw [Nat.zero_add] at gk
          have hk' : k < R.length := by have := HRL.out; omega
          have hgd : (R.map prS).getD k [] = prS (R.getD k t2O) := by
            simp [List.getD_eq_getElem?_getD, List.getElem?_map, List.getElem?_eq_getElem hk']
          have hmem : R.getD k t2O ∈ R := by
            rw [List.getD_eq_getElem?_getD, List.getElem?_eq_getElem hk']; exact List.getElem_mem _
          have hsq := HSQL.out _ (HSM.out _ hmem)
          have htk : R.take (k + 1) = R.take k ++ [R.getD k t2O] := by
            rw [List.take_succ_eq_append_getElem hk']
            simp [List.getD_eq_getElem?_getD, List.getElem?_eq_getElem hk']
          obtain ⟨⟨f, g2⟩, HT⟩ : ∃ s, Hid (R.getD k t2O = s) := ⟨_, rfl⟩
          rw [hgd, HT.out] at hel
          rw [HT.out] at hsq htk
          obtain rfl : 2 = vn := hel.len.symm
          obtain ⟨b3, o3, a3, n3, c3, e3, hb3, g3, t3, l3⟩ := hel.2 0 (show 0 < 2 by omega)
          obtain ⟨b4, o4, a4, n4, c4, e4, hb4, g4, t4, l4⟩ := hel.2 1 (show 1 < 2 by omega)
          have e3' : va = some ⟨b3, o3, none⟩ := e3
          subst e3'
          cases e4
          have t3 : Tbl V a3 n3 f := t3
          have t4 : Tbl V a4 n4 g2 := t4
          have g3 : V.cell? ⟨b3, o3, none⟩ = some (.slice a3 n3 c3) := g3
          have g4 : V.cell? ⟨b3, o3 + 1, none⟩ = some (.slice a4 n4 c4) := g4
          obtain rfl : n = n3 := by have := t3.len; rw [hsq.1.1] at this; exact this.symm
          obtain rfl : n = n4 := by have := t4.len; rw [hsq.2.1] at this; exact this.symm
          have HRW : Hid (∀ x ∈ f, x.length ≤ 1000000) := Lib.hid fun x hx => by
            obtain ⟨q, hq, rfl⟩ := List.getElem_of_mem hx
            have := (hsq.1.2 q (by rw [← hsq.1.1]; exact hq)).1
            rw [List.getD_eq_getElem?_getD, List.getElem?_eq_getElem hq, Option.getD_some] at this
            omega
          have HRW2 : Hid (∀ x ∈ g2, x.length ≤ 1000000) := Lib.hid fun x hx => by
            obtain ⟨q, hq, rfl⟩ := List.getElem_of_mem hx
            have := (hsq.2.2 q (by rw [← hsq.2.1]; exact hq)).1
            rw [List.getD_eq_getElem?_getD, List.getElem?_eq_getElem hq, Option.getD_some] at this
            omega
          have HTK := Lib.hid htk
          have HOU := Lib.hid hO.uHi
          have j1 : (0 : Int) ≤ (k : Int) := by omega
          have j2 : (k : Int) < (N : Int) := by omega
          have hzq := hq2.size
          have hwz := hqw.size
          have hkm : k ≤ 1000000 := by omega
          clear hel hsq hmem hgd htk
          have HL3 := Lib.hid l3
          clear l3 l4
          have HBBK : ∀ w', Below V.heap.size V w' → w'.cell? ⟨g, k, none⟩ = some (.slice (some ⟨b3, o3, none⟩) 2 vc) ∧ w'.cell? ⟨b3, o3, none⟩ = some (.slice a3 n c3) ∧ w'.cell? ⟨b3, o3 + 1, none⟩ = some (.slice a4 n c4) := fun w' hb => ⟨(hb.cell (p := ⟨g, k, none⟩) hbb).trans gk, (hb.cell (p := ⟨b3, o3, none⟩) hb3).trans g3, (hb.cell (p := ⟨b3, o3 + 1, none⟩) hb3).trans g4⟩
          have HCC := Lib.hid HBBK
          clear HBBK
          go_wp2
          go_region_law (first
            | (refine step_appSon rfl rfl hO6 rfl hOS HQ6.out rfl ?_ ?_ ?_; (omega); (omega); intro g' cc w8 hO8 hg8 hat8 hb8)
            | (have hq55 := hq5; go_simp; go_at_call 98; refine (l01Own2_any a4 n c4 g2 _ (t4.below hq5) (by omega) HRW2.out).mono ?_; rintro e w6 ⟨a6, c6, vs6, rfl, ho6, hb6⟩; have hq6 : Below V.heap.size V w6 := below_th hq5 hb6; have hO6 := hO.below hq6; have hz6 := hq6.size; have hz5 := hq5.size; have ho5v : OwnT w5 V.heap.size a5 n c5 vs5 f := ho5; have HHI5 := Lib.hid ho5v.uHi; have hOS : OwnS w6 B1 a5 n c5 vs5 f a6 n c6 vs6 g2 := ⟨(ho5v.below hb6).mono (by omega), ho6.mono (by omega), fun q h1 h2 => by have x1 : w5.heap.size ≤ q := ho6.uLo q h2; have := HHI5.out q h1; omega⟩; have HQ6 : Hid (∀ q, SolS a5 n vs5 a6 n vs6 q → ¬ SSS a' k us2 q) := Lib.hid (fun q h1 h2 => by have x2 := HOU.out q h2; exact h1.elim (fun h1 => by have x1 := ho5v.uLo q h1; omega) (fun h1 => by have x1 : w5.heap.size ≤ q := ho6.uLo q h1; omega)))
            | (go_simp; go_at_call 98; refine (l01Own2_any a3 n c3 f _ (t3.drewN 1) (by omega) HRW.out).mono ?_; rintro e w5 ⟨a5, c5, vs5, rfl, ho5, hb5⟩; have hq5 : Below V.heap.size V w5 := below_th (below_drewN (Below.refl _ _) 1) hb5; obtain ⟨d1, d2, d3⟩ := HCC.out w5 hq5))
          all_goals
            go_wp2
            go_roundw
            case rel => exact ⟨k + 1, _, cc, _, by omega, by go_num, rfl, by rw [HTK.out]; exact hO8, (below_th hq2 hq6).trans (by rw [← hB1]; exact hb8)⟩
            case measure => simp [intOf]; omega
        · obtain rfl : N = k := by omega
          go_wp2
          go_ret
          exact ⟨a', N, c2, us2, rfl, by rw [List.take_of_length_le (by have := HRL.out; omega)] at hO; exact hO.mono (by have := hqw.size; omega), hqw.trans (hq2.mono hqw.size)⟩
end Go.Proofs.YthgafpeblpnolaaGreat
