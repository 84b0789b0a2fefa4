/-
  Walks and plain laws of this seat, some texts in one.
  No condition but bounds on lengths.
-/
import Derived.Test.YtaddclaadbjnlaaGreatPs42
import Derived.Test.YtaddclaadbjnlaaGreatPs37
import Derived.Test.YtaddclaadbjnlaaGreatPs7
import Derived.Test.YtaddclaadbjnlaaGreatPs6
import Derived.Test.YtaddclaadbjnlaaGreatPs33
import Derived.Test.YtaddclaadbjnlaaGreatPs2
import Derived.Test.YtaddclaadbjnlaaGreatPs1
import Derived.Test.YtaddclaadbjnlaaGreatPs31
namespace Go.Proofs.YtaddclaadbjnlaaGreat
set_option maxRecDepth 100000
set_option linter.unusedVariables false
set_option linter.unusedSimpArgs false
open Go.RowKit
def dgT (n i : Nat) : List (List Int) := (digL (prmL n).length n i).map fun d => (prmL n).getD d.toNat []
theorem dgT_len (n i : Nat) : (dgT n i).length = n := by simp [dgT, digL]
theorem dgT_take {n i k : Nat} (hk : k < n) : (dgT n i).take (k + 1) = (dgT n i).take k ++ [(prmL n).getD ((digL (prmL n).length n i).getD k 0).toNat []] := by
  have h1 : k < (dgT n i).length := by rw [dgT_len]; exact hk
  rw [List.take_succ_eq_append_getElem h1]
  congr 1
  have h2 : k < (digL (prmL n).length n i).length := by rw [digL_len]; exact hk
  simp only [dgT, List.getElem_map, List.getD_eq_getElem?_getD, List.getElem?_eq_getElem h2, Option.getD_some]
theorem dgT_get {n i k : Nat} (hk : k < n) : (dgT n i).getD k [] = (prmL n).getD ((digL (prmL n).length n i).getD k 0).toNat [] := by
  have h2 : k < (digL (prmL n).length n i).length := by rw [digL_len]; exact hk
  simp only [dgT, List.getD_eq_getElem?_getD, List.getElem?_map, List.getElem?_eq_getElem h2, Option.map_some, Option.getD_some]
theorem allT_get {n i : Nat} (h1 : 1 ≤ n) (h3 : n ≤ 3) (hi : i < (allT (prmL n) n []).length) : (allT (prmL n) n []).getD i [] = dgT n i := by
  have e := allT_dig ⟨n, by omega⟩ h1
  simp only at e
  have hl := (allT_len ⟨n, by omega⟩ h1).1
  simp only at hl
  rw [hl] at hi
  rw [e]
  simp only [List.getD_eq_getElem?_getD, List.getElem?_map, List.getElem?_range hi, Option.map_some, Option.getD_some, dgT]
theorem OwnT.blk1 {w : World} {lo : Nat} {a : Option Addr} {n c : Nat} {vs : List SV} {xss : List (List Int)} (h : OwnT w lo a n c vs xss) : ∀ q, (Value.slice a n c).ownBlock = some q → a = some ⟨q, 0, none⟩ := fun q e => by
  rcases h.block with ⟨r1, _⟩ | ⟨g2, cur, r1, _⟩
  · subst r1; simp [Value.ownBlock] at e
  · subst r1; simp [Value.ownBlock] at e; subst e; rfl
theorem Hd.blk1 {w : World} {lo : Nat} {a : Option Addr} {n c : Nat} {vs : List SV} (h : Hd w lo a n c vs) : ∀ q, (Value.slice a n c).ownBlock = some q → a = some ⟨q, 0, none⟩ := fun q e => by
  rcases h.block with ⟨r1, _⟩ | ⟨g2, cur, r1, _⟩
  · subst r1; simp [Value.ownBlock] at e
  · subst r1; simp [Value.ownBlock] at e; subst e; rfl
set_option maxHeartbeats 16000000 in
theorem l19Solutions_any (n : Nat) (w : World) (h1 : 1 ≤ n) (h3 : n ≤ 3) :
    Calls Tryz.prog 112 #[.int .i64 n] w fun e w' => ∃ a k c vs uss, e = .returned (.slice a k c) ∧ LsT w' w.heap.size a k c vs uss (solL n) ∧ Below w.heap.size w w' := by
  have hal := allT_len ⟨n, by omega⟩ h1
  simp only at hal
  have hag := fun i (hi : i < (allT (prmL n) n []).length) => allT_get h1 h3 hi
  have hrw : ∀ i, i < (allT (prmL n) n []).length → RwsP n ((allT (prmL n) n []).getD i []) := fun i hi => by
    rw [← rowL_any h1] at hi ⊢
    exact rowL_rwsP h1 (by omega) hi
  obtain ⟨L, HL⟩ : ∃ L, Hid (allT (prmL n) n [] = L) := ⟨_, rfl⟩
  rw [HL.out] at hal hag hrw
  have HSL : Hid (solL n = solK n L L.length 0) := Lib.hid (by rw [solK_all]; unfold solL; rw [HL.out])
  rw [HSL.out]
  obtain ⟨P, HPE⟩ : ∃ P, Hid ((prmL n).length = P) := ⟨_, rfl⟩
  rw [HPE.out] at hal
  obtain ⟨N, HN⟩ : ∃ N, Hid (P ^ n = N) := ⟨_, rfl⟩
  rw [HN.out] at hal
  have HLN := Lib.hid hal.1
  have hN6 : N ≤ 216 := hal.2.1
  have hP1 : 1 ≤ P := hal.2.2.1
  have hP6 : P ≤ 6 := hal.2.2.2
  have HAG := Lib.hid hag
  have HRP := Lib.hid hrw
  have HY := Lib.hid (fun i j hj => solK_yes (n := n) (L := L) (i := i) (j := j) hj)
  have HNO := Lib.hid (fun i j hj => solK_no (n := n) (L := L) (i := i) (j := j) hj)
  have HNX := Lib.hid (fun i hi => solK_next (n := n) (L := L) (i := i) hi)
  have HKL := Lib.hid (fun i j => Nat.le_trans (solK_len n L i j) (show L.length * L.length + L.length ≤ 1000000 by
    have := Nat.mul_le_mul (show L.length ≤ 216 by omega) (show L.length ≤ 216 by omega); omega))
  have HPW : Hid (∀ k, k ≤ n → P ^ k ≤ 216) := Lib.hid fun k hk => by
    have := Nat.pow_le_pow_right hP1 hk
    have := HN.out
    omega
  have HPP := Lib.hid (prm_isP h1 (show n ≤ 4 by omega))
  have HTK := Lib.hid (fun i k hk => dgT_take (n := n) (i := i) (k := k) hk)
  clear hal hag hrw
  go_enter Tryz.func112, Tryz.ntmps112
  go_wp2_with fail
  refine (l01Perms_any n w (by omega)).mono ?_
  rintro e w1 ⟨pa, P', pc, pvs, rfl, hp1, hb1⟩
  obtain rfl : P = P' := by have := hp1.tbl.len; rw [HPE.out] at this; exact this.symm
  have tp1 := hp1.tbl
  have hz1 := hb1.size
  have hO1 := LsT.fresh w1 rfl
  obtain ⟨w2, hw2⟩ : ∃ w2, w1.alloc (.cells #[] 70) = w2 := ⟨_, rfl⟩
  rw [hw2] at hO1
  have hb2 : Below w1.heap.size w1 w2 := by rw [← hw2]; exact below_al (Below.refl _ _) _
  go_wp2
  clear hw2
  go_loopw [6, 7] (fun al i wr => ∃ k : Nat, k ≤ n ∧ i = .int .i64 k ∧ al = .int .i64 ((P ^ k : Nat) : Int) ∧ wr = w2) (fun _ i _ => n - (intOf i).toNat)
  case atStart => exact ⟨0, Nat.zero_le _, rfl, by simp, rfl⟩
  case round =>
    obtain ⟨k, hk, rfl, rfl, rfl⟩ := hrel
    by_cases hlt : k < n
    · have hpw := HPW.out k (by omega)
      obtain ⟨A, HA⟩ : ∃ A : Nat, Hid (P ^ k = A) := ⟨_, rfl⟩
      rw [HA.out] at hpw
      rw [HA.out]
      have hmul : A * P ≤ 216 * 6 := Nat.mul_le_mul hpw hP6
      have hmi : (A : Int) * (P : Int) = ((A * P : Nat) : Int) := by rw [Int.natCast_mul]
      have hw64 : IntKind.i64.wrap ((A : Int) * (P : Int)) = ((A * P : Nat) : Int) := (IntWalk.i64_in _ (by rw [hmi]; omega)).trans hmi
      clear hmi
      go_wp2
      go_roundw
      case rel => exact ⟨k + 1, by omega, by go_num, by rw [Nat.pow_succ, HA.out, Int.natCast_mul], by first | rfl | trivial⟩
      case measure => simp [intOf]; omega
    · obtain rfl : n = k := by omega
      rw [HN.out]
      go_wp2
      go_loopw [4, 8, 9, 10, 11, 12, 13, 14] (fun s4 i _ _ _ _ _ _ wr => ∃ (j : Nat) (a' : Option Addr) (m c' : Nat) (vs' : List SV) (uss' : List (List TV)), j ≤ N ∧ i = .int .i64 j ∧ s4 = .slice a' m c' ∧ LsT wr w1.heap.size a' m c' vs' uss' (solK n L j 0) ∧ Below w1.heap.size w1 wr) (fun _ i _ _ _ _ _ _ _ => N - (intOf i).toNat)
      case atStart => exact ⟨0, _, 0, 0, [], [], Nat.zero_le _, rfl, rfl, by rw [solK_zero]; exact hO1, hb2⟩
      case round =>
        clear hO1 hb2
        obtain ⟨j, a', m, c', vs', uss', hj, rfl, rfl, hO, hq⟩ := hrel
        obtain ⟨W, rfl⟩ : ∃ W : World, W = wr := ⟨_, rfl⟩
        by_cases hlt : j < N
        · have tpW := tp1.below hq
          have hqz := hq.size
          obtain ⟨f, HF⟩ : ∃ f, Hid (dgT n j = f) := ⟨_, rfl⟩
          have hfj : L.getD j [] = f := by rw [HAG.out j (by have := HLN.out; omega), HF.out]
          have hrp := HRP.out j (by have := HLN.out; omega)
          rw [hfj] at hrp
          have HSF := Lib.hid hrp.sq
          have HFJ := Lib.hid hfj
          have HKF := Lib.hid (fun k hk => HTK.out j k hk)
          rw [HF.out, HPE.out] at HKF
          have HFR := Lib.hid hrp
          clear hfj hrp
          obtain ⟨W1, hW1⟩ : ∃ W1, W.alloc (.cells #[] 41) = W1 := ⟨_, rfl⟩
          have hF1 : OwnT W1 W.heap.size (some ⟨W.heap.size, 0, none⟩) 0 0 [] [] := by rw [← hW1]; exact OwnT.fresh W rfl
          have hbW1 : Below W.heap.size W W1 := by rw [← hW1]; exact below_al (Below.refl _ _) _
          go_wp2_with fail
          refine (l06Digits_any P n j W1 hP1 (by omega) (by omega) (by omega)).mono ?_
          rintro e W2 ⟨ad, cd, rfl, hd2, hbd2⟩
          have HDL := Lib.hid (digL_less P n j hP1)
          have HDN := Lib.hid (digL_len P n j)
          have hzW1 : W1.heap.size = W.heap.size + 1 := by rw [← hW1]; simp
          have hap2 : ∀ g, (some ⟨W.heap.size, 0, none⟩ : Option Addr) = some ⟨g, 0, none⟩ → ad ≠ some ⟨g, 0, none⟩ := fun g e h => by cases e; have := hd2.lo _ h; omega
          have hF2 := hF1.below hbd2
          have hbW2 := below_th hbW1 hbd2
          go_wp2
          clear hF1 hW1 hbW1 hbd2
          go_loopw [9, 11] (fun z i wr2 => ∃ (k : Nat) (az : Option Addr) (cz : Nat) (vz : List SV), k ≤ n ∧ i = .int .i64 k ∧ z = .slice az k cz ∧ OwnT wr2 W.heap.size az k cz vz (f.take k) ∧ Below W.heap.size W wr2 ∧ Own wr2 W1.heap.size ad n cd (digL P n j) ∧ Hid (∀ g, az = some ⟨g, 0, none⟩ → ad ≠ some ⟨g, 0, none⟩)) (fun _ i _ => n - (intOf i).toNat)
          case atStart => exact ⟨0, _, 0, _, Nat.zero_le _, rfl, rfl, by simpa using hF2, hbW2, hd2, Lib.hid hap2⟩
          case round =>
            clear hF2 hbW2 hd2 hap2
            obtain ⟨k, az, cz, vz, hk, rfl, rfl, ho, hb, hd, HAD⟩ := hrel
            have td := hd.row
            by_cases hlk : k < n
            · obtain ⟨bd, od, rfl, gd⟩ := td.at k hlk
              obtain ⟨d, hdd, ed⟩ := HDL.out k (by rw [HDN.out]; exact hlk)
              rw [ed] at gd
              have hdP : d < P := hdd
              obtain ⟨bp, op, ap, np, cp, rfl, gp, rp, lp⟩ := ((tpW.below hb).at d hdP)
              obtain ⟨p, HPX⟩ : ∃ p, Hid ((prmL n).getD d [] = p) := ⟨_, rfl⟩
              rw [HPX.out] at rp
              have hip := HPP.out d (by rw [HPE.out]; exact hdP)
              rw [HPX.out] at hip
              obtain rfl : n = np := by have := rp.len; rw [hip.len] at this; exact this.symm
              have HT : Hid (f.take (k + 1) = f.take k ++ [p]) := Lib.hid (by rw [HKF.out k hlk, ed, Int.toNat_natCast, HPX.out])
              have i1 : (0 : Int) ≤ (k : Int) := by omega
              have i2 : (k : Int) < (n : Int) := by omega
              have i3 : (0 : Int) ≤ (d : Int) := by omega
              have i4 : (d : Int) < (P : Int) := by omega
              clear hip
              go_wp2_with fail
              refine (l01Own_any _ _ _ p _ rp (by omega)).mono ?_
              rintro e W4 ⟨a4, c4, rfl, ho4, hb4⟩
              have hbb := hb.size
              have hz4 := ho.below hb4
              have hq4 := below_th hb hb4
              have hs4 := hb4.size
              have hd4 := hd.below hb4
              go_wp2_with (at_builtin; refine appT1g rfl rfl hz4 rfl (ho4.mono hbb) (fun g h1 h2 => by have h3 := ho.high _ h1; have h4 := ho4.lo _ h2; omega) (fun i hi g h1 h2 => by have h3 := ho4.lo _ h1; have h4 := (ho.row i hi).hi _ h2; omega) rfl (by omega) (by omega) ?_; intro g' cc W5 hO5 hg5 hat5 hb5)
              go_roundw
              case rel =>
                refine ⟨k + 1, _, _, _, by omega, by go_num, rfl, by rw [HT.out]; exact hO5, hq4.trans hb5, hd4.grown hg5 (fun g hg e => HAD.out g (hz4.blk1 g e.symm) hg), Lib.hid fun g e h => ?_⟩
                cases e
                rcases hat5 with h2 | h2
                · exact HAD.out _ (hz4.blk1 _ h2) h
                · have := hd4.hi _ h; omega
              case measure => simp [intOf]; omega
            · obtain rfl : n = k := by omega
              have hft : f.take n = f := List.take_of_length_le (by rw [← HF.out, dgT_len]; exact Nat.le_refl _)
              rw [hft] at ho
              clear hft
              obtain ⟨V, rfl⟩ : ∃ V : World, V = wr := ⟨_, rfl⟩
              have hbz := hb.size
              have hOV := hO.below hb
              have hqV := below_th hq hb
              have HHI := Lib.hid hO.hd.hi
              clear HAD hd td HDL HDN
              go_wp2
              go_loopw [4, 10, 12, 13, 14] (fun s4 _ i _ _ wr2 => ∃ (kk : Nat) (a'' : Option Addr) (m' c'' : Nat) (vs'' : List SV) (uss'' : List (List TV)), kk ≤ N ∧ i = .int .i64 kk ∧ s4 = .slice a'' m' c'' ∧ LsT wr2 w1.heap.size a'' m' c'' vs'' uss'' (solK n L j kk) ∧ Below w1.heap.size w1 wr2 ∧ Marked (fun g => g < W.heap.size) V wr2 ∧ Hid (∀ g, a'' = some ⟨g, 0, none⟩ → g < W.heap.size ∨ V.heap.size ≤ g)) (fun _ _ i _ _ _ => N - (intOf i).toNat)
              case atStart => exact ⟨0, a', m, c', vs', uss', Nat.zero_le _, rfl, rfl, hOV, hqV, Marked.refl _ _, Lib.hid fun g hg => .inl (HHI.out g hg)⟩
              case round =>
                clear hOV hqV
                obtain ⟨kk, a'', m', c'', vs'', uss'', hkk, rfl, rfl, hOk, hqk, hM, HAP⟩ := hrel
                obtain ⟨U, rfl⟩ : ∃ U : World, U = wr := ⟨_, rfl⟩
                by_cases hlkk : kk < N
                · have hqkz := hqk.size
                  have hMz := hM.size
                  have hoU := ho.uKeep hM (fun g hg => by have := ho.uLo g hg; omega)
                  have tpU := tp1.below hqk
                  obtain ⟨r, HR⟩ : ∃ r, Hid (dgT n kk = r) := ⟨_, rfl⟩
                  have hrk : L.getD kk [] = r := by rw [HAG.out kk (by have := HLN.out; omega), HR.out]
                  have hrp := HRP.out kk (by have := HLN.out; omega)
                  rw [hrk] at hrp
                  have HSR := Lib.hid hrp.sq
                  have HKR := Lib.hid (fun k (hk : k < n) => dgT_get (n := n) (i := kk) (k := k) hk)
                  rw [HR.out, HPE.out] at HKR
                  have HRK := Lib.hid hrk
                  clear hrk hrp
                  obtain ⟨U1, hU1⟩ : ∃ U1, U.alloc (.cells #[] 41) = U1 := ⟨_, rfl⟩
                  have hC1 : Hd U1 U.heap.size (some ⟨U.heap.size, 0, none⟩) 0 0 [] := by rw [← hU1]; exact Hd.fresh U rfl
                  have hbU1 : Below U.heap.size U U1 := by rw [← hU1]; exact below_al (Below.refl _ _) _
                  have hzU1 : U1.heap.size = U.heap.size + 1 := by rw [← hU1]; simp
                  go_wp2_with fail
                  refine (l06Digits_any P n kk U1 hP1 (by omega) (by omega) (by omega)).mono ?_
                  rintro e U2 ⟨ae, ce, rfl, hd2, hbd2⟩
                  have HDL := Lib.hid (digL_less P n kk hP1)
                  have HDN := Lib.hid (digL_len P n kk)
                  have hap2 : ∀ g, (some ⟨U.heap.size, 0, none⟩ : Option Addr) = some ⟨g, 0, none⟩ → ae ≠ some ⟨g, 0, none⟩ := fun g e h => by cases e; have := hd2.lo _ h; omega
                  have hC2 := hC1.below hbd2
                  have hbU2 := below_th hbU1 hbd2
                  clear hU1 hbU1 hbd2 hC1
                  go_wp2
                  go_loopw [13, 14] (fun z i wr3 => ∃ (y : Nat) (ac : Option Addr) (cc : Nat) (vc : List SV), y ≤ n ∧ i = .int .i64 y ∧ z = .slice ac y cc ∧ Hd wr3 U.heap.size ac y cc vc ∧ Below U.heap.size U wr3 ∧ Own wr3 U1.heap.size ae n ce (digL P n kk) ∧ Hid (∀ g, ac = some ⟨g, 0, none⟩ → ae ≠ some ⟨g, 0, none⟩) ∧ Hid (∀ i, i < y → Row w1 (vc.getD i svO).1 (vc.getD i svO).2.1 (r.getD i []) ∧ (vc.getD i svO).2.1 ≤ 9223372036854775807)) (fun _ i _ => n - (intOf i).toNat)
                  case atStart => exact ⟨0, _, 0, [], Nat.zero_le _, rfl, rfl, hC2, hbU2, hd2, Lib.hid hap2, Lib.hid fun i hi => absurd hi (by omega)⟩
                  case round =>
                    clear hC2 hbU2 hd2 hap2
                    obtain ⟨y, ac, cc, vc, hy, rfl, rfl, hC, hbU, hd, HAD, HRW⟩ := hrel
                    by_cases hly : y < n
                    · obtain ⟨bd, od, rfl, gd⟩ := hd.row.at y hly
                      obtain ⟨d, hdd, ed⟩ := HDL.out y (by rw [HDN.out]; exact hly)
                      rw [ed] at gd
                      have hdP : d < P := hdd
                      obtain ⟨bp, op, ap, np, cp, rfl, gl1, gp1, rp, lp⟩ := tp1.2 d hdP
                      have gp := (hqk.cell (p := ⟨bp, op + d, none⟩) gl1).trans gp1
                      replace gp := (hbU.cell (p := ⟨bp, op + d, none⟩) (Nat.lt_of_lt_of_le gl1 hqkz)).trans gp
                      have hrr : r.getD y [] = (prmL n).getD d [] := by
                        rw [HKR.out y hly, ed, Int.toNat_natCast]
                      have hyv := hC.1
                      have i1 : (0 : Int) ≤ (y : Int) := by omega
                      have i2 : (y : Int) < (n : Int) := by omega
                      have i3 : (0 : Int) ≤ (d : Int) := by omega
                      have i4 : (d : Int) < (P : Int) := by omega
                      have hbz3 := hbU.size
                      have HRR := Lib.hid hrr
                      clear hrr gp1
                      go_wp2_with (at_builtin; refine appH1 rfl rfl hC rfl rfl (by omega) (by omega) ?_; intro g' c5 X5 hH5 hg5 hat5 hb5)
                      go_roundw
                      case rel =>
                        refine ⟨y + 1, _, _, _, by omega, by go_num, rfl, hH5, hbU.trans hb5, hd.grown hg5 (fun g hg e => HAD.out g (hC.blk1 g e.symm) hg), Lib.hid fun g e h => ?_, Lib.hid fun i hi => ?_⟩
                        · cases e
                          rcases hat5 with h2 | h2
                          · exact HAD.out _ (hC.blk1 _ h2) h
                          · have := hd.hi _ h; omega
                        · by_cases e : i < y
                          · rw [show (vc ++ [(ap, np, cp)]).getD i svO = vc.getD i svO by simp [List.getD_eq_getElem?_getD, List.getElem?_append_left (show i < vc.length by omega)]]
                            exact HRW.out i e
                          · obtain rfl : i = y := by omega
                            rw [show (vc ++ [(ap, np, cp)]).getD i svO = (ap, np, cp) by rw [← hyv]; simp [List.getD_eq_getElem?_getD], HRR.out]
                            exact ⟨rp, lp⟩
                      case measure => simp [intOf]; omega
                    · obtain rfl : n = y := by omega
                      have hU1w : Below w1.heap.size w1 wr := below_th hqk hbU
                      have HRL : Hid (n = r.length) := Lib.hid (by rw [← HR.out, dgT_len])
                      have tR : Tbl wr ac n r := hC.read.tbl HRL.out fun i hi => ⟨(HRW.out i hi).1.below hU1w, (HRW.out i hi).2⟩
                      have hoX := hoU.below hbU
                      have hOX := hOk.below hbU
                      have HUK := Lib.hid hOk.hd.hi
                      obtain ⟨X, rfl⟩ : ∃ X : World, X = wr := ⟨_, rfl⟩
                      have hm6 : m' ≤ 1000000 := by have := hOk.len; have := HKL.out j kk; omega
                      have hno : ∀ w', Below U.heap.size U w' → solF n f r = false → ∃ (k_1 : Nat) (a_1 : Option Addr) (m_1 c_1 : Nat) (vs_1 : List SV) (us_1 : List (List TV)), k_1 ≤ N ∧ Value.int .i64 ((kk + 1 : Nat) : Int) = .int .i64 k_1 ∧ Value.slice a'' m' c'' = .slice a_1 m_1 c_1 ∧ LsT w' w1.heap.size a_1 m_1 c_1 vs_1 us_1 (solK n L j k_1) ∧ Below w1.heap.size w1 w' ∧ Marked (fun g => g < W.heap.size) V w' ∧ Hid (∀ g, a_1 = some ⟨g, 0, none⟩ → g < W.heap.size ∨ V.heap.size ≤ g) := fun w' hb hs =>
                        ⟨kk + 1, a'', m', c'', vs'', uss'', by omega, rfl, rfl, by rw [HNO.out j kk (by have := HLN.out; omega) (by rw [HFJ.out, HRK.out]; exact hs)]; exact hOk.below hb, below_th hqk hb, hM.then (Marked.ofB (S := fun _ => False) hb) (fun g hg => hg.elim), HAP⟩
                      have HNN := Lib.hid hno
                      obtain ⟨B, HB⟩ : ∃ B, Hid (solF n f r = B) := ⟨_, rfl⟩
                      clear hno
                      go_wp2_with fail
                      refine (l19Braids_any n az ac cz cc f r X hoX.tbl tR HSF.out HSR.out h1 (by omega)).mono ?_
                      rintro e X1 ⟨rfl, hx1⟩
                      rw [HB.out]
                      have hbU1 := below_th hbU hx1
                      cases B with
                      | false =>
                        go_wp2
                        go_roundw
                        case rel => exact HNN.out _ hbU1 HB.out
                        case measure => simp [intOf]; omega
                      | true =>
                        have HYY : Hid (solK n L j (kk + 1) = solK n L j kk ++ [(f, trnL n r)]) := Lib.hid (by rw [HY.out j kk (by have := HLN.out; omega) (by rw [HFJ.out, HRK.out]; exact HB.out), HFJ.out, HRK.out])
                        have HFX : Hid (∀ x ∈ f, x.length ≤ 1000000) := Lib.hid fun x hx => by
                          obtain ⟨q, hq, rfl⟩ := List.getElem_of_mem hx
                          have := HSF.out.row (x := q) (by rw [← HSF.out.1]; exact hq)
                          rw [List.getD_eq_getElem?_getD, List.getElem?_eq_getElem hq, Option.getD_some] at this
                          omega
                        go_wp2_with fail
                        refine (l01Own2_any _ _ _ f X1 (hoX.tbl.below hx1) (by omega) HFX.out).mono ?_
                        rintro e X2 ⟨a5, c5, vs5, rfl, ho5, hx2⟩
                        go_wp2_with fail
                        refine (l01Turn_any n ac cc r X2 ((tR.below hx1).below hx2) HSR.out h1 (by omega)).mono ?_
                        rintro e X3 ⟨a6, c6, vs6, rfl, ho6, hx3⟩
                        have hH5 := Lib.hid ho5.uHi
                        have hEl := LEl.lit (w := X3) rfl ((ho5.below hx3).mono (Nat.zero_le _)) (ho6.mono (Nat.zero_le _)) (fun g h1 h2 => by have x1 := hH5.out g h1; have x2 := ho6.uLo g h2; omega)
                        obtain ⟨X4, hX4⟩ : ∃ X4, X3.alloc (.cells #[.slice a5 n c5, .slice a6 n c6] 32) = X4 := ⟨_, rfl⟩
                        rw [hX4] at hEl
                        have hx4 : Below X1.heap.size X1 X4 := by rw [← hX4]; exact below_al (below_th hx2 hx3) _
                        have hbU4 := below_th hbU1 hx4
                        have hz4 := hx4.size
                        have hzb := hbU1.size
                        have hO4 := hOk.below hbU4
                        have hz23 := hx2.size
                        have hz34 := hx3.size
                        have hX34 : X3.heap.size < X4.heap.size := by rw [← hX4]; simp
                        have HNE : Hid (∀ q, a'' = some ⟨q, 0, none⟩ → ¬ TTS (some ⟨X3.heap.size, 0, none⟩) 2 [((a5, n, c5), vs5), ((a6, n, c6), vs6)] q) := Lib.hid fun q hq h => by
                          have x1 := HUK.out q hq
                          rcases h with h | ⟨i, hi, h⟩
                          · cases h; omega
                          · match i, hi with
                            | 0, _ => have := ho5.uLo q h; omega
                            | 1, _ => have := ho6.uLo q h; omega
                        go_wp2_with (at_builtin; refine appQ1 rfl rfl hO4.hd rfl rfl (by omega) (by omega) ?_; intro g' c8 X8 hH8 hg8 hat8 hb8)
                        go_roundw
                        case rel =>
                          have hM4 : Marked (fun g => g < W.heap.size) V X4 := hM.then (Marked.ofB (S := fun _ => False) hbU4) (fun g hg => hg.elim)
                          have hM8 : Marked (fun g => a'' = some ⟨g, 0, none⟩) X4 X8 := ⟨hg8.os, hg8.tape, hg8.output, hg8.size, fun q hq hs => hg8.block q hq (fun e => hs (hO4.blk q e.symm))⟩
                          refine ⟨kk + 1, _, _, _, _, _, by omega, by go_num, rfl, by rw [HYY.out]; exact hO4.snoc hEl HNE.out hH8 hg8 hat8, (below_th hqk hbU4).trans hb8, hM4.then hM8 (fun g hg => HAP.out g hg), Lib.hid fun q hq => ?_⟩
                          cases hq
                          rcases hat8 with h2 | h2
                          · exact HAP.out _ (hO4.blk _ h2)
                          · have := hM4.size; omega
                        case measure => simp [intOf]; omega
                · obtain rfl : N = kk := by omega
                  go_wp2
                  go_roundw
                  case rel => exact ⟨j + 1, a'', m', c'', vs'', uss'', by omega, by go_num, rfl, by rw [← HNX.out j (by have := HLN.out; omega), HLN.out]; exact hOk, hqk⟩
                  case measure => simp [intOf]; omega
        · obtain rfl : N = j := by omega
          go_wp2
          go_ret
          exact ⟨a', m, c', vs', uss', rfl, by rw [HLN.out]; exact hO.mono hz1, hb1.trans (hq.mono hz1)⟩
def slsF (x : Int) : Int × Int := if 1 ≤ x ∧ x ≤ 3 then (((solL x.toNat).length : Int), 0) else (0, 2)
theorem slsL_bd {n : Nat} (h1 : 1 ≤ n) (h3 : n ≤ 3) : (solL n).length ≤ 1000000 := by
  have h := solL_len n
  have hl := allT_len ⟨n, by omega⟩ h1
  simp only at hl
  have := Nat.mul_le_mul (show (allT (prmL n) n []).length ≤ 216 by omega) (show (allT (prmL n) n []).length ≤ 216 by omega)
  omega
set_option maxHeartbeats 4000000 in
theorem impl_Sls_l (x : Int) (w : World) (hx : I64 x) :
    Calls Tryz.prog 24 #[.int .i64 x] w (RetI w (slsF x).1 (slsF x).2) := by
  have hin := fun w => within_any x 1 3 w
  by_cases h : 1 ≤ x ∧ x ≤ 3
  · obtain ⟨n, rfl⟩ : ∃ n : Nat, x = n := ⟨x.toNat, by omega⟩
    obtain ⟨K, HK⟩ : ∃ K : Nat, Hid ((solL n).length = K) := ⟨_, rfl⟩
    have hq : slsF n = ((K : Int), 0) := by unfold slsF; rw [if_pos h, Int.toNat_natCast, HK.out]
    rw [hq]
    clear hq
    have hd : (decide ((1 : Int) ≤ n) && decide ((n : Int) ≤ 3)) = true := by simp; omega
    rw [hd] at hin
    have HIN := Lib.hid hin
    clear hin hd
    have h1 : 1 ≤ n := by omega
    have h4 : n ≤ 3 := by omega
    clear h
    go_enter Tryz.func24, Tryz.ntmps24
    go_wp2_with fail
    refine (HIN.out _).mono ?_
    rintro e w1 ⟨rfl, rfl⟩
    go_wp2_with fail
    refine (solutionTables_any n _ h1 h4).mono ?_
    rintro e w2 ⟨a, k, c, us, rfl, ht, hb⟩
    obtain rfl : K = k := by rw [← HK.out]; exact ht.len.symm
    go_wp2
    go_ret2
    exact ⟨rfl, hb⟩
  · have hq : slsF x = (0, 2) := by unfold slsF; rw [if_neg h]
    rw [hq]
    clear hq
    have hd : (decide ((1 : Int) ≤ x) && decide (x ≤ 3)) = false := by simp; omega
    rw [hd] at hin
    have HIN := Lib.hid hin
    clear hin hd
    go_enter Tryz.func24, Tryz.ntmps24
    go_wp2_with fail
    refine (HIN.out _).mono ?_
    rintro e w1 ⟨rfl, rfl⟩
    go_wp2
    go_ret2
    exact ⟨rfl, Below.refl _ _⟩
end Go.Proofs.YtaddclaadbjnlaaGreat
