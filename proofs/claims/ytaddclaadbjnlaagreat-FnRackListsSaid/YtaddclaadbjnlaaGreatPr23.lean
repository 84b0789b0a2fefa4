/-
  Walks and plain laws of this seat, some texts in one.
  No condition but bounds on lengths.
-/
import Derived.Test.YtaddclaadbjnlaaGreatPr14
import Derived.Test.YtaddclaadbjnlaaGreatPr8
import Derived.Test.YtaddclaadbjnlaaGreatPr4
import Derived.Test.YtaddclaadbjnlaaGreatPr2
import Derived.Test.YtaddclaadbjnlaaGreatPr7
import Derived.Test.YtaddclaadbjnlaaGreatPr3
import Derived.Test.YtaddclaadbjnlaaGreatPr12
namespace Go.Proofs.YtaddclaadbjnlaaGreat
set_option maxRecDepth 100000
set_option linter.unusedVariables false
set_option linter.unusedSimpArgs false
open Go.RowKit
def leaF (n : Nat) (us best : List (List (List Int))) (p : List Int) : List (List (List Int)) := if befS (imgL n p us) best then imgL n p us else best
def leaK (n : Nat) (us : List (List (List Int))) (k : Nat) : List (List (List Int)) := ((prmL n).take k).foldl (leaF n us) us
def leaS (n : Nat) (us : List (List (List Int))) : List (List (List Int)) := (prmL n).foldl (leaF n us) us
theorem leaK_succ (n : Nat) (us : List (List (List Int))) {k : Nat} (h : k < (prmL n).length) : leaK n us (k + 1) = leaF n us (leaK n us k) ((prmL n).getD k []) := by
  unfold leaK
  rw [List.take_succ_eq_append_getElem h, List.foldl_append]
  simp [List.getD_eq_getElem?_getD, List.getElem?_eq_getElem h]
theorem leaK_all (n : Nat) (us : List (List (List Int))) {k : Nat} (h : (prmL n).length ≤ k) : leaK n us k = leaS n us := by
  unfold leaK leaS; rw [List.take_of_length_le h]
def ShQ (m n : Nat) (A : List (List (List Int))) : Prop := ∀ k, k < m → (A.getD k []).length = n ∧ ∀ y ∈ A.getD k [], y.length = n
theorem ShQ.of {m n : Nat} {A : List (List (List Int))} (h : ∀ k, k < m → Sq n (A.getD k [])) : ShQ m n A := fun k hk => ⟨(h k hk).1, fun y hy => by
  obtain ⟨i, hi, rfl⟩ := List.getElem_of_mem hy
  have := ((h k hk).2 i (by rw [(h k hk).1] at hi; exact hi)).1
  rwa [List.getD_eq_getElem?_getD (l := A.getD k []), List.getElem?_eq_getElem hi] at this⟩
theorem ShQ.img {m n : Nat} {us : List (List (List Int))} (h : m = us.length) (p : List Int) : ShQ m n (imgL n p us) := fun k hk => by
  have e : (imgL n p us).getD k [] = rnL n (us.getD k []) p := by
    unfold imgL
    simp [List.getD_eq_getElem?_getD, List.getElem?_eq_getElem (show k < us.length by omega)]
  rw [e]
  refine ⟨rnL_len _ _ _, fun y hy => ?_⟩
  unfold rnL tabF at hy
  obtain ⟨x, _, rfl⟩ := List.mem_map.1 hy
  simp
set_option maxHeartbeats 8000000 in
theorem l03Least_any (n m : Nat) (a1 : Option Addr) (c1 : Nat) (us : List (List (List Int))) (w : World) (h1 : TbS w a1 m us) (hn0 : 1 ≤ n) (hn : n ≤ 4) (hm0 : 0 < m) (hm : m ≤ 1000000) (hs : ∀ k, k < m → Sq n (us.getD k [])) :
    Calls Tryz.prog 59 #[.slice a1 m c1, .bool false] w fun e w' => ∃ a c vs, e = .returned (.slice a m c) ∧ OwnTT w' w.heap.size a m c vs (leaS n us) ∧ Below w.heap.size w w' := by
  have HL1 := Lib.hid h1.len; have HS := Lib.hid hs
  obtain ⟨A, HA⟩ : ∃ A, Hid (leaS n us = A) := ⟨_, rfl⟩
  rw [HA.out]
  obtain ⟨b0, o0, at0, nt0, ct0, e0, g0, t0, l0⟩ := h1.at 0 hm0
  obtain rfl : n = nt0 := by have := t0.len; rw [(hs 0 hm0).1] at this; exact this.symm
  subst e0
  have hm00 : (0 : Int) < (m : Int) := by omega
  rw [Nat.add_zero] at g0
  clear hs t0
  go_enter Tryz.func59, Tryz.ntmps59
  go_wp2_with fail
  refine (l01Perms_any n _ (by omega)).mono ?_
  rintro e w0 ⟨ap, P, cp, vp, rfl, hp0, hbp⟩
  have h10 := h1.below hbp
  have h20 := hp0.tbl
  have HPS : Hid (∀ i, i < P → IsP n ((prmL n).getD i [])) := Lib.hid fun i hi => prm_isP hn0 hn i (by have := h20.len; omega)
  have HP2 := Lib.hid h20.len
  have hPb : P ≤ 1000000 := by have := h20.len; have := prm_bd hn0 hn; omega
  have HZ := Lib.hid hbp.size
  clear hp0 h1 g0
  go_wp2
  go_loopw [6, 7, 8, 9] (fun vb i _ _ wr => ∃ (x : Nat) (ab : Option Addr) (cb : Nat), x ≤ P ∧ i = .int .i64 x ∧ vb = .slice ab m cb ∧ TbS wr ab m (leaK n us x) ∧ Below w.heap.size w wr ∧ Below w0.heap.size w0 wr ∧ Hid (ShQ m n (leaK n us x))) (fun _ i _ _ _ => P - (intOf i).toNat)
  case atStart => exact ⟨0, _, _, Nat.zero_le _, rfl, rfl, by simpa [leaK] using h10, hbp, Below.refl _ _, Lib.hid (by simpa [leaK] using ShQ.of HS.out)⟩
  case round =>
    obtain ⟨x, ab, cb, hx, rfl, rfl, hB, hq0, hq2, HBL⟩ := hrel
    by_cases hlt : x < P
    · have hwq := hq0.size
      have hpx := HPS.out x hlt
      obtain ⟨p, HPP⟩ : ∃ p, Hid ((prmL n).getD x [] = p) := ⟨_, rfl⟩
      rw [HPP.out] at hpx
      have HPX := Lib.hid hpx
      have i1 : (0 : Int) ≤ (x : Int) := by omega
      have i2 : (x : Int) < (P : Int) := by omega
      obtain ⟨w1, hw1⟩ : ∃ w1, wr.alloc (.cells #[] 32) = w1 := ⟨_, rfl⟩
      have hz1 : w1.heap.size = wr.heap.size + 1 := by rw [← hw1]; simp
      have hB1 : Below w.heap.size w w1 := by rw [← hw1]; exact below_al hq0 _
      have hq9 : Below wr.heap.size wr w1 := by rw [← hw1]; exact below_al (Below.refl _ _) _
      obtain ⟨B0, hB0⟩ : ∃ B0, B0 = wr.heap.size := ⟨_, rfl⟩
      have hwB : w.heap.size ≤ B0 := by omega
      have hO1 : OwnTT w1 B0 (some ⟨wr.heap.size, 0, none⟩) 0 0 [] [] := by
        rw [← hw1, hB0]
        exact ⟨rfl, rfl, ownsRowT_mk rfl (Nat.le_refl _) (Loc.new wr rfl _ _) (Nat.le_refl _) (by unfold maxLen; omega) rfl rfl, fun i h => absurd h (by omega), fun i h => absurd h (by omega), fun i j h => absurd h (by omega)⟩
      clear hpx
      go_wp2
      go_loopw [8, 9] (fun s i wr2 => ∃ (k : Nat) (a' : Option Addr) (c' : Nat) (vs : List TV), k ≤ m ∧ i = .int .i64 k ∧ s = .slice a' k c' ∧ OwnTT wr2 B0 a' k c' vs (imgL n p (us.take k)) ∧ Below w.heap.size w wr2 ∧ B0 ≤ wr2.heap.size ∧ Below wr.heap.size wr wr2) (fun _ i _ => m - (intOf i).toNat)
      case atStart => exact ⟨0, _, 0, [], Nat.zero_le _, rfl, rfl, by simpa [imgL] using hO1, hB1, by omega, hq9⟩
      case round =>
        clear hO1 hB1 hz1 hw1 hq0 hq9
        obtain ⟨k, a', c', vs, hk, rfl, rfl, hO, hq, hwz, hqB⟩ := hrel
        have hq3 := below_th hq2 hqB
        by_cases hlk : k < m
        · have h1r := h10.below hq3
          have h2r := h20.below hq3
          obtain ⟨b1, o1, at_, nt, ct, e1, g1, t1, l1⟩ := h1r.at k hlk
          cases e1
          obtain ⟨b2, o2, ap, np, cp, rfl, g2, r2, l2⟩ := h2r.at x hlt
          rw [HPP.out] at r2
          obtain ⟨t, HT⟩ : ∃ t, Hid (us.getD k [] = t) := ⟨_, rfl⟩
          rw [HT.out] at t1
          have hsq : Sq n t := by rw [← HT.out]; exact HS.out k hlk
          obtain rfl : n = nt := by have := t1.len; rw [hsq.1] at this; exact this.symm
          obtain rfl : n = np := by have := r2.len; rw [HPX.out.len] at this; exact this.symm
          have HSQ := Lib.hid hsq
          have HIT : Hid (imgL n p (us.take (k + 1)) = imgL n p (us.take k) ++ [rnL n t p]) := Lib.hid (by rw [imgL_take (by have := HL1.out; omega), HT.out])
          have HOU := Lib.hid hO.uHi
          have HOB := Lib.hid (fun g (e : (Value.slice a' k c').ownBlock = some g) => hO.ownBlk e)
          have j1 : (0 : Int) ≤ (k : Int) := by omega
          have j2 : (k : Int) < (m : Int) := by omega
          have hO1 := hO.drewN 1
          have t1d := t1.drewN 1
          have r2d := r2.drewN 1
          clear hsq h1r h2r
          go_wp2
          go_region_law (first
            | (refine step_appTTn rfl rfl hO3 rfl ho3 HQ3.out rfl ?_ ?_ ?_; (omega); (omega); intro g' cc w8 hO8 hg8 hat8 hb8)
            | (go_simp; go_at_call 108; refine (l03Image_any n at_ ap ct cp t p _ t1d r2d HSQ.out HPX.out hn0 (by omega)).mono ?_; rintro e w3 ⟨a3, c3, vs3, rfl, ho3', hb3⟩; have hz3 : B0 ≤ w3.heap.size := Nat.le_trans hwz hb3.size; have ho3 : OwnT w3 B0 a3 n c3 vs3 (rnL n t p) := ho3'.mono hwz; have hO3 := hO1.below hb3; have HQ3 : Hid (∀ q, TblS a3 n vs3 q → ¬ TTS a' k vs q) := Lib.hid (fun q h1 h2 => by have := ho3'.uLo q h1; have h4 := HOU.out q h2; have : wr.heap.size ≤ q := this; omega)))
          all_goals
            go_wp2
            go_roundw
            case rel => exact ⟨k + 1, _, cc, _, by omega, by go_num, rfl, by rw [HIT.out]; exact hO8, (below_drewN hq 1).trans ((hb3.mono (show w.heap.size ≤ (wr.drewN 1).heap.size by exact Nat.le_trans hwB hwz)).trans (hb8.mono hwB)), Nat.le_trans hz3 hb8.size, (below_drewN hqB 1).trans ((hb3.mono (by rw [← hB0]; exact hwz)).trans (hb8.mono (by omega)))⟩
            case measure => simp [intOf]; omega
        · obtain rfl : m = k := by omega
          have hE : us.take m = us := by rw [List.take_of_length_le (by have := HL1.out; omega)]
          rw [hE] at hO
          have hB8 := hB.below hqB
          have hIL : ShQ m n (imgL n p us) := ShQ.img HL1.out p
          have HLN : Hid (∀ k, k < m → ((imgL n p us).getD k []).length ≤ ((leaK n us x).getD k []).length) := Lib.hid fun k hk => by rw [(hIL k hk).1, (HBL.out k hk).1]; exact Nat.le_refl _
          have HIL := Lib.hid hIL
          have HKS : Hid (leaK n us (x + 1) = leaF n us (leaK n us x) p) := Lib.hid (by rw [leaK_succ n us (by have := HP2.out; omega), HPP.out])
          obtain ⟨B, HBB⟩ : ∃ B, Hid (befS (imgL n p us) (leaK n us x) = B) := ⟨_, rfl⟩
          clear hE hIL
          cases B with
          | true =>
            have HK2 : Hid (leaK n us (x + 1) = imgL n p us) := Lib.hid (by rw [HKS.out]; unfold leaF; rw [HBB.out, if_pos rfl])
            go_wp2_with fail
            refine (l03Before_any _ _ _ _ _ _ _ _ _ hO.tbS hB8 (Nat.le_refl _) (by omega) HLN.out).mono ?_
            rintro e w5 ⟨rfl, hw5⟩
            rw [HBB.out]
            obtain ⟨q, hw5⟩ := hw5
            have t5 : TbS w5 a' m (imgL n p us) := by rw [hw5]; exact hO.tbS.drewN q
            have hq5 : Below w.heap.size w w5 := by rw [hw5]; exact below_drewN hq q
            have hq6 : Below w0.heap.size w0 w5 := by rw [hw5]; exact below_drewN (below_th hq2 hqB) q
            clear hw5
            go_wp2
            go_roundw
            case rel => exact ⟨x + 1, _, _, by omega, by go_num, rfl, by rw [HK2.out]; exact t5, hq5, hq6, Lib.hid (by rw [HK2.out]; exact HIL.out)⟩
            case measure => simp [intOf]; omega
          | false =>
            have HK2 : Hid (leaK n us (x + 1) = leaK n us x) := Lib.hid (by rw [HKS.out]; unfold leaF; rw [HBB.out]; rfl)
            go_wp2_with fail
            refine (l03Before_any _ _ _ _ _ _ _ _ _ hO.tbS hB8 (Nat.le_refl _) (by omega) HLN.out).mono ?_
            rintro e w5 ⟨rfl, hw5⟩
            rw [HBB.out]
            obtain ⟨q, hw5⟩ := hw5
            have t5 : TbS w5 ab m (leaK n us x) := by rw [hw5]; exact hB8.drewN q
            have hq5 : Below w.heap.size w w5 := by rw [hw5]; exact below_drewN hq q
            have hq6 : Below w0.heap.size w0 w5 := by rw [hw5]; exact below_drewN (below_th hq2 hqB) q
            clear hw5
            go_wp2
            go_roundw
            case rel => exact ⟨x + 1, _, _, by omega, by go_num, rfl, by rw [HK2.out]; exact t5, hq5, hq6, Lib.hid (by rw [HK2.out]; exact HBL.out)⟩
            case measure => simp [intOf]; omega
    · obtain rfl : P = x := by omega
      have hE : leaK n us P = leaS n us := leaK_all n us (by have := HP2.out; omega)
      rw [hE] at hB HBL
      have HLB := Lib.hid hB.len
      rw [HA.out] at hB HBL HLB
      clear hE
      obtain ⟨w1, hw1⟩ : ∃ w1, wr.alloc (.cells #[] 32) = w1 := ⟨_, rfl⟩
      have hwz := hq0.size
      have hO1 : OwnTT w1 wr.heap.size (some ⟨wr.heap.size, 0, none⟩) 0 0 [] [] := by
        rw [← hw1]
        exact ⟨rfl, rfl, ownsRowT_mk rfl (Nat.le_refl _) (Loc.new wr rfl _ _) (Nat.le_refl _) (by unfold maxLen; omega) rfl rfl, fun i h => absurd h (by omega), fun i h => absurd h (by omega), fun i j h => absurd h (by omega)⟩
      have hq1 : Below wr.heap.size wr w1 := by rw [← hw1]; exact below_al (Below.refl _ _) _
      obtain ⟨B0, hB0⟩ : ∃ B0, B0 = wr.heap.size := ⟨_, rfl⟩
      go_wp2
      clear hwz hB0
      go_loopw [10, 11] (fun z i wr2 => ∃ (k : Nat) (az : Option Addr) (cz : Nat) (vz : List TV), k ≤ m ∧ i = .int .i64 k ∧ z = .slice az k cz ∧ OwnTT wr2 wr.heap.size az k cz vz (A.take k) ∧ Below wr.heap.size wr wr2) (fun _ i _ => m - (intOf i).toNat)
      case atStart => exact ⟨0, _, 0, [], Nat.zero_le _, rfl, rfl, by simpa using hO1, hq1⟩
      case round =>
        clear hO1 hq1 hw1
        obtain ⟨k, az, cz, vz, hk, rfl, rfl, ho, hb⟩ := hrel
        by_cases hlk : k < m
        · have hq := hq0.trans (hb.mono hq0.size)
          obtain ⟨b, off, ai, ni, ci, rfl, g1, hr, hni⟩ := (hB.below hb).at k hlk
          obtain ⟨t, HT⟩ : ∃ t, Hid (A.getD k [] = t) := ⟨_, rfl⟩
          have hsh := HBL.out k hlk
          rw [HT.out] at hr hsh
          obtain rfl : n = ni := by rw [hr.len]; exact hsh.1.symm
          have HSH := Lib.hid hsh.2
          have hkA : k < A.length := by have := HLB.out; omega
          have HTK : Hid (A.take (k + 1) = A.take k ++ [t]) := Lib.hid (by rw [← HT.out, List.take_succ_eq_append_getElem hkA]; simp [List.getD_eq_getElem?_getD, List.getElem?_eq_getElem hkA])
          have j1 : (0 : Int) ≤ (k : Int) := by omega
          have j2 : (k : Int) < (m : Int) := by omega
          clear hsh
          go_wp2_with fail
          refine (l01Own2_any _ _ _ t _ hr (by omega) (fun x hx => by rw [HSH.out x hx]; omega)).mono ?_
          rintro e w2 ⟨a2, c2, v2, rfl, ho2, hb2⟩
          have hqs := hb.size
          have hz2 := ho.below hb2
          have hq3 := below_th hb hb2
          have hs2 := hb2.size
          have HHI := Lib.hid ho.uHi
          have HLO := Lib.hid ho2.uLo
          go_wp2_with (at_builtin; refine appTT rfl rfl hz2 rfl (ho2.mono hb.size) (fun q h1 h2 => by have h3 := HLO.out q h1; have h4 := HHI.out q h2; omega) rfl (by omega) (by omega) ?_; intro g' cc w8 hO8 hg8 hat8 hb8)
          go_roundw
          case rel => exact ⟨k + 1, _, cc, _, by omega, by go_num, rfl, by rw [HTK.out]; exact hO8, hq3.trans hb8⟩
          case measure => simp [intOf]; omega
        · obtain rfl : m = k := by omega
          go_wp2
          go_ret
          refine ⟨az, cz, vz, rfl, ?_, hq0.trans (hb.mono hq0.size)⟩
          rw [List.take_of_length_le (by have := HLB.out; omega)] at ho
          exact ho.mono hq0.size
end Go.Proofs.YtaddclaadbjnlaaGreat

namespace Go.Proofs.YtaddclaadbjnlaaGreat
set_option maxRecDepth 100000
set_option linter.unusedVariables false
set_option linter.unusedSimpArgs false
theorem tabF_tv {n : Nat} {v : Nat → Nat → Int} {x y : Nat} (hx : x < n) (hy : y < n) : tv (tabF n v) x y = (v x y).toNat := by
  unfold tv
  rw [tabF_get _ _ _ hx]
  simp [List.getD_eq_getElem?_getD, hy]
theorem tabF_sqI {n : Nat} {v : Nat → Nat → Int} (h : ∀ x y, x < n → y < n → 0 ≤ v x y ∧ v x y < n) : Sq n (tabF n v) := by
  refine ⟨tabF_len _ _, fun x hx => ?_⟩
  have e := tabF_get n v x hx
  refine ⟨by rw [e]; simp, fun y hy => ?_⟩
  have := h x y hx hy
  rw [tabF_tv hx hy]
  refine ⟨by omega, ?_⟩
  rw [e]
  simp [List.getD_eq_getElem?_getD, hy]
  omega
theorem sq_ext {n : Nat} {t s : List (List Int)} (h : Sq n t) (k : Sq n s) (e : ∀ x y, x < n → y < n → tv t x y = tv s x y) : t = s := by
  rw [← sq_tabF h, ← sq_tabF k]
  refine tabQ_congr fun x y hx hy => ?_
  rw [h.val hx hy, k.val hx hy, e x y hx hy]
theorem isP_of {n : Nat} {p : List Int} (h : IsP n p) : ∃ f g, IsPf n p f g := h
theorem backF_pf {n : Nat} {p : List Int} {f g : Nat → Nat} (h : IsPf n p f g) : IsPf n (backF p) g f := by
  have hb := backK_get n p f g h n (Nat.le_refl _)
  obtain ⟨hl, h1, h2⟩ := h
  refine ⟨by rw [backF_len]; exact hl, fun i hi => ⟨(h1 i hi).2.1, (h1 i hi).1, (h1 i hi).2.2.2, (h1 i hi).2.2.1⟩, fun i hi => ?_⟩
  unfold backF; rw [hl, hb i hi, if_pos (h1 i hi).2.1]
theorem thL_pf {n : Nat} {p q : List Int} {f g f' g' : Nat → Nat} (h : IsPf n p f g) (k : IsPf n q f' g') : IsPf n (thL p q) (fun i => f' (f i)) (fun i => g (g' i)) := by
  obtain ⟨hl, h1, h2⟩ := h
  obtain ⟨hl', h1', h2'⟩ := k
  refine ⟨by rw [thL_len]; exact hl, fun i hi => ?_, fun i hi => ?_⟩
  · have a1 := h1 i hi
    have a2 := h1' i hi
    have a3 := h1' (f i) a1.1
    have a4 := h1 (g' i) a2.2.1
    refine ⟨a3.1, a4.2.1, ?_, ?_⟩
    · show f' (f (g (g' i))) = i
      rw [a4.2.2.1, a2.2.2.1]
    · show g (g' (f' (f i))) = i
      rw [a3.2.2.2, a1.2.2.2]
  · unfold thL
    have : (p.map fun x => q.getD x.toNat 0).getD i 0 = q.getD (p.getD i 0).toNat 0 := by
      simp only [List.getD_eq_getElem?_getD, List.getElem?_map]
      rw [List.getElem?_eq_getElem (by omega)]; rfl
    rw [this, h2 i hi, Int.toNat_natCast, h2' _ (h1 i hi).1]
theorem unit_pf (n : Nat) : IsPf n (unitL n) id id := ⟨unitL_len n, fun i h => ⟨h, h, rfl, rfl⟩, fun i h => unitL_get n i h⟩
theorem pf_ext {n : Nat} {p q : List Int} {f g f' g' : Nat → Nat} (h : IsPf n p f g) (k : IsPf n q f' g') (e : ∀ i, i < n → f i = f' i) : p = q := by
  apply List.ext_getElem
  · rw [h.1, k.1]
  · intro i h1 h2
    rw [h.1] at h1
    have a := h.2.2 i h1
    have b := k.2.2 i h1
    rw [getD_at (by rw [h.1]; exact h1)] at a
    rw [getD_at (by rw [k.1]; exact h1)] at b
    rw [a, b, e i h1]
theorem rn_tv {n : Nat} {t : List (List Int)} {p : List Int} {f g : Nat → Nat} (hp : IsPf n p f g) (hs : Sq n t) {x y : Nat} (hx : x < n) (hy : y < n) : rnV t p x y = ((f (tv t (g x) (g y)) : Nat) : Int) := by
  have hb := (backF_pf hp).2.2
  unfold rnV
  rw [hb x hx, hb y hy, Int.toNat_natCast, Int.toNat_natCast]
  exact hp.2.2 _ (hs.lt (hp.2.1 x hx).2.1 (hp.2.1 y hy).2.1)
theorem rnL_tv {n : Nat} {t : List (List Int)} {p : List Int} {f g : Nat → Nat} (hp : IsPf n p f g) (hs : Sq n t) {x y : Nat} (hx : x < n) (hy : y < n) : tv (rnL n t p) x y = f (tv t (g x) (g y)) := by
  unfold rnL; rw [tabF_tv hx hy, rn_tv hp hs hx hy, Int.toNat_natCast]
theorem rnL_sq {n : Nat} {t : List (List Int)} {p : List Int} (hp : IsP n p) (hs : Sq n t) : Sq n (rnL n t p) := by
  obtain ⟨f, g, hp⟩ := isP_of hp
  refine tabF_sqI fun x y hx hy => ?_
  rw [rn_tv hp hs hx hy]
  have := (hp.2.1 _ (hs.lt (hp.2.1 x hx).2.1 (hp.2.1 y hy).2.1)).1
  omega
end Go.Proofs.YtaddclaadbjnlaaGreat

namespace Go.Proofs.YtaddclaadbjnlaaGreat
set_option maxRecDepth 100000
set_option linter.unusedVariables false
set_option linter.unusedSimpArgs false
theorem permOk_isP {n : Nat} {p : List Int} (hl : p.length = n) (h : permOk p = true) : IsP n p := by
  obtain ⟨h1, h2⟩ := permOk_to h
  rw [hl] at h1 h2
  have hs : ∀ x, x < n → ∃ k, k < n ∧ p.getD k 0 = (x : Int) := fun x hx => by
    unfold permOk at h
    have := allN_get h (k := x) (by omega)
    rw [List.contains_iff_mem] at this
    obtain ⟨k, hk, e⟩ := List.getElem_of_mem this
    exact ⟨k, by omega, by rw [getD_at hk, e]⟩
  have hg : ∀ x, ∃ k, x < n → k < n ∧ p.getD k 0 = (x : Int) := fun x => by
    by_cases hx : x < n
    · obtain ⟨k, hk⟩ := hs x hx; exact ⟨k, fun _ => hk⟩
    · exact ⟨0, fun h => absurd h hx⟩
  obtain ⟨g, hg⟩ := Classical.axiomOfChoice hg
  refine ⟨fun i => (p.getD i 0).toNat, g, hl, fun i hi => ⟨?_, (hg i hi).1, ?_, ?_⟩, fun i hi => ?_⟩
  · have := h1 i hi
    show (p.getD i 0).toNat < n
    omega
  · show (p.getD (g i) 0).toNat = i
    rw [(hg i hi).2, Int.toNat_natCast]
  · have hr := h1 i hi
    have hx : (p.getD i 0).toNat < n := by omega
    refine h2 _ _ (hg _ hx).1 hi ?_
    rw [(hg _ hx).2]; omega
  · have := h1 i hi
    show p.getD i 0 = (((p.getD i 0).toNat : Nat) : Int)
    omega
end Go.Proofs.YtaddclaadbjnlaaGreat

namespace Go.Proofs.YtaddclaadbjnlaaGreat
set_option maxRecDepth 100000
set_option linter.unusedVariables false
set_option linter.unusedSimpArgs false
open Go.RowKit
theorem tab_ext {xs ys : List (List Int)} (hl : xs.length = ys.length) (h : ∀ j, j < xs.length → xs.getD j [] = ys.getD j []) : xs = ys := by
  apply List.ext_getElem hl
  intro i h1 h2
  have := h i h1
  simpa [List.getD_eq_getElem?_getD, List.getElem?_eq_getElem h1, List.getElem?_eq_getElem h2] using this
set_option maxHeartbeats 4000000 in
theorem l01Same2_any (a1 a2 : Option Addr) (n1 n2 c1 c2 : Nat) (xs ys : List (List Int)) (w : World) (h1 : Tbl w a1 n1 xs) (h2 : Tbl w a2 n2 ys) (hm : n1 ≤ 9223372036854775807) :
    Calls Tryz.prog 60 #[.slice a1 n1 c1, .slice a2 n2 c2] w fun e w' => e = .returned (.bool (decide (xs = ys))) ∧ ∃ m, w' = w.drewN m := by
  have HL1 := Lib.hid h1.len
  have HL2 := Lib.hid h2.len
  by_cases hl : n1 = n2
  · subst hl
    have hb : ((n1 : Int) != (n1 : Int)) = false := by simp
    go_enter Tryz.func60, Tryz.ntmps60
    go_wp2
    clear hb
    go_loopw [5] (fun i wr => ∃ k : Nat, k ≤ n1 ∧ i = .int .i64 k ∧ Hid (∀ j, j < k → xs.getD j [] = ys.getD j []) ∧ Hid (∃ n, wr = w.drewN n)) (fun i _ => n1 - (intOf i).toNat)
    case atStart => exact ⟨0, Nat.zero_le _, rfl, Lib.hid fun j hj => absurd hj (by omega), Lib.hid ⟨0, rfl⟩⟩
    case round =>
      obtain ⟨k, hk, rfl, HT, HW⟩ := hrel
      have h1r : Tbl wr a1 n1 xs := by obtain ⟨m, hm⟩ := HW.out; rw [hm]; exact h1.drewN m
      have h2r : Tbl wr a2 n1 ys := by obtain ⟨m, hm⟩ := HW.out; rw [hm]; exact h2.drewN m
      by_cases hlt : k < n1
      · obtain ⟨b3, o3, a3, n3, c3, rfl, g3, r3, l3⟩ := h1r.at k hlt
        obtain ⟨b4, o4, a4, n4, c4, rfl, g4, r4, l4⟩ := h2r.at k hlt
        obtain ⟨X, HX⟩ : ∃ X, Hid (xs.getD k [] = X) := ⟨_, rfl⟩
        obtain ⟨Y, HY⟩ : ∃ Y, Hid (ys.getD k [] = Y) := ⟨_, rfl⟩
        rw [HX.out] at r3
        rw [HY.out] at r4
        have j1 : (0 : Int) ≤ (k : Int) := by omega
        have j2 : (k : Int) < (n1 : Int) := by omega
        clear h1r h2r
        obtain ⟨D, HD⟩ : ∃ D, Hid (decide (X = Y) = D) := ⟨_, rfl⟩
        have HSA : Hid (∀ m, Calls Tryz.prog 110 #[.slice a3 n3 c3, .slice a4 n4 c4] (wr.drewN m) fun e w'' => e = .returned (.bool D) ∧ ∃ k, w'' = wr.drewN k) := Lib.hid fun m => (l01Same_any a3 a4 n3 n4 c3 c4 X Y (wr.drewN m) (r3.drewN m) (r4.drewN m) l3).mono fun e w'' ⟨he, k, hk⟩ => ⟨by rw [he, HD.out], m + k, by rw [hk, World.drewN_drewN]⟩
        cases D with
        | true =>
          go_wp2
          go_quiet ((go_at_call 110; exact HSA.out _))
          go_wp2
          go_roundw
          case rel => exact ⟨k + 1, by omega, by go_num, Lib.hid fun j hj => by
            by_cases e : j = k
            · subst e; rw [HX.out, HY.out]; exact of_decide_eq_true HD.out
            · exact HT.out j (by omega), Lib.hid (by obtain ⟨m, hm⟩ := HW.out; exact ⟨m + nq, by rw [hm, World.drewN_drewN]⟩)⟩
          case measure => simp [intOf]; omega
        | false =>
          go_wp2
          go_quiet ((go_at_call 110; exact HSA.out _))
          go_wp2
          go_ret
          exact ⟨ret_bool (by
            symm; rw [decide_eq_false_iff_not]; rintro rfl
            have := of_decide_eq_false HD.out
            exact this (by rw [← HX.out, ← HY.out])), by obtain ⟨m, hm⟩ := HW.out; exact ⟨m + nq, by rw [hm, World.drewN_drewN]⟩⟩
      · obtain rfl : n1 = k := by omega
        have HE : Hid (xs = ys) := Lib.hid (tab_ext (by have := HL1.out; have := HL2.out; omega) fun j hj => HT.out j (by have := HL1.out; omega))
        go_wp2
        go_ret
        exact ⟨ret_bool (by rw [HE.out]; simp), HW.out⟩
  · have hb : ((n1 : Int) != (n2 : Int)) = true := by simp; omega
    have hne : ¬ xs = ys := by rintro rfl; have := HL1.out; have := HL2.out; omega
    go_enter Tryz.func60, Tryz.ntmps60
    go_wp2
    go_ret
    exact ⟨ret_bool (by simp [hne]), 0, rfl⟩
end Go.Proofs.YtaddclaadbjnlaaGreat

namespace Go.Proofs.YtaddclaadbjnlaaGreat
set_option maxRecDepth 100000
set_option linter.unusedVariables false
set_option linter.unusedSimpArgs false
open Go.RowKit
theorem zrow9 {N k : Nat} (h : k < N) : (tabF N fun _ _ => 0).take (k + 1) = (tabF N fun _ _ => 0).take k ++ [List.replicate N 0] := by
  have hl : k < (tabF N fun _ _ => 0).length := by rw [tabF_len]; exact h
  rw [List.take_succ_eq_append_getElem hl]
  congr 2
  simp only [tabF, List.getElem_map]
  apply List.ext_getElem
  · simp
  · intro i h1 h2; simp
def facN : Nat → Nat
  | 0 => 1
  | n + 1 => (n + 1) * facN n
theorem facN_bd : ∀ k : Fin 5, facN k.1 ≤ 24 := by decide
set_option maxHeartbeats 2000000 in
theorem fact9_any (n : Nat) (w : World) (h1 : 1 ≤ n) (h4 : n ≤ 4) :
    Calls Tryz.prog 15 #[.int .i64 n] w fun e w' => e = .returned (.int .i64 (facN n)) ∧ w' = w := by
  go_enter Tryz.func15, Tryz.ntmps15
  go_wp2
  go_loop [3, 4] (fun o k => ∃ j : Nat, 1 ≤ j ∧ j ≤ n ∧ k = .int .i64 ((j + 1 : Nat) : Int) ∧ o = .int .i64 ((facN j : Nat) : Int)) (fun _ k => n + 1 - (intOf k).toNat)
  case atStart => exact ⟨1, by omega, h1, rfl, rfl⟩
  case round =>
    obtain ⟨j, hj1, hj, rfl, rfl⟩ := hrel
    have hb := facN_bd ⟨j, by omega⟩
    have hb : facN j ≤ 24 := hb
    have HF : Hid (facN (j + 1) = (j + 1) * facN j) := Lib.hid rfl
    obtain ⟨F, hF⟩ : ∃ F, facN j = F := ⟨_, rfl⟩
    rw [hF] at HF hb ⊢
    by_cases hlt : j < n
    · have hmul : (j + 1) * F ≤ 5 * 24 := Nat.mul_le_mul (by omega) hb
      have hm2 : (F : Int) * ((j : Int) + 1) = (((j + 1) * F : Nat) : Int) := by push_cast; rw [Int.mul_comm]
      obtain ⟨M, hM⟩ : ∃ M, (j + 1) * F = M := ⟨_, rfl⟩
      rw [hM] at hm2 hmul HF
      have hwr : wrap64 ((F : Int) * ((j : Int) + 1)) = (M : Int) := by rw [hm2]; unfold wrap64; omega
      have i1 : ((j + 1 : Nat) : Int) ≤ (n : Int) := by omega
      clear hF hmul hm2 hM
      have HWR := Lib.hid hwr
      clear hwr
      go_wp2
      go_round
      case rel => exact ⟨j + 1, by omega, by omega, by go_num, by rw [HF.out, HWR.out]⟩
      case measure => simp [intOf]; omega
    · obtain rfl : j = n := by omega
      have i1 : ¬ ((j + 1 : Nat) : Int) ≤ (j : Int) := by omega
      go_wp2
      go_ret
      exact ⟨rfl, rfl⟩
theorem isPerm_any (a : Option Addr) (n c : Nat) (p : List Int) (w : World) (h1 : Row w a n p) (hm : n ≤ 9223372036854775807) :
    Calls Tryz.prog 62 #[.slice a n c] w fun e w' => e = .returned (.bool (rngB 1 12 n && permOk p)) ∧ w = w' := by
  go_enter Tryz.func62, Tryz.ntmps62
  go_wp2_with fail
  refine (l01Perm_any a n c p _ h1 hm).mono ?_
  rintro e w1 ⟨rfl, rfl⟩
  go_wp2
  go_ret
  exact ⟨rfl, rfl⟩
set_option maxHeartbeats 16000000 in
theorem image9_any (n : Nat) (at_ ap : Option Addr) (ct cp : Nat) (t : List (List Int)) (p : List Int) (w : World) (h1 : Tbl w at_ n t) (h2 : Row w ap n p) (hs : Sq n t) (hP : IsP n p) (hn0 : 1 ≤ n) (hn : n ≤ 12) :
    Calls Tryz.prog 20 #[.slice at_ n ct, .slice ap n cp] w fun e w' => ∃ a c vs, e = .returned (.slice a n c) ∧ OwnT w' w.heap.size a n c vs (rnL n t p) ∧ Below w.heap.size w w' := by
  have HP := Lib.hid hP
  have HS := Lib.hid hs
  have HPM : Hid ((rngB 1 12 n && permOk p) = true) := Lib.hid (by rw [isP_perm hP]; unfold rngB; simp; omega)
  clear hs hP
  have hO := OwnT.fresh w rfl
  have hQ := below_al (Below.refl w.heap.size w) (.cells #[] 41)
  have hnn : ((n : Int) != (n : Int)) = false := by simp
  go_enter Tryz.func20, Tryz.ntmps20
  go_wp2_with fail
  refine (isPerm_any ap n cp p _ h2 (by omega)).mono ?_
  rintro e w0 ⟨rfl, rfl⟩
  rw [HPM.out]
  clear hnn
  go_wp2
  go_loopw [5, 6] (fun z i wr => ∃ (k : Nat) (az : Option Addr) (cz : Nat) (vz : List SV), k ≤ n ∧ i = .int .i64 k ∧ z = .slice az k cz ∧ OwnT wr w.heap.size az k cz vz ((tabF n fun _ _ => 0).take k) ∧ Below w.heap.size w wr) (fun _ i _ => n - (intOf i).toNat)
  case atStart => exact ⟨0, _, 0, _, Nat.zero_le _, rfl, rfl, by simpa using hO, hQ⟩
  case round =>
    clear hO hQ
    obtain ⟨k, az, cz, vz, hk, rfl, rfl, ho, hq⟩ := hrel
    have hqs := hq.size
    by_cases hlt : k < n
    · have HZ := Lib.hid (zrow9 hlt)
      go_wp2_with (first | (at_make; refine make1 rfl rfl rfl rfl (by omega) ?_; intro w4 ho4 hs4 hb4; have hz4 := ho.below hb4) | (at_builtin; refine appT1 rfl rfl hz4 rfl (ho4.mono hqs) (fun g h1 h2 => by have h3 := ho.high _ h1; have h4 := ho4.lo _ h2; omega) (fun i hi g h1 h2 => by have h3 := ho4.lo _ h1; have h4 := (ho.row i hi).hi _ h2; omega) rfl (by omega) (by omega) ?_; intro g' cc w5 hO5 hb5))
      go_roundw
      case rel => exact ⟨k + 1, _, _, _, by omega, by go_num, rfl, by rw [HZ.out]; exact hO5, (hq.trans (hb4.mono hqs)).trans hb5⟩
      case measure => simp [intOf]; omega
    · obtain rfl : n = k := by omega
      rw [List.take_of_length_le (by rw [tabF_len]; exact Nat.le_refl _)] at ho
      obtain ⟨c1, rfl⟩ : ∃ c1, c1 = cz := ⟨_, rfl⟩
      obtain ⟨vs1, rfl⟩ : ∃ vs1, vs1 = vz := ⟨_, rfl⟩
      obtain ⟨gm, rfl, _⟩ := ho.cells (by omega)
      have HLO := Lib.hid ho.uLo
      obtain ⟨W1, rfl⟩ : ∃ W : World, W = wr := ⟨_, rfl⟩
      go_wp2
      go_loopw [7, 8] (fun i _ wr => ∃ (x : Nat) (V : Nat → Nat → Int), x ≤ n ∧ i = .int .i64 x ∧ OwnT wr w.heap.size (some ⟨gm, 0, none⟩) n c1 vs1 (tabF n V) ∧ Hid (ImgK n t p V x 0) ∧ Below w.heap.size w wr) (fun i _ _ => n - (intOf i).toNat)
      case atStart => exact ⟨0, _, Nat.zero_le _, rfl, ho, Lib.hid (fun x' y' _ _ h => by omega), hq⟩
      case round =>
        clear ho hq hqs
        obtain ⟨x, V, hx, rfl, ho, HV, hq⟩ := hrel
        by_cases hlt : x < n
        · go_wp2
          go_loopw [8] (fun j wr => ∃ (y : Nat) (V : Nat → Nat → Int), y ≤ n ∧ j = .int .i64 y ∧ OwnT wr w.heap.size (some ⟨gm, 0, none⟩) n c1 vs1 (tabF n V) ∧ Hid (ImgK n t p V x y) ∧ Below w.heap.size w wr) (fun j _ => n - (intOf j).toNat)
          case atStart => exact ⟨0, V, Nat.zero_le _, rfl, ho, HV, hq⟩
          case round =>
            clear ho hq
            obtain ⟨y, V, hy, rfl, ho, HV, hq⟩ := hrel
            obtain ⟨b, off, A, O, C, rfl, G0⟩ := h1.grid HS.out (by omega)
            have GR := (G0.below hq)
            have GX := GR.row x hlt
            have x1 : (0 : Int) ≤ (x : Int) := by omega
            have x2 : (x : Int) < (n : Int) := by omega
            by_cases hly : y < n
            · have G := GR.look hlt hly
              obtain ⟨u, hu, hun⟩ := HP.out.at hlt
              obtain ⟨v, hv, hvn⟩ := HP.out.at hly
              obtain ⟨bp, op, rfl, gu⟩ := (h2.below hq).at x hlt
              obtain ⟨bp', op', e', gv⟩ := (h2.below hq).at y hly
              cases e'
              have hz := HS.out.lt hlt hly
              obtain ⟨z, HZ⟩ : ∃ z, Hid (tv t x y = z) := ⟨_, rfl⟩
              rw [HZ.out] at G hz
              obtain ⟨bp'', op'', e'', gz⟩ := (h2.below hq).at z hz
              cases e''
              obtain ⟨Z, HZZ⟩ : ∃ Z, Hid (p.getD z 0 = Z) := ⟨_, rfl⟩
              rw [HZZ.out] at gz
              rw [hu] at gu
              rw [hv] at gv
              obtain ⟨gm', g1, cg, e3, ev, r1, hc1, ht1⟩ := ho.spotQ hun
              cases e3
              have k1 := (hc1 v hvn).1
              have f1 := (hc1 v hvn).2
              have hput := ho.putQ hun hvn ev Z
              have HST : Hid (ImgK n t p (updQ V u v Z) x (y + 1)) := Lib.hid (by
                have := ImgK.step HP.out HV.out hlt hly (u := u) (v := v) (by rw [hu, Int.toNat_natCast]) (by rw [hv, Int.toNat_natCast])
                rw [show imgI t p x y = Z by unfold imgI; rw [HZ.out, HZZ.out]] at this
                exact this)
              have hg1 : w.heap.size ≤ g1 := HLO.out g1 ht1
              have HPUT := Lib.hid hput
              have i1 : (0 : Int) ≤ (x : Int) := by omega
              have i2 : (x : Int) < (n : Int) := by omega
              have i3 : (0 : Int) ≤ (y : Int) := by omega
              have i4 : (y : Int) < (n : Int) := by omega
              have i5 : (0 : Int) ≤ (u : Int) := by omega
              have i6 : (u : Int) < (n : Int) := by omega
              have i7 : (0 : Int) ≤ (v : Int) := by omega
              have i8 : (v : Int) < (n : Int) := by omega
              have i9 : (0 : Int) ≤ (z : Int) := by omega
              have i10 : (z : Int) < (n : Int) := by omega
              obtain ⟨G1, G2⟩ := G
              have hq8 : Below w.heap.size w wr.drew := hq.drew
              have hput8 : Hid (OwnT (wr.drew.setCell ⟨g1, v, none⟩ (.int .i64 Z)) w.heap.size (some ⟨gm, 0, none⟩) n c1 vs1 (tabF n (updQ V u v Z))) := Lib.hid (hput.drewN 1)
              clear hu hv hc1 hput ho hq HPUT
              go_wp2
              refine wp_region_still_tail 22 (by kernel_rfl) (by kernel_rfl) ?_
              change wpStill _ _ wr.drew (fun a' => wpList _ _ _ _ a' wr.drew) _ _
              have G18 : wr.drew.cell? _ = _ := G1
              have G28 : wr.drew.cell? _ = _ := G2
              have gu8 : wr.drew.cell? _ = _ := gu
              have gv8 : wr.drew.cell? _ = _ := gv
              have gz8 : wr.drew.cell? _ = _ := gz
              have r18 : wr.drew.cell? _ = _ := r1
              have k18 : wr.drew.cell? _ = _ := k1
              have f18 : wr.drew.frozen? ⟨g1, v, none⟩ = false := f1
              clear G1 G2 gu gv gz r1 k1 f1
              generalize wr.drew = w8 at *
              simp only [List.take_succ_cons, List.take_zero, List.drop_succ_cons, List.drop_zero]
              repeat still_step
              refine wpStill_nil ?_
              go_wp2
              go_roundw
              case rel => exact ⟨y + 1, _, by omega, by go_num, hput8.out, HST, below_setne hq8 hg1 _⟩
              case measure => simp [intOf]; omega
            · obtain rfl : n = y := by omega
              go_wp2
              go_roundw
              case rel => exact ⟨x + 1, V, by omega, by go_num, ho, Lib.hid HV.out.next, hq⟩
              case measure => simp [intOf]; omega
        · obtain rfl : n = x := by omega
          go_wp2
          go_ret
          exact ⟨_, _, _, rfl, by rw [← ImgK.done HP.out HV.out]; exact ho, hq⟩
end Go.Proofs.YtaddclaadbjnlaaGreat
