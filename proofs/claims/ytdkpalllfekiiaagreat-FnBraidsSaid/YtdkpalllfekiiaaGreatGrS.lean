/-
  The reference's permutations of letters and of the half twist; what a permutation braid begins and ends with.
  No condition but bounds.
-/
import Derived.Test.YtdkpalllfekiiaaGreatFac
namespace Go.Proofs.YtdkpalllfekiiaaGreat
set_option maxRecDepth 100000
set_option linter.unusedVariables false
set_option linter.unusedSimpArgs false
open Go.RowKit

set_option maxHeartbeats 1000000 in
theorem l16Step_any (n k : Nat) (w : World) (hn : n ≤ 6) (hk : k + 1 < n) :
    Calls Tryz.prog 66 #[.int .i64 n, .int .i64 k] w fun e w' => ∃ a c, e = .returned (.slice a n c) ∧ Own w' w.heap.size a n c (toL n (Pm.s k)) ∧ Below w.heap.size w w' := by
  have HS : Hid (((unitL n).set k ((k + 1 : Nat) : Int)).set (k + 1) (k : Int) = toL n (Pm.s k)) := Lib.hid (by
    refine toL_ext (by simp [unitL_len]) fun i hi => ?_
    rw [getD_setz _ _ _ _ (by simp [unitL_len, hi]), getD_setz _ _ _ _ (by simp [unitL_len, hi])]
    show _ = ((sg k i : Nat) : Int)
    unfold sg
    by_cases e1 : i = k + 1
    · rw [if_pos e1, if_neg (by omega), if_pos e1]
    · rw [if_neg e1]
      by_cases e2 : i = k
      · rw [if_pos e2, if_pos e2]
      · rw [if_neg e2, if_neg e2, if_neg e1, unitL_get n i hi])
  go_enter Tryz.func66, Tryz.ntmps66
  go_wp2_with fail
  refine (l01Unit_any n _ (by omega)).mono ?_
  rintro e w1 ⟨ap, cp, rfl, ho, hb1⟩
  obtain ⟨gp, op, rfl, _⟩ := ho.row.at k (by omega)
  obtain ⟨rfl, hc, hf⟩ := ho.cells
  have hcj := hc k (by omega)
  have hcj1 := hc (k + 1) (by omega)
  have hfj := hf k
  have hfj1 := hf (k + 1)
  have i1 : (0 : Int) ≤ (k : Int) := by omega
  have i2 : (k : Int) < (n : Int) := by omega
  have hgp : w.heap.size ≤ gp := ho.lt.1
  have hwj : IntKind.i64.wrap ((k : Int) + 1) = ((k + 1 : Nat) : Int) := (IntWalk.i64_in _ (by omega)).trans (by simp)
  clear hc hf
  have ho2 := ho.set k ((k + 1 : Nat) : Int)
  obtain ⟨_, hc2, hf2⟩ := ho2.cells
  have hcj2 := hc2 (k + 1) (by omega)
  have hfj2 := hf2 (k + 1)
  clear hc2 hf2
  go_wp2
  go_ret
  refine ⟨_, _, rfl, ?_, below_setne (below_setne (a := ⟨gp, k, none⟩) hb1 hgp _) (a := ⟨gp, k + 1, none⟩) hgp _⟩
  rw [← HS.out]
  exact ((ho.set k ((k + 1 : Nat) : Int)).set (k + 1) (k : Int))

instance decSt (p : Pm) (k : Nat) : Decidable (St p k) := by unfold St; infer_instance
instance decEn (p : Pm) (k : Nat) : Decidable (En p k) := by unfold En; infer_instance
set_option maxHeartbeats 1000000 in
theorem l16Begins_any (n k : Nat) (a : Option Addr) (c : Nat) (p : Pm) (w : World) (h : Row w a n (toL n p)) (hn : n ≤ 6) (hk : k + 1 < n) :
    Calls Tryz.prog 69 #[.slice a n c, .int .i64 k] w fun e w' => e = .returned (.bool (decide (St p k))) ∧ Below w.heap.size w w' := by
  obtain ⟨g2, o2, rfl, x1⟩ := h.at k (by omega)
  obtain ⟨g2', o2', e2, x2⟩ := h.at (k + 1) hk
  cases e2
  rw [toL_get (by omega)] at x1
  rw [toL_get hk] at x2
  have i1 : (0 : Int) ≤ (k : Int) := by omega
  have i2 : (k : Int) < (n : Int) := by omega
  have i3 : ((k + 1 : Nat) : Int) < (n : Int) := by omega
  have hwk : IntKind.i64.wrap ((k : Int) + 1) = ((k + 1 : Nat) : Int) := (IntWalk.i64_in _ (by omega)).trans (by simp)
  obtain ⟨u, HU⟩ : ∃ u, Hid (p.f k = u) := ⟨_, rfl⟩
  obtain ⟨v, HV⟩ : ∃ v, Hid (p.f (k + 1) = v) := ⟨_, rfl⟩
  rw [HU.out] at x1
  rw [HV.out] at x2
  have HD : Hid (decide (v < u) = decide (St p k)) := Lib.hid (by
    rw [← HU.out, ← HV.out]; exact decide_eq_decide.2 Iff.rfl)
  go_enter Tryz.func69, Tryz.ntmps69
  go_wp2
  go_quiet (fail)
  go_wp2
  go_ret
  exact ⟨ret_bool HD.out, below_drewN (Below.refl _ _) _⟩
set_option maxHeartbeats 1000000 in
theorem l16Ends_any (n k : Nat) (a : Option Addr) (c : Nat) (p : Pm) (w : World) (h : Row w a n (toL n p)) (hp : Fx n p) (hn : n ≤ 6) (hk : k + 1 < n) :
    Calls Tryz.prog 70 #[.slice a n c, .int .i64 k] w fun e w' => e = .returned (.bool (decide (En p k))) ∧ Below w.heap.size w w' := by
  have HB := Lib.hid (back_toL hp)
  have hm := toL_mem hp
  go_enter Tryz.func70, Tryz.ntmps70
  go_wp2_with fail
  refine (l01Back_any a n c (toL n p) w h (by omega) hm).mono ?_
  rintro e w1 ⟨a1, c1, rfl, ho1, hb1⟩
  rw [HB.out] at ho1
  obtain ⟨g2, o2, rfl, x1⟩ := ho1.row.at k (by omega)
  obtain ⟨g2', o2', e2, x2⟩ := ho1.row.at (k + 1) hk
  cases e2
  rw [toL_get (by omega)] at x1
  rw [toL_get hk] at x2
  have i1 : (0 : Int) ≤ (k : Int) := by omega
  have i2 : (k : Int) < (n : Int) := by omega
  have i3 : ((k + 1 : Nat) : Int) < (n : Int) := by omega
  have hwk : IntKind.i64.wrap ((k : Int) + 1) = ((k + 1 : Nat) : Int) := (IntWalk.i64_in _ (by omega)).trans (by simp)
  obtain ⟨u, HU⟩ : ∃ u, Hid (p.iv.f k = u) := ⟨_, rfl⟩
  obtain ⟨v, HV⟩ : ∃ v, Hid (p.iv.f (k + 1) = v) := ⟨_, rfl⟩
  rw [HU.out] at x1
  rw [HV.out] at x2
  have HD : Hid (decide (v < u) = decide (En p k)) := Lib.hid (by
    rw [← HU.out, ← HV.out]; exact decide_eq_decide.2 Iff.rfl)
  go_wp2
  go_quiet (fail)
  go_wp2
  go_ret
  exact ⟨ret_bool HD.out, below_drewN hb1 _⟩

set_option maxHeartbeats 1000000 in
theorem l16Turned_any (n : Nat) (w : World) (hn1 : 1 ≤ n) (hn : n ≤ 6) :
    Calls Tryz.prog 65 #[.int .i64 n] w fun e w' => ∃ a c, e = .returned (.slice a n c) ∧ Own w' w.heap.size a n c (toL n (Pm.tw n)) ∧ Below w.heap.size w w' := by
  have HT : Hid (∀ k, k < n → (toL n (Pm.tw n)).take (k + 1) = (toL n (Pm.tw n)).take k ++ [((n - 1 - k : Nat) : Int)]) := Lib.hid fun k hk => by
    have hl : k < (toL n (Pm.tw n)).length := by rw [toL_len]; exact hk
    rw [List.take_succ_eq_append_getElem hl, ← getD_at hl, toL_get hk]
    show _ ++ [((twf n k : Nat) : Int)] = _
    rw [twf_in hk]
  have HL := Lib.hid (toL_len n (Pm.tw n))
  obtain ⟨T, HTT⟩ : ∃ T, Hid (toL n (Pm.tw n) = T) := ⟨_, rfl⟩
  rw [HTT.out] at HT HL
  rw [HTT.out]
  have hO : Own (w.alloc (.cells #[] 2)) w.heap.size (some ⟨w.heap.size, 0, none⟩) 0 0 [] := Own.mk rfl (Nat.le_refl _) (Loc.new w rfl _ _) (Nat.le_refl _) (by unfold maxLen; omega) rfl rfl
  have hB := below_al (Below.refl w.heap.size w) (.cells #[] 2)
  have hwn : IntKind.i64.wrap ((n : Int) - 1) = (n : Int) - 1 := IntWalk.i64_in _ (by omega)
  go_enter Tryz.func65, Tryz.ntmps65
  go_wp2
  go_loopw [3, 4] (fun z i wr => ∃ (k : Nat) (az : Option Addr) (cz : Nat), k ≤ n ∧ i = .int .i64 ((n : Int) - 1 - k) ∧ z = .slice az k cz ∧ Own wr w.heap.size az k cz (T.take k) ∧ Below w.heap.size w wr) (fun _ i _ => (intOf i + 1).toNat)
  case atStart => exact ⟨0, _, 0, Nat.zero_le _, by simp, rfl, by simpa using hO, hB⟩
  case round =>
    clear hO hB
    obtain ⟨k, az, cz, hk, rfl, rfl, ho, hb⟩ := hrel
    by_cases hlt : k < n
    · have i1 : (0 : Int) ≤ (n : Int) - 1 - (k : Int) := by omega
      have HK := Lib.hid (HT.out k hlt)
      have hv : (n : Int) - 1 - (k : Int) = ((n - 1 - k : Nat) : Int) := by omega
      have hw2 : IntKind.i64.wrap ((n : Int) - 1 - (k : Int) - 1) = (n : Int) - 1 - ((k + 1 : Nat) : Int) := (IntWalk.i64_in _ (by omega)).trans (by omega)
      have HV := Lib.hid hv
      clear hv
      have hbz := hb.size
      go_wp2_with (at_builtin; refine app1 rfl rfl ho rfl rfl (by omega) hbz ?_; intro g' cc w8 hO8 hg8 hs8 hb8)
      go_roundw
      case rel => exact ⟨k + 1, _, cc, by omega, by simp, rfl, by rw [HK.out, ← HV.out]; exact hO8, hb.trans hb8⟩
      case measure => simp [intOf]; omega
    · obtain rfl : n = k := by omega
      have i1 : ¬ (0 : Int) ≤ (n : Int) - 1 - (n : Int) := by omega
      have hT2 : T.take n = T := List.take_of_length_le (by rw [HL.out]; exact Nat.le_refl _)
      rw [hT2] at ho
      clear hT2
      go_wp2
      go_ret
      exact ⟨az, cz, rfl, ho, hb⟩

/-- the turned permutation, as it is filled from behind -/
def turnP (n : Nat) (p : Pm) (k : Nat) : List Int := (List.range n).map fun j => if n ≤ j + k then (((tauP n p).f j : Nat) : Int) else 0
theorem turnP_zero (n : Nat) (p : Pm) : turnP n p 0 = List.replicate n 0 := by
  apply List.ext_getElem (by simp [turnP])
  intro i h1 h2
  have hi : i < n := by simpa [turnP] using h1
  simp [turnP]; omega
theorem turnP_all (n : Nat) (p : Pm) : turnP n p n = toL n (tauP n p) := by
  unfold turnP toL
  exact List.map_congr_left fun i hi => by rw [if_pos (by omega)]
theorem turnP_step {n : Nat} {p : Pm} {k : Nat} (hp : Fx n p) (hk : k < n) : (turnP n p k).set (n - 1 - k) ((n : Int) - 1 - ((p.f k : Nat) : Int)) = turnP n p (k + 1) := by
  have hv : ((n : Int) - 1 - ((p.f k : Nat) : Int)) = (((tauP n p).f (n - 1 - k) : Nat) : Int) := by
    show _ = ((twf n (p.f (twf n (n - 1 - k))) : Nat) : Int)
    have h1 : twf n (n - 1 - k) = k := by rw [twf_in (by omega)]; omega
    rw [h1, twf_in (hp.lt hk)]
    have := hp.lt hk; omega
  rw [hv]
  apply List.ext_getElem (by simp [turnP])
  intro i h1 h2
  have hi : i < n := by simpa [turnP] using h2
  rw [List.getElem_set]
  by_cases e : n - 1 - k = i
  · rw [if_pos e]
    simp only [turnP, List.getElem_map, List.getElem_range]
    rw [if_pos (by omega), e]
  · rw [if_neg e]
    simp only [turnP, List.getElem_map, List.getElem_range]
    by_cases e2 : n ≤ i + k
    · rw [if_pos e2, if_pos (by omega)]
    · rw [if_neg e2, if_neg (by omega)]

set_option maxHeartbeats 2000000 in
theorem l16Turn_any (n : Nat) (a : Option Addr) (c : Nat) (p : Pm) (w : World) (h : Row w a n (toL n p)) (hp : Fx n p) (hn1 : 1 ≤ n) (hn : n ≤ 6) :
    Calls Tryz.prog 67 #[.slice a n c] w fun e w' => ∃ a' c', e = .returned (.slice a' n c') ∧ Own w' w.heap.size a' n c' (toL n (tauP n p)) ∧ Below w.heap.size w w' := by
  have HS := Lib.hid (fun k hk => turnP_step (n := n) (p := p) (k := k) hp hk)
  have HA := Lib.hid (turnP_all n p)
  have HZ := Lib.hid (turnP_zero n p)
  have HPL := Lib.hid (fun k (hk : k < n) => hp.lt hk)
  have hwn : IntKind.i64.wrap ((n : Int) - 1) = (n : Int) - 1 := IntWalk.i64_in _ (by omega)
  clear hp
  go_enter Tryz.func67, Tryz.ntmps67
  go_wp2_with (at_make; refine make1 rfl rfl rfl rfl (by omega) ?_; intro w1 ho1 hs1 hb1)
  go_loopw [5] (fun i wr => ∃ k : Nat, k ≤ n ∧ i = .int .i64 k ∧ Own wr w.heap.size (some ⟨w.heap.size, 0, none⟩) n n (turnP n p k) ∧ Below w.heap.size w wr) (fun i _ => n - (intOf i).toNat)
  case atStart => exact ⟨0, Nat.zero_le _, rfl, by rw [HZ.out]; exact ho1, hb1⟩
  case round =>
    clear ho1 hb1
    obtain ⟨k, hk, rfl, ho, hq⟩ := hrel
    by_cases hlt : k < n
    · obtain ⟨b, off, rfl, g1⟩ := (h.below hq).at k hlt
      rw [toL_get hlt] at g1
      have hpl := HPL.out k hlt
      have HST := Lib.hid (HS.out k hlt)
      obtain ⟨u, HU⟩ : ∃ u, Hid (p.f k = u) := ⟨_, rfl⟩
      rw [HU.out] at g1 hpl HST
      obtain ⟨_, hc, hf⟩ := ho.cells
      have hcj := hc (n - 1 - k) (by omega)
      have hfj := hf (n - 1 - k)
      have i1 : (0 : Int) ≤ (k : Int) := by omega
      have i2 : (k : Int) < (n : Int) := by omega
      have hw2 : IntKind.i64.wrap ((n : Int) - 1 - (k : Int)) = ((n - 1 - k : Nat) : Int) := (IntWalk.i64_in _ (by omega)).trans (by omega)
      have hw3 : IntKind.i64.wrap ((n : Int) - 1 - (u : Int)) = (n : Int) - 1 - (u : Int) := IntWalk.i64_in _ (by omega)
      have i3 : ((n - 1 - k : Nat) : Int) < (n : Int) := by omega
      have i4 : (0 : Int) ≤ ((n - 1 - k : Nat) : Int) := by omega
      clear hc hf
      go_wp2
      go_roundw
      case rel => exact ⟨k + 1, by omega, by go_num, by rw [← HST.out]; exact ho.set (n - 1 - k) _, hq.setCell (Nat.le_refl _) _⟩
      case measure => simp [intOf]; omega
    · obtain rfl : n = k := by omega
      rw [HA.out] at ho
      go_wp2
      go_ret
      exact ⟨_, _, rfl, ho, hq⟩
end Go.Proofs.YtdkpalllfekiiaaGreat
