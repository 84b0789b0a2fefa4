/-
  The weight of a tuple along a word: what the program's function computes.
  No condition but bounds.
-/
import Derived.Test.YtfmcaflefiapoaaWtL
import Derived.Test.YtfmcaflefiapoaaTupI
import Derived.Test.YtfmcaflefiapoaaActI
namespace Go.Proofs.Ytfmcaflefiapoaa
set_option maxRecDepth 100000
set_option linter.unusedVariables false
set_option linter.unusedSimpArgs false
open Go.RowKit

theorem Tbl.gridM {w : World} {a : Option Addr} {n m : Nat} {t : List (List Int)} (h : Tbl w a n t) (hs : SqM n m t) (hn : 0 < n) : ∃ b off A O C, a = some ⟨b, off, none⟩ ∧ Grid w b off A O C n t := by
  obtain ⟨b, off, ai, ni, ci, ha, hb, _⟩ := h.2 0 hn
  have H : ∀ x, ∃ q : Nat × Nat × Nat, x < n → w.cell? ⟨b, off + x, none⟩ = some (.slice (some ⟨q.1, q.2.1, none⟩) n q.2.2) ∧ q.1 < w.heap.size ∧ ∀ y, y < n → w.cell? ⟨q.1, q.2.1 + y, none⟩ = some (.int .i64 ((tv t x y : Nat) : Int)) := by
    intro x
    by_cases hx : x < n
    · obtain ⟨b', off', ax, nx, cx, e, _, hc, hr, _⟩ := h.2 x hx
      rw [ha] at e; cases e
      have hl : nx = n := by rw [hr.len, (hs.2 x hx).1]
      subst hl
      obtain ⟨bx, ox, e, hbx, hcx⟩ := hr.all hn
      subst e
      exact ⟨(bx, ox, cx), fun _ => ⟨hc, hbx, fun y hy => by rw [hcx y hy, ((hs.2 x hx).2 y hy).2]⟩⟩
    · exact ⟨(0, 0, 0), fun h => absurd h hx⟩
  obtain ⟨Q, hQ⟩ := Classical.axiomOfChoice H
  exact ⟨b, off, fun x => (Q x).1, fun x => (Q x).2.1, fun x => (Q x).2.2, ha, hb, fun x hx => (hQ x hx).1, fun x hx => (hQ x hx).2.1, fun x y hx hy => (hQ x hx).2.2 y hy⟩

/-- a word of letters of s strands -/
def IsWd (s : Nat) (xs : List Int) : Prop := xs.length ≤ 30 ∧ ∀ x ∈ xs, x ≠ 0 ∧ 1 - (s : Int) ≤ x ∧ x ≤ (s : Int) - 1
theorem IsWd.plc {s : Nat} {xs : List Int} (h : IsWd s xs) (x : Int) (hx : x ∈ xs) : 0 ≤ plc x ∧ plc x + 1 < s := by
  have := h.2 x hx
  unfold Proofs.Ytfmcaflefiapoaa.plc; split <;> omega

set_option maxHeartbeats 8000000 in
theorem weightOf_any (a : Option Addr) (n c : Nat) (a' : Option Addr) (c' : Nat) (b : Option Addr) (d : Nat) (b' : Option Addr) (d' : Nat) (f g : List (List Int)) (m : Int) (am : Option Addr) (cm : Nat) (M : List (List Int)) (s : Nat) (ab : Option Addr) (nb cb : Nat) (xs : List Int) (al : Option Addr) (cl : Nat) (l : List Int) (w : World)
    (h1 : Tbl w a n f) (h2 : Tbl w a' n g) (h3 : Tbl w b n (bfT n f g)) (h4 : Tbl w b' n (bgT n f g)) (hn1 : 1 ≤ n) (hf : Sq n f) (hg : Sq n g) (hc : collOk n f g = true)
    (hmm : 1 ≤ m ∧ m ≤ 12) (hM : SqM n m.toNat M) (h5 : Tbl w am n M) (hr : Row w ab nb xs) (hwd : IsWd s xs) (hs2 : 2 ≤ s) (hs6 : s ≤ 6) (hl : Row w al s l) (hle : Less n l) :
    Calls Try.prog 60 #[aAgg a n c a' c' b d b' d', .int .i64 m, .slice am n cm, .slice ab nb cb, .slice al s cl] w fun e w' => e = .returned (.int .i64 (wtF n f g M m xs l)) ∧ Below w.heap.size w w' := by
  have hll := hl.len
  have hrl := hr.len
  have hn30 : nb ≤ 30 := by have := hwd.1; omega
  have hlt2 : ∀ k, Less n (actL n f g (xs.take k) l) := fun k => hle.act hn1 hf hg hc _ (fun x hx => by have := hwd.plc x (List.mem_of_mem_take hx); omega)
  have hlen2 : ∀ k, (actL n f g (xs.take k) l).length = s := fun k => by rw [actL_len]; exact hll.symm
  obtain ⟨hm1, hm2⟩ := hmm
  have HWD := Lib.hid hwd; have HLT := Lib.hid hlt2; have HLEN := Lib.hid hlen2; have HRL := Lib.hid hrl
  have HSF := Lib.hid hf; have HSG := Lib.hid hg; have HC := Lib.hid hc; have HM := Lib.hid hM
  obtain ⟨bM, oM, AM, OM, CM, rfl, gM⟩ := h5.gridM hM (by omega)
  clear hwd hlt2 hlen2 hf hg hc hM hrl hll h5
  have hA := Loc.new w rfl #[.slice a n c, .slice a' n c', .slice b n d, .slice b' n d'] 76
  have hB := below_al (Below.refl w.heap.size w) (.cells #[.slice a n c, .slice a' n c', .slice b n d, .slice b' n d'] 76)
  have hl0 := hl.alloc (.cells #[.slice a n c, .slice a' n c', .slice b n d, .slice b' n d'] 76)
  have hm0 : m ≠ 0 := by omega
  go_enter Try.func60, Try.ntmps60
  go_wp2
  go_loopw [4, 11, 18] (fun t z i wr => ∃ (k : Nat) (ao : Option Addr) (co : Nat) (S : Int), k ≤ nb ∧ i = .int .i64 k ∧ t = .slice ao s co ∧ z = .int .i64 S ∧ Hid (S = wtS n f g M m (xs.take k) l) ∧ (0 ≤ S ∧ S ≤ 12 * k) ∧ Row wr ao s (actL n f g (xs.take k) l) ∧ Loc wr w.heap.size #[.slice a n c, .slice a' n c', .slice b n d, .slice b' n d'] 76 ∧ Below w.heap.size w wr) (fun _ _ i _ => nb - (intOf i).toNat)
  case atStart => exact ⟨0, _, _, 0, Nat.zero_le _, rfl, rfl, rfl, Lib.hid (by simp [wtS]), by omega, by simpa [actL] using hl0, hA, hB⟩
  case round =>
    clear hl0 hA hB hl
    obtain ⟨k, ao, co, S, hk, rfl, rfl, rfl, hS, hSb, ho, hA, hB⟩ := hrel
    obtain ⟨W, rfl⟩ : ∃ W : World, W = wr := ⟨_, rfl⟩
    obtain ⟨hS0, hS1⟩ := hSb
    have lA := hA.four
    by_cases hlt : k < nb
    · have hr2 := hr.below hB
      obtain ⟨bb, off, rfl, g1⟩ := hr2.at k hlt
      have hx : k < xs.length := by have := HRL.out; omega
      rw [getD_eq_at hx] at g1
      have hle2 := HWD.out.2 xs[k] (List.getElem_mem hx)
      have hpl2 := HWD.out.plc xs[k] (List.getElem_mem hx)
      have hst := actL_take n f g xs l k hx
      have hwt := wtS_take n f g M m xs l k hx
      have b1 : -1000 ≤ xs[k] := by omega
      have b2 : xs[k] ≤ 1000 := by omega
      have LT := HLT.out k
      have LT2 := HLT.out (k + 1)
      have LEN := HLEN.out k
      have LEN2 := HLEN.out (k + 1)
      obtain ⟨j, hj⟩ : ∃ j : Nat, plc xs[k] = j := ⟨(plc xs[k]).toNat, by omega⟩
      have hjs : j + 1 < s := by omega
      obtain ⟨p0, p1⟩ := hpl2
      have hne0 : xs[k] ≠ 0 := hle2.1
      have HJ := Lib.hid hj
      have hbd := wtT_bd HM.out ⟨hm1, hm2⟩ (x := xs[k]) LT LT2 (by omega) (by omega)
      have HS2 : Hid (wtS n f g M m (xs.take (k + 1)) l = S + wtT M m xs[k] (actL n f g (xs.take k) l) (actL n f g (xs.take (k + 1)) l)) := Lib.hid (by rw [hwt, hS.out])
      have T1 := h1.below hB; have T2 := h2.below hB; have T3 := h3.below hB; have T4 := h4.below hB
      rw [hst] at LT2 LEN2 hbd HS2
      have HST := Lib.hid hst
      clear hle2 hst hwt
      generalize actL n f g (xs.take k) l = L at *
      generalize xs[k] = X at *
      have i1 : (0 : Int) ≤ (j : Int) := by omega
      have i2 : (j : Int) ≤ (s : Int) := by omega
      have i3 : (j : Int) < (s : Int) := by omega
      have i4 : ((j + 1 : Nat) : Int) < (s : Int) := by omega
      have i5 : (j : Int) + 1 < (s : Int) := by omega
      have hwj : IntKind.i64.wrap ((j : Int) + 1) = ((j + 1 : Nat) : Int) := (IntWalk.i64_in _ (by omega)).trans (by simp)
      go_wp2_with fail
      refine (step_any _ _ _ _ _ _ _ _ _ f g _ _ _ L X _ T1 T2 T3 T4 hn1 HSF.out HSG.out HC.out ho (by omega) b1 b2 p0 p1 LT).mono ?_
      rintro e w2 ⟨ao2, co2, rfl, ho2, hb2⟩
      have hA2 := hA.below hb2 hA.lt
      have hB2 := below_th hB hb2
      have hor := ho.below hb2
      have gM2 := gM.below hB2
      clear hA hB lA T1 T2 T3 T4 g1 hr2
      by_cases hpos : 0 < X
      · obtain ⟨u, hu, eu⟩ := LT j (by omega)
        obtain ⟨v, hv, ev⟩ := LT (j + 1) (by omega)
        obtain ⟨bt, ot, e1, kx⟩ := hor.at j (by omega)
        obtain ⟨bt', ot', e2, ky⟩ := hor.at (j + 1) (by omega)
        rw [e1] at e2; cases e2; subst e1
        rw [eu] at kx; rw [ev] at ky
        obtain ⟨rM, kM⟩ := gM2.look hu hv
        have hval : wtT M m X L (stepL n f g X L) = ((tv M u v : Nat) : Int) := by unfold wtT; rw [if_pos hpos, hj, Int.toNat_natCast, eu, ev]; simp
        rw [hval] at HS2 hbd
        generalize tv M u v = T at *
        have hsum : IntKind.i64.wrap (S + (T : Int)) = S + (T : Int) := IntWalk.i64_in _ (by omega)
        have hb0 : decide (0 < X) = true := by simpa using hpos
        clear hval eu ev hj
        go_wp2_with fail
        refine (placeOf_any _ _ b1 b2).mono ?_
        rintro e w3 ⟨rfl, hw3⟩
        subst hw3
        rw [HJ.out]
        go_wp2
        go_quiet (fail)
        go_wp2
        go_roundw
        case rel => exact ⟨k + 1, _, _, _, by omega, by go_num, rfl, rfl, Lib.hid HS2.out.symm, by omega, by rw [HST.out]; exact ho2.row.drewN _, hA2.drewN _, below_drewN hB2 _⟩
        case measure => simp [intOf]; omega
      · obtain ⟨u, hu, eu⟩ := LT2 j (by omega)
        obtain ⟨v, hv, ev⟩ := LT2 (j + 1) (by omega)
        obtain ⟨bt, ot, e1, kx⟩ := ho2.row.at j (by omega)
        obtain ⟨bt', ot', e2, ky⟩ := ho2.row.at (j + 1) (by omega)
        rw [e1] at e2; cases e2; subst e1
        rw [eu] at kx; rw [ev] at ky
        obtain ⟨rM, kM⟩ := gM2.look hu hv
        have hval : wtT M m X L (stepL n f g X L) = m - ((tv M u v : Nat) : Int) := by unfold wtT; rw [if_neg hpos, hj, Int.toNat_natCast, eu, ev]; simp
        rw [hval] at HS2 hbd
        generalize tv M u v = T at *
        have hsub : IntKind.i64.wrap (m - (T : Int)) = m - (T : Int) := IntWalk.i64_in _ (by omega)
        have hsum : IntKind.i64.wrap (S + (m - (T : Int))) = S + (m - (T : Int)) := IntWalk.i64_in _ (by omega)
        have hb0 : decide (0 < X) = false := by simpa using hpos
        clear hval eu ev hj
        go_wp2_with fail
        refine (placeOf_any _ _ b1 b2).mono ?_
        rintro e w3 ⟨rfl, hw3⟩
        subst hw3
        rw [HJ.out]
        go_wp2
        go_quiet (fail)
        go_wp2
        go_roundw
        case rel => exact ⟨k + 1, _, _, _, by omega, by go_num, rfl, rfl, Lib.hid HS2.out.symm, by omega, by rw [HST.out]; exact ho2.row.drewN _, hA2.drewN _, below_drewN hB2 _⟩
        case measure => simp [intOf]; omega
    · obtain rfl : k = nb := by omega
      have e1 := hS.out
      rw [List.take_of_length_le (by have := HRL.out; omega)] at e1
      have HV : Hid (wtF n f g M m xs l = S % m) := Lib.hid (by unfold wtF; rw [← e1])
      have hrem : S.tmod m = S % m := IntWalk.rem_in _ _ (by omega)
      have v0 : 0 ≤ S % m := Int.emod_nonneg _ (by omega)
      have v1 : S % m < m := Int.emod_lt_of_pos _ (by omega)
      clear e1
      generalize S % m = V at *
      have w7 : IntKind.i64.wrap V = V := IntWalk.i64_in _ (by omega)
      go_wp2
      go_ret
      exact ⟨ret_int HV.out.symm, hB⟩

end Go.Proofs.Ytfmcaflefiapoaa
