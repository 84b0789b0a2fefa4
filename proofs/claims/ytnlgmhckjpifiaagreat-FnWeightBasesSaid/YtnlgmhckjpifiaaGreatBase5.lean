/-
  Walks and plain laws of this seat, some texts in one.
  No condition but bounds on lengths.
-/
import Derived.Test.YtnlgmhckjpifiaaGreatBase3
import Derived.Test.YtnlgmhckjpifiaaGreatBase
import Derived.Test.YtnlgmhckjpifiaaGreatBase2
import Derived.IntWalk
import Derived.Deep.DeepCutAuto
import Derived.Deep.RegionHeld3
namespace Go.Proofs.YtnlgmhckjpifiaaGreat
set_option maxRecDepth 100000
set_option linter.unusedVariables false
set_option linter.unusedSimpArgs false
open Go.RowKit

set_option maxHeartbeats 1000000 in
theorem l03Quandle_any (a : Option Addr) (n c : Nat) (t : List (List Int)) (w : World) (h : Tbl w a n t) (hf : Sq n t) (hn1 : 1 ≤ n) (hn : n ≤ 12) :
    Calls Tryz.prog 184 #[rAgg a n c] w fun e w' => e = .returned (.bool (qndOk n t)) ∧ Below w.heap.size w w' := by
  have hA := Loc.new w rfl #[.slice a n c] 58
  have hB := below_al (Below.refl w.heap.size w) (.cells #[.slice a n c] 58)
  obtain ⟨bf, of, A, O, C, rfl, gf⟩ := h.grid hf (by omega)
  clear h hf
  go_enter Tryz.func184, Tryz.ntmps184
  go_wp2
  generalize w.alloc (.cells #[.slice (some ⟨bf, of, none⟩) n c] 58) = w0 at *
  have lA := hA.one
  go_loop [3] (fun i => ∃ k : Nat, k ≤ n ∧ i = .int .i64 k ∧ Hid (∀ j, j < k → tv t j j = j)) (fun i => n - (intOf i).toNat)
  case atStart => exact ⟨0, Nat.zero_le _, rfl, Lib.hid fun j hj => absurd hj (by omega)⟩
  case round =>
    obtain ⟨k, hk, rfl, hI⟩ := hrel
    by_cases hlt : k < n
    · obtain ⟨r1, k1⟩ := (gf.below hB).look hlt hlt
      have HD : Hid (∀ V, tv t k k = V → (V ≠ k → qndOk n t = false)) := Lib.hid fun V hV h0 => allN_no hlt (decide_eq_false (by rw [hV]; exact h0))
      generalize hV : tv t k k = V at *
      have HV := Lib.hid hV
      clear hV
      by_cases h0 : V = k
      · subst h0
        have hb : (((V : Nat) : Int) != ((V : Nat) : Int)) = false := by simp
        go_wp2
        go_round
        case rel =>
          refine ⟨V + 1, by omega, by go_num, Lib.hid fun j hj => ?_⟩
          by_cases e : j = V
          · subst e; exact HV.out
          · exact hI.out j (by omega)
        case measure => simp [intOf]; omega
      · have hb : (((V : Nat) : Int) != ((k : Nat) : Int)) = true := by simp; omega
        have HDF := Lib.hid (HD.out V rfl h0)
        go_wp2
        go_ret
        exact ⟨ret_bool (by rw [HDF.out]), hB⟩
    · obtain rfl : k = n := by omega
      have HDT : Hid (qndOk k t = true) := Lib.hid (allN_mk fun x hx => decide_eq_true (hI.out x hx))
      go_wp2
      go_ret
      exact ⟨ret_bool (by rw [HDT.out]), hB⟩
end Go.Proofs.YtnlgmhckjpifiaaGreat

namespace Go.Proofs.YtnlgmhckjpifiaaGreat
set_option maxRecDepth 100000
set_option linter.unusedVariables false
set_option linter.unusedSimpArgs false
open Go.RowKit

set_option maxHeartbeats 1000000 in
theorem tupleOf_any (n k N : Nat) (w : World) (hn1 : 1 ≤ n) (hn : n ≤ 1000000) (hk : k ≤ 1000000) (hN : N ≤ 1000000000000) :
    Calls Tryz.prog 97 #[.int .i64 n, .int .i64 k, .int .i64 N] w fun e w' => ∃ a c, e = .returned (.slice a k c) ∧ Own w' w.heap.size a k c (digL n k N) ∧ Below w.heap.size w w' := by
  go_enter Tryz.func97, Tryz.ntmps97
  go_wp2_with (at_make; refine make1 rfl rfl rfl rfl (by omega) ?_; intro w1 ho hs hb)
  have hn0 : (n : Int) ≠ 0 := by omega
  go_loopw [2, 8] (fun q i wr => ∃ j : Nat, j ≤ k ∧ i = .int .i64 ((k : Int) - 1 - j) ∧ q = .int .i64 ((N / n ^ j : Nat) : Int) ∧ Own wr w.heap.size (some ⟨w.heap.size, 0, none⟩) k k (digP n k N j) ∧ Below w.heap.size w wr) (fun _ i _ => (intOf i + 1).toNat)
  case atStart => exact ⟨0, Nat.zero_le _, by go_num, by simp, by rw [digP_zero]; exact ho, hb⟩
  case round =>
    clear ho hb
    obtain ⟨j, hj, rfl, rfl, ho, hb⟩ := hrel
    by_cases hlt : j < k
    · have hq : N / n ^ j ≤ N := Nat.div_le_self _ _
      have hst := digP_step n k N j hlt
      have hdv := div_pow_succ n j N
      obtain ⟨Q, hQ⟩ : ∃ Q, Q = N / n ^ j := ⟨_, rfl⟩
      rw [← hQ] at hq hst hdv ⊢
      have Qr : ((Q : Int)).tmod (n : Int) = ((Q % n : Nat) : Int) := by rw [Int.tmod_eq_emod_of_nonneg (by omega)]; simp
      have Qd : ((Q : Int)).tdiv (n : Int) = ((Q / n : Nat) : Int) := by rw [Int.tdiv_eq_ediv_of_nonneg (by omega)]; simp
      have b1 : Q % n ≤ Q := Nat.mod_le _ _
      have b2 : Q / n ≤ Q := Nat.div_le_self _ _
      have HST := Lib.hid hst; have HDV := Lib.hid hdv
      clear hst hdv hQ
      obtain ⟨i, hi⟩ : ∃ i : Nat, i = k - 1 - j := ⟨_, rfl⟩
      have hii : (k : Int) - 1 - (j : Int) = (i : Int) := by omega
      have hik : i < k := by omega
      rw [hii]
      have HI := Lib.hid hi; have HII := Lib.hid hii
      clear hi hii
      generalize hR : Q % n = R at *
      generalize hD : Q / n = D at *
      have HR := Lib.hid hR; have HD := Lib.hid hD; clear hR hD
      have Wr : IntKind.i64.wrap (R : Int) = (R : Int) := IntWalk.i64_in _ (by omega)
      have Wd : IntKind.i64.wrap (D : Int) = (D : Int) := IntWalk.i64_in _ (by omega)
      have Wi : IntKind.i64.wrap ((i : Int) - 1) = (i : Int) - 1 := IntWalk.i64_in _ (by omega)
      obtain ⟨_, hc, hf⟩ := ho.cells
      have hc1 := hc i hik
      have hf1 := hf i
      clear hc hf
      go_wp2
      go_roundw
      case rel =>
        refine ⟨j + 1, by omega, ?_, by rw [← HDV.out], ?_, hb.setCell (by simp) _⟩
        · have := HII.out
          congr 1
          omega
        · rw [← HST.out, ← HI.out]
          exact ho.set i _
      case measure => first | (simp [intOf]; done) | (simp [intOf]; omega)
    · obtain rfl : j = k := by omega
      have e1 : (j : Int) - 1 - (j : Int) = -1 := by omega
      rw [e1]
      rw [digP_full] at ho
      go_wp2
      go_ret
      exact ⟨_, _, rfl, ho, hb⟩

end Go.Proofs.YtnlgmhckjpifiaaGreat

namespace Go.Proofs.YtnlgmhckjpifiaaGreat
set_option maxRecDepth 100000
set_option linter.unusedVariables false
set_option linter.unusedSimpArgs false
open Go.RowKit

theorem Tbl.gridM {w : World} {a : Option Addr} {n m : Nat} {t : List (List Int)} (h : Tbl w a n t) (hs : SqM n m t) (hn : 0 < n) : ∃ b off A O C, a = some ⟨b, off, none⟩ ∧ Grid w b off A O C n t := by
  obtain ⟨b, off, ai, ni, ci, ha, hb, _⟩ := h.2 0 hn
  have H : ∀ x, ∃ q : Nat × Nat × Nat, x < n → w.cell? ⟨b, off + x, none⟩ = some (.slice (some ⟨q.1, q.2.1, none⟩) n q.2.2) ∧ q.1 < w.heap.size ∧ ∀ y, y < n → w.cell? ⟨q.1, q.2.1 + y, none⟩ = some (.int .i64 ((tv t x y : Nat) : Int)) := by
    intro x
    by_cases hx : x < n
    · obtain ⟨b', off', ax, nx, cx, e, _, hc, hr, _⟩ := h.2 x hx
      rw [ha] at e; cases e
      have hl : nx = n := by rw [hr.len, (hs.2 x hx).1]
      subst hl
      obtain ⟨bx, ox, e, hbx, hcx⟩ := hr.all hn
      subst e
      exact ⟨(bx, ox, cx), fun _ => ⟨hc, hbx, fun y hy => by rw [hcx y hy, ((hs.2 x hx).2 y hy).2]⟩⟩
    · exact ⟨(0, 0, 0), fun h => absurd h hx⟩
  obtain ⟨Q, hQ⟩ := Classical.axiomOfChoice H
  exact ⟨b, off, fun x => (Q x).1, fun x => (Q x).2.1, fun x => (Q x).2.2, ha, hb, fun x hx => (hQ x hx).1, fun x hx => (hQ x hx).2.1, fun x y hx hy => (hQ x hx).2.2 y hy⟩

/-- a word of letters of s strands -/
def IsWd (s : Nat) (xs : List Int) : Prop := xs.length ≤ 30 ∧ ∀ x ∈ xs, x ≠ 0 ∧ 1 - (s : Int) ≤ x ∧ x ≤ (s : Int) - 1
theorem IsWd.plc {s : Nat} {xs : List Int} (h : IsWd s xs) (x : Int) (hx : x ∈ xs) : 0 ≤ plc x ∧ plc x + 1 < s := by
  have := h.2 x hx
  unfold Proofs.YtnlgmhckjpifiaaGreat.plc; split <;> omega

set_option maxHeartbeats 8000000 in
theorem weightOf_any (a : Option Addr) (n c : Nat) (a' : Option Addr) (c' : Nat) (b : Option Addr) (d : Nat) (b' : Option Addr) (d' : Nat) (f g : List (List Int)) (m : Int) (am : Option Addr) (cm : Nat) (M : List (List Int)) (s : Nat) (ab : Option Addr) (nb cb : Nat) (xs : List Int) (al : Option Addr) (cl : Nat) (l : List Int) (w : World)
    (h1 : Tbl w a n f) (h2 : Tbl w a' n g) (h3 : Tbl w b n (bfT n f g)) (h4 : Tbl w b' n (bgT n f g)) (hn1 : 1 ≤ n) (hf : Sq n f) (hg : Sq n g) (hc : collOk n f g = true)
    (hmm : 1 ≤ m ∧ m ≤ 12) (hM : SqM n m.toNat M) (h5 : Tbl w am n M) (hr : Row w ab nb xs) (hwd : IsWd s xs) (hs2 : 2 ≤ s) (hs6 : s ≤ 6) (hl : Row w al s l) (hle : Less n l) :
    Calls Tryz.prog 80 #[aAgg a n c a' c' b d b' d', .int .i64 m, .slice am n cm, .slice ab nb cb, .slice al s cl] w fun e w' => e = .returned (.int .i64 (wtF n f g M m xs l)) ∧ Below w.heap.size w w' := by
  have hll := hl.len
  have hrl := hr.len
  have hn30 : nb ≤ 30 := by have := hwd.1; omega
  have hlt2 : ∀ k, Less n (actL n f g (xs.take k) l) := fun k => hle.act hn1 hf hg hc _ (fun x hx => by have := hwd.plc x (List.mem_of_mem_take hx); omega)
  have hlen2 : ∀ k, (actL n f g (xs.take k) l).length = s := fun k => by rw [actL_len]; exact hll.symm
  obtain ⟨hm1, hm2⟩ := hmm
  have HWD := Lib.hid hwd; have HLT := Lib.hid hlt2; have HLEN := Lib.hid hlen2; have HRL := Lib.hid hrl
  have HSF := Lib.hid hf; have HSG := Lib.hid hg; have HC := Lib.hid hc; have HM := Lib.hid hM
  obtain ⟨bM, oM, AM, OM, CM, rfl, gM⟩ := h5.gridM hM (by omega)
  clear hwd hlt2 hlen2 hf hg hc hM hrl hll h5
  have hA := Loc.new w rfl #[.slice a n c, .slice a' n c', .slice b n d, .slice b' n d'] 105
  have hB := below_al (Below.refl w.heap.size w) (.cells #[.slice a n c, .slice a' n c', .slice b n d, .slice b' n d'] 105)
  have hl0 := hl.alloc (.cells #[.slice a n c, .slice a' n c', .slice b n d, .slice b' n d'] 105)
  have hm0 : m ≠ 0 := by omega
  go_enter Tryz.func80, Tryz.ntmps80
  go_wp2
  go_loopw [4, 11, 18] (fun t z i wr => ∃ (k : Nat) (ao : Option Addr) (co : Nat) (S : Int), k ≤ nb ∧ i = .int .i64 k ∧ t = .slice ao s co ∧ z = .int .i64 S ∧ Hid (S = wtS n f g M m (xs.take k) l) ∧ (0 ≤ S ∧ S ≤ 12 * k) ∧ Row wr ao s (actL n f g (xs.take k) l) ∧ Loc wr w.heap.size #[.slice a n c, .slice a' n c', .slice b n d, .slice b' n d'] 105 ∧ Below w.heap.size w wr) (fun _ _ i _ => nb - (intOf i).toNat)
  case atStart => exact ⟨0, _, _, 0, Nat.zero_le _, rfl, rfl, rfl, Lib.hid (by simp [wtS]), by omega, by simpa [actL] using hl0, hA, hB⟩
  case round =>
    clear hl0 hA hB hl
    obtain ⟨k, ao, co, S, hk, rfl, rfl, rfl, hS, hSb, ho, hA, hB⟩ := hrel
    obtain ⟨W, rfl⟩ : ∃ W : World, W = wr := ⟨_, rfl⟩
    obtain ⟨hS0, hS1⟩ := hSb
    have lA := hA.four
    by_cases hlt : k < nb
    · have hr2 := hr.below hB
      obtain ⟨bb, off, rfl, g1⟩ := hr2.at k hlt
      have hx : k < xs.length := by have := HRL.out; omega
      rw [getD_eq_at hx] at g1
      have hle2 := HWD.out.2 xs[k] (List.getElem_mem hx)
      have hpl2 := HWD.out.plc xs[k] (List.getElem_mem hx)
      have hst := actL_take n f g xs l k hx
      have hwt := wtS_take n f g M m xs l k hx
      have b1 : -1000 ≤ xs[k] := by omega
      have b2 : xs[k] ≤ 1000 := by omega
      have LT := HLT.out k
      have LT2 := HLT.out (k + 1)
      have LEN := HLEN.out k
      have LEN2 := HLEN.out (k + 1)
      obtain ⟨j, hj⟩ : ∃ j : Nat, plc xs[k] = j := ⟨(plc xs[k]).toNat, by omega⟩
      have hjs : j + 1 < s := by omega
      obtain ⟨p0, p1⟩ := hpl2
      have hne0 : xs[k] ≠ 0 := hle2.1
      have HJ := Lib.hid hj
      have hbd := wtT_bd HM.out ⟨hm1, hm2⟩ (x := xs[k]) LT LT2 (by omega) (by omega)
      have HS2 : Hid (wtS n f g M m (xs.take (k + 1)) l = S + wtT M m xs[k] (actL n f g (xs.take k) l) (actL n f g (xs.take (k + 1)) l)) := Lib.hid (by rw [hwt, hS.out])
      have T1 := h1.below hB; have T2 := h2.below hB; have T3 := h3.below hB; have T4 := h4.below hB
      rw [hst] at LT2 LEN2 hbd HS2
      have HST := Lib.hid hst
      clear hle2 hst hwt
      generalize actL n f g (xs.take k) l = L at *
      generalize xs[k] = X at *
      have i1 : (0 : Int) ≤ (j : Int) := by omega
      have i2 : (j : Int) ≤ (s : Int) := by omega
      have i3 : (j : Int) < (s : Int) := by omega
      have i4 : ((j + 1 : Nat) : Int) < (s : Int) := by omega
      have i5 : (j : Int) + 1 < (s : Int) := by omega
      have hwj : IntKind.i64.wrap ((j : Int) + 1) = ((j + 1 : Nat) : Int) := (IntWalk.i64_in _ (by omega)).trans (by simp)
      go_wp2_with fail
      refine (step_any _ _ _ _ _ _ _ _ _ f g _ _ _ L X _ T1 T2 T3 T4 hn1 HSF.out HSG.out HC.out ho (by omega) b1 b2 p0 p1 LT).mono ?_
      rintro e w2 ⟨ao2, co2, rfl, ho2, hb2⟩
      have hA2 := hA.below hb2 hA.lt
      have hB2 := below_th hB hb2
      have hor := ho.below hb2
      have gM2 := gM.below hB2
      clear hA hB lA T1 T2 T3 T4 g1 hr2
      by_cases hpos : 0 < X
      · obtain ⟨u, hu, eu⟩ := LT j (by omega)
        obtain ⟨v, hv, ev⟩ := LT (j + 1) (by omega)
        obtain ⟨bt, ot, e1, kx⟩ := hor.at j (by omega)
        obtain ⟨bt', ot', e2, ky⟩ := hor.at (j + 1) (by omega)
        rw [e1] at e2; cases e2; subst e1
        rw [eu] at kx; rw [ev] at ky
        obtain ⟨rM, kM⟩ := gM2.look hu hv
        have hval : wtT M m X L (stepL n f g X L) = ((tv M u v : Nat) : Int) := by unfold wtT; rw [if_pos hpos, hj, Int.toNat_natCast, eu, ev]; simp
        rw [hval] at HS2 hbd
        generalize tv M u v = T at *
        have hsum : IntKind.i64.wrap (S + (T : Int)) = S + (T : Int) := IntWalk.i64_in _ (by omega)
        have hb0 : decide (0 < X) = true := by simpa using hpos
        clear hval eu ev hj
        go_wp2_with fail
        refine (placeOf_any _ _ b1 b2).mono ?_
        rintro e w3 ⟨rfl, hw3⟩
        subst hw3
        rw [HJ.out]
        go_wp2
        go_quiet (fail)
        go_wp2
        go_roundw
        case rel => exact ⟨k + 1, _, _, _, by omega, by go_num, rfl, rfl, Lib.hid HS2.out.symm, by omega, by rw [HST.out]; exact ho2.row.drewN _, hA2.drewN _, below_drewN hB2 _⟩
        case measure => simp [intOf]; omega
      · obtain ⟨u, hu, eu⟩ := LT2 j (by omega)
        obtain ⟨v, hv, ev⟩ := LT2 (j + 1) (by omega)
        obtain ⟨bt, ot, e1, kx⟩ := ho2.row.at j (by omega)
        obtain ⟨bt', ot', e2, ky⟩ := ho2.row.at (j + 1) (by omega)
        rw [e1] at e2; cases e2; subst e1
        rw [eu] at kx; rw [ev] at ky
        obtain ⟨rM, kM⟩ := gM2.look hu hv
        have hval : wtT M m X L (stepL n f g X L) = m - ((tv M u v : Nat) : Int) := by unfold wtT; rw [if_neg hpos, hj, Int.toNat_natCast, eu, ev]; simp
        rw [hval] at HS2 hbd
        generalize tv M u v = T at *
        have hsub : IntKind.i64.wrap (m - (T : Int)) = m - (T : Int) := IntWalk.i64_in _ (by omega)
        have hsum : IntKind.i64.wrap (S + (m - (T : Int))) = S + (m - (T : Int)) := IntWalk.i64_in _ (by omega)
        have hb0 : decide (0 < X) = false := by simpa using hpos
        clear hval eu ev hj
        go_wp2_with fail
        refine (placeOf_any _ _ b1 b2).mono ?_
        rintro e w3 ⟨rfl, hw3⟩
        subst hw3
        rw [HJ.out]
        go_wp2
        go_quiet (fail)
        go_wp2
        go_roundw
        case rel => exact ⟨k + 1, _, _, _, by omega, by go_num, rfl, rfl, Lib.hid HS2.out.symm, by omega, by rw [HST.out]; exact ho2.row.drewN _, hA2.drewN _, below_drewN hB2 _⟩
        case measure => simp [intOf]; omega
    · obtain rfl : k = nb := by omega
      have e1 := hS.out
      rw [List.take_of_length_le (by have := HRL.out; omega)] at e1
      have HV : Hid (wtF n f g M m xs l = S % m) := Lib.hid (by unfold wtF; rw [← e1])
      have hrem : S.tmod m = S % m := IntWalk.rem_in _ _ (by omega)
      have v0 : 0 ≤ S % m := Int.emod_nonneg _ (by omega)
      have v1 : S % m < m := Int.emod_lt_of_pos _ (by omega)
      clear e1
      generalize S % m = V at *
      have w7 : IntKind.i64.wrap V = V := IntWalk.i64_in _ (by omega)
      go_wp2
      go_ret
      exact ⟨ret_int HV.out.symm, hB⟩

end Go.Proofs.YtnlgmhckjpifiaaGreat

namespace Go.Proofs.YtnlgmhckjpifiaaGreat
set_option maxRecDepth 100000
set_option linter.unusedVariables false
set_option linter.unusedSimpArgs false
open Go.RowKit

theorem isBr_mk {s : Nat} {xs : List Int} (hs2 : 2 ≤ s) (hs6 : s ≤ 6) (h : IsWd s xs) : isBr s xs = true := by
  have e1 : wrap64 (1 - (s : Int)) = 1 - (s : Int) := IntWalk.wrap64_in _ ⟨by omega, by omega⟩
  have e2 : wrap64 ((s : Int) - 1) = (s : Int) - 1 := IntWalk.wrap64_in _ ⟨by omega, by omega⟩
  unfold isBr
  rw [Bool.and_eq_true, Bool.and_eq_true, Bool.and_eq_true]
  refine ⟨⟨⟨decide_eq_true (by omega), decide_eq_true (by omega)⟩, decide_eq_true h.1⟩, ?_⟩
  rw [List.all_eq_true]
  intro x hx
  have := h.2 x hx
  unfold isLet
  rw [e1, e2]
  simp
  omega
theorem Row.lit1 {w : World} {b off : Nat} {x : Int} (h : w.cell? ⟨b, off, none⟩ = some (.int .i64 x)) : Row w (some ⟨b, off, none⟩) 1 [x] := by
  refine ⟨rfl, fun i hi => ?_⟩
  obtain rfl : i = 0 := by omega
  exact ⟨b, off, rfl, World.block_lt_of_cell? w _ h, h⟩
theorem isBr_wd {s : Nat} {xs : List Int} (h : isBr s xs = true) : IsWd s xs := ⟨(isBr_let h).2.1, (isBr_let h).2.2⟩
theorem IsWd.one {s : Nat} {xs : List Int} (h : IsWd s xs) {x : Int} (hx : x ∈ xs) : IsWd s [x] := ⟨by simp, fun y hy => by rw [List.mem_singleton] at hy; subst hy; exact h.2 _ hx⟩

set_option maxHeartbeats 8000000 in
theorem l18Sum_any (a : Option Addr) (n c : Nat) (a' : Option Addr) (c' : Nat) (f g : List (List Int)) (m : Int) (am : Option Addr) (cm : Nat) (M : List (List Int)) (s : Nat) (ab : Option Addr) (nb cb : Nat) (xs : List Int) (al : Option Addr) (cl : Nat) (l : List Int) (w : World)
    (h1 : Tbl w a n f) (h2 : Tbl w a' n g) (hn1 : 1 ≤ n) (hn12 : n ≤ 12) (hf : Sq n f) (hg : Sq n g) (hc : collOk n f g = true)
    (hmm : 1 ≤ m ∧ m ≤ 12) (hM : SqM n m.toNat M) (h5 : Tbl w am n M) (hr : Row w ab nb xs) (hcap : nb ≤ cb) (hcb : cb ≤ 9223372036854775807) (hwd : IsWd s xs) (hs2 : 2 ≤ s) (hs6 : s ≤ 6) (hl : Row w al s l) (hle : Less n l) :
    Calls Tryz.prog 88 #[sAgg a n c a' n c', .int .i64 m, .slice am n cm, bAgg s ab nb cb, .slice al s cl] w fun e w' => e = .returned (.int .i64 (wtF n f g M m xs l)) ∧ Below w.heap.size w w' := by
  have hll := hl.len
  have hrl := hr.len
  have hn30 : nb ≤ 30 := by have := hwd.1; omega
  have hlt2 : ∀ k, Less n (actL n f g (xs.take k) l) := fun k => hle.act hn1 hf hg hc _ (fun x hx => by have := hwd.plc x (List.mem_of_mem_take hx); omega)
  have hlen2 : ∀ k, (actL n f g (xs.take k) l).length = s := fun k => by rw [actL_len]; exact hll.symm
  obtain ⟨hm1, hm2⟩ := hmm
  have HWD := Lib.hid hwd; have HLT := Lib.hid hlt2; have HLEN := Lib.hid hlen2; have HRL := Lib.hid hrl
  have HSF := Lib.hid hf; have HSG := Lib.hid hg; have HC := Lib.hid hc; have HM := Lib.hid hM
  obtain ⟨bM, oM, AM, OM, CM, rfl, gM⟩ := h5.gridM hM (by omega)
  clear hwd hlt2 hlen2 hf hg hc hM hrl hll h5
  have hA := (Loc.new w rfl #[.slice a n c, .slice a' n c'] 29).alloc (.cells #[.int .i64 s, .slice ab nb cb] 32)
  have hE := Loc.new (w.alloc (.cells #[.slice a n c, .slice a' n c'] 29)) rfl #[.int .i64 s, .slice ab nb cb] 32
  rw [size_alloc] at hE
  have hB := below_al (below_al (Below.refl w.heap.size w) (.cells #[.slice a n c, .slice a' n c'] 29)) (.cells #[.int .i64 s, .slice ab nb cb] 32)
  have hm0 : m ≠ 0 := by omega
  go_enter Tryz.func88, Tryz.ntmps88
  go_wp2
  generalize (w.alloc (.cells #[.slice a n c, .slice a' n c'] 29)).alloc (.cells #[.int .i64 s, .slice ab nb cb] 32) = w0 at *
  go_loopw [4, 11, 12] (fun t z i wr => ∃ (k : Nat) (ao : Option Addr) (co : Nat) (S : Int), k ≤ nb ∧ i = .int .i64 k ∧ t = .slice ao s co ∧ z = .int .i64 S ∧ Hid (S = wtS n f g M m (xs.take k) l % m) ∧ (0 ≤ S ∧ S < m) ∧ Row wr ao s (actL n f g (xs.take k) l) ∧ Loc wr w.heap.size #[.slice a n c, .slice a' n c'] 29 ∧ Loc wr (w.heap.size + 1) #[.int .i64 s, .slice ab nb cb] 32 ∧ Below w.heap.size w wr) (fun _ _ i _ => nb - (intOf i).toNat)
  case atStart => exact ⟨0, _, _, 0, Nat.zero_le _, rfl, rfl, rfl, Lib.hid (by simp [wtS]), by omega, by simpa [actL] using hl.below hB, hA, hE, hB⟩
  case round =>
    clear hA hB hE hl
    obtain ⟨k, ao, co, S, hk, rfl, rfl, rfl, hS, hSb, ho, hA, hE, hB⟩ := hrel
    obtain ⟨W, rfl⟩ : ∃ W : World, W = wr := ⟨_, rfl⟩
    obtain ⟨hS0, hS1⟩ := hSb
    have lA := hA.two
    have lE := hE.two
    by_cases hlt : k < nb
    · have hr2 := hr.below hB
      obtain ⟨bb, off, rfl, g1⟩ := hr2.at k hlt
      have hx : k < xs.length := by have := HRL.out; omega
      rw [getD_eq_at hx] at g1
      have hmem : xs[k] ∈ xs := List.getElem_mem hx
      have hle2 := HWD.out.2 xs[k] hmem
      have hpl2 := HWD.out.plc xs[k] hmem
      have HBR : Hid (isBr s [xs[k]] = true) := Lib.hid (isBr_mk hs2 hs6 (HWD.out.one hmem))
      have hst := actL_take n f g xs l k hx
      have hwt := wtS_take n f g M m xs l k hx
      have LT := HLT.out k
      have LT2 := HLT.out (k + 1)
      have LEN := HLEN.out k
      have LEN2 := HLEN.out (k + 1)
      obtain ⟨j, hj⟩ : ∃ j : Nat, plc xs[k] = j := ⟨(plc xs[k]).toNat, by omega⟩
      have hjs : j + 1 < s := by omega
      have hne0 : xs[k] ≠ 0 := hle2.1
      have hbd := wtT_bd HM.out ⟨hm1, hm2⟩ (x := xs[k]) LT LT2 (by omega) (by omega)
      have hsplit : (xs[k] = ((j + 1 : Nat) : Int)) ∨ (xs[k] = -((j + 1 : Nat) : Int)) := by
        unfold plc at hj; split at hj <;> omega
      have HS2 : Hid (wtS n f g M m (xs.take (k + 1)) l % m = (S + wtT M m xs[k] (actL n f g (xs.take k) l) (actL n f g (xs.take (k + 1)) l)) % m) := Lib.hid (by rw [hwt, hS.out, Int.emod_add_emod])
      have T1 := h1.below hB; have T2 := h2.below hB
      rw [hst] at LT2 LEN2 hbd HS2
      have HST := Lib.hid hst
      have H1 : Hid (actL n f g [xs[k]] (actL n f g (xs.take k) l) = stepL n f g xs[k] (actL n f g (xs.take k) l)) := Lib.hid rfl
      have hrow1 := Row.lit1 g1
      clear hle2 hst hwt hmem
      generalize actL n f g (xs.take k) l = L at *
      generalize xs[k] = X at *
      have i1 : (0 : Int) ≤ (k : Int) := by omega
      have i2 : (k : Int) ≤ (nb : Int) := by omega
      have i3 : (k : Int) < (nb : Int) := by omega
      have i4 : ((k + 1 : Nat) : Int) ≤ (cb : Int) := by omega
      have i5 : (k : Int) + 1 ≤ (cb : Int) := by omega
      have hwk : IntKind.i64.wrap ((k : Int) + 1) = ((k + 1 : Nat) : Int) := (IntWalk.i64_in _ (by omega)).trans (by simp)
      have i6 : (0 : Int) ≤ (k : Int) + 1 := by omega
      have i7 : ¬ cb = k := by omega
      have lEa := (hE.alloc (.cells #[.int .i64 0, .slice none 0 0] 32)).two
      go_wp2
      go_region
      all_goals clear lEa
      all_goals go_wp2
      have hO := (Loc.new W rfl #[.int .i64 s, .slice (some ⟨bb, off + k, none⟩) 1 (cb - k)] 32).drew
      have hQ : Below W.heap.size W (W.alloc (.cells #[.int .i64 s, .slice (some ⟨bb, off + k, none⟩) 1 (cb - k)] 32)).drew := (below_al (Below.refl _ _) _).drew
      generalize (W.alloc (.cells #[.int .i64 s, .slice (some ⟨bb, off + k, none⟩) 1 (cb - k)] 32)).drew = w2 at *
      have hA2 := hA.below hQ hA.lt
      have hE2 := hE.below hQ hE.lt
      have hr3 := hrow1.below hQ
      have ho2 := ho.below hQ
      have g2 := (hQ.cell (p := ⟨bb, off + k, none⟩) (World.block_lt_of_cell? W _ g1)).trans g1
      have hbb : bb < w2.heap.size := World.block_lt_of_cell? w2 _ g2
      have hB2 := below_th hB hQ
      have lA2 := hA2.two
      have lE2 := hE2.two
      have lO2 := hO.two
      clear lA lE g1 hr2
      go_region_held3 (fun w' => ((w'.cell? ⟨w.heap.size, 0, none⟩ = some (.slice a n c) ∧ w'.cell? ⟨w.heap.size, 1, none⟩ = some (.slice a' n c')) ∧ (w'.cell? ⟨W.heap.size, 0, none⟩ = some (.int .i64 s) ∧ w'.cell? ⟨W.heap.size, 1, none⟩ = some (.slice (some ⟨bb, off + k, none⟩) 1 (cb - k)))) ∧ w'.cell? ⟨w.heap.size + 1, 1, none⟩ = some (.slice (some ⟨bb, off, none⟩) nb cb) ∧ w'.cell? ⟨bb, off + k, none⟩ = some (.int .i64 X))
        (first | exact ⟨⟨⟨lA3.1, lA3.2.1⟩, lO3.1, lO3.2.1⟩, lE3.2.1, g3⟩ | exact ⟨⟨⟨lA2.1, lA2.2.1⟩, lO2.1, lO2.2.1⟩, lE2.2.1, g2⟩)
        (first
          | (go_at_call 148; refine (l16Act_any _ _ _ _ _ f g s _ _ _ [X] _ _ L _ ((T1.below hQ).drewN 1) ((T2.below hQ).drewN 1) hn1 hn12 HSF.out HSG.out HC.out (hr3.drewN 1) HBR.out (ho2.drewN 1) LT).mono ?_; rintro e w3 ⟨ao3, co3, rfl, ho3, hb3⟩; have hq3 := below_undrew hb3; have lA3 := (hA2.below hq3 hA2.lt).two; have lE3 := (hE2.below hq3 hE2.lt).two; have lO3 := (hO.below hq3 hO.lt).two; have g3 := (hq3.cell (p := ⟨bb, off + k, none⟩) hbb).trans g2))
      rw [H1.out] at ho3
      have hA3 := hA2.below hq3 hA2.lt
      have hE3 := hE2.below hq3 hE2.lt
      have hor := ho2.below hq3
      have hB3 := below_th hB2 hq3
      have gM3 := gM.below hB3
      clear lA2 lA3 lE2 lE3 lO2 lO3 g2 g3
      have i8 : (0 : Int) ≤ (j : Int) := by omega
      have i9 : (j : Int) ≤ (s : Int) := by omega
      have i10 : (j : Int) < (s : Int) := by omega
      have i11 : ((j + 1 : Nat) : Int) < (s : Int) := by omega
      have i12 : (j : Int) + 1 < (s : Int) := by omega
      have i13 : (0 : Int) ≤ (j : Int) + 1 := by omega
      rcases hsplit with hX | hX
      · have hpos : 0 < X := by omega
        obtain ⟨u, hu, eu⟩ := LT j (by omega)
        obtain ⟨v, hv, ev⟩ := LT (j + 1) (by omega)
        obtain ⟨bt, ot, e1, kx⟩ := hor.at j (by omega)
        obtain ⟨bt', ot', e2, ky⟩ := hor.at (j + 1) (by omega)
        rw [e1] at e2; cases e2; subst e1
        rw [eu] at kx; rw [ev] at ky
        obtain ⟨rM, kM⟩ := gM3.look hu hv
        have hval : wtT M m X L (stepL n f g X L) = ((tv M u v : Nat) : Int) := by unfold wtT; rw [if_pos hpos, hj, Int.toNat_natCast, eu, ev]; simp
        rw [hval] at HS2 hbd
        generalize tv M u v = T at *
        subst hX
        have hwx : IntKind.i64.wrap (((j + 1 : Nat) : Int) - 1) = (j : Int) := (IntWalk.i64_in _ (by omega)).trans (by simp)
        have hsum : IntKind.i64.wrap (S + (T : Int)) = S + (T : Int) := IntWalk.i64_in _ (by omega)
        have hrem : (S + (T : Int)).tmod m = (S + (T : Int)) % m := IntWalk.rem_in _ _ (by omega)
        have v0 : 0 ≤ (S + (T : Int)) % m := Int.emod_nonneg _ (by omega)
        have v1 : (S + (T : Int)) % m < m := Int.emod_lt_of_pos _ (by omega)
        generalize (S + (T : Int)) % m = V at *
        have hwV : IntKind.i64.wrap V = V := IntWalk.i64_in _ (by omega)
        have hb0 : decide (0 < ((j + 1 : Nat) : Int)) = true := decide_eq_true (by omega)
        clear hval eu ev hj
        go_wp2
        go_quiet (fail)
        go_wp2
        go_roundw
        case rel => exact ⟨k + 1, _, _, _, by omega, by go_num, rfl, rfl, Lib.hid HS2.out.symm, by omega, by rw [HST.out]; exact ho3.row.drewN _, hA3.drewN _, hE3.drewN _, below_drewN hB3 _⟩
        case measure => simp [intOf]; omega
      · have hneg : ¬ 0 < X := by omega
        obtain ⟨u, hu, eu⟩ := LT2 j (by omega)
        obtain ⟨v, hv, ev⟩ := LT2 (j + 1) (by omega)
        obtain ⟨bt, ot, e1, kx⟩ := ho3.row.at j (by omega)
        obtain ⟨bt', ot', e2, ky⟩ := ho3.row.at (j + 1) (by omega)
        rw [e1] at e2; cases e2; subst e1
        rw [eu] at kx; rw [ev] at ky
        obtain ⟨rM, kM⟩ := gM3.look hu hv
        have hval : wtT M m X L (stepL n f g X L) = m - ((tv M u v : Nat) : Int) := by unfold wtT; rw [if_neg hneg, hj, Int.toNat_natCast, eu, ev]; simp
        rw [hval] at HS2 hbd
        generalize tv M u v = T at *
        have hwn : IntKind.i64.wrap (-X) = ((j + 1 : Nat) : Int) := (IntWalk.i64_in _ (by omega)).trans (by omega)
        have hwx : IntKind.i64.wrap (((j + 1 : Nat) : Int) - 1) = (j : Int) := (IntWalk.i64_in _ (by omega)).trans (by simp)
        have hs1 : IntKind.i64.wrap (S + m) = S + m := IntWalk.i64_in _ (by omega)
        have hsum : IntKind.i64.wrap (S + m - (T : Int)) = S + m - (T : Int) := IntWalk.i64_in _ (by omega)
        have hrem : (S + m - (T : Int)).tmod m = (S + m - (T : Int)) % m := IntWalk.rem_in _ _ (by omega)
        have v0 : 0 ≤ (S + m - (T : Int)) % m := Int.emod_nonneg _ (by omega)
        have v1 : (S + m - (T : Int)) % m < m := Int.emod_lt_of_pos _ (by omega)
        have HE : Hid ((S + (m - (T : Int))) % m = (S + m - (T : Int)) % m) := Lib.hid (by congr 1; omega)
        generalize (S + m - (T : Int)) % m = V at *
        have hwV : IntKind.i64.wrap V = V := IntWalk.i64_in _ (by omega)
        have hb0 : decide (0 < X) = false := by simpa using hneg
        clear hval eu ev hj hX
        go_wp2
        go_quiet (fail)
        go_wp2
        go_roundw
        case rel => exact ⟨k + 1, _, _, _, by omega, by go_num, rfl, rfl, Lib.hid (HS2.out.trans HE.out).symm, by omega, by rw [HST.out]; exact ho3.row.drewN _, hA3.drewN _, hE3.drewN _, below_drewN hB3 _⟩
        case measure => simp [intOf]; omega
    · obtain rfl : k = nb := by omega
      have e1 := hS.out
      rw [List.take_of_length_le (by have := HRL.out; omega)] at e1
      have HV : Hid (wtF n f g M m xs l = S) := Lib.hid e1.symm
      clear e1
      go_wp2
      go_ret
      exact ⟨ret_int HV.out.symm, hB⟩

end Go.Proofs.YtnlgmhckjpifiaaGreat

namespace Go.Proofs.YtnlgmhckjpifiaaGreat
set_option maxRecDepth 100000
set_option linter.unusedVariables false
set_option linter.unusedSimpArgs false
open Go.RowKit

theorem Loc.heldA {w : World} {b : Nat} {x y z u : Value} {t : TypeId} (h : Loc w b #[x, y, z, u] t) : (w.cell? ⟨b, 0, none⟩ = some x ∧ w.cell? ⟨b, 1, none⟩ = some y) ∧ w.cell? ⟨b, 2, none⟩ = some z ∧ w.cell? ⟨b, 3, none⟩ = some u := ⟨⟨h.cell 0 rfl, h.cell 1 rfl⟩, h.cell 2 rfl, h.cell 3 rfl⟩
theorem Row.drew {w : World} {a : Option Addr} {n : Nat} {xs : List Int} (h : Row w a n xs) : Row w.drew a n xs := h
theorem tupleOf_3 (n N : Nat) (w : World) (hn1 : 1 ≤ n) (hn : n ≤ 1000000) (hN : N ≤ 1000000000000) :
    Calls Tryz.prog 97 #[.int .i64 n, .int .i64 3, .int .i64 N] w fun e w' => ∃ a c, e = .returned (.slice a 3 c) ∧ Own w' w.heap.size a 3 c (digL n 3 N) ∧ Below w.heap.size w w' :=
  tupleOf_any n 3 N w hn1 hn (by omega) hN

/-- nil, or a new list with an element -/
def WfR (L : List Int) (W : World) (e : Ending) (w' : World) : Prop := ((L = [] ∧ e = .returned (.slice none 0 0)) ∨ (L ≠ [] ∧ ∃ b c, e = .returned (.slice (some ⟨b, 0, none⟩) 3 c) ∧ Own w' W.heap.size (some ⟨b, 0, none⟩) 3 c L)) ∧ Below W.heap.size W w'
theorem wd3 {x y z : Int} (h1 : x ≠ 0 ∧ -2 ≤ x ∧ x ≤ 2) (h2 : y ≠ 0 ∧ -2 ≤ y ∧ y ≤ 2) (h3 : z ≠ 0 ∧ -2 ≤ z ∧ z ≤ 2) : IsWd 3 [x, y, z] := by
  refine ⟨by simp, fun q hq => ?_⟩
  simp only [List.mem_cons, List.not_mem_nil, or_false] at hq
  rcases hq with rfl | rfl | rfl <;> omega

set_option maxHeartbeats 8000000 in
theorem weightFault_any (a : Option Addr) (n c : Nat) (a' : Option Addr) (c' : Nat) (f g : List (List Int)) (m : Int) (am : Option Addr) (cm : Nat) (M : List (List Int)) (w : World) (h1 : Tbl w a n f) (h2 : Tbl w a' n g) (hs : isSol f g = true) (hmm : 1 ≤ m ∧ m ≤ 12) (hM : SqM n m.toNat M) (h5 : Tbl w am n M) :
    Calls Tryz.prog 92 #[sAgg a n c a' n c', .int .i64 m, .slice am n cm] w (WfR (wtFlt n f g M m) w) := by
  obtain ⟨hn1, hn12, sf, sg⟩ := isSol_sq hs
  have hcc := isSol_coll hs
  have hfl := h1.len
  rw [← hfl] at hn1 hn12 sf sg hcc
  obtain ⟨hm1, hm2⟩ := hmm
  obtain ⟨N2, hN2⟩ : ∃ N2, N2 = n * n := ⟨_, rfl⟩
  have hb2 : N2 ≤ 144 := by rw [hN2]; exact Nat.mul_le_mul hn12 hn12
  obtain ⟨N3, hN3⟩ : ∃ N3, N3 = n * n * n := ⟨_, rfl⟩
  have hb3 : N3 ≤ 1728 := by rw [hN3]; exact Nat.mul_le_mul (Nat.mul_le_mul hn12 hn12) hn12
  have e2 : (n : Int) * (n : Int) = (N2 : Int) := by rw [hN2]; simp
  have e3 : (N2 : Int) * (n : Int) = (N3 : Int) := by rw [hN3, hN2]; simp
  have HS := Lib.hid hs; have HSF := Lib.hid sf; have HSG := Lib.hid sg; have HC := Lib.hid hcc; have HM := Lib.hid hM; have HN3 := Lib.hid hN3
  have HW1 : Hid (IsWd 3 [1, 2, 1]) := Lib.hid (wd3 (by omega) (by omega) (by omega))
  have HW2 : Hid (IsWd 3 [2, 1, 2]) := Lib.hid (wd3 (by omega) (by omega) (by omega))
  clear hs sf sg hcc hfl hM hN2 hN3
  have hA := Loc.new w rfl #[.slice a n c, .slice a' n c'] 29
  have hB := below_al (Below.refl w.heap.size w) (.cells #[.slice a n c, .slice a' n c'] 29)
  go_enter Tryz.func92, Tryz.ntmps92
  go_wp2_with fail
  refine (newAction_any _ _ _ _ _ f g _ (h1.alloc _) (h2.alloc _) HS.out hn12).mono ?_
  rintro e w2 ⟨b, d, vs, b', d', vs', rfl, ho2, hb2'⟩
  have hX := Loc.new w2 rfl #[.slice a n c, .slice a' n c', .slice b n d, .slice b' n d'] 105
  have hBX := below_al (below_th hB hb2') (.cells #[.slice a n c, .slice a' n c', .slice b n d, .slice b' n d'] 105)
  have T1 := h1.below hBX; have T2 := h2.below hBX; have T5 := h5.below hBX
  have T3 := ho2.f.tbl.alloc (.cells #[.slice a n c, .slice a' n c', .slice b n d, .slice b' n d'] 105); have T4 := ho2.s.tbl.alloc (.cells #[.slice a n c, .slice a' n c', .slice b n d, .slice b' n d'] 105)
  clear hA hB h1 h2 h5 ho2 hb2'
  go_wp2
  generalize hwA : w2.alloc (.cells #[.slice a n c, .slice a' n c', .slice b n d, .slice b' n d'] 105) = wA at *
  have hsz : w2.heap.size < wA.heap.size := hX.lt
  clear hwA
  go_loopw [21] (fun i wr => ∃ k : Nat, k ≤ N3 ∧ i = .int .i64 k ∧ Hid (∀ M', M' < k → wtBad n f g M m (digL n 3 M') = false) ∧ Below wA.heap.size wA wr) (fun i _ => N3 - (intOf i).toNat)
  case atStart => exact ⟨0, Nat.zero_le _, rfl, Lib.hid fun M' h => absurd h (by omega), Below.refl _ _⟩
  case round =>
    obtain ⟨N, hk, rfl, hI, hq⟩ := hrel
    by_cases hlt : N < N3
    · go_wp2_with fail
      refine (tupleOf_3 n N _ hn1 (by omega) (by omega)).mono ?_
      rintro e w3 ⟨at3, c3, rfl, ho, hb3'⟩
      have hq3 := below_th hq hb3'
      have HLE : Hid (Less n (digL n 3 N)) := Lib.hid (digL_less n 3 N hn1)
      have hX3 := hX.below hq3 hX.lt
      have HBAD : Hid (wtBad n f g M m (digL n 3 N) = (wtF n f g M m [1, 2, 1] (digL n 3 N) != wtF n f g M m [2, 1, 2] (digL n 3 N))) := Lib.hid (by unfold wtBad; rw [Bool.eq_iff_iff]; simp)
      have hsza1 : Hid (w3.heap.size + 1 = (w3.alloc (.cells #[.int .i64 1, .int .i64 2, .int .i64 1] 2)).heap.size) := Lib.hid (by simp)
      have hsza2 : Hid (w3.heap.size + 1 = (w3.alloc (.cells #[.int .i64 2, .int .i64 1, .int .i64 2] 2)).heap.size) := Lib.hid (by simp)
      have own3 := ho.mono (lo' := w.heap.size) (by have := hq.size; have := hBX.size; omega)
      go_upto_region 7 with fail
      go_cut [39] (fun s39 wx => s39 = .bool (wtF n f g M m [1, 2, 1] (digL n 3 N) != wtF n f g M m [2, 1, 2] (digL n 3 N)) ∧ Below w3.heap.size w3 wx)
      case first =>
        have tok1 : True := trivial
        go_region_held3 (fun w' => (w'.cell? ⟨w2.heap.size, 0, none⟩ = some (.slice a n c) ∧ w'.cell? ⟨w2.heap.size, 1, none⟩ = some (.slice a' n c')) ∧ w'.cell? ⟨w2.heap.size, 2, none⟩ = some (.slice b n d) ∧ w'.cell? ⟨w2.heap.size, 3, none⟩ = some (.slice b' n d'))
          (first | exact (hX.below hq5 hX.lt).heldA | exact ((hX.below hq4 hX.lt).alloc _).heldA | exact (hX.below hq4 hX.lt).heldA | exact ((hX3.alloc _).alloc _).heldA | exact (hX3.alloc _).heldA | exact hX3.heldA)
          (first
            | (go_at_call 80; have _t := tok1; (with_reducible refine (weightOf_any _ _ _ _ _ _ _ _ _ f g m _ _ M 3 _ _ _ [1, 2, 1] _ _ (digL n 3 N) _ (T1.below ((below_al hq3 _).drew)) (T2.below ((below_al hq3 _).drew)) (T3.below ((below_al hq3 _).drew)) (T4.below ((below_al hq3 _).drew)) hn1 HSF.out HSG.out HC.out ⟨hm1, hm2⟩ HM.out (T5.below ((below_al hq3 _).drew)) (Row.lit3 (Loc.new (b := w3.heap.size) w3 rfl #[.int .i64 1, .int .i64 2, .int .i64 1] 2)).drew HW1.out (by omega) (by omega) (ho.row.alloc _).drew HLE.out).mono ?_); rintro e w4 ⟨rfl, hbw4⟩; clear _t tok1; have tok2 : True := trivial; have hq4 := below_th (below_al hq3 _).drew hbw4; have hs4 := below_th (below_al (Below.refl w3.heap.size w3) _).drew hbw4; have hr4 := ((ho.row.alloc (.cells #[.int .i64 1, .int .i64 2, .int .i64 1] 2)).drew).below hbw4)
            | (go_at_call 80; have _t := tok1; (with_reducible refine (weightOf_any _ _ _ _ _ _ _ _ _ f g m _ _ M 3 _ _ _ [1, 2, 1] _ _ (digL n 3 N) _ (T1.below ((below_al (below_al hq3 _) _).drew)) (T2.below ((below_al (below_al hq3 _) _).drew)) (T3.below ((below_al (below_al hq3 _) _).drew)) (T4.below ((below_al (below_al hq3 _) _).drew)) hn1 HSF.out HSG.out HC.out ⟨hm1, hm2⟩ HM.out (T5.below ((below_al (below_al hq3 _) _).drew)) ((Row.lit3 (Loc.new (b := w3.heap.size) w3 rfl #[.int .i64 1, .int .i64 2, .int .i64 1] 2)).alloc (.cells #[.int .i64 2, .int .i64 1, .int .i64 2] 2)).drew HW1.out (by omega) (by omega) ((ho.row.alloc _).alloc _).drew HLE.out).mono ?_); rintro e w4 ⟨rfl, hbw4⟩; clear _t tok1; have tok3 : True := trivial; have hq4 := below_th (below_al (below_al hq3 _) _).drew hbw4; have hs4 := below_th (below_al (below_al (Below.refl w3.heap.size w3) _) _).drew hbw4; have hr4 := (((ho.row.alloc (.cells #[.int .i64 1, .int .i64 2, .int .i64 1] 2)).alloc (.cells #[.int .i64 2, .int .i64 1, .int .i64 2] 2)).drew).below hbw4; have hR2 : Row w4 (some ⟨w3.heap.size + 1, 0, none⟩) 3 [2, 1, 2] := (Row.lit3 (Loc.new (w3.alloc (.cells #[.int .i64 1, .int .i64 2, .int .i64 1] 2)) hsza1.out #[.int .i64 2, .int .i64 1, .int .i64 2] 2)).drew.below hbw4)
            | (go_at_call 80; have _t := tok1; (with_reducible refine (weightOf_any _ _ _ _ _ _ _ _ _ f g m _ _ M 3 _ _ _ [1, 2, 1] _ _ (digL n 3 N) _ (T1.below ((below_al (below_al hq3 _) _).drew)) (T2.below ((below_al (below_al hq3 _) _).drew)) (T3.below ((below_al (below_al hq3 _) _).drew)) (T4.below ((below_al (below_al hq3 _) _).drew)) hn1 HSF.out HSG.out HC.out ⟨hm1, hm2⟩ HM.out (T5.below ((below_al (below_al hq3 _) _).drew)) (Row.lit3 (Loc.new (b := w3.heap.size + 1) (w3.alloc (.cells #[.int .i64 2, .int .i64 1, .int .i64 2] 2)) hsza2.out #[.int .i64 1, .int .i64 2, .int .i64 1] 2)).drew HW1.out (by omega) (by omega) ((ho.row.alloc _).alloc _).drew HLE.out).mono ?_); rintro e w4 ⟨rfl, hbw4⟩; clear _t tok1; have tok4 : True := trivial; have hq4 := below_th (below_al (below_al hq3 _) _).drew hbw4; have hs4 := below_th (below_al (below_al (Below.refl w3.heap.size w3) _) _).drew hbw4; have hr4 := (((ho.row.alloc (.cells #[.int .i64 2, .int .i64 1, .int .i64 2] 2)).alloc (.cells #[.int .i64 1, .int .i64 2, .int .i64 1] 2)).drew).below hbw4; have hR2 : Row w4 (some ⟨w3.heap.size, 0, none⟩) 3 [2, 1, 2] := ((Row.lit3 (Loc.new (b := w3.heap.size) w3 rfl #[.int .i64 2, .int .i64 1, .int .i64 2] 2)).alloc (.cells #[.int .i64 1, .int .i64 2, .int .i64 1] 2)).drew.below hbw4)
            | (go_at_call 80; have _t := tok2; (with_reducible refine (weightOf_any _ _ _ _ _ _ _ _ _ f g m _ _ M 3 _ _ _ [2, 1, 2] _ _ (digL n 3 N) _ (T1.below (below_al hq4 _)) (T2.below (below_al hq4 _)) (T3.below (below_al hq4 _)) (T4.below (below_al hq4 _)) hn1 HSF.out HSG.out HC.out ⟨hm1, hm2⟩ HM.out (T5.below (below_al hq4 _)) (Row.lit3 (Loc.new w4 rfl #[.int .i64 2, .int .i64 1, .int .i64 2] 2)) HW2.out (by omega) (by omega) (hr4.alloc _) HLE.out).mono ?_); rintro e w5 ⟨rfl, hbw5⟩; clear _t tok2; have hq5 := below_alth hq4 hbw5; have hs5 := below_alth hs4 hbw5)
            | (go_at_call 80; have _t := tok3; (with_reducible refine (weightOf_any _ _ _ _ _ _ _ _ _ f g m _ _ M 3 _ _ _ [2, 1, 2] _ _ (digL n 3 N) _ (T1.below hq4) (T2.below hq4) (T3.below hq4) (T4.below hq4) hn1 HSF.out HSG.out HC.out ⟨hm1, hm2⟩ HM.out (T5.below hq4) hR2 HW2.out (by omega) (by omega) hr4 HLE.out).mono ?_); rintro e w5 ⟨rfl, hbw5⟩; clear _t tok3; have hq5 := below_th hq4 hbw5; have hs5 := below_th hs4 hbw5)
            | (go_at_call 80; have _t := tok4; (with_reducible refine (weightOf_any _ _ _ _ _ _ _ _ _ f g m _ _ M 3 _ _ _ [2, 1, 2] _ _ (digL n 3 N) _ (T1.below hq4) (T2.below hq4) (T3.below hq4) (T4.below hq4) hn1 HSF.out HSG.out HC.out ⟨hm1, hm2⟩ HM.out (T5.below hq4) hR2 HW2.out (by omega) (by omega) hr4 HLE.out).mono ?_); rintro e w5 ⟨rfl, hbw5⟩; clear _t tok4; have hq5 := below_th hq4 hbw5; have hs5 := below_th hs4 hbw5))
        all_goals (go_wp2_with fail; go_meet; exact ⟨rfl, hs5⟩)
      case rest =>
        obtain ⟨rfl, hb5⟩ := hcut
        have own5 := own3.below hb5
        have hq5 := below_th hq3 hb5
        have hBf := hBX.trans (hq5.mono hBX.size)
        cases hv : (wtF n f g M m [1, 2, 1] (digL n 3 N) != wtF n f g M m [2, 1, 2] (digL n 3 N)) with
        | true =>
          rw [hv] at HBAD
          have HL : Hid (wtFlt n f g M m = digL n 3 N) := Lib.hid (fltL_hit (by rw [← HN3.out]; exact hlt) hI.out HBAD.out)
          clear hv
          obtain ⟨gt, ot, rfl, _⟩ := own5.row.at 0 (by omega)
          obtain ⟨rfl, _, _⟩ := own5.cells
          go_wp2
          go_ret
          refine ⟨.inr ⟨?_, _, _, rfl, by rw [HL.out]; exact own5⟩, hBf⟩
          rw [HL.out]
          intro h
          have := congrArg List.length h
          rw [digL_len] at this
          simp at this
        | false =>
          rw [hv] at HBAD
          clear hv
          go_wp2
          go_roundw
          case rel =>
            refine ⟨N + 1, by omega, by go_num, Lib.hid fun M' hM' => ?_, hq5⟩
            by_cases e : M' = N
            · subst e; exact HBAD.out
            · exact hI.out M' (by omega)
          case measure => simp [intOf]; omega
    · obtain rfl : N = N3 := by omega
      go_wp2
      go_ret
      exact ⟨.inl ⟨fltL_miss (by rw [← HN3.out]; exact hI.out), rfl⟩, hBX.trans (hq.mono hBX.size)⟩

set_option maxHeartbeats 1000000 in
theorem checkWeight_any (a : Option Addr) (n c : Nat) (a' : Option Addr) (n' c' : Nat) (f g : List (List Int)) (m : Int) (am : Option Addr) (nm cm : Nat) (M : List (List Int)) (w : World) (h1 : Tbl w a n f) (h2 : Tbl w a' n' g) (hm1 : n ≤ 9223372036854775807) (hm2 : n' ≤ 9223372036854775807) (h5 : Tbl w am nm M) (hnm : nm ≤ 9223372036854775807) (r : Int) (hr : (if isSol f g then (if isMx n m M then 0 else 2) else 1) = r) :
    Calls Tryz.prog 91 #[sAgg a n c a' n' c', .int .i64 m, .slice am nm cm] w fun e w' => e = .returned (.int .i64 r) ∧ Below w.heap.size w w' := by
  have hA := Loc.new w rfl #[.slice a n c, .slice a' n' c'] 29
  cases q1 : isSol f g with
  | false =>
    rw [q1] at hr
    simp only [Bool.false_eq_true, if_false] at hr
    subst hr
    have H1 := Lib.hid q1; clear q1
    go_enter Tryz.func91, Tryz.ntmps91
    go_wp2_with fail
    refine (isSolution_any _ _ _ _ _ _ _ _ _ (h1.alloc _) (h2.alloc _) hm1 hm2).mono ?_
    rintro e w1 ⟨rfl, hb1⟩
    rw [H1.out]
    go_wp2
    go_ret
    exact ⟨rfl, below_alth (Below.refl _ _) hb1⟩
  | true =>
    rw [q1] at hr
    simp only [if_true] at hr
    have H1 := Lib.hid q1; clear q1
    cases q2 : isMx n m M
    all_goals
      rw [q2] at hr
      simp only [if_true, Bool.false_eq_true, if_false] at hr
      subst hr
      have H2 := Lib.hid q2; clear q2
      go_enter Tryz.func91, Tryz.ntmps91
      go_wp2_with fail
      refine (isSolution_any _ _ _ _ _ _ _ _ _ (h1.alloc _) (h2.alloc _) hm1 hm2).mono ?_
      rintro e w1 ⟨rfl, hb1⟩
      rw [H1.out]
      have lA := (hA.below hb1 (by simp)).two
      go_wp2_with fail
      refine (isMatrix_any n m _ _ _ M _ ((h5.alloc _).below hb1) hnm).mono ?_
      rintro e w2 ⟨rfl, hb2⟩
      rw [H2.out]
      go_wp2
      go_ret
      exact ⟨rfl, below_th (below_alth (Below.refl _ _) hb1) hb2⟩

end Go.Proofs.YtnlgmhckjpifiaaGreat

namespace Go.Proofs.YtnlgmhckjpifiaaGreat
set_option maxRecDepth 100000
set_option linter.unusedVariables false
set_option linter.unusedSimpArgs false
open Go.RowKit

set_option maxHeartbeats 400000 in
theorem l14Numbers_any (N m : Int) (a : Option Addr) (n c : Nat) (xs : List Int) (w : World) (h1 : Row w a n xs) (hm : n ≤ 9223372036854775807) (hm1 : 1 ≤ m) (hm2 : m ≤ 12) :
    Calls Tryz.prog 87 #[.int .i64 N, .int .i64 m, .slice a n c] w fun e w' => e = .returned (.bool (rowOk N m xs)) ∧ w = w' := by
  have hl := h1.len
  have HL := Lib.hid hl; clear hl
  go_enter Tryz.func87, Tryz.ntmps87
  go_wp2
  go_loop [7] (fun i => ∃ k : Nat, k ≤ n ∧ i = .int .i64 k ∧ Hid ((xs.take k).all (rngB 0 (m - 1)) = true)) (fun i => n - (intOf i).toNat)
  case atStart => exact ⟨0, Nat.zero_le _, rfl, by simp [Hid]⟩
  case round =>
    obtain ⟨k, hk, rfl, hall⟩ := hrel
    by_cases hlt : k < n
    · obtain ⟨b, off, rfl, g1⟩ := h1.at k hlt
      have hx : k < xs.length := by have := HL.out; omega
      clear h1
      cases hp : rngB 0 (m - 1) xs[k] with
      | true =>
        have HC := Lib.hid (fun w => l01In_b xs[k] 0 (m - 1) true hp w)
        have HP := Lib.hid hp; clear hp
        go_wp2_with fail
        refine (HC.out _).mono ?_
        rintro e w' ⟨rfl, rfl⟩
        go_wp2
        go_round
        case rel => exact ⟨k + 1, by omega, by go_num, all_get_succ hx hall HP.out⟩
        case measure => simp [intOf]; omega
      | false =>
        have HC := Lib.hid (fun w => l01In_b xs[k] 0 (m - 1) false hp w)
        have HP := Lib.hid hp; clear hp
        go_wp2_with fail
        refine (HC.out _).mono ?_
        rintro e w' ⟨rfl, rfl⟩
        go_wp2
        go_ret
        have hno : rowOk N m xs = false := by
          unfold rowOk; rw [all_no hx HP.out]; simp
        exact ⟨ret_bool hno.symm, rfl⟩
    · obtain rfl : k = n := by omega
      have ha : (xs.take k).all (rngB 0 (m - 1)) = true := hall
      rw [List.take_of_length_le (by have := HL.out; omega)] at ha
      have hq : rowOk N m xs = decide ((k : Int) = N) := by unfold rowOk; rw [ha, HL.out]; simp
      have HQ := Lib.hid hq; clear ha hq
      go_wp2
      go_ret
      exact ⟨ret_bool (by rw [HQ.out]; rfl), rfl⟩

set_option maxHeartbeats 400000 in
theorem l14Matrix_any (N m : Int) (a : Option Addr) (n c : Nat) (xs : List (List Int)) (w : World) (h1 : Tbl w a n xs) (hm : n ≤ 9223372036854775807) (hm1 : 1 ≤ m) (hm2 : m ≤ 12) :
    Calls Tryz.prog 183 #[.int .i64 N, .int .i64 m, .slice a n c] w fun e w' => e = .returned (.bool (isMx N m xs)) ∧ w = w' := by
  have hl := h1.len
  have hp : rngB 1 12 m = true := by simp [rngB, hm1, hm2]
  by_cases hn : (n : Int) = N
  · have b1 : ((n : Int) != N) = false := by simpa using hn
    have hq : isMx N m xs = xs.all (rowOk N m) := by simp [isMx, hp, ← hl, hn]
    have HQ := Lib.hid hq
    have HL := Lib.hid hl; clear hl hn hp hq
    go_enter Tryz.func183, Tryz.ntmps183
    go_wp2
    go_loop [7] (fun i => ∃ k : Nat, k ≤ n ∧ i = .int .i64 k ∧ Hid ((xs.take k).all (rowOk N m) = true)) (fun i => n - (intOf i).toNat)
    case atStart => exact ⟨0, Nat.zero_le _, rfl, by simp [Hid]⟩
    case round =>
      obtain ⟨k, hk, rfl, hall⟩ := hrel
      by_cases hlt : k < n
      · obtain ⟨b, off, ai, ni, ci, rfl, g1, hri, hni⟩ := h1.at k hlt
        have hx : k < xs.length := by have := HL.out; omega
        rw [Tbl.getD hx] at hri
        have hc := l14Numbers_any N m ai ni ci xs[k] w hri hni hm1 hm2
        clear h1
        cases hp : rowOk N m xs[k] with
        | true =>
          rw [hp] at hc
          have HC := Lib.hid hc
          have HP := Lib.hid hp; clear hp hc
          go_wp2_with fail
          refine HC.out.mono ?_
          rintro e w' ⟨rfl, rfl⟩
          go_wp2
          go_round
          case rel => exact ⟨k + 1, by omega, by go_num, all_get_succ hx hall HP.out⟩
          case measure => simp [intOf]; omega
        | false =>
          rw [hp] at hc
          have HC := Lib.hid hc
          have HP := Lib.hid hp; clear hp hc
          go_wp2_with fail
          refine HC.out.mono ?_
          rintro e w' ⟨rfl, rfl⟩
          go_wp2
          go_ret
          exact ⟨ret_bool (by rw [HQ.out]; exact (all_no hx HP.out).symm), rfl⟩
      · obtain rfl : k = n := by omega
        have ha : (xs.take k).all (rowOk N m) = true := hall
        rw [List.take_of_length_le (by have := HL.out; omega)] at ha
        have HA := Lib.hid ha; clear ha
        go_wp2
        go_ret
        exact ⟨ret_bool (by rw [HQ.out]; exact HA.out.symm), rfl⟩
  · have b1 : ((n : Int) != N) = true := by simpa using hn
    have hq : isMx N m xs = false := by simp [isMx, ← hl, hn]
    have HQ := Lib.hid hq; clear hq hl hn hp
    go_enter Tryz.func183, Tryz.ntmps183
    go_wp2
    go_ret
    exact ⟨ret_bool HQ.out.symm, rfl⟩

set_option maxHeartbeats 400000 in
theorem l14Code_any (N m : Int) (a : Option Addr) (n c : Nat) (xs : List (List Int)) (w : World) (h1 : Tbl w a n xs) (hm : n ≤ 9223372036854775807) (r : Int) (hr : (if isMx N m xs then 0 else 2) = r) :
    Calls Tryz.prog 124 #[.int .i64 N, .int .i64 m, .slice a n c] w fun e w' => e = .returned (.int .i64 r) ∧ w = w' := by
  cases hp : rngB 1 12 m with
  | false =>
    have hq : isMx N m xs = false := by simp [isMx, hp]
    rw [hq] at hr
    simp only [Bool.false_eq_true, if_false] at hr
    subst hr
    have HC := Lib.hid (fun w => l01In_b m 1 12 false hp w); clear hp hq
    go_enter Tryz.func124, Tryz.ntmps124
    go_wp2_with fail
    refine (HC.out _).mono ?_
    rintro e w' ⟨rfl, rfl⟩
    go_wp2
    go_ret
    exact ⟨rfl, rfl⟩
  | true =>
    have hmm : 1 ≤ m ∧ m ≤ 12 := by simpa [rngB] using hp
    have HC := Lib.hid (fun w => l01In_b m 1 12 true hp w); clear hp
    have hc := fun w h => l14Matrix_any N m a n c xs w h hm hmm.1 hmm.2
    cases hq : isMx N m xs with
    | true =>
      rw [hq] at hr hc
      simp only [if_true] at hr
      subst hr
      have HD := Lib.hid hc; clear hc hq
      go_enter Tryz.func124, Tryz.ntmps124
      go_wp2_with fail
      refine (HC.out _).mono ?_
      rintro e w' ⟨rfl, rfl⟩
      go_wp2_with fail
      refine (HD.out _ h1).mono ?_
      rintro e w' ⟨rfl, rfl⟩
      go_wp2
      go_ret
      exact ⟨rfl, rfl⟩
    | false =>
      rw [hq] at hr hc
      simp only [Bool.false_eq_true, if_false] at hr
      subst hr
      have HD := Lib.hid hc; clear hc hq
      go_enter Tryz.func124, Tryz.ntmps124
      go_wp2_with fail
      refine (HC.out _).mono ?_
      rintro e w' ⟨rfl, rfl⟩
      go_wp2_with fail
      refine (HD.out _ h1).mono ?_
      rintro e w' ⟨rfl, rfl⟩
      go_wp2
      go_ret
      exact ⟨rfl, rfl⟩

end Go.Proofs.YtnlgmhckjpifiaaGreat

namespace Go.Proofs.YtnlgmhckjpifiaaGreat
set_option maxRecDepth 100000
set_option linter.unusedVariables false
set_option linter.unusedSimpArgs false
open Go.RowKit

/-- a new list -/
def NewR (L : List Int) (W : World) (e : Ending) (w' : World) : Prop := ∃ a k c, e = .returned (.slice a k c) ∧ Own w' W.heap.size a k c L ∧ Below W.heap.size W w'
theorem Own.lit3 {w : World} {b lo : Nat} {x y z : Int} (h : Loc w b #[.int .i64 x, .int .i64 y, .int .i64 z] 2) (hlo : lo ≤ b) : Own w lo (some ⟨b, 0, none⟩) 3 3 [x, y, z] := Own.mk rfl hlo h (Nat.le_refl _) (by unfold maxLen; omega) rfl rfl
theorem Own.empty0 (w : World) {b lo : Nat} (hb : b = w.heap.size) (hlo : lo ≤ b) : Own (w.alloc (.cells #[] 2)) lo (some ⟨b, 0, none⟩) 0 0 [] := Own.mk rfl hlo (Loc.new w hb _ _) (Nat.le_refl _) (by unfold maxLen; omega) rfl rfl
theorem Loc.held2 {w : World} {b : Nat} {x y : Value} {t : TypeId} (h : Loc w b #[x, y] t) : w.cell? ⟨b, 0, none⟩ = some x ∧ w.cell? ⟨b, 1, none⟩ = some y := ⟨h.cell 0 rfl, h.cell 1 rfl⟩

theorem tri_next_y (n x y : Nat) : tri n x y n = tri n x (y + 1) 0 := by unfold tri; rw [Nat.add_zero, ← Nat.add_assoc, Nat.add_mul (x * n + y) 1 n, Nat.one_mul]
theorem tri_next_x (n x : Nat) : tri n x n 0 = tri n (x + 1) 0 0 := by unfold tri; rw [Nat.add_mul x 1 n, Nat.one_mul]; simp
theorem tri_end (n : Nat) : tri n n 0 0 = n * n * n := by unfold tri; simp

set_option maxHeartbeats 8000000 in
theorem l18Fault_any (a : Option Addr) (n c : Nat) (a' : Option Addr) (c' : Nat) (f g : List (List Int)) (m : Int) (am : Option Addr) (cm : Nat) (M : List (List Int)) (w : World) (h1 : Tbl w a n f) (h2 : Tbl w a' n g) (hs : isSol f g = true) (hmm : 1 ≤ m ∧ m ≤ 12) (hM : SqM n m.toNat M) (h5 : Tbl w am n M) :
    Calls Tryz.prog 123 #[sAgg a n c a' n c', .int .i64 m, .slice am n cm] w (NewR (wtFlt n f g M m) w) := by
  obtain ⟨hn1, hn12, sf, sg⟩ := isSol_sq hs
  have hcc := isSol_coll hs
  have hfl := h1.len
  rw [← hfl] at hn1 hn12 sf sg hcc
  have HSF := Lib.hid sf; have HSG := Lib.hid sg; have HC := Lib.hid hcc; have HM := Lib.hid hM; have HMM := Lib.hid hmm
  have HW1 : Hid (IsWd 3 [1, 2, 1]) := Lib.hid (wd3 (by omega) (by omega) (by omega))
  have HW2 : Hid (IsWd 3 [2, 1, 2]) := Lib.hid (wd3 (by omega) (by omega) (by omega))
  clear hs sf sg hcc hfl hM hmm
  have hA := ((((Loc.new w rfl #[.slice a n c, .slice a' n c'] 29).alloc (.cells #[.int .i64 1, .int .i64 2, .int .i64 1] 2)).alloc (.cells #[.int .i64 2, .int .i64 1, .int .i64 2] 2)).alloc (.cells #[.int .i64 3, .slice (some ⟨w.heap.size + 1, 0, none⟩) 3 3] 32)).alloc (.cells #[.int .i64 3, .slice (some ⟨w.heap.size + 1 + 1, 0, none⟩) 3 3] 32)
  have hR1 := (((Row.lit3 (Loc.new (b := w.heap.size + 1) (w.alloc (.cells #[.slice a n c, .slice a' n c'] 29)) (by simp) #[.int .i64 1, .int .i64 2, .int .i64 1] 2)).alloc (.cells #[.int .i64 2, .int .i64 1, .int .i64 2] 2)).alloc (.cells #[.int .i64 3, .slice (some ⟨w.heap.size + 1, 0, none⟩) 3 3] 32)).alloc (.cells #[.int .i64 3, .slice (some ⟨w.heap.size + 1 + 1, 0, none⟩) 3 3] 32)
  have hR2 := ((Row.lit3 (Loc.new (b := w.heap.size + 1 + 1) ((w.alloc (.cells #[.slice a n c, .slice a' n c'] 29)).alloc (.cells #[.int .i64 1, .int .i64 2, .int .i64 1] 2)) (by simp) #[.int .i64 2, .int .i64 1, .int .i64 2] 2)).alloc (.cells #[.int .i64 3, .slice (some ⟨w.heap.size + 1, 0, none⟩) 3 3] 32)).alloc (.cells #[.int .i64 3, .slice (some ⟨w.heap.size + 1 + 1, 0, none⟩) 3 3] 32)
  have hE1 := (Loc.new (b := w.heap.size + 1 + 1 + 1) (((w.alloc (.cells #[.slice a n c, .slice a' n c'] 29)).alloc (.cells #[.int .i64 1, .int .i64 2, .int .i64 1] 2)).alloc (.cells #[.int .i64 2, .int .i64 1, .int .i64 2] 2)) (by simp) #[.int .i64 3, .slice (some ⟨w.heap.size + 1, 0, none⟩) 3 3] 32).alloc (.cells #[.int .i64 3, .slice (some ⟨w.heap.size + 1 + 1, 0, none⟩) 3 3] 32)
  have hE2 := Loc.new (b := w.heap.size + 1 + 1 + 1 + 1) ((((w.alloc (.cells #[.slice a n c, .slice a' n c'] 29)).alloc (.cells #[.int .i64 1, .int .i64 2, .int .i64 1] 2)).alloc (.cells #[.int .i64 2, .int .i64 1, .int .i64 2] 2)).alloc (.cells #[.int .i64 3, .slice (some ⟨w.heap.size + 1, 0, none⟩) 3 3] 32)) (by simp) #[.int .i64 3, .slice (some ⟨w.heap.size + 1 + 1, 0, none⟩) 3 3] 32
  have hB := below_al (below_al (below_al (below_al (below_al (Below.refl w.heap.size w) (.cells #[.slice a n c, .slice a' n c'] 29)) (.cells #[.int .i64 1, .int .i64 2, .int .i64 1] 2)) (.cells #[.int .i64 2, .int .i64 1, .int .i64 2] 2)) (.cells #[.int .i64 3, .slice (some ⟨w.heap.size + 1, 0, none⟩) 3 3] 32)) (.cells #[.int .i64 3, .slice (some ⟨w.heap.size + 1 + 1, 0, none⟩) 3 3] 32)
  have T1 := h1.below hB; have T2 := h2.below hB; have T5 := h5.below hB
  clear h1 h2 h5
  go_enter Tryz.func123, Tryz.ntmps123
  go_wp2
  generalize ((((w.alloc (.cells #[.slice a n c, .slice a' n c'] 29)).alloc (.cells #[.int .i64 1, .int .i64 2, .int .i64 1] 2)).alloc (.cells #[.int .i64 2, .int .i64 1, .int .i64 2] 2)).alloc (.cells #[.int .i64 3, .slice (some ⟨w.heap.size + 1, 0, none⟩) 3 3] 32)).alloc (.cells #[.int .i64 3, .slice (some ⟨w.heap.size + 1 + 1, 0, none⟩) 3 3] 32) = w0 at *
  have hszA := hA.lt
  go_loopw [10] (fun i wr => ∃ k : Nat, k ≤ n ∧ i = .int .i64 k ∧ Hid (∀ M', M' < tri n k 0 0 → wtBad n f g M m (digL n 3 M') = false) ∧ Below w0.heap.size w0 wr) (fun i _ => n - (intOf i).toNat)
  case atStart => exact ⟨0, Nat.zero_le _, rfl, Lib.hid fun M' h => absurd h (by simp [tri]), Below.refl _ _⟩
  case round =>
    obtain ⟨x, hx, rfl, hx1, hW⟩ := hrel
    by_cases hlt : x < n
    · go_wp2
      go_loopw [11] (fun i wr => ∃ k : Nat, k ≤ n ∧ i = .int .i64 k ∧ Hid (∀ M', M' < tri n x k 0 → wtBad n f g M m (digL n 3 M') = false) ∧ Below w0.heap.size w0 wr) (fun i _ => n - (intOf i).toNat)
      case atStart => exact ⟨0, Nat.zero_le _, rfl, hx1, hW⟩
      case round =>
        clear hW
        obtain ⟨y, hy, rfl, hy1, hW⟩ := hrel
        by_cases hlty : y < n
        · go_wp2
          go_loopw [12] (fun i wr => ∃ k : Nat, k ≤ n ∧ i = .int .i64 k ∧ Hid (∀ M', M' < tri n x y k → wtBad n f g M m (digL n 3 M') = false) ∧ Below w0.heap.size w0 wr) (fun i _ => n - (intOf i).toNat)
          case atStart => exact ⟨0, Nat.zero_le _, rfl, hy1, hW⟩
          case round =>
            clear hW
            obtain ⟨z, hz, rfl, hz1, hW⟩ := hrel
            by_cases hltz : z < n
            · have htr := tri_three hlt hlty hltz
              have hle : Less n [(x : Int), (y : Int), (z : Int)] := Less.lit3 hlt hlty hltz
              have hbad : wtBad n f g M m (digL n 3 (tri n x y z)) = (wtF n f g M m [1, 2, 1] [(x : Int), (y : Int), (z : Int)] != wtF n f g M m [2, 1, 2] [(x : Int), (y : Int), (z : Int)]) := by rw [htr]; unfold wtBad; rw [Bool.eq_iff_iff]; simp
              have HTR := Lib.hid htr; have HBAD := Lib.hid hbad; have HLE := Lib.hid hle
              clear htr hbad hle
              go_wp2
              have hLz := Loc.new wr rfl #[.int .i64 x, .int .i64 y, .int .i64 z] 2
              have hwr := hW.size
              replace hW := below_al hW (.cells #[.int .i64 x, .int .i64 y, .int .i64 z] 2)
              have hszz := hLz.lt
              generalize hwr0 : wr.heap.size = q at *
              generalize wr.alloc (.cells #[.int .i64 x, .int .i64 y, .int .i64 z] 2) = w1 at *
              clear hwr0
              have hrow := Row.lit3 hLz
              have tok1 : True := trivial
              go_region_held3 (fun w' => ((w'.cell? ⟨w.heap.size, 0, none⟩ = some (.slice a n c) ∧ w'.cell? ⟨w.heap.size, 1, none⟩ = some (.slice a' n c')) ∧ (w'.cell? ⟨w.heap.size + 1 + 1 + 1, 0, none⟩ = some (.int .i64 3) ∧ w'.cell? ⟨w.heap.size + 1 + 1 + 1, 1, none⟩ = some (.slice (some ⟨w.heap.size + 1, 0, none⟩) 3 3))) ∧ (w'.cell? ⟨w.heap.size + 1 + 1 + 1 + 1, 0, none⟩ = some (.int .i64 3) ∧ w'.cell? ⟨w.heap.size + 1 + 1 + 1 + 1, 1, none⟩ = some (.slice (some ⟨w.heap.size + 1 + 1, 0, none⟩) 3 3)))
                (first | exact ⟨⟨(hA.below hr3 hA.lt).held2, (hE1.below hr3 hE1.lt).held2⟩, (hE2.below hr3 hE2.lt).held2⟩ | exact ⟨⟨(hA.below hr2 hA.lt).held2, (hE1.below hr2 hE1.lt).held2⟩, (hE2.below hr2 hE2.lt).held2⟩ | exact ⟨⟨(hA.below hW hA.lt).held2, (hE1.below hW hE1.lt).held2⟩, (hE2.below hW hE2.lt).held2⟩)
                (first
                  | (go_at_call 88; have _t := tok1; clear _t tok1; have tok2 : True := trivial; refine (l18Sum_any _ _ _ _ _ f g m _ _ M 3 _ _ _ [1, 2, 1] _ _ [(x : Int), (y : Int), (z : Int)] _ (T1.below (below_drewN hW 1)) (T2.below (below_drewN hW 1)) hn1 hn12 HSF.out HSG.out HC.out HMM.out HM.out (T5.below (below_drewN hW 1)) (hR1.below (below_drewN hW 1)) (by omega) (by omega) HW1.out (by omega) (by omega) (hrow.drewN 1) HLE.out).mono ?_; rintro e w2 ⟨rfl, hb2⟩; have hr2 := below_th (below_drewN hW 1) hb2; have hq2 := below_undrew hb2)
                  | (go_at_call 88; have _t := tok2; clear _t tok2; refine (l18Sum_any _ _ _ _ _ f g m _ _ M 3 _ _ _ [2, 1, 2] _ _ [(x : Int), (y : Int), (z : Int)] _ (T1.below hr2) (T2.below hr2) hn1 hn12 HSF.out HSG.out HC.out HMM.out HM.out (T5.below hr2) (hR2.below hr2) (by omega) (by omega) HW2.out (by omega) (by omega) (hrow.below hq2) HLE.out).mono ?_; rintro e w3 ⟨rfl, hb3⟩; have hr3 := below_th hr2 hb3; have hq3 := below_th hq2 hb3))
              cases hv : (wtF n f g M m [1, 2, 1] [(x : Int), (y : Int), (z : Int)] != wtF n f g M m [2, 1, 2] [(x : Int), (y : Int), (z : Int)]) with
              | true =>
                rw [hv] at HBAD
                have HL : Hid (wtFlt n f g M m = [(x : Int), (y : Int), (z : Int)]) := Lib.hid ((fltL_hit (tri_lt hlt hlty hltz) hz1.out HBAD.out).trans HTR.out)
                go_wp2
                go_ret
                exact ⟨_, _, _, rfl, by rw [HL.out]; exact Own.lit3 (hLz.below hq3 hLz.lt) (by omega), hB.trans (hr3.mono (by have := hB.size; omega))⟩
              | false =>
                rw [hv] at HBAD
                go_wp2
                go_roundw
                case rel =>
                  refine ⟨z + 1, by omega, by go_num, Lib.hid fun M' hM' => ?_, hr3⟩
                  by_cases e : M' = tri n x y z
                  · subst e; exact HBAD.out
                  · exact hz1.out M' (by unfold tri at *; omega)
                case measure => simp [intOf]; omega
            · obtain rfl : z = n := by omega
              go_wp2
              go_roundw
              case rel => exact ⟨y + 1, by omega, by go_num, Lib.hid (by rw [← tri_next_y]; exact hz1.out), hW⟩
              case measure => simp [intOf]; omega
        · obtain rfl : y = n := by omega
          go_wp2
          go_roundw
          case rel => exact ⟨x + 1, by omega, by go_num, Lib.hid (by rw [← tri_next_x]; exact hy1.out), hW⟩
          case measure => simp [intOf]; omega
    · obtain rfl : x = n := by omega
      have HL : Hid (wtFlt x f g M m = []) := Lib.hid (fltL_miss (by rw [← tri_end]; exact hx1.out))
      go_wp2
      go_ret
      exact ⟨_, _, _, rfl, by rw [HL.out]; exact Own.empty0 _ rfl (by have := hW.size; have := hB.size; omega), below_al (hB.trans (hW.mono hB.size)) _⟩

set_option maxHeartbeats 1000000 in
theorem l18Code_any (a : Option Addr) (n c : Nat) (a' : Option Addr) (n' c' : Nat) (f g : List (List Int)) (m : Int) (am : Option Addr) (nm cm : Nat) (M : List (List Int)) (w : World) (h1 : Tbl w a n f) (h2 : Tbl w a' n' g) (hm1 : n ≤ 9223372036854775807) (hm2 : n' ≤ 9223372036854775807) (h5 : Tbl w am nm M) (hnm : nm ≤ 9223372036854775807) (r : Int) (hr : (if isSol f g then (if isMx n m M then 0 else 2) else 1) = r) :
    Calls Tryz.prog 86 #[sAgg a n c a' n' c', .int .i64 m, .slice am nm cm] w fun e w' => e = .returned (.int .i64 r) ∧ Below w.heap.size w w' := by
  have hA := Loc.new w rfl #[.slice a n c, .slice a' n' c'] 29
  cases q1 : isSol f g with
  | false =>
    rw [q1] at hr
    simp only [Bool.false_eq_true, if_false] at hr
    subst hr
    have H1 := Lib.hid q1; clear q1
    go_enter Tryz.func86, Tryz.ntmps86
    go_wp2_with fail
    refine (l02Is_any _ _ _ _ _ _ _ _ _ (h1.alloc _) (h2.alloc _) hm1 hm2).mono ?_
    rintro e w1 ⟨rfl, hb1⟩
    rw [H1.out]
    go_wp2
    go_ret
    exact ⟨rfl, below_alth (Below.refl _ _) hb1⟩
  | true =>
    rw [q1] at hr
    simp only [if_true] at hr
    have H1 := Lib.hid q1; clear q1
    have HR := Lib.hid hr; clear hr
    go_enter Tryz.func86, Tryz.ntmps86
    go_wp2_with fail
    refine (l02Is_any _ _ _ _ _ _ _ _ _ (h1.alloc _) (h2.alloc _) hm1 hm2).mono ?_
    rintro e w1 ⟨rfl, hb1⟩
    rw [H1.out]
    have lA := (hA.below hb1 (by simp)).two
    go_wp2_with fail
    refine (l14Code_any n m _ _ _ M _ ((h5.alloc _).below hb1) hnm r HR.out).mono ?_
    rintro e w2 ⟨rfl, rfl⟩
    go_wp2
    go_ret
    exact ⟨rfl, below_alth (Below.refl _ _) hb1⟩

end Go.Proofs.YtnlgmhckjpifiaaGreat

namespace Go.Proofs.YtnlgmhckjpifiaaGreat
set_option maxRecDepth 100000
set_option linter.unusedVariables false
set_option linter.unusedSimpArgs false
open Go.RowKit

def cstR (n k : Nat) : List Int := (List.range n).map fun _ => (k : Int)
theorem cstR_len (n k : Nat) : (cstR n k).length = n := by simp [cstR]
theorem cstR_succ {n k j : Nat} (h : j < n) : (cstR n k).take (j + 1) = (cstR n k).take j ++ [(k : Int)] := by
  rw [List.take_succ_eq_append_getElem (by rw [cstR_len]; exact h)]; simp [cstR]
theorem cstL_succ {n k : Nat} (h : k < n) : (cstL n).take (k + 1) = (cstL n).take k ++ [cstR n k] := by
  have hl : k < (cstL n).length := by unfold cstL; rw [tabF_len]; exact h
  rw [List.take_succ_eq_append_getElem hl]
  have e := tabF_get n (fun x _ => (x : Int)) k h
  have e2 := Tbl.getD hl
  unfold cstL at *
  rw [← e2, e]; rfl

set_option maxHeartbeats 4000000 in
theorem l03Solution_any (a : Option Addr) (n c : Nat) (f : List (List Int)) (w : World) (h : Tbl w a n f) (hf : Sq n f) (hn1 : 1 ≤ n) (hn : n ≤ 12) :
    Calls Tryz.prog 113 #[rAgg a n c] w fun e w' => ∃ a1 c1 vs a1' c1' vs', e = .returned (sAgg a1 n c1 a1' n c1') ∧ OwnS w' w.heap.size a1 n c1 vs f a1' n c1' vs' (cstL n) ∧ Below w.heap.size w w' := by
  have hA := (Loc.new w rfl #[.slice a n c] 58).alloc (.cells #[.slice none 0 0, .slice none 0 0] 29)
  have hR := Loc.new (w.alloc (.cells #[.slice a n c] 58)) rfl #[.slice none 0 0, .slice none 0 0] 29
  rw [size_alloc] at hR
  have hB := below_al (below_al (Below.refl w.heap.size w) (.cells #[.slice a n c] 58)) (.cells #[.slice none 0 0, .slice none 0 0] 29)
  have hlen : ∀ x ∈ f, x.length ≤ 1000000 := fun x hx => by
    obtain ⟨i, hi, rfl⟩ := List.getElem_of_mem hx
    have := hf.row (show i < n by have := hf.len; omega)
    rw [Tbl.getD hi] at this; omega
  have HLEN := Lib.hid hlen; have HF := Lib.hid hf
  clear hlen hf
  go_enter Tryz.func113, Tryz.ntmps113
  have lA := hA.one
  go_wp2_with fail
  generalize (w.alloc (.cells #[.slice a n c] 58)).alloc (.cells #[.slice none 0 0, .slice none 0 0] 29) = w0 at *
  refine (l01Own2_any _ _ _ f _ (h.below hB) (by omega) HLEN.out).mono ?_
  rintro e w1 ⟨a1, c1, vs1, rfl, ho1, hb1⟩
  have hzr : w.heap.size + 1 < w0.heap.size := hR.lt
  have hz1 := hb1.size
  have hO := Loc.new w1 rfl #[.slice a1 n c1, .slice none 0 0] 29
  have hA1 := (hA.below hb1 hA.lt)
  have hR1 := (hR.below hb1 hR.lt)
  have hq0 : Below w1.heap.size w1 (w1.alloc (.cells #[.slice a1 n c1, .slice none 0 0] 29)) := below_al (Below.refl w1.heap.size w1) _
  have hB1 := below_th hB hb1
  have lA1 := (hA1.alloc (.cells #[.slice a1 n c1, .slice none 0 0] 29)).one
  clear hA hR hB lA hb1
  go_wp2
  clear lA1
  go_loopw [4] (fun i wr => ∃ (k : Nat) (az : Option Addr) (cz : Nat) (vz : List SV), k ≤ n ∧ i = .int .i64 k ∧ Loc wr w1.heap.size #[.slice a1 n c1, .slice az k cz] 29 ∧ OwnT wr (w1.heap.size + 1) az k cz vz ((cstL n).take k) ∧ Below w1.heap.size w1 wr) (fun i _ => n - (intOf i).toNat)
  case atStart => exact ⟨0, none, 0, [], Nat.zero_le _, rfl, hO, by simpa using OwnT.nil _ _, hq0⟩
  case round =>
    clear hO hq0
    obtain ⟨k, az, cz, vz, hk, rfl, hO, ho, hq⟩ := hrel
    have hAr := hA1.below hq hA1.lt
    have lA := hAr.one
    have hOlt := hO.lt
    by_cases hlt : k < n
    · have lA2 := (hAr.alloc (.cells #[] 2)).one
      have hE := Own.empty0 wr (lo := wr.heap.size) rfl (Nat.le_refl _)
      have hqe := below_al (Below.refl wr.heap.size wr) (.cells #[] 2)
      go_wp2
      clear lA lA2
      go_loopw [5, 6] (fun z i wq => ∃ (j : Nat) (ar : Option Addr) (cr : Nat), j ≤ n ∧ i = .int .i64 j ∧ z = .slice ar j cr ∧ Own wq wr.heap.size ar j cr ((cstR n k).take j) ∧ Below wr.heap.size wr wq) (fun _ i _ => n - (intOf i).toNat)
      case atStart => exact ⟨0, _, 0, Nat.zero_le _, rfl, rfl, by simpa using hE, hqe⟩
      case round =>
        clear hE hqe
        obtain ⟨j, ar, cr, hj, rfl, rfl, hor, hqr⟩ := hrel
        have hAq := hAr.below hqr hAr.lt
        have lA := hAq.one
        by_cases hjt : j < n
        · have HS := Lib.hid (cstR_succ (k := k) hjt)
          have hwq := hqr.size
          go_wp2_with (at_builtin; refine app1 rfl rfl hor rfl rfl (by omega) hwq ?_; intro g' cc w8 hOw hg8 hs8 hb8)
          go_roundw
          case rel => exact ⟨j + 1, _, _, by omega, by go_num, rfl, by rw [HS.out]; exact hOw, hqr.trans hb8⟩
          case measure => simp [intOf]; omega
        · obtain rfl : j = n := by omega
          rw [List.take_of_length_le (by rw [cstR_len]; exact Nat.le_refl _)] at hor
          have hO3 := hO.below hqr hO.lt
          have lO := hO3.two
          have lO' := (hO3.alloc (.cells #[.slice ar j cr] 30)).two
          have ho3 := ho.below hqr
          have HS := Lib.hid (cstL_succ hlt)
          have hwq := hqr.size
          go_wp2_with (at_builtin; refine appT1 rfl rfl ho3 rfl (hor.mono (by omega)) (fun g h1 h2 => by have h3 := ho.high _ h1; have h4 := hor.lo _ h2; omega) (fun i hi g h1 h2 => by have h3 := hor.lo _ h1; have h4 := (ho.row i hi).hi _ h2; omega) rfl (by omega) (by omega) ?_; intro g' cc w9 hOT hb9; have hO9 := hO3.below hb9 (by omega); have lO9 := hO9.two)
          have hset := hO9.set 1 (.slice (some ⟨g', 0, none⟩) (k + 1) cc)
          go_roundw
          case rel => exact ⟨k + 1, _, _, _, by omega, by go_num, hset, by rw [HS.out]; exact hOT.setlo (by show w1.heap.size < _; omega) _, below_setne ((hq.trans (hqr.mono (by omega))).trans (hb9.mono (by omega))) (by show _ ≤ w1.heap.size; omega) _⟩
          case measure => simp [intOf]; omega
    · obtain rfl : k = n := by omega
      rw [List.take_of_length_le (by unfold cstL; rw [tabF_len]; exact Nat.le_refl _)] at ho
      have lO := hO.two
      have hRr := hR1.below hq hR1.lt
      have lR := hRr.two
      have hT1 := ho1.below hq
      have hap : ∀ g, TblS a1 k vs1 g → ¬ TblS az k vz g := fun g h1 h2 => by have e1 := ho1.uHi g h1; have e2 := ho.uLo g h2; omega
      go_wp2
      refine bodyPost_ret (v := sAgg a1 k c1 az k cz) (by simp [results, Tryz.results113, go_sem, lR, lO]) rfl ⟨a1, c1, vs1, az, cz, vz, rfl, ⟨?_, ?_, hap⟩, ?_⟩
      · exact ((hT1.setlo (by show w.heap.size + 1 < w0.heap.size; omega) _).setlo (by show w.heap.size + 1 < w0.heap.size; omega) _).mono (by omega)
      · exact ((ho.setlo (by show w.heap.size + 1 < w1.heap.size + 1; omega) _).setlo (by show w.heap.size + 1 < w1.heap.size + 1; omega) _).mono (by omega)
      · exact below_setne (below_setne (hB1.trans (hq.mono hB1.size)) (by show w.heap.size ≤ w.heap.size + 1; omega) _) (by show w.heap.size ≤ w.heap.size + 1; omega) _

set_option maxHeartbeats 4000000 in
theorem l18Quandle_any (a : Option Addr) (n c : Nat) (t : List (List Int)) (m : Int) (am : Option Addr) (cm : Nat) (M : List (List Int)) (w : World) (h : Tbl w a n t) (hrk : isRk t = true) (hmm : 1 ≤ m ∧ m ≤ 12) (hM : SqM n m.toNat M) (h5 : Tbl w am n M) :
    Calls Tryz.prog 125 #[rAgg a n c, .int .i64 m, .slice am n cm] w fun e w' => e = .returned (.bool (qwOk t m M)) ∧ Below w.heap.size w w' := by
  obtain ⟨hn1, hn12, hf⟩ := isTab_sq (isRk_parts hrk).1
  have hsol := rk_isSol hrk
  have htl := h.len
  have hqw : qwOk t m M = (diaOk n M && (qndOk n t && decide (wtFlt n t (cstL n) M m = []))) := by unfold qwOk; rw [← htl]
  rw [← htl] at hn1 hn12 hf hsol
  have HF := Lib.hid hf; have HSOL := Lib.hid hsol; have HQ := Lib.hid hqw; have HM := Lib.hid hM
  clear hf hsol hqw htl hrk hM
  obtain ⟨bM, oM, AM, OM, CM, rfl, gM⟩ := h5.gridM HM.out (by omega)
  have hA := Loc.new w rfl #[.slice a n c] 58
  have hB := below_al (Below.refl w.heap.size w) (.cells #[.slice a n c] 58)
  go_enter Tryz.func125, Tryz.ntmps125
  go_wp2
  generalize w.alloc (.cells #[.slice a n c] 58) = w0 at *
  go_loop [7] (fun i => ∃ k : Nat, k ≤ n ∧ i = .int .i64 k ∧ Hid (∀ j, j < k → tv M j j = 0)) (fun i => n - (intOf i).toNat)
  case atStart => exact ⟨0, Nat.zero_le _, rfl, Lib.hid fun j hj => absurd hj (by omega)⟩
  case round =>
    obtain ⟨k, hk, rfl, hI⟩ := hrel
    by_cases hlt : k < n
    · obtain ⟨r1, k1⟩ := (gM.below hB).look hlt hlt
      have HD : Hid (∀ V, tv M k k = V → (V ≠ 0 → diaOk n M = false)) := Lib.hid fun V hV h0 => allN_no hlt (decide_eq_false (by rw [hV]; exact h0))
      generalize hV : tv M k k = V at *
      have HV := Lib.hid hV
      clear hV
      by_cases h0 : V = 0
      · subst h0
        have hb : ((((0 : Nat) : Int)) != 0) = false := by simp
        go_wp2
        go_round
        case rel =>
          refine ⟨k + 1, by omega, by go_num, Lib.hid fun j hj => ?_⟩
          by_cases e : j = k
          · subst e; exact HV.out
          · exact hI.out j (by omega)
        case measure => simp [intOf]; omega
      · have hb : (((V : Nat) : Int) != 0) = true := by simp; omega
        have HDF := Lib.hid (HD.out V rfl h0)
        go_wp2
        go_ret
        exact ⟨ret_bool (by rw [HQ.out, HDF.out]; rfl), hB⟩
    · obtain rfl : k = n := by omega
      have HDT : Hid (diaOk k M = true) := Lib.hid (allN_mk fun x hx => decide_eq_true (hI.out x hx))
      have lA := hA.one
      clear hI
      go_wp2_with fail
      refine (l03Quandle_any _ _ _ t _ (h.below hB) HF.out hn1 hn12).mono ?_
      rintro e w1 ⟨rfl, hb1⟩
      have hB1 := below_th hB hb1
      have hA1 := hA.below hb1 hA.lt
      have lA1 := hA1.one
      cases hq : qndOk k t with
      | false =>
        have HQN := Lib.hid hq
        clear hq
        go_wp2
        go_ret
        exact ⟨ret_bool (by rw [HQ.out, HDT.out, HQN.out]; rfl), hB1⟩
      | true =>
        have HQN := Lib.hid hq
        clear hq
        go_wp2_with fail
        refine (l03Solution_any _ _ _ t _ (h.below hB1) HF.out hn1 hn12).mono ?_
        rintro e w3 ⟨a3, c3, vs3, a3', c3', vs3', rfl, ho3, hb3⟩
        have hB3 := below_th hB1 hb3
        go_wp2_with fail
        refine (l18Fault_any _ _ _ _ _ t (cstL k) m _ _ M _ ho3.f.tbl ho3.s.tbl HSOL.out hmm HM.out (h5.below hB3)).mono ?_
        rintro e w4 ⟨af, kf, cf, rfl, hof, hb4⟩
        have hB4 := below_th hB3 hb4
        have hkl := hof.len
        by_cases hk0 : kf = 0
        · have HL : Hid (decide (wtFlt k t (cstL k) M m = []) = true) := Lib.hid (decide_eq_true (List.eq_nil_of_length_eq_zero (by omega)))
          subst hk0
          clear hkl hof
          go_wp2
          go_ret
          exact ⟨ret_bool (by rw [HQ.out, HDT.out, HQN.out, HL.out]; rfl), hB4⟩
        · have HL : Hid (decide (wtFlt k t (cstL k) M m = []) = false) := Lib.hid (decide_eq_false (fun h => by rw [h] at hkl; exact hk0 hkl))
          have hb0 : ((kf : Int) == 0) = false := by simp; omega
          clear hkl hof hk0
          go_wp2
          go_ret
          exact ⟨ret_bool (by rw [HQ.out, HDT.out, HQN.out, HL.out]; rfl), hB4⟩

set_option maxHeartbeats 2000000 in
theorem spec_Iq_l (a : Option Addr) (n c : Nat) (t : List (List Int)) (m : Int) (am : Option Addr) (nm cm : Nat) (M : List (List Int)) (w : World) (h : Tbl w a n t) (hn : n ≤ 9223372036854775807) (hi : I64 m) (h5 : Tbl w am nm M) (hnm : nm ≤ 9223372036854775807) :
    Calls Tryz.prog 53 #[rAgg a n c, .int .i64 m, .slice am nm cm] w (RetO w (iqF t m M).1 (iqF t m M).2) := by
  have hA := Loc.new w rfl #[.slice a n c] 58
  have hB := below_al (Below.refl w.heap.size w) (.cells #[.slice a n c] 58)
  have HFL := Lib.hid h.len
  go_enter Tryz.func53, Tryz.ntmps53
  go_wp2_with fail
  generalize w.alloc (.cells #[.slice a n c] 58) = w0 at *
  have lA := hA.one
  refine (l03Is_any _ _ _ t _ (h.below hB) hn).mono ?_
  rintro e w1 ⟨rfl, hb1⟩
  replace hB := below_th hB hb1; replace hA := hA.below hb1 hA.lt; replace lA := hA.one
  cases q0 : isRk t with
  | false =>
    have HQ : Hid (iqF t m M = (false, 1)) := Lib.hid (iqF_0 q0)
    clear q0
    go_wp2
    go_ret2
    exact ⟨by rw [HQ.out]; rfl, hB⟩
  | true =>
  have HR := Lib.hid q0
  clear q0
  cases q1 : isMx n m M with
  | false =>
    have HQ : Hid (iqF t m M = (false, 2)) := Lib.hid (iqF_1 HR.out (by rw [← HFL.out]; exact q1))
    have HK : Hid ((if isMx n m M then 0 else 2) = (2 : Int)) := Lib.hid (by rw [q1]; rfl)
    clear q1
    go_wp2_with fail
    refine (l14Code_any _ _ _ _ _ M _ (h5.below hB) hnm _ HK.out).mono ?_
    rintro e w2 ⟨rfl, rfl⟩
    go_wp2
    go_ret2
    exact ⟨by rw [HQ.out]; rfl, hB⟩
  | true =>
  have HK : Hid ((if isMx n m M then 0 else 2) = (0 : Int)) := Lib.hid (by rw [q1]; rfl)
  go_wp2_with fail
  refine (l14Code_any _ _ _ _ _ M _ (h5.below hB) hnm _ HK.out).mono ?_
  rintro e w2 ⟨rfl, rfl⟩
  have HQ : Hid (iqF t m M = (qwOk t m M, 0)) := Lib.hid (iqF_2 HR.out (by rw [← HFL.out]; exact q1))
  obtain ⟨hmm, hM⟩ := isMx_sq q1
  clear q1
  obtain rfl : nm = n := by rw [h5.len]; exact hM.1
  have HMM := Lib.hid hmm; have HM := Lib.hid hM
  clear hmm hM
  go_wp2_with fail
  refine (l18Quandle_any _ _ _ t m _ _ M _ (h.below hB) HR.out HMM.out HM.out (h5.below hB)).mono ?_
  rintro e w3 ⟨rfl, hb3⟩
  go_wp2
  go_ret2
  exact ⟨by rw [HQ.out]; rfl, below_th hB hb3⟩

end Go.Proofs.YtnlgmhckjpifiaaGreat

namespace Go.Proofs.YtnlgmhckjpifiaaGreat
set_option linter.unusedVariables false
set_option linter.unusedSimpArgs false

/-- the tuple with the number N is led to itself -/
def colAt (n s : Nat) (f g : List (List Int)) (xs : List Int) (N : Nat) : Bool := decide (actL n f g xs (digL n s N) = digL n s N)
/-- the colourings among the first k tuples -/
def colsK (n s : Nat) (f g : List (List Int)) (xs : List Int) (k : Nat) : List (List Int) := ((List.range k).filter (colAt n s f g xs)).map (digL n s)
def colsL (n s : Nat) (f g : List (List Int)) (xs : List Int) : List (List Int) := colsK n s f g xs (n ^ s)
section
variable {n s : Nat} {f g : List (List Int)} {xs : List Int} {k : Nat}
theorem colsK_zero : colsK n s f g xs 0 = [] := rfl
theorem colsK_yes (h : colAt n s f g xs k = true) : colsK n s f g xs (k + 1) = colsK n s f g xs k ++ [digL n s k] := by
  unfold colsK; rw [List.range_succ, List.filter_append, List.map_append]; simp [h]
theorem colsK_no (h : colAt n s f g xs k = false) : colsK n s f g xs (k + 1) = colsK n s f g xs k := by
  unfold colsK; rw [List.range_succ, List.filter_append, List.map_append]; simp [h]
theorem colsK_len : (colsK n s f g xs k).length ≤ k := by
  unfold colsK
  rw [List.length_map]
  exact Nat.le_trans (List.length_filter_le _ _) (by simp)
theorem colsK_mem {l : List Int} (h : l ∈ colsK n s f g xs k) : ∃ N, N < k ∧ l = digL n s N := by
  unfold colsK at h
  rw [List.mem_map] at h
  obtain ⟨N, hN, e⟩ := h
  exact ⟨N, List.mem_range.1 ((List.mem_filter.1 hN).1), e.symm⟩
theorem tot_all {xss : List (List Int)} {s : Nat} (h : ∀ l ∈ xss, l.length = s) : tot xss = xss.length * s := by
  induction xss with
  | nil => simp [tot]
  | cons x r ih =>
    have e := ih (fun l hl => h l (List.mem_cons_of_mem _ hl))
    have e2 := h x (List.mem_cons_self ..)
    unfold tot at *
    simp only [List.map_cons, List.sum_cons, List.length_cons, e, e2]
    rw [Nat.add_mul, Nat.one_mul]; omega
theorem colsK_tot : tot (colsK n s f g xs k) ≤ k * s := by
  rw [tot_all (s := s) (fun l hl => by obtain ⟨N, _, e⟩ := colsK_mem hl; rw [e, digL_len])]
  exact Nat.mul_le_mul_right s colsK_len
end

/-- how many tuples there are, or 0 if there are too many -/
theorem pow_step {n k : Nat} : n ^ k * n = n ^ (k + 1) := (Nat.pow_succ ..).symm
theorem pow_mono {n k s : Nat} (hn : 1 ≤ n) (h : k ≤ s) : n ^ k ≤ n ^ s := Nat.pow_le_pow_right hn h

end Go.Proofs.YtnlgmhckjpifiaaGreat

namespace Go.Proofs.YtnlgmhckjpifiaaGreat
set_option maxRecDepth 100000
set_option linter.unusedVariables false
set_option linter.unusedSimpArgs false
open Go.RowKit

/-- how many tuples there are, and whether they are not too many -/
def CntR (n s : Nat) (e : Ending) : Prop := (n ^ s ≤ 5000 ∧ e = .returned (.tuple #[.int .i64 ((n ^ s : Nat) : Int), .bool true])) ∨ (5000 < n ^ s ∧ e = .returned (.tuple #[.int .i64 0, .bool false]))

set_option maxHeartbeats 1000000 in
theorem countTuples_any (n s : Nat) (w : World) (hn1 : 1 ≤ n) (hn : n ≤ 12) (hs : s ≤ 6) :
    Calls Tryz.prog 181 #[.int .i64 n, .int .i64 s] w fun e w' => CntR n s e ∧ w = w' := by
  go_enter Tryz.func181, Tryz.ntmps181
  go_wp2
  go_loop [6, 8] (fun q i => ∃ k : Nat, k ≤ s ∧ i = .int .i64 k ∧ q = .int .i64 ((n ^ k : Nat) : Int) ∧ n ^ k ≤ 5000) (fun _ i => s - (intOf i).toNat)
  case atStart => exact ⟨0, Nat.zero_le _, rfl, by simp, by simp⟩
  case round =>
    obtain ⟨k, hk, rfl, rfl, hb⟩ := hrel
    by_cases hlt : k < s
    · have e1 : ((n ^ k : Nat) : Int) * (n : Int) = ((n ^ (k + 1) : Nat) : Int) := by rw [Nat.pow_succ]; simp
      have hb2 : n ^ (k + 1) ≤ 60000 := by rw [Nat.pow_succ]; exact Nat.le_trans (Nat.mul_le_mul hb hn) (by omega)
      have hms : n ^ (k + 1) ≤ n ^ s := Nat.pow_le_pow_right hn1 hlt
      have HN : Hid (n ^ (k + 1) = n ^ (k + 1)) := Lib.hid rfl
      generalize n ^ k = C at *
      generalize hC : n ^ (k + 1) = D at *
      have HC := Lib.hid hC; clear hC
      by_cases h5 : D ≤ 5000
      · go_wp2
        go_round
        case rel => exact ⟨k + 1, by omega, by go_num, by rw [HC.out], by rw [HC.out]; exact h5⟩
        case measure => simp [intOf]; omega
      · go_wp2
        go_ret2
        exact ⟨.inr ⟨by omega, rfl⟩, rfl⟩
    · obtain rfl : k = s := by omega
      generalize hC : n ^ k = C at *
      have HC := Lib.hid hC; clear hC
      go_wp2
      go_ret2
      exact ⟨.inl ⟨by rw [HC.out]; exact hb, by rw [HC.out]; rfl⟩, rfl⟩

/-- the colourings, or none if there are too many tuples -/
def colsC (n s : Nat) (f g : List (List Int)) (xs : List Int) : List (List Int) × Int := if n ^ s ≤ 5000 then (colsL n s f g xs, 0) else ([], 3)

set_option maxHeartbeats 4000000 in
theorem colouringsOf_any (a : Option Addr) (n c : Nat) (a' : Option Addr) (c' : Nat) (f g : List (List Int)) (s : Nat) (ab : Option Addr) (nb cb : Nat) (xs : List Int) (w : World) (h1 : Tbl w a n f) (h2 : Tbl w a' n g) (q1 : isSol f g = true) (hr : Row w ab nb xs) (q2 : isBr s xs = true) :
    Calls Tryz.prog 117 #[sAgg a n c a' n c', bAgg s ab nb cb] w (RetT w (colsC n s f g xs).1 (colsC n s f g xs).2) := by
  obtain ⟨hn1, hn12, sf, sg⟩ := isSol_sq q1
  have hcc := isSol_coll q1
  have hfl := h1.len
  rw [← hfl] at hn1 hn12 sf sg hcc
  have hs26 := (isBr_let q2).1
  have hs6 : s ≤ 6 := by omega
  have H1 := Lib.hid q1; have H2 := Lib.hid q2; have HSF := Lib.hid sf; have HSG := Lib.hid sg; have HC := Lib.hid hcc
  clear q1 q2 sf sg hcc hfl hs26
  have hA := (Loc.new w rfl #[.slice a n c, .slice a' n c'] 29).alloc (.cells #[.int .i64 s, .slice ab nb cb] 32)
  have hE := Loc.new (w.alloc (.cells #[.slice a n c, .slice a' n c'] 29)) rfl #[.int .i64 s, .slice ab nb cb] 32
  rw [size_alloc] at hE
  have hB := below_al (below_al (Below.refl w.heap.size w) (.cells #[.slice a n c, .slice a' n c'] 29)) (.cells #[.int .i64 s, .slice ab nb cb] 32)
  go_enter Tryz.func117, Tryz.ntmps117
  go_wp2_with fail
  generalize (w.alloc (.cells #[.slice a n c, .slice a' n c'] 29)).alloc (.cells #[.int .i64 s, .slice ab nb cb] 32) = w0 at *
  have lA := hA.two
  have lE := hE.two
  refine (countTuples_any n s _ hn1 hn12 hs6).mono ?_
  rintro e w1 ⟨he, rfl⟩
  rcases he with ⟨h5, rfl⟩ | ⟨h5, rfl⟩
  · have HCS : Hid (colsC n s f g xs = (colsK n s f g xs (n ^ s), 0)) := Lib.hid (by unfold colsC; rw [if_pos h5]; rfl)
    generalize n ^ s = K at *
    go_wp2_with fail
    refine (newAction_any _ _ _ _ _ f g _ (h1.below hB) (h2.below hB) H1.out hn12).mono ?_
    rintro e w2 ⟨b, d, vs, b', d', vs', rfl, ho2, hb2⟩
    have hX := Loc.new w2 rfl #[.slice a n c, .slice a' n c', .slice b n d, .slice b' n d'] 105
    have hq := below_al hb2 (.cells #[.slice a n c, .slice a' n c', .slice b n d, .slice b' n d'] 105)
    have hE2 := (hE.below hb2 hE.lt).alloc (.cells #[.slice a n c, .slice a' n c', .slice b n d, .slice b' n d'] 105)
    have hBX := below_th hB hq
    have T1 := h1.below hBX; have T2 := h2.below hBX; have T5 := hr.below hBX
    have T3 := ho2.f.tbl.alloc (.cells #[.slice a n c, .slice a' n c', .slice b n d, .slice b' n d'] 105); have T4 := ho2.s.tbl.alloc (.cells #[.slice a n c, .slice a' n c', .slice b n d, .slice b' n d'] 105)
    clear hA hE h1 h2 hr ho2 hb2 hq lA lE hB
    go_wp2
    generalize hwA : w2.alloc (.cells #[.slice a n c, .slice a' n c', .slice b n d, .slice b' n d'] 105) = wA at *
    have hsz : w2.heap.size < wA.heap.size := hX.lt
    clear hwA
    go_loopw [10, 28] (fun z i wr => ∃ (k L : Nat) (az : Option Addr) (cz : Nat) (vz : List SV), k ≤ K ∧ i = .int .i64 k ∧ z = .slice az L cz ∧ OwnT wr wA.heap.size az L cz vz (colsK n s f g xs k) ∧ Below wA.heap.size wA wr) (fun _ i _ => K - (intOf i).toNat)
    case atStart => exact ⟨0, 0, none, 0, [], Nat.zero_le _, rfl, rfl, OwnT.nil _ _, Below.refl _ _⟩
    case round =>
      obtain ⟨N, L, az, cz, vz, hk, rfl, rfl, hoz, hq⟩ := hrel
      by_cases hlt : N < K
      · have lE := (hE2.below hq hE2.lt).two
        have hL : L ≤ N := by have := hoz.len; have := colsK_len (n := n) (s := s) (f := f) (g := g) (xs := xs) (k := N); omega
        go_wp2_with fail
        refine (tupleOf_any n s N _ hn1 (by omega) (by omega) (by omega)).mono ?_
        rintro e w3 ⟨at3, c3, rfl, ho, hb3⟩
        have hq3 := below_th hq hb3
        have lX := (hX.below hq3 hX.lt).four
        have lE3 := (hE2.below hq3 hE2.lt).two
        clear lE
        go_wp2_with fail
        refine (lead_any _ _ _ _ _ _ _ _ _ f g s _ _ _ xs _ _ (digL n s N) _ (T1.below hq3) (T2.below hq3) (T3.below hq3) (T4.below hq3) hn1 HSF.out HSG.out HC.out (T5.below hq3) H2.out ho.row (digL_less n s N hn1)).mono ?_
        rintro e w4 ⟨a4, c4, rfl, ho4, hb4⟩
        have hq4 := below_th hq3 hb4
        cases hv : colAt n s f g xs N with
        | true =>
          have HY : Hid (colsK n s f g xs (N + 1) = colsK n s f g xs N ++ [digL n s N]) := Lib.hid (colsK_yes hv)
          have HV : Hid (decide (actL n f g xs (digL n s N) = digL n s N) = true) := Lib.hid hv
          clear hv lX lE3
          go_wp2_with fail
          refine (sEqual_b _ _ _ _ _ _ (actL n f g xs (digL n s N)) (digL n s N) _ ho4.row (ho.row.below hb4) (by omega) true HV.out).mono ?_
          rintro e w5 ⟨rfl, hb5⟩
          have hq5 := below_th hq4 hb5
          have hz5 := hoz.below (below_th (below_th hb3 hb4) hb5)
          have ho5 := (ho.below hb4).below hb5
          have hwq := hq.size
          go_wp2_with (at_builtin; refine appT1 rfl rfl hz5 rfl (ho5.mono hwq) (fun g h1 h2 => by have h3 := hoz.high _ h1; have h4 := ho5.lo _ h2; omega) (fun i hi g h1 h2 => by have h3 := ho5.lo _ h1; have h4 := (hoz.row i hi).hi _ h2; omega) rfl (by omega) (by have := hq5.size; omega) ?_; intro g' cc w6 hO hb6)
          go_roundw
          case rel => exact ⟨N + 1, L + 1, _, _, _, by omega, by go_num, rfl, by rw [HY.out]; exact hO, hq5.trans hb6⟩
          case measure => simp [intOf]; omega
        | false =>
          have HY : Hid (colsK n s f g xs (N + 1) = colsK n s f g xs N) := Lib.hid (colsK_no hv)
          have HV : Hid (decide (actL n f g xs (digL n s N) = digL n s N) = false) := Lib.hid hv
          clear hv lX lE3
          go_wp2_with fail
          refine (sEqual_b _ _ _ _ _ _ (actL n f g xs (digL n s N)) (digL n s N) _ ho4.row (ho.row.below hb4) (by omega) false HV.out).mono ?_
          rintro e w5 ⟨rfl, hb5⟩
          have hq5 := below_th hq4 hb5
          have hz5 := hoz.below (below_th (below_th hb3 hb4) hb5)
          go_wp2
          go_roundw
          case rel => exact ⟨N + 1, L, _, _, _, by omega, by go_num, rfl, by rw [HY.out]; exact hz5, hq5⟩
          case measure => simp [intOf]; omega
      · obtain rfl : N = K := by omega
        go_wp2
        go_ret2
        exact ⟨az, L, cz, vz, by rw [HCS.out]; rfl, by rw [HCS.out]; exact hoz.mono hBX.size, hBX.trans (hq.mono hBX.size)⟩
  · have HCS : Hid (colsC n s f g xs = ([], 3)) := Lib.hid (by unfold colsC; rw [if_neg (by omega)])
    clear h5
    go_wp2
    go_ret2
    exact ⟨none, 0, 0, [], by rw [HCS.out]; rfl, by rw [HCS.out]; exact OwnT.nil _ _, hB⟩

end Go.Proofs.YtnlgmhckjpifiaaGreat

namespace Go.Proofs.YtnlgmhckjpifiaaGreat
set_option linter.unusedVariables false
set_option linter.unusedSimpArgs false

/-- the weights of the first k of some tuples -/
def wtsK (n : Nat) (f g M : List (List Int)) (m : Int) (xs : List Int) (L : List (List Int)) (k : Nat) : List Int := (L.take k).map (wtF n f g M m xs)
section
variable {n s : Nat} {f g M : List (List Int)} {m : Int} {xs : List Int} {L : List (List Int)} {k : Nat}
theorem wtsK_zero : wtsK n f g M m xs L 0 = [] := by simp [wtsK]
theorem wtsK_succ (h : k < L.length) : wtsK n f g M m xs L (k + 1) = wtsK n f g M m xs L k ++ [wtF n f g M m xs (L.getD k [])] := by
  unfold wtsK
  rw [List.take_succ_eq_append_getElem h, List.map_append]
  simp [List.getD_eq_getElem?_getD, List.getElem?_eq_getElem h]
theorem wtsK_all : wtsK n f g M m xs L L.length = L.map (wtF n f g M m xs) := by simp [wtsK]
theorem wtsK_len (h : k ≤ L.length) : (wtsK n f g M m xs L k).length = k := by unfold wtsK; rw [List.length_map, List.length_take]; omega
end
/-- all colourings' weights, and the code -/
def cwF (f g : List (List Int)) (m : Int) (M : List (List Int)) (s : Int) (xs : List Int) : List Int × Int :=
  if isSol f g then (if isBr s xs then (if isMx f.length m M then (if wtFlt f.length f g M m = [] then (if f.length ^ s.toNat ≤ 5000 then ((colsL f.length s.toNat f g xs).map (wtF f.length f g M m xs), 0) else ([], 3)) else ([], 5)) else ([], 2)) else ([], 1)) else ([], 1)
section
variable {f g M : List (List Int)} {m s : Int} {xs : List Int}
theorem cwF_0 (h : isSol f g = false) : cwF f g m M s xs = ([], 1) := by unfold cwF; rw [h]; rfl
theorem cwF_1 (h : isSol f g = true) (h1 : isBr s xs = false) : cwF f g m M s xs = ([], 1) := by unfold cwF; rw [h, h1]; rfl
theorem cwF_2 (h : isSol f g = true) (h1 : isBr s xs = true) (h2 : isMx f.length m M = false) : cwF f g m M s xs = ([], 2) := by unfold cwF; rw [h, h1, h2]; rfl
theorem cwF_3 (h : isSol f g = true) (h1 : isBr s xs = true) (h2 : isMx f.length m M = true) (h3 : wtFlt f.length f g M m ≠ []) : cwF f g m M s xs = ([], 5) := by unfold cwF; rw [h, h1, h2]; simp [h3]
theorem cwF_4 (h : isSol f g = true) (h1 : isBr s xs = true) (h2 : isMx f.length m M = true) (h3 : wtFlt f.length f g M m = []) (h4 : ¬ f.length ^ s.toNat ≤ 5000) : cwF f g m M s xs = ([], 3) := by unfold cwF; rw [h, h1, h2, h3]; simp; omega
theorem cwF_5 (h : isSol f g = true) (h1 : isBr s xs = true) (h2 : isMx f.length m M = true) (h3 : wtFlt f.length f g M m = []) (h4 : f.length ^ s.toNat ≤ 5000) : cwF f g m M s xs = ((colsL f.length s.toNat f g xs).map (wtF f.length f g M m xs), 0) := by unfold cwF; rw [h, h1, h2, h3]; simp; omega
theorem Cw_len (f g : List (List Int)) (m : Int) (M : List (List Int)) (s : Int) (xs : List Int) : List.length (cwF f g m M s xs).1 ≤ 1000000 := by
  unfold cwF
  split
  · split
    · split
      · split
        · split
          · rename_i h
            simp only [List.length_map]
            have := colsK_len (n := f.length) (s := s.toNat) (f := f) (g := g) (xs := xs) (k := f.length ^ s.toNat)
            unfold colsL
            omega
          · simp
        · simp
      · simp
    · simp
  · simp
/-- the codes -/
theorem cwF_code : (cwF f g m M s xs).2 = 0 → isSol f g = true ∧ isBr s xs = true ∧ isMx f.length m M = true ∧ wtFlt f.length f g M m = [] ∧ f.length ^ s.toNat ≤ 5000 := by
  unfold cwF
  split
  · rename_i h0
    split
    · rename_i h1
      split
      · rename_i h2
        split
        · rename_i h3
          split
          · rename_i h4; intro _; exact ⟨h0, h1, h2, h3, h4⟩
          · intro h; simp at h
        · intro h; simp at h
      · intro h; simp at h
    · intro h; simp at h
  · intro h; simp at h
theorem wtF_bd {n : Nat} {l : List Int} (h : 1 ≤ m) : 0 ≤ wtF n f g M m xs l ∧ wtF n f g M m xs l < m := ⟨Int.emod_nonneg _ (by omega), Int.emod_lt_of_pos _ (by omega)⟩
theorem cwF_bd (h : (cwF f g m M s xs).2 = 0) : (1 ≤ m ∧ m ≤ 12) ∧ ∀ x ∈ (cwF f g m M s xs).1, 0 ≤ x ∧ x < m := by
  obtain ⟨h0, h1, h2, h3, h4⟩ := cwF_code h
  have hm := (isMx_sq h2).1
  refine ⟨hm, ?_⟩
  rw [cwF_5 h0 h1 h2 h3 h4]
  intro x hx
  obtain ⟨l, _, rfl⟩ := List.mem_map.1 hx
  exact wtF_bd hm.1
end
/-- how often each of 0, 1, .. is among some numbers -/
def cntL (m : Nat) (L : List Int) : List Int := L.foldl (fun C x => C.set x.toNat (C.getD x.toNat 0 + 1)) (List.replicate m 0)
theorem cntL_len (m : Nat) (L : List Int) : (cntL m L).length = m := by
  have : ∀ C : List Int, (L.foldl (fun C x => C.set x.toNat (C.getD x.toNat 0 + 1)) C).length = C.length := by
    induction L with
    | nil => intro C; rfl
    | cons x r ih => intro C; rw [List.foldl_cons, ih, List.length_set]
  unfold cntL; rw [this]; simp
theorem cntL_take {m : Nat} {L : List Int} {k : Nat} (h : k < L.length) : cntL m (L.take (k + 1)) = (cntL m (L.take k)).set (L.getD k 0).toNat ((cntL m (L.take k)).getD (L.getD k 0).toNat 0 + 1) := by
  unfold cntL
  rw [List.take_succ_eq_append_getElem h, List.foldl_append]
  simp [List.getD_eq_getElem?_getD, List.getElem?_eq_getElem h]
theorem cntL_bd (m : Nat) (L : List Int) (i : Nat) : 0 ≤ (cntL m L).getD i 0 ∧ (cntL m L).getD i 0 ≤ L.length := by
  have : ∀ (C : List Int) (b : Int), (∀ i, 0 ≤ C.getD i 0 ∧ C.getD i 0 ≤ b) → ∀ i, 0 ≤ (L.foldl (fun C x => C.set x.toNat (C.getD x.toNat 0 + 1)) C).getD i 0 ∧ (L.foldl (fun C x => C.set x.toNat (C.getD x.toNat 0 + 1)) C).getD i 0 ≤ b + L.length := by
    induction L with
    | nil => intro C b h i; have := h i; simpa using this
    | cons x r ih =>
      intro C b h i
      rw [List.foldl_cons]
      have := ih (C.set x.toNat (C.getD x.toNat 0 + 1)) (b + 1) (fun j => by
        have h1 := h j
        have h2 := h x.toNat
        by_cases hj : j < C.length
        · by_cases e : j = x.toNat
          · subst e
            have : (C.set x.toNat (C.getD x.toNat 0 + 1)).getD x.toNat 0 = C.getD x.toNat 0 + 1 := by
              simp [List.getD_eq_getElem?_getD, List.getElem?_set, hj]
            rw [this]; omega
          · have : (C.set x.toNat (C.getD x.toNat 0 + 1)).getD j 0 = C.getD j 0 := by
              simp [List.getD_eq_getElem?_getD, List.getElem?_set, show x.toNat ≠ j from fun q => e q.symm]
            rw [this]; omega
        · have : (C.set x.toNat (C.getD x.toNat 0 + 1)).getD j 0 = 0 := by
            rw [List.getD_eq_getElem?_getD, List.getElem?_eq_none (by rw [List.length_set]; omega)]; rfl
          rw [this]
          omega) i
      rw [List.length_cons]
      push_cast
      omega
  have h := this (List.replicate m 0) 0 (fun j => by
    simp [List.getD_eq_getElem?_getD, List.getElem?_replicate]
    split <;> simp) i
  simpa [cntL] using h
/-- a state sum, and the code -/
def stF (f g : List (List Int)) (m : Int) (M : List (List Int)) (s : Int) (xs : List Int) : List Int × Int := if (cwF f g m M s xs).2 = 0 then (cntL m.toNat (cwF f g m M s xs).1, 0) else ([], (cwF f g m M s xs).2)
theorem St_len (f g : List (List Int)) (m : Int) (M : List (List Int)) (s : Int) (xs : List Int) : List.length (stF f g m M s xs).1 ≤ 1000000 := by
  unfold stF
  split
  · rename_i h
    have := (cwF_bd h).1
    show List.length (cntL _ _) ≤ _
    rw [cntL_len]; omega
  · simp
end Go.Proofs.YtnlgmhckjpifiaaGreat

namespace Go.Proofs.YtnlgmhckjpifiaaGreat
set_option maxRecDepth 100000
set_option linter.unusedVariables false
set_option linter.unusedSimpArgs false
open Go.RowKit

set_option maxHeartbeats 16000000 in
theorem impl_Cw_l (a : Option Addr) (n c : Nat) (f : List (List Int)) (a' : Option Addr) (n' c' : Nat) (g : List (List Int)) (m : Int) (am : Option Addr) (nm cm : Nat) (M : List (List Int)) (s : Int) (ab : Option Addr) (nb cb : Nat) (xs : List Int) (w : World) (h1 : Sol w a n f a' n' g) (hm : n ≤ 9223372036854775807 ∧ n' ≤ 9223372036854775807) (hi : I64 m) (h5 : Tbl w am nm M) (hnm : nm ≤ 9223372036854775807) (hs : I64 s) (hr : Row w ab nb xs) (hnb : nb ≤ 9223372036854775807) (hx : I64s xs) (hcap : nb ≤ cb ∧ cb ≤ 9223372036854775807) :
    Calls Tryz.prog 41 #[sAgg a n c a' n' c', .int .i64 m, .slice am nm cm, bAgg s ab nb cb] w (RetR w (cwF f g m M s xs).1 (cwF f g m M s xs).2) := by
  obtain ⟨hm1, hm2⟩ := hm
  have HFL := Lib.hid h1.f.len
  have hA := (Loc.new w rfl #[.slice a n c, .slice a' n' c'] 29).alloc (.cells #[.int .i64 s, .slice ab nb cb] 32)
  have hE := Loc.new (w.alloc (.cells #[.slice a n c, .slice a' n' c'] 29)) rfl #[.int .i64 s, .slice ab nb cb] 32
  rw [size_alloc] at hE
  have hB := below_al (below_al (Below.refl w.heap.size w) (.cells #[.slice a n c, .slice a' n' c'] 29)) (.cells #[.int .i64 s, .slice ab nb cb] 32)
  go_enter Tryz.func41, Tryz.ntmps41
  go_wp2_with fail
  generalize (w.alloc (.cells #[.slice a n c, .slice a' n' c'] 29)).alloc (.cells #[.int .i64 s, .slice ab nb cb] 32) = w0 at *
  have lA := hA.two
  have lE := hE.two
  refine (isSolution_any _ _ _ _ _ _ _ _ _ (h1.f.below hB) (h1.s.below hB) hm1 hm2).mono ?_
  rintro e w1 ⟨rfl, hb1⟩
  replace hB := below_th hB hb1; replace hA := hA.below hb1 hA.lt; replace hE := hE.below hb1 hE.lt; replace lA := hA.two; replace lE := hE.two
  clear hb1
  cases q0 : isSol f g with
  | false =>
    have HQ : Hid (cwF f g m M s xs = ([], 1)) := Lib.hid (cwF_0 q0)
    clear q0
    go_wp2
    go_ret2
    exact ⟨none, 0, 0, by rw [HQ.out]; rfl, by rw [HQ.out]; exact Own.nil _ _, hB⟩
  | true =>
  have HS := Lib.hid q0
  clear q0
  go_wp2_with fail
  refine (isBraid_any _ _ _ _ xs _ (hr.below hB) hnb).mono ?_
  rintro e w2 ⟨rfl, hb2⟩
  replace hB := below_th hB hb2; replace hA := hA.below hb2 hA.lt; replace hE := hE.below hb2 hE.lt; replace lA := hA.two; replace lE := hE.two
  clear hb2
  cases q1 : isBr s xs with
  | false =>
    have HQ : Hid (cwF f g m M s xs = ([], 1)) := Lib.hid (cwF_1 HS.out q1)
    clear q1
    go_wp2
    go_ret2
    exact ⟨none, 0, 0, by rw [HQ.out]; rfl, by rw [HQ.out]; exact Own.nil _ _, hB⟩
  | true =>
  have HBR := Lib.hid q1
  have hs26 := (isBr_let q1).1
  clear q1
  obtain ⟨hn1, hn12, sf, sg⟩ := isSol_sq HS.out
  have hcc := isSol_coll HS.out
  obtain rfl : n' = n := by rw [h1.s.len, HFL.out]; have := sg.len; omega
  rw [← HFL.out] at hn1 hn12 sf sg hcc
  obtain ⟨S, rfl⟩ : ∃ S : Nat, s = S := ⟨s.toNat, by omega⟩
  have HSF := Lib.hid sf; have HSG := Lib.hid sg; have HC := Lib.hid hcc
  clear sf sg hcc
  have hs2 : 2 ≤ S := by omega
  have hs6 : S ≤ 6 := by omega
  go_wp2_with fail
  refine (isMatrix_any _ _ _ _ _ M _ (h5.below hB) hnm).mono ?_
  rintro e w3 ⟨rfl, hb3⟩
  replace hB := below_th hB hb3; replace hA := hA.below hb3 hA.lt; replace hE := hE.below hb3 hE.lt; replace lA := hA.two; replace lE := hE.two
  clear hb3
  cases q2 : isMx n' m M with
  | false =>
    have HQ : Hid (cwF f g m M S xs = ([], 2)) := Lib.hid (cwF_2 HS.out HBR.out (by rw [← HFL.out]; exact q2))
    clear q2
    go_wp2
    go_ret2
    exact ⟨none, 0, 0, by rw [HQ.out]; rfl, by rw [HQ.out]; exact Own.nil _ _, hB⟩
  | true =>
  have H2 := Lib.hid q2
  obtain ⟨hmm, hM⟩ := isMx_sq q2
  clear q2
  obtain rfl : nm = n' := by rw [h5.len]; exact hM.1
  have HMM := Lib.hid hmm; have HM := Lib.hid hM
  clear hmm hM
  have nn := fun (w : World) (a : Option Addr) (n c : Nat) => Lib.run_eql_slice_nil (P := Tryz.prog) w 30 2 a n c 0 0 und_ints
  go_wp2_with fail
  refine (weightFault_any _ _ _ _ _ f g m _ _ M _ (h1.f.below hB) (h1.s.below hB) HS.out HMM.out HM.out (h5.below hB)).mono ?_
  rintro e w4 ⟨he, hb4⟩
  replace hB := below_th hB hb4; replace hA := hA.below hb4 hA.lt; replace hE := hE.below hb4 hE.lt; replace lA := hA.two; replace lE := hE.two
  clear hb4
  rcases he with ⟨hL, rfl⟩ | ⟨hL, b, k, rfl, _⟩
  rotate_left
  · have HQ : Hid (cwF f g m M S xs = ([], 5)) := Lib.hid (cwF_3 HS.out HBR.out (by rw [← HFL.out]; exact H2.out) (by rw [← HFL.out]; exact hL))
    clear hL
    go_wp2
    go_ret2
    exact ⟨none, 0, 0, by rw [HQ.out]; rfl, by rw [HQ.out]; exact Own.nil _ _, hB⟩
  have HL := Lib.hid hL
  clear hL
  go_wp2_with fail
  refine (colouringsOf_any _ _ _ _ _ f g S _ _ _ xs _ (h1.f.below hB) (h1.s.below hB) HS.out (hr.below hB) HBR.out).mono ?_
  rintro e w5 ⟨az, L, cz, vz, rfl, hoz, hb5⟩
  have hwz := hB.size
  replace hB := below_th hB hb5; replace hA := hA.below hb5 hA.lt; replace hE := hE.below hb5 hE.lt; replace lA := hA.two; replace lE := hE.two
  clear hb5
  by_cases h5k : nm ^ S ≤ 5000
  rotate_left
  · have HQ : Hid (cwF f g m M S xs = ([], 3)) := Lib.hid (cwF_4 HS.out HBR.out (by rw [← HFL.out]; exact H2.out) (by rw [← HFL.out]; exact HL.out) (by rw [← HFL.out, Int.toNat_natCast]; exact h5k))
    have e : (colsC nm S f g xs) = ([], 3) := if_neg h5k
    rw [e] at hoz ⊢
    clear e h5k
    go_wp2
    go_ret2
    exact ⟨none, 0, 0, by rw [HQ.out]; rfl, by rw [HQ.out]; exact Own.nil _ _, hB⟩
  have HQ : Hid (cwF f g m M S xs = (wtsK nm f g M m xs (colsL nm S f g xs) (colsL nm S f g xs).length, 0)) := Lib.hid (by rw [wtsK_all, cwF_5 HS.out HBR.out (by rw [← HFL.out]; exact H2.out) (by rw [← HFL.out]; exact HL.out) (by rw [← HFL.out, Int.toNat_natCast]; exact h5k), ← HFL.out, Int.toNat_natCast])
  have e : (colsC nm S f g xs) = (colsL nm S f g xs, 0) := if_pos h5k
  have hmem : ∀ i, i < (colsL nm S f g xs).length → ∃ N, (colsL nm S f g xs).getD i [] = digL nm S N := fun i hi => by
    rw [Tbl.getD hi]
    obtain ⟨N, _, e⟩ := colsK_mem (List.getElem_mem hi)
    exact ⟨N, e⟩
  have hll : (colsL nm S f g xs).length ≤ 5000 := by have := colsK_len (n := nm) (s := S) (f := f) (g := g) (xs := xs) (k := nm ^ S); unfold colsL; omega
  rw [e] at hoz ⊢
  clear e h5k
  have hLl := hoz.len
  have HLn := Lib.hid hLl; have HMEM := Lib.hid hmem
  have hL5 : L ≤ 5000 := by simp only at hLl; omega
  clear hLl hmem hll
  have HTz := Lib.hid hoz.tbl
  have HWD : Hid (IsWd S xs) := Lib.hid ⟨(isBr_let HBR.out).2.1, (isBr_let HBR.out).2.2⟩
  clear hoz
  go_wp2_with fail
  refine (newAction_any _ _ _ _ _ f g _ (h1.f.below hB) (h1.s.below hB) HS.out hn12).mono ?_
  rintro e w6 ⟨b, d, vs, b', d', vs', rfl, ho2, hb6⟩
  have hX := Loc.new w6 rfl #[.slice a nm c, .slice a' nm c', .slice b nm d, .slice b' nm d'] 105
  have hq := below_al hb6 (.cells #[.slice a nm c, .slice a' nm c', .slice b nm d, .slice b' nm d'] 105)
  replace hE := (hE.below hb6 hE.lt).alloc (.cells #[.slice a nm c, .slice a' nm c', .slice b nm d, .slice b' nm d'] 105)
  have T3 := ho2.f.tbl.alloc (.cells #[.slice a nm c, .slice a' nm c', .slice b nm d, .slice b' nm d'] 105); have T4 := ho2.s.tbl.alloc (.cells #[.slice a nm c, .slice a' nm c', .slice b nm d, .slice b' nm d'] 105)
  replace hB := below_th hB hq
  have HTz2 := Lib.hid (HTz.out.below hq)
  have T1 := h1.f.below hB; have T2 := h1.s.below hB; have T5 := h5.below hB; have T6 := hr.below hB
  clear hA lA lE h1 h5 hr ho2 hb6 hq HTz
  go_wp2
  generalize hwA : w6.alloc (.cells #[.slice a nm c, .slice a' nm c', .slice b nm d, .slice b' nm d'] 105) = wA at *
  have hsz : w6.heap.size < wA.heap.size := hX.lt
  clear hwA
  go_loopw [13, 49] (fun z i wr => ∃ (k : Nat) (ay : Option Addr) (cy : Nat), k ≤ L ∧ i = .int .i64 k ∧ z = .slice ay k cy ∧ Own wr wA.heap.size ay k cy (wtsK nm f g M m xs (colsL nm S f g xs) k) ∧ Below wA.heap.size wA wr) (fun _ i _ => L - (intOf i).toNat)
  case atStart => exact ⟨0, none, 0, Nat.zero_le _, rfl, rfl, by rw [wtsK_zero]; exact Own.nil _ _, Below.refl _ _⟩
  case round =>
    obtain ⟨k, ay, cy, hk, rfl, rfl, hoy, hq⟩ := hrel
    by_cases hlt : k < L
    · obtain ⟨bz, oz, ai, ni, ci, rfl, g1, hri, hni⟩ := (HTz2.out.below hq).at k hlt
      obtain ⟨N, hN⟩ := HMEM.out k (by have := HLn.out; omega)
      have HN := Lib.hid hN
      have hni2 := hri.len
      rw [hN, digL_len] at hni2
      subst hni2
      have lX := (hX.below hq hX.lt).four
      have lE := (hE.below hq hE.lt).two
      have HLE : Hid (Less nm ((colsL nm ni f g xs).getD k [])) := Lib.hid (by rw [hN]; exact digL_less nm ni N hn1)
      have HY : Hid (wtsK nm f g M m xs (colsL nm ni f g xs) (k + 1) = wtsK nm f g M m xs (colsL nm ni f g xs) k ++ [wtF nm f g M m xs ((colsL nm ni f g xs).getD k [])]) := Lib.hid (wtsK_succ (by have := HLn.out; omega))
      clear hN
      go_wp2_with fail
      refine (weightOf_any _ _ _ _ _ _ _ _ _ f g m _ _ M ni _ _ _ xs _ _ ((colsL nm ni f g xs).getD k []) _ (T1.below hq) (T2.below hq) (T3.below hq) (T4.below hq) hn1 HSF.out HSG.out HC.out HMM.out HM.out (T5.below hq) (T6.below hq) HWD.out hs2 hs6 hri HLE.out).mono ?_
      rintro e w7 ⟨rfl, hb7⟩
      have hq7 := below_th hq hb7
      have hy7 := hoy.below hb7
      have hwq := hq7.size
      clear lX lE g1 hri
      go_wp2_with (at_builtin; refine app1 rfl rfl hy7 rfl rfl (by omega) hwq ?_; intro g' cc w8 hO hg8 hs8 hb8)
      go_roundw
      case rel => exact ⟨k + 1, _, _, by omega, by go_num, rfl, by rw [HY.out]; exact hO, hq7.trans hb8⟩
      case measure => simp [intOf]; omega
    · obtain rfl : k = L := by omega
      go_wp2
      go_ret2
      refine ⟨ay, k, cy, by rw [HQ.out]; rfl, ?_, hB.trans (hq.mono hB.size)⟩
      rw [HQ.out]
      have := HLn.out
      rw [← this]
      exact hoy.mono hB.size

set_option maxHeartbeats 1000000 in
theorem countWeights_any (m : Int) (a : Option Addr) (n c : Nat) (L : List Int) (w : World) (h : Row w a n L) (hm : 1 ≤ m ∧ m ≤ 12) (hn : n ≤ 1000000) (hL : ∀ x ∈ L, 0 ≤ x ∧ x < m) :
    Calls Tryz.prog 114 #[.int .i64 m, .slice a n c] w fun e w' => ∃ a' n' c', e = .returned (.slice a' n' c') ∧ Own w' w.heap.size a' n' c' (cntL m.toNat L) ∧ Below w.heap.size w w' := by
  obtain ⟨hm1, hm2⟩ := hm
  obtain ⟨K, rfl⟩ : ∃ K : Nat, m = K := ⟨m.toNat, by omega⟩
  have hl := Lib.hid h.len
  have HL := Lib.hid hL
  clear hL
  rw [Int.toNat_natCast]
  go_enter Tryz.func114, Tryz.ntmps114
  go_wp2_with (at_make; refine make1 rfl rfl rfl rfl (by omega) ?_; intro w1 ho hs hb)
  go_loopw [12] (fun i wr => ∃ k : Nat, k ≤ n ∧ i = .int .i64 k ∧ Own wr w.heap.size (some ⟨w.heap.size, 0, none⟩) K K (cntL K (L.take k)) ∧ Below w.heap.size w wr) (fun i _ => n - (intOf i).toNat)
  case atStart => exact ⟨0, Nat.zero_le _, rfl, by simpa [cntL] using ho, hb⟩
  case round =>
    clear ho hb
    obtain ⟨k, hk, rfl, ho, hb⟩ := hrel
    by_cases hlt : k < n
    · obtain ⟨b, off, rfl, g1⟩ := (h.below hb).at k hlt
      have hx : k < L.length := by have := hl.out; omega
      have hb2 := HL.out L[k] (List.getElem_mem hx)
      rw [getD_eq_at hx] at g1
      have HC := Lib.hid (cntL_take (m := K) hx)
      rw [getD_eq_at hx] at HC
      generalize L[k] = X at *
      obtain ⟨x, rfl⟩ : ∃ x : Nat, X = x := ⟨X.toNat, by omega⟩
      rw [Int.toNat_natCast] at HC
      have hbd := cntL_bd K (L.take k) x
      have hlk : (L.take k).length ≤ k := List.length_take_le _ _
      obtain ⟨_, hc, hf⟩ := ho.cells
      have hc1 := hc x (by omega)
      have hf1 := hf x
      clear hc hf
      have hset := Lib.hid (ho.set x ((cntL K (L.take k)).getD x 0 + 1))
      generalize (cntL K (L.take k)).getD x 0 = V at *
      go_wp2
      go_roundw
      case rel => exact ⟨k + 1, by omega, by go_num, by rw [HC.out]; exact hset.out, hb.setCell (by simp) _⟩
      case measure => simp [intOf]; omega
    · obtain rfl : k = n := by omega
      go_wp2
      go_ret
      refine ⟨_, _, _, rfl, ?_, hb⟩
      rw [List.take_of_length_le (by have := hl.out; omega)] at ho
      exact ho

set_option maxHeartbeats 2000000 in
theorem impl_St_l (a : Option Addr) (n c : Nat) (f : List (List Int)) (a' : Option Addr) (n' c' : Nat) (g : List (List Int)) (m : Int) (am : Option Addr) (nm cm : Nat) (M : List (List Int)) (s : Int) (ab : Option Addr) (nb cb : Nat) (xs : List Int) (w : World) (h1 : Sol w a n f a' n' g) (hm : n ≤ 9223372036854775807 ∧ n' ≤ 9223372036854775807) (hi : I64 m) (h5 : Tbl w am nm M) (hnm : nm ≤ 9223372036854775807) (hs : I64 s) (hr : Row w ab nb xs) (hnb : nb ≤ 9223372036854775807) (hx : I64s xs) (hcap : nb ≤ cb ∧ cb ≤ 9223372036854775807) :
    Calls Tryz.prog 39 #[sAgg a n c a' n' c', .int .i64 m, .slice am nm cm, bAgg s ab nb cb] w (RetR w (stF f g m M s xs).1 (stF f g m M s xs).2) := by
  have hA := (Loc.new w rfl #[.slice a n c, .slice a' n' c'] 29).alloc (.cells #[.int .i64 s, .slice ab nb cb] 32)
  have hE := Loc.new (w.alloc (.cells #[.slice a n c, .slice a' n' c'] 29)) rfl #[.int .i64 s, .slice ab nb cb] 32
  rw [size_alloc] at hE
  have hB := below_al (below_al (Below.refl w.heap.size w) (.cells #[.slice a n c, .slice a' n' c'] 29)) (.cells #[.int .i64 s, .slice ab nb cb] 32)
  go_enter Tryz.func39, Tryz.ntmps39
  go_wp2_with fail
  generalize (w.alloc (.cells #[.slice a n c, .slice a' n' c'] 29)).alloc (.cells #[.int .i64 s, .slice ab nb cb] 32) = w0 at *
  have lA := hA.two
  have lE := hE.two
  refine (impl_Cw_l _ _ _ f _ _ _ g m _ _ _ M s _ _ _ xs _ ⟨h1.f.below hB, h1.s.below hB⟩ hm hi (h5.below hB) hnm hs (hr.below hB) hnb hx hcap).mono ?_
  rintro e w1 ⟨a1, n1, c1, rfl, ho, hb1⟩
  by_cases hz : (cwF f g m M s xs).2 = 0
  · obtain ⟨hmm, hbd⟩ := cwF_bd hz
    have hln := Cw_len f g m M s xs
    have hol := ho.len
    have HQ : Hid (stF f g m M s xs = (cntL m.toNat (cwF f g m M s xs).1, 0)) := Lib.hid (if_pos hz)
    have HMM := Lib.hid hmm; have HBD := Lib.hid hbd
    have hn1 : n1 ≤ 1000000 := by omega
    rw [hz]
    clear hz hmm hbd hln hol
    go_wp2_with fail
    refine (countWeights_any m _ _ _ _ _ ho.row HMM.out hn1 HBD.out).mono ?_
    rintro e w2 ⟨a2, n2, c2, rfl, ho2, hb2⟩
    go_wp2
    go_ret2
    exact ⟨a2, n2, c2, by rw [HQ.out]; rfl, by rw [HQ.out]; exact ho2.mono (by have := hB.size; have := hb1.size; omega), below_th (below_th hB hb1) hb2⟩
  · have HQ : Hid (stF f g m M s xs = ([], (cwF f g m M s xs).2)) := Lib.hid (if_neg hz)
    have hb : ((cwF f g m M s xs).2 != 0) = true := by simpa using hz
    clear hz
    generalize (cwF f g m M s xs).2 = r at *
    go_wp2
    go_ret2
    exact ⟨none, 0, 0, by rw [HQ.out]; rfl, by rw [HQ.out]; exact Own.nil _ _, below_th hB hb1⟩
end Go.Proofs.YtnlgmhckjpifiaaGreat

namespace Go.Proofs.YtnlgmhckjpifiaaGreat
set_option maxRecDepth 100000
set_option linter.unusedVariables false
set_option linter.unusedSimpArgs false
open Go.RowKit

set_option maxHeartbeats 1000000 in
theorem l06Digits_any (n k N : Nat) (w : World) (hn1 : 1 ≤ n) (hn : n ≤ 1000000) (hk : k ≤ 1000000) (hN : N ≤ 1000000000000) :
    Calls Tryz.prog 215 #[.int .i64 N, .int .i64 n, .int .i64 k] w fun e w' => ∃ a c, e = .returned (.slice a k c) ∧ Own w' w.heap.size a k c (digL n k N) ∧ Below w.heap.size w w' := by
  go_enter Tryz.func215, Tryz.ntmps215
  go_wp2_with (at_make; refine make1 rfl rfl rfl rfl (by omega) ?_; intro w1 ho hs hb)
  have hn0 : (n : Int) ≠ 0 := by omega
  go_loopw [0, 8] (fun q i wr => ∃ j : Nat, j ≤ k ∧ i = .int .i64 ((k : Int) - 1 - j) ∧ q = .int .i64 ((N / n ^ j : Nat) : Int) ∧ Own wr w.heap.size (some ⟨w.heap.size, 0, none⟩) k k (digP n k N j) ∧ Below w.heap.size w wr) (fun _ i _ => (intOf i + 1).toNat)
  case atStart => exact ⟨0, Nat.zero_le _, by go_num, by simp, by rw [digP_zero]; exact ho, hb⟩
  case round =>
    clear ho hb
    obtain ⟨j, hj, rfl, rfl, ho, hb⟩ := hrel
    by_cases hlt : j < k
    · have hq : N / n ^ j ≤ N := Nat.div_le_self _ _
      have hst := digP_step n k N j hlt
      have hdv := div_pow_succ n j N
      obtain ⟨Q, hQ⟩ : ∃ Q, Q = N / n ^ j := ⟨_, rfl⟩
      rw [← hQ] at hq hst hdv ⊢
      have Qr : ((Q : Int)).tmod (n : Int) = ((Q % n : Nat) : Int) := by rw [Int.tmod_eq_emod_of_nonneg (by omega)]; simp
      have Qd : ((Q : Int)).tdiv (n : Int) = ((Q / n : Nat) : Int) := by rw [Int.tdiv_eq_ediv_of_nonneg (by omega)]; simp
      have b1 : Q % n ≤ Q := Nat.mod_le _ _
      have b2 : Q / n ≤ Q := Nat.div_le_self _ _
      have HST := Lib.hid hst; have HDV := Lib.hid hdv
      clear hst hdv hQ
      obtain ⟨i, hi⟩ : ∃ i : Nat, i = k - 1 - j := ⟨_, rfl⟩
      have hii : (k : Int) - 1 - (j : Int) = (i : Int) := by omega
      have hik : i < k := by omega
      rw [hii]
      have HI := Lib.hid hi; have HII := Lib.hid hii
      clear hi hii
      generalize hR : Q % n = R at *
      generalize hD : Q / n = D at *
      have HR := Lib.hid hR; have HD := Lib.hid hD; clear hR hD
      have Wr : IntKind.i64.wrap (R : Int) = (R : Int) := IntWalk.i64_in _ (by omega)
      have Wd : IntKind.i64.wrap (D : Int) = (D : Int) := IntWalk.i64_in _ (by omega)
      have Wi : IntKind.i64.wrap ((i : Int) - 1) = (i : Int) - 1 := IntWalk.i64_in _ (by omega)
      obtain ⟨_, hc, hf⟩ := ho.cells
      have hc1 := hc i hik
      have hf1 := hf i
      clear hc hf
      go_wp2
      go_roundw
      case rel =>
        refine ⟨j + 1, by omega, ?_, by rw [← HDV.out], ?_, hb.setCell (by simp) _⟩
        · have := HII.out
          congr 1
          omega
        · rw [← HST.out, ← HI.out]
          exact ho.set i _
      case measure => first | (simp [intOf]; done) | (simp [intOf]; omega)
    · obtain rfl : j = k := by omega
      have e1 : (j : Int) - 1 - (j : Int) = -1 := by omega
      rw [e1]
      rw [digP_full] at ho
      go_wp2
      go_ret
      exact ⟨_, _, rfl, ho, hb⟩

end Go.Proofs.YtnlgmhckjpifiaaGreat

namespace Go.Proofs.YtnlgmhckjpifiaaGreat
set_option maxRecDepth 100000
set_option linter.unusedVariables false
set_option linter.unusedSimpArgs false
open Go.RowKit

/-- how many tuples there are, or -1 -/
def CntS (n s : Nat) (e : Ending) : Prop := (n ^ s ≤ 5000 ∧ e = .returned (.int .i64 ((n ^ s : Nat) : Int))) ∨ (5000 < n ^ s ∧ e = .returned (.int .i64 (-1)))

set_option maxHeartbeats 1000000 in
theorem l16Tuples_any (a : Option Addr) (n c : Nat) (a' : Option Addr) (n' c' : Nat) (s : Nat) (ab : Option Addr) (nb cb : Nat) (w : World) (hn1 : 1 ≤ n) (hn : n ≤ 12) (hs : s ≤ 6) :
    Calls Tryz.prog 179 #[sAgg a n c a' n' c', bAgg s ab nb cb] w fun e w' => CntS n s e ∧ Below w.heap.size w w' := by
  have hB := below_al (below_al (Below.refl w.heap.size w) (.cells #[.slice a n c, .slice a' n' c'] 29)) (.cells #[.int .i64 s, .slice ab nb cb] 32)
  go_enter Tryz.func179, Tryz.ntmps179
  go_wp2
  go_loop [5, 6] (fun q i => ∃ k : Nat, k ≤ s ∧ i = .int .i64 k ∧ q = .int .i64 ((n ^ k : Nat) : Int) ∧ n ^ k ≤ 5000) (fun _ i => s - (intOf i).toNat)
  case atStart => exact ⟨0, Nat.zero_le _, rfl, by simp, by simp⟩
  case round =>
    obtain ⟨k, hk, rfl, rfl, hb⟩ := hrel
    by_cases hlt : k < s
    · have e1 : ((n ^ k : Nat) : Int) * (n : Int) = ((n ^ (k + 1) : Nat) : Int) := by rw [Nat.pow_succ]; simp
      have hb2 : n ^ (k + 1) ≤ 60000 := by rw [Nat.pow_succ]; exact Nat.le_trans (Nat.mul_le_mul hb hn) (by omega)
      have hms : n ^ (k + 1) ≤ n ^ s := Nat.pow_le_pow_right hn1 hlt
      generalize n ^ k = C at *
      generalize hC : n ^ (k + 1) = D at *
      have HC := Lib.hid hC; clear hC
      by_cases h5 : D ≤ 5000
      · go_wp2
        go_round
        case rel => exact ⟨k + 1, by omega, by go_num, by rw [HC.out], by rw [HC.out]; exact h5⟩
        case measure => simp [intOf]; omega
      · go_wp2
        go_ret
        exact ⟨.inr ⟨by omega, rfl⟩, hB⟩
    · obtain rfl : k = s := by omega
      generalize hC : n ^ k = C at *
      have HC := Lib.hid hC; clear hC
      go_wp2
      go_ret
      exact ⟨.inl ⟨by rw [HC.out]; exact hb, by rw [HC.out]; rfl⟩, hB⟩

set_option maxHeartbeats 4000000 in
theorem l17Colourings_any (a : Option Addr) (n c : Nat) (a' : Option Addr) (c' : Nat) (f g : List (List Int)) (s : Nat) (ab : Option Addr) (nb cb : Nat) (xs : List Int) (K : Nat) (w : World) (h1 : Tbl w a n f) (h2 : Tbl w a' n g) (q1 : isSol f g = true) (hr : Row w ab nb xs) (q2 : isBr s xs = true) (hK : K ≤ 5000) :
    Calls Tryz.prog 180 #[sAgg a n c a' n c', bAgg s ab nb cb, .int .i64 K] w fun e w' => ∃ az L cz vz, e = .returned (.slice az L cz) ∧ OwnT w' w.heap.size az L cz vz (colsK n s f g xs K) ∧ Below w.heap.size w w' := by
  obtain ⟨hn1, hn12, sf, sg⟩ := isSol_sq q1
  have hcc := isSol_coll q1
  have hfl := h1.len
  rw [← hfl] at hn1 hn12 sf sg hcc
  have hs26 := (isBr_let q2).1
  have hs6 : s ≤ 6 := by omega
  have H2 := Lib.hid q2; have HSF := Lib.hid sf; have HSG := Lib.hid sg; have HC := Lib.hid hcc
  clear q1 q2 sf sg hcc hfl hs26
  have hA := (Loc.new w rfl #[.slice a n c, .slice a' n c'] 29).alloc (.cells #[.int .i64 s, .slice ab nb cb] 32)
  have hE := Loc.new (w.alloc (.cells #[.slice a n c, .slice a' n c'] 29)) rfl #[.int .i64 s, .slice ab nb cb] 32
  rw [size_alloc] at hE
  have hB := below_al (below_al (Below.refl w.heap.size w) (.cells #[.slice a n c, .slice a' n c'] 29)) (.cells #[.int .i64 s, .slice ab nb cb] 32)
  have T1 := h1.below hB; have T2 := h2.below hB; have T5 := hr.below hB
  clear h1 h2 hr
  go_enter Tryz.func180, Tryz.ntmps180
  go_upto_region 1 with fail
  generalize (w.alloc (.cells #[.slice a n c, .slice a' n c'] 29)).alloc (.cells #[.int .i64 s, .slice ab nb cb] 32) = w0 at *
  have lA := hA.two
  have lAa := (hA.alloc (.cells #[] 30)).two
  go_cut [7, 8] (fun z i wx => ∃ (az : Option Addr) (vz : List SV), i = .int .i64 n ∧ z = .slice az 0 0 ∧ OwnT wx w0.heap.size az 0 0 vz [] ∧ Below w0.heap.size w0 wx)
  case first =>
    go_region
    all_goals (go_wp2_with fail; go_meet; exact ⟨_, [], rfl, rfl, (OwnT.fresh w0 rfl).drewN 1, below_drewN (below_al (Below.refl _ _) _) 1⟩)
  case rest =>
    obtain ⟨a0, v0, rfl, rfl, hoz0, hq0⟩ := hcut
    clear lA lAa
    go_wp2
    go_loopw [7, 9] (fun z i wr => ∃ (k L : Nat) (az : Option Addr) (cz : Nat) (vz : List SV), k ≤ K ∧ i = .int .i64 k ∧ z = .slice az L cz ∧ OwnT wr w0.heap.size az L cz vz (colsK n s f g xs k) ∧ Below w0.heap.size w0 wr) (fun _ i _ => K - (intOf i).toNat)
    case atStart => exact ⟨0, 0, _, 0, _, Nat.zero_le _, rfl, rfl, hoz0, hq0⟩
    case round =>
      clear hoz0 hq0
      obtain ⟨N, L, az, cz, vz, hk, rfl, rfl, hoz, hq⟩ := hrel
      by_cases hlt : N < K
      · have lE := (hE.below hq hE.lt).two
        have hL : L ≤ N := by have := hoz.len; have := colsK_len (n := n) (s := s) (f := f) (g := g) (xs := xs) (k := N); omega
        go_wp2_with fail
        refine (l06Digits_any n s N _ hn1 (by omega) (by omega) (by omega)).mono ?_
        rintro e w3 ⟨at3, c3, rfl, ho, hb3⟩
        have hq3 := below_th hq hb3
        have lA3 := (hA.below hq3 hA.lt).two
        have lE3 := (hE.below hq3 hE.lt).two
        clear lE
        go_wp2_with fail
        refine (l16Act_any _ _ _ _ _ f g s _ _ _ xs _ _ (digL n s N) _ (T1.below hq3) (T2.below hq3) hn1 hn12 HSF.out HSG.out HC.out (T5.below hq3) H2.out ho.row (digL_less n s N hn1)).mono ?_
        rintro e w4 ⟨a4, c4, rfl, ho4, hb4⟩
        have hq4 := below_th hq3 hb4
        cases hv : colAt n s f g xs N with
        | true =>
          have HY : Hid (colsK n s f g xs (N + 1) = colsK n s f g xs N ++ [digL n s N]) := Lib.hid (colsK_yes hv)
          have HV : Hid (decide (actL n f g xs (digL n s N) = digL n s N) = true) := Lib.hid hv
          clear hv lA3 lE3
          go_wp2_with fail
          refine (l01Same_b _ _ _ _ _ _ (actL n f g xs (digL n s N)) (digL n s N) _ ho4.row (ho.row.below hb4) (by omega) true HV.out).mono ?_
          rintro e w5 ⟨rfl, hb5⟩
          have hq5 := below_th hq4 hb5
          have hz5 := hoz.below (below_th (below_th hb3 hb4) hb5)
          have ho5 := (ho.below hb4).below hb5
          have hwq := hq.size
          go_wp2_with (at_builtin; refine appT1 rfl rfl hz5 rfl (ho5.mono hwq) (fun g h1 h2 => by have h3 := hoz.high _ h1; have h4 := ho5.lo _ h2; omega) (fun i hi g h1 h2 => by have h3 := ho5.lo _ h1; have h4 := (hoz.row i hi).hi _ h2; omega) rfl (by omega) (by have := hq5.size; omega) ?_; intro g' cc w6 hO hb6)
          go_roundw
          case rel => exact ⟨N + 1, L + 1, _, _, _, by omega, by go_num, rfl, by rw [HY.out]; exact hO, hq5.trans hb6⟩
          case measure => simp [intOf]; omega
        | false =>
          have HY : Hid (colsK n s f g xs (N + 1) = colsK n s f g xs N) := Lib.hid (colsK_no hv)
          have HV : Hid (decide (actL n f g xs (digL n s N) = digL n s N) = false) := Lib.hid hv
          clear hv lA3 lE3
          go_wp2_with fail
          refine (l01Same_b _ _ _ _ _ _ (actL n f g xs (digL n s N)) (digL n s N) _ ho4.row (ho.row.below hb4) (by omega) false HV.out).mono ?_
          rintro e w5 ⟨rfl, hb5⟩
          have hq5 := below_th hq4 hb5
          have hz5 := hoz.below (below_th (below_th hb3 hb4) hb5)
          go_wp2
          go_roundw
          case rel => exact ⟨N + 1, L, _, _, _, by omega, by go_num, rfl, by rw [HY.out]; exact hz5, hq5⟩
          case measure => simp [intOf]; omega
      · obtain rfl : N = K := by omega
        go_wp2
        go_ret
        exact ⟨_, _, _, vz, rfl, hoz.mono hB.size, hB.trans (hq.mono hB.size)⟩

end Go.Proofs.YtnlgmhckjpifiaaGreat

namespace Go.Proofs.YtnlgmhckjpifiaaGreat
set_option maxRecDepth 100000
set_option linter.unusedVariables false
set_option linter.unusedSimpArgs false
open Go.RowKit

set_option maxHeartbeats 16000000 in
theorem l18Weights_any (a : Option Addr) (n c : Nat) (f : List (List Int)) (a' : Option Addr) (n' c' : Nat) (g : List (List Int)) (m : Int) (am : Option Addr) (nm cm : Nat) (M : List (List Int)) (s : Int) (ab : Option Addr) (nb cb : Nat) (xs : List Int) (w : World) (h1 : Sol w a n f a' n' g) (hm : n ≤ 9223372036854775807 ∧ n' ≤ 9223372036854775807) (hi : I64 m) (h5 : Tbl w am nm M) (hnm : nm ≤ 9223372036854775807) (hs : I64 s) (hr : Row w ab nb xs) (hnb : nb ≤ 9223372036854775807) (hx : I64s xs) (hcap : nb ≤ cb ∧ cb ≤ 9223372036854775807) :
    Calls Tryz.prog 115 #[sAgg a n c a' n' c', .int .i64 m, .slice am nm cm, bAgg s ab nb cb] w (RetR w (cwF f g m M s xs).1 (cwF f g m M s xs).2) := by
  obtain ⟨hm1, hm2⟩ := hm
  have HFL := Lib.hid h1.f.len
  have hA := (Loc.new w rfl #[.slice a n c, .slice a' n' c'] 29).alloc (.cells #[.int .i64 s, .slice ab nb cb] 32)
  have hE := Loc.new (w.alloc (.cells #[.slice a n c, .slice a' n' c'] 29)) rfl #[.int .i64 s, .slice ab nb cb] 32
  rw [size_alloc] at hE
  have hB := below_al (below_al (Below.refl w.heap.size w) (.cells #[.slice a n c, .slice a' n' c'] 29)) (.cells #[.int .i64 s, .slice ab nb cb] 32)
  go_enter Tryz.func115, Tryz.ntmps115
  go_wp2_with fail
  generalize (w.alloc (.cells #[.slice a n c, .slice a' n' c'] 29)).alloc (.cells #[.int .i64 s, .slice ab nb cb] 32) = w0 at *
  have lA := hA.two
  have lE := hE.two
  refine (l02Is_any _ _ _ _ _ _ _ _ _ (h1.f.below hB) (h1.s.below hB) hm1 hm2).mono ?_
  rintro e w1 ⟨rfl, hb1⟩
  replace hB := below_th hB hb1; replace hA := hA.below hb1 hA.lt; replace hE := hE.below hb1 hE.lt; replace lA := hA.two; replace lE := hE.two
  clear hb1
  cases q0 : isSol f g with
  | false =>
    have HQ : Hid (cwF f g m M s xs = ([], 1)) := Lib.hid (cwF_0 q0)
    clear q0
    go_wp2
    go_ret2
    exact ⟨none, 0, 0, by rw [HQ.out]; rfl, by rw [HQ.out]; exact Own.nil _ _, hB⟩
  | true =>
  have HS := Lib.hid q0
  clear q0
  go_wp2_with fail
  refine (l16Is_any _ _ _ _ xs _ (hr.below hB) hnb hs).mono ?_
  rintro e w2 ⟨rfl, hb2⟩
  replace hB := below_th hB hb2; replace hA := hA.below hb2 hA.lt; replace hE := hE.below hb2 hE.lt; replace lA := hA.two; replace lE := hE.two
  clear hb2
  cases q1 : isBr s xs with
  | false =>
    have HQ : Hid (cwF f g m M s xs = ([], 1)) := Lib.hid (cwF_1 HS.out q1)
    clear q1
    go_wp2
    go_ret2
    exact ⟨none, 0, 0, by rw [HQ.out]; rfl, by rw [HQ.out]; exact Own.nil _ _, hB⟩
  | true =>
  have HBR := Lib.hid q1
  have hs26 := (isBr_let q1).1
  clear q1
  obtain ⟨hn1, hn12, sf, sg⟩ := isSol_sq HS.out
  have hcc := isSol_coll HS.out
  obtain rfl : n' = n := by rw [h1.s.len, HFL.out]; have := sg.len; omega
  rw [← HFL.out] at hn1 hn12 sf sg hcc
  obtain ⟨S, rfl⟩ : ∃ S : Nat, s = S := ⟨s.toNat, by omega⟩
  have HSF := Lib.hid sf; have HSG := Lib.hid sg; have HC := Lib.hid hcc
  clear sf sg hcc
  have hs2 : 2 ≤ S := by omega
  have hs6 : S ≤ 6 := by omega
  have HLEN2 : Hid (n' = n') := Lib.hid rfl
  cases q2 : isMx n' m M with
  | false =>
    have HQ : Hid (cwF f g m M S xs = ([], 2)) := Lib.hid (cwF_2 HS.out HBR.out (by rw [← HFL.out]; exact q2))
    have HK : Hid ((if isSol f g then (if isMx n' m M then 0 else 2) else 1) = (2 : Int)) := Lib.hid (by rw [HS.out, q2]; rfl)
    clear q2
    go_wp2_with fail
    refine (l18Code_any _ _ _ _ _ _ f g _ _ _ _ M _ (h1.f.below hB) (h1.s.below hB) hm1 hm2 (h5.below hB) hnm _ HK.out).mono ?_
    rintro e w3 ⟨rfl, hb3⟩
    replace hB := below_th hB hb3; replace hA := hA.below hb3 hA.lt; replace hE := hE.below hb3 hE.lt; replace lA := hA.two; replace lE := hE.two
    go_wp2
    go_ret2
    exact ⟨none, 0, 0, by rw [HQ.out]; rfl, by rw [HQ.out]; exact Own.nil _ _, hB⟩
  | true =>
  have H2 := Lib.hid q2
  have HK : Hid ((if isSol f g then (if isMx n' m M then 0 else 2) else 1) = (0 : Int)) := Lib.hid (by rw [HS.out, q2]; rfl)
  obtain ⟨hmm, hM⟩ := isMx_sq q2
  clear q2
  obtain rfl : nm = n' := by rw [h5.len]; exact hM.1
  have HMM := Lib.hid hmm; have HM := Lib.hid hM
  clear hmm hM
  go_wp2_with fail
  refine (l18Code_any _ _ _ _ _ _ f g _ _ _ _ M _ (h1.f.below hB) (h1.s.below hB) hm1 hm2 (h5.below hB) hnm _ HK.out).mono ?_
  rintro e w3 ⟨rfl, hb3⟩
  replace hB := below_th hB hb3; replace hA := hA.below hb3 hA.lt; replace hE := hE.below hb3 hE.lt; replace lA := hA.two; replace lE := hE.two
  clear hb3
  go_wp2_with fail
  refine (l18Fault_any _ _ _ _ _ f g m _ _ M _ (h1.f.below hB) (h1.s.below hB) HS.out HMM.out HM.out (h5.below hB)).mono ?_
  rintro e w4 ⟨af, kf, cf, rfl, hof, hb4⟩
  replace hB := below_th hB hb4; replace hA := hA.below hb4 hA.lt; replace hE := hE.below hb4 hE.lt; replace lA := hA.two; replace lE := hE.two
  clear hb4
  have hkl := hof.len
  by_cases hk0 : kf = 0
  rotate_left
  · have HQ : Hid (cwF f g m M S xs = ([], 5)) := Lib.hid (cwF_3 HS.out HBR.out (by rw [← HFL.out]; exact H2.out) (by rw [← HFL.out]; intro h; rw [h] at hkl; exact hk0 hkl))
    have hkp : 0 < kf := by omega
    have hkq := hof.cap
    clear hkl hof hk0
    go_wp2
    go_ret2
    exact ⟨none, 0, 0, by rw [HQ.out]; rfl, by rw [HQ.out]; exact Own.nil _ _, hB⟩
  have hL : wtFlt nm f g M m = [] := List.eq_nil_of_length_eq_zero (by omega)
  subst hk0
  clear hkl hof
  have HL := Lib.hid hL
  clear hL
  go_wp2_with fail
  refine (l16Tuples_any _ _ _ _ _ _ _ _ _ _ _ hn1 hn12 hs6).mono ?_
  rintro e w5 ⟨he, hb5⟩
  replace hB := below_th hB hb5; replace hA := hA.below hb5 hA.lt; replace hE := hE.below hb5 hE.lt; replace lA := hA.two; replace lE := hE.two
  clear hb5
  rcases he with ⟨h5k, rfl⟩ | ⟨h5k, rfl⟩
  rotate_left
  · have HQ : Hid (cwF f g m M S xs = ([], 3)) := Lib.hid (cwF_4 HS.out HBR.out (by rw [← HFL.out]; exact H2.out) (by rw [← HFL.out]; exact HL.out) (by rw [← HFL.out, Int.toNat_natCast]; omega))
    clear h5k
    go_wp2
    go_ret2
    exact ⟨none, 0, 0, by rw [HQ.out]; rfl, by rw [HQ.out]; exact Own.nil _ _, hB⟩
  have HQ : Hid (cwF f g m M S xs = (wtsK nm f g M m xs (colsL nm S f g xs) (colsL nm S f g xs).length, 0)) := Lib.hid (by rw [wtsK_all, cwF_5 HS.out HBR.out (by rw [← HFL.out]; exact H2.out) (by rw [← HFL.out]; exact HL.out) (by rw [← HFL.out, Int.toNat_natCast]; exact h5k), ← HFL.out, Int.toNat_natCast])
  have hmem : ∀ i, i < (colsL nm S f g xs).length → ∃ N, (colsL nm S f g xs).getD i [] = digL nm S N := fun i hi => by
    rw [Tbl.getD hi]
    obtain ⟨N, _, e⟩ := colsK_mem (List.getElem_mem hi)
    exact ⟨N, e⟩
  have hll : (colsL nm S f g xs).length ≤ 5000 := by have := colsK_len (n := nm) (s := S) (f := f) (g := g) (xs := xs) (k := nm ^ S); unfold colsL; omega
  have HCL : Hid (colsK nm S f g xs (nm ^ S) = colsL nm S f g xs) := Lib.hid rfl
  generalize nm ^ S = K at *
  go_wp2_with fail
  refine (l17Colourings_any _ _ _ _ _ f g S _ _ _ xs K _ (h1.f.below hB) (h1.s.below hB) HS.out (hr.below hB) HBR.out h5k).mono ?_
  rintro e w6 ⟨az, L, cz, vz, rfl, hoz, hb6⟩
  rw [HCL.out] at hoz
  have hLl := hoz.len
  have HLn := Lib.hid hLl; have HMEM := Lib.hid hmem
  have hL5 : L ≤ 5000 := by omega
  have hwz := hB.size
  replace hB := below_th hB hb6; replace hA := hA.below hb6 hA.lt; replace hE := hE.below hb6 hE.lt; replace lA := hA.two; replace lE := hE.two
  have HTz := Lib.hid hoz.tbl
  have HWD : Hid (IsWd S xs) := Lib.hid (isBr_wd HBR.out)
  clear hLl hmem hll hoz hb6 h5k
  have hO0 := Own.empty0 w6 (lo := w6.heap.size) rfl (Nat.le_refl _)
  have hQ7 := below_al (Below.refl w6.heap.size w6) (.cells #[] 2)
  have HTz2 := HTz
  have hX7 := hA; have hE7 := hE
  have T1 := h1.f.below hB; have T2 := h1.s.below hB; have T5 := h5.below hB; have T6 := hr.below hB
  clear h1 h5 hr HTz hA hE
  go_wp2
  clear lA lE
  go_loopw [13, 14] (fun z i wr => ∃ (k : Nat) (ay : Option Addr) (cy : Nat), k ≤ L ∧ i = .int .i64 k ∧ z = .slice ay k cy ∧ Own wr w6.heap.size ay k cy (wtsK nm f g M m xs (colsL nm S f g xs) k) ∧ Below w6.heap.size w6 wr) (fun _ i _ => L - (intOf i).toNat)
  case atStart => exact ⟨0, _, 0, Nat.zero_le _, rfl, rfl, by rw [wtsK_zero]; exact hO0, hQ7⟩
  case round =>
    clear hO0 hQ7
    obtain ⟨k, ay, cy, hk, rfl, rfl, hoy, hq⟩ := hrel
    by_cases hlt : k < L
    · obtain ⟨bz, oz, ai, ni, ci, rfl, g0, hri0, hni⟩ := HTz2.out.at k hlt
      have hbz : bz < w6.heap.size := World.block_lt_of_cell? w6 _ g0
      have g1 := (hq.cell (p := ⟨bz, oz + k, none⟩) hbz).trans g0
      have hri := hri0.below hq
      obtain ⟨N, hN⟩ := HMEM.out k (by have := HLn.out; omega)
      have hni2 := hri.len
      rw [hN, digL_len] at hni2
      subst hni2
      have hXr := hX7.below hq hX7.lt
      have hEr := hE7.below hq hE7.lt
      have lX := hXr.two
      have lE := hEr.two
      have HLE : Hid (Less nm ((colsL nm ni f g xs).getD k [])) := Lib.hid (by rw [hN]; exact digL_less nm ni N hn1)
      have HY : Hid (wtsK nm f g M m xs (colsL nm ni f g xs) (k + 1) = wtsK nm f g M m xs (colsL nm ni f g xs) k ++ [wtF nm f g M m xs ((colsL nm ni f g xs).getD k [])]) := Lib.hid (wtsK_succ (by have := HLn.out; omega))
      clear hN
      have hwq := hq.size
      have i1 : (0 : Int) ≤ (k : Int) := by omega
      have i2 : (k : Int) < (L : Int) := by omega
      have hbzr : bz < wr.heap.size := by omega
      clear g0 hri0
      go_wp2_with fail
      go_region_held3 (fun w' => (w'.cell? ⟨w.heap.size, 0, none⟩ = some (.slice a nm c) ∧ w'.cell? ⟨w.heap.size, 1, none⟩ = some (.slice a' nm c')) ∧ (w'.cell? ⟨w.heap.size + 1, 0, none⟩ = some (.int .i64 ni) ∧ w'.cell? ⟨w.heap.size + 1, 1, none⟩ = some (.slice ab nb cb)) ∧ w'.cell? ⟨bz, oz + k, none⟩ = some (.slice ai ni ci))
        (first | exact ⟨⟨lX8.1, lX8.2.1⟩, ⟨lE8.1, lE8.2.1⟩, g8⟩ | exact ⟨⟨lX7.1, lX7.2.1⟩, ⟨lE7.1, lE7.2.1⟩, g7⟩ | exact ⟨⟨lX.1, lX.2.1⟩, ⟨lE.1, lE.2.1⟩, g1⟩ | go_keep)
        (first
          | (go_at_call 88; refine (l18Sum_any _ _ _ _ _ f g m _ _ M ni _ _ _ xs _ _ ((colsL nm ni f g xs).getD k []) _ (T1.below (below_drewN hq 1)) (T2.below (below_drewN hq 1)) hn1 hn12 HSF.out HSG.out HC.out HMM.out HM.out (T5.below (below_drewN hq 1)) (T6.below (below_drewN hq 1)) hcap.1 hcap.2 HWD.out hs2 hs6 (hri.drewN 1) HLE.out).mono ?_; rintro e w7 ⟨rfl, hb7⟩; have hr7 : Below wr.heap.size wr w7 := (Below.drew (Below.refl _ _)).trans hb7; have lX7 := (hXr.below hr7 hXr.lt).two; have lE7 := (hEr.below hr7 hEr.lt).two; have g7 := (hr7.cell (p := ⟨bz, oz + k, none⟩) hbzr).trans g1; have hoy7 := hoy.below hr7; have hs7 := hr7.size; have lX7a := ((hXr.below hr7 hXr.lt).alloc (.cells #[.int .i64 (wtF nm f g M m xs ((colsL nm ni f g xs).getD k []))] 2)).two)
          | (refine step_app1n rfl rfl hoy7 rfl rfl ?_ ?_ ?_; (omega); (omega); intro g' cc w8 hO hg8 hs8 hb8; have hr8 : Below w6.heap.size wr w8 := (hr7.mono hwq).trans hb8; have lX8 := (hXr.below hr8 hX7.lt).two; have lE8 := (hEr.below hr8 hE7.lt).two; have g8 := (hr8.cell (p := ⟨bz, oz + k, none⟩) hbz).trans g1))
      all_goals
        go_wp2
        go_roundw
        case rel => exact ⟨k + 1, _, _, by omega, by go_num, rfl, by rw [HY.out]; exact hO, hq.trans hr8⟩
        case measure => simp [intOf]; omega
    · obtain rfl : k = L := by omega
      go_wp2
      go_ret2
      refine ⟨ay, k, cy, by rw [HQ.out]; rfl, ?_, hB.trans (hq.mono hB.size)⟩
      rw [HQ.out]
      have := HLn.out
      rw [← this]
      exact hoy.mono hB.size

set_option maxHeartbeats 1000000 in
theorem l18Counts_any (m : Int) (a : Option Addr) (n c : Nat) (L : List Int) (w : World) (h : Row w a n L) (hm : 1 ≤ m ∧ m ≤ 12) (hn : n ≤ 1000000) (hL : ∀ x ∈ L, 0 ≤ x ∧ x < m) :
    Calls Tryz.prog 116 #[.int .i64 m, .slice a n c] w fun e w' => ∃ a' n' c', e = .returned (.slice a' n' c') ∧ Own w' w.heap.size a' n' c' (cntL m.toNat L) ∧ Below w.heap.size w w' := by
  obtain ⟨hm1, hm2⟩ := hm
  obtain ⟨K, rfl⟩ : ∃ K : Nat, m = K := ⟨m.toNat, by omega⟩
  have hl := Lib.hid h.len
  have HL := Lib.hid hL
  clear hL
  rw [Int.toNat_natCast]
  go_enter Tryz.func116, Tryz.ntmps116
  go_wp2_with (at_make; refine make1 rfl rfl rfl rfl (by omega) ?_; intro w1 ho hs hb)
  go_loopw [6] (fun i wr => ∃ k : Nat, k ≤ n ∧ i = .int .i64 k ∧ Own wr w.heap.size (some ⟨w.heap.size, 0, none⟩) K K (cntL K (L.take k)) ∧ Below w.heap.size w wr) (fun i _ => n - (intOf i).toNat)
  case atStart => exact ⟨0, Nat.zero_le _, rfl, by simpa [cntL] using ho, hb⟩
  case round =>
    clear ho hb
    obtain ⟨k, hk, rfl, ho, hb⟩ := hrel
    by_cases hlt : k < n
    · obtain ⟨b, off, rfl, g1⟩ := (h.below hb).at k hlt
      have hx : k < L.length := by have := hl.out; omega
      have hb2 := HL.out L[k] (List.getElem_mem hx)
      rw [getD_eq_at hx] at g1
      have HC := Lib.hid (cntL_take (m := K) hx)
      rw [getD_eq_at hx] at HC
      generalize L[k] = X at *
      obtain ⟨x, rfl⟩ : ∃ x : Nat, X = x := ⟨X.toNat, by omega⟩
      rw [Int.toNat_natCast] at HC
      have hbd := cntL_bd K (L.take k) x
      have hlk : (L.take k).length ≤ k := List.length_take_le _ _
      obtain ⟨_, hc, hf⟩ := ho.cells
      have hc1 := hc x (by omega)
      have hf1 := hf x
      clear hc hf
      have hset := Lib.hid (ho.set x ((cntL K (L.take k)).getD x 0 + 1))
      generalize (cntL K (L.take k)).getD x 0 = V at *
      go_wp2
      go_roundw
      case rel => exact ⟨k + 1, by omega, by go_num, by rw [HC.out]; exact hset.out, hb.setCell (by simp) _⟩
      case measure => simp [intOf]; omega
    · obtain rfl : k = n := by omega
      go_wp2
      go_ret
      refine ⟨_, _, _, rfl, ?_, hb⟩
      rw [List.take_of_length_le (by have := hl.out; omega)] at ho
      exact ho

set_option maxHeartbeats 2000000 in
theorem spec_St_l (a : Option Addr) (n c : Nat) (f : List (List Int)) (a' : Option Addr) (n' c' : Nat) (g : List (List Int)) (m : Int) (am : Option Addr) (nm cm : Nat) (M : List (List Int)) (s : Int) (ab : Option Addr) (nb cb : Nat) (xs : List Int) (w : World) (h1 : Sol w a n f a' n' g) (hm : n ≤ 9223372036854775807 ∧ n' ≤ 9223372036854775807) (hi : I64 m) (h5 : Tbl w am nm M) (hnm : nm ≤ 9223372036854775807) (hs : I64 s) (hr : Row w ab nb xs) (hnb : nb ≤ 9223372036854775807) (hx : I64s xs) (hcap : nb ≤ cb ∧ cb ≤ 9223372036854775807) :
    Calls Tryz.prog 40 #[sAgg a n c a' n' c', .int .i64 m, .slice am nm cm, bAgg s ab nb cb] w (RetR w (stF f g m M s xs).1 (stF f g m M s xs).2) := by
  have hA := (Loc.new w rfl #[.slice a n c, .slice a' n' c'] 29).alloc (.cells #[.int .i64 s, .slice ab nb cb] 32)
  have hE := Loc.new (w.alloc (.cells #[.slice a n c, .slice a' n' c'] 29)) rfl #[.int .i64 s, .slice ab nb cb] 32
  rw [size_alloc] at hE
  have hB := below_al (below_al (Below.refl w.heap.size w) (.cells #[.slice a n c, .slice a' n' c'] 29)) (.cells #[.int .i64 s, .slice ab nb cb] 32)
  go_enter Tryz.func40, Tryz.ntmps40
  go_wp2_with fail
  generalize (w.alloc (.cells #[.slice a n c, .slice a' n' c'] 29)).alloc (.cells #[.int .i64 s, .slice ab nb cb] 32) = w0 at *
  have lA := hA.two
  have lE := hE.two
  refine (l18Weights_any _ _ _ f _ _ _ g m _ _ _ M s _ _ _ xs _ ⟨h1.f.below hB, h1.s.below hB⟩ hm hi (h5.below hB) hnm hs (hr.below hB) hnb hx hcap).mono ?_
  rintro e w1 ⟨a1, n1, c1, rfl, ho, hb1⟩
  by_cases hz : (cwF f g m M s xs).2 = 0
  · obtain ⟨hmm, hbd⟩ := cwF_bd hz
    have hln := Cw_len f g m M s xs
    have hol := ho.len
    have HQ : Hid (stF f g m M s xs = (cntL m.toNat (cwF f g m M s xs).1, 0)) := Lib.hid (if_pos hz)
    have HMM := Lib.hid hmm; have HBD := Lib.hid hbd
    have hn1 : n1 ≤ 1000000 := by omega
    rw [hz]
    clear hz hmm hbd hln hol
    go_wp2_with fail
    refine (l18Counts_any m _ _ _ _ _ ho.row HMM.out hn1 HBD.out).mono ?_
    rintro e w2 ⟨a2, n2, c2, rfl, ho2, hb2⟩
    go_wp2
    go_ret2
    exact ⟨a2, n2, c2, by rw [HQ.out]; rfl, by rw [HQ.out]; exact ho2.mono (by have := hB.size; have := hb1.size; omega), below_th (below_th hB hb1) hb2⟩
  · have HQ : Hid (stF f g m M s xs = ([], (cwF f g m M s xs).2)) := Lib.hid (if_neg hz)
    have hb : ((cwF f g m M s xs).2 != 0) = true := by simpa using hz
    clear hz
    generalize (cwF f g m M s xs).2 = r at *
    go_wp2
    go_ret2
    exact ⟨none, 0, 0, by rw [HQ.out]; rfl, by rw [HQ.out]; exact Own.nil _ _, below_th hB hb1⟩

end Go.Proofs.YtnlgmhckjpifiaaGreat

namespace Go.Proofs.YtnlgmhckjpifiaaGreat
set_option maxRecDepth 100000
set_option linter.unusedVariables false
set_option linter.unusedSimpArgs false
open Go.RowKit

theorem info_In : (Tryz.prog.info? 3).map (fun i => (i.zero, i.size, i.bytes)) = some (some ((Value.int .i64) 0), 1, 8) := by kernel_rfl
/-! ### A slice of numbers that is read -/
/-- the slice (a, n, c) reads in w as the numbers xs -/
def RowIn (w : World) (a : Option Addr) (n : Nat) (xs : List Int) : Prop :=
  n = xs.length ∧ ∀ i, i < n → ∃ b off, a = some ⟨b, off, none⟩ ∧ b < w.heap.size ∧ w.cell? ⟨b, off + i, none⟩ = some ((Value.int .i64) (xs.getD i 0))

theorem RowIn.nil (w : World) (a : Option Addr) : RowIn w a 0 [] := ⟨rfl, fun i h => absurd h (by omega)⟩
theorem RowIn.len {w : World} {a : Option Addr} {n : Nat} {xs : List Int} (h : RowIn w a n xs) : n = xs.length := h.1
theorem RowIn.at {w : World} {a : Option Addr} {n : Nat} {xs : List Int} (h : RowIn w a n xs) (i : Nat) (hi : i < n) : ∃ b off, a = some ⟨b, off, none⟩ ∧ w.cell? ⟨b, off + i, none⟩ = some ((Value.int .i64) (xs.getD i 0)) := by
  obtain ⟨b, off, h1, _, h2⟩ := h.2 i hi; exact ⟨b, off, h1, h2⟩
/-- a slice with an element: all its cells -/
theorem RowIn.all {w : World} {a : Option Addr} {n : Nat} {xs : List Int} (h : RowIn w a n xs) (hn : 0 < n) : ∃ b off, a = some ⟨b, off, none⟩ ∧ b < w.heap.size ∧ ∀ i, i < n → w.cell? ⟨b, off + i, none⟩ = some ((Value.int .i64) (xs.getD i 0)) := by
  obtain ⟨b, off, h1, h3, h2⟩ := h.2 0 hn
  refine ⟨b, off, h1, h3, fun i hi => ?_⟩
  obtain ⟨b', off', h4, _, h5⟩ := h.2 i hi
  rw [h1] at h4; cases h4; exact h5
theorem RowIn.below {w w' : World} {a : Option Addr} {n : Nat} {xs : List Int} (h : RowIn w a n xs) (hb : Below w.heap.size w w') : RowIn w' a n xs :=
  ⟨h.1, fun i hi => by obtain ⟨b, off, h1, h3, h2⟩ := h.2 i hi; exact ⟨b, off, h1, Nat.lt_of_lt_of_le h3 hb.size, (hb.cell (p := ⟨b, off + i, none⟩) h3).trans h2⟩⟩
theorem RowIn.drewN {w : World} {a : Option Addr} {n : Nat} {xs : List Int} (h : RowIn w a n xs) (k : Nat) : RowIn (w.drewN k) a n xs := h
theorem RowIn.alloc {w : World} {a : Option Addr} {n : Nat} {xs : List Int} (h : RowIn w a n xs) (o : Obj) : RowIn (w.alloc o) a n xs := h.below ((Below.refl _ _).alloc (Nat.le_refl _) o)

/-! ### A slice of numbers that the call owns (its block lies from 'lo' on) -/
def OwnIn (w : World) (lo : Nat) (a : Option Addr) (n c : Nat) (xs : List Int) : Prop := n = xs.length ∧ w.ownsRow lo 3 1 (.slice a n c) n (xs.map (((Value.int .i64))))

theorem OwnIn.nil (w : World) (lo : Nat) : OwnIn w lo none 0 0 [] := ⟨rfl, World.ownsRow_nil w lo _ 1⟩
theorem OwnIn.len {w : World} {lo : Nat} {a : Option Addr} {n c : Nat} {xs : List Int} (h : OwnIn w lo a n c xs) : n = xs.length := h.1
theorem OwnIn.alloc {w : World} {lo : Nat} {a : Option Addr} {n c : Nat} {xs : List Int} (h : OwnIn w lo a n c xs) (o : Obj) : OwnIn (w.alloc o) lo a n c xs := ⟨h.1, h.2.alloc o⟩
theorem OwnIn.drew {w : World} {lo : Nat} {a : Option Addr} {n c : Nat} {xs : List Int} (h : OwnIn w lo a n c xs) : OwnIn w.drew lo a n c xs := h
theorem OwnIn.drewN {w : World} {lo : Nat} {a : Option Addr} {n c : Nat} {xs : List Int} (h : OwnIn w lo a n c xs) (k : Nat) : OwnIn (w.drewN k) lo a n c xs := h
/-- the block of a slice that is owned -/
theorem OwnIn.block {w : World} {lo : Nat} {a : Option Addr} {n c : Nat} {xs : List Int} (h : OwnIn w lo a n c xs) : (a = none ∧ n = 0 ∧ c = 0) ∨ ∃ g cur, a = some ⟨g, 0, none⟩ ∧ lo ≤ g ∧ Loc w g cur 3 ∧ n ≤ c ∧ c ≤ maxLen ∧ cur.size = c ∧ cur.toList.take n = xs.map (((Value.int .i64))) := by
  rcases h.2.2 with ⟨h1, h2⟩ | ⟨g, cap, cur, h1, h2, h3, h4, h5, h6, h7⟩
  · cases h1; exact .inl ⟨rfl, rfl, rfl⟩
  · cases h1; exact .inr ⟨g, cur, rfl, h2, h3, h4, h5, by simpa using h6, by simpa using h7⟩
theorem OwnIn.mk {w : World} {lo : Nat} {g n c : Nat} {xs : List Int} {cur : Array Value} (hn : n = xs.length) (h1 : lo ≤ g) (h2 : Loc w g cur 3) (h3 : n ≤ c) (h4 : c ≤ maxLen) (h5 : cur.size = c) (h6 : cur.toList.take n = xs.map (((Value.int .i64)))) : OwnIn w lo (some ⟨g, 0, none⟩) n c xs :=
  ⟨hn, by simp [hn], .inr ⟨g, c, cur, rfl, h1, h2, h3, h4, by simpa using h5, by simpa using h6⟩⟩
theorem OwnIn.lt {w : World} {lo : Nat} {g o n c : Nat} {xs : List Int} (h : OwnIn w lo (some ⟨g, o, none⟩) n c xs) : lo ≤ g ∧ g < w.heap.size := by
  rcases h.block with ⟨h1, _⟩ | ⟨g', cur, h1, h2, h3, _⟩
  · cases h1
  · cases h1; exact ⟨h2, h3.lt⟩
theorem OwnIn.mono {w : World} {lo lo' : Nat} {a : Option Addr} {n c : Nat} {xs : List Int} (h : OwnIn w lo a n c xs) (hl : lo' ≤ lo) : OwnIn w lo' a n c xs := by
  rcases h.block with ⟨rfl, rfl, rfl⟩ | ⟨g, cur, rfl, h2, h3, h4, h5, h6, h7⟩
  · have : xs = [] := List.eq_nil_of_length_eq_zero h.1.symm
    subst this; exact OwnIn.nil _ _
  · exact OwnIn.mk h.1 (by omega) h3 h4 h5 h6 h7
theorem OwnIn.keep {w w' : World} {lo : Nat} {a : Option Addr} {n c : Nat} {xs : List Int} (h : OwnIn w lo a n c xs) (hk : ∀ g, a = some ⟨g, 0, none⟩ → g < w.heap.size → w'.heap[g]? = w.heap[g]?) : OwnIn w' lo a n c xs := by
  rcases h.block with ⟨rfl, rfl, rfl⟩ | ⟨g, cur, rfl, h2, h3, h4, h5, h6, h7⟩
  · have : xs = [] := List.eq_nil_of_length_eq_zero h.1.symm
    subst this; exact OwnIn.nil _ _
  · exact OwnIn.mk h.1 h2 ((hk g rfl h3.lt).trans h3) h4 h5 h6 h7
theorem OwnIn.below {w w' : World} {lo : Nat} {a : Option Addr} {n c : Nat} {xs : List Int} (h : OwnIn w lo a n c xs) (hb : Below w.heap.size w w') : OwnIn w' lo a n c xs := h.keep fun g _ hlt => hb.block g hlt
theorem OwnIn.setne {w : World} {lo : Nat} {a : Option Addr} {n c : Nat} {xs : List Int} (h : OwnIn w lo a n c xs) {p : Addr} (hp : ∀ g, a = some ⟨g, 0, none⟩ → g ≠ p.block) (u : Value) : OwnIn (w.setCell p u) lo a n c xs := h.keep fun g hg _ => Below.heap_setCell _ _ _ _ (hp g hg)
theorem OwnIn.setlo {w : World} {lo : Nat} {a : Option Addr} {n c : Nat} {xs : List Int} (h : OwnIn w lo a n c xs) {p : Addr} (hp : p.block < lo) (u : Value) : OwnIn (w.setCell p u) lo a n c xs := by
  refine h.setne (fun g hg => ?_) u
  subst hg; have := h.lt; omega
theorem OwnIn.grown {w w' : World} {lo : Nat} {a : Option Addr} {n c : Nat} {xs : List Int} {row : Option Nat} (h : OwnIn w lo a n c xs) (hg : w.grownBy w' row) (hne : ∀ g, a = some ⟨g, 0, none⟩ → some g ≠ row) : OwnIn w' lo a n c xs := h.keep fun g hg' hlt => hg.block g hlt (hne g hg')
theorem OwnIn.cap {w : World} {lo : Nat} {a : Option Addr} {n c : Nat} {xs : List Int} (h : OwnIn w lo a n c xs) : n ≤ c ∧ c ≤ 9223372036854775807 := by
  rcases h.block with ⟨rfl, rfl, rfl⟩ | ⟨g, cur, rfl, h2, h3, h4, h5, h6, h7⟩
  · omega
  · unfold maxLen at h5; omega
theorem OwnIn.cells {w : World} {lo : Nat} {g o n c : Nat} {xs : List Int} (h : OwnIn w lo (some ⟨g, o, none⟩) n c xs) : o = 0 ∧ (∀ i, i < n → w.cell? ⟨g, i, none⟩ = some ((Value.int .i64) (xs.getD i 0))) ∧ (∀ i, w.frozen? ⟨g, i, none⟩ = false) := by
  rcases h.block with ⟨h1, _⟩ | ⟨g', cur, h1, h2, h3, h4, h5, h6, h7⟩
  · cases h1
  · cases h1
    refine ⟨rfl, fun i hi => h3.cell i ?_, fun i => h3.free i⟩
    have hx : (cur.toList.take n)[i]? = (xs.map (((Value.int .i64))))[i]? := by rw [h7]
    have hxi : i < xs.length := by have := h.1; omega
    rw [List.getElem?_take, if_pos hi] at hx
    simp [List.getElem?_eq_getElem hxi] at hx
    simp [List.getD_eq_getElem?_getD, List.getElem?_eq_getElem hxi, hx]
theorem OwnIn.row {w : World} {lo : Nat} {a : Option Addr} {n c : Nat} {xs : List Int} (h : OwnIn w lo a n c xs) : RowIn w a n xs := by
  refine ⟨h.1, fun i hi => ?_⟩
  rcases h.block with ⟨rfl, rfl, rfl⟩ | ⟨g, cur, rfl, h2, h3, _⟩
  · omega
  · exact ⟨g, 0, rfl, h3.lt, by simpa using h.cells.2.1 i hi⟩
/-- a store into a slice that is owned -/
theorem OwnIn.set {w : World} {lo : Nat} {g n c : Nat} {xs : List Int} (h : OwnIn w lo (some ⟨g, 0, none⟩) n c xs) (i : Nat) (x : Int) : OwnIn (w.setCell ⟨g, i, none⟩ ((Value.int .i64) x)) lo (some ⟨g, 0, none⟩) n c (xs.set i x) := by
  rcases h.block with ⟨h1, _⟩ | ⟨g', cur, h1, h2, h3, h4, h5, h6, h7⟩
  · cases h1
  · cases h1
    refine OwnIn.mk (by simp [h.1]) h2 (h3.set i _) h4 h5 (by simpa using h6) ?_
    rw [Array.toList_setIfInBounds, List.take_set, h7, List.map_set]

theorem OwnIn.hi {w : World} {lo : Nat} {a : Option Addr} {n c : Nat} {xs : List Int} (h : OwnIn w lo a n c xs) : ∀ g, a = some ⟨g, 0, none⟩ → g < w.heap.size := fun g hg => by subst hg; exact h.lt.2
theorem OwnIn.lo {w : World} {lo : Nat} {a : Option Addr} {n c : Nat} {xs : List Int} (h : OwnIn w lo a n c xs) : ∀ g, a = some ⟨g, 0, none⟩ → lo ≤ g := fun g hg => by subst hg; exact h.lt.1

/-- a new slice of one number -/
theorem OwnIn.single (w : World) {b : Nat} (hb : b = w.heap.size) (y : Int) : OwnIn (w.alloc (.cells #[Value.int .i64 y] 3)) w.heap.size (some ⟨b, 0, none⟩) 1 1 [y] :=
  OwnIn.mk rfl (by omega) (Loc.new _ hb _ _) (Nat.le_refl _) (by unfold maxLen; omega) rfl rfl

theorem OwnIn.fresh (w : World) {b : Nat} (hb : b = w.heap.size) : OwnIn (w.alloc (.cells #[] 3)) w.heap.size (some ⟨b, 0, none⟩) 0 0 [] :=
  OwnIn.mk rfl (by omega) (Loc.new _ hb _ _) (Nat.le_refl _) (by unfold maxLen; omega) rfl rfl

end Go.Proofs.YtnlgmhckjpifiaaGreat

namespace Go.Proofs.YtnlgmhckjpifiaaGreat
set_option maxRecDepth 100000
set_option linter.unusedVariables false
set_option linter.unusedSimpArgs false
open Go.RowKit

/-- what ColouringsOf hands back -/
def colsF (f g : List (List Int)) (s : Int) (xs : List Int) : List (List Int) × Int := if codeF f g s xs = 0 then colsC f.length s.toNat f g xs else ([], 1)
theorem colsC_len {n s : Nat} {f g : List (List Int)} {xs : List Int} (hs : s ≤ 6) : tot (colsC n s f g xs).1 ≤ 30000 := by
  unfold colsC
  split
  · rename_i h
    have := colsK_tot (n := n) (s := s) (f := f) (g := g) (xs := xs) (k := n ^ s)
    have h2 : n ^ s * s ≤ 5000 * 6 := Nat.mul_le_mul h hs
    show tot (colsK n s f g xs (n ^ s)) ≤ _
    omega
  · simp [tot]
theorem Cols_len (f g : List (List Int)) (s : Int) (xs : List Int) : tot (colsF f g s xs).1 ≤ 1000000 := by
  unfold colsF
  split
  · rename_i h
    have h2 := (isBr_let (codeF_zero h).2).1
    have := colsC_len (n := f.length) (f := f) (g := g) (xs := xs) (s := s.toNat) (by omega)
    omega
  · simp [tot]
theorem codeF_one {f g : List (List Int)} {s : Int} {xs : List Int} (h : ¬ codeF f g s xs = 0) : codeF f g s xs = 1 := by
  unfold codeF at *
  by_cases h1 : isSol f g = true
  · rw [if_pos h1] at h ⊢
    by_cases h2 : isBr s xs = true
    · rw [if_pos h2] at h; omega
    · rw [if_neg h2]
  · rw [if_neg h1]

set_option maxHeartbeats 4000000 in
theorem impl_Cols_l (a : Option Addr) (n c : Nat) (f : List (List Int)) (a' : Option Addr) (n' c' : Nat) (g : List (List Int)) (s : Int) (ab : Option Addr) (nb cb : Nat) (xs : List Int) (w : World) (h1 : Sol w a n f a' n' g) (hm : n ≤ 9223372036854775807 ∧ n' ≤ 9223372036854775807) (hs : I64 s) (hr : Row w ab nb xs) (hnb : nb ≤ 9223372036854775807) (hx : I64s xs) :
    Calls Tryz.prog 118 #[sAgg a n c a' n' c', bAgg s ab nb cb] w (RetT w (colsF f g s xs).1 (colsF f g s xs).2) := by
  obtain ⟨hm1, hm2⟩ := hm
  have hfl := h1.f.len
  by_cases q1 : isSol f g = true
  rotate_left
  · replace q1 : isSol f g = false := by simpa using q1
    have hq : colsF f g s xs = ([], 1) := by unfold colsF codeF; rw [q1]; rfl
    rw [hq]
    have H1 := Lib.hid q1
    clear q1 hq hfl
    have hA := (Loc.new w rfl #[.slice a n c, .slice a' n' c'] 29).alloc (.cells #[.int .i64 s, .slice ab nb cb] 32)
    have hE := Loc.new (w.alloc (.cells #[.slice a n c, .slice a' n' c'] 29)) rfl #[.int .i64 s, .slice ab nb cb] 32
    rw [size_alloc] at hE
    have hB := below_al (below_al (Below.refl w.heap.size w) (.cells #[.slice a n c, .slice a' n' c'] 29)) (.cells #[.int .i64 s, .slice ab nb cb] 32)
    go_enter Tryz.func118, Tryz.ntmps118
    go_wp2_with fail
    generalize (w.alloc (.cells #[.slice a n c, .slice a' n' c'] 29)).alloc (.cells #[.int .i64 s, .slice ab nb cb] 32) = w0 at *
    have lA := hA.two
    have lE := hE.two
    refine (isSolution_any _ _ _ _ _ _ _ _ _ (h1.f.below hB) (h1.s.below hB) hm1 hm2).mono ?_
    rintro e w1 ⟨rfl, hb1⟩
    rw [H1.out]
    go_wp2
    go_ret2
    exact ⟨none, 0, 0, [], rfl, OwnT.nil _ _, below_th hB hb1⟩
  have H1 := Lib.hid q1
  by_cases q2 : isBr s xs = true
  rotate_left
  · replace q2 : isBr s xs = false := by simpa using q2
    have hq : colsF f g s xs = ([], 1) := by unfold colsF codeF; rw [q1, q2]; rfl
    rw [hq]
    have H2 := Lib.hid q2
    clear q1 q2 hq hfl
    have hA := (Loc.new w rfl #[.slice a n c, .slice a' n' c'] 29).alloc (.cells #[.int .i64 s, .slice ab nb cb] 32)
    have hE := Loc.new (w.alloc (.cells #[.slice a n c, .slice a' n' c'] 29)) rfl #[.int .i64 s, .slice ab nb cb] 32
    rw [size_alloc] at hE
    have hB := below_al (below_al (Below.refl w.heap.size w) (.cells #[.slice a n c, .slice a' n' c'] 29)) (.cells #[.int .i64 s, .slice ab nb cb] 32)
    go_enter Tryz.func118, Tryz.ntmps118
    go_wp2_with fail
    generalize (w.alloc (.cells #[.slice a n c, .slice a' n' c'] 29)).alloc (.cells #[.int .i64 s, .slice ab nb cb] 32) = w0 at *
    have lA := hA.two
    have lE := hE.two
    refine (isSolution_any _ _ _ _ _ _ _ _ _ (h1.f.below hB) (h1.s.below hB) hm1 hm2).mono ?_
    rintro e w1 ⟨rfl, hb1⟩
    rw [H1.out]
    have lE1 := (hE.below hb1 hE.lt).two
    go_wp2_with fail
    refine (isBraid_any _ _ _ _ xs _ (hr.below (below_th hB hb1)) hnb).mono ?_
    rintro e w2 ⟨rfl, hb2⟩
    rw [H2.out]
    go_wp2
    go_ret2
    exact ⟨none, 0, 0, [], rfl, OwnT.nil _ _, below_th (below_th hB hb1) hb2⟩
  have H2 := Lib.hid q2
  obtain ⟨hn1, hn12, sf, sg⟩ := isSol_sq q1
  have hl2 : n' = n := by rw [h1.s.len, hfl]; have := sg.len; omega
  subst hl2
  have hs26 := (isBr_let q2).1
  obtain ⟨S, rfl⟩ : ∃ S : Nat, s = S := ⟨s.toNat, by omega⟩
  have hq : colsF f g S xs = colsC n' S f g xs := by unfold colsF codeF; rw [q1, q2, ← hfl]; simp
  rw [hq]
  clear q1 q2 hq hfl sf sg hs26 hn1 hn12
  have hA := (Loc.new w rfl #[.slice a n' c, .slice a' n' c'] 29).alloc (.cells #[.int .i64 S, .slice ab nb cb] 32)
  have hE := Loc.new (w.alloc (.cells #[.slice a n' c, .slice a' n' c'] 29)) rfl #[.int .i64 S, .slice ab nb cb] 32
  rw [size_alloc] at hE
  have hB := below_al (below_al (Below.refl w.heap.size w) (.cells #[.slice a n' c, .slice a' n' c'] 29)) (.cells #[.int .i64 S, .slice ab nb cb] 32)
  go_enter Tryz.func118, Tryz.ntmps118
  go_wp2_with fail
  generalize (w.alloc (.cells #[.slice a n' c, .slice a' n' c'] 29)).alloc (.cells #[.int .i64 S, .slice ab nb cb] 32) = w0 at *
  have lA := hA.two
  have lE := hE.two
  refine (isSolution_any _ _ _ _ _ _ _ _ _ (h1.f.below hB) (h1.s.below hB) hm1 hm2).mono ?_
  rintro e w1 ⟨rfl, hb1⟩
  rw [H1.out]
  have hB1 := below_th hB hb1
  have hA1 := hA.below hb1 hA.lt
  have hE1 := hE.below hb1 hE.lt
  have lE1 := hE1.two
  go_wp2_with fail
  refine (isBraid_any _ _ _ _ xs _ (hr.below hB1) hnb).mono ?_
  rintro e w2 ⟨rfl, hb2⟩
  rw [H2.out]
  have hB2 := below_th hB1 hb2
  have lA2 := (hA1.below hb2 hA1.lt).two
  have lE2 := (hE1.below hb2 hE1.lt).two
  go_wp2_with fail
  refine (colouringsOf_any _ _ _ _ _ f g S _ _ _ xs _ (h1.f.below hB2) (h1.s.below hB2) H1.out (hr.below hB2) H2.out).mono ?_
  rintro e w3 ⟨a3, n3, c3, vs3, rfl, ho3, hb3⟩
  go_wp2
  go_ret2
  exact ⟨_, _, _, vs3, rfl, ho3.mono hB2.size, below_th hB2 hb3⟩

set_option maxHeartbeats 1000000 in
theorem impl_Cnt_l (a : Option Addr) (n c : Nat) (f : List (List Int)) (a' : Option Addr) (n' c' : Nat) (g : List (List Int)) (s : Int) (ab : Option Addr) (nb cb : Nat) (xs : List Int) (w : World) (h1 : Sol w a n f a' n' g) (hm : n ≤ 9223372036854775807 ∧ n' ≤ 9223372036854775807) (hs : I64 s) (hr : Row w ab nb xs) (hnb : nb ≤ 9223372036854775807) (hx : I64s xs) :
    Calls Tryz.prog 42 #[sAgg a n c a' n' c', bAgg s ab nb cb] w (RetI w ((colsF f g s xs).1.length : Int) (colsF f g s xs).2) := by
  have hA := (Loc.new w rfl #[.slice a n c, .slice a' n' c'] 29).alloc (.cells #[.int .i64 s, .slice ab nb cb] 32)
  have hE := Loc.new (w.alloc (.cells #[.slice a n c, .slice a' n' c'] 29)) rfl #[.int .i64 s, .slice ab nb cb] 32
  rw [size_alloc] at hE
  have hB := below_al (below_al (Below.refl w.heap.size w) (.cells #[.slice a n c, .slice a' n' c'] 29)) (.cells #[.int .i64 s, .slice ab nb cb] 32)
  go_enter Tryz.func42, Tryz.ntmps42
  go_wp2_with fail
  generalize (w.alloc (.cells #[.slice a n c, .slice a' n' c'] 29)).alloc (.cells #[.int .i64 s, .slice ab nb cb] 32) = w0 at *
  have lA := hA.two
  have lE := hE.two
  refine (impl_Cols_l _ _ _ f _ _ _ g _ _ _ _ xs _ ⟨h1.f.below hB, h1.s.below hB⟩ hm hs (hr.below hB) hnb hx).mono ?_
  rintro e w1 ⟨a1, n1, c1, vs1, rfl, ho, hb1⟩
  have hl := Lib.hid ho.len
  go_wp2
  go_ret2
  exact ⟨by rw [← hl.out]; rfl, below_th hB hb1⟩

end Go.Proofs.YtnlgmhckjpifiaaGreat

namespace Go.Proofs.YtnlgmhckjpifiaaGreat
set_option maxRecDepth 100000
set_option linter.unusedVariables false
set_option linter.unusedSimpArgs false
open Go.RowKit

theorem numL_bd {n s : Nat} {l : List Int} (hn : 1 ≤ n) (hl : l.length = s) (hle : Less n l) (hb : n ^ s ≤ 5000) (k : Nat) (hk : k ≤ s) : numL n (l.take k) < 5000 := by
  have h1 : Less n (l.take k) := fun i hi => by
    rw [List.length_take] at hi
    have := hle i (by omega)
    simpa [List.getD_eq_getElem?_getD, List.getElem?_take, show i < k by omega] using this
  have h2 := numL_lt hn h1
  have h3 : n ^ (l.take k).length ≤ n ^ s := Nat.pow_le_pow_right hn (by rw [List.length_take]; omega)
  omega

set_option maxHeartbeats 1000000 in
theorem numberOf_any (n s : Nat) (a : Option Addr) (c : Nat) (l : List Int) (w : World) (h : Row w a s l) (hn1 : 1 ≤ n) (hn : n ≤ 12) (hs : s ≤ 6) (hle : Less n l) (hb : n ^ s ≤ 5000) :
    Calls Tryz.prog 155 #[.int .i64 n, .slice a s c] w fun e w' => e = .returned (.int .i64 ((numL n l : Nat) : Int)) ∧ w = w' := by
  have HL := Lib.hid h.len
  have HBD := Lib.hid (numL_bd hn1 h.len.symm hle hb)
  go_enter Tryz.func155, Tryz.ntmps155
  go_wp2
  go_loop [5, 10] (fun m i => ∃ k : Nat, k ≤ s ∧ i = .int .i64 k ∧ m = .int .i64 ((numL n (l.take k) : Nat) : Int)) (fun _ i => s - (intOf i).toNat)
  case atStart => exact ⟨0, Nat.zero_le _, rfl, by simp [numL]⟩
  case round =>
    obtain ⟨k, hk, rfl, rfl⟩ := hrel
    by_cases hlt : k < s
    · obtain ⟨b, off, rfl, g1⟩ := h.at k hlt
      have hx : k < l.length := by have := HL.out; omega
      obtain ⟨d, hd, ed⟩ := hle k hx
      have HT := Lib.hid (numL_take (n := n) hx)
      rw [ed] at g1 HT
      rw [Int.toNat_natCast] at HT
      have b1 := HBD.out k hk
      generalize numL n (l.take k) = M at *
      have m1 : M * n ≤ 60000 := Nat.le_trans (Nat.mul_le_mul (show M ≤ 5000 by omega) hn) (by omega)
      have e1 : (M : Int) * (n : Int) = ((M * n : Nat) : Int) := by simp
      have HS : Hid (((M * n : Nat) : Int) + (d : Int) = ((M * n + d : Nat) : Int)) := Lib.hid (by simp)
      generalize hP : M * n = P at *
      clear hP ed
      go_wp2
      go_round
      case rel => exact ⟨k + 1, by omega, by go_num, by rw [HT.out, ← HS.out]⟩
      case measure => simp [intOf]; omega
    · obtain rfl : k = s := by omega
      go_wp2
      go_ret
      exact ⟨ret_int (by rw [List.take_of_length_le (by have := HL.out; omega)]), rfl⟩

/-- the numbers to which the first k tuples are led, and zeros -/
def nxtP (F : Nat → Nat) (K k : Nat) : List Int := ((List.range K).map fun i => ((F i : Nat) : Int)).take k ++ List.replicate (K - k) 0
theorem nxtP_step (F : Nat → Nat) {K k : Nat} (h : k < K) : (nxtP F K k).set k ((F k : Nat) : Int) = nxtP F K (k + 1) := rowP_step K (fun i => ((F i : Nat) : Int)) k h
theorem nxtP_full (F : Nat → Nat) (K i : Nat) (h : i < K) : (nxtP F K K).getD i 0 = ((F i : Nat) : Int) := by
  unfold nxtP
  rw [List.take_of_length_le (by simp), Nat.sub_self, List.replicate_zero, List.append_nil]
  simp [List.getD_eq_getElem?_getD, List.getElem?_map, h]

end Go.Proofs.YtnlgmhckjpifiaaGreat

namespace Go.Proofs.YtnlgmhckjpifiaaGreat
set_option maxRecDepth 100000
set_option linter.unusedVariables false
set_option linter.unusedSimpArgs false
open Go.RowKit

/-- the numbers to which the first k tuples are led -/
def nxtL (F : Nat → Nat) (k : Nat) : List Int := (List.range k).map fun i => ((F i : Nat) : Int)
theorem nxtL_len (F : Nat → Nat) (k : Nat) : (nxtL F k).length = k := by simp [nxtL]
theorem nxtL_succ (F : Nat → Nat) (k : Nat) : nxtL F (k + 1) = nxtL F k ++ [((F k : Nat) : Int)] := by simp [nxtL, List.range_succ]
theorem nxtL_get (F : Nat → Nat) {k i : Nat} (h : i < k) : (nxtL F k).getD i 0 = ((F i : Nat) : Int) := by simp [nxtL, List.getD_eq_getElem?_getD, List.getElem?_map, h]

end Go.Proofs.YtnlgmhckjpifiaaGreat
