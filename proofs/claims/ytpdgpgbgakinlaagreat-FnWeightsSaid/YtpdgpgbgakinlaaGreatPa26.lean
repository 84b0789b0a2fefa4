/-
  Walks and plain laws of this seat, some texts in one.
  No condition but bounds on lengths.
-/
import Derived.Test.YtpdgpgbgakinlaaGreatPa8
import Derived.Test.YtpdgpgbgakinlaaGreatPa21
import Derived.Test.YtpdgpgbgakinlaaGreatPa22
import Derived.Test.YtpdgpgbgakinlaaGreatPa17
import Derived.Test.YtpdgpgbgakinlaaGreatPa3
import Derived.Deep.DeepCutAuto
import Derived.Test.YtpdgpgbgakinlaaGreatPa23
import Derived.Test.YtpdgpgbgakinlaaGreatPa4
namespace Go.Proofs.YtpdgpgbgakinlaaGreat
set_option maxRecDepth 100000
set_option linter.unusedVariables false
set_option linter.unusedSimpArgs false
open Go.RowKit
theorem Tbl.gridM {w : World} {a : Option Addr} {n m : Nat} {t : List (List Int)} (h : Tbl w a n t) (hs : SqM n m t) (hn : 0 < n) : ∃ b off A O C, a = some ⟨b, off, none⟩ ∧ Grid w b off A O C n t := by
  obtain ⟨b, off, ai, ni, ci, ha, hb, _⟩ := h.2 0 hn
  have H : ∀ x, ∃ q : Nat × Nat × Nat, x < n → w.cell? ⟨b, off + x, none⟩ = some (.slice (some ⟨q.1, q.2.1, none⟩) n q.2.2) ∧ q.1 < w.heap.size ∧ ∀ y, y < n → w.cell? ⟨q.1, q.2.1 + y, none⟩ = some (.int .i64 ((tv t x y : Nat) : Int)) := by
    intro x
    by_cases hx : x < n
    · obtain ⟨b', off', ax, nx, cx, e, _, hc, hr, _⟩ := h.2 x hx
      rw [ha] at e; cases e
      have hl : nx = n := by rw [hr.len, (hs.2 x hx).1]
      subst hl
      obtain ⟨bx, ox, e, hbx, hcx⟩ := hr.all hn
      subst e
      exact ⟨(bx, ox, cx), fun _ => ⟨hc, hbx, fun y hy => by rw [hcx y hy, ((hs.2 x hx).2 y hy).2]⟩⟩
    · exact ⟨(0, 0, 0), fun h => absurd h hx⟩
  obtain ⟨Q, hQ⟩ := Classical.axiomOfChoice H
  exact ⟨b, off, fun x => (Q x).1, fun x => (Q x).2.1, fun x => (Q x).2.2, ha, hb, fun x hx => (hQ x hx).1, fun x hx => (hQ x hx).2.1, fun x y hx hy => (hQ x hx).2.2 y hy⟩
def IsWd (s : Nat) (xs : List Int) : Prop := xs.length ≤ 30 ∧ ∀ x ∈ xs, x ≠ 0 ∧ 1 - (s : Int) ≤ x ∧ x ≤ (s : Int) - 1
theorem IsWd.plc {s : Nat} {xs : List Int} (h : IsWd s xs) (x : Int) (hx : x ∈ xs) : 0 ≤ plc x ∧ plc x + 1 < s := by
  have := h.2 x hx
  unfold Proofs.YtpdgpgbgakinlaaGreat.plc; split <;> omega
set_option maxHeartbeats 8000000 in
theorem weightOf_any (a : Option Addr) (n c : Nat) (a' : Option Addr) (c' : Nat) (b : Option Addr) (d : Nat) (b' : Option Addr) (d' : Nat) (f g : List (List Int)) (m : Int) (am : Option Addr) (cm : Nat) (M : List (List Int)) (s : Nat) (ab : Option Addr) (nb cb : Nat) (xs : List Int) (al : Option Addr) (cl : Nat) (l : List Int) (w : World)
    (h1 : Tbl w a n f) (h2 : Tbl w a' n g) (h3 : Tbl w b n (bfT n f g)) (h4 : Tbl w b' n (bgT n f g)) (hn1 : 1 ≤ n) (hf : Sq n f) (hg : Sq n g) (hc : collOk n f g = true)
    (hmm : 1 ≤ m ∧ m ≤ 12) (hM : SqM n m.toNat M) (h5 : Tbl w am n M) (hr : Row w ab nb xs) (hwd : IsWd s xs) (hs2 : 2 ≤ s) (hs6 : s ≤ 6) (hl : Row w al s l) (hle : Less n l) :
    Calls Tryz.prog 44 #[aAgg a n c a' c' b d b' d', .int .i64 m, .slice am n cm, .slice ab nb cb, .slice al s cl] w fun e w' => e = .returned (.int .i64 (wtF n f g M m xs l)) ∧ Below w.heap.size w w' := by
  have hll := hl.len
  have hrl := hr.len
  have hn30 : nb ≤ 30 := by have := hwd.1; omega
  have hlt2 : ∀ k, Less n (actL n f g (xs.take k) l) := fun k => hle.act hn1 hf hg hc _ (fun x hx => by have := hwd.plc x (List.mem_of_mem_take hx); omega)
  have hlen2 : ∀ k, (actL n f g (xs.take k) l).length = s := fun k => by rw [actL_len]; exact hll.symm
  obtain ⟨hm1, hm2⟩ := hmm
  have HWD := Lib.hid hwd; have HLT := Lib.hid hlt2; have HLEN := Lib.hid hlen2; have HRL := Lib.hid hrl
  have HSF := Lib.hid hf; have HSG := Lib.hid hg; have HC := Lib.hid hc; have HM := Lib.hid hM
  obtain ⟨bM, oM, AM, OM, CM, rfl, gM⟩ := h5.gridM hM (by omega)
  clear hwd hlt2 hlen2 hf hg hc hM hrl hll h5
  have hA := Loc.new w rfl #[.slice a n c, .slice a' n c', .slice b n d, .slice b' n d'] 77
  have hB := below_al (Below.refl w.heap.size w) (.cells #[.slice a n c, .slice a' n c', .slice b n d, .slice b' n d'] 77)
  have hl0 := hl.alloc (.cells #[.slice a n c, .slice a' n c', .slice b n d, .slice b' n d'] 77)
  have hm0 : m ≠ 0 := by omega
  go_enter Tryz.func44, Tryz.ntmps44
  go_wp2
  go_loopw [4, 11, 18] (fun t z i wr => ∃ (k : Nat) (ao : Option Addr) (co : Nat) (S : Int), k ≤ nb ∧ i = .int .i64 k ∧ t = .slice ao s co ∧ z = .int .i64 S ∧ Hid (S = wtS n f g M m (xs.take k) l) ∧ (0 ≤ S ∧ S ≤ 12 * k) ∧ Row wr ao s (actL n f g (xs.take k) l) ∧ Loc wr w.heap.size #[.slice a n c, .slice a' n c', .slice b n d, .slice b' n d'] 77 ∧ Below w.heap.size w wr) (fun _ _ i _ => nb - (intOf i).toNat)
  case atStart => exact ⟨0, _, _, 0, Nat.zero_le _, rfl, rfl, rfl, Lib.hid (by simp [wtS]), by omega, by simpa [actL] using hl0, hA, hB⟩
  case round =>
    clear hl0 hA hB hl
    obtain ⟨k, ao, co, S, hk, rfl, rfl, rfl, hS, hSb, ho, hA, hB⟩ := hrel
    obtain ⟨W, rfl⟩ : ∃ W : World, W = wr := ⟨_, rfl⟩
    obtain ⟨hS0, hS1⟩ := hSb
    have lA := hA.four
    by_cases hlt : k < nb
    · have hr2 := hr.below hB
      obtain ⟨bb, off, rfl, g1⟩ := hr2.at k hlt
      have hx : k < xs.length := by have := HRL.out; omega
      rw [getD_eq_at hx] at g1
      have hle2 := HWD.out.2 xs[k] (List.getElem_mem hx)
      have hpl2 := HWD.out.plc xs[k] (List.getElem_mem hx)
      have hst := actL_take n f g xs l k hx
      have hwt := wtS_take n f g M m xs l k hx
      have b1 : -1000 ≤ xs[k] := by omega
      have b2 : xs[k] ≤ 1000 := by omega
      have LT := HLT.out k
      have LT2 := HLT.out (k + 1)
      have LEN := HLEN.out k
      have LEN2 := HLEN.out (k + 1)
      obtain ⟨j, hj⟩ : ∃ j : Nat, plc xs[k] = j := ⟨(plc xs[k]).toNat, by omega⟩
      have hjs : j + 1 < s := by omega
      obtain ⟨p0, p1⟩ := hpl2
      have hne0 : xs[k] ≠ 0 := hle2.1
      have HJ := Lib.hid hj
      have hbd := wtT_bd HM.out ⟨hm1, hm2⟩ (x := xs[k]) LT LT2 (by omega) (by omega)
      have HS2 : Hid (wtS n f g M m (xs.take (k + 1)) l = S + wtT M m xs[k] (actL n f g (xs.take k) l) (actL n f g (xs.take (k + 1)) l)) := Lib.hid (by rw [hwt, hS.out])
      have T1 := h1.below hB; have T2 := h2.below hB; have T3 := h3.below hB; have T4 := h4.below hB
      rw [hst] at LT2 LEN2 hbd HS2
      have HST := Lib.hid hst
      clear hle2 hst hwt
      generalize actL n f g (xs.take k) l = L at *
      generalize xs[k] = X at *
      have i1 : (0 : Int) ≤ (j : Int) := by omega
      have i2 : (j : Int) ≤ (s : Int) := by omega
      have i3 : (j : Int) < (s : Int) := by omega
      have i4 : ((j + 1 : Nat) : Int) < (s : Int) := by omega
      have i5 : (j : Int) + 1 < (s : Int) := by omega
      have hwj : IntKind.i64.wrap ((j : Int) + 1) = ((j + 1 : Nat) : Int) := (IntWalk.i64_in _ (by omega)).trans (by simp)
      go_wp2_with fail
      refine (step_any _ _ _ _ _ _ _ _ _ f g _ _ _ L X _ T1 T2 T3 T4 hn1 HSF.out HSG.out HC.out ho (by omega) b1 b2 p0 p1 LT).mono ?_
      rintro e w2 ⟨ao2, co2, rfl, ho2, hb2⟩
      have hA2 := hA.below hb2 hA.lt
      have hB2 := below_th hB hb2
      have hor := ho.below hb2
      have gM2 := gM.below hB2
      clear hA hB lA T1 T2 T3 T4 g1 hr2
      by_cases hpos : 0 < X
      · obtain ⟨u, hu, eu⟩ := LT j (by omega)
        obtain ⟨v, hv, ev⟩ := LT (j + 1) (by omega)
        obtain ⟨bt, ot, e1, kx⟩ := hor.at j (by omega)
        obtain ⟨bt', ot', e2, ky⟩ := hor.at (j + 1) (by omega)
        rw [e1] at e2; cases e2; subst e1
        rw [eu] at kx; rw [ev] at ky
        obtain ⟨rM, kM⟩ := gM2.look hu hv
        have hval : wtT M m X L (stepL n f g X L) = ((tv M u v : Nat) : Int) := by unfold wtT; rw [if_pos hpos, hj, Int.toNat_natCast, eu, ev]; simp
        rw [hval] at HS2 hbd
        generalize tv M u v = T at *
        have hsum : IntKind.i64.wrap (S + (T : Int)) = S + (T : Int) := IntWalk.i64_in _ (by omega)
        have hb0 : decide (0 < X) = true := by simpa using hpos
        clear hval eu ev hj
        go_wp2_with fail
        refine (placeOf_any _ _ b1 b2).mono ?_
        rintro e w3 ⟨rfl, hw3⟩
        subst hw3
        rw [HJ.out]
        go_wp2
        go_quiet (fail)
        go_wp2
        go_roundw
        case rel => exact ⟨k + 1, _, _, _, by omega, by go_num, rfl, rfl, Lib.hid HS2.out.symm, by omega, by rw [HST.out]; exact ho2.row.drewN _, hA2.drewN _, below_drewN hB2 _⟩
        case measure => simp [intOf]; omega
      · obtain ⟨u, hu, eu⟩ := LT2 j (by omega)
        obtain ⟨v, hv, ev⟩ := LT2 (j + 1) (by omega)
        obtain ⟨bt, ot, e1, kx⟩ := ho2.row.at j (by omega)
        obtain ⟨bt', ot', e2, ky⟩ := ho2.row.at (j + 1) (by omega)
        rw [e1] at e2; cases e2; subst e1
        rw [eu] at kx; rw [ev] at ky
        obtain ⟨rM, kM⟩ := gM2.look hu hv
        have hval : wtT M m X L (stepL n f g X L) = m - ((tv M u v : Nat) : Int) := by unfold wtT; rw [if_neg hpos, hj, Int.toNat_natCast, eu, ev]; simp
        rw [hval] at HS2 hbd
        generalize tv M u v = T at *
        have hsub : IntKind.i64.wrap (m - (T : Int)) = m - (T : Int) := IntWalk.i64_in _ (by omega)
        have hsum : IntKind.i64.wrap (S + (m - (T : Int))) = S + (m - (T : Int)) := IntWalk.i64_in _ (by omega)
        have hb0 : decide (0 < X) = false := by simpa using hpos
        clear hval eu ev hj
        go_wp2_with fail
        refine (placeOf_any _ _ b1 b2).mono ?_
        rintro e w3 ⟨rfl, hw3⟩
        subst hw3
        rw [HJ.out]
        go_wp2
        go_quiet (fail)
        go_wp2
        go_roundw
        case rel => exact ⟨k + 1, _, _, _, by omega, by go_num, rfl, rfl, Lib.hid HS2.out.symm, by omega, by rw [HST.out]; exact ho2.row.drewN _, hA2.drewN _, below_drewN hB2 _⟩
        case measure => simp [intOf]; omega
    · obtain rfl : k = nb := by omega
      have e1 := hS.out
      rw [List.take_of_length_le (by have := HRL.out; omega)] at e1
      have HV : Hid (wtF n f g M m xs l = S % m) := Lib.hid (by unfold wtF; rw [← e1])
      have hrem : S.tmod m = S % m := IntWalk.rem_in _ _ (by omega)
      have v0 : 0 ≤ S % m := Int.emod_nonneg _ (by omega)
      have v1 : S % m < m := Int.emod_lt_of_pos _ (by omega)
      clear e1
      generalize S % m = V at *
      have w7 : IntKind.i64.wrap V = V := IntWalk.i64_in _ (by omega)
      go_wp2
      go_ret
      exact ⟨ret_int HV.out.symm, hB⟩
end Go.Proofs.YtpdgpgbgakinlaaGreat

namespace Go.Proofs.YtpdgpgbgakinlaaGreat
set_option maxRecDepth 100000
set_option linter.unusedVariables false
set_option linter.unusedSimpArgs false
open Go.RowKit
theorem Loc.heldA {w : World} {b : Nat} {x y z u : Value} {t : TypeId} (h : Loc w b #[x, y, z, u] t) : (w.cell? ⟨b, 0, none⟩ = some x ∧ w.cell? ⟨b, 1, none⟩ = some y) ∧ w.cell? ⟨b, 2, none⟩ = some z ∧ w.cell? ⟨b, 3, none⟩ = some u := ⟨⟨h.cell 0 rfl, h.cell 1 rfl⟩, h.cell 2 rfl, h.cell 3 rfl⟩
theorem Row.drew {w : World} {a : Option Addr} {n : Nat} {xs : List Int} (h : Row w a n xs) : Row w.drew a n xs := h
theorem tupleOf_3 (n N : Nat) (w : World) (hn1 : 1 ≤ n) (hn : n ≤ 1000000) (hN : N ≤ 1000000000000) :
    Calls Tryz.prog 98 #[.int .i64 n, .int .i64 3, .int .i64 N] w fun e w' => ∃ a c, e = .returned (.slice a 3 c) ∧ Own w' w.heap.size a 3 c (digL n 3 N) ∧ Below w.heap.size w w' :=
  tupleOf_any n 3 N w hn1 hn (by omega) hN
def WfR (L : List Int) (W : World) (e : Ending) (w' : World) : Prop := ((L = [] ∧ e = .returned (.slice none 0 0)) ∨ (L ≠ [] ∧ ∃ b c, e = .returned (.slice (some ⟨b, 0, none⟩) 3 c) ∧ Own w' W.heap.size (some ⟨b, 0, none⟩) 3 c L)) ∧ Below W.heap.size W w'
theorem wd3 {x y z : Int} (h1 : x ≠ 0 ∧ -2 ≤ x ∧ x ≤ 2) (h2 : y ≠ 0 ∧ -2 ≤ y ∧ y ≤ 2) (h3 : z ≠ 0 ∧ -2 ≤ z ∧ z ≤ 2) : IsWd 3 [x, y, z] := by
  refine ⟨by simp, fun q hq => ?_⟩
  simp only [List.mem_cons, List.not_mem_nil, or_false] at hq
  rcases hq with rfl | rfl | rfl <;> omega
set_option maxHeartbeats 8000000 in
theorem weightFault_any (a : Option Addr) (n c : Nat) (a' : Option Addr) (c' : Nat) (f g : List (List Int)) (m : Int) (am : Option Addr) (cm : Nat) (M : List (List Int)) (w : World) (h1 : Tbl w a n f) (h2 : Tbl w a' n g) (hs : isSol f g = true) (hmm : 1 ≤ m ∧ m ≤ 12) (hM : SqM n m.toNat M) (h5 : Tbl w am n M) :
    Calls Tryz.prog 56 #[sAgg a n c a' n c', .int .i64 m, .slice am n cm] w (WfR (wtFlt n f g M m) w) := by
  obtain ⟨hn1, hn12, sf, sg⟩ := isSol_sq hs
  have hcc := isSol_coll hs
  have hfl := h1.len
  rw [← hfl] at hn1 hn12 sf sg hcc
  obtain ⟨hm1, hm2⟩ := hmm
  obtain ⟨N2, hN2⟩ : ∃ N2, N2 = n * n := ⟨_, rfl⟩
  have hb2 : N2 ≤ 144 := by rw [hN2]; exact Nat.mul_le_mul hn12 hn12
  obtain ⟨N3, hN3⟩ : ∃ N3, N3 = n * n * n := ⟨_, rfl⟩
  have hb3 : N3 ≤ 1728 := by rw [hN3]; exact Nat.mul_le_mul (Nat.mul_le_mul hn12 hn12) hn12
  have e2 : (n : Int) * (n : Int) = (N2 : Int) := by rw [hN2]; simp
  have e3 : (N2 : Int) * (n : Int) = (N3 : Int) := by rw [hN3, hN2]; simp
  have HS := Lib.hid hs; have HSF := Lib.hid sf; have HSG := Lib.hid sg; have HC := Lib.hid hcc; have HM := Lib.hid hM; have HN3 := Lib.hid hN3
  have HW1 : Hid (IsWd 3 [1, 2, 1]) := Lib.hid (wd3 (by omega) (by omega) (by omega))
  have HW2 : Hid (IsWd 3 [2, 1, 2]) := Lib.hid (wd3 (by omega) (by omega) (by omega))
  clear hs sf sg hcc hfl hM hN2 hN3
  have hA := Loc.new w rfl #[.slice a n c, .slice a' n c'] 26
  have hB := below_al (Below.refl w.heap.size w) (.cells #[.slice a n c, .slice a' n c'] 26)
  go_enter Tryz.func56, Tryz.ntmps56
  go_wp2_with fail
  refine (newAction_any _ _ _ _ _ f g _ (h1.alloc _) (h2.alloc _) HS.out hn12).mono ?_
  rintro e w2 ⟨b, d, vs, b', d', vs', rfl, ho2, hb2'⟩
  have hX := Loc.new w2 rfl #[.slice a n c, .slice a' n c', .slice b n d, .slice b' n d'] 77
  have hBX := below_al (below_th hB hb2') (.cells #[.slice a n c, .slice a' n c', .slice b n d, .slice b' n d'] 77)
  have T1 := h1.below hBX; have T2 := h2.below hBX; have T5 := h5.below hBX
  have T3 := ho2.f.tbl.alloc (.cells #[.slice a n c, .slice a' n c', .slice b n d, .slice b' n d'] 77); have T4 := ho2.s.tbl.alloc (.cells #[.slice a n c, .slice a' n c', .slice b n d, .slice b' n d'] 77)
  clear hA hB h1 h2 h5 ho2 hb2'
  go_wp2
  generalize hwA : w2.alloc (.cells #[.slice a n c, .slice a' n c', .slice b n d, .slice b' n d'] 77) = wA at *
  have hsz : w2.heap.size < wA.heap.size := hX.lt
  clear hwA
  go_loopw [21] (fun i wr => ∃ k : Nat, k ≤ N3 ∧ i = .int .i64 k ∧ Hid (∀ M', M' < k → wtBad n f g M m (digL n 3 M') = false) ∧ Below wA.heap.size wA wr) (fun i _ => N3 - (intOf i).toNat)
  case atStart => exact ⟨0, Nat.zero_le _, rfl, Lib.hid fun M' h => absurd h (by omega), Below.refl _ _⟩
  case round =>
    obtain ⟨N, hk, rfl, hI, hq⟩ := hrel
    by_cases hlt : N < N3
    · go_wp2_with fail
      refine (tupleOf_3 n N _ hn1 (by omega) (by omega)).mono ?_
      rintro e w3 ⟨at3, c3, rfl, ho, hb3'⟩
      have hq3 := below_th hq hb3'
      have HLE : Hid (Less n (digL n 3 N)) := Lib.hid (digL_less n 3 N hn1)
      have hX3 := hX.below hq3 hX.lt
      have HBAD : Hid (wtBad n f g M m (digL n 3 N) = (wtF n f g M m [1, 2, 1] (digL n 3 N) != wtF n f g M m [2, 1, 2] (digL n 3 N))) := Lib.hid (by unfold wtBad; rw [Bool.eq_iff_iff]; simp)
      have hsza1 : Hid (w3.heap.size + 1 = (w3.alloc (.cells #[.int .i64 1, .int .i64 2, .int .i64 1] 2)).heap.size) := Lib.hid (by simp)
      have hsza2 : Hid (w3.heap.size + 1 = (w3.alloc (.cells #[.int .i64 2, .int .i64 1, .int .i64 2] 2)).heap.size) := Lib.hid (by simp)
      have own3 := ho.mono (lo' := w.heap.size) (by have := hq.size; have := hBX.size; omega)
      go_upto_region 7 with fail
      go_cut [39] (fun s39 wx => s39 = .bool (wtF n f g M m [1, 2, 1] (digL n 3 N) != wtF n f g M m [2, 1, 2] (digL n 3 N)) ∧ Below w3.heap.size w3 wx)
      case first =>
        have tok1 : True := trivial
        go_region_held3 (fun w' => (w'.cell? ⟨w2.heap.size, 0, none⟩ = some (.slice a n c) ∧ w'.cell? ⟨w2.heap.size, 1, none⟩ = some (.slice a' n c')) ∧ w'.cell? ⟨w2.heap.size, 2, none⟩ = some (.slice b n d) ∧ w'.cell? ⟨w2.heap.size, 3, none⟩ = some (.slice b' n d'))
          (first | exact (hX.below hq5 hX.lt).heldA | exact ((hX.below hq4 hX.lt).alloc _).heldA | exact (hX.below hq4 hX.lt).heldA | exact ((hX3.alloc _).alloc _).heldA | exact (hX3.alloc _).heldA | exact hX3.heldA)
          (first
            | (go_at_call 44; have _t := tok1; (with_reducible refine (weightOf_any _ _ _ _ _ _ _ _ _ f g m _ _ M 3 _ _ _ [1, 2, 1] _ _ (digL n 3 N) _ (T1.below ((below_al hq3 _).drew)) (T2.below ((below_al hq3 _).drew)) (T3.below ((below_al hq3 _).drew)) (T4.below ((below_al hq3 _).drew)) hn1 HSF.out HSG.out HC.out ⟨hm1, hm2⟩ HM.out (T5.below ((below_al hq3 _).drew)) (Row.lit3 (Loc.new (b := w3.heap.size) w3 rfl #[.int .i64 1, .int .i64 2, .int .i64 1] 2)).drew HW1.out (by omega) (by omega) (ho.row.alloc _).drew HLE.out).mono ?_); rintro e w4 ⟨rfl, hbw4⟩; clear _t tok1; have tok2 : True := trivial; have hq4 := below_th (below_al hq3 _).drew hbw4; have hs4 := below_th (below_al (Below.refl w3.heap.size w3) _).drew hbw4; have hr4 := ((ho.row.alloc (.cells #[.int .i64 1, .int .i64 2, .int .i64 1] 2)).drew).below hbw4)
            | (go_at_call 44; have _t := tok1; (with_reducible refine (weightOf_any _ _ _ _ _ _ _ _ _ f g m _ _ M 3 _ _ _ [1, 2, 1] _ _ (digL n 3 N) _ (T1.below ((below_al (below_al hq3 _) _).drew)) (T2.below ((below_al (below_al hq3 _) _).drew)) (T3.below ((below_al (below_al hq3 _) _).drew)) (T4.below ((below_al (below_al hq3 _) _).drew)) hn1 HSF.out HSG.out HC.out ⟨hm1, hm2⟩ HM.out (T5.below ((below_al (below_al hq3 _) _).drew)) ((Row.lit3 (Loc.new (b := w3.heap.size) w3 rfl #[.int .i64 1, .int .i64 2, .int .i64 1] 2)).alloc (.cells #[.int .i64 2, .int .i64 1, .int .i64 2] 2)).drew HW1.out (by omega) (by omega) ((ho.row.alloc _).alloc _).drew HLE.out).mono ?_); rintro e w4 ⟨rfl, hbw4⟩; clear _t tok1; have tok3 : True := trivial; have hq4 := below_th (below_al (below_al hq3 _) _).drew hbw4; have hs4 := below_th (below_al (below_al (Below.refl w3.heap.size w3) _) _).drew hbw4; have hr4 := (((ho.row.alloc (.cells #[.int .i64 1, .int .i64 2, .int .i64 1] 2)).alloc (.cells #[.int .i64 2, .int .i64 1, .int .i64 2] 2)).drew).below hbw4; have hR2 : Row w4 (some ⟨w3.heap.size + 1, 0, none⟩) 3 [2, 1, 2] := (Row.lit3 (Loc.new (w3.alloc (.cells #[.int .i64 1, .int .i64 2, .int .i64 1] 2)) hsza1.out #[.int .i64 2, .int .i64 1, .int .i64 2] 2)).drew.below hbw4)
            | (go_at_call 44; have _t := tok1; (with_reducible refine (weightOf_any _ _ _ _ _ _ _ _ _ f g m _ _ M 3 _ _ _ [1, 2, 1] _ _ (digL n 3 N) _ (T1.below ((below_al (below_al hq3 _) _).drew)) (T2.below ((below_al (below_al hq3 _) _).drew)) (T3.below ((below_al (below_al hq3 _) _).drew)) (T4.below ((below_al (below_al hq3 _) _).drew)) hn1 HSF.out HSG.out HC.out ⟨hm1, hm2⟩ HM.out (T5.below ((below_al (below_al hq3 _) _).drew)) (Row.lit3 (Loc.new (b := w3.heap.size + 1) (w3.alloc (.cells #[.int .i64 2, .int .i64 1, .int .i64 2] 2)) hsza2.out #[.int .i64 1, .int .i64 2, .int .i64 1] 2)).drew HW1.out (by omega) (by omega) ((ho.row.alloc _).alloc _).drew HLE.out).mono ?_); rintro e w4 ⟨rfl, hbw4⟩; clear _t tok1; have tok4 : True := trivial; have hq4 := below_th (below_al (below_al hq3 _) _).drew hbw4; have hs4 := below_th (below_al (below_al (Below.refl w3.heap.size w3) _) _).drew hbw4; have hr4 := (((ho.row.alloc (.cells #[.int .i64 2, .int .i64 1, .int .i64 2] 2)).alloc (.cells #[.int .i64 1, .int .i64 2, .int .i64 1] 2)).drew).below hbw4; have hR2 : Row w4 (some ⟨w3.heap.size, 0, none⟩) 3 [2, 1, 2] := ((Row.lit3 (Loc.new (b := w3.heap.size) w3 rfl #[.int .i64 2, .int .i64 1, .int .i64 2] 2)).alloc (.cells #[.int .i64 1, .int .i64 2, .int .i64 1] 2)).drew.below hbw4)
            | (go_at_call 44; have _t := tok2; (with_reducible refine (weightOf_any _ _ _ _ _ _ _ _ _ f g m _ _ M 3 _ _ _ [2, 1, 2] _ _ (digL n 3 N) _ (T1.below (below_al hq4 _)) (T2.below (below_al hq4 _)) (T3.below (below_al hq4 _)) (T4.below (below_al hq4 _)) hn1 HSF.out HSG.out HC.out ⟨hm1, hm2⟩ HM.out (T5.below (below_al hq4 _)) (Row.lit3 (Loc.new w4 rfl #[.int .i64 2, .int .i64 1, .int .i64 2] 2)) HW2.out (by omega) (by omega) (hr4.alloc _) HLE.out).mono ?_); rintro e w5 ⟨rfl, hbw5⟩; clear _t tok2; have hq5 := below_alth hq4 hbw5; have hs5 := below_alth hs4 hbw5)
            | (go_at_call 44; have _t := tok3; (with_reducible refine (weightOf_any _ _ _ _ _ _ _ _ _ f g m _ _ M 3 _ _ _ [2, 1, 2] _ _ (digL n 3 N) _ (T1.below hq4) (T2.below hq4) (T3.below hq4) (T4.below hq4) hn1 HSF.out HSG.out HC.out ⟨hm1, hm2⟩ HM.out (T5.below hq4) hR2 HW2.out (by omega) (by omega) hr4 HLE.out).mono ?_); rintro e w5 ⟨rfl, hbw5⟩; clear _t tok3; have hq5 := below_th hq4 hbw5; have hs5 := below_th hs4 hbw5)
            | (go_at_call 44; have _t := tok4; (with_reducible refine (weightOf_any _ _ _ _ _ _ _ _ _ f g m _ _ M 3 _ _ _ [2, 1, 2] _ _ (digL n 3 N) _ (T1.below hq4) (T2.below hq4) (T3.below hq4) (T4.below hq4) hn1 HSF.out HSG.out HC.out ⟨hm1, hm2⟩ HM.out (T5.below hq4) hR2 HW2.out (by omega) (by omega) hr4 HLE.out).mono ?_); rintro e w5 ⟨rfl, hbw5⟩; clear _t tok4; have hq5 := below_th hq4 hbw5; have hs5 := below_th hs4 hbw5))
        all_goals (go_wp2_with fail; go_meet; exact ⟨rfl, hs5⟩)
      case rest =>
        obtain ⟨rfl, hb5⟩ := hcut
        have own5 := own3.below hb5
        have hq5 := below_th hq3 hb5
        have hBf := hBX.trans (hq5.mono hBX.size)
        cases hv : (wtF n f g M m [1, 2, 1] (digL n 3 N) != wtF n f g M m [2, 1, 2] (digL n 3 N)) with
        | true =>
          rw [hv] at HBAD
          have HL : Hid (wtFlt n f g M m = digL n 3 N) := Lib.hid (fltL_hit (by rw [← HN3.out]; exact hlt) hI.out HBAD.out)
          clear hv
          obtain ⟨gt, ot, rfl, _⟩ := own5.row.at 0 (by omega)
          obtain ⟨rfl, _, _⟩ := own5.cells
          go_wp2
          go_ret
          refine ⟨.inr ⟨?_, _, _, rfl, by rw [HL.out]; exact own5⟩, hBf⟩
          rw [HL.out]
          intro h
          have := congrArg List.length h
          rw [digL_len] at this
          simp at this
        | false =>
          rw [hv] at HBAD
          clear hv
          go_wp2
          go_roundw
          case rel =>
            refine ⟨N + 1, by omega, by go_num, Lib.hid fun M' hM' => ?_, hq5⟩
            by_cases e : M' = N
            · subst e; exact HBAD.out
            · exact hI.out M' (by omega)
          case measure => simp [intOf]; omega
    · obtain rfl : N = N3 := by omega
      go_wp2
      go_ret
      exact ⟨.inl ⟨fltL_miss (by rw [← HN3.out]; exact hI.out), rfl⟩, hBX.trans (hq.mono hBX.size)⟩
set_option maxHeartbeats 1000000 in
theorem checkWeight_any (a : Option Addr) (n c : Nat) (a' : Option Addr) (n' c' : Nat) (f g : List (List Int)) (m : Int) (am : Option Addr) (nm cm : Nat) (M : List (List Int)) (w : World) (h1 : Tbl w a n f) (h2 : Tbl w a' n' g) (hm1 : n ≤ 9223372036854775807) (hm2 : n' ≤ 9223372036854775807) (h5 : Tbl w am nm M) (hnm : nm ≤ 9223372036854775807) (r : Int) (hr : (if isSol f g then (if isMx n m M then 0 else 2) else 1) = r) :
    Calls Tryz.prog 55 #[sAgg a n c a' n' c', .int .i64 m, .slice am nm cm] w fun e w' => e = .returned (.int .i64 r) ∧ Below w.heap.size w w' := by
  have hA := Loc.new w rfl #[.slice a n c, .slice a' n' c'] 26
  cases q1 : isSol f g with
  | false =>
    rw [q1] at hr
    simp only [Bool.false_eq_true, if_false] at hr
    subst hr
    have H1 := Lib.hid q1; clear q1
    go_enter Tryz.func55, Tryz.ntmps55
    go_wp2_with fail
    refine (isSolution_any _ _ _ _ _ _ _ _ _ (h1.alloc _) (h2.alloc _) hm1 hm2).mono ?_
    rintro e w1 ⟨rfl, hb1⟩
    rw [H1.out]
    go_wp2
    go_ret
    exact ⟨rfl, below_alth (Below.refl _ _) hb1⟩
  | true =>
    rw [q1] at hr
    simp only [if_true] at hr
    have H1 := Lib.hid q1; clear q1
    cases q2 : isMx n m M
    all_goals
      rw [q2] at hr
      simp only [if_true, Bool.false_eq_true, if_false] at hr
      subst hr
      have H2 := Lib.hid q2; clear q2
      go_enter Tryz.func55, Tryz.ntmps55
      go_wp2_with fail
      refine (isSolution_any _ _ _ _ _ _ _ _ _ (h1.alloc _) (h2.alloc _) hm1 hm2).mono ?_
      rintro e w1 ⟨rfl, hb1⟩
      rw [H1.out]
      have lA := (hA.below hb1 (by simp)).two
      go_wp2_with fail
      refine (isMatrix_any n m _ _ _ M _ ((h5.alloc _).below hb1) hnm).mono ?_
      rintro e w2 ⟨rfl, hb2⟩
      rw [H2.out]
      go_wp2
      go_ret
      exact ⟨rfl, below_th (below_alth (Below.refl _ _) hb1) hb2⟩
end Go.Proofs.YtpdgpgbgakinlaaGreat

namespace Go.Proofs.YtpdgpgbgakinlaaGreat
set_option maxRecDepth 100000
set_option linter.unusedVariables false
set_option linter.unusedSimpArgs false
open Go.RowKit
def iswF (f g : List (List Int)) (m : Int) (M : List (List Int)) : Bool × Int := if isSol f g then (if isMx f.length m M then (decide (wtFlt f.length f g M m = []), 0) else (false, 2)) else (false, 1)
set_option maxHeartbeats 1000000 in
theorem impl_Isw_l (a : Option Addr) (n c : Nat) (f : List (List Int)) (a' : Option Addr) (n' c' : Nat) (g : List (List Int)) (m : Int) (am : Option Addr) (nm cm : Nat) (M : List (List Int)) (w : World) (h1 : Sol w a n f a' n' g) (hm : n ≤ 9223372036854775807 ∧ n' ≤ 9223372036854775807) (hi : I64 m) (h5 : Tbl w am nm M) (hnm : nm ≤ 9223372036854775807) :
    Calls Tryz.prog 13 #[sAgg a n c a' n' c', .int .i64 m, .slice am nm cm] w (RetO w (iswF f g m M).1 (iswF f g m M).2) := by
  obtain ⟨hm1, hm2⟩ := hm
  have hA := Loc.new w rfl #[.slice a n c, .slice a' n' c'] 26
  have hfl := h1.f.len
  obtain ⟨r, hr⟩ : ∃ r : Int, (if isSol f g then (if isMx n m M then 0 else 2) else 1) = r := ⟨_, rfl⟩
  have HCK := Lib.hid (fun w (h1 : Tbl w a n f) (h2 : Tbl w a' n' g) (h5 : Tbl w am nm M) => checkWeight_any a n c a' n' c' f g m am nm cm M w h1 h2 hm1 hm2 h5 hnm r hr)
  by_cases hz : r = 0
  · have hz2 : isSol f g = true ∧ isMx n m M = true := by
      by_cases q1 : isSol f g = true
      · rw [if_pos q1] at hr
        by_cases q2 : isMx n m M = true
        · exact ⟨q1, q2⟩
        · rw [if_neg q2] at hr; omega
      · rw [if_neg q1] at hr; omega
    subst hz
    obtain ⟨q1, q2⟩ := hz2
    have hq : iswF f g m M = (decide (wtFlt n f g M m = []), 0) := by unfold iswF; rw [if_pos q1, ← hfl, if_pos q2]
    rw [hq]
    obtain ⟨hn1, hn12, sf, sg⟩ := isSol_sq q1
    rw [← hfl] at hn12
    obtain ⟨hmm, hM⟩ := isMx_sq q2
    have hl2 : n' = n := by rw [h1.s.len]; have := sg.len; omega
    have hl3 : nm = n := by rw [h5.len]; exact hM.1
    subst hl2 hl3
    have H1 := Lib.hid q1; have HM := Lib.hid hM; have HMM := Lib.hid hmm
    clear hr q1 q2 hq sf sg hM hmm hfl
    go_enter Tryz.func13, Tryz.ntmps13
    go_wp2_with fail
    refine (HCK.out _ (h1.f.alloc _) (h1.s.alloc _) (h5.alloc _)).mono ?_
    rintro e w1 ⟨rfl, hb1⟩
    have lA := (hA.below hb1 (by simp)).two
    have nn := fun (w : World) (a : Option Addr) (n c : Nat) => Lib.run_eql_slice_nil (P := Tryz.prog) w 27 2 a n c 0 0 und_ints
    go_wp2_with fail
    refine (weightFault_any _ _ _ _ _ f g m _ _ M _ ((h1.f.alloc _).below hb1) ((h1.s.alloc _).below hb1) H1.out HMM.out HM.out ((h5.alloc _).below hb1)).mono ?_
    rintro e w2 ⟨he, hb2⟩
    rcases he with ⟨hL, rfl⟩ | ⟨hL, b, k, rfl, _⟩
    · have HL := Lib.hid hL; clear hL
      go_wp2
      go_ret2
      exact ⟨by rw [HL.out]; rfl, below_th (below_alth (Below.refl _ _) hb1) hb2⟩
    · have HL : Hid (decide (wtFlt nm f g M m = []) = false) := Lib.hid (decide_eq_false hL)
      clear hL
      go_wp2
      go_ret2
      exact ⟨by rw [HL.out]; rfl, below_th (below_alth (Below.refl _ _) hb1) hb2⟩
  · have hq : iswF f g m M = (false, r) := by
      unfold iswF
      rw [← hfl, ← hr]
      by_cases q1 : isSol f g = true
      · rw [if_pos q1, if_pos q1]
        by_cases q2 : isMx n m M = true
        · rw [if_pos q1, if_pos q2] at hr; exact absurd hr.symm hz
        · rw [if_neg q2, if_neg q2]
      · rw [if_neg q1, if_neg q1]
    rw [hq]
    have hb : (r != 0) = true := by simpa using hz
    clear hr hq hz hfl
    go_enter Tryz.func13, Tryz.ntmps13
    go_wp2_with fail
    (with_reducible refine (HCK.out _ (h1.f.alloc _) (h1.s.alloc _) (h5.alloc _)).mono ?_)
    rintro e w1 ⟨rfl, hb1⟩
    go_wp2
    go_ret2
    exact ⟨rfl, below_alth (Below.refl _ _) hb1⟩
end Go.Proofs.YtpdgpgbgakinlaaGreat

namespace Go.Proofs.YtpdgpgbgakinlaaGreat
set_option linter.unusedVariables false
set_option linter.unusedSimpArgs false
/-! ### the kernel -/
theorem Rdc.lead {p : Int} {N : Nat} {R : List (List Int)} (h : Rdc p N R) {i j : Nat} (hi : i < j) (hj : j < R.length) : ldN R[i] ≠ ldN R[j] := by
  have h1 := List.pairwise_iff_getElem.1 h.ort i j (by omega) hj hi
  intro e
  have h2 := h.one R[j] (List.getElem_mem hj)
  rw [← e, h1.2] at h2; omega
theorem isPr_inv {p : Int} (hp : isPr p) : 1 < p ∧ ∀ a, 0 < a → a < p → IsInv p a (invF p a) := by
  refine ⟨by unfold isPr at hp; omega, fun a h1 h2 => (invF_ok hp a h1 h2).1⟩
def rkL (p : Int) (N : Nat) (rows : List (List Int)) : List (List Int) := echL p (invF p) N (kerL p N (echL p (invF p) N rows) N)
theorem rk_rdc {p : Int} {N : Nat} {rows : List (List Int)} (hp : isPr p) : Rdc p N (rkL p N rows) :=
  (ech_ok (isPr_inv hp).1 (isPr_inv hp).2 (kerL_vec (isPr_inv hp).1 N)).1
/-! ### matrices -/
def chL (n : Nat) (xs : List Int) : List (List Int) := (List.range n).map fun x => (xs.drop (x * n)).take n
theorem chL_len (n : Nat) (xs : List Int) : (chL n xs).length = n := by simp [chL]
theorem chL_row {n x : Nat} {xs : List Int} (hx : x < n) : (chL n xs).getD x [] = (xs.drop (x * n)).take n := by
  unfold chL; rw [List.getD_eq_getElem?_getD, List.getElem?_eq_getElem (by simpa using hx)]; simp
theorem pairN {n x y : Nat} (hx : x < n) (hy : y < n) : x * n + y < n * n := by
  have : (x + 1) * n ≤ n * n := Nat.mul_le_mul_right n hx
  rw [Nat.add_mul] at this; omega
theorem rowN {n x : Nat} (hx : x < n) : x * n + n ≤ n * n := by
  have : (x + 1) * n ≤ n * n := Nat.mul_le_mul_right n hx
  rw [Nat.add_mul] at this; omega
theorem chL_rlen {n x : Nat} {xs : List Int} (hx : x < n) (hl : xs.length = n * n) : ((chL n xs).getD x []).length = n := by
  have := rowN hx
  rw [chL_row hx, List.length_take, List.length_drop, hl]; omega
theorem chL_at {n x y : Nat} {xs : List Int} (hx : x < n) (hy : y < n) : ((chL n xs).getD x []).getD y 0 = gv xs (x * n + y) := by
  rw [chL_row hx]; unfold gv
  rw [List.getD_eq_getElem?_getD, List.getElem?_take, if_pos hy, List.getElem?_drop, ← List.getD_eq_getElem?_getD]
theorem chL_mx {n : Nat} {p : Int} {xs : List Int} (hp : 1 ≤ p ∧ p ≤ 12) (h : Vec p (n * n) xs) : isMx (n : Int) p (chL n xs) = true := by
  unfold isMx rngB
  have h1 : decide (1 ≤ p) = true := by simpa using hp.1
  have h2 : decide (p ≤ 12) = true := by simpa using hp.2
  rw [h1, h2, chL_len]
  simp only [Bool.and_self, decide_true, Bool.true_and]
  rw [List.all_eq_true]
  intro row hrow
  obtain ⟨x, hx, rfl⟩ := List.mem_iff_getElem.1 hrow
  rw [chL_len] at hx
  have e : (chL n xs)[x] = (chL n xs).getD x [] := by rw [List.getD_eq_getElem?_getD, List.getElem?_eq_getElem (by rw [chL_len]; exact hx)]; rfl
  rw [e]
  have hl := chL_rlen hx h.1
  unfold rowOk
  rw [hl, List.all_eq_true.2]
  · simp
  · intro z hz
    obtain ⟨y, hy, rfl⟩ := List.mem_iff_getElem.1 hz
    have hy' : y < n := by rw [hl] at hy; exact hy
    have e2 : ((chL n xs).getD x [])[y] = gv xs (x * n + y) := by rw [← chL_at hx hy', List.getD_eq_getElem?_getD (l := (chL n xs).getD x []), List.getElem?_eq_getElem hy]; rfl
    rw [e2]
    have := h.2 _ (pairN hx hy')
    unfold rngB; simp; omega
theorem wb_rk (f g : List (List Int)) (n : Nat) (p : Int) : wbL f g n p = rkL p (n * n) (rowsW f g n p) := rfl
end Go.Proofs.YtpdgpgbgakinlaaGreat

namespace Go.Proofs.YtpdgpgbgakinlaaGreat
set_option linter.unusedVariables false
set_option linter.unusedSimpArgs false
open Go.RowKit
theorem chL_take {n x : Nat} {R : List Int} (h : x < n) : (chL n R).take (x + 1) = (chL n R).take x ++ [(R.drop (x * n)).take n] := by
  have hl : x < (chL n R).length := by rw [chL_len]; exact h
  rw [List.take_succ_eq_append_getElem hl]
  simp [chL]
theorem Vec.mem {p : Int} {N : Nat} {xs : List Int} (h : Vec p N xs) : ∀ x ∈ xs, 0 ≤ x ∧ x < p := fun x hx => by
  obtain ⟨i, hi, rfl⟩ := List.getElem_of_mem hx
  have := h.2 i (by rw [← h.1]; exact hi)
  unfold gv at this
  rw [List.getD_eq_getElem?_getD, List.getElem?_eq_getElem hi] at this
  exact this
theorem wb_row {f g : List (List Int)} {p : Int} (hs : isSol f g = true) (hp : isPr p) {b : List Int} (hb : b ∈ wbL f g f.length p) : Vec p (f.length * f.length) b ∧ ldN b < f.length * f.length ∧ gv b (ldN b) = 1 := by
  have h := rk_rdc (p := p) (N := f.length * f.length) (rows := rowsW f g f.length p) hp
  rw [← wb_rk] at h
  exact ⟨h.vec b hb, h.lt b hb, h.one b hb⟩
theorem Row.mid2 {w : World} {g N : Nat} {xs : List Int} (h : Row w (some ⟨g, 0, none⟩) N xs) (q m : Nat) (hq : q + m ≤ N) : Row w (some ⟨g, q, none⟩) m ((xs.drop q).take m) := by
  refine ⟨by rw [List.length_take, List.length_drop, ← h.1]; omega, fun i hi => ?_⟩
  obtain ⟨b, off, e1, e2, e3⟩ := h.2 (q + i) (by omega)
  cases e1
  refine ⟨g, q, rfl, e2, ?_⟩
  rw [Nat.zero_add] at e3
  rw [e3]
  simp [List.getD_eq_getElem?_getD, List.getElem?_take, hi]
end Go.Proofs.YtpdgpgbgakinlaaGreat
