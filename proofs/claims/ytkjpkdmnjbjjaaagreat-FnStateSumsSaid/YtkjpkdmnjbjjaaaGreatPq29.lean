/-
  Walks and plain laws of this seat, some texts in one.
  No condition but bounds on lengths.
-/
import Derived.Test.YtkjpkdmnjbjjaaaGreatPq24
import Derived.Test.YtkjpkdmnjbjjaaaGreatPq28
import Derived.Test.YtkjpkdmnjbjjaaaGreatPq3
import Derived.Test.YtkjpkdmnjbjjaaaGreatPq7
import Derived.Test.YtkjpkdmnjbjjaaaGreatPq5
import Derived.Test.YtkjpkdmnjbjjaaaGreatPq8
import Derived.Test.YtkjpkdmnjbjjaaaGreatPq6
namespace Go.Proofs.YtkjpkdmnjbjjaaaGreat
set_option maxRecDepth 100000
set_option linter.unusedVariables false
set_option linter.unusedSimpArgs false
open Go.RowKit
theorem isBr_mk {s : Nat} {xs : List Int} (hs2 : 2 ≤ s) (hs6 : s ≤ 6) (h : IsWd s xs) : isBr s xs = true := by
  have e1 : wrap64 (1 - (s : Int)) = 1 - (s : Int) := IntWalk.wrap64_in _ ⟨by omega, by omega⟩
  have e2 : wrap64 ((s : Int) - 1) = (s : Int) - 1 := IntWalk.wrap64_in _ ⟨by omega, by omega⟩
  unfold isBr
  rw [Bool.and_eq_true, Bool.and_eq_true, Bool.and_eq_true]
  refine ⟨⟨⟨decide_eq_true (by omega), decide_eq_true (by omega)⟩, decide_eq_true h.1⟩, ?_⟩
  rw [List.all_eq_true]
  intro x hx
  have := h.2 x hx
  unfold isLet
  rw [e1, e2]
  simp
  omega
theorem Row.lit1 {w : World} {b off : Nat} {x : Int} (h : w.cell? ⟨b, off, none⟩ = some (.int .i64 x)) : Row w (some ⟨b, off, none⟩) 1 [x] := by
  refine ⟨rfl, fun i hi => ?_⟩
  obtain rfl : i = 0 := by omega
  exact ⟨b, off, rfl, World.block_lt_of_cell? w _ h, h⟩
theorem isBr_wd {s : Nat} {xs : List Int} (h : isBr s xs = true) : IsWd s xs := ⟨(isBr_let h).2.1, (isBr_let h).2.2⟩
theorem IsWd.one {s : Nat} {xs : List Int} (h : IsWd s xs) {x : Int} (hx : x ∈ xs) : IsWd s [x] := ⟨by simp, fun y hy => by rw [List.mem_singleton] at hy; subst hy; exact h.2 _ hx⟩
set_option maxHeartbeats 8000000 in
theorem l18Sum_any (a : Option Addr) (n c : Nat) (a' : Option Addr) (c' : Nat) (f g : List (List Int)) (m : Int) (am : Option Addr) (cm : Nat) (M : List (List Int)) (s : Nat) (ab : Option Addr) (nb cb : Nat) (xs : List Int) (al : Option Addr) (cl : Nat) (l : List Int) (w : World)
    (h1 : Tbl w a n f) (h2 : Tbl w a' n g) (hn1 : 1 ≤ n) (hn12 : n ≤ 12) (hf : Sq n f) (hg : Sq n g) (hc : collOk n f g = true)
    (hmm : 1 ≤ m ∧ m ≤ 12) (hM : SqM n m.toNat M) (h5 : Tbl w am n M) (hr : Row w ab nb xs) (hcap : nb ≤ cb) (hcb : cb ≤ 9223372036854775807) (hwd : IsWd s xs) (hs2 : 2 ≤ s) (hs6 : s ≤ 6) (hl : Row w al s l) (hle : Less n l) :
    Calls Tryz.prog 104 #[sAgg a n c a' n c', .int .i64 m, .slice am n cm, bAgg s ab nb cb, .slice al s cl] w fun e w' => e = .returned (.int .i64 (wtF n f g M m xs l)) ∧ Below w.heap.size w w' := by
  have hll := hl.len
  have hrl := hr.len
  have hn30 : nb ≤ 30 := by have := hwd.1; omega
  have hlt2 : ∀ k, Less n (actL n f g (xs.take k) l) := fun k => hle.act hn1 hf hg hc _ (fun x hx => by have := hwd.plc x (List.mem_of_mem_take hx); omega)
  have hlen2 : ∀ k, (actL n f g (xs.take k) l).length = s := fun k => by rw [actL_len]; exact hll.symm
  obtain ⟨hm1, hm2⟩ := hmm
  have HWD := Lib.hid hwd; have HLT := Lib.hid hlt2; have HLEN := Lib.hid hlen2; have HRL := Lib.hid hrl
  have HSF := Lib.hid hf; have HSG := Lib.hid hg; have HC := Lib.hid hc; have HM := Lib.hid hM
  obtain ⟨bM, oM, AM, OM, CM, rfl, gM⟩ := h5.gridM hM (by omega)
  clear hwd hlt2 hlen2 hf hg hc hM hrl hll h5
  have hA := (Loc.new w rfl #[.slice a n c, .slice a' n c'] 26).alloc (.cells #[.int .i64 s, .slice ab nb cb] 42)
  have hE := Loc.new (w.alloc (.cells #[.slice a n c, .slice a' n c'] 26)) rfl #[.int .i64 s, .slice ab nb cb] 42
  rw [size_alloc] at hE
  have hB := below_al (below_al (Below.refl w.heap.size w) (.cells #[.slice a n c, .slice a' n c'] 26)) (.cells #[.int .i64 s, .slice ab nb cb] 42)
  have hm0 : m ≠ 0 := by omega
  go_enter Tryz.func104, Tryz.ntmps104
  go_wp2
  generalize (w.alloc (.cells #[.slice a n c, .slice a' n c'] 26)).alloc (.cells #[.int .i64 s, .slice ab nb cb] 42) = w0 at *
  go_loopw [4, 11, 12] (fun t z i wr => ∃ (k : Nat) (ao : Option Addr) (co : Nat) (S : Int), k ≤ nb ∧ i = .int .i64 k ∧ t = .slice ao s co ∧ z = .int .i64 S ∧ Hid (S = wtS n f g M m (xs.take k) l % m) ∧ (0 ≤ S ∧ S < m) ∧ Row wr ao s (actL n f g (xs.take k) l) ∧ Loc wr w.heap.size #[.slice a n c, .slice a' n c'] 26 ∧ Loc wr (w.heap.size + 1) #[.int .i64 s, .slice ab nb cb] 42 ∧ Below w.heap.size w wr) (fun _ _ i _ => nb - (intOf i).toNat)
  case atStart => exact ⟨0, _, _, 0, Nat.zero_le _, rfl, rfl, rfl, Lib.hid (by simp [wtS]), by omega, by simpa [actL] using hl.below hB, hA, hE, hB⟩
  case round =>
    clear hA hB hE hl
    obtain ⟨k, ao, co, S, hk, rfl, rfl, rfl, hS, hSb, ho, hA, hE, hB⟩ := hrel
    obtain ⟨W, rfl⟩ : ∃ W : World, W = wr := ⟨_, rfl⟩
    obtain ⟨hS0, hS1⟩ := hSb
    have lA := hA.two
    have lE := hE.two
    by_cases hlt : k < nb
    · have hr2 := hr.below hB
      obtain ⟨bb, off, rfl, g1⟩ := hr2.at k hlt
      have hx : k < xs.length := by have := HRL.out; omega
      rw [getD_eq_at hx] at g1
      have hmem : xs[k] ∈ xs := List.getElem_mem hx
      have hle2 := HWD.out.2 xs[k] hmem
      have hpl2 := HWD.out.plc xs[k] hmem
      have HBR : Hid (isBr s [xs[k]] = true) := Lib.hid (isBr_mk hs2 hs6 (HWD.out.one hmem))
      have hst := actL_take n f g xs l k hx
      have hwt := wtS_take n f g M m xs l k hx
      have LT := HLT.out k
      have LT2 := HLT.out (k + 1)
      have LEN := HLEN.out k
      have LEN2 := HLEN.out (k + 1)
      obtain ⟨j, hj⟩ : ∃ j : Nat, plc xs[k] = j := ⟨(plc xs[k]).toNat, by omega⟩
      have hjs : j + 1 < s := by omega
      have hne0 : xs[k] ≠ 0 := hle2.1
      have hbd := wtT_bd HM.out ⟨hm1, hm2⟩ (x := xs[k]) LT LT2 (by omega) (by omega)
      have hsplit : (xs[k] = ((j + 1 : Nat) : Int)) ∨ (xs[k] = -((j + 1 : Nat) : Int)) := by
        unfold plc at hj; split at hj <;> omega
      have HS2 : Hid (wtS n f g M m (xs.take (k + 1)) l % m = (S + wtT M m xs[k] (actL n f g (xs.take k) l) (actL n f g (xs.take (k + 1)) l)) % m) := Lib.hid (by rw [hwt, hS.out, Int.emod_add_emod])
      have T1 := h1.below hB; have T2 := h2.below hB
      rw [hst] at LT2 LEN2 hbd HS2
      have HST := Lib.hid hst
      have H1 : Hid (actL n f g [xs[k]] (actL n f g (xs.take k) l) = stepL n f g xs[k] (actL n f g (xs.take k) l)) := Lib.hid rfl
      have hrow1 := Row.lit1 g1
      clear hle2 hst hwt hmem
      generalize actL n f g (xs.take k) l = L at *
      generalize xs[k] = X at *
      have i1 : (0 : Int) ≤ (k : Int) := by omega
      have i2 : (k : Int) ≤ (nb : Int) := by omega
      have i3 : (k : Int) < (nb : Int) := by omega
      have i4 : ((k + 1 : Nat) : Int) ≤ (cb : Int) := by omega
      have i5 : (k : Int) + 1 ≤ (cb : Int) := by omega
      have hwk : IntKind.i64.wrap ((k : Int) + 1) = ((k + 1 : Nat) : Int) := (IntWalk.i64_in _ (by omega)).trans (by simp)
      have i6 : (0 : Int) ≤ (k : Int) + 1 := by omega
      have i7 : ¬ cb = k := by omega
      have lEa := (hE.alloc (.cells #[.int .i64 0, .slice none 0 0] 42)).two
      go_wp2
      go_region
      all_goals clear lEa
      all_goals go_wp2
      have hO := (Loc.new W rfl #[.int .i64 s, .slice (some ⟨bb, off + k, none⟩) 1 (cb - k)] 42).drew
      have hQ : Below W.heap.size W (W.alloc (.cells #[.int .i64 s, .slice (some ⟨bb, off + k, none⟩) 1 (cb - k)] 42)).drew := (below_al (Below.refl _ _) _).drew
      generalize (W.alloc (.cells #[.int .i64 s, .slice (some ⟨bb, off + k, none⟩) 1 (cb - k)] 42)).drew = w2 at *
      have hA2 := hA.below hQ hA.lt
      have hE2 := hE.below hQ hE.lt
      have hr3 := hrow1.below hQ
      have ho2 := ho.below hQ
      have g2 := (hQ.cell (p := ⟨bb, off + k, none⟩) (World.block_lt_of_cell? W _ g1)).trans g1
      have hbb : bb < w2.heap.size := World.block_lt_of_cell? w2 _ g2
      have hB2 := below_th hB hQ
      have lA2 := hA2.two
      have lE2 := hE2.two
      have lO2 := hO.two
      clear lA lE g1 hr2
      go_region_held3 (fun w' => ((w'.cell? ⟨w.heap.size, 0, none⟩ = some (.slice a n c) ∧ w'.cell? ⟨w.heap.size, 1, none⟩ = some (.slice a' n c')) ∧ (w'.cell? ⟨W.heap.size, 0, none⟩ = some (.int .i64 s) ∧ w'.cell? ⟨W.heap.size, 1, none⟩ = some (.slice (some ⟨bb, off + k, none⟩) 1 (cb - k)))) ∧ w'.cell? ⟨w.heap.size + 1, 1, none⟩ = some (.slice (some ⟨bb, off, none⟩) nb cb) ∧ w'.cell? ⟨bb, off + k, none⟩ = some (.int .i64 X))
        (first | exact ⟨⟨⟨lA3.1, lA3.2.1⟩, lO3.1, lO3.2.1⟩, lE3.2.1, g3⟩ | exact ⟨⟨⟨lA2.1, lA2.2.1⟩, lO2.1, lO2.2.1⟩, lE2.2.1, g2⟩)
        (first
          | (go_at_call 167; refine (l16Act_any _ _ _ _ _ f g s _ _ _ [X] _ _ L _ ((T1.below hQ).drewN 1) ((T2.below hQ).drewN 1) hn1 hn12 HSF.out HSG.out HC.out (hr3.drewN 1) HBR.out (ho2.drewN 1) LT).mono ?_; rintro e w3 ⟨ao3, co3, rfl, ho3, hb3⟩; have hq3 := below_undrew hb3; have lA3 := (hA2.below hq3 hA2.lt).two; have lE3 := (hE2.below hq3 hE2.lt).two; have lO3 := (hO.below hq3 hO.lt).two; have g3 := (hq3.cell (p := ⟨bb, off + k, none⟩) hbb).trans g2))
      rw [H1.out] at ho3
      have hA3 := hA2.below hq3 hA2.lt
      have hE3 := hE2.below hq3 hE2.lt
      have hor := ho2.below hq3
      have hB3 := below_th hB2 hq3
      have gM3 := gM.below hB3
      clear lA2 lA3 lE2 lE3 lO2 lO3 g2 g3
      have i8 : (0 : Int) ≤ (j : Int) := by omega
      have i9 : (j : Int) ≤ (s : Int) := by omega
      have i10 : (j : Int) < (s : Int) := by omega
      have i11 : ((j + 1 : Nat) : Int) < (s : Int) := by omega
      have i12 : (j : Int) + 1 < (s : Int) := by omega
      have i13 : (0 : Int) ≤ (j : Int) + 1 := by omega
      rcases hsplit with hX | hX
      · have hpos : 0 < X := by omega
        obtain ⟨u, hu, eu⟩ := LT j (by omega)
        obtain ⟨v, hv, ev⟩ := LT (j + 1) (by omega)
        obtain ⟨bt, ot, e1, kx⟩ := hor.at j (by omega)
        obtain ⟨bt', ot', e2, ky⟩ := hor.at (j + 1) (by omega)
        rw [e1] at e2; cases e2; subst e1
        rw [eu] at kx; rw [ev] at ky
        obtain ⟨rM, kM⟩ := gM3.look hu hv
        have hval : wtT M m X L (stepL n f g X L) = ((tv M u v : Nat) : Int) := by unfold wtT; rw [if_pos hpos, hj, Int.toNat_natCast, eu, ev]; simp
        rw [hval] at HS2 hbd
        generalize tv M u v = T at *
        subst hX
        have hwx : IntKind.i64.wrap (((j + 1 : Nat) : Int) - 1) = (j : Int) := (IntWalk.i64_in _ (by omega)).trans (by simp)
        have hsum : IntKind.i64.wrap (S + (T : Int)) = S + (T : Int) := IntWalk.i64_in _ (by omega)
        have hrem : (S + (T : Int)).tmod m = (S + (T : Int)) % m := IntWalk.rem_in _ _ (by omega)
        have v0 : 0 ≤ (S + (T : Int)) % m := Int.emod_nonneg _ (by omega)
        have v1 : (S + (T : Int)) % m < m := Int.emod_lt_of_pos _ (by omega)
        generalize (S + (T : Int)) % m = V at *
        have hwV : IntKind.i64.wrap V = V := IntWalk.i64_in _ (by omega)
        have hb0 : decide (0 < ((j + 1 : Nat) : Int)) = true := decide_eq_true (by omega)
        clear hval eu ev hj
        go_wp2
        go_quiet (fail)
        go_wp2
        go_roundw
        case rel => exact ⟨k + 1, _, _, _, by omega, by go_num, rfl, rfl, Lib.hid HS2.out.symm, by omega, by rw [HST.out]; exact ho3.row.drewN _, hA3.drewN _, hE3.drewN _, below_drewN hB3 _⟩
        case measure => simp [intOf]; omega
      · have hneg : ¬ 0 < X := by omega
        obtain ⟨u, hu, eu⟩ := LT2 j (by omega)
        obtain ⟨v, hv, ev⟩ := LT2 (j + 1) (by omega)
        obtain ⟨bt, ot, e1, kx⟩ := ho3.row.at j (by omega)
        obtain ⟨bt', ot', e2, ky⟩ := ho3.row.at (j + 1) (by omega)
        rw [e1] at e2; cases e2; subst e1
        rw [eu] at kx; rw [ev] at ky
        obtain ⟨rM, kM⟩ := gM3.look hu hv
        have hval : wtT M m X L (stepL n f g X L) = m - ((tv M u v : Nat) : Int) := by unfold wtT; rw [if_neg hneg, hj, Int.toNat_natCast, eu, ev]; simp
        rw [hval] at HS2 hbd
        generalize tv M u v = T at *
        have hwn : IntKind.i64.wrap (-X) = ((j + 1 : Nat) : Int) := (IntWalk.i64_in _ (by omega)).trans (by omega)
        have hwx : IntKind.i64.wrap (((j + 1 : Nat) : Int) - 1) = (j : Int) := (IntWalk.i64_in _ (by omega)).trans (by simp)
        have hs1 : IntKind.i64.wrap (S + m) = S + m := IntWalk.i64_in _ (by omega)
        have hsum : IntKind.i64.wrap (S + m - (T : Int)) = S + m - (T : Int) := IntWalk.i64_in _ (by omega)
        have hrem : (S + m - (T : Int)).tmod m = (S + m - (T : Int)) % m := IntWalk.rem_in _ _ (by omega)
        have v0 : 0 ≤ (S + m - (T : Int)) % m := Int.emod_nonneg _ (by omega)
        have v1 : (S + m - (T : Int)) % m < m := Int.emod_lt_of_pos _ (by omega)
        have HE : Hid ((S + (m - (T : Int))) % m = (S + m - (T : Int)) % m) := Lib.hid (by congr 1; omega)
        generalize (S + m - (T : Int)) % m = V at *
        have hwV : IntKind.i64.wrap V = V := IntWalk.i64_in _ (by omega)
        have hb0 : decide (0 < X) = false := by simpa using hneg
        clear hval eu ev hj hX
        go_wp2
        go_quiet (fail)
        go_wp2
        go_roundw
        case rel => exact ⟨k + 1, _, _, _, by omega, by go_num, rfl, rfl, Lib.hid (HS2.out.trans HE.out).symm, by omega, by rw [HST.out]; exact ho3.row.drewN _, hA3.drewN _, hE3.drewN _, below_drewN hB3 _⟩
        case measure => simp [intOf]; omega
    · obtain rfl : k = nb := by omega
      have e1 := hS.out
      rw [List.take_of_length_le (by have := HRL.out; omega)] at e1
      have HV : Hid (wtF n f g M m xs l = S) := Lib.hid e1.symm
      clear e1
      go_wp2
      go_ret
      exact ⟨ret_int HV.out.symm, hB⟩
end Go.Proofs.YtkjpkdmnjbjjaaaGreat

namespace Go.Proofs.YtkjpkdmnjbjjaaaGreat
set_option maxRecDepth 100000
set_option linter.unusedVariables false
set_option linter.unusedSimpArgs false
open Go.RowKit
def NewR (L : List Int) (W : World) (e : Ending) (w' : World) : Prop := ∃ a k c, e = .returned (.slice a k c) ∧ Own w' W.heap.size a k c L ∧ Below W.heap.size W w'
theorem Own.lit3 {w : World} {b lo : Nat} {x y z : Int} (h : Loc w b #[.int .i64 x, .int .i64 y, .int .i64 z] 2) (hlo : lo ≤ b) : Own w lo (some ⟨b, 0, none⟩) 3 3 [x, y, z] := Own.mk rfl hlo h (Nat.le_refl _) (by unfold maxLen; omega) rfl rfl
theorem Own.empty0 (w : World) {b lo : Nat} (hb : b = w.heap.size) (hlo : lo ≤ b) : Own (w.alloc (.cells #[] 2)) lo (some ⟨b, 0, none⟩) 0 0 [] := Own.mk rfl hlo (Loc.new w hb _ _) (Nat.le_refl _) (by unfold maxLen; omega) rfl rfl
theorem Loc.held2 {w : World} {b : Nat} {x y : Value} {t : TypeId} (h : Loc w b #[x, y] t) : w.cell? ⟨b, 0, none⟩ = some x ∧ w.cell? ⟨b, 1, none⟩ = some y := ⟨h.cell 0 rfl, h.cell 1 rfl⟩
theorem tri_next_y (n x y : Nat) : tri n x y n = tri n x (y + 1) 0 := by unfold tri; rw [Nat.add_zero, ← Nat.add_assoc, Nat.add_mul (x * n + y) 1 n, Nat.one_mul]
theorem tri_next_x (n x : Nat) : tri n x n 0 = tri n (x + 1) 0 0 := by unfold tri; rw [Nat.add_mul x 1 n, Nat.one_mul]; simp
theorem tri_end (n : Nat) : tri n n 0 0 = n * n * n := by unfold tri; simp
set_option maxHeartbeats 8000000 in
theorem l18Fault_any (a : Option Addr) (n c : Nat) (a' : Option Addr) (c' : Nat) (f g : List (List Int)) (m : Int) (am : Option Addr) (cm : Nat) (M : List (List Int)) (w : World) (h1 : Tbl w a n f) (h2 : Tbl w a' n g) (hs : isSol f g = true) (hmm : 1 ≤ m ∧ m ≤ 12) (hM : SqM n m.toNat M) (h5 : Tbl w am n M) :
    Calls Tryz.prog 123 #[sAgg a n c a' n c', .int .i64 m, .slice am n cm] w (NewR (wtFlt n f g M m) w) := by
  obtain ⟨hn1, hn12, sf, sg⟩ := isSol_sq hs
  have hcc := isSol_coll hs
  have hfl := h1.len
  rw [← hfl] at hn1 hn12 sf sg hcc
  have HSF := Lib.hid sf; have HSG := Lib.hid sg; have HC := Lib.hid hcc; have HM := Lib.hid hM; have HMM := Lib.hid hmm
  have HW1 : Hid (IsWd 3 [1, 2, 1]) := Lib.hid (wd3 (by omega) (by omega) (by omega))
  have HW2 : Hid (IsWd 3 [2, 1, 2]) := Lib.hid (wd3 (by omega) (by omega) (by omega))
  clear hs sf sg hcc hfl hM hmm
  have hA := ((((Loc.new w rfl #[.slice a n c, .slice a' n c'] 26).alloc (.cells #[.int .i64 1, .int .i64 2, .int .i64 1] 2)).alloc (.cells #[.int .i64 2, .int .i64 1, .int .i64 2] 2)).alloc (.cells #[.int .i64 3, .slice (some ⟨w.heap.size + 1, 0, none⟩) 3 3] 42)).alloc (.cells #[.int .i64 3, .slice (some ⟨w.heap.size + 1 + 1, 0, none⟩) 3 3] 42)
  have hR1 := (((Row.lit3 (Loc.new (b := w.heap.size + 1) (w.alloc (.cells #[.slice a n c, .slice a' n c'] 26)) (by simp) #[.int .i64 1, .int .i64 2, .int .i64 1] 2)).alloc (.cells #[.int .i64 2, .int .i64 1, .int .i64 2] 2)).alloc (.cells #[.int .i64 3, .slice (some ⟨w.heap.size + 1, 0, none⟩) 3 3] 42)).alloc (.cells #[.int .i64 3, .slice (some ⟨w.heap.size + 1 + 1, 0, none⟩) 3 3] 42)
  have hR2 := ((Row.lit3 (Loc.new (b := w.heap.size + 1 + 1) ((w.alloc (.cells #[.slice a n c, .slice a' n c'] 26)).alloc (.cells #[.int .i64 1, .int .i64 2, .int .i64 1] 2)) (by simp) #[.int .i64 2, .int .i64 1, .int .i64 2] 2)).alloc (.cells #[.int .i64 3, .slice (some ⟨w.heap.size + 1, 0, none⟩) 3 3] 42)).alloc (.cells #[.int .i64 3, .slice (some ⟨w.heap.size + 1 + 1, 0, none⟩) 3 3] 42)
  have hE1 := (Loc.new (b := w.heap.size + 1 + 1 + 1) (((w.alloc (.cells #[.slice a n c, .slice a' n c'] 26)).alloc (.cells #[.int .i64 1, .int .i64 2, .int .i64 1] 2)).alloc (.cells #[.int .i64 2, .int .i64 1, .int .i64 2] 2)) (by simp) #[.int .i64 3, .slice (some ⟨w.heap.size + 1, 0, none⟩) 3 3] 42).alloc (.cells #[.int .i64 3, .slice (some ⟨w.heap.size + 1 + 1, 0, none⟩) 3 3] 42)
  have hE2 := Loc.new (b := w.heap.size + 1 + 1 + 1 + 1) ((((w.alloc (.cells #[.slice a n c, .slice a' n c'] 26)).alloc (.cells #[.int .i64 1, .int .i64 2, .int .i64 1] 2)).alloc (.cells #[.int .i64 2, .int .i64 1, .int .i64 2] 2)).alloc (.cells #[.int .i64 3, .slice (some ⟨w.heap.size + 1, 0, none⟩) 3 3] 42)) (by simp) #[.int .i64 3, .slice (some ⟨w.heap.size + 1 + 1, 0, none⟩) 3 3] 42
  have hB := below_al (below_al (below_al (below_al (below_al (Below.refl w.heap.size w) (.cells #[.slice a n c, .slice a' n c'] 26)) (.cells #[.int .i64 1, .int .i64 2, .int .i64 1] 2)) (.cells #[.int .i64 2, .int .i64 1, .int .i64 2] 2)) (.cells #[.int .i64 3, .slice (some ⟨w.heap.size + 1, 0, none⟩) 3 3] 42)) (.cells #[.int .i64 3, .slice (some ⟨w.heap.size + 1 + 1, 0, none⟩) 3 3] 42)
  have T1 := h1.below hB; have T2 := h2.below hB; have T5 := h5.below hB
  clear h1 h2 h5
  go_enter Tryz.func123, Tryz.ntmps123
  go_wp2
  generalize ((((w.alloc (.cells #[.slice a n c, .slice a' n c'] 26)).alloc (.cells #[.int .i64 1, .int .i64 2, .int .i64 1] 2)).alloc (.cells #[.int .i64 2, .int .i64 1, .int .i64 2] 2)).alloc (.cells #[.int .i64 3, .slice (some ⟨w.heap.size + 1, 0, none⟩) 3 3] 42)).alloc (.cells #[.int .i64 3, .slice (some ⟨w.heap.size + 1 + 1, 0, none⟩) 3 3] 42) = w0 at *
  have hszA := hA.lt
  go_loopw [10] (fun i wr => ∃ k : Nat, k ≤ n ∧ i = .int .i64 k ∧ Hid (∀ M', M' < tri n k 0 0 → wtBad n f g M m (digL n 3 M') = false) ∧ Below w0.heap.size w0 wr) (fun i _ => n - (intOf i).toNat)
  case atStart => exact ⟨0, Nat.zero_le _, rfl, Lib.hid fun M' h => absurd h (by simp [tri]), Below.refl _ _⟩
  case round =>
    obtain ⟨x, hx, rfl, hx1, hW⟩ := hrel
    by_cases hlt : x < n
    · go_wp2
      go_loopw [11] (fun i wr => ∃ k : Nat, k ≤ n ∧ i = .int .i64 k ∧ Hid (∀ M', M' < tri n x k 0 → wtBad n f g M m (digL n 3 M') = false) ∧ Below w0.heap.size w0 wr) (fun i _ => n - (intOf i).toNat)
      case atStart => exact ⟨0, Nat.zero_le _, rfl, hx1, hW⟩
      case round =>
        clear hW
        obtain ⟨y, hy, rfl, hy1, hW⟩ := hrel
        by_cases hlty : y < n
        · go_wp2
          go_loopw [12] (fun i wr => ∃ k : Nat, k ≤ n ∧ i = .int .i64 k ∧ Hid (∀ M', M' < tri n x y k → wtBad n f g M m (digL n 3 M') = false) ∧ Below w0.heap.size w0 wr) (fun i _ => n - (intOf i).toNat)
          case atStart => exact ⟨0, Nat.zero_le _, rfl, hy1, hW⟩
          case round =>
            clear hW
            obtain ⟨z, hz, rfl, hz1, hW⟩ := hrel
            by_cases hltz : z < n
            · have htr := tri_three hlt hlty hltz
              have hle : Less n [(x : Int), (y : Int), (z : Int)] := Less.lit3 hlt hlty hltz
              have hbad : wtBad n f g M m (digL n 3 (tri n x y z)) = (wtF n f g M m [1, 2, 1] [(x : Int), (y : Int), (z : Int)] != wtF n f g M m [2, 1, 2] [(x : Int), (y : Int), (z : Int)]) := by rw [htr]; unfold wtBad; rw [Bool.eq_iff_iff]; simp
              have HTR := Lib.hid htr; have HBAD := Lib.hid hbad; have HLE := Lib.hid hle
              clear htr hbad hle
              go_wp2
              have hLz := Loc.new wr rfl #[.int .i64 x, .int .i64 y, .int .i64 z] 2
              have hwr := hW.size
              replace hW := below_al hW (.cells #[.int .i64 x, .int .i64 y, .int .i64 z] 2)
              have hszz := hLz.lt
              generalize hwr0 : wr.heap.size = q at *
              generalize wr.alloc (.cells #[.int .i64 x, .int .i64 y, .int .i64 z] 2) = w1 at *
              clear hwr0
              have hrow := Row.lit3 hLz
              have tok1 : True := trivial
              go_region_held3 (fun w' => ((w'.cell? ⟨w.heap.size, 0, none⟩ = some (.slice a n c) ∧ w'.cell? ⟨w.heap.size, 1, none⟩ = some (.slice a' n c')) ∧ (w'.cell? ⟨w.heap.size + 1 + 1 + 1, 0, none⟩ = some (.int .i64 3) ∧ w'.cell? ⟨w.heap.size + 1 + 1 + 1, 1, none⟩ = some (.slice (some ⟨w.heap.size + 1, 0, none⟩) 3 3))) ∧ (w'.cell? ⟨w.heap.size + 1 + 1 + 1 + 1, 0, none⟩ = some (.int .i64 3) ∧ w'.cell? ⟨w.heap.size + 1 + 1 + 1 + 1, 1, none⟩ = some (.slice (some ⟨w.heap.size + 1 + 1, 0, none⟩) 3 3)))
                (first | exact ⟨⟨(hA.below hr3 hA.lt).held2, (hE1.below hr3 hE1.lt).held2⟩, (hE2.below hr3 hE2.lt).held2⟩ | exact ⟨⟨(hA.below hr2 hA.lt).held2, (hE1.below hr2 hE1.lt).held2⟩, (hE2.below hr2 hE2.lt).held2⟩ | exact ⟨⟨(hA.below hW hA.lt).held2, (hE1.below hW hE1.lt).held2⟩, (hE2.below hW hE2.lt).held2⟩)
                (first
                  | (go_at_call 104; have _t := tok1; clear _t tok1; have tok2 : True := trivial; refine (l18Sum_any _ _ _ _ _ f g m _ _ M 3 _ _ _ [1, 2, 1] _ _ [(x : Int), (y : Int), (z : Int)] _ (T1.below (below_drewN hW 1)) (T2.below (below_drewN hW 1)) hn1 hn12 HSF.out HSG.out HC.out HMM.out HM.out (T5.below (below_drewN hW 1)) (hR1.below (below_drewN hW 1)) (by omega) (by omega) HW1.out (by omega) (by omega) (hrow.drewN 1) HLE.out).mono ?_; rintro e w2 ⟨rfl, hb2⟩; have hr2 := below_th (below_drewN hW 1) hb2; have hq2 := below_undrew hb2)
                  | (go_at_call 104; have _t := tok2; clear _t tok2; refine (l18Sum_any _ _ _ _ _ f g m _ _ M 3 _ _ _ [2, 1, 2] _ _ [(x : Int), (y : Int), (z : Int)] _ (T1.below hr2) (T2.below hr2) hn1 hn12 HSF.out HSG.out HC.out HMM.out HM.out (T5.below hr2) (hR2.below hr2) (by omega) (by omega) HW2.out (by omega) (by omega) (hrow.below hq2) HLE.out).mono ?_; rintro e w3 ⟨rfl, hb3⟩; have hr3 := below_th hr2 hb3; have hq3 := below_th hq2 hb3))
              cases hv : (wtF n f g M m [1, 2, 1] [(x : Int), (y : Int), (z : Int)] != wtF n f g M m [2, 1, 2] [(x : Int), (y : Int), (z : Int)]) with
              | true =>
                rw [hv] at HBAD
                have HL : Hid (wtFlt n f g M m = [(x : Int), (y : Int), (z : Int)]) := Lib.hid ((fltL_hit (tri_lt hlt hlty hltz) hz1.out HBAD.out).trans HTR.out)
                go_wp2
                go_ret
                exact ⟨_, _, _, rfl, by rw [HL.out]; exact Own.lit3 (hLz.below hq3 hLz.lt) (by omega), hB.trans (hr3.mono (by have := hB.size; omega))⟩
              | false =>
                rw [hv] at HBAD
                go_wp2
                go_roundw
                case rel =>
                  refine ⟨z + 1, by omega, by go_num, Lib.hid fun M' hM' => ?_, hr3⟩
                  by_cases e : M' = tri n x y z
                  · subst e; exact HBAD.out
                  · exact hz1.out M' (by unfold tri at *; omega)
                case measure => simp [intOf]; omega
            · obtain rfl : z = n := by omega
              go_wp2
              go_roundw
              case rel => exact ⟨y + 1, by omega, by go_num, Lib.hid (by rw [← tri_next_y]; exact hz1.out), hW⟩
              case measure => simp [intOf]; omega
        · obtain rfl : y = n := by omega
          go_wp2
          go_roundw
          case rel => exact ⟨x + 1, by omega, by go_num, Lib.hid (by rw [← tri_next_x]; exact hy1.out), hW⟩
          case measure => simp [intOf]; omega
    · obtain rfl : x = n := by omega
      have HL : Hid (wtFlt x f g M m = []) := Lib.hid (fltL_miss (by rw [← tri_end]; exact hx1.out))
      go_wp2
      go_ret
      exact ⟨_, _, _, rfl, by rw [HL.out]; exact Own.empty0 _ rfl (by have := hW.size; have := hB.size; omega), below_al (hB.trans (hW.mono hB.size)) _⟩
set_option maxHeartbeats 1000000 in
theorem l18Code_any (a : Option Addr) (n c : Nat) (a' : Option Addr) (n' c' : Nat) (f g : List (List Int)) (m : Int) (am : Option Addr) (nm cm : Nat) (M : List (List Int)) (w : World) (h1 : Tbl w a n f) (h2 : Tbl w a' n' g) (hm1 : n ≤ 9223372036854775807) (hm2 : n' ≤ 9223372036854775807) (h5 : Tbl w am nm M) (hnm : nm ≤ 9223372036854775807) (r : Int) (hr : (if isSol f g then (if isMx n m M then 0 else 2) else 1) = r) :
    Calls Tryz.prog 102 #[sAgg a n c a' n' c', .int .i64 m, .slice am nm cm] w fun e w' => e = .returned (.int .i64 r) ∧ Below w.heap.size w w' := by
  have hA := Loc.new w rfl #[.slice a n c, .slice a' n' c'] 26
  cases q1 : isSol f g with
  | false =>
    rw [q1] at hr
    simp only [Bool.false_eq_true, if_false] at hr
    subst hr
    have H1 := Lib.hid q1; clear q1
    go_enter Tryz.func102, Tryz.ntmps102
    go_wp2_with fail
    refine (l02Is_any _ _ _ _ _ _ _ _ _ (h1.alloc _) (h2.alloc _) hm1 hm2).mono ?_
    rintro e w1 ⟨rfl, hb1⟩
    rw [H1.out]
    go_wp2
    go_ret
    exact ⟨rfl, below_alth (Below.refl _ _) hb1⟩
  | true =>
    rw [q1] at hr
    simp only [if_true] at hr
    have H1 := Lib.hid q1; clear q1
    have HR := Lib.hid hr; clear hr
    go_enter Tryz.func102, Tryz.ntmps102
    go_wp2_with fail
    refine (l02Is_any _ _ _ _ _ _ _ _ _ (h1.alloc _) (h2.alloc _) hm1 hm2).mono ?_
    rintro e w1 ⟨rfl, hb1⟩
    rw [H1.out]
    have lA := (hA.below hb1 (by simp)).two
    go_wp2_with fail
    refine (l14Code_any n m _ _ _ M _ ((h5.alloc _).below hb1) hnm r HR.out).mono ?_
    rintro e w2 ⟨rfl, rfl⟩
    go_wp2
    go_ret
    exact ⟨rfl, below_alth (Below.refl _ _) hb1⟩
end Go.Proofs.YtkjpkdmnjbjjaaaGreat

namespace Go.Proofs.YtkjpkdmnjbjjaaaGreat
set_option maxRecDepth 100000
set_option linter.unusedVariables false
set_option linter.unusedSimpArgs false
open Go.RowKit
def cstR (n k : Nat) : List Int := (List.range n).map fun _ => (k : Int)
theorem cstR_len (n k : Nat) : (cstR n k).length = n := by simp [cstR]
theorem cstR_succ {n k j : Nat} (h : j < n) : (cstR n k).take (j + 1) = (cstR n k).take j ++ [(k : Int)] := by
  rw [List.take_succ_eq_append_getElem (by rw [cstR_len]; exact h)]; simp [cstR]
theorem cstL_succ {n k : Nat} (h : k < n) : (cstL n).take (k + 1) = (cstL n).take k ++ [cstR n k] := by
  have hl : k < (cstL n).length := by unfold cstL; rw [tabF_len]; exact h
  rw [List.take_succ_eq_append_getElem hl]
  have e := tabF_get n (fun x _ => (x : Int)) k h
  have e2 := Tbl.getD hl
  unfold cstL at *
  rw [← e2, e]; rfl
set_option maxHeartbeats 4000000 in
theorem l03Solution_any (a : Option Addr) (n c : Nat) (f : List (List Int)) (w : World) (h : Tbl w a n f) (hf : Sq n f) (hn1 : 1 ≤ n) (hn : n ≤ 12) :
    Calls Tryz.prog 113 #[rAgg a n c] w fun e w' => ∃ a1 c1 vs a1' c1' vs', e = .returned (sAgg a1 n c1 a1' n c1') ∧ OwnS w' w.heap.size a1 n c1 vs f a1' n c1' vs' (cstL n) ∧ Below w.heap.size w w' := by
  have hA := (Loc.new w rfl #[.slice a n c] 58).alloc (.cells #[.slice none 0 0, .slice none 0 0] 26)
  have hR := Loc.new (w.alloc (.cells #[.slice a n c] 58)) rfl #[.slice none 0 0, .slice none 0 0] 26
  rw [size_alloc] at hR
  have hB := below_al (below_al (Below.refl w.heap.size w) (.cells #[.slice a n c] 58)) (.cells #[.slice none 0 0, .slice none 0 0] 26)
  have hlen : ∀ x ∈ f, x.length ≤ 1000000 := fun x hx => by
    obtain ⟨i, hi, rfl⟩ := List.getElem_of_mem hx
    have := hf.row (show i < n by have := hf.len; omega)
    rw [Tbl.getD hi] at this; omega
  have HLEN := Lib.hid hlen; have HF := Lib.hid hf
  clear hlen hf
  go_enter Tryz.func113, Tryz.ntmps113
  have lA := hA.one
  go_wp2_with fail
  generalize (w.alloc (.cells #[.slice a n c] 58)).alloc (.cells #[.slice none 0 0, .slice none 0 0] 26) = w0 at *
  refine (l01Own2_any _ _ _ f _ (h.below hB) (by omega) HLEN.out).mono ?_
  rintro e w1 ⟨a1, c1, vs1, rfl, ho1, hb1⟩
  have hzr : w.heap.size + 1 < w0.heap.size := hR.lt
  have hz1 := hb1.size
  have hO := Loc.new w1 rfl #[.slice a1 n c1, .slice none 0 0] 26
  have hA1 := (hA.below hb1 hA.lt)
  have hR1 := (hR.below hb1 hR.lt)
  have hq0 : Below w1.heap.size w1 (w1.alloc (.cells #[.slice a1 n c1, .slice none 0 0] 26)) := below_al (Below.refl w1.heap.size w1) _
  have hB1 := below_th hB hb1
  have lA1 := (hA1.alloc (.cells #[.slice a1 n c1, .slice none 0 0] 26)).one
  clear hA hR hB lA hb1
  go_wp2
  clear lA1
  go_loopw [4] (fun i wr => ∃ (k : Nat) (az : Option Addr) (cz : Nat) (vz : List SV), k ≤ n ∧ i = .int .i64 k ∧ Loc wr w1.heap.size #[.slice a1 n c1, .slice az k cz] 26 ∧ OwnT wr (w1.heap.size + 1) az k cz vz ((cstL n).take k) ∧ Below w1.heap.size w1 wr) (fun i _ => n - (intOf i).toNat)
  case atStart => exact ⟨0, none, 0, [], Nat.zero_le _, rfl, hO, by simpa using OwnT.nil _ _, hq0⟩
  case round =>
    clear hO hq0
    obtain ⟨k, az, cz, vz, hk, rfl, hO, ho, hq⟩ := hrel
    have hAr := hA1.below hq hA1.lt
    have lA := hAr.one
    have hOlt := hO.lt
    by_cases hlt : k < n
    · have lA2 := (hAr.alloc (.cells #[] 2)).one
      have hE := Own.empty0 wr (lo := wr.heap.size) rfl (Nat.le_refl _)
      have hqe := below_al (Below.refl wr.heap.size wr) (.cells #[] 2)
      go_wp2
      clear lA lA2
      go_loopw [5, 6] (fun z i wq => ∃ (j : Nat) (ar : Option Addr) (cr : Nat), j ≤ n ∧ i = .int .i64 j ∧ z = .slice ar j cr ∧ Own wq wr.heap.size ar j cr ((cstR n k).take j) ∧ Below wr.heap.size wr wq) (fun _ i _ => n - (intOf i).toNat)
      case atStart => exact ⟨0, _, 0, Nat.zero_le _, rfl, rfl, by simpa using hE, hqe⟩
      case round =>
        clear hE hqe
        obtain ⟨j, ar, cr, hj, rfl, rfl, hor, hqr⟩ := hrel
        have hAq := hAr.below hqr hAr.lt
        have lA := hAq.one
        by_cases hjt : j < n
        · have HS := Lib.hid (cstR_succ (k := k) hjt)
          have hwq := hqr.size
          go_wp2_with (at_builtin; refine app1 rfl rfl hor rfl rfl (by omega) hwq ?_; intro g' cc w8 hOw hg8 hs8 hb8)
          go_roundw
          case rel => exact ⟨j + 1, _, _, by omega, by go_num, rfl, by rw [HS.out]; exact hOw, hqr.trans hb8⟩
          case measure => simp [intOf]; omega
        · obtain rfl : j = n := by omega
          rw [List.take_of_length_le (by rw [cstR_len]; exact Nat.le_refl _)] at hor
          have hO3 := hO.below hqr hO.lt
          have lO := hO3.two
          have lO' := (hO3.alloc (.cells #[.slice ar j cr] 35)).two
          have ho3 := ho.below hqr
          have HS := Lib.hid (cstL_succ hlt)
          have hwq := hqr.size
          go_wp2_with (at_builtin; refine appT1 rfl rfl ho3 rfl (hor.mono (by omega)) (fun g h1 h2 => by have h3 := ho.high _ h1; have h4 := hor.lo _ h2; omega) (fun i hi g h1 h2 => by have h3 := hor.lo _ h1; have h4 := (ho.row i hi).hi _ h2; omega) rfl (by omega) (by omega) ?_; intro g' cc w9 hOT hb9; have hO9 := hO3.below hb9 (by omega); have lO9 := hO9.two)
          have hset := hO9.set 1 (.slice (some ⟨g', 0, none⟩) (k + 1) cc)
          go_roundw
          case rel => exact ⟨k + 1, _, _, _, by omega, by go_num, hset, by rw [HS.out]; exact hOT.setlo (by show w1.heap.size < _; omega) _, below_setne ((hq.trans (hqr.mono (by omega))).trans (hb9.mono (by omega))) (by show _ ≤ w1.heap.size; omega) _⟩
          case measure => simp [intOf]; omega
    · obtain rfl : k = n := by omega
      rw [List.take_of_length_le (by unfold cstL; rw [tabF_len]; exact Nat.le_refl _)] at ho
      have lO := hO.two
      have hRr := hR1.below hq hR1.lt
      have lR := hRr.two
      have hT1 := ho1.below hq
      have hap : ∀ g, TblS a1 k vs1 g → ¬ TblS az k vz g := fun g h1 h2 => by have e1 := ho1.uHi g h1; have e2 := ho.uLo g h2; omega
      go_wp2
      refine bodyPost_ret (v := sAgg a1 k c1 az k cz) (by simp [results, Tryz.results113, go_sem, lR, lO]) rfl ⟨a1, c1, vs1, az, cz, vz, rfl, ⟨?_, ?_, hap⟩, ?_⟩
      · exact ((hT1.setlo (by show w.heap.size + 1 < w0.heap.size; omega) _).setlo (by show w.heap.size + 1 < w0.heap.size; omega) _).mono (by omega)
      · exact ((ho.setlo (by show w.heap.size + 1 < w1.heap.size + 1; omega) _).setlo (by show w.heap.size + 1 < w1.heap.size + 1; omega) _).mono (by omega)
      · exact below_setne (below_setne (hB1.trans (hq.mono hB1.size)) (by show w.heap.size ≤ w.heap.size + 1; omega) _) (by show w.heap.size ≤ w.heap.size + 1; omega) _
end Go.Proofs.YtkjpkdmnjbjjaaaGreat
