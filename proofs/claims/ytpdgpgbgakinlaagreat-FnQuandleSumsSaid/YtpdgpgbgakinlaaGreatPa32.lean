/-
  Walks and plain laws of this seat, some texts in one.
  No condition but bounds on lengths.
-/
import Derived.Test.YtpdgpgbgakinlaaGreatPa31
import Derived.Test.YtpdgpgbgakinlaaGreatPa26
import Derived.Test.YtpdgpgbgakinlaaGreatPa27
import Derived.Test.YtpdgpgbgakinlaaGreatPa8
import Derived.Test.YtpdgpgbgakinlaaGreatPa9
import Derived.Test.YtpdgpgbgakinlaaGreatPa5
import Derived.Test.YtpdgpgbgakinlaaGreatPa3
import Derived.Test.YtpdgpgbgakinlaaGreatPa6
import Derived.Test.YtpdgpgbgakinlaaGreatPa22
namespace Go.Proofs.YtpdgpgbgakinlaaGreat
set_option maxRecDepth 100000
set_option linter.unusedVariables false
set_option linter.unusedSimpArgs false
open Go.RowKit
def NewR (L : List Int) (W : World) (e : Ending) (w' : World) : Prop := ∃ a k c, e = .returned (.slice a k c) ∧ Own w' W.heap.size a k c L ∧ Below W.heap.size W w'
theorem Own.lit3 {w : World} {b lo : Nat} {x y z : Int} (h : Loc w b #[.int .i64 x, .int .i64 y, .int .i64 z] 2) (hlo : lo ≤ b) : Own w lo (some ⟨b, 0, none⟩) 3 3 [x, y, z] := Own.mk rfl hlo h (Nat.le_refl _) (by unfold maxLen; omega) rfl rfl
theorem Own.empty0 (w : World) {b lo : Nat} (hb : b = w.heap.size) (hlo : lo ≤ b) : Own (w.alloc (.cells #[] 2)) lo (some ⟨b, 0, none⟩) 0 0 [] := Own.mk rfl hlo (Loc.new w hb _ _) (Nat.le_refl _) (by unfold maxLen; omega) rfl rfl
theorem Loc.held2 {w : World} {b : Nat} {x y : Value} {t : TypeId} (h : Loc w b #[x, y] t) : w.cell? ⟨b, 0, none⟩ = some x ∧ w.cell? ⟨b, 1, none⟩ = some y := ⟨h.cell 0 rfl, h.cell 1 rfl⟩
theorem tri_next_y (n x y : Nat) : tri n x y n = tri n x (y + 1) 0 := by unfold tri; rw [Nat.add_zero, ← Nat.add_assoc, Nat.add_mul (x * n + y) 1 n, Nat.one_mul]
theorem tri_next_x (n x : Nat) : tri n x n 0 = tri n (x + 1) 0 0 := by unfold tri; rw [Nat.add_mul x 1 n, Nat.one_mul]; simp
theorem tri_end (n : Nat) : tri n n 0 0 = n * n * n := by unfold tri; simp
set_option maxHeartbeats 8000000 in
theorem l18Fault_any (a : Option Addr) (n c : Nat) (a' : Option Addr) (c' : Nat) (f g : List (List Int)) (m : Int) (am : Option Addr) (cm : Nat) (M : List (List Int)) (w : World) (h1 : Tbl w a n f) (h2 : Tbl w a' n g) (hs : isSol f g = true) (hmm : 1 ≤ m ∧ m ≤ 12) (hM : SqM n m.toNat M) (h5 : Tbl w am n M) :
    Calls Tryz.prog 67 #[sAgg a n c a' n c', .int .i64 m, .slice am n cm] w (NewR (wtFlt n f g M m) w) := by
  obtain ⟨hn1, hn12, sf, sg⟩ := isSol_sq hs
  have hcc := isSol_coll hs
  have hfl := h1.len
  rw [← hfl] at hn1 hn12 sf sg hcc
  have HSF := Lib.hid sf; have HSG := Lib.hid sg; have HC := Lib.hid hcc; have HM := Lib.hid hM; have HMM := Lib.hid hmm
  have HW1 : Hid (IsWd 3 [1, 2, 1]) := Lib.hid (wd3 (by omega) (by omega) (by omega))
  have HW2 : Hid (IsWd 3 [2, 1, 2]) := Lib.hid (wd3 (by omega) (by omega) (by omega))
  clear hs sf sg hcc hfl hM hmm
  have hA := ((((Loc.new w rfl #[.slice a n c, .slice a' n c'] 26).alloc (.cells #[.int .i64 1, .int .i64 2, .int .i64 1] 2)).alloc (.cells #[.int .i64 2, .int .i64 1, .int .i64 2] 2)).alloc (.cells #[.int .i64 3, .slice (some ⟨w.heap.size + 1, 0, none⟩) 3 3] 29)).alloc (.cells #[.int .i64 3, .slice (some ⟨w.heap.size + 1 + 1, 0, none⟩) 3 3] 29)
  have hR1 := (((Row.lit3 (Loc.new (b := w.heap.size + 1) (w.alloc (.cells #[.slice a n c, .slice a' n c'] 26)) (by simp) #[.int .i64 1, .int .i64 2, .int .i64 1] 2)).alloc (.cells #[.int .i64 2, .int .i64 1, .int .i64 2] 2)).alloc (.cells #[.int .i64 3, .slice (some ⟨w.heap.size + 1, 0, none⟩) 3 3] 29)).alloc (.cells #[.int .i64 3, .slice (some ⟨w.heap.size + 1 + 1, 0, none⟩) 3 3] 29)
  have hR2 := ((Row.lit3 (Loc.new (b := w.heap.size + 1 + 1) ((w.alloc (.cells #[.slice a n c, .slice a' n c'] 26)).alloc (.cells #[.int .i64 1, .int .i64 2, .int .i64 1] 2)) (by simp) #[.int .i64 2, .int .i64 1, .int .i64 2] 2)).alloc (.cells #[.int .i64 3, .slice (some ⟨w.heap.size + 1, 0, none⟩) 3 3] 29)).alloc (.cells #[.int .i64 3, .slice (some ⟨w.heap.size + 1 + 1, 0, none⟩) 3 3] 29)
  have hE1 := (Loc.new (b := w.heap.size + 1 + 1 + 1) (((w.alloc (.cells #[.slice a n c, .slice a' n c'] 26)).alloc (.cells #[.int .i64 1, .int .i64 2, .int .i64 1] 2)).alloc (.cells #[.int .i64 2, .int .i64 1, .int .i64 2] 2)) (by simp) #[.int .i64 3, .slice (some ⟨w.heap.size + 1, 0, none⟩) 3 3] 29).alloc (.cells #[.int .i64 3, .slice (some ⟨w.heap.size + 1 + 1, 0, none⟩) 3 3] 29)
  have hE2 := Loc.new (b := w.heap.size + 1 + 1 + 1 + 1) ((((w.alloc (.cells #[.slice a n c, .slice a' n c'] 26)).alloc (.cells #[.int .i64 1, .int .i64 2, .int .i64 1] 2)).alloc (.cells #[.int .i64 2, .int .i64 1, .int .i64 2] 2)).alloc (.cells #[.int .i64 3, .slice (some ⟨w.heap.size + 1, 0, none⟩) 3 3] 29)) (by simp) #[.int .i64 3, .slice (some ⟨w.heap.size + 1 + 1, 0, none⟩) 3 3] 29
  have hB := below_al (below_al (below_al (below_al (below_al (Below.refl w.heap.size w) (.cells #[.slice a n c, .slice a' n c'] 26)) (.cells #[.int .i64 1, .int .i64 2, .int .i64 1] 2)) (.cells #[.int .i64 2, .int .i64 1, .int .i64 2] 2)) (.cells #[.int .i64 3, .slice (some ⟨w.heap.size + 1, 0, none⟩) 3 3] 29)) (.cells #[.int .i64 3, .slice (some ⟨w.heap.size + 1 + 1, 0, none⟩) 3 3] 29)
  have T1 := h1.below hB; have T2 := h2.below hB; have T5 := h5.below hB
  clear h1 h2 h5
  go_enter Tryz.func67, Tryz.ntmps67
  go_wp2
  generalize ((((w.alloc (.cells #[.slice a n c, .slice a' n c'] 26)).alloc (.cells #[.int .i64 1, .int .i64 2, .int .i64 1] 2)).alloc (.cells #[.int .i64 2, .int .i64 1, .int .i64 2] 2)).alloc (.cells #[.int .i64 3, .slice (some ⟨w.heap.size + 1, 0, none⟩) 3 3] 29)).alloc (.cells #[.int .i64 3, .slice (some ⟨w.heap.size + 1 + 1, 0, none⟩) 3 3] 29) = w0 at *
  have hszA := hA.lt
  go_loopw [10] (fun i wr => ∃ k : Nat, k ≤ n ∧ i = .int .i64 k ∧ Hid (∀ M', M' < tri n k 0 0 → wtBad n f g M m (digL n 3 M') = false) ∧ Below w0.heap.size w0 wr) (fun i _ => n - (intOf i).toNat)
  case atStart => exact ⟨0, Nat.zero_le _, rfl, Lib.hid fun M' h => absurd h (by simp [tri]), Below.refl _ _⟩
  case round =>
    obtain ⟨x, hx, rfl, hx1, hW⟩ := hrel
    by_cases hlt : x < n
    · go_wp2
      go_loopw [11] (fun i wr => ∃ k : Nat, k ≤ n ∧ i = .int .i64 k ∧ Hid (∀ M', M' < tri n x k 0 → wtBad n f g M m (digL n 3 M') = false) ∧ Below w0.heap.size w0 wr) (fun i _ => n - (intOf i).toNat)
      case atStart => exact ⟨0, Nat.zero_le _, rfl, hx1, hW⟩
      case round =>
        clear hW
        obtain ⟨y, hy, rfl, hy1, hW⟩ := hrel
        by_cases hlty : y < n
        · go_wp2
          go_loopw [12] (fun i wr => ∃ k : Nat, k ≤ n ∧ i = .int .i64 k ∧ Hid (∀ M', M' < tri n x y k → wtBad n f g M m (digL n 3 M') = false) ∧ Below w0.heap.size w0 wr) (fun i _ => n - (intOf i).toNat)
          case atStart => exact ⟨0, Nat.zero_le _, rfl, hy1, hW⟩
          case round =>
            clear hW
            obtain ⟨z, hz, rfl, hz1, hW⟩ := hrel
            by_cases hltz : z < n
            · have htr := tri_three hlt hlty hltz
              have hle : Less n [(x : Int), (y : Int), (z : Int)] := Less.lit3 hlt hlty hltz
              have hbad : wtBad n f g M m (digL n 3 (tri n x y z)) = (wtF n f g M m [1, 2, 1] [(x : Int), (y : Int), (z : Int)] != wtF n f g M m [2, 1, 2] [(x : Int), (y : Int), (z : Int)]) := by rw [htr]; unfold wtBad; rw [Bool.eq_iff_iff]; simp
              have HTR := Lib.hid htr; have HBAD := Lib.hid hbad; have HLE := Lib.hid hle
              clear htr hbad hle
              go_wp2
              have hLz := Loc.new wr rfl #[.int .i64 x, .int .i64 y, .int .i64 z] 2
              have hwr := hW.size
              replace hW := below_al hW (.cells #[.int .i64 x, .int .i64 y, .int .i64 z] 2)
              have hszz := hLz.lt
              generalize hwr0 : wr.heap.size = q at *
              generalize wr.alloc (.cells #[.int .i64 x, .int .i64 y, .int .i64 z] 2) = w1 at *
              clear hwr0
              have hrow := Row.lit3 hLz
              have tok1 : True := trivial
              go_region_held3 (fun w' => ((w'.cell? ⟨w.heap.size, 0, none⟩ = some (.slice a n c) ∧ w'.cell? ⟨w.heap.size, 1, none⟩ = some (.slice a' n c')) ∧ (w'.cell? ⟨w.heap.size + 1 + 1 + 1, 0, none⟩ = some (.int .i64 3) ∧ w'.cell? ⟨w.heap.size + 1 + 1 + 1, 1, none⟩ = some (.slice (some ⟨w.heap.size + 1, 0, none⟩) 3 3))) ∧ (w'.cell? ⟨w.heap.size + 1 + 1 + 1 + 1, 0, none⟩ = some (.int .i64 3) ∧ w'.cell? ⟨w.heap.size + 1 + 1 + 1 + 1, 1, none⟩ = some (.slice (some ⟨w.heap.size + 1 + 1, 0, none⟩) 3 3)))
                (first | exact ⟨⟨(hA.below hr3 hA.lt).held2, (hE1.below hr3 hE1.lt).held2⟩, (hE2.below hr3 hE2.lt).held2⟩ | exact ⟨⟨(hA.below hr2 hA.lt).held2, (hE1.below hr2 hE1.lt).held2⟩, (hE2.below hr2 hE2.lt).held2⟩ | exact ⟨⟨(hA.below hW hA.lt).held2, (hE1.below hW hE1.lt).held2⟩, (hE2.below hW hE2.lt).held2⟩)
                (first
                  | (go_at_call 50; have _t := tok1; clear _t tok1; have tok2 : True := trivial; refine (l18Sum_any _ _ _ _ _ f g m _ _ M 3 _ _ _ [1, 2, 1] _ _ [(x : Int), (y : Int), (z : Int)] _ (T1.below (below_drewN hW 1)) (T2.below (below_drewN hW 1)) hn1 hn12 HSF.out HSG.out HC.out HMM.out HM.out (T5.below (below_drewN hW 1)) (hR1.below (below_drewN hW 1)) (by omega) (by omega) HW1.out (by omega) (by omega) (hrow.drewN 1) HLE.out).mono ?_; rintro e w2 ⟨rfl, hb2⟩; have hr2 := below_th (below_drewN hW 1) hb2; have hq2 := below_undrew hb2)
                  | (go_at_call 50; have _t := tok2; clear _t tok2; refine (l18Sum_any _ _ _ _ _ f g m _ _ M 3 _ _ _ [2, 1, 2] _ _ [(x : Int), (y : Int), (z : Int)] _ (T1.below hr2) (T2.below hr2) hn1 hn12 HSF.out HSG.out HC.out HMM.out HM.out (T5.below hr2) (hR2.below hr2) (by omega) (by omega) HW2.out (by omega) (by omega) (hrow.below hq2) HLE.out).mono ?_; rintro e w3 ⟨rfl, hb3⟩; have hr3 := below_th hr2 hb3; have hq3 := below_th hq2 hb3))
              cases hv : (wtF n f g M m [1, 2, 1] [(x : Int), (y : Int), (z : Int)] != wtF n f g M m [2, 1, 2] [(x : Int), (y : Int), (z : Int)]) with
              | true =>
                rw [hv] at HBAD
                have HL : Hid (wtFlt n f g M m = [(x : Int), (y : Int), (z : Int)]) := Lib.hid ((fltL_hit (tri_lt hlt hlty hltz) hz1.out HBAD.out).trans HTR.out)
                go_wp2
                go_ret
                exact ⟨_, _, _, rfl, by rw [HL.out]; exact Own.lit3 (hLz.below hq3 hLz.lt) (by omega), hB.trans (hr3.mono (by have := hB.size; omega))⟩
              | false =>
                rw [hv] at HBAD
                go_wp2
                go_roundw
                case rel =>
                  refine ⟨z + 1, by omega, by go_num, Lib.hid fun M' hM' => ?_, hr3⟩
                  by_cases e : M' = tri n x y z
                  · subst e; exact HBAD.out
                  · exact hz1.out M' (by unfold tri at *; omega)
                case measure => simp [intOf]; omega
            · obtain rfl : z = n := by omega
              go_wp2
              go_roundw
              case rel => exact ⟨y + 1, by omega, by go_num, Lib.hid (by rw [← tri_next_y]; exact hz1.out), hW⟩
              case measure => simp [intOf]; omega
        · obtain rfl : y = n := by omega
          go_wp2
          go_roundw
          case rel => exact ⟨x + 1, by omega, by go_num, Lib.hid (by rw [← tri_next_x]; exact hy1.out), hW⟩
          case measure => simp [intOf]; omega
    · obtain rfl : x = n := by omega
      have HL : Hid (wtFlt x f g M m = []) := Lib.hid (fltL_miss (by rw [← tri_end]; exact hx1.out))
      go_wp2
      go_ret
      exact ⟨_, _, _, rfl, by rw [HL.out]; exact Own.empty0 _ rfl (by have := hW.size; have := hB.size; omega), below_al (hB.trans (hW.mono hB.size)) _⟩
set_option maxHeartbeats 1000000 in
theorem l18Code_any (a : Option Addr) (n c : Nat) (a' : Option Addr) (n' c' : Nat) (f g : List (List Int)) (m : Int) (am : Option Addr) (nm cm : Nat) (M : List (List Int)) (w : World) (h1 : Tbl w a n f) (h2 : Tbl w a' n' g) (hm1 : n ≤ 9223372036854775807) (hm2 : n' ≤ 9223372036854775807) (h5 : Tbl w am nm M) (hnm : nm ≤ 9223372036854775807) (r : Int) (hr : (if isSol f g then (if isMx n m M then 0 else 2) else 1) = r) :
    Calls Tryz.prog 48 #[sAgg a n c a' n' c', .int .i64 m, .slice am nm cm] w fun e w' => e = .returned (.int .i64 r) ∧ Below w.heap.size w w' := by
  have hA := Loc.new w rfl #[.slice a n c, .slice a' n' c'] 26
  cases q1 : isSol f g with
  | false =>
    rw [q1] at hr
    simp only [Bool.false_eq_true, if_false] at hr
    subst hr
    have H1 := Lib.hid q1; clear q1
    go_enter Tryz.func48, Tryz.ntmps48
    go_wp2_with fail
    refine (l02Is_any _ _ _ _ _ _ _ _ _ (h1.alloc _) (h2.alloc _) hm1 hm2).mono ?_
    rintro e w1 ⟨rfl, hb1⟩
    rw [H1.out]
    go_wp2
    go_ret
    exact ⟨rfl, below_alth (Below.refl _ _) hb1⟩
  | true =>
    rw [q1] at hr
    simp only [if_true] at hr
    have H1 := Lib.hid q1; clear q1
    have HR := Lib.hid hr; clear hr
    go_enter Tryz.func48, Tryz.ntmps48
    go_wp2_with fail
    refine (l02Is_any _ _ _ _ _ _ _ _ _ (h1.alloc _) (h2.alloc _) hm1 hm2).mono ?_
    rintro e w1 ⟨rfl, hb1⟩
    rw [H1.out]
    have lA := (hA.below hb1 (by simp)).two
    go_wp2_with fail
    refine (l14Code_any n m _ _ _ M _ ((h5.alloc _).below hb1) hnm r HR.out).mono ?_
    rintro e w2 ⟨rfl, rfl⟩
    go_wp2
    go_ret
    exact ⟨rfl, below_alth (Below.refl _ _) hb1⟩
end Go.Proofs.YtpdgpgbgakinlaaGreat

namespace Go.Proofs.YtpdgpgbgakinlaaGreat
set_option maxRecDepth 100000
set_option linter.unusedVariables false
set_option linter.unusedSimpArgs false
open Go.RowKit
def cstR (n k : Nat) : List Int := (List.range n).map fun _ => (k : Int)
theorem cstR_len (n k : Nat) : (cstR n k).length = n := by simp [cstR]
theorem cstR_succ {n k j : Nat} (h : j < n) : (cstR n k).take (j + 1) = (cstR n k).take j ++ [(k : Int)] := by
  rw [List.take_succ_eq_append_getElem (by rw [cstR_len]; exact h)]; simp [cstR]
theorem cstL_succ {n k : Nat} (h : k < n) : (cstL n).take (k + 1) = (cstL n).take k ++ [cstR n k] := by
  have hl : k < (cstL n).length := by unfold cstL; rw [tabF_len]; exact h
  rw [List.take_succ_eq_append_getElem hl]
  have e := tabF_get n (fun x _ => (x : Int)) k h
  have e2 := Tbl.getD hl
  unfold cstL at *
  rw [← e2, e]; rfl
set_option maxHeartbeats 4000000 in
theorem l03Solution_any (a : Option Addr) (n c : Nat) (f : List (List Int)) (w : World) (h : Tbl w a n f) (hf : Sq n f) (hn1 : 1 ≤ n) (hn : n ≤ 12) :
    Calls Tryz.prog 65 #[rAgg a n c] w fun e w' => ∃ a1 c1 vs a1' c1' vs', e = .returned (sAgg a1 n c1 a1' n c1') ∧ OwnS w' w.heap.size a1 n c1 vs f a1' n c1' vs' (cstL n) ∧ Below w.heap.size w w' := by
  have hA := (Loc.new w rfl #[.slice a n c] 45).alloc (.cells #[.slice none 0 0, .slice none 0 0] 26)
  have hR := Loc.new (w.alloc (.cells #[.slice a n c] 45)) rfl #[.slice none 0 0, .slice none 0 0] 26
  rw [size_alloc] at hR
  have hB := below_al (below_al (Below.refl w.heap.size w) (.cells #[.slice a n c] 45)) (.cells #[.slice none 0 0, .slice none 0 0] 26)
  have hlen : ∀ x ∈ f, x.length ≤ 1000000 := fun x hx => by
    obtain ⟨i, hi, rfl⟩ := List.getElem_of_mem hx
    have := hf.row (show i < n by have := hf.len; omega)
    rw [Tbl.getD hi] at this; omega
  have HLEN := Lib.hid hlen; have HF := Lib.hid hf
  clear hlen hf
  go_enter Tryz.func65, Tryz.ntmps65
  have lA := hA.one
  go_wp2_with fail
  generalize (w.alloc (.cells #[.slice a n c] 45)).alloc (.cells #[.slice none 0 0, .slice none 0 0] 26) = w0 at *
  refine (l01Own2_any _ _ _ f _ (h.below hB) (by omega) HLEN.out).mono ?_
  rintro e w1 ⟨a1, c1, vs1, rfl, ho1, hb1⟩
  have hzr : w.heap.size + 1 < w0.heap.size := hR.lt
  have hz1 := hb1.size
  have hO := Loc.new w1 rfl #[.slice a1 n c1, .slice none 0 0] 26
  have hA1 := (hA.below hb1 hA.lt)
  have hR1 := (hR.below hb1 hR.lt)
  have hq0 : Below w1.heap.size w1 (w1.alloc (.cells #[.slice a1 n c1, .slice none 0 0] 26)) := below_al (Below.refl w1.heap.size w1) _
  have hB1 := below_th hB hb1
  have lA1 := (hA1.alloc (.cells #[.slice a1 n c1, .slice none 0 0] 26)).one
  clear hA hR hB lA hb1
  go_wp2
  clear lA1
  go_loopw [4] (fun i wr => ∃ (k : Nat) (az : Option Addr) (cz : Nat) (vz : List SV), k ≤ n ∧ i = .int .i64 k ∧ Loc wr w1.heap.size #[.slice a1 n c1, .slice az k cz] 26 ∧ OwnT wr (w1.heap.size + 1) az k cz vz ((cstL n).take k) ∧ Below w1.heap.size w1 wr) (fun i _ => n - (intOf i).toNat)
  case atStart => exact ⟨0, none, 0, [], Nat.zero_le _, rfl, hO, by simpa using OwnT.nil _ _, hq0⟩
  case round =>
    clear hO hq0
    obtain ⟨k, az, cz, vz, hk, rfl, hO, ho, hq⟩ := hrel
    have hAr := hA1.below hq hA1.lt
    have lA := hAr.one
    have hOlt := hO.lt
    by_cases hlt : k < n
    · have lA2 := (hAr.alloc (.cells #[] 2)).one
      have hE := Own.empty0 wr (lo := wr.heap.size) rfl (Nat.le_refl _)
      have hqe := below_al (Below.refl wr.heap.size wr) (.cells #[] 2)
      go_wp2
      clear lA lA2
      go_loopw [5, 6] (fun z i wq => ∃ (j : Nat) (ar : Option Addr) (cr : Nat), j ≤ n ∧ i = .int .i64 j ∧ z = .slice ar j cr ∧ Own wq wr.heap.size ar j cr ((cstR n k).take j) ∧ Below wr.heap.size wr wq) (fun _ i _ => n - (intOf i).toNat)
      case atStart => exact ⟨0, _, 0, Nat.zero_le _, rfl, rfl, by simpa using hE, hqe⟩
      case round =>
        clear hE hqe
        obtain ⟨j, ar, cr, hj, rfl, rfl, hor, hqr⟩ := hrel
        have hAq := hAr.below hqr hAr.lt
        have lA := hAq.one
        by_cases hjt : j < n
        · have HS := Lib.hid (cstR_succ (k := k) hjt)
          have hwq := hqr.size
          go_wp2_with (at_builtin; refine app1 rfl rfl hor rfl rfl (by omega) hwq ?_; intro g' cc w8 hOw hg8 hs8 hb8)
          go_roundw
          case rel => exact ⟨j + 1, _, _, by omega, by go_num, rfl, by rw [HS.out]; exact hOw, hqr.trans hb8⟩
          case measure => simp [intOf]; omega
        · obtain rfl : j = n := by omega
          rw [List.take_of_length_le (by rw [cstR_len]; exact Nat.le_refl _)] at hor
          have hO3 := hO.below hqr hO.lt
          have lO := hO3.two
          have lO' := (hO3.alloc (.cells #[.slice ar j cr] 27)).two
          have ho3 := ho.below hqr
          have HS := Lib.hid (cstL_succ hlt)
          have hwq := hqr.size
          go_wp2_with (at_builtin; refine appT1 rfl rfl ho3 rfl (hor.mono (by omega)) (fun g h1 h2 => by have h3 := ho.high _ h1; have h4 := hor.lo _ h2; omega) (fun i hi g h1 h2 => by have h3 := hor.lo _ h1; have h4 := (ho.row i hi).hi _ h2; omega) rfl (by omega) (by omega) ?_; intro g' cc w9 hOT hb9; have hO9 := hO3.below hb9 (by omega); have lO9 := hO9.two)
          have hset := hO9.set 1 (.slice (some ⟨g', 0, none⟩) (k + 1) cc)
          go_roundw
          case rel => exact ⟨k + 1, _, _, _, by omega, by go_num, hset, by rw [HS.out]; exact hOT.setlo (by show w1.heap.size < _; omega) _, below_setne ((hq.trans (hqr.mono (by omega))).trans (hb9.mono (by omega))) (by show _ ≤ w1.heap.size; omega) _⟩
          case measure => simp [intOf]; omega
    · obtain rfl : k = n := by omega
      rw [List.take_of_length_le (by unfold cstL; rw [tabF_len]; exact Nat.le_refl _)] at ho
      have lO := hO.two
      have hRr := hR1.below hq hR1.lt
      have lR := hRr.two
      have hT1 := ho1.below hq
      have hap : ∀ g, TblS a1 k vs1 g → ¬ TblS az k vz g := fun g h1 h2 => by have e1 := ho1.uHi g h1; have e2 := ho.uLo g h2; omega
      go_wp2
      refine bodyPost_ret (v := sAgg a1 k c1 az k cz) (by simp [results, Tryz.results65, go_sem, lR, lO]) rfl ⟨a1, c1, vs1, az, cz, vz, rfl, ⟨?_, ?_, hap⟩, ?_⟩
      · exact ((hT1.setlo (by show w.heap.size + 1 < w0.heap.size; omega) _).setlo (by show w.heap.size + 1 < w0.heap.size; omega) _).mono (by omega)
      · exact ((ho.setlo (by show w.heap.size + 1 < w1.heap.size + 1; omega) _).setlo (by show w.heap.size + 1 < w1.heap.size + 1; omega) _).mono (by omega)
      · exact below_setne (below_setne (hB1.trans (hq.mono hB1.size)) (by show w.heap.size ≤ w.heap.size + 1; omega) _) (by show w.heap.size ≤ w.heap.size + 1; omega) _
set_option maxHeartbeats 4000000 in
theorem l18Quandle_any (a : Option Addr) (n c : Nat) (t : List (List Int)) (m : Int) (am : Option Addr) (cm : Nat) (M : List (List Int)) (w : World) (h : Tbl w a n t) (hrk : isRk t = true) (hmm : 1 ≤ m ∧ m ≤ 12) (hM : SqM n m.toNat M) (h5 : Tbl w am n M) :
    Calls Tryz.prog 74 #[rAgg a n c, .int .i64 m, .slice am n cm] w fun e w' => e = .returned (.bool (qwOk t m M)) ∧ Below w.heap.size w w' := by
  obtain ⟨hn1, hn12, hf⟩ := isTab_sq (isRk_parts hrk).1
  have hsol := rk_isSol hrk
  have htl := h.len
  have hqw : qwOk t m M = (diaOk n M && (qndOk n t && decide (wtFlt n t (cstL n) M m = []))) := by unfold qwOk; rw [← htl]
  rw [← htl] at hn1 hn12 hf hsol
  have HF := Lib.hid hf; have HSOL := Lib.hid hsol; have HQ := Lib.hid hqw; have HM := Lib.hid hM
  clear hf hsol hqw htl hrk hM
  obtain ⟨bM, oM, AM, OM, CM, rfl, gM⟩ := h5.gridM HM.out (by omega)
  have hA := Loc.new w rfl #[.slice a n c] 45
  have hB := below_al (Below.refl w.heap.size w) (.cells #[.slice a n c] 45)
  go_enter Tryz.func74, Tryz.ntmps74
  go_wp2
  generalize w.alloc (.cells #[.slice a n c] 45) = w0 at *
  go_loop [7] (fun i => ∃ k : Nat, k ≤ n ∧ i = .int .i64 k ∧ Hid (∀ j, j < k → tv M j j = 0)) (fun i => n - (intOf i).toNat)
  case atStart => exact ⟨0, Nat.zero_le _, rfl, Lib.hid fun j hj => absurd hj (by omega)⟩
  case round =>
    obtain ⟨k, hk, rfl, hI⟩ := hrel
    by_cases hlt : k < n
    · obtain ⟨r1, k1⟩ := (gM.below hB).look hlt hlt
      have HD : Hid (∀ V, tv M k k = V → (V ≠ 0 → diaOk n M = false)) := Lib.hid fun V hV h0 => allN_no hlt (decide_eq_false (by rw [hV]; exact h0))
      generalize hV : tv M k k = V at *
      have HV := Lib.hid hV
      clear hV
      by_cases h0 : V = 0
      · subst h0
        have hb : ((((0 : Nat) : Int)) != 0) = false := by simp
        go_wp2
        go_round
        case rel =>
          refine ⟨k + 1, by omega, by go_num, Lib.hid fun j hj => ?_⟩
          by_cases e : j = k
          · subst e; exact HV.out
          · exact hI.out j (by omega)
        case measure => simp [intOf]; omega
      · have hb : (((V : Nat) : Int) != 0) = true := by simp; omega
        have HDF := Lib.hid (HD.out V rfl h0)
        go_wp2
        go_ret
        exact ⟨ret_bool (by rw [HQ.out, HDF.out]; rfl), hB⟩
    · obtain rfl : k = n := by omega
      have HDT : Hid (diaOk k M = true) := Lib.hid (allN_mk fun x hx => decide_eq_true (hI.out x hx))
      have lA := hA.one
      clear hI
      go_wp2_with fail
      refine (l03Quandle_any _ _ _ t _ (h.below hB) HF.out hn1 hn12).mono ?_
      rintro e w1 ⟨rfl, hb1⟩
      have hB1 := below_th hB hb1
      have hA1 := hA.below hb1 hA.lt
      have lA1 := hA1.one
      cases hq : qndOk k t with
      | false =>
        have HQN := Lib.hid hq
        clear hq
        go_wp2
        go_ret
        exact ⟨ret_bool (by rw [HQ.out, HDT.out, HQN.out]; rfl), hB1⟩
      | true =>
        have HQN := Lib.hid hq
        clear hq
        go_wp2_with fail
        refine (l03Solution_any _ _ _ t _ (h.below hB1) HF.out hn1 hn12).mono ?_
        rintro e w3 ⟨a3, c3, vs3, a3', c3', vs3', rfl, ho3, hb3⟩
        have hB3 := below_th hB1 hb3
        go_wp2_with fail
        refine (l18Fault_any _ _ _ _ _ t (cstL k) m _ _ M _ ho3.f.tbl ho3.s.tbl HSOL.out hmm HM.out (h5.below hB3)).mono ?_
        rintro e w4 ⟨af, kf, cf, rfl, hof, hb4⟩
        have hB4 := below_th hB3 hb4
        have hkl := hof.len
        by_cases hk0 : kf = 0
        · have HL : Hid (decide (wtFlt k t (cstL k) M m = []) = true) := Lib.hid (decide_eq_true (List.eq_nil_of_length_eq_zero (by omega)))
          subst hk0
          clear hkl hof
          go_wp2
          go_ret
          exact ⟨ret_bool (by rw [HQ.out, HDT.out, HQN.out, HL.out]; rfl), hB4⟩
        · have HL : Hid (decide (wtFlt k t (cstL k) M m = []) = false) := Lib.hid (decide_eq_false (fun h => by rw [h] at hkl; exact hk0 hkl))
          have hb0 : ((kf : Int) == 0) = false := by simp; omega
          clear hkl hof hk0
          go_wp2
          go_ret
          exact ⟨ret_bool (by rw [HQ.out, HDT.out, HQN.out, HL.out]; rfl), hB4⟩
set_option maxHeartbeats 2000000 in
theorem spec_Iq_l (a : Option Addr) (n c : Nat) (t : List (List Int)) (m : Int) (am : Option Addr) (nm cm : Nat) (M : List (List Int)) (w : World) (h : Tbl w a n t) (hn : n ≤ 9223372036854775807) (hi : I64 m) (h5 : Tbl w am nm M) (hnm : nm ≤ 9223372036854775807) :
    Calls Tryz.prog 30 #[rAgg a n c, .int .i64 m, .slice am nm cm] w (RetO w (iqF t m M).1 (iqF t m M).2) := by
  have hA := Loc.new w rfl #[.slice a n c] 45
  have hB := below_al (Below.refl w.heap.size w) (.cells #[.slice a n c] 45)
  have HFL := Lib.hid h.len
  go_enter Tryz.func30, Tryz.ntmps30
  go_wp2_with fail
  generalize w.alloc (.cells #[.slice a n c] 45) = w0 at *
  have lA := hA.one
  refine (l03Is_any _ _ _ t _ (h.below hB) hn).mono ?_
  rintro e w1 ⟨rfl, hb1⟩
  replace hB := below_th hB hb1; replace hA := hA.below hb1 hA.lt; replace lA := hA.one
  cases q0 : isRk t with
  | false =>
    have HQ : Hid (iqF t m M = (false, 1)) := Lib.hid (iqF_0 q0)
    clear q0
    go_wp2
    go_ret2
    exact ⟨by rw [HQ.out]; rfl, hB⟩
  | true =>
  have HR := Lib.hid q0
  clear q0
  cases q1 : isMx n m M with
  | false =>
    have HQ : Hid (iqF t m M = (false, 2)) := Lib.hid (iqF_1 HR.out (by rw [← HFL.out]; exact q1))
    have HK : Hid ((if isMx n m M then 0 else 2) = (2 : Int)) := Lib.hid (by rw [q1]; rfl)
    clear q1
    go_wp2_with fail
    refine (l14Code_any _ _ _ _ _ M _ (h5.below hB) hnm _ HK.out).mono ?_
    rintro e w2 ⟨rfl, rfl⟩
    go_wp2
    go_ret2
    exact ⟨by rw [HQ.out]; rfl, hB⟩
  | true =>
  have HK : Hid ((if isMx n m M then 0 else 2) = (0 : Int)) := Lib.hid (by rw [q1]; rfl)
  go_wp2_with fail
  refine (l14Code_any _ _ _ _ _ M _ (h5.below hB) hnm _ HK.out).mono ?_
  rintro e w2 ⟨rfl, rfl⟩
  have HQ : Hid (iqF t m M = (qwOk t m M, 0)) := Lib.hid (iqF_2 HR.out (by rw [← HFL.out]; exact q1))
  obtain ⟨hmm, hM⟩ := isMx_sq q1
  clear q1
  obtain rfl : nm = n := by rw [h5.len]; exact hM.1
  have HMM := Lib.hid hmm; have HM := Lib.hid hM
  clear hmm hM
  go_wp2_with fail
  refine (l18Quandle_any _ _ _ t m _ _ M _ (h.below hB) HR.out HMM.out HM.out (h5.below hB)).mono ?_
  rintro e w3 ⟨rfl, hb3⟩
  go_wp2
  go_ret2
  exact ⟨by rw [HQ.out]; rfl, below_th hB hb3⟩
end Go.Proofs.YtpdgpgbgakinlaaGreat

namespace Go.Proofs.YtpdgpgbgakinlaaGreat
set_option linter.unusedVariables false
set_option linter.unusedSimpArgs false
theorem actL_app (n : Nat) (f g : List (List Int)) (xs ys l : List Int) : actL n f g (xs ++ ys) l = actL n f g ys (actL n f g xs l) := by unfold actL; rw [List.foldl_append]
theorem doF_get {f g : List (List Int)} {i : Nat} {l : List Int} {x y : Nat} (hx : l.getD i 0 = (x : Int)) (hy : l.getD (i + 1) 0 = (y : Int)) (k : Nat) (hk : k < l.length) : (doF f g i l).getD k 0 = if k = i + 1 then ((tv g x y : Nat) : Int) else if k = i then ((tv f x y : Nat) : Int) else l.getD k 0 := by
  unfold doF
  rw [hx, hy, Int.toNat_natCast, Int.toNat_natCast, getD_set' _ _ _ _ _ (by rw [List.length_set]; exact hk)]
  split
  · rfl
  · rw [getD_set' _ _ _ _ _ hk]
theorem doF_back {n : Nat} {f g f' g' : List (List Int)} (hb : ∀ x y, x < n → y < n → tv f' (tv f x y) (tv g x y) = x ∧ tv g' (tv f x y) (tv g x y) = y) {i : Nat} {l : List Int} (hi : i + 1 < l.length) (h : Less n l) : doF f' g' i (doF f g i l) = l := by
  obtain ⟨x, hx, ex⟩ := h i (by omega)
  obtain ⟨y, hy, ey⟩ := h (i + 1) hi
  obtain ⟨h1, h2⟩ := hb x y hx hy
  have e1 : (doF f g i l).getD i 0 = ((tv f x y : Nat) : Int) := by rw [doF_get ex ey i (by omega), if_neg (by omega), if_pos rfl]
  have e2 : (doF f g i l).getD (i + 1) 0 = ((tv g x y : Nat) : Int) := by rw [doF_get ex ey (i + 1) hi, if_pos rfl]
  refine list_ext0 (by rw [doF_len, doF_len]) fun k hk => ?_
  have hk' : k < l.length := by rw [doF_len, doF_len] at hk; exact hk
  rw [doF_get e1 e2 k (by rw [doF_len]; exact hk'), h1, h2]
  split
  · rename_i e; rw [e, ey]
  · split
    · rename_i e; rw [e, ex]
    · rw [doF_get ex ey k hk']; rename_i n1 n2; rw [if_neg n1, if_neg n2]
theorem plc_neg {x : Int} (h : x ≠ 0) : plc (-x) = plc x := by
  unfold plc
  by_cases q : x < 0
  · rw [if_pos q, if_neg (by omega)]
  · rw [if_neg q, if_pos (by omega)]; omega
theorem step_back {n : Nat} {f g : List (List Int)} (hn : 1 ≤ n) (hf : Sq n f) (hg : Sq n g) (hc : collOk n f g = true) {x : Int} {l : List Int} (hx : x ≠ 0) (hi : (plc x).toNat + 1 < l.length) (h : Less n l) : stepL n f g (-x) (stepL n f g x l) = l := by
  have h1 : ∀ x y, x < n → y < n → tv (bfT n f g) (tv f x y) (tv g x y) = x ∧ tv (bgT n f g) (tv f x y) (tv g x y) = y := fun x y hx hy =>
    ⟨bf_tv hn hc hx hy (hf.lt hx hy) (hg.lt hx hy) rfl rfl, bg_tv hn hc hx hy (hf.lt hx hy) (hg.lt hx hy) rfl rfl⟩
  have h2 : ∀ u v, u < n → v < n → tv f (tv (bfT n f g) u v) (tv (bgT n f g) u v) = u ∧ tv g (tv (bfT n f g) u v) (tv (bgT n f g) u v) = v := fun u v hu hv => by
    obtain ⟨x, y, hx, hy, e1, e2⟩ := pr_ex hn hf hg hc hu hv
    rw [bf_tv hn hc hx hy hu hv e1 e2, bg_tv hn hc hx hy hu hv e1 e2]
    exact ⟨e1, e2⟩
  unfold stepL
  rw [plc_neg hx]
  by_cases q : 0 < x
  · rw [if_pos q, if_neg (by omega)]
    exact doF_back h1 hi h
  · rw [if_neg q, if_pos (by omega)]
    exact doF_back h2 hi h
theorem digL_num {n s : Nat} (hn : 1 ≤ n) {l : List Int} (hl : l.length = s) (h : Less n l) : digL n s (numL n l) = l := by
  have h1 := numL_lt hn h
  rw [hl] at h1
  exact (num_inj hn (digL n s (numL n l)) l 0 0 (by rw [digL_len, hl]) (digL_less n s _ hn).mem h.mem (numL_dig s _ h1)).2
end Go.Proofs.YtpdgpgbgakinlaaGreat
