/-
  Whether a matrix is a weight: what the reference's functions compute.
  No condition but bounds.
-/
import Derived.Test.YtfmcaflefiapoaaWtS
import Derived.Test.YtfmcaflefiapoaaWtFI
import Derived.Test.YtfmcaflefiapoaaMatrixS
namespace Go.Proofs.Ytfmcaflefiapoaa
set_option maxRecDepth 100000
set_option linter.unusedVariables false
set_option linter.unusedSimpArgs false
open Go.RowKit

/-- a new list -/
def NewR (L : List Int) (W : World) (e : Ending) (w' : World) : Prop := ∃ a k c, e = .returned (.slice a k c) ∧ Own w' W.heap.size a k c L ∧ Below W.heap.size W w'
theorem Own.lit3 {w : World} {b lo : Nat} {x y z : Int} (h : Loc w b #[.int .i64 x, .int .i64 y, .int .i64 z] 2) (hlo : lo ≤ b) : Own w lo (some ⟨b, 0, none⟩) 3 3 [x, y, z] := Own.mk rfl hlo h (Nat.le_refl _) (by unfold maxLen; omega) rfl rfl
theorem Own.empty0 (w : World) {b lo : Nat} (hb : b = w.heap.size) (hlo : lo ≤ b) : Own (w.alloc (.cells #[] 2)) lo (some ⟨b, 0, none⟩) 0 0 [] := Own.mk rfl hlo (Loc.new w hb _ _) (Nat.le_refl _) (by unfold maxLen; omega) rfl rfl
theorem Loc.held2 {w : World} {b : Nat} {x y : Value} {t : TypeId} (h : Loc w b #[x, y] t) : w.cell? ⟨b, 0, none⟩ = some x ∧ w.cell? ⟨b, 1, none⟩ = some y := ⟨h.cell 0 rfl, h.cell 1 rfl⟩

theorem tri_next_y (n x y : Nat) : tri n x y n = tri n x (y + 1) 0 := by unfold tri; rw [Nat.add_zero, ← Nat.add_assoc, Nat.add_mul (x * n + y) 1 n, Nat.one_mul]
theorem tri_next_x (n x : Nat) : tri n x n 0 = tri n (x + 1) 0 0 := by unfold tri; rw [Nat.add_mul x 1 n, Nat.one_mul]; simp
theorem tri_end (n : Nat) : tri n n 0 0 = n * n * n := by unfold tri; simp

set_option maxHeartbeats 8000000 in
theorem l18Fault_any (a : Option Addr) (n c : Nat) (a' : Option Addr) (c' : Nat) (f g : List (List Int)) (m : Int) (am : Option Addr) (cm : Nat) (M : List (List Int)) (w : World) (h1 : Tbl w a n f) (h2 : Tbl w a' n g) (hs : isSol f g = true) (hmm : 1 ≤ m ∧ m ≤ 12) (hM : SqM n m.toNat M) (h5 : Tbl w am n M) :
    Calls Try.prog 62 #[sAgg a n c a' n c', .int .i64 m, .slice am n cm] w (NewR (wtFlt n f g M m) w) := by
  obtain ⟨hn1, hn12, sf, sg⟩ := isSol_sq hs
  have hcc := isSol_coll hs
  have hfl := h1.len
  rw [← hfl] at hn1 hn12 sf sg hcc
  have HSF := Lib.hid sf; have HSG := Lib.hid sg; have HC := Lib.hid hcc; have HM := Lib.hid hM; have HMM := Lib.hid hmm
  have HW1 : Hid (IsWd 3 [1, 2, 1]) := Lib.hid (wd3 (by omega) (by omega) (by omega))
  have HW2 : Hid (IsWd 3 [2, 1, 2]) := Lib.hid (wd3 (by omega) (by omega) (by omega))
  clear hs sf sg hcc hfl hM hmm
  have hA := ((((Loc.new w rfl #[.slice a n c, .slice a' n c'] 33).alloc (.cells #[.int .i64 1, .int .i64 2, .int .i64 1] 2)).alloc (.cells #[.int .i64 2, .int .i64 1, .int .i64 2] 2)).alloc (.cells #[.int .i64 3, .slice (some ⟨w.heap.size + 1, 0, none⟩) 3 3] 36)).alloc (.cells #[.int .i64 3, .slice (some ⟨w.heap.size + 1 + 1, 0, none⟩) 3 3] 36)
  have hR1 := (((Row.lit3 (Loc.new (b := w.heap.size + 1) (w.alloc (.cells #[.slice a n c, .slice a' n c'] 33)) (by simp) #[.int .i64 1, .int .i64 2, .int .i64 1] 2)).alloc (.cells #[.int .i64 2, .int .i64 1, .int .i64 2] 2)).alloc (.cells #[.int .i64 3, .slice (some ⟨w.heap.size + 1, 0, none⟩) 3 3] 36)).alloc (.cells #[.int .i64 3, .slice (some ⟨w.heap.size + 1 + 1, 0, none⟩) 3 3] 36)
  have hR2 := ((Row.lit3 (Loc.new (b := w.heap.size + 1 + 1) ((w.alloc (.cells #[.slice a n c, .slice a' n c'] 33)).alloc (.cells #[.int .i64 1, .int .i64 2, .int .i64 1] 2)) (by simp) #[.int .i64 2, .int .i64 1, .int .i64 2] 2)).alloc (.cells #[.int .i64 3, .slice (some ⟨w.heap.size + 1, 0, none⟩) 3 3] 36)).alloc (.cells #[.int .i64 3, .slice (some ⟨w.heap.size + 1 + 1, 0, none⟩) 3 3] 36)
  have hE1 := (Loc.new (b := w.heap.size + 1 + 1 + 1) (((w.alloc (.cells #[.slice a n c, .slice a' n c'] 33)).alloc (.cells #[.int .i64 1, .int .i64 2, .int .i64 1] 2)).alloc (.cells #[.int .i64 2, .int .i64 1, .int .i64 2] 2)) (by simp) #[.int .i64 3, .slice (some ⟨w.heap.size + 1, 0, none⟩) 3 3] 36).alloc (.cells #[.int .i64 3, .slice (some ⟨w.heap.size + 1 + 1, 0, none⟩) 3 3] 36)
  have hE2 := Loc.new (b := w.heap.size + 1 + 1 + 1 + 1) ((((w.alloc (.cells #[.slice a n c, .slice a' n c'] 33)).alloc (.cells #[.int .i64 1, .int .i64 2, .int .i64 1] 2)).alloc (.cells #[.int .i64 2, .int .i64 1, .int .i64 2] 2)).alloc (.cells #[.int .i64 3, .slice (some ⟨w.heap.size + 1, 0, none⟩) 3 3] 36)) (by simp) #[.int .i64 3, .slice (some ⟨w.heap.size + 1 + 1, 0, none⟩) 3 3] 36
  have hB := below_al (below_al (below_al (below_al (below_al (Below.refl w.heap.size w) (.cells #[.slice a n c, .slice a' n c'] 33)) (.cells #[.int .i64 1, .int .i64 2, .int .i64 1] 2)) (.cells #[.int .i64 2, .int .i64 1, .int .i64 2] 2)) (.cells #[.int .i64 3, .slice (some ⟨w.heap.size + 1, 0, none⟩) 3 3] 36)) (.cells #[.int .i64 3, .slice (some ⟨w.heap.size + 1 + 1, 0, none⟩) 3 3] 36)
  have T1 := h1.below hB; have T2 := h2.below hB; have T5 := h5.below hB
  clear h1 h2 h5
  go_enter Try.func62, Try.ntmps62
  go_wp2
  generalize ((((w.alloc (.cells #[.slice a n c, .slice a' n c'] 33)).alloc (.cells #[.int .i64 1, .int .i64 2, .int .i64 1] 2)).alloc (.cells #[.int .i64 2, .int .i64 1, .int .i64 2] 2)).alloc (.cells #[.int .i64 3, .slice (some ⟨w.heap.size + 1, 0, none⟩) 3 3] 36)).alloc (.cells #[.int .i64 3, .slice (some ⟨w.heap.size + 1 + 1, 0, none⟩) 3 3] 36) = w0 at *
  have hszA := hA.lt
  go_loopw [10] (fun i wr => ∃ k : Nat, k ≤ n ∧ i = .int .i64 k ∧ Hid (∀ M', M' < tri n k 0 0 → wtBad n f g M m (digL n 3 M') = false) ∧ Below w0.heap.size w0 wr) (fun i _ => n - (intOf i).toNat)
  case atStart => exact ⟨0, Nat.zero_le _, rfl, Lib.hid fun M' h => absurd h (by simp [tri]), Below.refl _ _⟩
  case round =>
    obtain ⟨x, hx, rfl, hx1, hW⟩ := hrel
    by_cases hlt : x < n
    · go_wp2
      go_loopw [11] (fun i wr => ∃ k : Nat, k ≤ n ∧ i = .int .i64 k ∧ Hid (∀ M', M' < tri n x k 0 → wtBad n f g M m (digL n 3 M') = false) ∧ Below w0.heap.size w0 wr) (fun i _ => n - (intOf i).toNat)
      case atStart => exact ⟨0, Nat.zero_le _, rfl, hx1, hW⟩
      case round =>
        clear hW
        obtain ⟨y, hy, rfl, hy1, hW⟩ := hrel
        by_cases hlty : y < n
        · go_wp2
          go_loopw [12] (fun i wr => ∃ k : Nat, k ≤ n ∧ i = .int .i64 k ∧ Hid (∀ M', M' < tri n x y k → wtBad n f g M m (digL n 3 M') = false) ∧ Below w0.heap.size w0 wr) (fun i _ => n - (intOf i).toNat)
          case atStart => exact ⟨0, Nat.zero_le _, rfl, hy1, hW⟩
          case round =>
            clear hW
            obtain ⟨z, hz, rfl, hz1, hW⟩ := hrel
            by_cases hltz : z < n
            · have htr := tri_three hlt hlty hltz
              have hle : Less n [(x : Int), (y : Int), (z : Int)] := Less.lit3 hlt hlty hltz
              have hbad : wtBad n f g M m (digL n 3 (tri n x y z)) = (wtF n f g M m [1, 2, 1] [(x : Int), (y : Int), (z : Int)] != wtF n f g M m [2, 1, 2] [(x : Int), (y : Int), (z : Int)]) := by rw [htr]; unfold wtBad; rw [Bool.eq_iff_iff]; simp
              have HTR := Lib.hid htr; have HBAD := Lib.hid hbad; have HLE := Lib.hid hle
              clear htr hbad hle
              go_wp2
              have hLz := Loc.new wr rfl #[.int .i64 x, .int .i64 y, .int .i64 z] 2
              have hwr := hW.size
              replace hW := below_al hW (.cells #[.int .i64 x, .int .i64 y, .int .i64 z] 2)
              have hszz := hLz.lt
              generalize hwr0 : wr.heap.size = q at *
              generalize wr.alloc (.cells #[.int .i64 x, .int .i64 y, .int .i64 z] 2) = w1 at *
              clear hwr0
              have hrow := Row.lit3 hLz
              have tok1 : True := trivial
              go_region_held3 (fun w' => ((w'.cell? ⟨w.heap.size, 0, none⟩ = some (.slice a n c) ∧ w'.cell? ⟨w.heap.size, 1, none⟩ = some (.slice a' n c')) ∧ (w'.cell? ⟨w.heap.size + 1 + 1 + 1, 0, none⟩ = some (.int .i64 3) ∧ w'.cell? ⟨w.heap.size + 1 + 1 + 1, 1, none⟩ = some (.slice (some ⟨w.heap.size + 1, 0, none⟩) 3 3))) ∧ (w'.cell? ⟨w.heap.size + 1 + 1 + 1 + 1, 0, none⟩ = some (.int .i64 3) ∧ w'.cell? ⟨w.heap.size + 1 + 1 + 1 + 1, 1, none⟩ = some (.slice (some ⟨w.heap.size + 1 + 1, 0, none⟩) 3 3)))
                (first | exact ⟨⟨(hA.below hr3 hA.lt).held2, (hE1.below hr3 hE1.lt).held2⟩, (hE2.below hr3 hE2.lt).held2⟩ | exact ⟨⟨(hA.below hr2 hA.lt).held2, (hE1.below hr2 hE1.lt).held2⟩, (hE2.below hr2 hE2.lt).held2⟩ | exact ⟨⟨(hA.below hW hA.lt).held2, (hE1.below hW hE1.lt).held2⟩, (hE2.below hW hE2.lt).held2⟩)
                (first
                  | (go_at_call 55; have _t := tok1; clear _t tok1; have tok2 : True := trivial; refine (l18Sum_any _ _ _ _ _ f g m _ _ M 3 _ _ _ [1, 2, 1] _ _ [(x : Int), (y : Int), (z : Int)] _ (T1.below (below_drewN hW 1)) (T2.below (below_drewN hW 1)) hn1 hn12 HSF.out HSG.out HC.out HMM.out HM.out (T5.below (below_drewN hW 1)) (hR1.below (below_drewN hW 1)) (by omega) (by omega) HW1.out (by omega) (by omega) (hrow.drewN 1) HLE.out).mono ?_; rintro e w2 ⟨rfl, hb2⟩; have hr2 := below_th (below_drewN hW 1) hb2; have hq2 := below_undrew hb2)
                  | (go_at_call 55; have _t := tok2; clear _t tok2; refine (l18Sum_any _ _ _ _ _ f g m _ _ M 3 _ _ _ [2, 1, 2] _ _ [(x : Int), (y : Int), (z : Int)] _ (T1.below hr2) (T2.below hr2) hn1 hn12 HSF.out HSG.out HC.out HMM.out HM.out (T5.below hr2) (hR2.below hr2) (by omega) (by omega) HW2.out (by omega) (by omega) (hrow.below hq2) HLE.out).mono ?_; rintro e w3 ⟨rfl, hb3⟩; have hr3 := below_th hr2 hb3; have hq3 := below_th hq2 hb3))
              cases hv : (wtF n f g M m [1, 2, 1] [(x : Int), (y : Int), (z : Int)] != wtF n f g M m [2, 1, 2] [(x : Int), (y : Int), (z : Int)]) with
              | true =>
                rw [hv] at HBAD
                have HL : Hid (wtFlt n f g M m = [(x : Int), (y : Int), (z : Int)]) := Lib.hid ((fltL_hit (tri_lt hlt hlty hltz) hz1.out HBAD.out).trans HTR.out)
                go_wp2
                go_ret
                exact ⟨_, _, _, rfl, by rw [HL.out]; exact Own.lit3 (hLz.below hq3 hLz.lt) (by omega), hB.trans (hr3.mono (by have := hB.size; omega))⟩
              | false =>
                rw [hv] at HBAD
                go_wp2
                go_roundw
                case rel =>
                  refine ⟨z + 1, by omega, by go_num, Lib.hid fun M' hM' => ?_, hr3⟩
                  by_cases e : M' = tri n x y z
                  · subst e; exact HBAD.out
                  · exact hz1.out M' (by unfold tri at *; omega)
                case measure => simp [intOf]; omega
            · obtain rfl : z = n := by omega
              go_wp2
              go_roundw
              case rel => exact ⟨y + 1, by omega, by go_num, Lib.hid (by rw [← tri_next_y]; exact hz1.out), hW⟩
              case measure => simp [intOf]; omega
        · obtain rfl : y = n := by omega
          go_wp2
          go_roundw
          case rel => exact ⟨x + 1, by omega, by go_num, Lib.hid (by rw [← tri_next_x]; exact hy1.out), hW⟩
          case measure => simp [intOf]; omega
    · obtain rfl : x = n := by omega
      have HL : Hid (wtFlt x f g M m = []) := Lib.hid (fltL_miss (by rw [← tri_end]; exact hx1.out))
      go_wp2
      go_ret
      exact ⟨_, _, _, rfl, by rw [HL.out]; exact Own.empty0 _ rfl (by have := hW.size; have := hB.size; omega), below_al (hB.trans (hW.mono hB.size)) _⟩

set_option maxHeartbeats 1000000 in
theorem l18Code_any (a : Option Addr) (n c : Nat) (a' : Option Addr) (n' c' : Nat) (f g : List (List Int)) (m : Int) (am : Option Addr) (nm cm : Nat) (M : List (List Int)) (w : World) (h1 : Tbl w a n f) (h2 : Tbl w a' n' g) (hm1 : n ≤ 9223372036854775807) (hm2 : n' ≤ 9223372036854775807) (h5 : Tbl w am nm M) (hnm : nm ≤ 9223372036854775807) (r : Int) (hr : (if isSol f g then (if isMx n m M then 0 else 2) else 1) = r) :
    Calls Try.prog 53 #[sAgg a n c a' n' c', .int .i64 m, .slice am nm cm] w fun e w' => e = .returned (.int .i64 r) ∧ Below w.heap.size w w' := by
  have hA := Loc.new w rfl #[.slice a n c, .slice a' n' c'] 33
  cases q1 : isSol f g with
  | false =>
    rw [q1] at hr
    simp only [Bool.false_eq_true, if_false] at hr
    subst hr
    have H1 := Lib.hid q1; clear q1
    go_enter Try.func53, Try.ntmps53
    go_wp2_with fail
    refine (l02Is_any _ _ _ _ _ _ _ _ _ (h1.alloc _) (h2.alloc _) hm1 hm2).mono ?_
    rintro e w1 ⟨rfl, hb1⟩
    rw [H1.out]
    go_wp2
    go_ret
    exact ⟨rfl, below_alth (Below.refl _ _) hb1⟩
  | true =>
    rw [q1] at hr
    simp only [if_true] at hr
    have H1 := Lib.hid q1; clear q1
    have HR := Lib.hid hr; clear hr
    go_enter Try.func53, Try.ntmps53
    go_wp2_with fail
    refine (l02Is_any _ _ _ _ _ _ _ _ _ (h1.alloc _) (h2.alloc _) hm1 hm2).mono ?_
    rintro e w1 ⟨rfl, hb1⟩
    rw [H1.out]
    have lA := (hA.below hb1 (by simp)).two
    go_wp2_with fail
    refine (l14Code_any n m _ _ _ M _ ((h5.alloc _).below hb1) hnm r HR.out).mono ?_
    rintro e w2 ⟨rfl, rfl⟩
    go_wp2
    go_ret
    exact ⟨rfl, below_alth (Below.refl _ _) hb1⟩

end Go.Proofs.Ytfmcaflefiapoaa
