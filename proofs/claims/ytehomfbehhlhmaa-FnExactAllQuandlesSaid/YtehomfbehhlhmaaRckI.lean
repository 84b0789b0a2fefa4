/-
  The program's check of the first rows of a rack.
  No condition but bounds.
-/
import Derived.Test.YtehomfbehhlhmaaThen
import Derived.Test.YtehomfbehhlhmaaBPerm
import Derived.Test.YtehomfbehhlhmaaSprL
import Derived.Test.YtehomfbehhlhmaaBase
namespace Go.Proofs.Ytehomfbehhlhmaa
set_option maxRecDepth 100000
set_option linter.unusedVariables false
set_option linter.unusedSimpArgs false
open Go.RowKit

/-- two rows of the first ones do not contradict a rack -/
def chkP (rows : List (List Int)) (x y : Nat) : Bool :=
  (fun z : Nat => decide (rows.length ≤ z) || decide (thL (rows.getD x []) (rows.getD z []) = thL (rows.getD y []) (rows.getD x []))) ((rows.getD x []).getD y 0).toNat
def chkX (rows : List (List Int)) (x : Nat) : Bool := (List.range rows.length).all fun y => chkP rows x y
def chkR (rows : List (List Int)) : Bool := (List.range rows.length).all fun x => chkX rows x
theorem chkX_of {rows : List (List Int)} {x : Nat} (h : ∀ y, y < rows.length → chkP rows x y = true) : chkX rows x = true := List.all_eq_true.2 fun y hy => h y (List.mem_range.1 hy)
theorem chkX_no {rows : List (List Int)} {x y : Nat} (hy : y < rows.length) (h : chkP rows x y = false) : chkX rows x = false := by
  cases e : chkX rows x with
  | false => rfl
  | true => have := List.all_eq_true.1 e y (List.mem_range.2 hy); rw [h] at this; cases this
theorem chkR_of {rows : List (List Int)} (h : ∀ x, x < rows.length → chkX rows x = true) : chkR rows = true := List.all_eq_true.2 fun x hx => h x (List.mem_range.1 hx)
theorem chkR_no {rows : List (List Int)} {x : Nat} (hx : x < rows.length) (h : chkX rows x = false) : chkR rows = false := by
  cases e : chkR rows with
  | false => rfl
  | true => have := List.all_eq_true.1 e x (List.mem_range.2 hx); rw [h] at this; cases this

set_option maxHeartbeats 8000000 in
theorem rackRows_any (n N : Nat) (a : Option Addr) (k c : Nat) (rows : List (List Int)) (w : World) (h : Tbl w a k rows) (hk : k ≤ n) (hn : n ≤ 12) (hp : ∀ i, i < k → IsP n (rows.getD i [])) :
    Calls Try.prog 90 #[.int .i64 N, .slice a k c] w fun e w' => e = .returned (.bool (chkR rows)) ∧ Below w.heap.size w w' := by
  have HL := Lib.hid h.len; have HP := Lib.hid hp
  clear hp
  go_enter Try.func90, Try.ntmps90
  go_wp2
  go_loopw [6, 7, 8, 9, 12, 18] (fun _ _ _ _ i _ wr => ∃ x : Nat, x ≤ k ∧ i = .int .i64 x ∧ Below w.heap.size w wr ∧ Hid (∀ x', x' < x → chkX rows x' = true)) (fun _ _ _ _ i _ _ => k - (intOf i).toNat)
  case atStart => exact ⟨0, Nat.zero_le _, rfl, Below.refl _ _, Lib.hid fun x' hx => absurd hx (by omega)⟩
  case round =>
    obtain ⟨x, hx, rfl, hq, HX⟩ := hrel
    by_cases hlt : x < k
    · obtain ⟨b, off, ax, nx, cx, rfl, g0, r1, l1⟩ := h.at x hlt
      have hpx := HP.out x hlt
      obtain rfl : n = nx := by have := r1.len; rw [hpx.len] at this; exact this.symm
      have i1 : (0 : Int) ≤ (x : Int) := by omega
      have i2 : (x : Int) < (k : Int) := by omega
      have HQ0 := Lib.hid hq
      have g1 := (hq.cell (p := ⟨b, off + x, none⟩) (World.block_lt_of_cell? w _ g0)).trans g0
      clear hq
      go_wp2
      go_loopw [7, 8, 9, 18] (fun _ _ _ j wr => ∃ y : Nat, y ≤ k ∧ j = .int .i64 y ∧ Below w.heap.size w wr ∧ Hid (∀ y', y' < y → chkP rows x y' = true)) (fun _ _ _ j _ => k - (intOf j).toNat)
      case atStart => exact ⟨0, Nat.zero_le _, rfl, HQ0.out, Lib.hid fun x' hx => absurd hx (by omega)⟩
      case round =>
        obtain ⟨y, hy, rfl, hq, HY⟩ := hrel
        by_cases hly : y < k
        · obtain ⟨b2, off2, ay, ny, cy, e2, g20, r2, l2⟩ := h.at y hly
          cases e2
          have hpy := HP.out y hly
          obtain rfl : n = ny := by have := r2.len; rw [hpy.len] at this; exact this.symm
          have g2 := (hq.cell (p := ⟨b, off + y, none⟩) (World.block_lt_of_cell? w _ g20)).trans g20
          obtain ⟨z, hz, hzn⟩ := hpx.at (show y < n by omega)
          obtain ⟨bx, ox, rfl, gz⟩ := (r1.below hq).at y (by omega)
          rw [hz] at gz
          have i3 : (0 : Int) ≤ (y : Int) := by omega
          have i4 : (y : Int) < (k : Int) := by omega
          have i5 : (y : Int) < (n : Int) := by omega
          have HCE : Hid (chkP rows x y = (decide (rows.length ≤ z) || decide (thL (rows.getD x []) (rows.getD z []) = thL (rows.getD y []) (rows.getD x [])))) := Lib.hid (by unfold chkP; simp only; rw [hz, Int.toNat_natCast])
          clear hz
          have step : chkP rows x y = true → ∀ y', y' < y + 1 → chkP rows x y' = true := fun h y' hy' => by
            by_cases e : y' = y
            · subst e; exact h
            · exact HY.out y' (by omega)
          have STEP := Lib.hid step
          clear step
          by_cases hzk : z < k
          · obtain ⟨b4, off4, az, nz, cz, e4, g40, r4, l4⟩ := h.at z hzk
            cases e4
            have hpz := HP.out z hzk
            obtain rfl : n = nz := by have := r4.len; rw [hpz.len] at this; exact this.symm
            have g4 := (hq.cell (p := ⟨b, off + z, none⟩) (World.block_lt_of_cell? w _ g40)).trans g40
            have i6 : (0 : Int) ≤ (z : Int) := by omega
            have i7 : (z : Int) < (k : Int) := by omega
            have hmx := hpx.mem; have hmy := hpy.mem
            go_wp2_with fail
            refine (then_any _ _ n n _ _ (rows.getD x []) (rows.getD z []) _ (r1.below hq) (r4.below hq) (by omega) hmx).mono ?_
            rintro e w5 ⟨a5, c5, rfl, ho5, hb5⟩
            have hq5 := below_th hq hb5
            go_wp2_with fail
            refine (then_any _ _ n n _ _ (rows.getD y []) (rows.getD x []) _ (r2.below hq5) (r1.below hq5) (by omega) hmy).mono ?_
            rintro e w6 ⟨a6, c6, rfl, ho6, hb6⟩
            have hq6 := below_th hq5 hb6
            go_wp2_with fail
            refine (sEqual_any _ _ _ _ _ _ _ _ _ (ho5.below hb6).row ho6.row (by omega)).mono ?_
            rintro e w7 ⟨rfl, m7, rfl⟩
            cases hd : decide (thL (rows.getD x []) (rows.getD z []) = thL (rows.getD y []) (rows.getD x [])) with
            | true =>
              rw [hd] at HCE
              have HC1 : Hid (chkP rows x y = true) := Lib.hid (by rw [HCE.out]; simp)
              clear hd
              go_wp2
              go_roundw
              case rel => exact ⟨y + 1, by omega, by go_num, below_drewN hq6 m7, Lib.hid (STEP.out HC1.out)⟩
              case measure => simp [intOf]; omega
            | false =>
              rw [hd] at HCE
              have HC1 : Hid (chkR rows = false) := Lib.hid (by
                have h1 : chkP rows x y = false := by rw [HCE.out]; simp; have := HL.out; omega
                exact chkR_no (by have := HL.out; omega) (chkX_no (by have := HL.out; omega) h1))
              clear hd
              go_wp2
              go_ret
              exact ⟨ret_bool HC1.out.symm, below_drewN hq6 m7⟩
          · have i7 : ¬ (z : Int) < (k : Int) := by omega
            have hzl : decide (rows.length ≤ z) = true := by have := HL.out; simp; omega
            have HC1 : Hid (chkP rows x y = true) := Lib.hid (by rw [HCE.out, hzl]; rfl)
            clear hzl
            go_wp2
            go_roundw
            case rel => exact ⟨y + 1, by omega, by go_num, hq, Lib.hid (STEP.out HC1.out)⟩
            case measure => simp [intOf]; omega
        · obtain rfl : k = y := by omega
          have HC : Hid (chkX rows x = true) := Lib.hid (chkX_of fun y hy => HY.out y (by have := HL.out; omega))
          go_wp2
          go_roundw
          case rel => exact ⟨x + 1, by omega, by go_num, hq, Lib.hid fun x' hx' => by
            by_cases e : x' = x
            · subst e; exact HC.out
            · exact HX.out x' (by omega)⟩
          case measure => simp [intOf]; omega
    · obtain rfl : k = x := by omega
      have HC : Hid (chkR rows = true) := Lib.hid (chkR_of fun x hx => HX.out x (by have := HL.out; omega))
      go_wp2
      go_ret
      exact ⟨ret_bool HC.out.symm, hq⟩
end Go.Proofs.Ytehomfbehhlhmaa
