/-
  The program's check of the first rows of a cycle set.
  No condition but bounds.
-/
import Derived.Test.YtehomfbehhlhmaaRckI
import Derived.Test.YtehomfbehhlhmaaBase
namespace Go.Proofs.Ytehomfbehhlhmaa
set_option maxRecDepth 100000
set_option linter.unusedVariables false
set_option linter.unusedSimpArgs false
open Go.RowKit

def cyV (rows : List (List Int)) (u z : Nat) : Int := (rows.getD u []).getD z 0
/-- the rows of x and of y do not contradict a cycle set -/
def cyE (n : Nat) (rows : List (List Int)) (x y u v : Nat) : Bool := (List.range n).all fun z => decide (cyV rows u (cyV rows x z).toNat = cyV rows v (cyV rows y z).toNat)
def cyZ (n : Nat) (rows : List (List Int)) (x y : Nat) : Bool := decide (rows.length ≤ (cyV rows x y).toNat) || (decide (rows.length ≤ (cyV rows y x).toNat) || cyE n rows x y (cyV rows x y).toNat (cyV rows y x).toNat)
def cyS (rows : List (List Int)) (x : Nat) : Bool := (List.range x).all fun x' => !decide (cyV rows x' x' = cyV rows x x)
def cyX (n : Nat) (rows : List (List Int)) (x : Nat) : Bool := cyS rows x && (List.range rows.length).all fun y => cyZ n rows x y
def cycR (n : Nat) (rows : List (List Int)) : Bool := (List.range rows.length).all fun x => cyX n rows x
theorem rng_of {k : Nat} {p : Nat → Bool} (h : ∀ y, y < k → p y = true) : (List.range k).all p = true := List.all_eq_true.2 fun y hy => h y (List.mem_range.1 hy)
theorem rng_no {k : Nat} {p : Nat → Bool} {y : Nat} (hy : y < k) (h : p y = false) : (List.range k).all p = false := by
  cases e : (List.range k).all p with
  | false => rfl
  | true => have := List.all_eq_true.1 e y (List.mem_range.2 hy); rw [h] at this; cases this
theorem step_lt {p : Nat → Prop} {x : Nat} (h : ∀ x', x' < x → p x') (hx : p x) : ∀ x', x' < x + 1 → p x' := fun x' h' => by
  by_cases e : x' = x
  · subst e; exact hx
  · exact h x' (by omega)

set_option maxHeartbeats 16000000 in
theorem cycleRows_any (n : Nat) (a : Option Addr) (k c : Nat) (rows : List (List Int)) (w : World) (h : Tbl w a k rows) (hk : k ≤ n) (hn : n ≤ 12) (hp : ∀ i, i < k → IsP n (rows.getD i [])) :
    Calls Try.prog 92 #[.int .i64 n, .slice a k c] w fun e w' => e = .returned (.bool (cycR n rows)) ∧ Below w.heap.size w w' := by
  have HL := Lib.hid h.len; have HP := Lib.hid hp
  clear hp
  go_enter Try.func92, Try.ntmps92
  have i0 : wrap64 (k : Int) = k := IntWalk.wrap64_in _ ⟨by omega, by omega⟩
  go_wp2_with (at_make; refine makeBo rfl rfl rfl rfl (by omega) ?_; intro w1 ho1 hs1 hb1)
  go_loopw [7, 8, 9, 10, 11, 12, 13, 20] (fun _ _ _ _ _ _ _ i wr => ∃ (x : Nat) (sq : List Bool), x ≤ k ∧ i = .int .i64 x ∧ OwnBo wr w.heap.size (some ⟨w.heap.size, 0, none⟩) n n sq ∧ Below w.heap.size w wr ∧ Hid (∀ i, i < n → sq.getD i false = decide (∃ x', x' < x ∧ cyV rows x' x' = (i : Int))) ∧ Hid (∀ x', x' < x → cyX n rows x' = true)) (fun _ _ _ _ _ _ _ i _ => k - (intOf i).toNat)
  case atStart => exact ⟨0, _, Nat.zero_le _, rfl, ho1, hb1, Lib.hid (fun i hi => by simp [List.getD_eq_getElem?_getD, hi]), Lib.hid fun x' hx => absurd hx (by omega)⟩
  case round =>
    clear ho1 hs1 hb1
    obtain ⟨x, sq, hx, rfl, ho, hq, HS, HX⟩ := hrel
    by_cases hlt : x < k
    · obtain ⟨b, off, ax, nx, cx, rfl, g0, r1, l1⟩ := h.at x hlt
      have hpx := HP.out x hlt
      obtain rfl : n = nx := by have := r1.len; rw [hpx.len] at this; exact this.symm
      obtain ⟨s, hs, hsn⟩ := hpx.at (show x < n by omega)
      obtain ⟨bx, ox, rfl, gs⟩ := (r1.below hq).at x (by omega)
      rw [hs] at gs
      have HSV : Hid (cyV rows x x = (s : Int)) := Lib.hid hs
      have i1 : (0 : Int) ≤ (x : Int) := by omega
      have i2 : (x : Int) < (k : Int) := by omega
      have i3 : (x : Int) < (n : Int) := by omega
      have i4 : (0 : Int) ≤ (s : Int) := by omega
      have i5 : (s : Int) < (n : Int) := by omega
      have HQ0 := Lib.hid hq
      have g1 := (hq.cell (p := ⟨b, off + x, none⟩) (World.block_lt_of_cell? w _ g0)).trans g0
      obtain ⟨_, hc, hf⟩ := ho.cells
      have c1 := hc s hsn
      have f1 := hf s
      obtain ⟨t, ht⟩ : ∃ t, sq.getD s false = t := ⟨_, rfl⟩
      rw [ht] at c1
      have HT : Hid (t = decide (∃ x', x' < x ∧ cyV rows x' x' = (s : Int))) := Lib.hid (by rw [← ht]; exact HS.out s hsn)
      clear hq hs hc hf ht
      cases t with
      | true =>
        have HC : Hid (cycR n rows = false) := Lib.hid (by
          have h1 := HT.out
          simp only [true_eq_decide_iff] at h1
          obtain ⟨x', h2, h3⟩ := h1
          refine rng_no (y := x) (by have := HL.out; omega) ?_
          have h4 : cyS rows x = false := rng_no (y := x') h2 (by rw [h3, HSV.out]; simp)
          unfold cyX; rw [h4]; rfl)
        go_wp2
        go_ret
        exact ⟨ret_bool HC.out.symm, HQ0.out⟩
      | false =>
        have HCS : Hid (cyS rows x = true) := Lib.hid (rng_of fun x' h2 => by
          have h1 := HT.out
          have h3 : ¬ cyV rows x' x' = cyV rows x x := fun e => by
            rw [HSV.out] at e
            have : (∃ x', x' < x ∧ cyV rows x' x' = (s : Int)) := ⟨x', h2, e⟩
            simp [this] at h1
          simp [h3])
        have hoS := ho.set s true
        have hbS : Below w.heap.size w (wr.setCell ⟨w.heap.size, s, none⟩ (.bool true)) := HQ0.out.setCell (Nat.le_refl _) _
        have HS2 : Hid (∀ i, i < n → (sq.set s true).getD i false = decide (∃ x', x' < x + 1 ∧ cyV rows x' x' = (i : Int))) := Lib.hid fun i hi => by
          rw [getD_set' _ _ _ _ _ (by have := ho.len; omega)]
          by_cases e : i = s
          · subst e
            rw [if_pos rfl]
            symm; simp only [decide_eq_true_eq]
            exact ⟨x, by omega, HSV.out⟩
          · rw [if_neg e, HS.out i hi]
            refine decide_eq_decide.2 ⟨fun ⟨x', h1, h2⟩ => ⟨x', by omega, h2⟩, fun ⟨x', h1, h2⟩ => ?_⟩
            by_cases e' : x' = x
            · subst e'; rw [HSV.out] at h2; omega
            · exact ⟨x', by omega, h2⟩
        have HOS := Lib.hid hoS; have HBS := Lib.hid hbS
        clear hoS hbS
        go_wp2
        go_loopw [9, 10, 11, 12, 13, 40] (fun _ _ _ _ _ j wr2 => ∃ y m : Nat, y ≤ k ∧ j = .int .i64 y ∧ wr2 = (wr.setCell ⟨w.heap.size, s, none⟩ (.bool true)).drewN m ∧ Hid (∀ y', y' < y → cyZ n rows x y' = true)) (fun _ _ _ _ _ j _ => k - (intOf j).toNat)
        case atStart => exact ⟨0, 0, Nat.zero_le _, rfl, rfl, Lib.hid fun x' hx => absurd hx (by omega)⟩
        case round =>
          obtain ⟨y, m, hy, rfl, hwm, HY⟩ := hrel
          have hq : Below w.heap.size w wr := by rw [hwm]; exact below_drewN HBS.out m
          have HWM := Lib.hid hwm
          clear hwm
          by_cases hly : y < k
          · obtain ⟨b2, off2, ay, ny, cy, e2, g20, r2, l2⟩ := h.at y hly
            cases e2
            have hpy := HP.out y hly
            obtain rfl : n = ny := by have := r2.len; rw [hpy.len] at this; exact this.symm
            have g2 := (hq.cell (p := ⟨b, off + y, none⟩) (World.block_lt_of_cell? w _ g20)).trans g20
            obtain ⟨u, hu, hun⟩ := hpx.at (show y < n by omega)
            obtain ⟨v, hv, hvn⟩ := hpy.at (show x < n by omega)
            obtain ⟨bx, ox, e3, gu⟩ := (r1.below hq).at y (by omega)
            cases e3
            obtain ⟨by_, oy, rfl, gv⟩ := (r2.below hq).at x (by omega)
            rw [hu] at gu
            rw [hv] at gv
            have j1 : (0 : Int) ≤ (y : Int) := by omega
            have j2 : (y : Int) < (k : Int) := by omega
            have j3 : (y : Int) < (n : Int) := by omega
            have HCE : Hid (cyZ n rows x y = (decide (k ≤ u) || (decide (k ≤ v) || cyE n rows x y u v))) := Lib.hid (by
              unfold cyZ
              rw [show cyV rows x y = (u : Int) from hu, show cyV rows y x = (v : Int) from hv, Int.toNat_natCast, Int.toNat_natCast, ← HL.out])
            clear hu hv
            have STEP : Hid (cyZ n rows x y = true → ∀ y', y' < y + 1 → cyZ n rows x y' = true) := Lib.hid (step_lt HY.out)
            go_wp2
            go_quiet (fail)
            by_cases hku : k ≤ u
            · have j4 : (k : Int) ≤ (u : Int) := by omega
              have hz : decide (k ≤ u) = true := by simp; omega
              have HC1 : Hid (cyZ n rows x y = true) := Lib.hid (by rw [HCE.out, hz]; rfl)
              clear hz
              go_wp2
              go_roundw
              case rel => exact ⟨y + 1, m + nq, by omega, by go_num, by rw [HWM.out, World.drewN_drewN], Lib.hid (STEP.out HC1.out)⟩
              case measure => simp [intOf]; omega
            · have j4 : ¬ (k : Int) ≤ (u : Int) := by omega
              by_cases hkv : k ≤ v
              · have j5 : (k : Int) ≤ (v : Int) := by omega
                have hz : decide (k ≤ v) = true := by simp; omega
                have HC1 : Hid (cyZ n rows x y = true) := Lib.hid (by rw [HCE.out, hz]; simp)
                clear hz
                go_wp2
                go_roundw
                case rel => exact ⟨y + 1, m + nq, by omega, by go_num, by rw [HWM.out, World.drewN_drewN], Lib.hid (STEP.out HC1.out)⟩
                case measure => simp [intOf]; omega
              · have j5 : ¬ (k : Int) ≤ (v : Int) := by omega
                have HCE2 : Hid (cyZ n rows x y = cyE n rows x y u v) := Lib.hid (by
                  have z1 : decide (k ≤ u) = false := by simp; omega
                  have z2 : decide (k ≤ v) = false := by simp; omega
                  rw [HCE.out, z1, z2]; rfl)
                have hku' : u < k := by omega
                have hkv' : v < k := by omega
                go_wp2
                go_loopw [13, 62] (fun _ i wr3 => ∃ z m : Nat, z ≤ n ∧ i = .int .i64 z ∧ Hid (Below w.heap.size w wr3) ∧ Hid (∃ m, wr3 = wr.drewN m) ∧ Hid (∀ z', z' < z → decide (cyV rows u (cyV rows x z').toNat = cyV rows v (cyV rows y z').toNat) = true)) (fun _ i _ => n - (intOf i).toNat)
                case atStart => exact ⟨0, 0, Nat.zero_le _, rfl, Lib.hid (below_drewN hq _), Lib.hid ⟨nq, rfl⟩, Lib.hid fun x' hx => absurd hx (by omega)⟩
                case round =>
                  obtain ⟨z, _, hz, rfl, HB3, HM3, HZ⟩ := hrel
                  by_cases hlz : z < n
                  · obtain ⟨b4, o4, au, nu, cu, e4, g40, ru, lu⟩ := h.at u hku'
                    cases e4
                    obtain ⟨b5, o5, av, nv, cv, e5, g50, rv, lv⟩ := h.at v hkv'
                    cases e5
                    obtain rfl : n = nu := by have := ru.len; rw [(HP.out u hku').len] at this; exact this.symm
                    obtain rfl : n = nv := by have := rv.len; rw [(HP.out v hkv').len] at this; exact this.symm
                    obtain ⟨pz, hpz, hpzn⟩ := hpx.at hlz
                    obtain ⟨qz, hqz, hqzn⟩ := hpy.at hlz
                    have hq := HB3.out
                    have gu4 := (hq.cell (p := ⟨b, off + u, none⟩) (World.block_lt_of_cell? w _ g40)).trans g40
                    have gv4 := (hq.cell (p := ⟨b, off + v, none⟩) (World.block_lt_of_cell? w _ g50)).trans g50
                    obtain ⟨bx', ox', e6, gp⟩ := (r1.below hq).at z (by omega)
                    cases e6
                    obtain ⟨by', oy', e7, gq⟩ := (r2.below hq).at z (by omega)
                    cases e7
                    obtain ⟨bu, ou, rfl, gup⟩ := (ru.below hq).at pz (by omega)
                    obtain ⟨bv, ov, rfl, gvq⟩ := (rv.below hq).at qz (by omega)
                    rw [hpz] at gp
                    rw [hqz] at gq
                    obtain ⟨A, HA⟩ : ∃ A, Hid ((rows.getD u []).getD pz 0 = A) := ⟨_, rfl⟩
                    obtain ⟨B, HBB⟩ : ∃ B, Hid ((rows.getD v []).getD qz 0 = B) := ⟨_, rfl⟩
                    rw [HA.out] at gup
                    rw [HBB.out] at gvq
                    have k1 : (0 : Int) ≤ (z : Int) := by omega
                    have k2 : (z : Int) < (n : Int) := by omega
                    have k3 : (0 : Int) ≤ (u : Int) := by omega
                    have k4 : (u : Int) < (k : Int) := by omega
                    have k5 : (0 : Int) ≤ (v : Int) := by omega
                    have k6 : (v : Int) < (k : Int) := by omega
                    have k7 : (0 : Int) ≤ (pz : Int) := by omega
                    have k8 : (pz : Int) < (n : Int) := by omega
                    have k9 : (0 : Int) ≤ (qz : Int) := by omega
                    have k10 : (qz : Int) < (n : Int) := by omega
                    have HZE : Hid (decide (cyV rows u (cyV rows x z).toNat = cyV rows v (cyV rows y z).toNat) = decide (A = B)) := Lib.hid (by
                      rw [show cyV rows x z = (pz : Int) from hpz, show cyV rows y z = (qz : Int) from hqz, Int.toNat_natCast, Int.toNat_natCast]
                      rw [show cyV rows u pz = A from HA.out, show cyV rows v qz = B from HBB.out])
                    clear hpz hqz hq
                    by_cases hAB : A = B
                    · subst hAB
                      have t1 : (A != A) = false := by simp
                      go_wp2
                      go_quiet (fail)
                      go_wp2
                      go_roundw
                      case rel => exact ⟨z + 1, 0, by omega, by go_num, Lib.hid (below_drewN HB3.out _), Lib.hid (by obtain ⟨m3, h3⟩ := HM3.out; exact ⟨m3 + nq, by rw [h3, World.drewN_drewN]⟩), Lib.hid (step_lt HZ.out (by rw [HZE.out]; simp))⟩
                      case measure => simp [intOf]; omega
                    · have t1 : (A != B) = true := by simp [hAB]
                      have HC : Hid (cycR n rows = false) := Lib.hid (by
                        refine rng_no (y := x) (by have := HL.out; omega) ?_
                        unfold cyX
                        rw [rng_no (y := y) (by have := HL.out; omega) (by rw [HCE2.out]; exact rng_no (y := z) hlz (by rw [HZE.out]; simp [hAB])), Bool.and_false])
                      go_wp2
                      go_quiet (fail)
                      go_wp2
                      go_ret
                      exact ⟨ret_bool HC.out.symm, below_drewN HB3.out _⟩
                  · obtain rfl : n = z := by omega
                    have HC1 : Hid (cyZ n rows x y = true) := Lib.hid (by rw [HCE2.out]; exact rng_of fun z hz => HZ.out z hz)
                    go_wp2
                    go_roundw
                    case rel =>
                      obtain ⟨m3, h3⟩ := HM3.out
                      exact ⟨y + 1, m + m3, by omega, by go_num, by rw [h3, HWM.out, World.drewN_drewN], Lib.hid (STEP.out HC1.out)⟩
                    case measure => simp [intOf]; omega
          · obtain rfl : k = y := by omega
            have HC : Hid (cyX n rows x = true) := Lib.hid (by unfold cyX; rw [HCS.out, rng_of fun y hy => HY.out y (by have := HL.out; omega)]; rfl)
            go_wp2
            go_roundw
            case rel => exact ⟨x + 1, _, by omega, by go_num, by rw [HWM.out]; exact HOS.out.drewN m, hq, HS2, Lib.hid (step_lt HX.out HC.out)⟩
            case measure => simp [intOf]; omega
    · obtain rfl : k = x := by omega
      have HC : Hid (cycR n rows = true) := Lib.hid (rng_of fun x hx => HX.out x (by have := HL.out; omega))
      go_wp2
      go_ret
      exact ⟨ret_bool HC.out.symm, hq⟩
end Go.Proofs.Ytehomfbehhlhmaa
