/-
  Walks and plain laws of this seat, some texts in one.
  No condition but bounds on lengths.
-/
import Derived.Test.YthgafpeblpnolaaBase2
import Derived.Test.YthgafpeblpnolaaBase
namespace Go.Proofs.Ythgafpeblpnolaa
set_option maxRecDepth 100000
set_option linter.unusedVariables false
set_option linter.unusedSimpArgs false
open Go.RowKit

def cyV (rows : List (List Int)) (u z : Nat) : Int := (rows.getD u []).getD z 0
/-- the rows of x and of y do not contradict a cycle set -/
def cyE (n : Nat) (rows : List (List Int)) (x y u v : Nat) : Bool := (List.range n).all fun z => decide (cyV rows u (cyV rows x z).toNat = cyV rows v (cyV rows y z).toNat)
def cyZ (n : Nat) (rows : List (List Int)) (x y : Nat) : Bool := decide (rows.length ≤ (cyV rows x y).toNat) || (decide (rows.length ≤ (cyV rows y x).toNat) || cyE n rows x y (cyV rows x y).toNat (cyV rows y x).toNat)
def cyS (rows : List (List Int)) (x : Nat) : Bool := (List.range x).all fun x' => !decide (cyV rows x' x' = cyV rows x x)
def cyX (n : Nat) (rows : List (List Int)) (x : Nat) : Bool := cyS rows x && (List.range rows.length).all fun y => cyZ n rows x y
def cycR (n : Nat) (rows : List (List Int)) : Bool := (List.range rows.length).all fun x => cyX n rows x
theorem rng_of {k : Nat} {p : Nat → Bool} (h : ∀ y, y < k → p y = true) : (List.range k).all p = true := List.all_eq_true.2 fun y hy => h y (List.mem_range.1 hy)
theorem rng_no {k : Nat} {p : Nat → Bool} {y : Nat} (hy : y < k) (h : p y = false) : (List.range k).all p = false := by
  cases e : (List.range k).all p with
  | false => rfl
  | true => have := List.all_eq_true.1 e y (List.mem_range.2 hy); rw [h] at this; cases this
theorem step_lt {p : Nat → Prop} {x : Nat} (h : ∀ x', x' < x → p x') (hx : p x) : ∀ x', x' < x + 1 → p x' := fun x' h' => by
  by_cases e : x' = x
  · subst e; exact hx
  · exact h x' (by omega)

set_option maxHeartbeats 16000000 in
theorem cycleRows_any (n : Nat) (a : Option Addr) (k c : Nat) (rows : List (List Int)) (w : World) (h : Tbl w a k rows) (hk : k ≤ n) (hn : n ≤ 12) (hp : ∀ i, i < k → IsP n (rows.getD i [])) :
    Calls Try.prog 30 #[.int .i64 n, .slice a k c] w fun e w' => e = .returned (.bool (cycR n rows)) ∧ Below w.heap.size w w' := by
  have HL := Lib.hid h.len; have HP := Lib.hid hp
  clear hp
  go_enter Try.func30, Try.ntmps30
  have i0 : wrap64 (k : Int) = k := IntWalk.wrap64_in _ ⟨by omega, by omega⟩
  go_wp2_with (at_make; refine makeBo rfl rfl rfl rfl (by omega) ?_; intro w1 ho1 hs1 hb1)
  go_loopw [7, 8, 9, 10, 11, 12, 13, 20] (fun _ _ _ _ _ _ _ i wr => ∃ (x : Nat) (sq : List Bool), x ≤ k ∧ i = .int .i64 x ∧ OwnBo wr w.heap.size (some ⟨w.heap.size, 0, none⟩) n n sq ∧ Below w.heap.size w wr ∧ Hid (∀ i, i < n → sq.getD i false = decide (∃ x', x' < x ∧ cyV rows x' x' = (i : Int))) ∧ Hid (∀ x', x' < x → cyX n rows x' = true)) (fun _ _ _ _ _ _ _ i _ => k - (intOf i).toNat)
  case atStart => exact ⟨0, _, Nat.zero_le _, rfl, ho1, hb1, Lib.hid (fun i hi => by simp [List.getD_eq_getElem?_getD, hi]), Lib.hid fun x' hx => absurd hx (by omega)⟩
  case round =>
    clear ho1 hs1 hb1
    obtain ⟨x, sq, hx, rfl, ho, hq, HS, HX⟩ := hrel
    by_cases hlt : x < k
    · obtain ⟨b, off, ax, nx, cx, rfl, g0, r1, l1⟩ := h.at x hlt
      have hpx := HP.out x hlt
      obtain rfl : n = nx := by have := r1.len; rw [hpx.len] at this; exact this.symm
      obtain ⟨s, hs, hsn⟩ := hpx.at (show x < n by omega)
      obtain ⟨bx, ox, rfl, gs⟩ := (r1.below hq).at x (by omega)
      rw [hs] at gs
      have HSV : Hid (cyV rows x x = (s : Int)) := Lib.hid hs
      have i1 : (0 : Int) ≤ (x : Int) := by omega
      have i2 : (x : Int) < (k : Int) := by omega
      have i3 : (x : Int) < (n : Int) := by omega
      have i4 : (0 : Int) ≤ (s : Int) := by omega
      have i5 : (s : Int) < (n : Int) := by omega
      have HQ0 := Lib.hid hq
      have g1 := (hq.cell (p := ⟨b, off + x, none⟩) (World.block_lt_of_cell? w _ g0)).trans g0
      obtain ⟨_, hc, hf⟩ := ho.cells
      have c1 := hc s hsn
      have f1 := hf s
      obtain ⟨t, ht⟩ : ∃ t, sq.getD s false = t := ⟨_, rfl⟩
      rw [ht] at c1
      have HT : Hid (t = decide (∃ x', x' < x ∧ cyV rows x' x' = (s : Int))) := Lib.hid (by rw [← ht]; exact HS.out s hsn)
      clear hq hs hc hf ht
      cases t with
      | true =>
        have HC : Hid (cycR n rows = false) := Lib.hid (by
          have h1 := HT.out
          simp only [true_eq_decide_iff] at h1
          obtain ⟨x', h2, h3⟩ := h1
          refine rng_no (y := x) (by have := HL.out; omega) ?_
          have h4 : cyS rows x = false := rng_no (y := x') h2 (by rw [h3, HSV.out]; simp)
          unfold cyX; rw [h4]; rfl)
        go_wp2
        go_ret
        exact ⟨ret_bool HC.out.symm, HQ0.out⟩
      | false =>
        have HCS : Hid (cyS rows x = true) := Lib.hid (rng_of fun x' h2 => by
          have h1 := HT.out
          have h3 : ¬ cyV rows x' x' = cyV rows x x := fun e => by
            rw [HSV.out] at e
            have : (∃ x', x' < x ∧ cyV rows x' x' = (s : Int)) := ⟨x', h2, e⟩
            simp [this] at h1
          simp [h3])
        have hoS := ho.set s true
        have hbS : Below w.heap.size w (wr.setCell ⟨w.heap.size, s, none⟩ (.bool true)) := HQ0.out.setCell (Nat.le_refl _) _
        have HS2 : Hid (∀ i, i < n → (sq.set s true).getD i false = decide (∃ x', x' < x + 1 ∧ cyV rows x' x' = (i : Int))) := Lib.hid fun i hi => by
          rw [getD_set' _ _ _ _ _ (by have := ho.len; omega)]
          by_cases e : i = s
          · subst e
            rw [if_pos rfl]
            symm; simp only [decide_eq_true_eq]
            exact ⟨x, by omega, HSV.out⟩
          · rw [if_neg e, HS.out i hi]
            refine decide_eq_decide.2 ⟨fun ⟨x', h1, h2⟩ => ⟨x', by omega, h2⟩, fun ⟨x', h1, h2⟩ => ?_⟩
            by_cases e' : x' = x
            · subst e'; rw [HSV.out] at h2; omega
            · exact ⟨x', by omega, h2⟩
        have HOS := Lib.hid hoS; have HBS := Lib.hid hbS
        clear hoS hbS
        go_wp2
        go_loopw [9, 10, 11, 12, 13, 40] (fun _ _ _ _ _ j wr2 => ∃ y m : Nat, y ≤ k ∧ j = .int .i64 y ∧ wr2 = (wr.setCell ⟨w.heap.size, s, none⟩ (.bool true)).drewN m ∧ Hid (∀ y', y' < y → cyZ n rows x y' = true)) (fun _ _ _ _ _ j _ => k - (intOf j).toNat)
        case atStart => exact ⟨0, 0, Nat.zero_le _, rfl, rfl, Lib.hid fun x' hx => absurd hx (by omega)⟩
        case round =>
          obtain ⟨y, m, hy, rfl, hwm, HY⟩ := hrel
          have hq : Below w.heap.size w wr := by rw [hwm]; exact below_drewN HBS.out m
          have HWM := Lib.hid hwm
          clear hwm
          by_cases hly : y < k
          · obtain ⟨b2, off2, ay, ny, cy, e2, g20, r2, l2⟩ := h.at y hly
            cases e2
            have hpy := HP.out y hly
            obtain rfl : n = ny := by have := r2.len; rw [hpy.len] at this; exact this.symm
            have g2 := (hq.cell (p := ⟨b, off + y, none⟩) (World.block_lt_of_cell? w _ g20)).trans g20
            obtain ⟨u, hu, hun⟩ := hpx.at (show y < n by omega)
            obtain ⟨v, hv, hvn⟩ := hpy.at (show x < n by omega)
            obtain ⟨bx, ox, e3, gu⟩ := (r1.below hq).at y (by omega)
            cases e3
            obtain ⟨by_, oy, rfl, gv⟩ := (r2.below hq).at x (by omega)
            rw [hu] at gu
            rw [hv] at gv
            have j1 : (0 : Int) ≤ (y : Int) := by omega
            have j2 : (y : Int) < (k : Int) := by omega
            have j3 : (y : Int) < (n : Int) := by omega
            have HCE : Hid (cyZ n rows x y = (decide (k ≤ u) || (decide (k ≤ v) || cyE n rows x y u v))) := Lib.hid (by
              unfold cyZ
              rw [show cyV rows x y = (u : Int) from hu, show cyV rows y x = (v : Int) from hv, Int.toNat_natCast, Int.toNat_natCast, ← HL.out])
            clear hu hv
            have STEP : Hid (cyZ n rows x y = true → ∀ y', y' < y + 1 → cyZ n rows x y' = true) := Lib.hid (step_lt HY.out)
            go_wp2
            go_quiet (fail)
            by_cases hku : k ≤ u
            · have j4 : (k : Int) ≤ (u : Int) := by omega
              have hz : decide (k ≤ u) = true := by simp; omega
              have HC1 : Hid (cyZ n rows x y = true) := Lib.hid (by rw [HCE.out, hz]; rfl)
              clear hz
              go_wp2
              go_roundw
              case rel => exact ⟨y + 1, m + nq, by omega, by go_num, by rw [HWM.out, World.drewN_drewN], Lib.hid (STEP.out HC1.out)⟩
              case measure => simp [intOf]; omega
            · have j4 : ¬ (k : Int) ≤ (u : Int) := by omega
              by_cases hkv : k ≤ v
              · have j5 : (k : Int) ≤ (v : Int) := by omega
                have hz : decide (k ≤ v) = true := by simp; omega
                have HC1 : Hid (cyZ n rows x y = true) := Lib.hid (by rw [HCE.out, hz]; simp)
                clear hz
                go_wp2
                go_roundw
                case rel => exact ⟨y + 1, m + nq, by omega, by go_num, by rw [HWM.out, World.drewN_drewN], Lib.hid (STEP.out HC1.out)⟩
                case measure => simp [intOf]; omega
              · have j5 : ¬ (k : Int) ≤ (v : Int) := by omega
                have HCE2 : Hid (cyZ n rows x y = cyE n rows x y u v) := Lib.hid (by
                  have z1 : decide (k ≤ u) = false := by simp; omega
                  have z2 : decide (k ≤ v) = false := by simp; omega
                  rw [HCE.out, z1, z2]; rfl)
                have hku' : u < k := by omega
                have hkv' : v < k := by omega
                go_wp2
                go_loopw [13, 62] (fun _ i wr3 => ∃ z m : Nat, z ≤ n ∧ i = .int .i64 z ∧ Hid (Below w.heap.size w wr3) ∧ Hid (∃ m, wr3 = wr.drewN m) ∧ Hid (∀ z', z' < z → decide (cyV rows u (cyV rows x z').toNat = cyV rows v (cyV rows y z').toNat) = true)) (fun _ i _ => n - (intOf i).toNat)
                case atStart => exact ⟨0, 0, Nat.zero_le _, rfl, Lib.hid (below_drewN hq _), Lib.hid ⟨nq, rfl⟩, Lib.hid fun x' hx => absurd hx (by omega)⟩
                case round =>
                  obtain ⟨z, _, hz, rfl, HB3, HM3, HZ⟩ := hrel
                  by_cases hlz : z < n
                  · obtain ⟨b4, o4, au, nu, cu, e4, g40, ru, lu⟩ := h.at u hku'
                    cases e4
                    obtain ⟨b5, o5, av, nv, cv, e5, g50, rv, lv⟩ := h.at v hkv'
                    cases e5
                    obtain rfl : n = nu := by have := ru.len; rw [(HP.out u hku').len] at this; exact this.symm
                    obtain rfl : n = nv := by have := rv.len; rw [(HP.out v hkv').len] at this; exact this.symm
                    obtain ⟨pz, hpz, hpzn⟩ := hpx.at hlz
                    obtain ⟨qz, hqz, hqzn⟩ := hpy.at hlz
                    have hq := HB3.out
                    have gu4 := (hq.cell (p := ⟨b, off + u, none⟩) (World.block_lt_of_cell? w _ g40)).trans g40
                    have gv4 := (hq.cell (p := ⟨b, off + v, none⟩) (World.block_lt_of_cell? w _ g50)).trans g50
                    obtain ⟨bx', ox', e6, gp⟩ := (r1.below hq).at z (by omega)
                    cases e6
                    obtain ⟨by', oy', e7, gq⟩ := (r2.below hq).at z (by omega)
                    cases e7
                    obtain ⟨bu, ou, rfl, gup⟩ := (ru.below hq).at pz (by omega)
                    obtain ⟨bv, ov, rfl, gvq⟩ := (rv.below hq).at qz (by omega)
                    rw [hpz] at gp
                    rw [hqz] at gq
                    obtain ⟨A, HA⟩ : ∃ A, Hid ((rows.getD u []).getD pz 0 = A) := ⟨_, rfl⟩
                    obtain ⟨B, HBB⟩ : ∃ B, Hid ((rows.getD v []).getD qz 0 = B) := ⟨_, rfl⟩
                    rw [HA.out] at gup
                    rw [HBB.out] at gvq
                    have k1 : (0 : Int) ≤ (z : Int) := by omega
                    have k2 : (z : Int) < (n : Int) := by omega
                    have k3 : (0 : Int) ≤ (u : Int) := by omega
                    have k4 : (u : Int) < (k : Int) := by omega
                    have k5 : (0 : Int) ≤ (v : Int) := by omega
                    have k6 : (v : Int) < (k : Int) := by omega
                    have k7 : (0 : Int) ≤ (pz : Int) := by omega
                    have k8 : (pz : Int) < (n : Int) := by omega
                    have k9 : (0 : Int) ≤ (qz : Int) := by omega
                    have k10 : (qz : Int) < (n : Int) := by omega
                    have HZE : Hid (decide (cyV rows u (cyV rows x z).toNat = cyV rows v (cyV rows y z).toNat) = decide (A = B)) := Lib.hid (by
                      rw [show cyV rows x z = (pz : Int) from hpz, show cyV rows y z = (qz : Int) from hqz, Int.toNat_natCast, Int.toNat_natCast]
                      rw [show cyV rows u pz = A from HA.out, show cyV rows v qz = B from HBB.out])
                    clear hpz hqz hq
                    by_cases hAB : A = B
                    · subst hAB
                      have t1 : (A != A) = false := by simp
                      go_wp2
                      go_quiet (fail)
                      go_wp2
                      go_roundw
                      case rel => exact ⟨z + 1, 0, by omega, by go_num, Lib.hid (below_drewN HB3.out _), Lib.hid (by obtain ⟨m3, h3⟩ := HM3.out; exact ⟨m3 + nq, by rw [h3, World.drewN_drewN]⟩), Lib.hid (step_lt HZ.out (by rw [HZE.out]; simp))⟩
                      case measure => simp [intOf]; omega
                    · have t1 : (A != B) = true := by simp [hAB]
                      have HC : Hid (cycR n rows = false) := Lib.hid (by
                        refine rng_no (y := x) (by have := HL.out; omega) ?_
                        unfold cyX
                        rw [rng_no (y := y) (by have := HL.out; omega) (by rw [HCE2.out]; exact rng_no (y := z) hlz (by rw [HZE.out]; simp [hAB])), Bool.and_false])
                      go_wp2
                      go_quiet (fail)
                      go_wp2
                      go_ret
                      exact ⟨ret_bool HC.out.symm, below_drewN HB3.out _⟩
                  · obtain rfl : n = z := by omega
                    have HC1 : Hid (cyZ n rows x y = true) := Lib.hid (by rw [HCE2.out]; exact rng_of fun z hz => HZ.out z hz)
                    go_wp2
                    go_roundw
                    case rel =>
                      obtain ⟨m3, h3⟩ := HM3.out
                      exact ⟨y + 1, m + m3, by omega, by go_num, by rw [h3, HWM.out, World.drewN_drewN], Lib.hid (STEP.out HC1.out)⟩
                    case measure => simp [intOf]; omega
          · obtain rfl : k = y := by omega
            have HC : Hid (cyX n rows x = true) := Lib.hid (by unfold cyX; rw [HCS.out, rng_of fun y hy => HY.out y (by have := HL.out; omega)]; rfl)
            go_wp2
            go_roundw
            case rel => exact ⟨x + 1, _, by omega, by go_num, by rw [HWM.out]; exact HOS.out.drewN m, hq, HS2, Lib.hid (step_lt HX.out HC.out)⟩
            case measure => simp [intOf]; omega
    · obtain rfl : k = x := by omega
      have HC : Hid (cycR n rows = true) := Lib.hid (rng_of fun x hx => HX.out x (by have := HL.out; omega))
      go_wp2
      go_ret
      exact ⟨ret_bool HC.out.symm, hq⟩
end Go.Proofs.Ythgafpeblpnolaa

namespace Go.Proofs.Ythgafpeblpnolaa
set_option maxRecDepth 100000
set_option linter.unusedVariables false
set_option linter.unusedSimpArgs false
open Go.RowKit

def hfP (n : Nat) (rows : List (List Int)) (x y : Nat) : Bool :=
  decide (rows.getD x [] = []) || (decide (rows.getD y [] = []) || (decide (rows.getD (cyV rows x y).toNat [] = []) || (decide (rows.getD (cyV rows y x).toNat [] = []) || cyE n rows x y (cyV rows x y).toNat (cyV rows y x).toNat)))
def hfX (n : Nat) (rows : List (List Int)) (x : Nat) : Bool := (List.range x).all fun y => hfP n rows x y
def hfL (n : Nat) (rows : List (List Int)) : Bool := (List.range n).all fun x => hfX n rows x
theorem RwsOk.at {n : Nat} {rows : List (List Int)} (h : RwsOk n rows) {x nx : Nat} (hx : x < n) {w : World} {a : Option Addr} (hr : Row w a nx (rows.getD x [])) : (nx = 0 ∧ rows.getD x [] = []) ∨ (nx = n ∧ IsP n (rows.getD x [])) := by
  rcases h.2 x hx with e | e
  · exact .inl ⟨by have := hr.len; rw [e] at this; simpa using this, e⟩
  · exact .inr ⟨by have := hr.len; rw [e.len] at this; exact this, e⟩

set_option maxHeartbeats 16000000 in
theorem l19Half_any (n : Nat) (a : Option Addr) (c : Nat) (rows : List (List Int)) (w : World) (h : Tbl w a n rows) (hn0 : 0 < n) (hn : n ≤ 12) (hok : RwsOk n rows) :
    Calls Try.prog 87 #[.slice a n c] w fun e w' => e = .returned (.bool (hfL n rows)) ∧ Below w.heap.size w w' := by
  have HO := Lib.hid hok
  clear hok
  have i0 : wrap64 (n : Int) = n := IntWalk.wrap64_in _ ⟨by omega, by omega⟩
  go_enter Try.func87, Try.ntmps87
  go_wp2
  go_loopw [4, 5, 6, 7, 8] (fun i _ _ _ _ wr => ∃ x : Nat, x ≤ n ∧ i = .int .i64 x ∧ Below w.heap.size w wr ∧ Hid (∀ x', x' < x → hfX n rows x' = true)) (fun i _ _ _ _ _ => n - (intOf i).toNat)
  case atStart => exact ⟨0, Nat.zero_le _, rfl, Below.refl _ _, Lib.hid fun x' hx => absurd hx (by omega)⟩
  case round =>
    obtain ⟨x, hx, rfl, hq, HX⟩ := hrel
    by_cases hlt : x < n
    · go_wp2
      go_loopw [5, 6, 7, 8] (fun j _ _ _ wr => ∃ y : Nat, y ≤ x ∧ j = .int .i64 y ∧ Below w.heap.size w wr ∧ Hid (∀ y', y' < y → hfP n rows x y' = true)) (fun j _ _ _ _ => x - (intOf j).toNat)
      case atStart => exact ⟨0, Nat.zero_le _, rfl, hq, Lib.hid fun x' hx => absurd hx (by omega)⟩
      case round =>
        clear hq
        obtain ⟨y, hy, rfl, hq, HY⟩ := hrel
        by_cases hly : y < x
        · have STEP : Hid (hfP n rows x y = true → ∀ y', y' < y + 1 → hfP n rows x y' = true) := Lib.hid (step_lt HY.out)
          obtain ⟨b, off, ax, nx, cx, rfl, g10, r1, l1⟩ := h.at x hlt
          obtain ⟨b2, off2, ay, ny, cy, e2, g20, r2, l2⟩ := h.at y (by omega)
          cases e2
          have g1 := (hq.cell (p := ⟨b, off + x, none⟩) (World.block_lt_of_cell? w _ g10)).trans g10
          have g2 := (hq.cell (p := ⟨b, off + y, none⟩) (World.block_lt_of_cell? w _ g20)).trans g20
          have i1 : (0 : Int) ≤ (x : Int) := by omega
          have i2 : (x : Int) < (n : Int) := by omega
          have i3 : (0 : Int) ≤ (y : Int) := by omega
          have i4 : (y : Int) < (n : Int) := by omega
          have t0 : ((0 : Int) == 0) = true := rfl
          have tn : ((n : Int) == 0) = false := by simp; omega
          have HQ := Lib.hid hq
          rcases RwsOk.at HO.out hlt r1 with ⟨rfl, e⟩ | ⟨rfl, hpx⟩
          · have HC1 : Hid (hfP n rows x y = true) := Lib.hid (by unfold hfP; rw [decide_eq_true e, Bool.true_or])
            clear e
            go_wp2
            go_roundw
            case rel => exact ⟨y + 1, by omega, by go_num, HQ.out, Lib.hid (STEP.out HC1.out)⟩
            case measure => simp [intOf]; omega
          · have HXN := Lib.hid (IsP.ne hn0 hpx)
            rcases RwsOk.at HO.out (show y < nx by omega) r2 with ⟨rfl, e⟩ | ⟨rfl, hpy⟩
            · have HC1 : Hid (hfP nx rows x y = true) := Lib.hid (by unfold hfP; rw [decide_eq_true e, Bool.true_or, Bool.or_true])
              clear e
              go_wp2
              go_roundw
              case rel => exact ⟨y + 1, by omega, by go_num, HQ.out, Lib.hid (STEP.out HC1.out)⟩
              case measure => simp [intOf]; omega
            · have HYN := Lib.hid (IsP.ne hn0 hpy)
              obtain ⟨u, hu, hun⟩ := hpx.at (show y < ny by omega)
              obtain ⟨v, hv, hvn⟩ := hpy.at (show x < ny by omega)
              obtain ⟨bx, ox, rfl, gu⟩ := (r1.below hq).at y (by omega)
              obtain ⟨by_, oy, rfl, gv⟩ := (r2.below hq).at x (by omega)
              rw [hu] at gu
              rw [hv] at gv
              obtain ⟨b4, o4, au, nu, cu, e4, g40, ru, lu⟩ := h.at u hun
              cases e4
              obtain ⟨b5, o5, av, nv, cv, e5, g50, rv, lv⟩ := h.at v hvn
              cases e5
              have g4 := (hq.cell (p := ⟨b, off + u, none⟩) (World.block_lt_of_cell? w _ g40)).trans g40
              have g5 := (hq.cell (p := ⟨b, off + v, none⟩) (World.block_lt_of_cell? w _ g50)).trans g50
              have i5 : (0 : Int) ≤ (u : Int) := by omega
              have i6 : (u : Int) < (ny : Int) := by omega
              have i7 : (0 : Int) ≤ (v : Int) := by omega
              have i8 : (v : Int) < (ny : Int) := by omega
              have HCE : Hid (hfP ny rows x y = (decide (rows.getD u [] = []) || (decide (rows.getD v [] = []) || cyE ny rows x y u v))) := Lib.hid (by
                unfold hfP
                rw [show cyV rows x y = (u : Int) from hu, show cyV rows y x = (v : Int) from hv, Int.toNat_natCast, Int.toNat_natCast]
                rw [decide_eq_false HXN.out, decide_eq_false HYN.out, Bool.false_or, Bool.false_or])
              clear hu hv
              go_wp2
              go_quiet (fail)
              rcases RwsOk.at HO.out hun ru with ⟨rfl, e⟩ | ⟨rfl, hpu⟩
              · have HC1 : Hid (hfP ny rows x y = true) := Lib.hid (by rw [HCE.out, decide_eq_true e, Bool.true_or])
                clear e
                go_wp2
                go_roundw
                case rel => exact ⟨y + 1, by omega, by go_num, below_drewN HQ.out _, Lib.hid (STEP.out HC1.out)⟩
                case measure => simp [intOf]; omega
              · rcases RwsOk.at HO.out hvn rv with ⟨rfl, e⟩ | ⟨rfl, hpv⟩
                · have HC1 : Hid (hfP nu rows x y = true) := Lib.hid (by rw [HCE.out, decide_eq_true e, Bool.true_or, Bool.or_true])
                  clear e
                  go_wp2
                  go_roundw
                  case rel => exact ⟨y + 1, by omega, by go_num, below_drewN HQ.out _, Lib.hid (STEP.out HC1.out)⟩
                  case measure => simp [intOf]; omega
                · have HCE2 : Hid (hfP nv rows x y = cyE nv rows x y u v) := Lib.hid (by
                    rw [HCE.out, decide_eq_false (IsP.ne hn0 hpu), decide_eq_false (IsP.ne hn0 hpv), Bool.false_or, Bool.false_or])
                  go_wp2
                  go_loopw [8] (fun i wr3 => ∃ z : Nat, z ≤ nv ∧ i = .int .i64 z ∧ Hid (Below w.heap.size w wr3) ∧ Hid (∀ z', z' < z → decide (cyV rows u (cyV rows x z').toNat = cyV rows v (cyV rows y z').toNat) = true)) (fun i _ => nv - (intOf i).toNat)
                  case atStart => exact ⟨0, Nat.zero_le _, rfl, Lib.hid (below_drewN HQ.out _), Lib.hid fun x' hx => absurd hx (by omega)⟩
                  case round =>
                    obtain ⟨z, hz, rfl, HB3, HZ⟩ := hrel
                    by_cases hlz : z < nv
                    · obtain ⟨pz, hpz, hpzn⟩ := hpx.at hlz
                      obtain ⟨qz, hqz, hqzn⟩ := hpy.at hlz
                      have hq3 := HB3.out
                      have g13 := (hq3.cell (p := ⟨b, off + x, none⟩) (World.block_lt_of_cell? w _ g10)).trans g10
                      have g23 := (hq3.cell (p := ⟨b, off + y, none⟩) (World.block_lt_of_cell? w _ g20)).trans g20
                      obtain ⟨bx', ox', e6, gp⟩ := (r1.below hq3).at z (by omega)
                      cases e6
                      obtain ⟨by', oy', e7, gq⟩ := (r2.below hq3).at z (by omega)
                      cases e7
                      obtain ⟨bu, ou, rfl, gup⟩ := (ru.below hq3).at pz (by omega)
                      obtain ⟨bv, ov, rfl, gvq⟩ := (rv.below hq3).at qz (by omega)
                      rw [hpz] at gp
                      rw [hqz] at gq
                      obtain ⟨A, HA⟩ : ∃ A, Hid ((rows.getD u []).getD pz 0 = A) := ⟨_, rfl⟩
                      obtain ⟨B, HBB⟩ : ∃ B, Hid ((rows.getD v []).getD qz 0 = B) := ⟨_, rfl⟩
                      rw [HA.out] at gup
                      rw [HBB.out] at gvq
                      have k1 : (0 : Int) ≤ (z : Int) := by omega
                      have k2 : (z : Int) < (nv : Int) := by omega
                      have k7 : (0 : Int) ≤ (pz : Int) := by omega
                      have k8 : (pz : Int) < (nv : Int) := by omega
                      have k9 : (0 : Int) ≤ (qz : Int) := by omega
                      have k10 : (qz : Int) < (nv : Int) := by omega
                      have HZE : Hid (decide (cyV rows u (cyV rows x z).toNat = cyV rows v (cyV rows y z).toNat) = decide (A = B)) := Lib.hid (by
                        rw [show cyV rows x z = (pz : Int) from hpz, show cyV rows y z = (qz : Int) from hqz, Int.toNat_natCast, Int.toNat_natCast]
                        rw [show cyV rows u pz = A from HA.out, show cyV rows v qz = B from HBB.out])
                      clear hpz hqz hq3
                      by_cases hAB : A = B
                      · subst hAB
                        have t1 : (A != A) = false := by simp
                        go_wp2
                        go_quiet (fail)
                        go_wp2
                        go_roundw
                        case rel => exact ⟨z + 1, by omega, by go_num, Lib.hid (below_drewN HB3.out _), Lib.hid (step_lt HZ.out (by rw [HZE.out]; simp))⟩
                        case measure => simp [intOf]; omega
                      · have t1 : (A != B) = true := by simp [hAB]
                        have HC : Hid (hfL nv rows = false) := Lib.hid (by
                          refine rng_no (y := x) hlt ?_
                          refine rng_no (y := y) hly ?_
                          rw [HCE2.out]; exact rng_no (y := z) hlz (by rw [HZE.out]; simp [hAB]))
                        go_wp2
                        go_quiet (fail)
                        go_wp2
                        go_ret
                        exact ⟨ret_bool HC.out.symm, below_drewN HB3.out _⟩
                    · obtain rfl : nv = z := by omega
                      have HC1 : Hid (hfP nv rows x y = true) := Lib.hid (by rw [HCE2.out]; exact rng_of fun z hz => HZ.out z hz)
                      go_wp2
                      go_roundw
                      case rel => exact ⟨y + 1, by omega, by go_num, HB3.out, Lib.hid (STEP.out HC1.out)⟩
                      case measure => simp [intOf]; omega
        · obtain rfl : x = y := by omega
          have HC : Hid (hfX n rows x = true) := Lib.hid (rng_of fun y hy => HY.out y hy)
          go_wp2
          go_roundw
          case rel => exact ⟨x + 1, by omega, by go_num, hq, Lib.hid (step_lt HX.out HC.out)⟩
          case measure => simp [intOf]; omega
    · obtain rfl : n = x := by omega
      have HC : Hid (hfL n rows = true) := Lib.hid (rng_of fun x hx => HX.out x hx)
      go_wp2
      go_ret
      exact ⟨ret_bool HC.out.symm, hq⟩
end Go.Proofs.Ythgafpeblpnolaa

namespace Go.Proofs.Ythgafpeblpnolaa
set_option maxRecDepth 100000
set_option linter.unusedVariables false
set_option linter.unusedSimpArgs false
open Go.RowKit

/-- no fault and nil, or a fault and a list of three -/
def FltN (ok : Bool) (W : World) (e : Ending) (w' : World) : Prop := ((ok = true ∧ e = .returned (.slice none 0 0)) ∨ (ok = false ∧ ∃ b c, e = .returned (.slice (some ⟨b, 0, none⟩) 3 c))) ∧ Below W.heap.size W w'

set_option maxHeartbeats 2000000 in
theorem isPermuted_any (a : Option Addr) (n c : Nat) (p : List Int) (w : World) (h1 : Row w a n p) (hm : n ≤ 1000000) :
    Calls Try.prog 42 #[.slice a n c] w fun e w' => e = .returned (.bool (permOk p)) ∧ Below w.heap.size w w' := by
  have hl := h1.len
  have HL := Lib.hid hl; clear hl
  go_enter Try.func42, Try.ntmps42
  go_wp2_with (at_make; refine makeBo rfl rfl rfl rfl (by omega) ?_; intro w1 ho hs hb)
  go_loopw [11] (fun i wr => ∃ k : Nat, k ≤ n ∧ i = .int .i64 k ∧ Hid (permTo p k) ∧ OwnBo wr w.heap.size (some ⟨w.heap.size, 0, none⟩) n n (seenL p n k) ∧ Below w.heap.size w wr) (fun i _ => n - (intOf i).toNat)
  case atStart => exact ⟨0, Nat.zero_le _, rfl, Lib.hid ⟨fun i h => absurd h (by omega), fun i j h => absurd h (by omega)⟩, by rw [seenL_zero]; exact ho, hb⟩
  case round =>
    clear ho hb
    obtain ⟨k, hk, rfl, hp, ho, hb⟩ := hrel
    by_cases hlt : k < n
    · have hr := h1.below hb
      obtain ⟨b, off, rfl, g1⟩ := hr.at k hlt
      have hx : k < p.length := by have := HL.out; omega
      have hpk : p.getD k 0 = p[k] := by simp [List.getD_eq_getElem?_getD, List.getElem?_eq_getElem hx]
      have wn : IntKind.i64.wrap ((n : Int) - 1) = (n : Int) - 1 := IntWalk.i64_in _ (by omega)
      cases hv : rngB 0 ((n : Int) - 1) (p.getD k 0) with
      | false =>
        have HC := Lib.hid (fun w => within_b (p.getD k 0) 0 ((n : Int) - 1) false hv w)
        have hno : permOk p = false := permOk_out hx (by have h := rngB_f hv; have := HL.out; omega)
        have HN := Lib.hid hno
        clear hv hno hpk
        generalize p.getD k 0 = V at *
        go_wp2_with fail
        refine (HC.out _).mono ?_
        rintro e w2 ⟨rfl, rfl⟩
        go_wp2
        go_ret
        exact ⟨ret_bool HN.out.symm, hb⟩
      | true =>
        have HC := Lib.hid (fun w => within_b (p.getD k 0) 0 ((n : Int) - 1) true hv w)
        have hin : 0 ≤ p.getD k 0 ∧ p.getD k 0 < p.length := by have h := rngB_t hv; have := HL.out; omega
        obtain ⟨X, hX⟩ : ∃ X : Nat, p.getD k 0 = X := ⟨(p.getD k 0).toNat, by omega⟩
        have hXn : X < n := by have := HL.out; omega
        obtain ⟨_, hc, hf⟩ := ho.cells
        have hc1 := hc X hXn
        have hf1 := hf X
        rw [seenL_get p n k X hXn] at hc1
        have HIN := Lib.hid hin
        rw [hX] at g1 HC
        clear hc hf hv hin
        cases hs : (p.take k).contains (X : Int) with
        | true =>
          rw [hs] at hc1
          obtain ⟨i, hi, e⟩ := seen_mem hs (by omega)
          have HN : Hid (permOk p = false) := Lib.hid (permOk_twice hx hi (by rw [e, hX]))
          clear hs e hX hpk
          go_wp2_with fail
          refine (HC.out _).mono ?_
          rintro e w2 ⟨rfl, rfl⟩
          go_wp2
          go_ret
          exact ⟨ret_bool HN.out.symm, hb⟩
        | false =>
          rw [hs] at hc1
          have HT : Hid (permTo p (k + 1)) := Lib.hid (permTo_succ hp.out HIN.out (by rw [hX]; exact not_seen hs (by omega)))
          have HSE : Hid ((seenL p n k).set X true = seenL p n (k + 1)) := Lib.hid (seenL_succ p n k X hx hXn (by rw [← hpk, hX]))
          clear hs hX hpk
          go_wp2_with fail
          refine (HC.out _).mono ?_
          rintro e w2 ⟨rfl, rfl⟩
          go_wp2
          go_roundw
          case rel => exact ⟨k + 1, by omega, by go_num, HT, by rw [← HSE.out]; exact ho.set X true, hb.setCell (by simp) _⟩
          case measure => simp [intOf]; omega
    · obtain rfl : k = n := by omega
      have HP : Hid (permOk p = true) := Lib.hid (permTo_ok (by rw [← HL.out]; exact hp.out))
      go_wp2
      go_ret
      exact ⟨ret_bool HP.out.symm, hb⟩

theorem permRows1_any (a : Option Addr) (n c : Nat) (p : List Int) (w : World) (h1 : Row w a n p) (hm : n ≤ 1000000) :
    Calls Try.prog 71 #[.slice a n c] w fun e w' => e = .returned (.bool (!permOk p)) ∧ Below w.heap.size w w' := by
  go_enter Try.func71, Try.ntmps71
  go_wp2_with fail
  refine (isPermuted_any _ _ _ p _ h1 hm).mono ?_
  rintro e w1 ⟨rfl, hb⟩
  go_wp2
  go_ret
  exact ⟨rfl, hb⟩
theorem ent_permRows1 : Ent 71 := fun _ _ => rfl

set_option maxHeartbeats 1000000 in
theorem permutationRows_any (a : Option Addr) (n c : Nat) (t : List (List Int)) (w : World) (h1 : Tbl w a n t) (hm : n ≤ 9223372036854775807) (hx : ∀ x ∈ t, x.length ≤ 1000000) :
    Calls Try.prog 41 #[.slice a n c] w fun e w' => e = .returned (.bool (t.all permOk)) ∧ Below w.heap.size w w' := by
  have hcl : ∀ x ∈ t, ∀ w1, Below w.heap.size w w1 → ∀ a' n' c', Row w1 a' n' x → n' ≤ 9223372036854775807 → Calls Try.prog 71 (#[.slice a' n' c'] ++ #[]) w1 fun e w' => e = .returned (.bool (!permOk x)) ∧ Below w.heap.size w w' := fun x hxm w1 hb a' n' c' hr _ =>
    (permRows1_any a' n' c' x w1 hr (by have := hx x hxm; have := hr.len; omega)).mono fun e w' ⟨he, hb'⟩ => ⟨he, below_th hb hb'⟩
  have HCL := Lib.hid hcl; clear hcl
  go_enter Try.func41, Try.ntmps41
  go_wp2_with fail
  refine (containsFunc_rows (fun w1 => Below w.heap.size w w1) 71 #[] (fun x => !permOk x) _ _ _ t _ (Below.refl _ _) (fun w1 h => h1.below h) hm ent_permRows1 HCL.out).mono ?_
  rintro e w1 ⟨rfl, hb⟩
  go_wp2
  go_ret
  exact ⟨ret_bool (by simp [List.any_eq_not_all_not]), hb⟩

theorem isRk_no {t : List (List Int)} (h : isTab t = false) : isRk t = false := by unfold isRk; rw [h]; rfl

end Go.Proofs.Ythgafpeblpnolaa

namespace Go.Proofs.Ythgafpeblpnolaa
set_option maxRecDepth 100000
set_option linter.unusedVariables false
set_option linter.unusedSimpArgs false
open Go.RowKit

theorem rowOk_len {n m : Int} {xs : List Int} (h : (xs.length : Int) ≠ n) : rowOk n m xs = false := by unfold rowOk; simp [h]
theorem rowOk_mk {n m : Int} {xs : List Int} (h : (xs.length : Int) = n) : rowOk n m xs = xs.all (rngB 0 (m - 1)) := by unfold rowOk; simp [h]

set_option maxHeartbeats 2000000 in
theorem l01Table_any (a : Option Addr) (n c : Nat) (t : List (List Int)) (w : World) (h1 : Tbl w a n t) (hm : n ≤ 9223372036854775807) :
    Calls Try.prog 112 #[.slice a n c] w fun e w' => e = .returned (.bool (isTab t)) ∧ w = w' := by
  have hl := h1.len
  cases hp : rngB 1 12 n with
  | false =>
    have hq : isTab t = false := by unfold isTab; rw [← hl, hp]; rfl
    have HQ := Lib.hid hq
    have HC := Lib.hid (fun w => l01In_b n 1 12 false hp w); clear hp hl hq
    go_enter Try.func112, Try.ntmps112
    go_wp2_with fail
    refine (HC.out _).mono ?_
    rintro e w' ⟨rfl, rfl⟩
    go_wp2
    go_ret
    exact ⟨ret_bool HQ.out.symm, rfl⟩
  | true =>
    have hn12 : 1 ≤ n ∧ n ≤ 12 := by unfold rngB at hp; simp at hp; omega
    obtain ⟨hn1, hn12⟩ := hn12
    have HC := Lib.hid (fun w => l01In_b n 1 12 true hp w)
    have hq : isTab t = t.all (rowOk n n) := by unfold isTab; rw [← hl, hp]; rfl
    have HQ := Lib.hid hq; have HL := Lib.hid hl; clear hq hl hp
    go_enter Try.func112, Try.ntmps112
    go_wp2_with fail
    refine (HC.out _).mono ?_
    rintro e w' ⟨rfl, rfl⟩
    go_wp2
    go_loop [4] (fun i => ∃ k : Nat, k ≤ n ∧ i = .int .i64 k ∧ Hid ((t.take k).all (rowOk n n) = true)) (fun i => n - (intOf i).toNat)
    case atStart => exact ⟨0, Nat.zero_le _, rfl, Lib.hid (by simp)⟩
    case round =>
      obtain ⟨k, hk, rfl, hall⟩ := hrel
      by_cases hlt : k < n
      · obtain ⟨b, off, ai, ni, ci, rfl, g1, hri, hni⟩ := h1.at k hlt
        have hx : k < t.length := by have := HL.out; omega
        rw [Tbl.getD hx] at hri
        have hll := hri.len
        by_cases hnn : ni = n
        · subst hnn
          have b1 : ((ni : Int) != (ni : Int)) = false := by simp
          have HR : Hid (rowOk ni ni t[k] = t[k].all (rngB 0 ((ni : Int) - 1))) := Lib.hid (rowOk_mk (by omega))
          have HLL := Lib.hid hll; clear hll
          go_wp2
          go_loop [5] (fun i => ∃ j : Nat, j ≤ ni ∧ i = .int .i64 j ∧ Hid ((t[k].take j).all (rngB 0 ((ni : Int) - 1)) = true)) (fun i => ni - (intOf i).toNat)
          case atStart => exact ⟨0, Nat.zero_le _, rfl, Lib.hid (by simp)⟩
          case round =>
            obtain ⟨j, hj, rfl, hin⟩ := hrel
            by_cases hjt : j < ni
            · obtain ⟨b2, o2, rfl, g2⟩ := hri.at j hjt
              have hy : j < t[k].length := by have := HLL.out; omega
              have e : t[k].getD j 0 = t[k][j] := by simp [List.getD_eq_getElem?_getD, List.getElem?_eq_getElem hy]
              rw [e] at g2
              clear h1 hri e
              cases hv : rngB 0 ((ni : Int) - 1) t[k][j] with
              | true =>
                have HD := Lib.hid (fun w => l01In_b t[k][j] 0 ((ni : Int) - 1) true hv w)
                have HV := Lib.hid hv; clear hv
                generalize t[k][j] = V at g2 HD
                go_wp2_with fail
                refine (HD.out _).mono ?_
                rintro e w' ⟨rfl, rfl⟩
                go_wp2
                go_round
                case rel => exact ⟨j + 1, by omega, by go_num, Lib.hid (all_get_succ hy hin.out HV.out)⟩
                case measure => simp [intOf]; omega
              | false =>
                have HD := Lib.hid (fun w => l01In_b t[k][j] 0 ((ni : Int) - 1) false hv w)
                have HV := Lib.hid hv; clear hv
                generalize t[k][j] = V at g2 HD
                go_wp2_with fail
                refine (HD.out _).mono ?_
                rintro e w' ⟨rfl, rfl⟩
                go_wp2
                go_ret
                exact ⟨ret_bool (by rw [HQ.out]; exact (all_no hx (by rw [HR.out]; exact all_no hy HV.out)).symm), rfl⟩
            · obtain rfl : j = ni := by omega
              have ha := hin.out
              rw [List.take_of_length_le (by have := HLL.out; omega)] at ha
              have HA := Lib.hid ha; clear ha
              go_wp2
              go_round
              case rel => exact ⟨k + 1, by omega, by go_num, Lib.hid (all_get_succ hx hall.out (by rw [HR.out]; exact HA.out))⟩
              case measure => simp [intOf]; omega
        · have b1 : ((ni : Int) != (n : Int)) = true := by simp; omega
          have HN : Hid (rowOk n n t[k] = false) := Lib.hid (rowOk_len (by omega))
          clear hll hnn
          go_wp2
          go_ret
          exact ⟨ret_bool (by rw [HQ.out]; exact (all_no hx HN.out).symm), rfl⟩
      · obtain rfl : k = n := by omega
        have ha := hall.out
        rw [List.take_of_length_le (by have := HL.out; omega)] at ha
        have HA := Lib.hid ha; clear ha
        go_wp2
        go_ret
        exact ⟨ret_bool (by rw [HQ.out]; exact HA.out.symm), rfl⟩

set_option maxHeartbeats 1000000 in
theorem l02Map_any (a : Option Addr) (n c : Nat) (a' : Option Addr) (n' c' : Nat) (f g : List (List Int)) (w : World) (h1 : Tbl w a n f) (h2 : Tbl w a' n' g) (hm1 : n ≤ 9223372036854775807) (hm2 : n' ≤ 9223372036854775807) :
    Calls Try.prog 117 #[sAgg a n c a' n' c'] w fun e w' => e = .returned (.bool (isPm f g)) ∧ Below w.heap.size w w' := by
  have hl1 := h1.len
  have hl2 := h2.len
  have HL : Hid (decide (f.length = g.length) = decide (n = n')) := Lib.hid (by rw [← hl1, ← hl2])
  clear hl1 hl2
  cases hf : isTab f with
  | false =>
    have HF := Lib.hid hf; clear hf
    go_enter Try.func117, Try.ntmps117
    go_wp2_with fail
    refine (l01Table_any _ _ _ _ _ (h1.alloc _) hm1).mono ?_
    rintro e w1 ⟨rfl, rfl⟩
    rw [HF.out]
    go_wp2
    go_ret
    exact ⟨ret_bool (by unfold isPm; rw [HF.out]; rfl), below_al (Below.refl _ _) _⟩
  | true =>
    have HF := Lib.hid hf; clear hf
    cases hg : isTab g with
    | false =>
      have HG := Lib.hid hg; clear hg
      go_enter Try.func117, Try.ntmps117
      go_wp2_with fail
      refine (l01Table_any _ _ _ _ _ (h1.alloc _) hm1).mono ?_
      rintro e w1 ⟨rfl, rfl⟩
      rw [HF.out]
      go_wp2_with fail
      refine (l01Table_any _ _ _ _ _ (h2.alloc _) hm2).mono ?_
      rintro e w1 ⟨rfl, rfl⟩
      rw [HG.out]
      go_wp2
      go_ret
      exact ⟨ret_bool (by unfold isPm; rw [HF.out, HG.out]; rfl), below_al (Below.refl _ _) _⟩
    | true =>
      have HG := Lib.hid hg; clear hg
      have HQ : Hid (isPm f g = decide ((n : Int) = (n' : Int))) := Lib.hid (by unfold isPm; rw [HF.out, HG.out, HL.out]; simp [Int.ofNat_inj])
      go_enter Try.func117, Try.ntmps117
      go_wp2_with fail
      refine (l01Table_any _ _ _ _ _ (h1.alloc _) hm1).mono ?_
      rintro e w1 ⟨rfl, rfl⟩
      rw [HF.out]
      go_wp2_with fail
      refine (l01Table_any _ _ _ _ _ (h2.alloc _) hm2).mono ?_
      rintro e w1 ⟨rfl, rfl⟩
      rw [HG.out]
      go_wp2
      go_ret
      exact ⟨ret_bool (by rw [HQ.out]; rfl), below_al (Below.refl _ _) _⟩

end Go.Proofs.Ythgafpeblpnolaa

namespace Go.Proofs.Ythgafpeblpnolaa
set_option maxRecDepth 100000
set_option linter.unusedVariables false
set_option linter.unusedSimpArgs false
open Go.RowKit

set_option maxHeartbeats 1000000 in
theorem l01Perm_any (a : Option Addr) (n c : Nat) (p : List Int) (w : World) (h1 : Row w a n p) (hm : n ≤ 9223372036854775807) :
    Calls Try.prog 72 #[.slice a n c] w fun e w' => e = .returned (.bool (rngB 1 12 n && permOk p)) ∧ w = w' := by
  have hl := h1.len
  cases hv : rngB 1 12 n with
  | false =>
    have HC := Lib.hid (fun w => l01In_b n 1 12 false hv w)
    clear hv hl
    go_enter Try.func72, Try.ntmps72
    go_wp2_with fail
    refine (HC.out _).mono ?_
    rintro e w2 ⟨rfl, rfl⟩
    go_wp2
    go_ret
    exact ⟨rfl, rfl⟩
  | true =>
    have HC := Lib.hid (fun w => l01In_b n 1 12 true hv w)
    have HQ : Hid (permOk p = allN n fun x : Nat => p.contains (x : Int)) := Lib.hid (by unfold permOk; rw [hl])
    have hn12 : 1 ≤ n ∧ n ≤ 12 := by unfold rngB at hv; simp at hv; omega
    clear hv hl
    go_enter Try.func72, Try.ntmps72
    go_wp2_with fail
    refine (HC.out _).mono ?_
    rintro e w2 ⟨rfl, rfl⟩
    go_wp2
    go_loop [4] (fun i => ∃ k : Nat, k ≤ n ∧ i = .int .i64 k ∧ Hid (allN k (fun x : Nat => p.contains (x : Int)) = true)) (fun i => n - (intOf i).toNat)
    case atStart => exact ⟨0, Nat.zero_le _, rfl, Lib.hid rfl⟩
    case round =>
      obtain ⟨k, hk, rfl, hI⟩ := hrel
      by_cases hlt : k < n
      · have hcd : decide ((k : Int) ∈ p) = p.contains (k : Int) := by rw [Bool.eq_iff_iff]; simp
        have HH := Lib.hid (l01Has_any a n c p (k : Int) w h1 (by omega))
        cases hc : p.contains (k : Int) with
        | true =>
          rw [hc] at hcd
          have HD := Lib.hid hcd; have HCC := Lib.hid hc
          clear hc hcd
          go_wp2_with fail
          refine HH.out.mono ?_
          rintro e w2 ⟨rfl, rfl⟩
          rw [HD.out]
          go_wp2
          go_round
          case rel => exact ⟨k + 1, by omega, by go_num, Lib.hid (allN_succ hI.out HCC.out)⟩
          case measure => simp [intOf]; omega
        | false =>
          rw [hc] at hcd
          have HD := Lib.hid hcd; have HCC := Lib.hid hc
          clear hc hcd
          go_wp2_with fail
          refine HH.out.mono ?_
          rintro e w2 ⟨rfl, rfl⟩
          rw [HD.out]
          go_wp2
          go_ret
          exact ⟨ret_bool (by rw [HQ.out, allN_no hlt HCC.out]; rfl), rfl⟩
      · obtain rfl : k = n := by omega
        go_wp2
        go_ret
        exact ⟨ret_bool ((congrArg (fun b => true && b) (HQ.out.trans hI.out)).symm), rfl⟩

end Go.Proofs.Ythgafpeblpnolaa

namespace Go.Proofs.Ythgafpeblpnolaa
set_option maxRecDepth 100000
set_option linter.unusedVariables false
set_option linter.unusedSimpArgs false
open Go.RowKit

/-- all rows are permutations -/
def RwsP (n : Nat) (t : List (List Int)) : Prop := t.length = n ∧ ∀ i, i < n → IsP n (t.getD i [])
theorem RwsP.sq {n : Nat} {t : List (List Int)} (h : RwsP n t) : Sq n t := by
  refine ⟨h.1, fun x hx => ⟨(h.2 x hx).len, fun y hy => ?_⟩⟩
  obtain ⟨z, hz, hzn⟩ := (h.2 x hx).at hy
  have : tv t x y = z := by unfold tv; rw [hz, Int.toNat_natCast]
  rw [this]; exact ⟨hzn, hz⟩
def sqrL (n : Nat) (t : List (List Int)) : List Int := (List.range n).map fun x : Nat => cyV t x x
theorem sqrL_len (n : Nat) (t : List (List Int)) : (sqrL n t).length = n := by simp [sqrL]
theorem sqrL_succ (n : Nat) (t : List (List Int)) : sqrL (n + 1) t = sqrL n t ++ [cyV t n n] := by simp [sqrL, List.range_succ]
def cyfP (t : List (List Int)) (x y z : Nat) : Bool := decide (cyV t (cyV t x y).toNat (cyV t x z).toNat = cyV t (cyV t y x).toNat (cyV t y z).toNat)
def cyfY (n : Nat) (t : List (List Int)) (x y : Nat) : Bool := (List.range n).all fun z => cyfP t x y z
def cyfX (n : Nat) (t : List (List Int)) (x : Nat) : Bool := (List.range n).all fun y => cyfY n t x y
def cyfOk (n : Nat) (t : List (List Int)) : Bool := (List.range n).all fun x => cyfX n t x
def isCyc (n : Nat) (t : List (List Int)) : Bool := permOk (sqrL n t) && cyfOk n t
theorem isP_perm {n : Nat} {p : List Int} (h : IsP n p) : permOk p = true := by
  obtain ⟨f, g, hl, h1, h2⟩ := h
  unfold permOk allN
  rw [List.all_eq_true]
  intro x hx
  have hx := List.mem_range.1 hx
  rw [hl] at hx
  have h3 := h1 x hx
  have h4 := h2 (g x) h3.2.1
  rw [h3.2.2.1] at h4
  rw [List.contains_iff_mem, ← h4]
  exact getD_mem (by omega)

set_option maxHeartbeats 4000000 in
theorem l01RowsP_any (n : Nat) (a : Option Addr) (c : Nat) (t : List (List Int)) (w : World) (h : Tbl w a n t) (hn0 : 1 ≤ n) (hn : n ≤ 12) (hp : RwsP n t) :
    Calls Try.prog 113 #[.slice a n c] w fun e w' => e = .returned (.bool true) ∧ w = w' := by
  have HP := Lib.hid hp
  have hr12 : rngB 1 12 (n : Int) = true := by unfold rngB; simp; omega
  have HR := Lib.hid hr12
  clear hp hr12
  go_enter Try.func113, Try.ntmps113
  go_wp2
  go_loop [3] (fun i => ∃ k : Nat, k ≤ n ∧ i = .int .i64 k) (fun i => n - (intOf i).toNat)
  case atStart => exact ⟨0, Nat.zero_le _, rfl⟩
  case round =>
    obtain ⟨k, hk, rfl⟩ := hrel
    by_cases hlt : k < n
    · obtain ⟨b, off, ax, nx, cx, rfl, g0, r1, l1⟩ := h.at k hlt
      have hpx := HP.out.2 k hlt
      obtain rfl : n = nx := by have := r1.len; rw [hpx.len] at this; exact this.symm
      have HC : Hid (permOk (t.getD k []) = true) := Lib.hid (isP_perm hpx)
      clear hpx
      go_wp2_with fail
      refine (l01Perm_any _ _ _ _ _ r1 (by omega)).mono ?_
      rintro e w2 ⟨rfl, rfl⟩
      rw [HR.out, HC.out]
      go_wp2
      go_round
      case rel => exact ⟨k + 1, by omega, by go_num⟩
      case measure => simp [intOf]; omega
    · obtain rfl : n = k := by omega
      go_wp2
      go_ret
      exact ⟨rfl, rfl⟩

set_option maxHeartbeats 4000000 in
theorem l05Squares_any (n : Nat) (a : Option Addr) (c : Nat) (t : List (List Int)) (w : World) (h : Tbl w a n t) (hn : n ≤ 12) (hp : RwsP n t) :
    Calls Try.prog 114 #[.slice a n c] w fun e w' => ∃ a' c', e = .returned (.slice a' n c') ∧ Own w' w.heap.size a' n c' (sqrL n t) ∧ Below w.heap.size w w' := by
  have HP := Lib.hid hp
  clear hp
  go_enter Try.func114, Try.ntmps114
  go_wp2
  go_loopw [3, 4] (fun s i wr => ∃ (k : Nat) (a' : Option Addr) (c' : Nat), k ≤ n ∧ i = .int .i64 k ∧ s = .slice a' k c' ∧ Own wr w.heap.size a' k c' (sqrL k t) ∧ Below w.heap.size w wr) (fun _ i _ => n - (intOf i).toNat)
  case atStart => exact ⟨0, _, _, Nat.zero_le _, rfl, rfl, Own.fresh w rfl, below_al (Below.refl _ _) _⟩
  case round =>
    obtain ⟨k, a', c', hk, rfl, rfl, ho, hq⟩ := hrel
    have hwq := hq.size
    by_cases hlt : k < n
    · obtain ⟨b, off, ax, nx, cx, rfl, g0, r1, l1⟩ := h.at k hlt
      have hpx := HP.out.2 k hlt
      obtain rfl : n = nx := by have := r1.len; rw [hpx.len] at this; exact this.symm
      obtain ⟨bx, ox, rfl, gs⟩ := (r1.below hq).at k hlt
      have g1 := (hq.cell (p := ⟨b, off + k, none⟩) (World.block_lt_of_cell? w _ g0)).trans g0
      obtain ⟨v, HV⟩ : ∃ v, Hid ((t.getD k []).getD k 0 = v) := ⟨_, rfl⟩
      rw [HV.out] at gs
      have HS : Hid (sqrL (k + 1) t = sqrL k t ++ [v]) := Lib.hid (by rw [sqrL_succ, ← HV.out]; rfl)
      have i1 : (0 : Int) ≤ (k : Int) := by omega
      have i2 : (k : Int) < (n : Int) := by omega
      clear hpx
      go_wp2_with (at_builtin; refine app1 rfl rfl ho rfl rfl (by omega) hwq ?_; intro g' cc w8 hO hg8 hs8 hb8)
      go_roundw
      case rel => exact ⟨k + 1, _, cc, by omega, by go_num, rfl, by rw [HS.out]; exact hO, hq.trans hb8⟩
      case measure => simp [intOf]; omega
    · obtain rfl : n = k := by omega
      go_wp2
      go_ret
      exact ⟨_, _, rfl, ho, hq⟩

set_option maxHeartbeats 16000000 in
theorem l05Fault_any (n : Nat) (a : Option Addr) (c : Nat) (t : List (List Int)) (w : World) (h : Tbl w a n t) (hn : n ≤ 12) (hp : RwsP n t) :
    Calls Try.prog 115 #[.slice a n c] w fun e w' => ∃ a' m c', e = .returned (.slice a' m c') ∧ decide (m = 0) = cyfOk n t ∧ Below w.heap.size w w' := by
  have HP := Lib.hid hp
  clear hp
  have i0 : wrap64 (n : Int) = n := IntWalk.wrap64_in _ ⟨by omega, by omega⟩
  go_enter Try.func115, Try.ntmps115
  go_wp2
  go_loopw [4, 5, 6] (fun i _ _ wr => ∃ x : Nat, x ≤ n ∧ i = .int .i64 x ∧ Below w.heap.size w wr ∧ Hid (∀ x', x' < x → cyfX n t x' = true)) (fun i _ _ _ => n - (intOf i).toNat)
  case atStart => exact ⟨0, Nat.zero_le _, rfl, Below.refl _ _, Lib.hid fun x' hx => absurd hx (by omega)⟩
  case round =>
    obtain ⟨x, hx, rfl, hq, HX⟩ := hrel
    by_cases hlt : x < n
    · go_wp2
      go_loopw [5, 6] (fun j _ wr => ∃ y : Nat, y ≤ n ∧ j = .int .i64 y ∧ Below w.heap.size w wr ∧ Hid (∀ y', y' < y → cyfY n t x y' = true)) (fun j _ _ => n - (intOf j).toNat)
      case atStart => exact ⟨0, Nat.zero_le _, rfl, hq, Lib.hid fun x' hx => absurd hx (by omega)⟩
      case round =>
        clear hq
        obtain ⟨y, hy, rfl, hq, HY⟩ := hrel
        by_cases hly : y < n
        · go_wp2
          go_loopw [6] (fun i wr => ∃ z : Nat, z ≤ n ∧ i = .int .i64 z ∧ Below w.heap.size w wr ∧ Hid (∀ z', z' < z → cyfP t x y z' = true)) (fun i _ => n - (intOf i).toNat)
          case atStart => exact ⟨0, Nat.zero_le _, rfl, hq, Lib.hid fun x' hx => absurd hx (by omega)⟩
          case round =>
            clear hq
            obtain ⟨z, hz, rfl, hq, HZ⟩ := hrel
            by_cases hlz : z < n
            · obtain ⟨b, off, ax, nx, cx, rfl, g10, r1, l1⟩ := h.at x hlt
              obtain ⟨b2, off2, ay, ny, cy, e2, g20, r2, l2⟩ := h.at y hly
              cases e2
              have hpx := HP.out.2 x hlt
              have hpy := HP.out.2 y hly
              obtain rfl : n = nx := by have := r1.len; rw [hpx.len] at this; exact this.symm
              obtain rfl : n = ny := by have := r2.len; rw [hpy.len] at this; exact this.symm
              obtain ⟨u, hu, hun⟩ := hpx.at hly
              obtain ⟨v, hv, hvn⟩ := hpy.at hlt
              obtain ⟨pz, hpz, hpzn⟩ := hpx.at hlz
              obtain ⟨qz, hqz, hqzn⟩ := hpy.at hlz
              obtain ⟨b4, o4, au, nu, cu, e4, g40, ru, lu⟩ := h.at u hun
              cases e4
              obtain ⟨b5, o5, av, nv, cv, e5, g50, rv, lv⟩ := h.at v hvn
              cases e5
              obtain rfl : n = nu := by have := ru.len; rw [(HP.out.2 u hun).len] at this; exact this.symm
              obtain rfl : n = nv := by have := rv.len; rw [(HP.out.2 v hvn).len] at this; exact this.symm
              have HQ := Lib.hid hq
              have g1 := (hq.cell (p := ⟨b, off + x, none⟩) (World.block_lt_of_cell? w _ g10)).trans g10
              have g2 := (hq.cell (p := ⟨b, off + y, none⟩) (World.block_lt_of_cell? w _ g20)).trans g20
              have g4 := (hq.cell (p := ⟨b, off + u, none⟩) (World.block_lt_of_cell? w _ g40)).trans g40
              have g5 := (hq.cell (p := ⟨b, off + v, none⟩) (World.block_lt_of_cell? w _ g50)).trans g50
              obtain ⟨bx, ox, rfl, gu⟩ := (r1.below hq).at y hly
              obtain ⟨by_, oy, rfl, gv⟩ := (r2.below hq).at x hlt
              obtain ⟨bx', ox', e6, gp⟩ := (r1.below hq).at z hlz
              cases e6
              obtain ⟨by', oy', e7, gq⟩ := (r2.below hq).at z hlz
              cases e7
              obtain ⟨bu, ou, rfl, gup⟩ := (ru.below hq).at pz hpzn
              obtain ⟨bv, ov, rfl, gvq⟩ := (rv.below hq).at qz hqzn
              rw [hu] at gu
              rw [hv] at gv
              rw [hpz] at gp
              rw [hqz] at gq
              obtain ⟨A, HA⟩ : ∃ A, Hid ((t.getD u []).getD pz 0 = A) := ⟨_, rfl⟩
              obtain ⟨B, HBB⟩ : ∃ B, Hid ((t.getD v []).getD qz 0 = B) := ⟨_, rfl⟩
              rw [HA.out] at gup
              rw [HBB.out] at gvq
              have k1 : (0 : Int) ≤ (x : Int) := by omega
              have k2 : (x : Int) < (n : Int) := by omega
              have k3 : (0 : Int) ≤ (y : Int) := by omega
              have k4 : (y : Int) < (n : Int) := by omega
              have k5 : (0 : Int) ≤ (z : Int) := by omega
              have k6 : (z : Int) < (n : Int) := by omega
              have m1 : (0 : Int) ≤ (u : Int) := by omega
              have m2 : (u : Int) < (n : Int) := by omega
              have m3 : (0 : Int) ≤ (v : Int) := by omega
              have m4 : (v : Int) < (n : Int) := by omega
              have m5 : (0 : Int) ≤ (pz : Int) := by omega
              have m6 : (pz : Int) < (n : Int) := by omega
              have m7 : (0 : Int) ≤ (qz : Int) := by omega
              have m8 : (qz : Int) < (n : Int) := by omega
              have HZE : Hid (cyfP t x y z = decide (A = B)) := Lib.hid (by
                unfold cyfP
                rw [show cyV t x y = (u : Int) from hu, show cyV t y x = (v : Int) from hv, show cyV t x z = (pz : Int) from hpz, show cyV t y z = (qz : Int) from hqz, Int.toNat_natCast, Int.toNat_natCast, Int.toNat_natCast, Int.toNat_natCast]
                rw [show cyV t u pz = A from HA.out, show cyV t v qz = B from HBB.out])
              clear hu hv hpz hqz hpx hpy hq
              by_cases hAB : A = B
              · subst hAB
                have t1 : (A != A) = false := by simp
                go_wp2
                go_quiet (fail)
                go_wp2
                go_roundw
                case rel => exact ⟨z + 1, by omega, by go_num, below_drewN HQ.out _, Lib.hid (step_lt HZ.out (by rw [HZE.out]; simp))⟩
                case measure => simp [intOf]; omega
              · have t1 : (A != B) = true := by simp [hAB]
                have HC : Hid (cyfOk n t = false) := Lib.hid (by
                  refine rng_no (y := x) hlt ?_
                  refine rng_no (y := y) hly ?_
                  exact rng_no (y := z) hlz (by rw [HZE.out]; simp [hAB]))
                go_wp2
                go_quiet (fail)
                go_wp2
                go_ret
                exact ⟨_, 3, _, rfl, by rw [HC.out]; rfl, below_al (below_drewN HQ.out _) _⟩
            · obtain rfl : n = z := by omega
              have HC1 : Hid (cyfY n t x y = true) := Lib.hid (rng_of fun z hz => HZ.out z hz)
              go_wp2
              go_roundw
              case rel => exact ⟨y + 1, by omega, by go_num, hq, Lib.hid (step_lt HY.out HC1.out)⟩
              case measure => simp [intOf]; omega
        · obtain rfl : n = y := by omega
          have HC1 : Hid (cyfX n t x = true) := Lib.hid (rng_of fun z hz => HY.out z hz)
          go_wp2
          go_roundw
          case rel => exact ⟨x + 1, by omega, by go_num, hq, Lib.hid (step_lt HX.out HC1.out)⟩
          case measure => simp [intOf]; omega
    · obtain rfl : n = x := by omega
      have HC : Hid (cyfOk n t = true) := Lib.hid (rng_of fun x hx => HX.out x hx)
      go_wp2
      go_ret
      exact ⟨_, 0, _, rfl, by rw [HC.out]; rfl, below_al hq _⟩

set_option maxHeartbeats 4000000 in
theorem l05IsP_any (n : Nat) (a : Option Addr) (c : Nat) (t : List (List Int)) (w : World) (h : Tbl w a n t) (hn0 : 1 ≤ n) (hn : n ≤ 12) (hp : RwsP n t) :
    Calls Try.prog 86 #[rAgg a n c] w fun e w' => e = .returned (.bool (isCyc n t)) ∧ Below w.heap.size w w' := by
  have hT : isTab t = true := sq_isTab hp.sq hn0 hn
  have HT := Lib.hid hT; have HP := Lib.hid hp
  have hr12 : rngB 1 12 (n : Int) = true := by unfold rngB; simp; omega
  have HR := Lib.hid hr12
  clear hT hp hr12
  have hA := Loc.new w rfl #[.slice a n c] 43
  have lA := hA.one
  have hB := below_al (Below.refl w.heap.size w) (.cells #[.slice a n c] 43)
  have t0 := h.alloc (.cells #[.slice a n c] 43)
  go_enter Try.func86, Try.ntmps86
  go_wp2_with fail
  refine (l01Table_any _ _ _ _ _ t0 (by omega)).mono ?_
  rintro e w1 ⟨rfl, rfl⟩
  rw [HT.out]
  go_wp2_with fail
  refine (l01RowsP_any _ _ _ _ _ t0 hn0 hn HP.out).mono ?_
  rintro e w1 ⟨rfl, rfl⟩
  go_wp2_with fail
  refine (l05Squares_any _ _ _ _ _ t0 hn HP.out).mono ?_
  rintro e w2 ⟨a2, c2, rfl, ho2, hb2⟩
  have lA2 := (hA.below hb2 hA.lt).one
  have hB2 := below_th hB hb2
  cases hpo : permOk (sqrL n t) with
  | false =>
    have HC : Hid (isCyc n t = false) := Lib.hid (by unfold isCyc; rw [hpo]; rfl)
    have HPO := Lib.hid hpo
    clear hpo
    go_wp2_with fail
    refine (l01Perm_any _ _ _ _ _ ho2.row (by omega)).mono ?_
    rintro e w3 ⟨rfl, rfl⟩
    rw [HR.out, HPO.out]
    go_wp2
    go_ret
    exact ⟨ret_bool HC.out.symm, hB2⟩
  | true =>
    have HC : Hid (isCyc n t = cyfOk n t) := Lib.hid (by unfold isCyc; rw [hpo]; rfl)
    have HPO := Lib.hid hpo
    clear hpo
    go_wp2_with fail
    refine (l01Perm_any _ _ _ _ _ ho2.row (by omega)).mono ?_
    rintro e w3 ⟨rfl, rfl⟩
    rw [HR.out, HPO.out]
    go_wp2_with fail
    refine (l05Fault_any _ _ _ _ _ (t0.below hb2) hn HP.out).mono ?_
    rintro e w4 ⟨a4, m4, c4, rfl, hm4, hb4⟩
    have HM4 := Lib.hid hm4
    clear hm4
    have hB4 := below_th hB2 hb4
    rcases Nat.eq_zero_or_pos m4 with rfl | hpos
    · have t0' : ((0 : Int) == 0) = true := rfl
      go_wp2
      go_ret
      exact ⟨ret_bool (by rw [HC.out, ← HM4.out]; rfl), hB4⟩
    · have t0' : ((m4 : Int) == 0) = false := by simp; omega
      go_wp2
      go_ret
      exact ⟨ret_bool (by rw [HC.out, ← HM4.out]; simp; omega), hB4⟩
end Go.Proofs.Ythgafpeblpnolaa

namespace Go.Proofs.Ythgafpeblpnolaa
set_option maxRecDepth 100000
set_option linter.unusedVariables false
set_option linter.unusedSimpArgs false
open Go.RowKit

section
variable {w w' : World} {lo : Nat} {a : Option Addr} {n c : Nat} {us : List TV} {ts : List (List (List Int))}
end

end Go.Proofs.Ythgafpeblpnolaa

namespace Go.Proofs.Ythgafpeblpnolaa
set_option maxRecDepth 100000
set_option linter.unusedVariables false
set_option linter.unusedSimpArgs false
open Go.RowKit

/-- is a table its own least form? -/
def lstB (n : Nat) (t : List (List Int)) : Bool := decide (t = leastL n t)
set_option maxHeartbeats 2000000 in
theorem isLeast_any (N : Nat) (at_ : Option Addr) (ct : Nat) (t : List (List Int)) (w : World) (h1 : 1 ≤ N) (h4 : N ≤ 4) (hT : Tbl w at_ N t) (hs : Sq N t) :
    Calls Try.prog 31 #[.slice at_ N ct] w fun e w' => e = .returned (.bool (lstB N t)) ∧ Below w.heap.size w w' := by
  have HS := Lib.hid hs; clear hs
  obtain ⟨B, HB⟩ : ∃ B, Hid (lstB N t = B) := ⟨_, rfl⟩
  rw [HB.out]
  go_enter Try.func31, Try.ntmps31
  go_wp2_with fail
  refine (leastTable_any N at_ ct t w h1 h4 hT HS.out).mono ?_
  rintro e w1 ⟨a, c, vs, rfl, ho, hb⟩
  go_wp2_with fail
  refine (equalTables_any _ _ _ _ _ _ _ _ w1 (hT.below hb) ho.tbl (by omega)).mono ?_
  rintro e w2 ⟨rfl, rfl⟩
  go_wp2
  go_ret
  exact ⟨ret_bool (by rw [← HB.out]; rfl), hb⟩

theorem rowG_mem {ps : List (List Int)} {fits : List (List Int) → Bool} : ∀ (m : Nat) (o t : List (List Int)), t ∈ rowG ps fits m o → ∃ r, t = o ++ r ∧ r.length = m ∧ ∀ p ∈ r, p ∈ ps := by
  intro m
  induction m with
  | zero => intro o t h; simp [rowG] at h; exact ⟨[], by simp [h], rfl, by simp⟩
  | succ m ih =>
    intro o t h
    simp only [rowG, List.mem_flatMap] at h
    obtain ⟨p, hp, ht⟩ := h
    split at ht
    · obtain ⟨r, h1, h2, h3⟩ := ih _ _ ht
      exact ⟨p :: r, by rw [h1]; simp, by simp [h2], fun q hq => by
        rcases List.mem_cons.1 hq with e | e
        · rw [e]; exact hp
        · exact h3 q e⟩
    · simp at ht
theorem rows_rwsP {n : Nat} (h1 : 1 ≤ n) (h4 : n ≤ 4) {r : List (List Int)} (hl : r.length = n) (hm : ∀ p ∈ r, p ∈ prmL n) : RwsP n r := by
  refine ⟨hl, fun i hi => ?_⟩
  have := hm r[i] (List.getElem_mem (by omega))
  obtain ⟨j, hj, ej⟩ := List.getElem_of_mem this
  have h := prm_isP h1 h4 j hj
  rw [List.getD_eq_getElem?_getD, List.getElem?_eq_getElem hj, Option.getD_some, ej] at h
  rw [List.getD_eq_getElem?_getD, List.getElem?_eq_getElem (by omega), Option.getD_some]
  exact h
theorem rowL_rwsP {n : Nat} (h1 : 1 ≤ n) (h4 : n ≤ 4) {fits : List (List Int) → Bool} {i : Nat} (hi : i < (rowL n fits).length) : RwsP n ((rowL n fits).getD i []) := by
  rw [List.getD_eq_getElem?_getD, List.getElem?_eq_getElem hi, Option.getD_some]
  obtain ⟨r, e, hl, hm⟩ := rowG_mem _ _ _ (List.getElem_mem hi)
  rw [List.nil_append] at e
  rw [e]
  exact rows_rwsP h1 h4 hl hm
theorem filter_take_succ {α : Type} (p : α → Bool) (l : List α) (d : α) {k : Nat} (h : k < l.length) : (l.take (k + 1)).filter p = (l.take k).filter p ++ if p (l.getD k d) then [l.getD k d] else [] := by
  rw [List.take_succ_eq_append_getElem h, List.filter_append]
  simp only [List.getD_eq_getElem?_getD, List.getElem?_eq_getElem h, Option.getD_some, List.filter_cons, List.filter_nil]

end Go.Proofs.Ythgafpeblpnolaa

namespace Go.Proofs.Ythgafpeblpnolaa
set_option maxRecDepth 100000
set_option linter.unusedVariables false
set_option linter.unusedSimpArgs false

/-- all rows of m numbers below n -/
def allRw (n : Nat) : Nat → List (List Int)
  | 0 => [[]]
  | m + 1 => (List.range n).flatMap fun (x : Nat) => (allRw n m).map fun l => (x : Int) :: l
theorem allRw_of {n : Nat} : ∀ (m : Nat) (p : List Int), p.length = m → (∀ x ∈ p, 0 ≤ x ∧ x < n) → p ∈ allRw n m := by
  intro m
  induction m with
  | zero => intro p h _; rw [List.length_eq_zero_iff] at h; subst h; simp [allRw]
  | succ m ih =>
    intro p h hp
    match p, h with
    | x :: p, h =>
      have hx := hp x (by simp)
      simp only [allRw, List.mem_flatMap, List.mem_range, List.mem_map]
      exact ⟨x.toNat, by omega, p, ih p (by simpa using h) (fun y hy => hp y (by simp [hy])), by rw [show ((x.toNat : Nat) : Int) = x by omega]⟩
theorem rw_prm : ∀ n : Fin 5, ((allRw n.1 n.1).all fun p => !permOk p || (prmL n.1).contains p) = true := by decide +kernel
theorem prm_of {n : Nat} (h4 : n ≤ 4) {p : List Int} (hl : p.length = n) (hp : ∀ x ∈ p, 0 ≤ x ∧ x < n) (h : permOk p = true) : p ∈ prmL n := by
  have := List.all_eq_true.1 (rw_prm ⟨n, by omega⟩) p (allRw_of n p hl hp)
  rw [h] at this
  simpa using this
theorem allT_of {ps : List (List Int)} : ∀ (m : Nat) (o r : List (List Int)), r.length = m → (∀ p ∈ r, p ∈ ps) → o ++ r ∈ allT ps m o := by
  intro m
  induction m with
  | zero => intro o r h _; rw [List.length_eq_zero_iff] at h; subst h; simp [allT]
  | succ m ih =>
    intro o r h hp
    match r, h with
    | p :: r, h =>
      simp only [allT, List.mem_flatMap]
      refine ⟨p, hp p (by simp), ?_⟩
      have := ih (o ++ [p]) r (by simpa using h) (fun q hq => hp q (by simp [hq]))
      simpa using this
theorem chkR_mono (o r : List (List Int)) (h : chkR (o ++ r) = true) : chkR o = true := by
  have hd : ∀ x, x < o.length → (o ++ r).getD x [] = o.getD x [] := fun x hx => by simp [List.getD_eq_getElem?_getD, List.getElem?_append_left hx]
  refine chkR_of fun x hx => chkX_of fun y hy => ?_
  have h1 := List.all_eq_true.1 h x (List.mem_range.2 (by simp; omega))
  have h2 := List.all_eq_true.1 h1 y (List.mem_range.2 (by simp; omega))
  simp only [chkP, hd x hx, hd y hy] at h2 ⊢
  generalize ((o.getD x []).getD y 0).toNat = z at h2 ⊢
  by_cases hz : o.length ≤ z
  · rw [decide_eq_true hz]; rfl
  · rw [hd _ (by omega)] at h2
    rw [decide_eq_false (show ¬ (o ++ r).length ≤ z by simp; omega), Bool.false_or] at h2
    rw [h2, Bool.or_true]
theorem rk_chk {t : List (List Int)} (hs : Sq t.length t) (h : rkOk t.length t = true) : chkR t = true := by
  refine chkR_of fun x hx => chkX_of fun y hy => ?_
  have hz := (hs.2 x hx).2 y hy
  have e : ((t.getD x []).getD y 0).toNat = tv t x y := rfl
  simp only [chkP, e]
  rw [Bool.or_eq_true]
  refine .inr (decide_eq_true ?_)
  apply List.ext_getElem
  · rw [thL_len, thL_len, (hs.2 x hx).1, (hs.2 y hy).1]
  · intro i h1 h2
    rw [thL_len, (hs.2 x hx).1] at h1
    have hr := of_decide_eq_true (allN_get (allN_get (allN_get h hx) hy) h1)
    have g1 : ∀ a b, a < t.length → b < t.length → (t.getD a []).getD b 0 = ((tv t a b : Nat) : Int) := fun a b ha hb => ((hs.2 a ha).2 b hb).2
    have g2 : ∀ a b (hb : b < (t.getD a []).length), a < t.length → (t.getD a [])[b] = ((tv t a b : Nat) : Int) := fun a b hb ha => by
      rw [← g1 a b ha (by rw [(hs.2 a ha).1] at hb; exact hb), List.getD_eq_getElem?_getD (l := t.getD a []), List.getElem?_eq_getElem hb]; rfl
    simp only [thL, List.getElem_map]
    rw [g2 _ _ _ hx, g2 _ _ _ hy, Int.toNat_natCast, Int.toNat_natCast, g1 _ _ hz.1 ((hs.2 x hx).2 i h1).1, g1 _ _ hx ((hs.2 y hy).2 i h1).1, hr]
theorem rk_in {t : List (List Int)} (h : isRk t = true) (h4 : t.length ≤ 4) : t ∈ rowL t.length chkR := by
  obtain ⟨q1, q2, q3⟩ := isRk_parts h
  obtain ⟨h1, _, hs⟩ := isTab_sq q1
  rw [rowL_filter h1 chkR_mono, List.mem_filter]
  refine ⟨?_, rk_chk hs q3⟩
  have := allT_of (ps := prmL t.length) t.length [] t rfl (fun p hp => ?_)
  · simpa using this
  · obtain ⟨i, hi, rfl⟩ := List.getElem_of_mem hp
    have hh := hs.2 i hi
    rw [List.getD_eq_getElem?_getD, List.getElem?_eq_getElem hi] at hh
    simp only [Option.getD_some] at hh
    refine prm_of h4 hh.1 (fun x hx => ?_) (List.all_eq_true.1 q2 _ hp)
    obtain ⟨j, hj, rfl⟩ := List.getElem_of_mem hx
    have := hh.2 j (by omega)
    rw [List.getD_eq_getElem?_getD, List.getElem?_eq_getElem hj] at this
    simp only [Option.getD_some] at this
    rw [this.2]; omega
end Go.Proofs.Ythgafpeblpnolaa

namespace Go.Proofs.Ythgafpeblpnolaa
set_option maxRecDepth 100000
set_option linter.unusedVariables false
set_option linter.unusedSimpArgs false

theorem lst_in : ∀ n : Fin 5, 1 ≤ n.1 → ((rowL n.1 chkR).all fun t => (rowL n.1 chkR).contains (leastL n.1 t) && lstB n.1 (leastL n.1 t)) = true := by decide +kernel
theorem least_in {t : List (List Int)} (h : isRk t = true) (h4 : t.length ≤ 4) : leastL t.length t ∈ (rowL t.length chkR).filter (lstB t.length) := by
  have h1 := (isTab_sq (isRk_parts h).1).1
  have := List.all_eq_true.1 (lst_in ⟨t.length, by omega⟩ h1) t (rk_in h h4)
  rw [Bool.and_eq_true] at this
  exact List.mem_filter.2 ⟨by simpa using this.1, this.2⟩
end Go.Proofs.Ythgafpeblpnolaa

namespace Go.Proofs.Ythgafpeblpnolaa
set_option maxRecDepth 100000
set_option linter.unusedVariables false
set_option linter.unusedSimpArgs false
open Go.RowKit

/-- a slice of tables that is read -/
def TbS (w : World) (a : Option Addr) (n : Nat) (ts : List (List (List Int))) : Prop :=
  n = ts.length ∧ ∀ i, i < n → ∃ b off ai ni ci, a = some ⟨b, off, none⟩ ∧ b < w.heap.size ∧ w.cell? ⟨b, off + i, none⟩ = some (.slice ai ni ci) ∧ Tbl w ai ni (ts.getD i []) ∧ ni ≤ 9223372036854775807
theorem TbS.len {w : World} {a : Option Addr} {n : Nat} {ts : List (List (List Int))} (h : TbS w a n ts) : n = ts.length := h.1
theorem TbS.at {w : World} {a : Option Addr} {n : Nat} {ts : List (List (List Int))} (h : TbS w a n ts) (i : Nat) (hi : i < n) : ∃ b off ai ni ci, a = some ⟨b, off, none⟩ ∧ w.cell? ⟨b, off + i, none⟩ = some (.slice ai ni ci) ∧ Tbl w ai ni (ts.getD i []) ∧ ni ≤ 9223372036854775807 := by
  obtain ⟨b, off, ai, ni, ci, h1, _, h2⟩ := h.2 i hi; exact ⟨b, off, ai, ni, ci, h1, h2⟩
theorem TbS.below {w w' : World} {a : Option Addr} {n : Nat} {ts : List (List (List Int))} (h : TbS w a n ts) (hb : Below w.heap.size w w') : TbS w' a n ts :=
  ⟨h.1, fun i hi => by obtain ⟨b, off, ai, ni, ci, h1, h3, h2, h4, h5⟩ := h.2 i hi; exact ⟨b, off, ai, ni, ci, h1, Nat.lt_of_lt_of_le h3 hb.size, (hb.cell (p := ⟨b, off + i, none⟩) h3).trans h2, h4.below hb, h5⟩⟩
theorem TbS.drewN {w : World} {a : Option Addr} {n : Nat} {ts : List (List (List Int))} (h : TbS w a n ts) (k : Nat) : TbS (w.drewN k) a n ts := h
theorem TbS.alloc {w : World} {a : Option Addr} {n : Nat} {ts : List (List (List Int))} (h : TbS w a n ts) (o : Obj) : TbS (w.alloc o) a n ts := h.below ((Below.refl _ _).alloc (Nat.le_refl _) o)

def befT (r : Bool) : List (List Int) → List (List Int) → Bool
  | [], _ => r
  | _ :: _, [] => r
  | x :: t, y :: s => if cmpL x y = 0 then befT r t s else decide (cmpL x y < 0)
def befS : List (List (List Int)) → List (List (List Int)) → Bool
  | [], _ => false
  | _ :: _, [] => false
  | t :: us, s :: bs => befT (befS us bs) t s
theorem befT_step {r : Bool} {t s : List (List Int)} {k : Nat} (hx : k < t.length) (hy : k < s.length) : befT r (t.drop k) (s.drop k) = if cmpL (t.getD k []) (s.getD k []) = 0 then befT r (t.drop (k + 1)) (s.drop (k + 1)) else decide (cmpL (t.getD k []) (s.getD k []) < 0) := by
  rw [List.drop_eq_getElem_cons hx, List.drop_eq_getElem_cons hy]
  simp [befT, List.getD_eq_getElem?_getD, List.getElem?_eq_getElem hx, List.getElem?_eq_getElem hy]
theorem befT_end {r : Bool} {t s : List (List Int)} {k : Nat} (hx : t.length ≤ k) : befT r (t.drop k) (s.drop k) = r := by
  rw [List.drop_of_length_le hx]; cases s.drop k <;> rfl
theorem befS_step {us bs : List (List (List Int))} {k : Nat} (hx : k < us.length) (hy : k < bs.length) : befS (us.drop k) (bs.drop k) = befT (befS (us.drop (k + 1)) (bs.drop (k + 1))) (us.getD k []) (bs.getD k []) := by
  rw [List.drop_eq_getElem_cons hx, List.drop_eq_getElem_cons hy]
  simp [befS, List.getD_eq_getElem?_getD, List.getElem?_eq_getElem hx, List.getElem?_eq_getElem hy]
theorem befS_end {us bs : List (List (List Int))} {k : Nat} (hx : us.length ≤ k) : befS (us.drop k) (bs.drop k) = false := by
  rw [List.drop_of_length_le hx]; cases bs.drop k <;> rfl

set_option maxHeartbeats 4000000 in
theorem l01Less_any (a1 a2 : Option Addr) (n1 n2 c1 c2 : Nat) (xs ys : List Int) (w : World) (h1 : Row w a1 n1 xs) (h2 : Row w a2 n2 ys) (hm : n1 ≤ 9223372036854775807) :
    Calls Try.prog 90 #[.slice a1 n1 c1, .slice a2 n2 c2] w fun e w' => e = .returned (.bool (decide (cmpL xs ys < 0))) ∧ ∃ m, w' = w.drewN m := by
  have HL1 := Lib.hid h1.len; have HL2 := Lib.hid h2.len
  go_enter Try.func90, Try.ntmps90
  go_wp2
  go_loopw [5] (fun i wr => ∃ k : Nat, k ≤ n1 ∧ i = .int .i64 k ∧ (k ≤ n2) ∧ Hid (cmpL xs ys = cmpG cmpI (xs.drop k) (ys.drop k)) ∧ Hid (∃ m, wr = w.drewN m)) (fun i _ => n1 - (intOf i).toNat)
  case atStart => exact ⟨0, Nat.zero_le _, rfl, Nat.zero_le _, Lib.hid rfl, Lib.hid ⟨0, rfl⟩⟩
  case round =>
    obtain ⟨k, hk, rfl, hk2, HK, HW⟩ := hrel
    by_cases hlt : k < n1
    · have i2 : (k : Int) < (n1 : Int) := by omega
      by_cases hlt2 : k < n2
      · have h1r : Row wr a1 n1 xs := by obtain ⟨m, hm⟩ := HW.out; rw [hm]; exact h1.drewN m
        have h2r : Row wr a2 n2 ys := by obtain ⟨m, hm⟩ := HW.out; rw [hm]; exact h2.drewN m
        obtain ⟨b1, o1, rfl, g1⟩ := h1r.at k hlt
        obtain ⟨X, HX⟩ : ∃ X, Hid (xs.getD k 0 = X) := ⟨_, rfl⟩
        rw [HX.out] at g1
        have i1 : (0 : Int) ≤ (k : Int) := by omega
        obtain ⟨b2, o2, rfl, g2⟩ := h2r.at k hlt2
        obtain ⟨Y, HY⟩ : ∃ Y, Hid (ys.getD k 0 = Y) := ⟨_, rfl⟩
        rw [HY.out] at g2
        have i3 : (k : Int) < (n2 : Int) := by omega
        have hst := cmpG_step (c := cmpI) (xs := xs) (ys := ys) (k := k) 0 (by have := HL1.out; omega) (by have := HL2.out; omega)
        rw [HX.out, HY.out] at hst
        clear h1r h2r
        by_cases hc : X = Y
        · subst hc
          rw [if_pos (cmpI_eq.2 rfl)] at hst
          have HST := Lib.hid hst
          have t1 : (X != X) = false := by simp
          clear hst
          go_wp2
          go_quiet (fail)
          go_wp2
          go_roundw
          case rel => exact ⟨k + 1, by omega, by go_num, by omega, Lib.hid (by rw [HK.out, HST.out]), Lib.hid (by obtain ⟨m, hm⟩ := HW.out; exact ⟨m + nq, by rw [hm, World.drewN_drewN]⟩)⟩
          case measure => simp [intOf]; omega
        · have hne : ¬ cmpI X Y = 0 := fun e => hc (cmpI_eq.1 e)
          rw [if_neg hne] at hst
          have HR : Hid (decide (X < Y) = decide (cmpL xs ys < 0)) := Lib.hid (by
            rw [HK.out, hst]
            unfold cmpI
            by_cases hl : X < Y
            · rw [if_pos hl]; simp [hl]
            · rw [if_neg hl, if_pos (by omega)]; simp [hl])
          have t1 : (X != Y) = true := by simp [hc]
          clear hst hne
          go_wp2
          go_quiet (fail)
          go_wp2
          go_quiet (fail)
          go_wp2
          go_ret
          exact ⟨ret_bool HR.out, by obtain ⟨m, hm⟩ := HW.out; exact ⟨_, by rw [hm, World.drewN_drewN, World.drewN_drewN]⟩⟩
      · have i4 : ¬ (k : Int) < (n2 : Int) := by omega
        obtain rfl : k = n2 := by omega
        have HR : Hid (decide (n1 < k) = decide (cmpL xs ys < 0)) := Lib.hid (by
          rw [HK.out, cmpG_long (by have := HL1.out; omega) (by have := HL2.out; omega)]; simp; omega)
        go_wp2
        go_ret
        exact ⟨ret_bool HR.out, HW.out⟩
    · obtain rfl : n1 = k := by omega
      have HR : Hid (decide (n1 < n2) = decide (cmpL xs ys < 0)) := Lib.hid (by
        rw [HK.out]
        by_cases hl : n1 < n2
        · rw [cmpG_short HL1.out (by have := HL2.out; omega)]; simp; omega
        · rw [cmpG_even HL1.out (by have := HL2.out; omega)]; simp; omega)
      go_wp2
      go_ret
      exact ⟨ret_bool HR.out, HW.out⟩

set_option maxHeartbeats 8000000 in
theorem l03Before_any (a1 a2 : Option Addr) (m1 m2 c1 c2 : Nat) (us bs : List (List (List Int))) (w : World) (h1 : TbS w a1 m1 us) (h2 : TbS w a2 m2 bs) (hm : m1 ≤ m2) (hm2 : m2 ≤ 1000000000) (hl : ∀ k, k < m1 → (us.getD k []).length ≤ (bs.getD k []).length) :
    Calls Try.prog 63 #[.slice a1 m1 c1, .slice a2 m2 c2] w fun e w' => e = .returned (.bool (befS us bs)) ∧ ∃ m, w' = w.drewN m := by
  have HL1 := Lib.hid h1.len; have HL2 := Lib.hid h2.len; have HL := Lib.hid hl
  clear hl
  go_enter Try.func63, Try.ntmps63
  go_wp2
  go_loopw [5, 6] (fun i _ wr => ∃ k : Nat, k ≤ m1 ∧ i = .int .i64 k ∧ Hid (befS us bs = befS (us.drop k) (bs.drop k)) ∧ Hid (∃ m, wr = w.drewN m)) (fun i _ _ => m1 - (intOf i).toNat)
  case atStart => exact ⟨0, Nat.zero_le _, rfl, Lib.hid rfl, Lib.hid ⟨0, rfl⟩⟩
  case round =>
    obtain ⟨k, hk, rfl, HK, HW⟩ := hrel
    by_cases hlt : k < m1
    · have hstep := befS_step (us := us) (bs := bs) (k := k) (by have := HL1.out; omega) (by have := HL2.out; omega)
      obtain ⟨r, HR⟩ : ∃ r, Hid (befS (us.drop (k + 1)) (bs.drop (k + 1)) = r) := ⟨_, rfl⟩
      rw [HR.out] at hstep
      have HKT : Hid (befS us bs = befT r (us.getD k []) (bs.getD k [])) := Lib.hid (by rw [HK.out, hstep])
      have hll := HL.out k hlt
      obtain ⟨t, HT⟩ : ∃ t, Hid (us.getD k [] = t) := ⟨_, rfl⟩
      obtain ⟨s, HS⟩ : ∃ s, Hid (bs.getD k [] = s) := ⟨_, rfl⟩
      rw [HT.out, HS.out] at HKT hll
      have HLL := Lib.hid hll
      have i1 : (0 : Int) ≤ (k : Int) := by omega
      have i2 : (k : Int) < (m1 : Int) := by omega
      have i3 : (k : Int) < (m2 : Int) := by omega
      clear hstep hll
      go_wp2
      go_loopw [6] (fun i wr2 => ∃ x : Nat, x ≤ t.length ∧ i = .int .i64 x ∧ Hid (befS us bs = befT r (t.drop x) (s.drop x)) ∧ Hid (∃ m, wr2 = w.drewN m)) (fun i _ => t.length - (intOf i).toNat)
      case atStart => exact ⟨0, Nat.zero_le _, rfl, HKT, HW⟩
      case round =>
        obtain ⟨x, hx, rfl, HX, HW2⟩ := hrel
        have h1r : TbS wr a1 m1 us := by obtain ⟨m, hm⟩ := HW2.out; rw [hm]; exact h1.drewN m
        have h2r : TbS wr a2 m2 bs := by obtain ⟨m, hm⟩ := HW2.out; rw [hm]; exact h2.drewN m
        obtain ⟨b1, o1, ax, nx, cx, rfl, g1, t1, l1⟩ := h1r.at k hlt
        obtain ⟨b2, o2, ay, ny, cy, rfl, g2, t2, l2⟩ := h2r.at k (by omega)
        rw [HT.out] at t1
        rw [HS.out] at t2
        have hnx := t1.len
        have hny := t2.len
        by_cases hlx : x < t.length
        · obtain ⟨b3, o3, a3, n3, c3, rfl, g3, r3, l3⟩ := t1.at x (by omega)
          obtain ⟨b4, o4, a4, n4, c4, rfl, g4, r4, l4⟩ := t2.at x (by have := HLL.out; omega)
          have j1 : (0 : Int) ≤ (x : Int) := by omega
          have j2 : (x : Int) < (nx : Int) := by omega
          have j3 : (x : Int) < (ny : Int) := by have := HLL.out; omega
          have hst := befT_step (r := r) (t := t) (s := s) (k := x) hlx (by have := HLL.out; omega)
          obtain ⟨X, HXX⟩ : ∃ X, Hid (t.getD x [] = X) := ⟨_, rfl⟩
          obtain ⟨Y, HYY⟩ : ∃ Y, Hid (s.getD x [] = Y) := ⟨_, rfl⟩
          rw [HXX.out, HYY.out] at hst
          rw [HXX.out] at r3
          rw [HYY.out] at r4
          have HNX := Lib.hid hnx
          clear h1r h2r t1 t2 hny hnx
          by_cases hc : X = Y
          · subst hc
            rw [if_pos ((cmpL_eq X X).2 rfl)] at hst
            have HST := Lib.hid hst
            have HD : Hid (decide (X = X) = true) := Lib.hid (by simp)
            clear hst
            have HSA : Hid (∀ m, Calls Try.prog 89 #[.slice a3 n3 c3, .slice a4 n4 c4] (wr.drewN m) fun e w'' => e = .returned (.bool true) ∧ ∃ k, w'' = wr.drewN k) := Lib.hid fun m => (l01Same_any a3 a4 n3 n4 c3 c4 X X (wr.drewN m) (r3.drewN m) (r4.drewN m) l3).mono fun e w'' ⟨he, k, hk⟩ => ⟨by rw [he, HD.out], m + k, by rw [hk, World.drewN_drewN]⟩
            go_wp2
            go_quiet ((go_at_call 89; exact HSA.out _))
            go_wp2
            go_roundw
            case rel => exact ⟨x + 1, by omega, by go_num, Lib.hid (by rw [HX.out, HST.out]), Lib.hid (by obtain ⟨m, hm⟩ := HW2.out; exact ⟨m + nq, by rw [hm, World.drewN_drewN]⟩)⟩
            case measure => simp [intOf]; omega
          · have hne : ¬ cmpL X Y = 0 := fun e => hc ((cmpL_eq _ _).1 e)
            rw [if_neg hne] at hst
            have HR2 : Hid (decide (cmpL X Y < 0) = befS us bs) := Lib.hid (by rw [HX.out, hst])
            obtain ⟨D, HDD⟩ : ∃ D, Hid (decide (cmpL X Y < 0) = D) := ⟨_, rfl⟩
            have HD : Hid (decide (X = Y) = false) := Lib.hid (by simp [hc])
            clear hst hne
            have HSA : Hid (∀ m, Calls Try.prog 89 #[.slice a3 n3 c3, .slice a4 n4 c4] (wr.drewN m) fun e w'' => e = .returned (.bool false) ∧ ∃ k, w'' = wr.drewN k) := Lib.hid fun m => (l01Same_any a3 a4 n3 n4 c3 c4 X Y (wr.drewN m) (r3.drewN m) (r4.drewN m) l3).mono fun e w'' ⟨he, k, hk⟩ => ⟨by rw [he, HD.out], m + k, by rw [hk, World.drewN_drewN]⟩
            go_wp2
            go_quiet ((go_at_call 89; exact HSA.out _))
            obtain ⟨wq, hwq⟩ : ∃ wq, wr.drewN nq = wq := ⟨_, rfl⟩
            have HSB : Hid (∀ m, Calls Try.prog 90 #[.slice a3 n3 c3, .slice a4 n4 c4] (wq.drewN m) fun e w'' => e = .returned (.bool D) ∧ ∃ k, w'' = wq.drewN k) := Lib.hid fun m => (l01Less_any a3 a4 n3 n4 c3 c4 X Y (wq.drewN m) (by rw [← hwq]; exact (r3.drewN nq).drewN m) (by rw [← hwq]; exact (r4.drewN nq).drewN m) l3).mono fun e w'' ⟨he, k, hk⟩ => ⟨by rw [he, HDD.out], m + k, by rw [hk, World.drewN_drewN]⟩
            have q1 : (wr.drewN nq).cell? _ = _ := g1
            have q2 : (wr.drewN nq).cell? _ = _ := g2
            have q3 : (wr.drewN nq).cell? _ = _ := g3
            have q4 : (wr.drewN nq).cell? _ = _ := g4
            have HWQ := Lib.hid hwq
            rw [hwq] at q1 q2 q3 q4
            rw [hwq]
            clear hwq g1 g2 g3 g4
            go_wp2
            go_quiet ((go_at_call 90; exact HSB.out _))
            go_wp2
            go_ret
            exact ⟨ret_bool (by rw [← HDD.out, HR2.out]), by obtain ⟨m, hm⟩ := HW2.out; exact ⟨_, by rw [← HWQ.out, hm, World.drewN_drewN, World.drewN_drewN]⟩⟩
        · obtain rfl : t.length = x := by omega
          have HE : Hid (befS us bs = r) := Lib.hid (by rw [HX.out, befT_end (Nat.le_refl _)])
          have j2 : ¬ (t.length : Int) < (nx : Int) := by omega
          clear h1r h2r t1 t2 hny
          go_wp2
          go_roundw
          case rel => exact ⟨k + 1, by omega, by go_num, Lib.hid (by rw [HE.out, HR.out]), HW2⟩
          case measure => simp [intOf]; omega
    · obtain rfl : m1 = k := by omega
      have HE : Hid (befS us bs = false) := Lib.hid (by rw [HK.out, befS_end (by have := HL1.out; omega)])
      go_wp2
      go_ret
      exact ⟨ret_bool HE.out.symm, HW.out⟩
end Go.Proofs.Ythgafpeblpnolaa

namespace Go.Proofs.Ythgafpeblpnolaa
set_option maxRecDepth 100000
set_option linter.unusedVariables false
set_option linter.unusedSimpArgs false
open Go.RowKit

theorem sq_tabF {n : Nat} {t : List (List Int)} (h : Sq n t) : tabF n (fun x y => (t.getD x []).getD y 0) = t := by
  apply List.ext_getElem
  · simp [tabF, h.1]
  · intro i h1 h2
    have hi : i < n := by simpa [tabF] using h1
    have hl := (h.2 i hi).1
    rw [List.getD_eq_getElem?_getD, List.getElem?_eq_getElem h2, Option.getD_some] at hl
    apply List.ext_getElem
    · simp [tabF, hl]
    · intro j h3 h4
      simp [tabF, List.getD_eq_getElem?_getD, List.getElem?_eq_getElem h2, List.getElem?_eq_getElem h4]
def imgI (t : List (List Int)) (p : List Int) (x y : Nat) : Int := p.getD (tv t x y) 0
/-- the pairs ahead of (x, y) are stored -/
def ImgK (n : Nat) (t : List (List Int)) (p : List Int) (V : Nat → Nat → Int) (x y : Nat) : Prop := ∀ x' y', x' < n → y' < n → (x' < x ∨ x' = x ∧ y' < y) → V (p.getD x' 0).toNat (p.getD y' 0).toNat = imgI t p x' y'
theorem ImgK.step {n : Nat} {t : List (List Int)} {p : List Int} {V : Nat → Nat → Int} {x y u v : Nat} (hP : IsP n p) (h : ImgK n t p V x y) (hx : x < n) (hy : y < n) (hu : (p.getD x 0).toNat = u) (hv : (p.getD y 0).toNat = v) : ImgK n t p (updQ V u v (imgI t p x y)) x (y + 1) := by
  obtain ⟨f, g, hl, h1, h2⟩ := hP
  have hf : ∀ i, i < n → (p.getD i 0).toNat = f i := fun i hi => by rw [h2 i hi, Int.toNat_natCast]
  have inj : ∀ i j, i < n → j < n → f i = f j → i = j := fun i j hi hj e => by rw [← (h1 i hi).2.2.2, ← (h1 j hj).2.2.2, e]
  intro x' y' hx' hy' hq
  unfold updQ
  by_cases e : x' = x ∧ y' = y
  · obtain ⟨rfl, rfl⟩ := e
    rw [if_pos ⟨hu, hv⟩]
  · rw [if_neg, h x' y' hx' hy' (by omega)]
    rintro ⟨e1, e2⟩
    rw [← hu, hf _ hx', hf _ hx] at e1
    rw [← hv, hf _ hy', hf _ hy] at e2
    exact e ⟨inj _ _ hx' hx e1, inj _ _ hy' hy e2⟩
theorem ImgK.next {n : Nat} {t : List (List Int)} {p : List Int} {V : Nat → Nat → Int} {x : Nat} (h : ImgK n t p V x n) : ImgK n t p V (x + 1) 0 := fun x' y' hx' hy' hq => h x' y' hx' hy' (by omega)
theorem backF_at {n : Nat} {p : List Int} (hP : IsP n p) : ∀ u, u < n → ∃ q : Nat, (backF p).getD u 0 = q ∧ q < n ∧ p.getD q 0 = u := by
  obtain ⟨f, g, hp⟩ := hP
  have hb := backK_get n p f g hp n (Nat.le_refl _)
  obtain ⟨hl, h1, h2⟩ := hp
  intro u hu
  refine ⟨g u, ?_, (h1 u hu).2.1, ?_⟩
  · unfold backF; rw [hl, hb u hu, if_pos (h1 u hu).2.1]
  · rw [h2 (g u) (h1 u hu).2.1, (h1 u hu).2.2.1]
theorem ImgK.done {n : Nat} {t : List (List Int)} {p : List Int} {V : Nat → Nat → Int} (hP : IsP n p) (h : ImgK n t p V n 0) : tabF n V = rnL n t p := by
  refine tabQ_congr fun u v hu hv => ?_
  obtain ⟨q, e1, h1, e2⟩ := backF_at hP u hu
  obtain ⟨r, e3, h3, e4⟩ := backF_at hP v hv
  have := h q r h1 h3 (.inl h1)
  rw [e2, e4, Int.toNat_natCast, Int.toNat_natCast] at this
  rw [this]
  unfold rnV imgI
  rw [e1, e3, Int.toNat_natCast, Int.toNat_natCast]

set_option maxHeartbeats 16000000 in
theorem l03Image_any (n : Nat) (at_ ap : Option Addr) (ct cp : Nat) (t : List (List Int)) (p : List Int) (w : World) (h1 : Tbl w at_ n t) (h2 : Row w ap n p) (hs : Sq n t) (hP : IsP n p) (hn0 : 1 ≤ n) (hn : n ≤ 12) :
    Calls Try.prog 62 #[.slice at_ n ct, .slice ap n cp] w fun e w' => ∃ a c vs, e = .returned (.slice a n c) ∧ OwnT w' w.heap.size a n c vs (rnL n t p) ∧ Below w.heap.size w w' := by
  have HP := Lib.hid hP
  have hlen : ∀ x ∈ t, x.length ≤ 1000000 := fun x hx => by
    obtain ⟨i, hi, rfl⟩ := List.getElem_of_mem hx
    have := (hs.2 i (by rw [← hs.1]; exact hi)).1
    rw [List.getD_eq_getElem?_getD, List.getElem?_eq_getElem hi] at this
    simp at this; omega
  have HS := Lib.hid hs; have HLEN := Lib.hid hlen
  clear hlen hs hP
  go_enter Try.func62, Try.ntmps62
  go_wp2_with fail
  refine (l01Own2_any _ _ _ t _ h1 (by omega) HLEN.out).mono ?_
  rintro e w1 ⟨a1, c1, vs1, rfl, ho1, hb1⟩
  rw [← sq_tabF HS.out] at ho1
  have hz1 := hb1.size
  obtain ⟨gm, rfl, _⟩ := ho1.cells (by omega)
  have HLO := Lib.hid ho1.uLo
  go_wp2
  go_loopw [6, 7] (fun i _ wr => ∃ (x : Nat) (V : Nat → Nat → Int), x ≤ n ∧ i = .int .i64 x ∧ OwnT wr w.heap.size (some ⟨gm, 0, none⟩) n c1 vs1 (tabF n V) ∧ Hid (ImgK n t p V x 0) ∧ Below w.heap.size w wr) (fun i _ _ => n - (intOf i).toNat)
  case atStart => exact ⟨0, _, Nat.zero_le _, rfl, ho1, Lib.hid (fun x' y' _ _ h => by omega), hb1⟩
  case round =>
    clear ho1
    obtain ⟨x, V, hx, rfl, ho, HV, hq⟩ := hrel
    by_cases hlt : x < n
    · go_wp2
      go_loopw [7] (fun j wr => ∃ (y : Nat) (V : Nat → Nat → Int), y ≤ n ∧ j = .int .i64 y ∧ OwnT wr w.heap.size (some ⟨gm, 0, none⟩) n c1 vs1 (tabF n V) ∧ Hid (ImgK n t p V x y) ∧ Below w.heap.size w wr) (fun j _ => n - (intOf j).toNat)
      case atStart => exact ⟨0, V, Nat.zero_le _, rfl, ho, HV, hq⟩
      case round =>
        clear ho hq
        obtain ⟨y, V, hy, rfl, ho, HV, hq⟩ := hrel
        by_cases hly : y < n
        · obtain ⟨b, off, A, O, C, rfl, G0⟩ := h1.grid HS.out (by omega)
          have G := (G0.below hq).look hlt hly
          obtain ⟨u, hu, hun⟩ := HP.out.at hlt
          obtain ⟨v, hv, hvn⟩ := HP.out.at hly
          obtain ⟨bp, op, rfl, gu⟩ := (h2.below hq).at x hlt
          obtain ⟨bp', op', e', gv⟩ := (h2.below hq).at y hly
          cases e'
          have hz := HS.out.lt hlt hly
          obtain ⟨z, HZ⟩ : ∃ z, Hid (tv t x y = z) := ⟨_, rfl⟩
          rw [HZ.out] at G hz
          obtain ⟨bp'', op'', e'', gz⟩ := (h2.below hq).at z hz
          cases e''
          obtain ⟨Z, HZZ⟩ : ∃ Z, Hid (p.getD z 0 = Z) := ⟨_, rfl⟩
          rw [HZZ.out] at gz
          rw [hu] at gu
          rw [hv] at gv
          obtain ⟨gm', g1, cg, e3, ev, r1, hc1, ht1⟩ := ho.spotQ hun
          cases e3
          have k1 := (hc1 v hvn).1
          have f1 := (hc1 v hvn).2
          have hput := ho.putQ hun hvn ev Z
          have HST : Hid (ImgK n t p (updQ V u v Z) x (y + 1)) := Lib.hid (by
            have := ImgK.step HP.out HV.out hlt hly (u := u) (v := v) (by rw [hu, Int.toNat_natCast]) (by rw [hv, Int.toNat_natCast])
            rw [show imgI t p x y = Z by unfold imgI; rw [HZ.out, HZZ.out]] at this
            exact this)
          have hg1 : w.heap.size ≤ g1 := HLO.out g1 ht1
          have HPUT := Lib.hid hput
          have i1 : (0 : Int) ≤ (x : Int) := by omega
          have i2 : (x : Int) < (n : Int) := by omega
          have i3 : (0 : Int) ≤ (y : Int) := by omega
          have i4 : (y : Int) < (n : Int) := by omega
          have i5 : (0 : Int) ≤ (u : Int) := by omega
          have i6 : (u : Int) < (n : Int) := by omega
          have i7 : (0 : Int) ≤ (v : Int) := by omega
          have i8 : (v : Int) < (n : Int) := by omega
          have i9 : (0 : Int) ≤ (z : Int) := by omega
          have i10 : (z : Int) < (n : Int) := by omega
          obtain ⟨G1, G2⟩ := G
          have hq8 : Below w.heap.size w wr.drew := hq.drew
          have hput8 : Hid (OwnT (wr.drew.setCell ⟨g1, v, none⟩ (.int .i64 Z)) w.heap.size (some ⟨gm, 0, none⟩) n c1 vs1 (tabF n (updQ V u v Z))) := Lib.hid (hput.drewN 1)
          clear hu hv hc1 hput ho hq HPUT
          go_wp2
          refine wp_region_still_tail 22 (by kernel_rfl) (by kernel_rfl) ?_
          change wpStill _ _ wr.drew (fun a' => wpList _ _ _ _ a' wr.drew) _ _
          have G18 : wr.drew.cell? _ = _ := G1
          have G28 : wr.drew.cell? _ = _ := G2
          have gu8 : wr.drew.cell? _ = _ := gu
          have gv8 : wr.drew.cell? _ = _ := gv
          have gz8 : wr.drew.cell? _ = _ := gz
          have r18 : wr.drew.cell? _ = _ := r1
          have k18 : wr.drew.cell? _ = _ := k1
          have f18 : wr.drew.frozen? ⟨g1, v, none⟩ = false := f1
          clear G1 G2 gu gv gz r1 k1 f1
          generalize wr.drew = w8 at *
          simp only [List.take_succ_cons, List.take_zero, List.drop_succ_cons, List.drop_zero]
          repeat still_step
          refine wpStill_nil ?_
          go_wp2
          go_roundw
          case rel => exact ⟨y + 1, _, by omega, by go_num, hput8.out, HST, below_setne hq8 hg1 _⟩
          case measure => simp [intOf]; omega
        · obtain rfl : n = y := by omega
          go_wp2
          go_roundw
          case rel => exact ⟨x + 1, V, by omega, by go_num, ho, Lib.hid HV.out.next, hq⟩
          case measure => simp [intOf]; omega
    · obtain rfl : n = x := by omega
      go_wp2
      go_ret
      exact ⟨_, _, _, rfl, by rw [← ImgK.done HP.out HV.out]; exact ho, hq⟩
end Go.Proofs.Ythgafpeblpnolaa

namespace Go.Proofs.Ythgafpeblpnolaa
set_option maxRecDepth 100000
set_option linter.unusedVariables false
set_option linter.unusedSimpArgs false
open Go.RowKit

theorem OwnTT.tbS {w : World} {lo : Nat} {a : Option Addr} {n c : Nat} {us : List TV} {ts : List (List (List Int))} (h : OwnTT w lo a n c us ts) : TbS w a n ts := by
  refine ⟨h.len, fun i hi => ?_⟩
  obtain ⟨g, h1, h2, h3, _⟩ := h.cells (by omega)
  have hv := h.tab i hi
  exact ⟨g, 0, _, _, _, h1, h2, by rw [Nat.zero_add]; exact h3 i hi, OwnT.tbl hv, by have := OwnT.cap hv; omega⟩
def imgL (n : Nat) (p : List Int) (us : List (List (List Int))) : List (List (List Int)) := us.map fun t => rnL n t p
/-- no image comes before the tables -/
def onlP (n : Nat) (us : List (List (List Int))) (p : List Int) : Bool := !befS (imgL n p us) us
def onlL (n : Nat) (ps : List (List Int)) (us : List (List (List Int))) : Bool := (List.range ps.length).all fun i => onlP n us (ps.getD i [])
theorem rnL_len (n : Nat) (t : List (List Int)) (p : List Int) : (rnL n t p).length = n := tabF_len _ _
theorem imgL_take {n : Nat} {p : List Int} {us : List (List (List Int))} {k : Nat} (h : k < us.length) : imgL n p (us.take (k + 1)) = imgL n p (us.take k) ++ [rnL n (us.getD k []) p] := by
  unfold imgL
  rw [List.take_succ_eq_append_getElem h, List.map_append]
  simp [List.getD_eq_getElem?_getD, List.getElem?_eq_getElem h]

set_option maxHeartbeats 8000000 in
theorem l19Own_any (n m P : Nat) (a1 a2 : Option Addr) (c1 c2 : Nat) (us : List (List (List Int))) (ps : List (List Int)) (w : World) (h1 : TbS w a1 m us) (h2 : Tbl w a2 P ps) (hn0 : 1 ≤ n) (hn : n ≤ 12) (hm : m ≤ 1000000) (hP : P ≤ 1000000)
    (hs : ∀ k, k < m → Sq n (us.getD k [])) (hps : ∀ i, i < P → IsP n (ps.getD i [])) :
    Calls Try.prog 34 #[.slice a1 m c1, .slice a2 P c2] w fun e w' => e = .returned (.bool (onlL n ps us)) ∧ Below w.heap.size w w' := by
  have HL1 := Lib.hid h1.len; have HL2 := Lib.hid h2.len; have HS := Lib.hid hs; have HPS := Lib.hid hps
  clear hs hps
  go_enter Try.func34, Try.ntmps34
  go_wp2
  go_loopw [5, 6, 7] (fun i _ _ wr => ∃ x : Nat, x ≤ P ∧ i = .int .i64 x ∧ Below w.heap.size w wr ∧ Hid (∀ x', x' < x → onlP n us (ps.getD x' []) = true)) (fun i _ _ _ => P - (intOf i).toNat)
  case atStart => exact ⟨0, Nat.zero_le _, rfl, Below.refl _ _, Lib.hid fun x' hx => absurd hx (by omega)⟩
  case round =>
    obtain ⟨x, hx, rfl, hq, HX⟩ := hrel
    by_cases hlt : x < P
    · have hwq := hq.size
      have hpx := HPS.out x hlt
      obtain ⟨p, HPP⟩ : ∃ p, Hid (ps.getD x [] = p) := ⟨_, rfl⟩
      rw [HPP.out] at hpx
      have HPX := Lib.hid hpx
      have i1 : (0 : Int) ≤ (x : Int) := by omega
      have i2 : (x : Int) < (P : Int) := by omega
      obtain ⟨w1, hw1⟩ : ∃ w1, wr.alloc (.cells #[] 36) = w1 := ⟨_, rfl⟩
      have hz1 : w1.heap.size = wr.heap.size + 1 := by rw [← hw1]; simp
      have hB1 : Below w.heap.size w w1 := by rw [← hw1]; exact below_al hq _
      obtain ⟨B0, hB0⟩ : ∃ B0, B0 = wr.heap.size := ⟨_, rfl⟩
      have hwB : w.heap.size ≤ B0 := by omega
      have hO1 : OwnTT w1 B0 (some ⟨wr.heap.size, 0, none⟩) 0 0 [] [] := by
        rw [← hw1, hB0]
        exact ⟨rfl, rfl, ownsRowT_mk rfl (Nat.le_refl _) (Loc.new wr rfl _ _) (Nat.le_refl _) (by unfold maxLen; omega) rfl rfl, fun i h => absurd h (by omega), fun i h => absurd h (by omega), fun i j h => absurd h (by omega)⟩
      clear hpx
      go_wp2
      go_loopw [6, 7] (fun s i wr2 => ∃ (k : Nat) (a' : Option Addr) (c' : Nat) (vs : List TV), k ≤ m ∧ i = .int .i64 k ∧ s = .slice a' k c' ∧ OwnTT wr2 B0 a' k c' vs (imgL n p (us.take k)) ∧ Below w.heap.size w wr2 ∧ B0 ≤ wr2.heap.size) (fun _ i _ => m - (intOf i).toNat)
      case atStart => exact ⟨0, _, 0, [], Nat.zero_le _, rfl, rfl, by simpa [imgL] using hO1, hB1, by omega⟩
      case round =>
        clear hO1 hB1 hz1 hw1 hq
        obtain ⟨k, a', c', vs, hk, rfl, rfl, hO, hq, hwz⟩ := hrel
        by_cases hlk : k < m
        · have h1r := h1.below hq
          have h2r := h2.below hq
          obtain ⟨b1, o1, at_, nt, ct, rfl, g1, t1, l1⟩ := h1r.at k hlk
          obtain ⟨b2, o2, ap, np, cp, rfl, g2, r2, l2⟩ := h2r.at x hlt
          rw [HPP.out] at r2
          obtain ⟨t, HT⟩ : ∃ t, Hid (us.getD k [] = t) := ⟨_, rfl⟩
          rw [HT.out] at t1
          have hsq : Sq n t := by rw [← HT.out]; exact HS.out k hlk
          obtain rfl : n = nt := by have := t1.len; rw [hsq.1] at this; exact this.symm
          obtain rfl : n = np := by have := r2.len; rw [HPX.out.len] at this; exact this.symm
          have HSQ := Lib.hid hsq
          have HIT : Hid (imgL n p (us.take (k + 1)) = imgL n p (us.take k) ++ [rnL n t p]) := Lib.hid (by rw [imgL_take (by have := HL1.out; omega), HT.out])
          have HOU := Lib.hid hO.uHi
          have HOB := Lib.hid (fun g (e : (Value.slice a' k c').ownBlock = some g) => hO.ownBlk e)
          have j1 : (0 : Int) ≤ (k : Int) := by omega
          have j2 : (k : Int) < (m : Int) := by omega
          have hO1 := hO.drewN 1
          have t1d := t1.drewN 1
          have r2d := r2.drewN 1
          clear hsq h1r h2r
          go_wp2
          go_region_law (first
            | (refine step_appTTn rfl rfl hO3 rfl ho3 HQ3.out rfl ?_ ?_ ?_; (omega); (omega); intro g' cc w8 hO8 hg8 hat8 hb8)
            | (go_simp; go_at_call 62; refine (l03Image_any n at_ ap ct cp t p _ t1d r2d HSQ.out HPX.out hn0 hn).mono ?_; rintro e w3 ⟨a3, c3, vs3, rfl, ho3', hb3⟩; have hz3 : B0 ≤ w3.heap.size := Nat.le_trans hwz hb3.size; have ho3 : OwnT w3 B0 a3 n c3 vs3 (rnL n t p) := ho3'.mono hwz; have hO3 := hO1.below hb3; have HQ3 : Hid (∀ q, TblS a3 n vs3 q → ¬ TTS a' k vs q) := Lib.hid (fun q h1 h2 => by have := ho3'.uLo q h1; have h4 := HOU.out q h2; have : wr.heap.size ≤ q := this; omega)))
          all_goals
            go_wp2
            go_roundw
            case rel => exact ⟨k + 1, _, cc, _, by omega, by go_num, rfl, by rw [HIT.out]; exact hO8, (below_drewN hq 1).trans ((hb3.mono (show w.heap.size ≤ (wr.drewN 1).heap.size by exact Nat.le_trans hwB hwz)).trans (hb8.mono hwB)), Nat.le_trans hz3 hb8.size⟩
            case measure => simp [intOf]; omega
        · obtain rfl : m = k := by omega
          have hE : us.take m = us := by rw [List.take_of_length_le (by have := HL1.out; omega)]
          rw [hE] at hO
          have hlens : ∀ k, k < m → ((imgL n p us).getD k []).length ≤ (us.getD k []).length := fun k hk => by
            have hk' : k < us.length := by have := HL1.out; omega
            have : (imgL n p us).getD k [] = rnL n (us.getD k []) p := by
              unfold imgL
              simp [List.getD_eq_getElem?_getD, List.getElem?_eq_getElem hk']
            rw [this, rnL_len, (HS.out k hk).1]; exact Nat.le_refl _
          have HLN := Lib.hid hlens
          obtain ⟨B, HB⟩ : ∃ B, Hid (befS (imgL n p us) us = B) := ⟨_, rfl⟩
          clear hE hlens
          cases B with
          | true =>
            have HC : Hid (onlL n ps us = false) := Lib.hid (rng_no (y := x) (by have := HL2.out; omega) (by unfold onlP; rw [HPP.out, HB.out]; rfl))
            go_wp2_with fail
            refine (l03Before_any _ _ _ _ _ _ _ _ _ hO.tbS (h1.below hq) (Nat.le_refl _) (by omega) HLN.out).mono ?_
            rintro e w5 ⟨rfl, hw5⟩
            rw [HB.out]
            go_wp2
            go_ret
            exact ⟨ret_bool HC.out.symm, by obtain ⟨k, hk⟩ := hw5; rw [hk]; exact below_drewN hq k⟩
          | false =>
            have HC : Hid (onlP n us (ps.getD x []) = true) := Lib.hid (by unfold onlP; rw [HPP.out, HB.out]; rfl)
            go_wp2_with fail
            refine (l03Before_any _ _ _ _ _ _ _ _ _ hO.tbS (h1.below hq) (Nat.le_refl _) (by omega) HLN.out).mono ?_
            rintro e w5 ⟨rfl, hw5⟩
            rw [HB.out]
            have hq5 : Below w.heap.size w w5 := by obtain ⟨k, hk⟩ := hw5; rw [hk]; exact below_drewN hq k
            clear hw5
            go_wp2
            go_roundw
            case rel => exact ⟨x + 1, by omega, by go_num, hq5, Lib.hid (step_lt HX.out HC.out)⟩
            case measure => simp [intOf]; omega
    · obtain rfl : P = x := by omega
      have HC : Hid (onlL n ps us = true) := Lib.hid (rng_of fun x hx => HX.out x (by have := HL2.out; omega))
      go_wp2
      go_ret
      exact ⟨ret_bool HC.out.symm, hq⟩
end Go.Proofs.Ythgafpeblpnolaa

namespace Go.Proofs.Ythgafpeblpnolaa
set_option maxRecDepth 100000
set_option linter.unusedVariables false
set_option linter.unusedSimpArgs false
open Go.RowKit

/-- one permutation's image, if it comes before the best -/
def leaF (n : Nat) (us best : List (List (List Int))) (p : List Int) : List (List (List Int)) := if befS (imgL n p us) best then imgL n p us else best
def leaK (n : Nat) (us : List (List (List Int))) (k : Nat) : List (List (List Int)) := ((prmL n).take k).foldl (leaF n us) us
def leaS (n : Nat) (us : List (List (List Int))) : List (List (List Int)) := (prmL n).foldl (leaF n us) us
theorem leaK_succ (n : Nat) (us : List (List (List Int))) {k : Nat} (h : k < (prmL n).length) : leaK n us (k + 1) = leaF n us (leaK n us k) ((prmL n).getD k []) := by
  unfold leaK
  rw [List.take_succ_eq_append_getElem h, List.foldl_append]
  simp [List.getD_eq_getElem?_getD, List.getElem?_eq_getElem h]
theorem leaK_all (n : Nat) (us : List (List (List Int))) {k : Nat} (h : (prmL n).length ≤ k) : leaK n us k = leaS n us := by
  unfold leaK leaS; rw [List.take_of_length_le h]
/-- all tables are squares of n rows -/
def ShQ (m n : Nat) (A : List (List (List Int))) : Prop := ∀ k, k < m → (A.getD k []).length = n ∧ ∀ y ∈ A.getD k [], y.length = n
theorem ShQ.of {m n : Nat} {A : List (List (List Int))} (h : ∀ k, k < m → Sq n (A.getD k [])) : ShQ m n A := fun k hk => ⟨(h k hk).1, fun y hy => by
  obtain ⟨i, hi, rfl⟩ := List.getElem_of_mem hy
  have := ((h k hk).2 i (by rw [(h k hk).1] at hi; exact hi)).1
  rwa [List.getD_eq_getElem?_getD (l := A.getD k []), List.getElem?_eq_getElem hi] at this⟩
theorem ShQ.img {m n : Nat} {us : List (List (List Int))} (h : m = us.length) (p : List Int) : ShQ m n (imgL n p us) := fun k hk => by
  have e : (imgL n p us).getD k [] = rnL n (us.getD k []) p := by
    unfold imgL
    simp [List.getD_eq_getElem?_getD, List.getElem?_eq_getElem (show k < us.length by omega)]
  rw [e]
  refine ⟨rnL_len _ _ _, fun y hy => ?_⟩
  unfold rnL tabF at hy
  obtain ⟨x, _, rfl⟩ := List.mem_map.1 hy
  simp

end Go.Proofs.Ythgafpeblpnolaa

namespace Go.Proofs.Ythgafpeblpnolaa
set_option maxRecDepth 100000
set_option linter.unusedVariables false
set_option linter.unusedSimpArgs false
open Go.RowKit

theorem info_qs : (Try.prog.info? 57).map (fun i => (i.zero, i.size, i.bytes)) = some (some (.slice none 0 0), 1, 24) := by kernel_rfl
theorem und_qs : Try.prog.underlying 63 = some (.slice 57) := by kernel_rfl
theorem ownsRowQ_mk {w : World} {lo g n c : Nat} {vs : List SV} {cur : Array Value} (hn : vs.length = n) (h1 : lo ≤ g) (h2 : Loc w g cur 57) (h3 : n ≤ c) (h4 : c ≤ maxLen) (h5 : cur.size = c) (h6 : cur.toList.take n = vs.map sl) :
    w.ownsRow lo 57 1 (.slice (some ⟨g, 0, none⟩) n c) n (vs.map sl) :=
  ⟨by simp [hn], .inr ⟨g, c, cur, rfl, h1, h2, h3, h4, by simpa using h5, by simpa using h6⟩⟩
/-- the header, owned -/
def Hq (w : World) (lo : Nat) (a : Option Addr) (n c : Nat) (vs : List SV) : Prop := vs.length = n ∧ w.ownsRow lo 57 1 (.slice a n c) n (vs.map sl)
section
variable {w w' : World} {lo : Nat} {a : Option Addr} {n c : Nat} {vs : List SV}
theorem Hq.nil (w : World) (lo : Nat) : Hq w lo none 0 0 [] := ⟨rfl, World.ownsRow_nil w lo _ 1⟩
theorem Hq.block (h : Hq w lo a n c vs) : (a = none ∧ n = 0 ∧ c = 0) ∨ ∃ g cur, a = some ⟨g, 0, none⟩ ∧ lo ≤ g ∧ Loc w g cur 57 ∧ n ≤ c ∧ c ≤ maxLen ∧ cur.size = c ∧ cur.toList.take n = vs.map sl := by
  rcases h.2.2 with ⟨h1, h2⟩ | ⟨g, cap, cur, h1, h2, h3, h4, h5, h6, h7⟩
  · cases h1; exact .inl ⟨rfl, rfl, rfl⟩
  · cases h1; exact .inr ⟨g, cur, rfl, h2, h3, h4, h5, by simpa using h6, by simpa using h7⟩
theorem Hq.hi (h : Hq w lo a n c vs) : ∀ g, a = some ⟨g, 0, none⟩ → g < w.heap.size := by
  intro g hg
  rcases h.block with ⟨h1, _⟩ | ⟨g', cur, h1, h2, h3, _⟩
  · rw [h1] at hg; cases hg
  · rw [h1] at hg; cases hg; exact h3.lt
theorem Hq.low (h : Hq w lo a n c vs) : ∀ g, a = some ⟨g, 0, none⟩ → lo ≤ g := by
  intro g hg
  rcases h.block with ⟨h1, _⟩ | ⟨g', cur, h1, h2, h3, _⟩
  · rw [h1] at hg; cases hg
  · rw [h1] at hg; cases hg; exact h2
theorem Hq.keep (h : Hq w lo a n c vs) (hk : ∀ g, a = some ⟨g, 0, none⟩ → g < w.heap.size → w'.heap[g]? = w.heap[g]?) : Hq w' lo a n c vs := by
  rcases h.block with ⟨h1, h2, h3⟩ | ⟨g, cur, h1, h2, h3, h4, h5, h6, h7⟩
  · subst h1 h2 h3
    have : vs = [] := List.eq_nil_of_length_eq_zero h.1
    subst this; exact Hq.nil _ _
  · subst h1
    exact ⟨h.1, ownsRowQ_mk h.1 h2 ((hk g rfl h3.lt).trans h3) h4 h5 h6 h7⟩
theorem Hq.below (h : Hq w lo a n c vs) (hb : Below w.heap.size w w') : Hq w' lo a n c vs := h.keep fun g _ hlt => hb.block g hlt
theorem Hq.alloc (h : Hq w lo a n c vs) (o : Obj) : Hq (w.alloc o) lo a n c vs := h.below ((Below.refl _ _).alloc (Nat.le_refl _) o)
theorem Hq.drewN (h : Hq w lo a n c vs) (k : Nat) : Hq (w.drewN k) lo a n c vs := h.keep fun _ _ _ => rfl
theorem Hq.mono {lo' : Nat} (h : Hq w lo a n c vs) (hl : lo' ≤ lo) : Hq w lo' a n c vs := by
  rcases h.block with ⟨h1, h2, h3⟩ | ⟨g, cur, h1, h2, h3, h4, h5, h6, h7⟩
  · subst h1 h2 h3
    have : vs = [] := List.eq_nil_of_length_eq_zero h.1
    subst this; exact Hq.nil _ _
  · subst h1; exact ⟨h.1, ownsRowQ_mk h.1 (Nat.le_trans hl h2) h3 h4 h5 h6 h7⟩
theorem Hq.marked (h : Hq w lo a n c vs) {S : Nat → Prop} (hm : Marked S w w') (hS : ∀ g, a = some ⟨g, 0, none⟩ → ¬ S g) : Hq w' lo a n c vs := h.keep fun g hg hlt => hm.block g hlt (hS g hg)
theorem Hq.read (h : Hq w lo a n c vs) : HdR w a n vs := by
  refine ⟨h.1, fun i hi => ?_⟩
  rcases h.block with ⟨h1, h2, h3⟩ | ⟨g, cur, h1, h2, h3, h4, h5, h6, h7⟩
  · omega
  · refine ⟨g, 0, h1, h3.lt, ?_⟩
    rw [Nat.zero_add]
    refine h3.cell i ?_
    have hx : (cur.toList.take n)[i]? = (vs.map sl)[i]? := by rw [h7]
    have hxi : i < vs.length := by have := h.1; omega
    rw [List.getElem?_take, if_pos hi] at hx
    simp [List.getElem?_eq_getElem hxi] at hx
    simp [List.getD_eq_getElem?_getD, List.getElem?_eq_getElem hxi, hx]
end
theorem Hq.fresh (w : World) {b : Nat} (hb : b = w.heap.size) : Hq (w.alloc (.cells #[] 57)) w.heap.size (some ⟨b, 0, none⟩) 0 0 [] :=
  ⟨rfl, ownsRowQ_mk rfl (by omega) (Loc.new _ hb _ _) (Nat.le_refl _) (by unfold maxLen; omega) rfl rfl⟩

/-- append of all rows of another slice -/
theorem wp_appQ {o : Oper} {a : Act} {K : Act → World → Prop} {Q : Exit → Act → World → Prop} {w : World} {s x : Operand}
    (ho : o.op = .call { callee := .builtin .append, args := #[s, x], argTypes := #[63, 63] }) {lo : Nat} {ad : Option Addr} {n c : Nat} {vs : List SV} (hown : Hq w lo ad n c vs) (hs : a.eval s = .slice ad n c)
    {ad2 : Option Addr} {m c2 : Nat} {us : List SV} (hr : HdR w ad2 m us) (hx : a.eval x = .slice ad2 m c2) (hlen : n + m ≤ 1000000000000) (hlo : lo ≤ w.heap.size)
    (h : ∀ ad' c' w', Hq w' lo ad' (n + m) c' (vs ++ us) → w.grownBy w' (Value.slice ad n c).ownBlock → Below lo w w' → K (a.put o.dst (.slice ad' (n + m) c')) w') :
    o.wp Try.prog a w K Q := by
  obtain ⟨i0, hi, hz0, hz1, hz2⟩ := info_parts info_qs
  obtain ⟨hn, hw⟩ := hown
  cases ad2 with
  | none =>
    obtain ⟨rfl, rfl⟩ := hr.none_nil
    have hrun := run_append_none_any (P := Try.prog) w lo 63 o.type 57 i0 1 und_qs hi _ n c2 _ hw
    unfold Oper.wp
    simp [execOp, ho, resolve, invoke, builtin, hs, hx, hrun, Result.andThen]
    have hh := h ad c w ⟨by simpa using hn, by simpa using hw⟩ (World.grownBy.refl _ _) (Below.refl _ _)
    exact hh
  | some p =>
    refine wp_append_own _ s x 63 ho lo 57 i0 (.slice none 0 0) 1 24 und_qs hi hz0 hz1 hz2 rfl (by decide) _ n (vs.map sl) hs hw p m c2 (us.map sl) hx (by simp [hr.1]) ?_ ?_ ?_ ?_ hlo ?_
    · intro j u hj
      have hjm : j < m := by
        have := (List.getElem?_eq_some_iff.1 hj).1
        rw [List.length_map] at this; have := hr.1; omega
      obtain ⟨b, off, h1, _, h2⟩ := hr.2 j hjm
      cases h1
      have e : (⟨b, off, none⟩ : Addr).add j = ⟨b, off + j, none⟩ := by unfold Addr.add; split <;> simp_all
      have hjy : j < us.length := by have := hr.1; omega
      rw [e, h2, ← hj]
      simp [List.getD_eq_getElem?_getD, List.getElem?_eq_getElem hjy]
    · intro u hu
      rw [List.mem_map] at hu
      obtain ⟨y, _, rfl⟩ := hu; rfl
    · unfold maxLen; omega
    · omega
    · intro v' w' ho' hg hv'
      have hb : Below lo w w' := (Below.refl _ _).grown hg hlo (fun k hk => (World.ownsRow.lt hw k hk).1)
      have ho2 := ho'
      obtain ⟨hl, h2⟩ := ho'
      rcases h2 with ⟨rfl, h2⟩ | ⟨g, cap, cur, rfl, h2⟩
      · have hn0 : n = 0 := by omega
        have hm0 : m = 0 := by omega
        subst hn0 hm0
        have hx0 : vs = [] := List.eq_nil_of_length_eq_zero hn
        have hy0 : us = [] := List.eq_nil_of_length_eq_zero hr.1
        subst hx0 hy0
        exact h none 0 w' (Hq.nil _ _) hg hb
      · exact h _ _ w' ⟨by simp [hn, hr.1], by simpa using ho2⟩ hg hb
theorem appQ {ops : Array Oper} {rest : List Oper} {o : Oper} {a : Act} {Q : Exit → Act → World → Prop} {w : World} (hgd : o.guard = none) {s x : Operand}
    (ho : o.op = .call { callee := .builtin .append, args := #[s, x], argTypes := #[63, 63] }) {lo : Nat} {ad : Option Addr} {n c : Nat} {vs : List SV} (hown : Hq w lo ad n c vs) (hs : a.eval s = .slice ad n c)
    {ad2 : Option Addr} {m c2 : Nat} {us : List SV} (hr : HdR w ad2 m us) (hx : a.eval x = .slice ad2 m c2) (hlen : n + m ≤ 1000000000000) (hlo : lo ≤ w.heap.size)
    (h : ∀ ad' c' w', Hq w' lo ad' (n + m) c' (vs ++ us) → w.grownBy w' (Value.slice ad n c).ownBlock → Below lo w w' → wpList Try.prog ops Q rest (a.put o.dst (.slice ad' (n + m) c')) w') :
    wpList Try.prog ops Q (o :: rest) a w :=
  wpList_plain hgd fun _ hK => wp_appQ ho hown hs hr hx hlen hlo fun _ _ _ h1 h2 h3 => hK _ _ (h _ _ _ h1 h2 h3)
/-- append of one row -/
theorem wp_appQ1 {o : Oper} {a : Act} {K : Act → World → Prop} {Q : Exit → Act → World → Prop} {w : World} {s x : Operand}
    (ho : o.op = .call { callee := .builtin .append, args := #[s, x], argTypes := #[63, 63] }) {lo : Nat} {ad : Option Addr} {n c : Nat} {vs : List SV} (hown : Hq w lo ad n c vs) (hs : a.eval s = .slice ad n c)
    {va : Option Addr} {vn vc : Nat} {t : TypeId} (hx : a.eval x = .slice (some ⟨w.heap.size, 0, none⟩) 1 1) (hlen : n + 1 ≤ 1000000000000) (hlo : lo ≤ w.heap.size)
    (h : ∀ g c' w', Hq w' lo (some ⟨g, 0, none⟩) (n + 1) c' (vs ++ [(va, vn, vc)]) → w.grownBy w' (Value.slice ad n c).ownBlock → ((Value.slice ad n c).ownBlock = some g ∨ w.heap.size ≤ g) → Below lo w w' → K (a.put o.dst (.slice (some ⟨g, 0, none⟩) (n + 1) c')) w') :
    Oper.wp Try.prog o a (w.alloc (.cells #[.slice va vn vc] t)) K Q := by
  obtain ⟨i0, hi, hz0, hz1, hz2⟩ := info_parts info_qs
  refine wp_append_lies _ s x 63 ho lo 57 i0 (.slice none 0 0) 1 24 und_qs hi hz0 hz1 hz2 rfl (by decide) _ n (vs.map sl) hs (hown.2.alloc _) ⟨w.heap.size, 0, none⟩ 1 1 [.slice va vn vc] hx rfl (cell_one_new _ _ _) ?_ (by omega) ?_ ?_ ?_ (w.heap.size + 1) (by simp) ?_
  · intro u hu; simp at hu; subst hu; rfl
  · unfold maxLen; omega
  · omega
  · simp; omega
  · intro g cap w' ho' hg hat hlt
    have hg' : w.grownBy w' (Value.slice ad n c).ownBlock := by
      have h1 := World.grownBy_alloc w (.cells #[.slice va vn vc] t) (Value.slice ad n c).ownBlock
      exact ⟨hg.os.trans h1.os, hg.tape.trans h1.tape, hg.output.trans h1.output, Nat.le_trans h1.size hg.size, fun k hk hn => (hg.block k (Nat.lt_of_lt_of_le hk h1.size) hn).trans (h1.block k hk hn)⟩
    have hat' : (Value.slice ad n c).ownBlock = some g ∨ w.heap.size ≤ g := by
      rcases hat with hat | hat
      · exact .inl hat
      · exact .inr (by omega)
    exact h g cap w' ⟨by simp [hown.1], by simpa [sl] using ho'⟩ hg' hat' ((Below.refl _ _).grown hg' hlo (fun k hk => (World.ownsRow.lt hown.2 k hk).1))
theorem appQ1 {ops : Array Oper} {rest : List Oper} {o : Oper} {a : Act} {Q : Exit → Act → World → Prop} {w : World} (hgd : o.guard = none) {s x : Operand}
    (ho : o.op = .call { callee := .builtin .append, args := #[s, x], argTypes := #[63, 63] }) {lo : Nat} {ad : Option Addr} {n c : Nat} {vs : List SV} (hown : Hq w lo ad n c vs) (hs : a.eval s = .slice ad n c)
    {va : Option Addr} {vn vc : Nat} {t : TypeId} (hx : a.eval x = .slice (some ⟨w.heap.size, 0, none⟩) 1 1) (hlen : n + 1 ≤ 1000000000000) (hlo : lo ≤ w.heap.size)
    (h : ∀ g c' w', Hq w' lo (some ⟨g, 0, none⟩) (n + 1) c' (vs ++ [(va, vn, vc)]) → w.grownBy w' (Value.slice ad n c).ownBlock → ((Value.slice ad n c).ownBlock = some g ∨ w.heap.size ≤ g) → Below lo w w' → wpList Try.prog ops Q rest (a.put o.dst (.slice (some ⟨g, 0, none⟩) (n + 1) c')) w') :
    wpList Try.prog ops Q (o :: rest) a (w.alloc (.cells #[.slice va vn vc] t)) :=
  wpList_plain hgd fun _ hK => wp_appQ1 ho hown hs hx hlen hlo fun g c' w' a b c d => hK _ _ (h g c' w' a b c d)


theorem Hq.one (w : World) {b : Nat} (hb : b = w.heap.size) (v : SV) : Hq (w.alloc (.cells #[.slice v.1 v.2.1 v.2.2] 57)) w.heap.size (some ⟨b, 0, none⟩) 1 1 [v] :=
  ⟨rfl, ownsRowQ_mk rfl (by omega) (Loc.new _ hb _ _) (Nat.le_refl _) (by unfold maxLen; omega) rfl rfl⟩
theorem HdR.take {w : World} {a : Option Addr} {n k : Nat} {vs : List SV} (h : HdR w a n vs) (hk : k ≤ n) : HdR w a k (vs.take k) := by
  refine ⟨by rw [List.length_take]; have := h.1; omega, fun i hi => ?_⟩
  obtain ⟨b, off, h1, h2, h3⟩ := h.2 i (by omega)
  exact ⟨b, off, h1, h2, by rw [h3]; simp [List.getD_eq_getElem?_getD, List.getElem?_take, hi]⟩
theorem HdR.drop {w : World} {b off n k : Nat} {vs : List SV} (h : HdR w (some ⟨b, off, none⟩) n vs) (hk : k ≤ n) : HdR w (some ⟨b, off + k, none⟩) (n - k) (vs.drop k) := by
  refine ⟨by rw [List.length_drop]; have := h.1; omega, fun i hi => ?_⟩
  obtain ⟨b', off', h1, h2, h3⟩ := h.2 (k + i) (by omega)
  cases h1
  exact ⟨b, off + k, rfl, h2, by rw [Nat.add_assoc, h3]; simp [List.getD_eq_getElem?_getD, List.getElem?_drop]⟩
theorem HdR.nil {w : World} (a : Option Addr) : HdR w a 0 [] := ⟨rfl, fun i h => absurd h (by omega)⟩

/-- a slice of slices of tables that is read -/
structure LstQ (w : World) (a : Option Addr) (n : Nat) (vs : List SV) (L : List (List (List (List Int)))) : Prop where
  hd : HdR w a n vs
  len : n = L.length
  el : ∀ i, i < n → TbS w (vs.getD i svO).1 (vs.getD i svO).2.1 (L.getD i []) ∧ (vs.getD i svO).2.1 ≤ 9223372036854775807
theorem LstQ.below {w w' : World} {a : Option Addr} {n : Nat} {vs : List SV} {L : List (List (List (List Int)))} (h : LstQ w a n vs L) (hb : Below w.heap.size w w') : LstQ w' a n vs L :=
  ⟨h.hd.below hb, h.len, fun i hi => ⟨(h.el i hi).1.below hb, (h.el i hi).2⟩⟩
/-- the tables that come before, then the new ones, then the rest -/
def insQ (A : List (List (List Int))) (L : List (List (List (List Int)))) : List (List (List (List Int))) := L.takeWhile (fun t => befS t A) ++ A :: L.dropWhile (fun t => befS t A)
theorem insQ_at {A : List (List (List Int))} {L : List (List (List (List Int)))} {k : Nat} (hk : k ≤ L.length) (h1 : ∀ i, i < k → befS (L.getD i []) A = true) (h2 : k = L.length ∨ befS (L.getD k []) A = false) : insQ A L = L.take k ++ A :: L.drop k := by
  induction L generalizing k with
  | nil => simp at hk; subst hk; rfl
  | cons t L ih =>
    cases k with
    | zero =>
      rcases h2 with h2 | h2
      · simp at h2
      · have : befS t A = false := by simpa using h2
        simp [insQ, this]
    | succ k =>
      have h0 : befS t A = true := by simpa using h1 0 (by omega)
      have := ih (k := k) (by simpa using hk) (fun i hi => by simpa using h1 (i + 1) (by omega)) (by rcases h2 with h2 | h2; exact .inl (by simpa using h2); exact .inr (by simpa using h2))
      unfold insQ at this ⊢
      simp [h0, this]
end Go.Proofs.Ythgafpeblpnolaa

namespace Go.Proofs.Ythgafpeblpnolaa
set_option maxRecDepth 100000
set_option linter.unusedVariables false
set_option linter.unusedSimpArgs false
open Go.RowKit

/-- m tables of n rows -/
def Shp (m n : Nat) (A : List (List (List Int))) : Prop := A.length = m ∧ ∀ k, k < m → (A.getD k []).length = n

theorem finQ {m N k lo c8 n8 : Nat} {a aa ad : Option Addr} {ca : Nat} {vs : List SV} {L : List (List (List (List Int)))} {A : List (List (List Int))} {w w8 : World} (h : LstQ w a N vs L) (hA : TbS w aa m A) (hb : Below w.heap.size w w8)
    (hO : Hq w8 lo ad n8 c8 ([] ++ vs.take k ++ ([(aa, m, ca)] ++ vs.drop k))) (hk : k ≤ N) (e : insQ A L = L.take k ++ A :: L.drop k) (hl : (insQ A L).length = N + 1) (hm : m ≤ 9223372036854775807) :
    ∃ g, ad = some ⟨g, 0, none⟩ ∧ N + 1 ≤ c8 ∧ c8 ≤ 9223372036854775807 ∧ LstQ w8 (some ⟨g, 0, none⟩) (N + 1) (vs.take k ++ (aa, m, ca) :: vs.drop k) (insQ A L) := by
  have hvl := h.hd.1
  have hLl := h.len
  have hn : n8 = N + 1 := by rw [← hO.1]; simp; omega
  subst hn
  rcases hO.block with ⟨h1, h2, _⟩ | ⟨g, cur, h1, h2, h3, h4, h5, h6, h7⟩
  · omega
  · subst h1
    refine ⟨g, rfl, h4, by unfold maxLen at h5; omega, ⟨by simpa using hO.read, hl.symm, fun i hi => ?_⟩⟩
    rw [e]
    have tk : (vs.take k).length = k := by rw [List.length_take]; omega
    have tL : (L.take k).length = k := by rw [List.length_take]; omega
    rcases Nat.lt_trichotomy i k with hik | hik | hik
    · have e1 : (vs.take k ++ (aa, m, ca) :: vs.drop k).getD i svO = vs.getD i svO := by
        rw [List.getD_eq_getElem?_getD, List.getElem?_append_left (by omega), List.getElem?_take, if_pos hik, List.getD_eq_getElem?_getD]
      have e2 : (L.take k ++ A :: L.drop k).getD i [] = L.getD i [] := by
        rw [List.getD_eq_getElem?_getD, List.getElem?_append_left (by omega), List.getElem?_take, if_pos hik, List.getD_eq_getElem?_getD]
      rw [e1, e2]
      exact ⟨(h.el i (by omega)).1.below hb, (h.el i (by omega)).2⟩
    · subst hik
      have e1 : (vs.take i ++ (aa, m, ca) :: vs.drop i).getD i svO = (aa, m, ca) := by
        rw [List.getD_eq_getElem?_getD, List.getElem?_append_right (by omega), tk, Nat.sub_self]; rfl
      have e2 : (L.take i ++ A :: L.drop i).getD i [] = A := by
        rw [List.getD_eq_getElem?_getD, List.getElem?_append_right (by omega), tL, Nat.sub_self]; rfl
      rw [e1, e2]
      exact ⟨hA.below hb, hm⟩
    · obtain ⟨j, rfl⟩ : ∃ j, i = k + 1 + j := ⟨i - k - 1, by omega⟩
      have e1 : (vs.take k ++ (aa, m, ca) :: vs.drop k).getD (k + 1 + j) svO = vs.getD (k + j) svO := by
        rw [List.getD_eq_getElem?_getD, List.getElem?_append_right (by omega), tk, show k + 1 + j - k = j + 1 by omega, List.getElem?_cons_succ, List.getElem?_drop, List.getD_eq_getElem?_getD]
      have e2 : (L.take k ++ A :: L.drop k).getD (k + 1 + j) [] = L.getD (k + j) [] := by
        rw [List.getD_eq_getElem?_getD, List.getElem?_append_right (by omega), tL, show k + 1 + j - k = j + 1 by omega, List.getElem?_cons_succ, List.getElem?_drop, List.getD_eq_getElem?_getD]
      rw [e1, e2]
      exact ⟨(h.el (k + j) (by omega)).1.below hb, (h.el (k + j) (by omega)).2⟩

set_option maxHeartbeats 8000000 in
theorem l19Sort_any (m n N c : Nat) (a aa : Option Addr) (ca : Nat) (vs : List SV) (L : List (List (List (List Int)))) (A : List (List (List Int))) (w : World) (h : LstQ w a N vs L) (hc : N ≤ c) (hc2 : c ≤ 9223372036854775807) (hsome : ∃ b off, a = some ⟨b, off, none⟩) (hA : TbS w aa m A) (hN : N ≤ 1000000) (hm : m ≤ 1000000) (hL : ∀ i, i < N → Shp m n (L.getD i [])) (hSA : Shp m n A) :
    Calls Try.prog 35 #[.slice a N c, .slice aa m ca] w fun e w' => ∃ g c' vs', e = .returned (.slice (some ⟨g, 0, none⟩) (N + 1) c') ∧ N + 1 ≤ c' ∧ c' ≤ 9223372036854775807 ∧ LstQ w' (some ⟨g, 0, none⟩) (N + 1) vs' (insQ A L) ∧ Below w.heap.size w w' := by
  obtain ⟨b, off, rfl⟩ := hsome
  have HLL := Lib.hid h.len; have HL := Lib.hid hL; have HSA := Lib.hid hSA
  clear hL hSA
  go_enter Try.func35, Try.ntmps35
  go_wp2
  go_loopw [5] (fun i wr => ∃ k : Nat, k ≤ N ∧ i = .int .i64 k ∧ Hid (∀ i, i < k → befS (L.getD i []) A = true) ∧ Below w.heap.size w wr) (fun i _ => N - (intOf i).toNat)
  case atStart => exact ⟨0, Nat.zero_le _, rfl, Lib.hid (fun i hi => absurd hi (by omega)), Below.refl _ _⟩
  case round =>
    obtain ⟨k, hk, rfl, HK, hq⟩ := hrel
    have hd := h.hd.below hq
    have hEnd : Hid ((k = N ∨ befS (L.getD k []) A = false) → insQ A L = L.take k ++ A :: L.drop k) := Lib.hid fun h2 => insQ_at (by have := HLL.out; omega) HK.out (by rcases h2 with h2 | h2; exact .inl (by have := HLL.out; omega); exact .inr h2)
    by_cases hlt : k < N
    · obtain ⟨b', off', e', _, g1⟩ := hd.2 k hlt
      cases e'
      obtain ⟨hel, hel2⟩ := h.el k hlt
      obtain ⟨⟨va, vn, vc⟩, HV⟩ : ∃ v, Hid (vs.getD k svO = v) := ⟨_, rfl⟩
      rw [HV.out] at g1 hel hel2
      change wr.cell? _ = some (.slice va vn vc) at g1
      have hshp := HL.out k hlt
      obtain ⟨T, HT⟩ : ∃ T, Hid (L.getD k [] = T) := ⟨_, rfl⟩
      rw [HT.out] at hel hshp
      obtain rfl : m = vn := by have := hel.len; rw [hshp.1] at this; exact this.symm
      have HLN : Hid (∀ k, k < m → (T.getD k []).length ≤ (A.getD k []).length) := Lib.hid fun k hk => by rw [hshp.2 k hk, HSA.out.2 k hk]; exact Nat.le_refl _
      have hTb := TbS.below hel hq
      have hAb := hA.below hq
      have i1 : (0 : Int) ≤ (k : Int) := by omega
      have i2 : (k : Int) < (N : Int) := by omega
      obtain ⟨B, HB⟩ : ∃ B, Hid (befS T A = B) := ⟨_, rfl⟩
      clear hshp hel
      cases B with
      | true =>
        have HKN : Hid (∀ i, i < k + 1 → befS (L.getD i []) A = true) := Lib.hid (step_lt HK.out (by rw [HT.out, HB.out]))
        go_wp2_with fail
        refine (l03Before_any _ _ _ _ _ _ _ _ _ hTb hAb (Nat.le_refl _) (by omega) HLN.out).mono ?_
        rintro e w5 ⟨rfl, hw5⟩
        rw [HB.out]
        have hq5 : Below w.heap.size w w5 := by obtain ⟨k, hk⟩ := hw5; rw [hk]; exact below_drewN hq k
        clear hw5
        go_wp2
        go_roundw
        case rel => exact ⟨k + 1, by omega, by go_num, HKN, hq5⟩
        case measure => simp [intOf]; omega
      | false =>
        have HIN : Hid (insQ A L = L.take k ++ A :: L.drop k) := Lib.hid (hEnd.out (.inr (by rw [HT.out, HB.out])))
        go_wp2_with fail
        refine (l03Before_any _ _ _ _ _ _ _ _ _ hTb hAb (Nat.le_refl _) (by omega) HLN.out).mono ?_
        rintro e w5 ⟨rfl, hw5⟩
        rw [HB.out]
        have hq5 : Below w.heap.size w w5 := by obtain ⟨k, hk⟩ := hw5; rw [hk]; exact below_drewN hq k
        clear hw5 g1 hTb hAb
        have hd5 := h.hd.below hq5
        have hlit := Hq.one w5 rfl (aa, m, ca)
        have hdr := (hd5.drop hk).alloc (.cells #[.slice aa m ca] 57)
        have hA5 := hA.below hq5
        go_wp2_with (at_builtin; first
          | (refine appQ rfl rfl hlit rfl hdr rfl (by omega) (by simp) ?_; intro ad1 cc1 w6 hO1 hg1 hb1; have hb15 : Below w5.heap.size w5 w6 := (below_al (Below.refl _ _) _).trans hb1; have hd6 := ((hd5.take hk).below hb15).alloc (.cells #[] 57); have hz6 := hb15.size)
          | (refine appQ rfl rfl (Hq.fresh w6 rfl) rfl hd6 rfl (by omega) (by simp) ?_; intro ad2 cc2 w7 hO2 hg2 hb2; rw [Nat.zero_add] at hO2 ⊢; have hb26 : Below w6.heap.size w6 w7 := (below_al (Below.refl _ _) _).trans hb2; have hO17 := (hO1.below hb26).read; have hz7 := hb26.size)
          | (refine appQ rfl rfl hO2 rfl hO17 rfl (by omega) hz7 ?_; intro ad3 cc3 w8 hO3 hg3 hb3))
        have hb57 : Below w5.heap.size w5 w8 := hb15.trans ((hb26.mono hz6).trans (hb3.mono hz6))
        have hfin := finQ (h.below hq5) (hA.below hq5) hb57 hO3 hk HIN.out (by rw [HIN.out]; simp; have := HLL.out; omega) (by omega)
        obtain ⟨g8, rfl, hn8, hc8, hl8⟩ := hfin
        go_ret
        exact ⟨g8, cc3, _, by show Ending.returned (.slice _ (k + (1 + (N - k))) _) = _; rw [show k + (1 + (N - k)) = N + 1 by omega], hn8, hc8, hl8, hq5.trans (hb57.mono hq5.size)⟩
    · obtain rfl : N = k := by omega
      have HIN : Hid (insQ A L = L.take N ++ A :: L.drop N) := Lib.hid (hEnd.out (.inl rfl))
      have hvd : vs.drop N = [] := by rw [List.drop_of_length_le (by have := h.hd.1; omega)]
      have hdX : ∀ X, HdR (wr.alloc (.cells #[.slice aa m ca] 57)) X 0 (vs.drop N) := fun X => by rw [hvd]; exact HdR.nil _
      have hlit := Hq.one wr rfl (aa, m, ca)
      have hkk : N ≤ N := Nat.le_refl _
      have hzr := hq.size
      have i3 : (N : Int) ≤ (N : Int) := by omega
      have i4 : (0 : Int) ≤ (N : Int) := by omega
      have hdL := h.hd.below hq
      have HHQ := Lib.hid h
      clear hvd h
      by_cases hcN : c = N
      · subst hcN
        go_wp2_with (at_builtin; first
          | (refine appQ rfl rfl hlit rfl (hdX _) rfl (by omega) (by simp) ?_; intro ad1 cc1 w6 hO1 hg1 hb1; have hb15 : Below wr.heap.size wr w6 := (below_al (Below.refl _ _) _).trans hb1; have hd6 := ((hdL.take hkk).below hb15).alloc (.cells #[] 57); have hz6 := hb15.size)
          | (refine appQ rfl rfl (Hq.fresh w6 rfl) rfl hd6 rfl (by omega) (by simp) ?_; intro ad2 cc2 w7 hO2 hg2 hb2; rw [Nat.zero_add] at hO2 ⊢; have hb26 : Below w6.heap.size w6 w7 := (below_al (Below.refl _ _) _).trans hb2; have hO17 := (hO1.below hb26).read; have hz7 := hb26.size)
          | (refine appQ rfl rfl hO2 rfl hO17 rfl (by omega) hz7 ?_; intro ad3 cc3 w8 hO3 hg3 hb3))
        have hb57 : Below wr.heap.size wr w8 := hb15.trans ((hb26.mono hz6).trans (hb3.mono hz6))
        have hfin := finQ (HHQ.out.below hq) (hA.below hq) hb57 hO3 hkk HIN.out (by rw [HIN.out]; simp; have := HLL.out; omega) (by omega)
        obtain ⟨g8, rfl, hn8, hc8, hl8⟩ := hfin
        go_ret
        exact ⟨g8, cc3, rfl, hn8, hc8, ⟨_, hl8⟩, hq.trans (hb57.mono hq.size)⟩
      · go_wp2_with (at_builtin; first
          | (refine appQ rfl rfl hlit rfl (hdX _) rfl (by omega) (by simp) ?_; intro ad1 cc1 w6 hO1 hg1 hb1; have hb15 : Below wr.heap.size wr w6 := (below_al (Below.refl _ _) _).trans hb1; have hd6 := ((hdL.take hkk).below hb15).alloc (.cells #[] 57); have hz6 := hb15.size)
          | (refine appQ rfl rfl (Hq.fresh w6 rfl) rfl hd6 rfl (by omega) (by simp) ?_; intro ad2 cc2 w7 hO2 hg2 hb2; rw [Nat.zero_add] at hO2 ⊢; have hb26 : Below w6.heap.size w6 w7 := (below_al (Below.refl _ _) _).trans hb2; have hO17 := (hO1.below hb26).read; have hz7 := hb26.size)
          | (refine appQ rfl rfl hO2 rfl hO17 rfl (by omega) hz7 ?_; intro ad3 cc3 w8 hO3 hg3 hb3))
        have hb57 : Below wr.heap.size wr w8 := hb15.trans ((hb26.mono hz6).trans (hb3.mono hz6))
        have hfin := finQ (HHQ.out.below hq) (hA.below hq) hb57 hO3 hkk HIN.out (by rw [HIN.out]; simp; have := HLL.out; omega) (by omega)
        obtain ⟨g8, rfl, hn8, hc8, hl8⟩ := hfin
        go_ret
        exact ⟨g8, cc3, rfl, hn8, hc8, ⟨_, hl8⟩, hq.trans (hb57.mono hq.size)⟩
end Go.Proofs.Ythgafpeblpnolaa

namespace Go.Proofs.Ythgafpeblpnolaa
set_option maxRecDepth 100000
set_option linter.unusedVariables false
set_option linter.unusedSimpArgs false
open Go.RowKit

end Go.Proofs.Ythgafpeblpnolaa

namespace Go.Proofs.Ythgafpeblpnolaa
set_option maxRecDepth 100000
set_option linter.unusedVariables false
set_option linter.unusedSimpArgs false
open Go.RowKit

theorem TbS.one {w : World} {b : Nat} (hb : b = w.heap.size) {a : Option Addr} {n c : Nat} {t : List (List Int)} (h : Tbl w a n t) (hn : n ≤ 9223372036854775807) (ty : TypeId) : TbS (w.alloc (.cells #[.slice a n c] ty)) (some ⟨b, 0, none⟩) 1 [t] := by
  refine ⟨rfl, fun i hi => ?_⟩
  obtain rfl : i = 0 := by omega
  exact ⟨b, 0, a, n, c, rfl, by simp; omega, (Loc.new w hb _ _).cell 0 rfl, h.alloc _, hn⟩
theorem LstQ.fresh (w : World) {b : Nat} (hb : b = w.heap.size) (ty : TypeId) : LstQ (w.alloc (.cells #[] ty)) (some ⟨b, 0, none⟩) 0 [] [] := ⟨HdR.nil _, rfl, fun i h => absurd h (by omega)⟩
def srtF (n : Nat) (flt : List (List Int) → Bool) (acc : List (List (List (List Int)))) (t : List (List Int)) : List (List (List (List Int))) := if flt t && onlL n (prmL n) [t] then insQ [t] acc else acc
def srtK (n : Nat) (flt : List (List Int) → Bool) (L : List (List (List Int))) (k : Nat) : List (List (List (List Int))) := (L.take k).foldl (srtF n flt) []
def srtL (n : Nat) (flt : List (List Int) → Bool) (L : List (List (List Int))) : List (List (List Int)) := (L.foldl (srtF n flt) []).map fun A => A.getD 0 []
theorem srtK_succ (n : Nat) (flt : List (List Int) → Bool) (L : List (List (List Int))) {k : Nat} (h : k < L.length) : srtK n flt L (k + 1) = srtF n flt (srtK n flt L k) (L.getD k []) := by
  unfold srtK
  rw [List.take_succ_eq_append_getElem h, List.foldl_append]
  simp [List.getD_eq_getElem?_getD, List.getElem?_eq_getElem h]
theorem insQ_mem {A B : List (List (List Int))} {L : List (List (List (List Int)))} (h : B ∈ insQ A L) : B = A ∨ B ∈ L := by
  unfold insQ at h
  rcases List.mem_append.1 h with h | h
  · exact .inr ((List.takeWhile_sublist _).subset h)
  · rcases List.mem_cons.1 h with h | h
    · exact .inl h
    · exact .inr ((List.dropWhile_sublist _).subset h)
theorem insQ_len (A : List (List (List Int))) (L : List (List (List (List Int)))) : (insQ A L).length = L.length + 1 := by
  have := congrArg List.length (List.takeWhile_append_dropWhile (p := fun t => befS t A) (l := L))
  unfold insQ
  rw [List.length_append] at this ⊢
  simp; omega
theorem srtK_shp {n : Nat} {flt : List (List Int) → Bool} {L : List (List (List Int))} (hL : ∀ i, i < L.length → (L.getD i []).length = n) : ∀ k, k ≤ L.length → (srtK n flt L k).length ≤ k ∧ ∀ A ∈ srtK n flt L k, Shp 1 n A := by
  intro k
  induction k with
  | zero => intro _; exact ⟨by simp [srtK], by simp [srtK]⟩
  | succ k ih =>
    intro hk
    obtain ⟨h1, h2⟩ := ih (by omega)
    rw [srtK_succ n flt L (by omega)]
    unfold srtF
    split
    · refine ⟨by rw [insQ_len]; omega, fun A hA => ?_⟩
      rcases insQ_mem hA with e | e
      · subst e
        refine ⟨rfl, fun k' hk' => ?_⟩
        obtain rfl : k' = 0 := by omega
        simpa using hL k (by omega)
      · exact h2 A e
    · exact ⟨by omega, h2⟩

theorem srtK_src {n : Nat} {flt : List (List Int) → Bool} {L : List (List (List Int))} : ∀ k, k ≤ L.length → ∀ A ∈ srtK n flt L k, ∃ i, i < L.length ∧ A = [L.getD i []] := by
  intro k
  induction k with
  | zero => intro _; simp [srtK]
  | succ k ih =>
    intro hk A hA
    rw [srtK_succ n flt L (by omega)] at hA
    unfold srtF at hA
    split at hA
    · rcases insQ_mem hA with e | e
      · exact ⟨k, by omega, e⟩
      · exact ih (by omega) A e
    · exact ih (by omega) A hA

end Go.Proofs.Ythgafpeblpnolaa

namespace Go.Proofs.Ythgafpeblpnolaa
set_option maxRecDepth 100000
set_option linter.unusedVariables false
set_option linter.unusedSimpArgs false

/-- what makes a comparison an order -/
structure Cmp {α : Type} (c : α → α → Int) : Prop where
  eq : ∀ x y, c x y = 0 ↔ x = y
  anti : ∀ x y, c y x = - c x y
  trans : ∀ x y z, c x y < 0 → c y z < 0 → c x z < 0
theorem cmpI_cmp : Cmp cmpI := by
  refine ⟨fun x y => cmpI_eq, fun x y => ?_, fun x y z h1 h2 => ?_⟩
  · unfold cmpI
    by_cases h1 : x < y
    · rw [if_pos h1, if_neg (by omega), if_pos h1]; rfl
    · by_cases h2 : y < x
      · simp [h1, h2]
      · simp [h1, h2]
  · unfold cmpI at *
    split at h1
    · split at h2
      · rw [if_pos (by omega)]; omega
      · split at h2 <;> omega
    · split at h1 <;> omega
theorem cmpG_cmp {α : Type} {c : α → α → Int} (h : Cmp c) : Cmp (cmpG c) := by
  refine ⟨cmpG_eq h.eq, ?_, ?_⟩
  · intro xs
    induction xs with
    | nil => intro ys; cases ys <;> simp [cmpG]
    | cons x xs ih =>
      intro ys
      cases ys with
      | nil => simp [cmpG]
      | cons y ys =>
        simp only [cmpG]
        have h1 := h.anti x y
        by_cases e : c x y = 0
        · rw [if_pos e, if_pos (by omega)]; exact ih ys
        · rw [if_neg e, if_neg (by omega)]; exact h1
  · intro xs
    induction xs with
    | nil =>
      intro ys zs h1 h2
      cases ys with
      | nil => exact h2
      | cons y ys => cases zs with
        | nil => simp [cmpG] at h2
        | cons z zs => simp [cmpG]
    | cons x xs ih =>
      intro ys zs h1 h2
      cases ys with
      | nil => simp [cmpG] at h1
      | cons y ys =>
        cases zs with
        | nil => simp [cmpG] at h2
        | cons z zs =>
          simp only [cmpG] at *
          by_cases e1 : c x y = 0
          · rw [if_pos e1] at h1
            have : x = y := (h.eq _ _).1 e1
            subst this
            by_cases e2 : c x z = 0
            · rw [if_pos e2] at h2 ⊢; exact ih _ _ h1 h2
            · rw [if_neg e2] at h2 ⊢; exact h2
          · rw [if_neg e1] at h1
            by_cases e2 : c y z = 0
            · have : y = z := (h.eq _ _).1 e2
              subst this
              rw [if_neg e1]; exact h1
            · rw [if_neg e2] at h2
              have h3 := h.trans x y z h1 h2
              rw [if_neg (by omega)]; exact h3
theorem cmpL_cmp : Cmp cmpL := cmpG_cmp cmpI_cmp
theorem cmpT_cmp : Cmp cmpT := cmpG_cmp cmpL_cmp
theorem Cmp.refl {α : Type} {c : α → α → Int} (h : Cmp c) (x : α) : c x x = 0 := (h.eq x x).2 rfl
/-- x ≤ y < z -/
theorem Cmp.le_lt {α : Type} {c : α → α → Int} (h : Cmp c) {x y z : α} (h1 : ¬ c y x < 0) (h2 : c y z < 0) : c x z < 0 := by
  by_cases e : c x y = 0
  · rw [(h.eq _ _).1 e]; exact h2
  · exact h.trans x y z (by have := h.anti x y; omega) h2
theorem cmpG_append {α : Type} {c : α → α → Int} (h : Cmp c) (o x y : List α) : cmpG c (o ++ x) (o ++ y) = cmpG c x y := by
  induction o with
  | nil => rfl
  | cons a o ih => simp only [List.cons_append, cmpG]; rw [if_pos (h.refl a)]; exact ih
/-- a table is its least form exactly if no image comes before it -/
theorem lst_keep {n : Nat} {t : List (List Int)} : ∀ (ps : List (List Int)), (∀ p ∈ ps, ¬ cmpT (rnL n t p) t < 0) → ps.foldl (lstF n t) t = t := by
  intro ps
  induction ps with
  | nil => intro _; rfl
  | cons p ps ih =>
    intro h
    simp only [List.foldl_cons]
    have : lstF n t t p = t := by unfold lstF; rw [if_neg (h p (by simp))]
    rw [this]
    exact ih fun q hq => h q (by simp [hq])
theorem lst_less {n : Nat} {t : List (List Int)} : ∀ (ps : List (List Int)) (b : List (List Int)), (cmpT b t < 0 ∨ ∃ p ∈ ps, cmpT (rnL n t p) t < 0) → cmpT (ps.foldl (lstF n t) b) t < 0 := by
  intro ps
  induction ps with
  | nil => intro b h; rcases h with h | ⟨p, hp, _⟩
           · exact h
           · simp at hp
  | cons p ps ih =>
    intro b h
    simp only [List.foldl_cons]
    apply ih
    unfold lstF
    split
    · rename_i hlt
      rcases h with h | ⟨q, hq, hl⟩
      · exact .inl (cmpT_cmp.trans _ _ _ hlt h)
      · rcases List.mem_cons.1 hq with e | e
        · subst e; exact .inl hl
        · exact .inr ⟨q, e, hl⟩
    · rename_i hge
      rcases h with h | ⟨q, hq, hl⟩
      · exact .inl h
      · rcases List.mem_cons.1 hq with e | e
        · subst e; exact .inl (cmpT_cmp.le_lt hge hl)
        · exact .inr ⟨q, e, hl⟩
theorem befS_one {x y : List (List Int)} (h : x.length = y.length) : befS [x] [y] = decide (cmpT x y < 0) := by
  have : ∀ (t s : List (List Int)), t.length = s.length → befT false t s = decide (cmpT t s < 0) := by
    intro t
    induction t with
    | nil => intro s hs; cases s with
             | nil => rfl
             | cons _ _ => simp at hs
    | cons a t ih =>
      intro s hs
      cases s with
      | nil => simp at hs
      | cons b s =>
        by_cases e : cmpL a b = 0
        · have e1 : cmpT (a :: t) (b :: s) = cmpT t s := by show (if _ then _ else _) = _; rw [if_pos e]; rfl
          have e2 : befT false (a :: t) (b :: s) = befT false t s := by show (if _ then _ else _) = _; rw [if_pos e]
          rw [e2, ih s (by simpa using hs)]
          exact decide_eq_decide.2 (by rw [e1])
        · have e1 : cmpT (a :: t) (b :: s) = cmpL a b := by show (if _ then _ else _) = _; rw [if_neg e]
          have e2 : befT false (a :: t) (b :: s) = decide (cmpL a b < 0) := by show (if _ then _ else _) = _; rw [if_neg e]
          rw [e2]
          exact decide_eq_decide.2 (by rw [e1])
  exact this x y h
theorem lstB_onl {n : Nat} {t : List (List Int)} (hl : t.length = n) : lstB n t = onlL n (prmL n) [t] := by
  have hb : ∀ p, befS (imgL n p [t]) [t] = decide (cmpT (rnL n t p) t < 0) := fun p => befS_one (by rw [rnL_len, hl])
  unfold lstB onlL
  rw [Bool.eq_iff_iff, decide_eq_true_iff, List.all_eq_true]
  constructor
  · intro e i hi
    unfold onlP
    rw [hb]
    have hi := List.mem_range.1 hi
    by_cases hc : cmpT (rnL n t ((prmL n).getD i [])) t < 0
    · exfalso
      have hm : (prmL n).getD i [] ∈ prmL n := by
        rw [List.getD_eq_getElem?_getD, List.getElem?_eq_getElem hi]; exact List.getElem_mem hi
      have := lst_less (n := n) (t := t) (prmL n) t (.inr ⟨_, hm, hc⟩)
      unfold leastL at e
      rw [← e] at this
      have h0 := cmpT_cmp.refl t
      omega
    · rw [decide_eq_false hc]; rfl
  · intro h
    symm
    refine lst_keep _ fun p hp hc => ?_
    obtain ⟨i, hi, e⟩ := List.getElem_of_mem hp
    have := h i (List.mem_range.2 hi)
    unfold onlP at this
    rw [hb, List.getD_eq_getElem?_getD, List.getElem?_eq_getElem hi, Option.getD_some, e] at this
    simp [hc] at this
/-- the tables row by row come in order -/
theorem rowG_sorted {ps : List (List Int)} {fits : List (List Int) → Bool} (hps : ps.Pairwise fun p q => cmpL p q < 0) : ∀ (m : Nat) (o : List (List Int)), (rowG ps fits m o).Pairwise fun x y => cmpT x y < 0 := by
  intro m
  induction m with
  | zero => intro o; simp [rowG]
  | succ m ih =>
    intro o
    unfold rowG
    rw [List.pairwise_flatMap]
    refine ⟨fun p _ => ?_, hps.imp fun {p q} hpq x hx y hy => ?_⟩
    · split
      · exact ih _
      · exact List.Pairwise.nil
    · split at hx
      · split at hy
        · obtain ⟨r, e1, _, _⟩ := rowG_mem _ _ _ hx
          obtain ⟨s, e2, _, _⟩ := rowG_mem _ _ _ hy
          rw [e1, e2, List.append_assoc, List.append_assoc]
          show cmpG cmpL _ _ < 0
          rw [cmpG_append cmpL_cmp]
          simp only [List.cons_append, List.nil_append, cmpG]
          rw [if_neg (by omega)]; exact hpq
        · simp at hy
      · simp at hx
theorem prm_sorted : ∀ n : Fin 5, (prmL n.1).Pairwise fun p q => cmpL p q < 0 := by decide +kernel
/-- what is sorted already stays -/
theorem srt_sorted {n : Nat} {flt : List (List Int) → Bool} : ∀ (L : List (List (List Int))) (acc : List (List (List Int))), (∀ t ∈ L, t.length = n) → (∀ t ∈ acc, t.length = n) → L.Pairwise (fun x y => cmpT x y < 0) → (∀ x ∈ acc, ∀ y ∈ L, cmpT x y < 0) → L.foldl (srtF n flt) (acc.map fun t => [t]) = (acc ++ L.filter fun t => flt t && onlL n (prmL n) [t]).map fun t => [t] := by
  intro L
  induction L with
  | nil => intro acc _ _ _ _; simp
  | cons t L ih =>
    intro acc hl ha hp hx
    rw [List.pairwise_cons] at hp
    simp only [List.foldl_cons]
    cases hc : (flt t && onlL n (prmL n) [t]) with
    | true =>
      have e : srtF n flt (acc.map fun t => [t]) t = (acc ++ [t]).map fun t => [t] := by
        unfold srtF
        rw [if_pos hc, insQ_at (k := (acc.map fun t => [t]).length) (Nat.le_refl _) (fun i hi => ?_) (.inl rfl)]
        · rw [List.take_length, List.drop_length, List.map_append]; rfl
        · rw [List.length_map] at hi
          have hb := befS_one (x := acc[i]) (y := t) (by rw [ha _ (List.getElem_mem hi), hl t (by simp)])
          rw [List.getD_eq_getElem?_getD, List.getElem?_map, List.getElem?_eq_getElem hi, Option.map_some, Option.getD_some, hb]
          simp only [decide_eq_true_eq]
          exact hx _ (List.getElem_mem hi) t (by simp)
      rw [e, ih (acc ++ [t]) (fun s hs => hl s (by simp [hs])) (fun s hs => by
        rcases List.mem_append.1 hs with h | h
        · exact ha s h
        · simp at h; rw [h]; exact hl t (by simp)) hp.2 (fun x h y hy => by
        rcases List.mem_append.1 h with h | h
        · exact hx x h y (by simp [hy])
        · simp at h; rw [h]; exact hp.1 y hy)]
      rw [List.filter_cons, hc]; simp
    | false =>
      have e : srtF n flt (acc.map fun t => [t]) t = acc.map fun t => [t] := by unfold srtF; rw [hc]; rfl
      rw [e, ih acc (fun s hs => hl s (by simp [hs])) ha hp.2 (fun x h y hy => hx x h y (by simp [hy]))]
      rw [List.filter_cons, hc]; simp
theorem srtL_filter {n : Nat} {flt : List (List Int) → Bool} {L : List (List (List Int))} (hl : ∀ t ∈ L, t.length = n) (hp : L.Pairwise fun x y => cmpT x y < 0) : srtL n flt L = L.filter fun t => flt t && lstB n t := by
  have h := srt_sorted (n := n) (flt := flt) L [] hl (by simp) hp (by simp)
  unfold srtL
  simp only [List.map_nil, List.nil_append] at h
  rw [h, List.map_map]
  have : ((fun A : List (List (List Int)) => A.getD 0 []) ∘ fun t => [t]) = id := rfl
  rw [this, List.map_id]
  exact List.filter_congr fun t ht => by rw [lstB_onl (hl t ht)]
theorem rowL_len {n : Nat} {fits : List (List Int) → Bool} : ∀ t ∈ rowL n fits, t.length = n := fun t ht => by
  obtain ⟨r, e, h, _⟩ := rowG_mem _ _ _ ht
  rw [e]; simpa using h
end Go.Proofs.Ythgafpeblpnolaa

namespace Go.Proofs.Ythgafpeblpnolaa
set_option maxRecDepth 100000
set_option linter.unusedVariables false
set_option linter.unusedSimpArgs false

theorem lea_fold {n : Nat} {t : List (List Int)} : ∀ (ps : List (List Int)) (b : List (List Int)), b.length = n → ps.foldl (leaF n [t]) [b] = [ps.foldl (lstF n t) b] := by
  intro ps
  induction ps with
  | nil => intro b _; rfl
  | cons p ps ih =>
    intro b hb
    simp only [List.foldl_cons]
    have e : leaF n [t] [b] p = [lstF n t b p] := by
      unfold leaF lstF
      have : imgL n p [t] = [rnL n t p] := rfl
      rw [this, befS_one (by rw [rnL_len, hb])]
      by_cases h : cmpT (rnL n t p) b < 0
      · rw [decide_eq_true h, if_pos rfl, if_pos h]
      · rw [decide_eq_false h, if_neg h]; rfl
    rw [e]
    refine ih _ ?_
    unfold lstF
    split
    · exact rnL_len _ _ _
    · exact hb
theorem leaS_one {n : Nat} {t : List (List Int)} (h : t.length = n) : leaS n [t] = [leastL n t] := lea_fold _ _ h
theorem leastL_len {n : Nat} {t : List (List Int)} (h : t.length = n) : (leastL n t).length = n := by
  have : ∀ (ps : List (List Int)) (b : List (List Int)), b.length = n → (ps.foldl (lstF n t) b).length = n := by
    intro ps
    induction ps with
    | nil => intro b hb; exact hb
    | cons p ps ih =>
      intro b hb
      simp only [List.foldl_cons]
      refine ih _ ?_
      unfold lstF
      split
      · exact rnL_len _ _ _
      · exact hb
  exact this _ _ h

/-- the list of the racks of n elements -/
def rkLst (n : Nat) : List (List (List Int)) := (rowL n chkR).filter (lstB n)
/-- where a rack's least form is -/
def porI (t : List (List Int)) : Nat := (rkLst t.length).findIdx fun s => decide (s = leastL t.length t)
theorem porI_of {t : List (List Int)} {k : Nat} (hk : k < (rkLst t.length).length) (h1 : (rkLst t.length).getD k [] = leastL t.length t) (h2 : ∀ j, j < k → (rkLst t.length).getD j [] ≠ leastL t.length t) : porI t = k := by
  unfold porI
  rw [List.findIdx_eq hk]
  rw [List.getD_eq_getElem?_getD, List.getElem?_eq_getElem hk] at h1
  refine ⟨by simpa using h1, fun j hj => ?_⟩
  have := h2 j hj
  rw [List.getD_eq_getElem?_getD, List.getElem?_eq_getElem (by omega)] at this
  simpa using this
theorem por_some {t : List (List Int)} (h : isRk t = true) (h4 : t.length ≤ 4) : ∃ k, k < (rkLst t.length).length ∧ (rkLst t.length).getD k [] = leastL t.length t := by
  obtain ⟨k, hk, e⟩ := List.getElem_of_mem (least_in h h4)
  refine ⟨k, hk, ?_⟩
  unfold rkLst
  rw [List.getD_eq_getElem?_getD, List.getElem?_eq_getElem hk]; exact e
/-- what PlaceOfRack answers -/
def porF (t : List (List Int)) : Int × Int := if isRk t = true then (if t.length ≤ 4 then ((porI t : Nat), 0) else (0, 3)) else (0, 1)
end Go.Proofs.Ythgafpeblpnolaa

namespace Go.Proofs.Ythgafpeblpnolaa
set_option maxRecDepth 100000
set_option linter.unusedVariables false
set_option linter.unusedSimpArgs false
open Go.RowKit

theorem tab_ext {xs ys : List (List Int)} (hl : xs.length = ys.length) (h : ∀ j, j < xs.length → xs.getD j [] = ys.getD j []) : xs = ys := by
  apply List.ext_getElem hl
  intro i h1 h2
  have := h i h1
  simpa [List.getD_eq_getElem?_getD, List.getElem?_eq_getElem h1, List.getElem?_eq_getElem h2] using this

end Go.Proofs.Ythgafpeblpnolaa

namespace Go.Proofs.Ythgafpeblpnolaa
set_option maxRecDepth 100000
set_option linter.unusedVariables false
set_option linter.unusedSimpArgs false
open Go.RowKit

/-- what a test of racks does -/
def TstR (w : World) (F : FuncId) (lb : Array Value) (p : List (List Int) → Bool) (ts : List (List (List Int))) : Prop :=
  (∀ (args : Array Value) (w : World), (callFunc F args).run Try.prog w = .ok (.enter F args) w) ∧ ∀ i, i < ts.length → ∀ w', Below w.heap.size w w' → ∀ va vn vc, Tbl w' va vn (ts.getD i []) → Calls Try.prog F (#[.agg #[.slice va vn vc]] ++ lb) w' fun e w'' => e = .returned (.bool (p (ts.getD i []))) ∧ Below w'.heap.size w' w''
/-- the first place -/
def IdxR (p : List (List Int) → Bool) (ts : List (List (List Int))) (r : Int) : Prop := (∃ k, k < ts.length ∧ r = (k : Int) ∧ p (ts.getD k []) = true ∧ ∀ j, j < k → p (ts.getD j []) = false) ∨ (r = -1 ∧ ∀ j, j < ts.length → p (ts.getD j []) = false)

end Go.Proofs.Ythgafpeblpnolaa

namespace Go.Proofs.Ythgafpeblpnolaa
set_option maxRecDepth 100000
set_option linter.unusedVariables false
set_option linter.unusedSimpArgs false
open Go.RowKit

end Go.Proofs.Ythgafpeblpnolaa

namespace Go.Proofs.Ythgafpeblpnolaa
set_option maxRecDepth 100000
set_option linter.unusedVariables false
set_option linter.unusedSimpArgs false
open Go.RowKit

theorem lists_bd {n : Nat} (h1 : 1 ≤ n) (h4 : n ≤ 4) (fits p : List (List Int) → Bool) : ((rowL n fits).filter p).length ≤ 1000000 ∧ totS ((rowL n fits).filter p) ≤ 1000000000 := by
  have e0 : ((rowL n fits).filter p).length ≤ 1000000 := by
    have h := rowG_bd (prmL n) fits n []
    have e1 := prm_bd h1 h4
    have e2 : (prmL n).length ^ n ≤ 24 ^ n := Nat.pow_le_pow_left e1.1 n
    have e3 : (24 : Nat) ^ n ≤ 24 ^ 4 := Nat.pow_le_pow_right (by omega) h4
    have e4 : (24 : Nat) ^ 4 ≤ 1000000 := by decide
    have e5 : ((rowL n fits).filter p).length ≤ (rowL n fits).length := List.length_filter_le _ _
    unfold rowL at e5 ⊢
    omega
  refine ⟨e0, ?_⟩
  have ht : ∀ (L : List (List (List Int))), (∀ t ∈ L, tot t ≤ 100) → totS L ≤ 100 * L.length := by
    intro L
    induction L with
    | nil => intro _; simp [totS]
    | cons t L ih =>
      intro h
      rw [totS_cons, List.length_cons]
      have := h t (by simp)
      have := ih fun s hs => h s (by simp [hs])
      omega
  have hr : ∀ (R : List (List Int)), (∀ r ∈ R, r.length ≤ 4) → tot R ≤ 4 * R.length := by
    intro R
    induction R with
    | nil => intro _; simp [tot]
    | cons r R ih =>
      intro h
      have e : tot (r :: R) = r.length + tot R := by simp only [tot, List.map_cons, List.sum_cons]
      rw [e, List.length_cons]
      have := h r (by simp)
      have := ih fun s hs => h s (by simp [hs])
      omega
  have := ht ((rowL n fits).filter p) (fun t h => by
    have hm := (List.mem_filter.1 h).1
    obtain ⟨r, e, hl, hq⟩ := rowG_mem _ _ _ hm
    rw [List.nil_append] at e
    subst e
    have hw := rows_rwsP h1 h4 hl hq
    have := hr t (fun s hs => by
      obtain ⟨i, hi, rfl⟩ := List.getElem_of_mem hs
      have := (hw.2 i (by omega)).len
      rw [List.getD_eq_getElem?_getD, List.getElem?_eq_getElem hi, Option.getD_some] at this
      omega)
    omega)
  omega
end Go.Proofs.Ythgafpeblpnolaa

namespace Go.Proofs.Ythgafpeblpnolaa
set_option maxRecDepth 100000
set_option linter.unusedVariables false
set_option linter.unusedSimpArgs false
open Go.RowKit

/-- what AllRacks answers -/
def arkF (x : Int) : List (List (List Int)) × Int := if 1 ≤ x ∧ x ≤ 4 then ((rowL x.toNat chkR).filter (lstB x.toNat), 0) else ([], 2)
theorem ark_eq {n : Nat} (h1 : 1 ≤ n) (h4 : n ≤ 4) : srtL n (fun t => !false || qndOk n t) (rckN n) = (rowL n chkR).filter (lstB n) := by
  have hr : rckN n = rowL n chkR := (rck_eq ⟨n, by omega⟩ h1).symm
  rw [hr, srtL_filter rowL_len (rowG_sorted (prm_sorted ⟨n, by omega⟩) _ _)]
  exact List.filter_congr fun t _ => by simp
theorem arkF_len (x : Int) : (arkF x).1.length ≤ 1000000 ∧ totS (arkF x).1 ≤ 1000000000 := by
  unfold arkF
  split
  · exact lists_bd (by omega) (by omega) _ _
  · simp [totS]

end Go.Proofs.Ythgafpeblpnolaa
