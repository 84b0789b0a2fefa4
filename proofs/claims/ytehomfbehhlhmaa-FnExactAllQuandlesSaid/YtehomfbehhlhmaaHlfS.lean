/-
  The reference's check of the rows of a cycle set that are known.
  No condition but bounds.
-/
import Derived.Test.YtehomfbehhlhmaaCykI
import Derived.Test.YtehomfbehhlhmaaSprS
namespace Go.Proofs.Ytehomfbehhlhmaa
set_option maxRecDepth 100000
set_option linter.unusedVariables false
set_option linter.unusedSimpArgs false
open Go.RowKit

def hfP (n : Nat) (rows : List (List Int)) (x y : Nat) : Bool :=
  decide (rows.getD x [] = []) || (decide (rows.getD y [] = []) || (decide (rows.getD (cyV rows x y).toNat [] = []) || (decide (rows.getD (cyV rows y x).toNat [] = []) || cyE n rows x y (cyV rows x y).toNat (cyV rows y x).toNat)))
def hfX (n : Nat) (rows : List (List Int)) (x : Nat) : Bool := (List.range x).all fun y => hfP n rows x y
def hfL (n : Nat) (rows : List (List Int)) : Bool := (List.range n).all fun x => hfX n rows x
theorem RwsOk.at {n : Nat} {rows : List (List Int)} (h : RwsOk n rows) {x nx : Nat} (hx : x < n) {w : World} {a : Option Addr} (hr : Row w a nx (rows.getD x [])) : (nx = 0 ∧ rows.getD x [] = []) ∨ (nx = n ∧ IsP n (rows.getD x [])) := by
  rcases h.2 x hx with e | e
  · exact .inl ⟨by have := hr.len; rw [e] at this; simpa using this, e⟩
  · exact .inr ⟨by have := hr.len; rw [e.len] at this; exact this, e⟩

set_option maxHeartbeats 16000000 in
theorem l19Half_any (n : Nat) (a : Option Addr) (c : Nat) (rows : List (List Int)) (w : World) (h : Tbl w a n rows) (hn0 : 0 < n) (hn : n ≤ 12) (hok : RwsOk n rows) :
    Calls Try.prog 192 #[.slice a n c] w fun e w' => e = .returned (.bool (hfL n rows)) ∧ Below w.heap.size w w' := by
  have HO := Lib.hid hok
  clear hok
  have i0 : wrap64 (n : Int) = n := IntWalk.wrap64_in _ ⟨by omega, by omega⟩
  go_enter Try.func192, Try.ntmps192
  go_wp2
  go_loopw [4, 5, 6, 7, 8] (fun i _ _ _ _ wr => ∃ x : Nat, x ≤ n ∧ i = .int .i64 x ∧ Below w.heap.size w wr ∧ Hid (∀ x', x' < x → hfX n rows x' = true)) (fun i _ _ _ _ _ => n - (intOf i).toNat)
  case atStart => exact ⟨0, Nat.zero_le _, rfl, Below.refl _ _, Lib.hid fun x' hx => absurd hx (by omega)⟩
  case round =>
    obtain ⟨x, hx, rfl, hq, HX⟩ := hrel
    by_cases hlt : x < n
    · go_wp2
      go_loopw [5, 6, 7, 8] (fun j _ _ _ wr => ∃ y : Nat, y ≤ x ∧ j = .int .i64 y ∧ Below w.heap.size w wr ∧ Hid (∀ y', y' < y → hfP n rows x y' = true)) (fun j _ _ _ _ => x - (intOf j).toNat)
      case atStart => exact ⟨0, Nat.zero_le _, rfl, hq, Lib.hid fun x' hx => absurd hx (by omega)⟩
      case round =>
        clear hq
        obtain ⟨y, hy, rfl, hq, HY⟩ := hrel
        by_cases hly : y < x
        · have STEP : Hid (hfP n rows x y = true → ∀ y', y' < y + 1 → hfP n rows x y' = true) := Lib.hid (step_lt HY.out)
          obtain ⟨b, off, ax, nx, cx, rfl, g10, r1, l1⟩ := h.at x hlt
          obtain ⟨b2, off2, ay, ny, cy, e2, g20, r2, l2⟩ := h.at y (by omega)
          cases e2
          have g1 := (hq.cell (p := ⟨b, off + x, none⟩) (World.block_lt_of_cell? w _ g10)).trans g10
          have g2 := (hq.cell (p := ⟨b, off + y, none⟩) (World.block_lt_of_cell? w _ g20)).trans g20
          have i1 : (0 : Int) ≤ (x : Int) := by omega
          have i2 : (x : Int) < (n : Int) := by omega
          have i3 : (0 : Int) ≤ (y : Int) := by omega
          have i4 : (y : Int) < (n : Int) := by omega
          have t0 : ((0 : Int) == 0) = true := rfl
          have tn : ((n : Int) == 0) = false := by simp; omega
          have HQ := Lib.hid hq
          rcases RwsOk.at HO.out hlt r1 with ⟨rfl, e⟩ | ⟨rfl, hpx⟩
          · have HC1 : Hid (hfP n rows x y = true) := Lib.hid (by unfold hfP; rw [decide_eq_true e, Bool.true_or])
            clear e
            go_wp2
            go_roundw
            case rel => exact ⟨y + 1, by omega, by go_num, HQ.out, Lib.hid (STEP.out HC1.out)⟩
            case measure => simp [intOf]; omega
          · have HXN := Lib.hid (IsP.ne hn0 hpx)
            rcases RwsOk.at HO.out (show y < nx by omega) r2 with ⟨rfl, e⟩ | ⟨rfl, hpy⟩
            · have HC1 : Hid (hfP nx rows x y = true) := Lib.hid (by unfold hfP; rw [decide_eq_true e, Bool.true_or, Bool.or_true])
              clear e
              go_wp2
              go_roundw
              case rel => exact ⟨y + 1, by omega, by go_num, HQ.out, Lib.hid (STEP.out HC1.out)⟩
              case measure => simp [intOf]; omega
            · have HYN := Lib.hid (IsP.ne hn0 hpy)
              obtain ⟨u, hu, hun⟩ := hpx.at (show y < ny by omega)
              obtain ⟨v, hv, hvn⟩ := hpy.at (show x < ny by omega)
              obtain ⟨bx, ox, rfl, gu⟩ := (r1.below hq).at y (by omega)
              obtain ⟨by_, oy, rfl, gv⟩ := (r2.below hq).at x (by omega)
              rw [hu] at gu
              rw [hv] at gv
              obtain ⟨b4, o4, au, nu, cu, e4, g40, ru, lu⟩ := h.at u hun
              cases e4
              obtain ⟨b5, o5, av, nv, cv, e5, g50, rv, lv⟩ := h.at v hvn
              cases e5
              have g4 := (hq.cell (p := ⟨b, off + u, none⟩) (World.block_lt_of_cell? w _ g40)).trans g40
              have g5 := (hq.cell (p := ⟨b, off + v, none⟩) (World.block_lt_of_cell? w _ g50)).trans g50
              have i5 : (0 : Int) ≤ (u : Int) := by omega
              have i6 : (u : Int) < (ny : Int) := by omega
              have i7 : (0 : Int) ≤ (v : Int) := by omega
              have i8 : (v : Int) < (ny : Int) := by omega
              have HCE : Hid (hfP ny rows x y = (decide (rows.getD u [] = []) || (decide (rows.getD v [] = []) || cyE ny rows x y u v))) := Lib.hid (by
                unfold hfP
                rw [show cyV rows x y = (u : Int) from hu, show cyV rows y x = (v : Int) from hv, Int.toNat_natCast, Int.toNat_natCast]
                rw [decide_eq_false HXN.out, decide_eq_false HYN.out, Bool.false_or, Bool.false_or])
              clear hu hv
              go_wp2
              go_quiet (fail)
              rcases RwsOk.at HO.out hun ru with ⟨rfl, e⟩ | ⟨rfl, hpu⟩
              · have HC1 : Hid (hfP ny rows x y = true) := Lib.hid (by rw [HCE.out, decide_eq_true e, Bool.true_or])
                clear e
                go_wp2
                go_roundw
                case rel => exact ⟨y + 1, by omega, by go_num, below_drewN HQ.out _, Lib.hid (STEP.out HC1.out)⟩
                case measure => simp [intOf]; omega
              · rcases RwsOk.at HO.out hvn rv with ⟨rfl, e⟩ | ⟨rfl, hpv⟩
                · have HC1 : Hid (hfP nu rows x y = true) := Lib.hid (by rw [HCE.out, decide_eq_true e, Bool.true_or, Bool.or_true])
                  clear e
                  go_wp2
                  go_roundw
                  case rel => exact ⟨y + 1, by omega, by go_num, below_drewN HQ.out _, Lib.hid (STEP.out HC1.out)⟩
                  case measure => simp [intOf]; omega
                · have HCE2 : Hid (hfP nv rows x y = cyE nv rows x y u v) := Lib.hid (by
                    rw [HCE.out, decide_eq_false (IsP.ne hn0 hpu), decide_eq_false (IsP.ne hn0 hpv), Bool.false_or, Bool.false_or])
                  go_wp2
                  go_loopw [8] (fun i wr3 => ∃ z : Nat, z ≤ nv ∧ i = .int .i64 z ∧ Hid (Below w.heap.size w wr3) ∧ Hid (∀ z', z' < z → decide (cyV rows u (cyV rows x z').toNat = cyV rows v (cyV rows y z').toNat) = true)) (fun i _ => nv - (intOf i).toNat)
                  case atStart => exact ⟨0, Nat.zero_le _, rfl, Lib.hid (below_drewN HQ.out _), Lib.hid fun x' hx => absurd hx (by omega)⟩
                  case round =>
                    obtain ⟨z, hz, rfl, HB3, HZ⟩ := hrel
                    by_cases hlz : z < nv
                    · obtain ⟨pz, hpz, hpzn⟩ := hpx.at hlz
                      obtain ⟨qz, hqz, hqzn⟩ := hpy.at hlz
                      have hq3 := HB3.out
                      have g13 := (hq3.cell (p := ⟨b, off + x, none⟩) (World.block_lt_of_cell? w _ g10)).trans g10
                      have g23 := (hq3.cell (p := ⟨b, off + y, none⟩) (World.block_lt_of_cell? w _ g20)).trans g20
                      obtain ⟨bx', ox', e6, gp⟩ := (r1.below hq3).at z (by omega)
                      cases e6
                      obtain ⟨by', oy', e7, gq⟩ := (r2.below hq3).at z (by omega)
                      cases e7
                      obtain ⟨bu, ou, rfl, gup⟩ := (ru.below hq3).at pz (by omega)
                      obtain ⟨bv, ov, rfl, gvq⟩ := (rv.below hq3).at qz (by omega)
                      rw [hpz] at gp
                      rw [hqz] at gq
                      obtain ⟨A, HA⟩ : ∃ A, Hid ((rows.getD u []).getD pz 0 = A) := ⟨_, rfl⟩
                      obtain ⟨B, HBB⟩ : ∃ B, Hid ((rows.getD v []).getD qz 0 = B) := ⟨_, rfl⟩
                      rw [HA.out] at gup
                      rw [HBB.out] at gvq
                      have k1 : (0 : Int) ≤ (z : Int) := by omega
                      have k2 : (z : Int) < (nv : Int) := by omega
                      have k7 : (0 : Int) ≤ (pz : Int) := by omega
                      have k8 : (pz : Int) < (nv : Int) := by omega
                      have k9 : (0 : Int) ≤ (qz : Int) := by omega
                      have k10 : (qz : Int) < (nv : Int) := by omega
                      have HZE : Hid (decide (cyV rows u (cyV rows x z).toNat = cyV rows v (cyV rows y z).toNat) = decide (A = B)) := Lib.hid (by
                        rw [show cyV rows x z = (pz : Int) from hpz, show cyV rows y z = (qz : Int) from hqz, Int.toNat_natCast, Int.toNat_natCast]
                        rw [show cyV rows u pz = A from HA.out, show cyV rows v qz = B from HBB.out])
                      clear hpz hqz hq3
                      by_cases hAB : A = B
                      · subst hAB
                        have t1 : (A != A) = false := by simp
                        go_wp2
                        go_quiet (fail)
                        go_wp2
                        go_roundw
                        case rel => exact ⟨z + 1, by omega, by go_num, Lib.hid (below_drewN HB3.out _), Lib.hid (step_lt HZ.out (by rw [HZE.out]; simp))⟩
                        case measure => simp [intOf]; omega
                      · have t1 : (A != B) = true := by simp [hAB]
                        have HC : Hid (hfL nv rows = false) := Lib.hid (by
                          refine rng_no (y := x) hlt ?_
                          refine rng_no (y := y) hly ?_
                          rw [HCE2.out]; exact rng_no (y := z) hlz (by rw [HZE.out]; simp [hAB]))
                        go_wp2
                        go_quiet (fail)
                        go_wp2
                        go_ret
                        exact ⟨ret_bool HC.out.symm, below_drewN HB3.out _⟩
                    · obtain rfl : nv = z := by omega
                      have HC1 : Hid (hfP nv rows x y = true) := Lib.hid (by rw [HCE2.out]; exact rng_of fun z hz => HZ.out z hz)
                      go_wp2
                      go_roundw
                      case rel => exact ⟨y + 1, by omega, by go_num, HB3.out, Lib.hid (STEP.out HC1.out)⟩
                      case measure => simp [intOf]; omega
        · obtain rfl : x = y := by omega
          have HC : Hid (hfX n rows x = true) := Lib.hid (rng_of fun y hy => HY.out y hy)
          go_wp2
          go_roundw
          case rel => exact ⟨x + 1, by omega, by go_num, hq, Lib.hid (step_lt HX.out HC.out)⟩
          case measure => simp [intOf]; omega
    · obtain rfl : n = x := by omega
      have HC : Hid (hfL n rows = true) := Lib.hid (rng_of fun x hx => HX.out x hx)
      go_wp2
      go_ret
      exact ⟨ret_bool HC.out.symm, hq⟩
end Go.Proofs.Ytehomfbehhlhmaa
