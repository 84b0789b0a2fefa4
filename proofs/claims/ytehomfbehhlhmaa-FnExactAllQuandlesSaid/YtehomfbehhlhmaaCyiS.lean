/-
  Cycle sets: what the reference's question answers of tables whose rows are permutations.
  No condition but bounds.
-/
import Derived.Test.YtehomfbehhlhmaaHlfS
import Derived.Test.YtehomfbehhlhmaaRackS
import Derived.Test.YtehomfbehhlhmaaBase
import Derived.Test.YtehomfbehhlhmaaRkSolL
namespace Go.Proofs.Ytehomfbehhlhmaa
set_option maxRecDepth 100000
set_option linter.unusedVariables false
set_option linter.unusedSimpArgs false
open Go.RowKit

/-- all rows are permutations -/
def RwsP (n : Nat) (t : List (List Int)) : Prop := t.length = n ∧ ∀ i, i < n → IsP n (t.getD i [])
theorem RwsP.sq {n : Nat} {t : List (List Int)} (h : RwsP n t) : Sq n t := by
  refine ⟨h.1, fun x hx => ⟨(h.2 x hx).len, fun y hy => ?_⟩⟩
  obtain ⟨z, hz, hzn⟩ := (h.2 x hx).at hy
  have : tv t x y = z := by unfold tv; rw [hz, Int.toNat_natCast]
  rw [this]; exact ⟨hzn, hz⟩
def sqrL (n : Nat) (t : List (List Int)) : List Int := (List.range n).map fun x : Nat => cyV t x x
theorem sqrL_len (n : Nat) (t : List (List Int)) : (sqrL n t).length = n := by simp [sqrL]
theorem sqrL_succ (n : Nat) (t : List (List Int)) : sqrL (n + 1) t = sqrL n t ++ [cyV t n n] := by simp [sqrL, List.range_succ]
def cyfP (t : List (List Int)) (x y z : Nat) : Bool := decide (cyV t (cyV t x y).toNat (cyV t x z).toNat = cyV t (cyV t y x).toNat (cyV t y z).toNat)
def cyfY (n : Nat) (t : List (List Int)) (x y : Nat) : Bool := (List.range n).all fun z => cyfP t x y z
def cyfX (n : Nat) (t : List (List Int)) (x : Nat) : Bool := (List.range n).all fun y => cyfY n t x y
def cyfOk (n : Nat) (t : List (List Int)) : Bool := (List.range n).all fun x => cyfX n t x
def isCyc (n : Nat) (t : List (List Int)) : Bool := permOk (sqrL n t) && cyfOk n t
theorem isP_perm {n : Nat} {p : List Int} (h : IsP n p) : permOk p = true := by
  obtain ⟨f, g, hl, h1, h2⟩ := h
  unfold permOk allN
  rw [List.all_eq_true]
  intro x hx
  have hx := List.mem_range.1 hx
  rw [hl] at hx
  have h3 := h1 x hx
  have h4 := h2 (g x) h3.2.1
  rw [h3.2.2.1] at h4
  rw [List.contains_iff_mem, ← h4]
  exact getD_mem (by omega)

set_option maxHeartbeats 4000000 in
theorem l01RowsP_any (n : Nat) (a : Option Addr) (c : Nat) (t : List (List Int)) (w : World) (h : Tbl w a n t) (hn0 : 1 ≤ n) (hn : n ≤ 12) (hp : RwsP n t) :
    Calls Try.prog 213 #[.slice a n c] w fun e w' => e = .returned (.bool true) ∧ w = w' := by
  have HP := Lib.hid hp
  have hr12 : rngB 1 12 (n : Int) = true := by unfold rngB; simp; omega
  have HR := Lib.hid hr12
  clear hp hr12
  go_enter Try.func213, Try.ntmps213
  go_wp2
  go_loop [3] (fun i => ∃ k : Nat, k ≤ n ∧ i = .int .i64 k) (fun i => n - (intOf i).toNat)
  case atStart => exact ⟨0, Nat.zero_le _, rfl⟩
  case round =>
    obtain ⟨k, hk, rfl⟩ := hrel
    by_cases hlt : k < n
    · obtain ⟨b, off, ax, nx, cx, rfl, g0, r1, l1⟩ := h.at k hlt
      have hpx := HP.out.2 k hlt
      obtain rfl : n = nx := by have := r1.len; rw [hpx.len] at this; exact this.symm
      have HC : Hid (permOk (t.getD k []) = true) := Lib.hid (isP_perm hpx)
      clear hpx
      go_wp2_with fail
      refine (l01Perm_any _ _ _ _ _ r1 (by omega)).mono ?_
      rintro e w2 ⟨rfl, rfl⟩
      rw [HR.out, HC.out]
      go_wp2
      go_round
      case rel => exact ⟨k + 1, by omega, by go_num⟩
      case measure => simp [intOf]; omega
    · obtain rfl : n = k := by omega
      go_wp2
      go_ret
      exact ⟨rfl, rfl⟩

set_option maxHeartbeats 4000000 in
theorem l05Squares_any (n : Nat) (a : Option Addr) (c : Nat) (t : List (List Int)) (w : World) (h : Tbl w a n t) (hn : n ≤ 12) (hp : RwsP n t) :
    Calls Try.prog 214 #[.slice a n c] w fun e w' => ∃ a' c', e = .returned (.slice a' n c') ∧ Own w' w.heap.size a' n c' (sqrL n t) ∧ Below w.heap.size w w' := by
  have HP := Lib.hid hp
  clear hp
  go_enter Try.func214, Try.ntmps214
  go_wp2
  go_loopw [3, 4] (fun s i wr => ∃ (k : Nat) (a' : Option Addr) (c' : Nat), k ≤ n ∧ i = .int .i64 k ∧ s = .slice a' k c' ∧ Own wr w.heap.size a' k c' (sqrL k t) ∧ Below w.heap.size w wr) (fun _ i _ => n - (intOf i).toNat)
  case atStart => exact ⟨0, _, _, Nat.zero_le _, rfl, rfl, Own.fresh w rfl, below_al (Below.refl _ _) _⟩
  case round =>
    obtain ⟨k, a', c', hk, rfl, rfl, ho, hq⟩ := hrel
    have hwq := hq.size
    by_cases hlt : k < n
    · obtain ⟨b, off, ax, nx, cx, rfl, g0, r1, l1⟩ := h.at k hlt
      have hpx := HP.out.2 k hlt
      obtain rfl : n = nx := by have := r1.len; rw [hpx.len] at this; exact this.symm
      obtain ⟨bx, ox, rfl, gs⟩ := (r1.below hq).at k hlt
      have g1 := (hq.cell (p := ⟨b, off + k, none⟩) (World.block_lt_of_cell? w _ g0)).trans g0
      obtain ⟨v, HV⟩ : ∃ v, Hid ((t.getD k []).getD k 0 = v) := ⟨_, rfl⟩
      rw [HV.out] at gs
      have HS : Hid (sqrL (k + 1) t = sqrL k t ++ [v]) := Lib.hid (by rw [sqrL_succ, ← HV.out]; rfl)
      have i1 : (0 : Int) ≤ (k : Int) := by omega
      have i2 : (k : Int) < (n : Int) := by omega
      clear hpx
      go_wp2_with (at_builtin; refine app1 rfl rfl ho rfl rfl (by omega) hwq ?_; intro g' cc w8 hO hg8 hs8 hb8)
      go_roundw
      case rel => exact ⟨k + 1, _, cc, by omega, by go_num, rfl, by rw [HS.out]; exact hO, hq.trans hb8⟩
      case measure => simp [intOf]; omega
    · obtain rfl : n = k := by omega
      go_wp2
      go_ret
      exact ⟨_, _, rfl, ho, hq⟩

set_option maxHeartbeats 16000000 in
theorem l05Fault_any (n : Nat) (a : Option Addr) (c : Nat) (t : List (List Int)) (w : World) (h : Tbl w a n t) (hn : n ≤ 12) (hp : RwsP n t) :
    Calls Try.prog 215 #[.slice a n c] w fun e w' => ∃ a' m c', e = .returned (.slice a' m c') ∧ decide (m = 0) = cyfOk n t ∧ Below w.heap.size w w' := by
  have HP := Lib.hid hp
  clear hp
  have i0 : wrap64 (n : Int) = n := IntWalk.wrap64_in _ ⟨by omega, by omega⟩
  go_enter Try.func215, Try.ntmps215
  go_wp2
  go_loopw [4, 5, 6] (fun i _ _ wr => ∃ x : Nat, x ≤ n ∧ i = .int .i64 x ∧ Below w.heap.size w wr ∧ Hid (∀ x', x' < x → cyfX n t x' = true)) (fun i _ _ _ => n - (intOf i).toNat)
  case atStart => exact ⟨0, Nat.zero_le _, rfl, Below.refl _ _, Lib.hid fun x' hx => absurd hx (by omega)⟩
  case round =>
    obtain ⟨x, hx, rfl, hq, HX⟩ := hrel
    by_cases hlt : x < n
    · go_wp2
      go_loopw [5, 6] (fun j _ wr => ∃ y : Nat, y ≤ n ∧ j = .int .i64 y ∧ Below w.heap.size w wr ∧ Hid (∀ y', y' < y → cyfY n t x y' = true)) (fun j _ _ => n - (intOf j).toNat)
      case atStart => exact ⟨0, Nat.zero_le _, rfl, hq, Lib.hid fun x' hx => absurd hx (by omega)⟩
      case round =>
        clear hq
        obtain ⟨y, hy, rfl, hq, HY⟩ := hrel
        by_cases hly : y < n
        · go_wp2
          go_loopw [6] (fun i wr => ∃ z : Nat, z ≤ n ∧ i = .int .i64 z ∧ Below w.heap.size w wr ∧ Hid (∀ z', z' < z → cyfP t x y z' = true)) (fun i _ => n - (intOf i).toNat)
          case atStart => exact ⟨0, Nat.zero_le _, rfl, hq, Lib.hid fun x' hx => absurd hx (by omega)⟩
          case round =>
            clear hq
            obtain ⟨z, hz, rfl, hq, HZ⟩ := hrel
            by_cases hlz : z < n
            · obtain ⟨b, off, ax, nx, cx, rfl, g10, r1, l1⟩ := h.at x hlt
              obtain ⟨b2, off2, ay, ny, cy, e2, g20, r2, l2⟩ := h.at y hly
              cases e2
              have hpx := HP.out.2 x hlt
              have hpy := HP.out.2 y hly
              obtain rfl : n = nx := by have := r1.len; rw [hpx.len] at this; exact this.symm
              obtain rfl : n = ny := by have := r2.len; rw [hpy.len] at this; exact this.symm
              obtain ⟨u, hu, hun⟩ := hpx.at hly
              obtain ⟨v, hv, hvn⟩ := hpy.at hlt
              obtain ⟨pz, hpz, hpzn⟩ := hpx.at hlz
              obtain ⟨qz, hqz, hqzn⟩ := hpy.at hlz
              obtain ⟨b4, o4, au, nu, cu, e4, g40, ru, lu⟩ := h.at u hun
              cases e4
              obtain ⟨b5, o5, av, nv, cv, e5, g50, rv, lv⟩ := h.at v hvn
              cases e5
              obtain rfl : n = nu := by have := ru.len; rw [(HP.out.2 u hun).len] at this; exact this.symm
              obtain rfl : n = nv := by have := rv.len; rw [(HP.out.2 v hvn).len] at this; exact this.symm
              have HQ := Lib.hid hq
              have g1 := (hq.cell (p := ⟨b, off + x, none⟩) (World.block_lt_of_cell? w _ g10)).trans g10
              have g2 := (hq.cell (p := ⟨b, off + y, none⟩) (World.block_lt_of_cell? w _ g20)).trans g20
              have g4 := (hq.cell (p := ⟨b, off + u, none⟩) (World.block_lt_of_cell? w _ g40)).trans g40
              have g5 := (hq.cell (p := ⟨b, off + v, none⟩) (World.block_lt_of_cell? w _ g50)).trans g50
              obtain ⟨bx, ox, rfl, gu⟩ := (r1.below hq).at y hly
              obtain ⟨by_, oy, rfl, gv⟩ := (r2.below hq).at x hlt
              obtain ⟨bx', ox', e6, gp⟩ := (r1.below hq).at z hlz
              cases e6
              obtain ⟨by', oy', e7, gq⟩ := (r2.below hq).at z hlz
              cases e7
              obtain ⟨bu, ou, rfl, gup⟩ := (ru.below hq).at pz hpzn
              obtain ⟨bv, ov, rfl, gvq⟩ := (rv.below hq).at qz hqzn
              rw [hu] at gu
              rw [hv] at gv
              rw [hpz] at gp
              rw [hqz] at gq
              obtain ⟨A, HA⟩ : ∃ A, Hid ((t.getD u []).getD pz 0 = A) := ⟨_, rfl⟩
              obtain ⟨B, HBB⟩ : ∃ B, Hid ((t.getD v []).getD qz 0 = B) := ⟨_, rfl⟩
              rw [HA.out] at gup
              rw [HBB.out] at gvq
              have k1 : (0 : Int) ≤ (x : Int) := by omega
              have k2 : (x : Int) < (n : Int) := by omega
              have k3 : (0 : Int) ≤ (y : Int) := by omega
              have k4 : (y : Int) < (n : Int) := by omega
              have k5 : (0 : Int) ≤ (z : Int) := by omega
              have k6 : (z : Int) < (n : Int) := by omega
              have m1 : (0 : Int) ≤ (u : Int) := by omega
              have m2 : (u : Int) < (n : Int) := by omega
              have m3 : (0 : Int) ≤ (v : Int) := by omega
              have m4 : (v : Int) < (n : Int) := by omega
              have m5 : (0 : Int) ≤ (pz : Int) := by omega
              have m6 : (pz : Int) < (n : Int) := by omega
              have m7 : (0 : Int) ≤ (qz : Int) := by omega
              have m8 : (qz : Int) < (n : Int) := by omega
              have HZE : Hid (cyfP t x y z = decide (A = B)) := Lib.hid (by
                unfold cyfP
                rw [show cyV t x y = (u : Int) from hu, show cyV t y x = (v : Int) from hv, show cyV t x z = (pz : Int) from hpz, show cyV t y z = (qz : Int) from hqz, Int.toNat_natCast, Int.toNat_natCast, Int.toNat_natCast, Int.toNat_natCast]
                rw [show cyV t u pz = A from HA.out, show cyV t v qz = B from HBB.out])
              clear hu hv hpz hqz hpx hpy hq
              by_cases hAB : A = B
              · subst hAB
                have t1 : (A != A) = false := by simp
                go_wp2
                go_quiet (fail)
                go_wp2
                go_roundw
                case rel => exact ⟨z + 1, by omega, by go_num, below_drewN HQ.out _, Lib.hid (step_lt HZ.out (by rw [HZE.out]; simp))⟩
                case measure => simp [intOf]; omega
              · have t1 : (A != B) = true := by simp [hAB]
                have HC : Hid (cyfOk n t = false) := Lib.hid (by
                  refine rng_no (y := x) hlt ?_
                  refine rng_no (y := y) hly ?_
                  exact rng_no (y := z) hlz (by rw [HZE.out]; simp [hAB]))
                go_wp2
                go_quiet (fail)
                go_wp2
                go_ret
                exact ⟨_, 3, _, rfl, by rw [HC.out]; rfl, below_al (below_drewN HQ.out _) _⟩
            · obtain rfl : n = z := by omega
              have HC1 : Hid (cyfY n t x y = true) := Lib.hid (rng_of fun z hz => HZ.out z hz)
              go_wp2
              go_roundw
              case rel => exact ⟨y + 1, by omega, by go_num, hq, Lib.hid (step_lt HY.out HC1.out)⟩
              case measure => simp [intOf]; omega
        · obtain rfl : n = y := by omega
          have HC1 : Hid (cyfX n t x = true) := Lib.hid (rng_of fun z hz => HY.out z hz)
          go_wp2
          go_roundw
          case rel => exact ⟨x + 1, by omega, by go_num, hq, Lib.hid (step_lt HX.out HC1.out)⟩
          case measure => simp [intOf]; omega
    · obtain rfl : n = x := by omega
      have HC : Hid (cyfOk n t = true) := Lib.hid (rng_of fun x hx => HX.out x hx)
      go_wp2
      go_ret
      exact ⟨_, 0, _, rfl, by rw [HC.out]; rfl, below_al hq _⟩

set_option maxHeartbeats 4000000 in
theorem l05IsP_any (n : Nat) (a : Option Addr) (c : Nat) (t : List (List Int)) (w : World) (h : Tbl w a n t) (hn0 : 1 ≤ n) (hn : n ≤ 12) (hp : RwsP n t) :
    Calls Try.prog 191 #[rAgg a n c] w fun e w' => e = .returned (.bool (isCyc n t)) ∧ Below w.heap.size w w' := by
  have hT : isTab t = true := sq_isTab hp.sq hn0 hn
  have HT := Lib.hid hT; have HP := Lib.hid hp
  have hr12 : rngB 1 12 (n : Int) = true := by unfold rngB; simp; omega
  have HR := Lib.hid hr12
  clear hT hp hr12
  have hA := Loc.new w rfl #[.slice a n c] 117
  have lA := hA.one
  have hB := below_al (Below.refl w.heap.size w) (.cells #[.slice a n c] 117)
  have t0 := h.alloc (.cells #[.slice a n c] 117)
  go_enter Try.func191, Try.ntmps191
  go_wp2_with fail
  refine (l01Table_any _ _ _ _ _ t0 (by omega)).mono ?_
  rintro e w1 ⟨rfl, rfl⟩
  rw [HT.out]
  go_wp2_with fail
  refine (l01RowsP_any _ _ _ _ _ t0 hn0 hn HP.out).mono ?_
  rintro e w1 ⟨rfl, rfl⟩
  go_wp2_with fail
  refine (l05Squares_any _ _ _ _ _ t0 hn HP.out).mono ?_
  rintro e w2 ⟨a2, c2, rfl, ho2, hb2⟩
  have lA2 := (hA.below hb2 hA.lt).one
  have hB2 := below_th hB hb2
  cases hpo : permOk (sqrL n t) with
  | false =>
    have HC : Hid (isCyc n t = false) := Lib.hid (by unfold isCyc; rw [hpo]; rfl)
    have HPO := Lib.hid hpo
    clear hpo
    go_wp2_with fail
    refine (l01Perm_any _ _ _ _ _ ho2.row (by omega)).mono ?_
    rintro e w3 ⟨rfl, rfl⟩
    rw [HR.out, HPO.out]
    go_wp2
    go_ret
    exact ⟨ret_bool HC.out.symm, hB2⟩
  | true =>
    have HC : Hid (isCyc n t = cyfOk n t) := Lib.hid (by unfold isCyc; rw [hpo]; rfl)
    have HPO := Lib.hid hpo
    clear hpo
    go_wp2_with fail
    refine (l01Perm_any _ _ _ _ _ ho2.row (by omega)).mono ?_
    rintro e w3 ⟨rfl, rfl⟩
    rw [HR.out, HPO.out]
    go_wp2_with fail
    refine (l05Fault_any _ _ _ _ _ (t0.below hb2) hn HP.out).mono ?_
    rintro e w4 ⟨a4, m4, c4, rfl, hm4, hb4⟩
    have HM4 := Lib.hid hm4
    clear hm4
    have hB4 := below_th hB2 hb4
    rcases Nat.eq_zero_or_pos m4 with rfl | hpos
    · have t0' : ((0 : Int) == 0) = true := rfl
      go_wp2
      go_ret
      exact ⟨ret_bool (by rw [HC.out, ← HM4.out]; rfl), hB4⟩
    · have t0' : ((m4 : Int) == 0) = false := by simp; omega
      go_wp2
      go_ret
      exact ⟨ret_bool (by rw [HC.out, ← HM4.out]; simp; omega), hB4⟩
end Go.Proofs.Ytehomfbehhlhmaa
