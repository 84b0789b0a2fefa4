/-
  Walks and plain laws of this seat, some texts in one.
  No condition but bounds on lengths.
-/
import Derived.Test.YtiliimkfobfbnaaGreatPt1
import Derived.Test.YtiliimkfobfbnaaGreatPt10
import Derived.Test.YtiliimkfobfbnaaGreatPt6
import Derived.Test.YtiliimkfobfbnaaGreatPt5
import Derived.Laws.BitsLemmas
namespace Go.Proofs.YtiliimkfobfbnaaGreat
set_option maxRecDepth 100000
set_option linter.unusedVariables false
set_option linter.unusedSimpArgs false
def grU (t : List (List Int)) (x : Nat) : Bool := decide (tv t 0 x = x) && decide (tv t x 0 = x)
def grA (t : List (List Int)) (x y z : Nat) : Bool := decide (tv t (tv t x y) z = tv t x (tv t y z))
def isGrp (t : List (List Int)) : Bool := isTab t && (t.all permOk && allN t.length fun x => grU t x && allN t.length fun y => allN t.length fun z => grA t x y z)
def ivN (t : List (List Int)) (x : Nat) : Nat := bkN t x 0
theorem isGrp_tab {t : List (List Int)} (h : isGrp t = true) : isTab t = true := by unfold isGrp at h; rw [Bool.and_eq_true] at h; exact h.1
theorem isGrp_sq {t : List (List Int)} (h : isGrp t = true) : 1 ≤ t.length ∧ t.length ≤ 12 ∧ Sq t.length t := isTab_sq (isGrp_tab h)
theorem isGrp_row {t : List (List Int)} (h : isGrp t = true) {x : Nat} (hx : x < t.length) : IsP t.length (t.getD x []) := by
  obtain ⟨_, _, hs⟩ := isGrp_sq h
  unfold isGrp at h
  rw [Bool.and_eq_true, Bool.and_eq_true] at h
  refine permOk_isP (hs.row hx) (List.all_eq_true.1 h.2.1 _ ?_)
  rw [List.getD_eq_getElem?_getD, List.getElem?_eq_getElem hx]
  exact List.getElem_mem hx
theorem bkN_row {n : Nat} {t : List (List Int)} {x y : Nat} (h : IsP n (t.getD x [])) (hy : y < n) : bkN t x y < n ∧ tv t x (bkN t x y) = y := by
  obtain ⟨q, e1, hq, e2⟩ := backF_at h y hy
  unfold bkN tv
  rw [e1, Int.toNat_natCast, e2, Int.toNat_natCast]
  exact ⟨hq, rfl⟩
theorem grp_of {t : List (List Int)} (h : isGrp t = true) : Grp t.length (tv t) (ivN t) := by
  obtain ⟨h1, _, hs⟩ := isGrp_sq h
  have hr := fun x (hx : x < t.length) => isGrp_row h hx
  unfold isGrp at h
  rw [Bool.and_eq_true, Bool.and_eq_true] at h
  have hA := h.2.2
  have hu : ∀ x, x < t.length → tv t 0 x = x ∧ tv t x 0 = x := fun x hx => by
    have := allN_get hA hx
    unfold grU at this
    simp only [Bool.and_eq_true, decide_eq_true_eq] at this
    exact this.1
  refine ⟨fun x y hx hy => hs.lt hx hy, fun x hx => (bkN_row (hr x hx) (by omega)).1, fun x hx => (hu x hx).1, fun x hx => (hu x hx).2, fun x y z hx hy hz => ?_, fun x hx => (bkN_row (hr x hx) (by omega)).2⟩
  have := allN_get hA hx
  rw [Bool.and_eq_true] at this
  have := allN_get (allN_get this.2 hy) hz
  unfold grA at this
  exact of_decide_eq_true this
theorem isGrp_of {n : Nat} {t : List (List Int)} {i : Nat → Nat} (h1 : 1 ≤ n) (h12 : n ≤ 12) (hs : Sq n t) (h : Grp n (tv t) i) : isGrp t = true := by
  have hl := hs.len
  subst hl
  unfold isGrp
  rw [isTab_of h1 h12 hs, Bool.true_and, Bool.and_eq_true]
  constructor
  · rw [List.all_eq_true]
    intro r hr
    obtain ⟨x, hx, rfl⟩ := List.getElem_of_mem hr
    have e : t.getD x [] = t[x] := by simp [List.getD_eq_getElem?_getD, List.getElem?_eq_getElem hx]
    rw [← e]
    exact permOk_of (F := fun y => tv t x y) (hs.row hx) (fun y hy => hs.val hx hy) ⟨fun y hy => hs.lt hx hy, fun y z hy hz e2 => h.cancel_l hx hy hz e2⟩
  · unfold allN
    simp only [List.all_eq_true, List.mem_range, Bool.and_eq_true]
    intro x hx
    refine ⟨?_, fun y hy z hz => ?_⟩
    · unfold grU; simp only [Bool.and_eq_true, decide_eq_true_eq]; exact ⟨h.one_l x hx, h.one_r x hx⟩
    · unfold grA; exact decide_eq_true (h.assoc x y z hx hy hz)
theorem isGrp_spec {t : List (List Int)} (h : isTab t = true) : (allN t.length fun x => (grU t x && permOk (t.getD x [])) && allN t.length fun y => allN t.length fun z => grA t x y z) = isGrp t := by
  unfold isGrp
  rw [h, Bool.true_and, Bool.eq_iff_iff]
  unfold allN
  simp only [List.all_eq_true, List.mem_range, Bool.and_eq_true]
  constructor
  · intro H
    refine ⟨fun r hr => ?_, fun x hx => ⟨(H x hx).1.1, (H x hx).2⟩⟩
    obtain ⟨x, hx, rfl⟩ := List.getElem_of_mem hr
    have := (H x hx).1.2
    rwa [List.getD_eq_getElem?_getD, List.getElem?_eq_getElem hx] at this
  · rintro ⟨H1, H2⟩ x hx
    refine ⟨⟨(H2 x hx).1, H1 _ ?_⟩, (H2 x hx).2⟩
    rw [List.getD_eq_getElem?_getD, List.getElem?_eq_getElem hx]
    exact List.getElem_mem hx
def brAt (a c : List (List Int)) (x y z : Nat) : Bool := decide (tv c x (tv a y z) = tv a (tv a (tv c x y) (ivN a x)) (tv c x z))
def brOk (n : Nat) (a c : List (List Int)) : Bool := allN n fun x => allN n fun y => allN n fun z => brAt a c x y z
def isBrc (a c : List (List Int)) : Bool := isGrp a && (isGrp c && (decide (a.length = c.length) && brOk a.length a c))
theorem isBrc_grp {a c : List (List Int)} (h : isBrc a c = true) : isGrp a = true ∧ isGrp c = true ∧ a.length = c.length := by
  unfold isBrc at h
  simp only [Bool.and_eq_true, decide_eq_true_eq] at h
  exact ⟨h.1, h.2.1, h.2.2.1⟩
theorem isBrc_sq {a c : List (List Int)} (h : isBrc a c = true) : 1 ≤ a.length ∧ a.length ≤ 12 ∧ Sq a.length a ∧ Sq a.length c := by
  obtain ⟨h1, h2, h3⟩ := isBrc_grp h
  obtain ⟨p, q, r⟩ := isGrp_sq h1
  exact ⟨p, q, r, by rw [h3]; exact (isGrp_sq h2).2.2⟩
theorem brc_of {a c : List (List Int)} (h : isBrc a c = true) : Brc a.length (tv a) (tv c) (ivN a) (ivN c) := by
  obtain ⟨h1, h2, h3⟩ := isBrc_grp h
  refine ⟨grp_of h1, by rw [h3]; exact grp_of h2, fun x y z hx hy hz => ?_⟩
  unfold isBrc at h
  simp only [Bool.and_eq_true, decide_eq_true_eq] at h
  have := allN_get (allN_get (allN_get h.2.2.2 hx) hy) hz
  unfold brAt at this
  exact of_decide_eq_true this
theorem ivN_eq {n : Nat} {t : List (List Int)} {i : Nat → Nat} (h : Grp n (tv t) i) (hr : ∀ x, x < n → IsP n (t.getD x [])) {x : Nat} (hx : x < n) : ivN t x = i x := by
  obtain ⟨h1, h2⟩ := bkN_row (hr x hx) (show 0 < n by omega)
  exact h.inv_uniq hx h1 h2
theorem isBrc_of {n : Nat} {a c : List (List Int)} {i j : Nat → Nat} (h1 : 1 ≤ n) (h12 : n ≤ 12) (hs : Sq n a) (hs' : Sq n c) (h : Brc n (tv a) (tv c) i j) : isBrc a c = true := by
  have hg := isGrp_of h1 h12 hs h.a
  have hl := hs.len
  unfold isBrc
  rw [hg, isGrp_of h1 h12 hs' h.c, hs.len, hs'.len]
  simp only [Bool.true_and, decide_true]
  unfold brOk allN
  simp only [List.all_eq_true, List.mem_range]
  intro x hx y hy z hz
  unfold brAt
  rw [ivN_eq h.a (fun x hx => by have := isGrp_row hg (x := x) (by omega); rwa [hl] at this) hx]
  exact decide_eq_true (h.br x y z hx hy hz)
def lamN (a c : List (List Int)) (x y : Nat) : Nat := lamB (tv a) (tv c) (ivN a) x y
def rhoN (a c : List (List Int)) (x y : Nat) : Nat := rhoB (tv a) (tv c) (ivN a) (ivN c) x y
def lamT (a c : List (List Int)) : List (List Int) := tabF a.length fun x y => ((lamN a c x y : Nat) : Int)
def rhoT (a c : List (List Int)) : List (List Int) := tabF a.length fun x y => ((rhoN a c x y : Nat) : Int)
theorem lamT_tv {a c : List (List Int)} {x y : Nat} (hx : x < a.length) (hy : y < a.length) : tv (lamT a c) x y = lamN a c x y := tv_tab hx hy
theorem rhoT_tv {a c : List (List Int)} {x y : Nat} (hx : x < a.length) (hy : y < a.length) : tv (rhoT a c) x y = rhoN a c x y := tv_tab hx hy
section
variable {n : Nat} {a c : List (List Int)}
theorem brc_sqF (h : Brc a.length (tv a) (tv c) (ivN a) (ivN c)) : Sq a.length (lamT a c) := Sq.tab fun x y hx hy => h.lam_lt hx hy
theorem brc_sqG (h : Brc a.length (tv a) (tv c) (ivN a) (ivN c)) : Sq a.length (rhoT a c) := Sq.tab fun x y hx hy => h.rho_lt hx hy
theorem brc_inj (h : Brc a.length (tv a) (tv c) (ivN a) (ivN c)) : InjP a.length (lamT a c) (rhoT a c) := by
  intro x y x' y' hx hy hx' hy' h1 h2
  rw [lamT_tv hx hy, lamT_tv hx' hy'] at h1
  rw [rhoT_tv hx hy, rhoT_tv hx' hy'] at h2
  have p : tv c x y = tv c x' y' := by
    rw [← h.prod hx hy, ← h.prod hx' hy']
    show tv c (lamN a c x y) (rhoN a c x y) = tv c (lamN a c x' y') (rhoN a c x' y')
    rw [h1, h2]
  have e : ivN a x = ivN a x' := by
    have e1 : tv a (ivN a x) (tv c x y) = tv a (ivN a x') (tv c x' y') := h1
    rw [← p] at e1
    exact h.a.cancel_r (h.c.lt x y hx hy) (h.a.il x hx) (h.a.il x' hx') e1
  have ex : x = x' := by rw [← h.a.inv_inv hx, e, h.a.inv_inv hx']
  subst ex
  exact ⟨rfl, h.c.cancel_l hx hy hy' p⟩
theorem brc_sol (hb : isBrc a c = true) : isSol (lamT a c) (rhoT a c) = true ∧ ndF (lamT a c) (rhoT a c) = true := by
  obtain ⟨h1, h12, _, _⟩ := isBrc_sq hb
  have h := brc_of hb
  have sF := brc_sqF h
  have sG := brc_sqG h
  refine ⟨isSol_of h1 h12 sF sG (coll_of h1 (brc_inj h)) (eqOk_of fun x y z hx hy hz => ?_), ?_⟩
  · have hl := h.lam_lt hx hy
    have hr := h.rho_lt hx hy
    have hyz := h.lam_lt hy hz
    have hryz := h.rho_lt hy hz
    have hvz := h.lam_lt hr hz
    have hxw := h.rho_lt hx hyz
    have e1 := lamT_tv (a := a) (c := c) hx hy
    have e2 := rhoT_tv (a := a) (c := c) hx hy
    have e3 := lamT_tv (a := a) (c := c) hy hz
    have e4 := rhoT_tv (a := a) (c := c) hy hz
    rw [e1, e2, e3, e4]
    have f1 := lamT_tv (a := a) (c := c) (x := rhoN a c x y) hr hz
    have f2 := rhoT_tv (a := a) (c := c) (x := rhoN a c x y) hr hz
    have f3 := lamT_tv (a := a) (c := c) (y := lamN a c y z) hx hyz
    have f4 := rhoT_tv (a := a) (c := c) (y := lamN a c y z) hx hyz
    rw [f1, f2, f3, f4]
    have g1 := lamT_tv (a := a) (c := c) (x := lamN a c x y) (y := lamN a c (rhoN a c x y) z) hl hvz
    have g2 := rhoT_tv (a := a) (c := c) (x := lamN a c x y) (y := lamN a c (rhoN a c x y) z) hl hvz
    have g3 := lamT_tv (a := a) (c := c) (x := rhoN a c x (lamN a c y z)) (y := rhoN a c y z) hxw hryz
    have g4 := rhoT_tv (a := a) (c := c) (x := rhoN a c x (lamN a c y z)) (y := rhoN a c y z) hxw hryz
    rw [g1, g2, g3, g4]
    exact ⟨h.ybe1 hx hy hz, h.ybe2 hx hy hz, (h.ybe3 hx hy hz).symm⟩
  · unfold ndF
    rw [Bool.and_eq_true, sF.len]
    constructor
    · rw [List.all_eq_true]
      intro r hr
      obtain ⟨x, hx, rfl⟩ := List.getElem_of_mem hr
      have hxn : x < a.length := by rw [sF.len] at hx; exact hx
      have e : (lamT a c).getD x [] = (lamT a c)[x] := by simp [List.getD_eq_getElem?_getD, List.getElem?_eq_getElem hx]
      rw [← e]
      exact permOk_of (F := fun y => tv (lamT a c) x y) (sF.row hxn) (fun y hy => sF.val hxn hy) ⟨fun y hy => sF.lt hxn hy, fun y z hy hz e2 => by
        rw [lamT_tv hxn hy, lamT_tv hxn hz] at e2
        exact h.lam_inj hxn hy hz e2⟩
    · rw [List.all_eq_true]
      intro r hr
      have sT : Sq a.length (trnL a.length (rhoT a c)) := Sq.tab fun x y hx hy => sG.lt hy hx
      obtain ⟨x, hx, rfl⟩ := List.getElem_of_mem hr
      have hxn : x < a.length := by rw [sT.len] at hx; exact hx
      have e : (trnL a.length (rhoT a c)).getD x [] = (trnL a.length (rhoT a c))[x] := by simp [List.getD_eq_getElem?_getD, List.getElem?_eq_getElem hx]
      rw [← e]
      exact permOk_of (F := fun y => tv (trnL a.length (rhoT a c)) x y) (sT.row hxn) (fun y hy => sT.val hxn hy) ⟨fun y hy => sT.lt hxn hy, fun y z hy hz e2 => by
        rw [trnL_tv hxn hy, trnL_tv hxn hz, rhoT_tv hy hxn, rhoT_tv hz hxn] at e2
        exact h.rho_inj hy hz hxn e2⟩
theorem brc_der (hb : isBrc a c = true) {x y : Nat} (hx : x < a.length) (hy : y < a.length) : drN (lamT a c) (rhoT a c) x y = tv a (tv a (ivN a x) y) x := by
  have h := brc_of hb
  obtain ⟨hs, hd⟩ := brc_sol hb
  have hY : Ybe a.length (lamT a c) (rhoT a c) := by
    have := ybe_of hs (by unfold ndF at hd; rw [Bool.and_eq_true] at hd; exact hd.1)
    rwa [(brc_sqF h).len] at this
  obtain ⟨k1, k2⟩ := hY.bk hy hx
  unfold drN
  rw [lamT_tv hy k1] at k2
  rw [rhoT_tv hy k1, lamT_tv (y := rhoN a c y (bkN (lamT a c) y x)) hx (h.rho_lt hy k1)]
  exact h.derived hx hy k1 k2
end
end Go.Proofs.YtiliimkfobfbnaaGreat
namespace Go.Proofs.YtiliimkfobfbnaaGreat
set_option maxRecDepth 100000
set_option linter.unusedVariables false
set_option linter.unusedSimpArgs false
open Go.RowKit
set_option maxHeartbeats 1000000 in
theorem indexN_any (a : Option Addr) (n c q : Nat) (xs : List Int) (y : Int) (w : World) (h1 : Row w a n xs) (hm : n ≤ 1000000000000) (hq : q < n) (he : xs.getD q 0 = y) (hno : ∀ i, i < q → xs.getD i 0 ≠ y) :
    Calls Tryz.prog 104 #[.slice a n c, .int .i64 y] w fun e w' => e = .returned (.int .i64 q) ∧ w = w' := by
  have HNO := Lib.hid hno; clear hno
  have HE := Lib.hid he; clear he
  go_enter Tryz.func104, Tryz.ntmps104
  go_wp2
  go_loop [8] (fun i => ∃ k : Nat, k ≤ q ∧ i = .int .i64 k) (fun i => q + 1 - (intOf i).toNat)
  case atStart => exact ⟨0, Nat.zero_le _, rfl⟩
  case round =>
    obtain ⟨k, hk, rfl⟩ := hrel
    have hlt : k < n := by omega
    obtain ⟨b, off, rfl, g1⟩ := h1.at k hlt
    have i1 : (0 : Int) ≤ (k : Int) := by omega
    have i2 : (k : Int) < (n : Int) := by omega
    obtain ⟨X, HX⟩ : ∃ X, Hid (xs.getD k 0 = X) := ⟨_, rfl⟩
    rw [HX.out] at g1
    by_cases e : k = q
    · subst e
      have e2 : y = X := by rw [← HE.out, HX.out]
      subst e2
      go_wp2
      go_ret
      exact ⟨rfl, rfl⟩
    · have hne : (y == X) = false := by
        have := HNO.out k (by omega)
        rw [HX.out] at this
        simpa using fun h => this h.symm
      go_wp2
      go_round
      case rel => exact ⟨k + 1, by omega, by go_num⟩
      case measure => simp [intOf]; omega
set_option maxHeartbeats 1000000 in
theorem indexIn_any (a : Option Addr) (n c q : Nat) (xs : List Int) (y : Int) (w : World) (h1 : Row w a n xs) (hm : n ≤ 1000000000000) (hq : q < n) (he : xs.getD q 0 = y) (hno : ∀ i, i < q → xs.getD i 0 ≠ y) :
    Calls Tryz.prog 72 #[.slice a n c, .int .i64 y] w fun e w' => e = .returned (.int .i64 q) ∧ w = w' := by
  go_enter Tryz.func72, Tryz.ntmps72
  go_wp2_with fail
  refine (indexN_any a n c q xs y _ h1 hm hq he hno).mono ?_
  rintro e w1 ⟨rfl, rfl⟩
  go_wp2
  go_ret
  exact ⟨rfl, rfl⟩
theorem isGrp_no {t : List (List Int)} (h : isTab t = false) : isGrp t = false := by unfold isGrp; rw [h]; rfl
def grpLk (k n : Nat) (t : List (List Int)) : Bool := allN k fun x => grU t x && allN n fun y => allN n fun z => grA t x y z
abbrev grpL (n : Nat) (t : List (List Int)) : Bool := grpLk n n t
set_option maxHeartbeats 8000000 in
theorem isGroupTable_any (a : Option Addr) (n c : Nat) (t : List (List Int)) (w : World) (h1 : Tbl w a n t) (hm : n ≤ 9223372036854775807) :
    Calls Tryz.prog 73 #[.slice a n c] w fun e w' => e = .returned (.bool (isGrp t)) ∧ Below w.heap.size w w' := by
  cases hf : isTab t with
  | false =>
    have HQ : Hid (isGrp t = false) := Lib.hid (isGrp_no hf)
    have HF := Lib.hid hf; clear hf
    go_enter Tryz.func73, Tryz.ntmps73
    go_wp2_with fail
    refine (isTable_any _ _ _ _ _ h1 hm).mono ?_
    rintro e w1 ⟨rfl, hb1⟩
    rw [HF.out]
    go_wp2
    go_ret
    exact ⟨ret_bool HQ.out.symm, hb1⟩
  | true =>
    obtain ⟨hn1, hn12, sf⟩ := isTab_sq hf
    have hl := h1.len
    rw [← hl] at hn1 hn12 sf
    have hrow : ∀ x ∈ t, x.length ≤ 1000000 := by
      intro x hx
      obtain ⟨i, hi, e⟩ := List.getElem_of_mem hx
      have := sf.row (x := i) (by omega)
      rw [Tbl.getD hi, e] at this
      omega
    have HR := Lib.hid hrow
    have HQ : Hid (isGrp t = (t.all permOk && grpL n t)) := Lib.hid (by unfold isGrp grpL grpLk; rw [hf, ← hl]; rfl)
    have HF := Lib.hid hf; have HSF := Lib.hid sf
    clear hf sf hl hrow
    cases hp : t.all permOk with
    | false =>
      have HP := Lib.hid hp; clear hp
      go_enter Tryz.func73, Tryz.ntmps73
      go_wp2_with fail
      refine (isTable_any _ _ _ _ _ h1 hm).mono ?_
      rintro e w1 ⟨rfl, hb1⟩
      rw [HF.out]
      go_wp2_with fail
      refine (permutationRows_any _ _ _ t _ (h1.below hb1) hm HR.out).mono ?_
      rintro e w2 ⟨rfl, hb2⟩
      rw [HP.out]
      go_wp2
      go_ret
      exact ⟨ret_bool (by rw [HQ.out, HP.out]; rfl), below_th hb1 hb2⟩
    | true =>
      have HP := Lib.hid hp; clear hp
      have HQ2 : Hid (isGrp t = grpL n t) := Lib.hid (by rw [HQ.out, HP.out, Bool.true_and])
      go_enter Tryz.func73, Tryz.ntmps73
      go_wp2_with fail
      refine (isTable_any _ _ _ _ _ h1 hm).mono ?_
      rintro e w1 ⟨rfl, hb1⟩
      rw [HF.out]
      go_wp2_with fail
      refine (permutationRows_any _ _ _ t _ (h1.below hb1) hm HR.out).mono ?_
      rintro e w2 ⟨rfl, hb2⟩
      rw [HP.out]
      have t2 := (h1.below hb1).below hb2
      have hB2 := below_th hb1 hb2
      have hf := HSF.out
      clear hb1 hb2 h1 HF HP HQ HR
      obtain ⟨bf, of, A, O, C, rfl, gf⟩ := t2.grid hf hn1
      clear t2
      go_wp2
      go_loopw [16] (fun i wr => ∃ k : Nat, k ≤ n ∧ i = .int .i64 k ∧ Hid (grpLk k n t = true) ∧ ∃ m, wr = w2.drewN m) (fun i _ => n - (intOf i).toNat)
      case atStart => exact ⟨0, Nat.zero_le _, rfl, Lib.hid rfl, 0, rfl⟩
      case round =>
        obtain ⟨x, hx, rfl, hx1, m1, rfl⟩ := hrel
        by_cases hlt : x < n
        · have h0 : 0 < n := by omega
          obtain ⟨q1, r1⟩ := gf.look h0 hlt
          obtain ⟨q2, r2⟩ := gf.look hlt h0
          rw [Nat.add_zero] at q1 r2
          by_cases p1 : tv t 0 x = x
          · by_cases p2 : tv t x 0 = x
            · have HU : Hid (grU t x = true) := Lib.hid (by unfold grU; rw [p1, p2]; simp)
              rw [p1] at r1
              rw [p2] at r2
              have u1 : ((x : Int) != (x : Int)) = false := by simp
              clear p1 p2
              go_wp2
              go_loopw [39] (fun i wr => ∃ k : Nat, k ≤ n ∧ i = .int .i64 k ∧ Hid (allN k (fun y => allN n fun z => grA t x y z) = true) ∧ ∃ m, wr = w2.drewN m) (fun i _ => n - (intOf i).toNat)
              case atStart => exact ⟨0, Nat.zero_le _, rfl, Lib.hid rfl, m1, rfl⟩
              case round =>
                obtain ⟨y, hy, rfl, hy1, m2, rfl⟩ := hrel
                by_cases hlty : y < n
                · go_wp2
                  go_loopw [44] (fun i wr => ∃ k : Nat, k ≤ n ∧ i = .int .i64 k ∧ Hid (allN k (fun z => grA t x y z) = true) ∧ ∃ m, wr = w2.drewN m) (fun i _ => n - (intOf i).toNat)
                  case atStart => exact ⟨0, Nat.zero_le _, rfl, Lib.hid rfl, m2, rfl⟩
                  case round =>
                    obtain ⟨z, hz, rfl, hz1, m3, rfl⟩ := hrel
                    by_cases hltz : z < n
                    · have l1 := hf.lt hlt hlty
                      have l2 := hf.lt hlty hltz
                      obtain ⟨r1, k1⟩ := gf.look hlt hlty
                      obtain ⟨r2, k2⟩ := gf.look l1 hltz
                      obtain ⟨r3, k3⟩ := gf.look hlty hltz
                      have k4 := gf.cell _ _ hlt l2
                      have hE : grA t x y z = decide (tv t (tv t x y) z = tv t x (tv t y z)) := rfl
                      generalize tv t x y = q1 at *
                      generalize tv t y z = q2 at *
                      generalize tv t q1 z = A1 at *
                      generalize tv t x q2 = A2 at *
                      have HE := Lib.hid hE
                      clear hE gf hf
                      by_cases p1 : A1 = A2
                      · have u2 : ((A1 : Int) != (A2 : Int)) = false := by simp [p1]
                        have HE2 : Hid (grA t x y z = true) := Lib.hid (by rw [HE.out]; simp [p1])
                        clear p1
                        go_wp2
                        go_quiet (fail)
                        go_wp2
                        go_roundw
                        case rel => exact ⟨z + 1, by omega, by go_num, Lib.hid (allN_succ hz1.out HE2.out), _, rfl⟩
                        case measure => simp [intOf]; omega
                      · have u2 : ((A1 : Int) != (A2 : Int)) = true := by simp; omega
                        have HE2 : Hid (grA t x y z = false) := Lib.hid (by rw [HE.out]; simp [p1])
                        clear p1
                        go_wp2
                        go_quiet (fail)
                        go_wp2
                        go_ret
                        exact ⟨ret_bool (by rw [HQ2.out]; exact (allN_no hlt (by rw [allN_no hlty (allN_no hltz HE2.out), Bool.and_false])).symm), below_drewN (below_drewN hB2 _) _⟩
                    · obtain rfl : z = n := by omega
                      go_wp2
                      go_roundw
                      case rel => exact ⟨y + 1, by omega, by go_num, Lib.hid (allN_succ hy1.out hz1.out), _, rfl⟩
                      case measure => simp [intOf]; omega
                · obtain rfl : y = n := by omega
                  go_wp2
                  go_roundw
                  case rel => exact ⟨x + 1, by omega, by go_num, Lib.hid (allN_succ hx1.out (by rw [HU.out, hy1.out]; rfl)), _, rfl⟩
                  case measure => simp [intOf]; omega
            · have HU : Hid (grU t x = false) := Lib.hid (by unfold grU; simp [p2])
              rw [p1] at r1
              have u1 : ((x : Int) != (x : Int)) = false := by simp
              have u2 : ((tv t x 0 : Int) != (x : Int)) = true := by simp; omega
              clear p1 p2
              generalize tv t x 0 = Q at *
              go_wp2
              go_ret
              exact ⟨ret_bool (by rw [HQ2.out]; exact (allN_no hlt (by rw [HU.out, Bool.false_and])).symm), below_drewN hB2 _⟩
          · have HU : Hid (grU t x = false) := Lib.hid (by unfold grU; simp [p1])
            have u1 : ((tv t 0 x : Int) != (x : Int)) = true := by simp; omega
            clear p1
            generalize tv t 0 x = Q at *
            go_wp2
            go_ret
            exact ⟨ret_bool (by rw [HQ2.out]; exact (allN_no hlt (by rw [HU.out, Bool.false_and])).symm), below_drewN hB2 _⟩
        · obtain rfl : x = n := by omega
          go_wp2
          go_ret
          exact ⟨ret_bool (by rw [HQ2.out]; exact hx1.out.symm), below_drewN hB2 _⟩
def ivnL (n : Nat) (t : List (List Int)) : List Int := (List.range n).map fun x => ((ivN t x : Nat) : Int)
theorem ivnL_len (n : Nat) (t : List (List Int)) : (ivnL n t).length = n := by simp [ivnL]
theorem ivnL_succ (n : Nat) (t : List (List Int)) : ivnL (n + 1) t = ivnL n t ++ [((ivN t n : Nat) : Int)] := by simp [ivnL, List.range_succ]
theorem ivnL_get {n x : Nat} (t : List (List Int)) (h : x < n) : (ivnL n t).getD x 0 = ((ivN t x : Nat) : Int) := by
  simp [ivnL, List.getD_eq_getElem?_getD, List.getElem?_map, h]
theorem ivnL_step (n j : Nat) (t : List (List Int)) (h : j < n) : (ivnL j t ++ List.replicate (n - j) 0).set j ((ivN t j : Nat) : Int) = ivnL (j + 1) t ++ List.replicate (n - (j + 1)) 0 := by
  rw [List.set_append_right _ _ (by rw [ivnL_len]; omega), ivnL_len, Nat.sub_self, ivnL_succ, List.append_assoc]
  congr 1
  obtain ⟨m, hm⟩ : ∃ m, n - j = m + 1 := ⟨n - j - 1, by omega⟩
  have hm' : n - (j + 1) = m := by omega
  rw [hm, hm', List.replicate_succ]
  simp
theorem ivN_idx {n : Nat} {t : List (List Int)} (hs : Sq n t) {x : Nat} (hx : x < n) (hr : IsP n (t.getD x [])) : ivN t x < n ∧ (t.getD x []).getD (ivN t x) 0 = ((0 : Nat) : Int) ∧ ∀ i, i < ivN t x → (t.getD x []).getD i 0 ≠ ((0 : Nat) : Int) := by
  obtain ⟨h1, h2⟩ := bkN_row hr (show 0 < n by omega)
  have e : (t.getD x []).getD (ivN t x) 0 = ((0 : Nat) : Int) := by unfold ivN; rw [hs.val hx h1]; exact congrArg _ h2
  refine ⟨h1, e, fun i hi e2 => ?_⟩
  obtain ⟨f, g, hpf⟩ := hr
  have hi2 : i < n := by have : ivN t x < n := h1; omega
  have a1 := hpf.2.1 i hi2
  have a2 := hpf.2.1 (ivN t x) h1
  have b1 := hpf.2.2 i hi2
  have b2 := hpf.2.2 (ivN t x) h1
  rw [e2] at b1
  rw [e] at b2
  have : f i = f (ivN t x) := by omega
  have : i = ivN t x := by rw [← a1.2.2.2, this, a2.2.2.2]
  omega
set_option maxHeartbeats 2000000 in
theorem groupInverses_any (a : Option Addr) (n c : Nat) (t : List (List Int)) (w : World) (h1 : Tbl w a n t) (hn : n ≤ 1000000) (hs : Sq n t) (hr : ∀ x, x < n → IsP n (t.getD x [])) :
    Calls Tryz.prog 36 #[.slice a n c] w fun e w' => ∃ a' c', e = .returned (.slice a' n c') ∧ Own w' w.heap.size a' n c' (ivnL n t) ∧ Below w.heap.size w w' := by
  have HS := Lib.hid hs; have HR := Lib.hid hr
  clear hs hr
  go_enter Tryz.func36, Tryz.ntmps36
  go_wp2_with (at_make; refine make1 rfl rfl rfl rfl (by omega) ?_; intro w1 ho hs hb)
  go_loopw [11] (fun i wr => ∃ (k : Nat), k ≤ n ∧ i = .int .i64 k ∧ Own wr w.heap.size (some ⟨w.heap.size, 0, none⟩) n n (ivnL k t ++ List.replicate (n - k) 0) ∧ Below w.heap.size w wr) (fun i _ => n - (intOf i).toNat)
  case atStart => exact ⟨0, Nat.zero_le _, rfl, by simpa [ivnL] using ho, hb⟩
  case round =>
    clear ho hb
    obtain ⟨k, hk, rfl, ho, hb⟩ := hrel
    by_cases hlt : k < n
    · have hs := ho.set k ((ivN t k : Nat) : Int)
      rw [ivnL_step n k t hlt] at hs
      have hcf := ho.cells.2.2 k
      have hcc := ho.cells.2.1 k hlt
      have HS2 := Lib.hid hs; clear hs
      obtain ⟨i1, i2, i3⟩ := ivN_idx HS.out hlt (HR.out k hlt)
      obtain ⟨X, HX⟩ : ∃ X, Hid (ivN t k = X) := ⟨_, rfl⟩
      rw [HX.out] at i1 i2 i3 HS2
      have H3 := Lib.hid i3; clear i3
      have hT := h1.below hb
      obtain ⟨b1, o1, a1, n1, c1, rfl, g1, r1, l1⟩ := hT.at k hlt
      obtain rfl : n = n1 := by have := r1.len; have := HS.out.row hlt; omega
      go_wp2_with fail
      refine (indexIn_any a1 n c1 X _ 0 _ r1 (by omega) i1 i2 H3.out).mono ?_
      rintro e w2 ⟨rfl, rfl⟩
      go_wp2
      go_roundw
      case rel => exact ⟨k + 1, by omega, by go_num, HS2.out, hb.setCell (by simp) _⟩
      case measure => simp [intOf]; omega
    · obtain rfl : k = n := by omega
      go_wp2
      go_ret
      rw [Nat.sub_self, List.replicate_zero, List.append_nil] at ho
      exact ⟨_, _, rfl, ho, hb⟩
theorem i64_bits (a b : Nat) (ha : a < 4096) (hb : b < 4096) : bits .and .i64 (a : Int) (b : Int) = ((a &&& b : Nat) : Int) ∧ bits .or .i64 (a : Int) (b : Int) = ((a ||| b : Nat) : Int) :=
  bits_nat .i64 12 (by decide) (fun n h0 h1 => IntWalk.i64_in _ (by omega)) a b (by omega) (by omega)
theorem div_pow (s x : Nat) : (s : Int) / 2 ^ x = ((s / 2 ^ x : Nat) : Int) := by
  rw [Int.natCast_ediv, Int.natCast_pow]; rfl
theorem bit_plain {s x : Nat} (hs : s < 4096) : (bits BinOp.and IntKind.i64 ((s : Int) / 2 ^ x) 1 == 1) = s.testBit x := by
  rw [div_pow]
  have hq : s / 2 ^ x < 4096 := Nat.lt_of_le_of_lt (Nat.div_le_self _ _) hs
  have h := (i64_bits (s / 2 ^ x) 1 hq (by omega)).1
  rw [show ((1 : Nat) : Int) = (1 : Int) from rfl] at h
  rw [h, Nat.and_one_is_mod, Nat.testBit_eq_decide_div_mod_eq, Bool.eq_iff_iff, beq_iff_eq, decide_eq_true_eq]
  omega
set_option maxHeartbeats 1000000 in
theorem hasBit_any (s x : Nat) (w : World) (hs : s < 4096) (hx : x < 64) :
    Calls Tryz.prog 109 #[.int .i64 s, .int .i64 x] w fun e w' => e = .returned (.bool (s.testBit x)) ∧ w' = w := by
  go_enter Tryz.func109, Tryz.ntmps109
  go_wp2
  go_ret
  exact ⟨ret_bool (bit_plain hs), rfl⟩
def elL (k s : Nat) : List Int := ((List.range k).filter fun x => s.testBit x).map fun x : Nat => (x : Int)
theorem elL_succ (k s : Nat) : elL (k + 1) s = elL k s ++ if s.testBit k then [(k : Int)] else [] := by
  unfold elL
  rw [List.range_succ, List.filter_append, List.map_append]
  congr 1
  by_cases h : s.testBit k = true
  · simp [h]
  · simp [h]
theorem elL_far {k s : Nat} (h : s < 2 ^ k) : ∀ d, elL (k + d) s = elL k s := by
  intro d
  induction d with
  | zero => rfl
  | succ d ih =>
    have e : s.testBit (k + d) = false := Nat.testBit_lt_two_pow (Nat.lt_of_lt_of_le h (Nat.pow_le_pow_right (by decide) (by omega)))
    rw [show k + (d + 1) = (k + d) + 1 by omega, elL_succ, e, ih]; simp
theorem elL_end {k s : Nat} (hk : k ≤ 12) (h : s < 2 ^ k) : elL k s = elL 12 s := by
  have := elL_far h (12 - k)
  rw [show k + (12 - k) = 12 by omega] at this
  exact this.symm
theorem elL_len_le (k s : Nat) : (elL k s).length ≤ k := by
  unfold elL
  rw [List.length_map]
  exact Nat.le_trans (List.length_filter_le _ _) (by simp)
set_option maxHeartbeats 4000000 in
theorem elementsOf_any (s : Nat) (w : World) (hs : s < 4096) :
    Calls Tryz.prog 108 #[.int .i64 s] w fun e w' => ∃ a m c, e = .returned (.slice a m c) ∧ Own w' w.heap.size a m c (elL 12 s) ∧ Below w.heap.size w w' := by
  go_enter Tryz.func108, Tryz.ntmps108
  go_wp2
  go_loopw [3, 4] (fun z i wr => ∃ (k : Nat) (a : Option Addr) (m c : Nat), k ≤ 12 ∧ z = .slice a m c ∧ i = .int .i64 k ∧ Own wr w.heap.size a m c (elL k s) ∧ Below w.heap.size w wr) (fun _ i _ => 13 - (intOf i).toNat)
  case atStart => exact ⟨0, none, 0, 0, by omega, rfl, rfl, Own.nil _ _, Below.refl _ _⟩
  case round =>
    obtain ⟨k, a, m, c, hk, rfl, rfl, ho, hb⟩ := hrel
    obtain ⟨W, rfl⟩ : ∃ W : World, W = wr := ⟨_, rfl⟩
    by_cases hlt : 2 ^ k ≤ s
    · have hk12 : k < 12 := by
        by_cases e : k = 12
        · subst e; simp at hlt; omega
        · omega
      have hpos : 0 < s / 2 ^ k := Nat.div_pos hlt (Nat.two_pow_pos k)
      have hd := div_pow s k
      obtain ⟨q, HQ⟩ : ∃ q, Hid (s / 2 ^ k = q) := ⟨_, Lib.hid rfl⟩
      rw [HQ.out] at hpos hd
      have hg : decide ((0 : Int) < (q : Int)) = true := by simp; omega
      have HS := Lib.hid (elL_succ k s)
      have hml : m ≤ 12 := by have := ho.len; have := elL_len_le k s; omega
      have hws := hb.size
      have HB := Lib.hid (hasBit_any s k W hs (by omega))
      cases ht : s.testBit k with
      | true =>
        have hs2 := HS.out
        rw [ht, if_pos rfl] at hs2
        have HS2 := Lib.hid hs2
        have HT := Lib.hid ht
        clear hs2 ht HS
        go_wp2_with fail
        refine HB.out.mono ?_
        rintro e w2 ⟨rfl, hw2⟩
        obtain rfl : W = w2 := hw2.symm
        rw [HT.out]
        go_wp2_with (at_builtin; refine app1 rfl rfl ho rfl rfl (by omega) hws ?_; intro g' cc w8 hO8 hg8 hs8 hb8)
        go_roundw
        case rel => exact ⟨k + 1, _, _, _, by omega, rfl, by go_num, by rw [HS2.out]; exact hO8, hb.trans hb8⟩
        case measure => simp [intOf]; omega
      | false =>
        have hs2 := HS.out
        rw [ht, if_neg (by simp), List.append_nil] at hs2
        have HS2 := Lib.hid hs2
        have HT := Lib.hid ht
        clear hs2 ht HS
        go_wp2_with fail
        refine HB.out.mono ?_
        rintro e w2 ⟨rfl, hw2⟩
        obtain rfl : W = w2 := hw2.symm
        rw [HT.out]
        go_wp2
        go_roundw
        case rel => exact ⟨k + 1, _, _, _, by omega, rfl, by go_num, by rw [HS2.out]; exact ho, hb⟩
        case measure => simp [intOf]; omega
    · have hz : s / 2 ^ k = 0 := Nat.div_eq_of_lt (by omega)
      have hd := div_pow s k
      rw [hz] at hd
      have HE := Lib.hid (elL_end hk (show s < 2 ^ k by omega))
      clear hz hlt
      go_wp2
      go_ret
      exact ⟨_, _, _, rfl, by rw [← HE.out]; exact ho, hb⟩
end Go.Proofs.YtiliimkfobfbnaaGreat
