/-
  Walks and plain laws of this seat, some texts in one.
  No condition but bounds on lengths.
-/
import Derived.Test.YtaddclaadbjnlaaGreatPr2
import Derived.Test.YtaddclaadbjnlaaGreatPr4
import Derived.Test.YtaddclaadbjnlaaGreatPr5
import Derived.Test.YtaddclaadbjnlaaGreatPr1
import Derived.IntWalk
import Derived.RegionTactic
namespace Go.Proofs.YtaddclaadbjnlaaGreat
set_option maxRecDepth 100000
set_option linter.unusedVariables false
set_option linter.unusedSimpArgs false
open Go.RowKit
def chkP (rows : List (List Int)) (x y : Nat) : Bool :=
  (fun z : Nat => decide (rows.length ≤ z) || decide (thL (rows.getD x []) (rows.getD z []) = thL (rows.getD y []) (rows.getD x []))) ((rows.getD x []).getD y 0).toNat
def chkX (rows : List (List Int)) (x : Nat) : Bool := (List.range rows.length).all fun y => chkP rows x y
def chkR (rows : List (List Int)) : Bool := (List.range rows.length).all fun x => chkX rows x
theorem chkX_of {rows : List (List Int)} {x : Nat} (h : ∀ y, y < rows.length → chkP rows x y = true) : chkX rows x = true := List.all_eq_true.2 fun y hy => h y (List.mem_range.1 hy)
theorem chkX_no {rows : List (List Int)} {x y : Nat} (hy : y < rows.length) (h : chkP rows x y = false) : chkX rows x = false := by
  cases e : chkX rows x with
  | false => rfl
  | true => have := List.all_eq_true.1 e y (List.mem_range.2 hy); rw [h] at this; cases this
theorem chkR_of {rows : List (List Int)} (h : ∀ x, x < rows.length → chkX rows x = true) : chkR rows = true := List.all_eq_true.2 fun x hx => h x (List.mem_range.1 hx)
theorem chkR_no {rows : List (List Int)} {x : Nat} (hx : x < rows.length) (h : chkX rows x = false) : chkR rows = false := by
  cases e : chkR rows with
  | false => rfl
  | true => have := List.all_eq_true.1 e x (List.mem_range.2 hx); rw [h] at this; cases this
set_option maxHeartbeats 8000000 in
theorem rackRows_any (n N : Nat) (a : Option Addr) (k c : Nat) (rows : List (List Int)) (w : World) (h : Tbl w a k rows) (hk : k ≤ n) (hn : n ≤ 12) (hp : ∀ i, i < k → IsP n (rows.getD i [])) :
    Calls Tryz.prog 46 #[.int .i64 N, .slice a k c] w fun e w' => e = .returned (.bool (chkR rows)) ∧ Below w.heap.size w w' := by
  have HL := Lib.hid h.len; have HP := Lib.hid hp
  clear hp
  go_enter Tryz.func46, Tryz.ntmps46
  go_wp2
  go_loopw [6, 7, 8, 9, 12, 18] (fun _ _ _ _ i _ wr => ∃ x : Nat, x ≤ k ∧ i = .int .i64 x ∧ Below w.heap.size w wr ∧ Hid (∀ x', x' < x → chkX rows x' = true)) (fun _ _ _ _ i _ _ => k - (intOf i).toNat)
  case atStart => exact ⟨0, Nat.zero_le _, rfl, Below.refl _ _, Lib.hid fun x' hx => absurd hx (by omega)⟩
  case round =>
    obtain ⟨x, hx, rfl, hq, HX⟩ := hrel
    by_cases hlt : x < k
    · obtain ⟨b, off, ax, nx, cx, rfl, g0, r1, l1⟩ := h.at x hlt
      have hpx := HP.out x hlt
      obtain rfl : n = nx := by have := r1.len; rw [hpx.len] at this; exact this.symm
      have i1 : (0 : Int) ≤ (x : Int) := by omega
      have i2 : (x : Int) < (k : Int) := by omega
      have HQ0 := Lib.hid hq
      have g1 := (hq.cell (p := ⟨b, off + x, none⟩) (World.block_lt_of_cell? w _ g0)).trans g0
      clear hq
      go_wp2
      go_loopw [7, 8, 9, 18] (fun _ _ _ j wr => ∃ y : Nat, y ≤ k ∧ j = .int .i64 y ∧ Below w.heap.size w wr ∧ Hid (∀ y', y' < y → chkP rows x y' = true)) (fun _ _ _ j _ => k - (intOf j).toNat)
      case atStart => exact ⟨0, Nat.zero_le _, rfl, HQ0.out, Lib.hid fun x' hx => absurd hx (by omega)⟩
      case round =>
        obtain ⟨y, hy, rfl, hq, HY⟩ := hrel
        by_cases hly : y < k
        · obtain ⟨b2, off2, ay, ny, cy, e2, g20, r2, l2⟩ := h.at y hly
          cases e2
          have hpy := HP.out y hly
          obtain rfl : n = ny := by have := r2.len; rw [hpy.len] at this; exact this.symm
          have g2 := (hq.cell (p := ⟨b, off + y, none⟩) (World.block_lt_of_cell? w _ g20)).trans g20
          obtain ⟨z, hz, hzn⟩ := hpx.at (show y < n by omega)
          obtain ⟨bx, ox, rfl, gz⟩ := (r1.below hq).at y (by omega)
          rw [hz] at gz
          have i3 : (0 : Int) ≤ (y : Int) := by omega
          have i4 : (y : Int) < (k : Int) := by omega
          have i5 : (y : Int) < (n : Int) := by omega
          have HCE : Hid (chkP rows x y = (decide (rows.length ≤ z) || decide (thL (rows.getD x []) (rows.getD z []) = thL (rows.getD y []) (rows.getD x [])))) := Lib.hid (by unfold chkP; simp only; rw [hz, Int.toNat_natCast])
          clear hz
          have step : chkP rows x y = true → ∀ y', y' < y + 1 → chkP rows x y' = true := fun h y' hy' => by
            by_cases e : y' = y
            · subst e; exact h
            · exact HY.out y' (by omega)
          have STEP := Lib.hid step
          clear step
          by_cases hzk : z < k
          · obtain ⟨b4, off4, az, nz, cz, e4, g40, r4, l4⟩ := h.at z hzk
            cases e4
            have hpz := HP.out z hzk
            obtain rfl : n = nz := by have := r4.len; rw [hpz.len] at this; exact this.symm
            have g4 := (hq.cell (p := ⟨b, off + z, none⟩) (World.block_lt_of_cell? w _ g40)).trans g40
            have i6 : (0 : Int) ≤ (z : Int) := by omega
            have i7 : (z : Int) < (k : Int) := by omega
            have hmx := hpx.mem; have hmy := hpy.mem
            go_wp2_with fail
            refine (then_any _ _ n n _ _ (rows.getD x []) (rows.getD z []) _ (r1.below hq) (r4.below hq) (by omega) hmx).mono ?_
            rintro e w5 ⟨a5, c5, rfl, ho5, hb5⟩
            have hq5 := below_th hq hb5
            go_wp2_with fail
            refine (then_any _ _ n n _ _ (rows.getD y []) (rows.getD x []) _ (r2.below hq5) (r1.below hq5) (by omega) hmy).mono ?_
            rintro e w6 ⟨a6, c6, rfl, ho6, hb6⟩
            have hq6 := below_th hq5 hb6
            go_wp2_with fail
            refine (sEqual_any _ _ _ _ _ _ _ _ _ (ho5.below hb6).row ho6.row (by omega)).mono ?_
            rintro e w7 ⟨rfl, m7, rfl⟩
            cases hd : decide (thL (rows.getD x []) (rows.getD z []) = thL (rows.getD y []) (rows.getD x [])) with
            | true =>
              rw [hd] at HCE
              have HC1 : Hid (chkP rows x y = true) := Lib.hid (by rw [HCE.out]; simp)
              clear hd
              go_wp2
              go_roundw
              case rel => exact ⟨y + 1, by omega, by go_num, below_drewN hq6 m7, Lib.hid (STEP.out HC1.out)⟩
              case measure => simp [intOf]; omega
            | false =>
              rw [hd] at HCE
              have HC1 : Hid (chkR rows = false) := Lib.hid (by
                have h1 : chkP rows x y = false := by rw [HCE.out]; simp; have := HL.out; omega
                exact chkR_no (by have := HL.out; omega) (chkX_no (by have := HL.out; omega) h1))
              clear hd
              go_wp2
              go_ret
              exact ⟨ret_bool HC1.out.symm, below_drewN hq6 m7⟩
          · have i7 : ¬ (z : Int) < (k : Int) := by omega
            have hzl : decide (rows.length ≤ z) = true := by have := HL.out; simp; omega
            have HC1 : Hid (chkP rows x y = true) := Lib.hid (by rw [HCE.out, hzl]; rfl)
            clear hzl
            go_wp2
            go_roundw
            case rel => exact ⟨y + 1, by omega, by go_num, hq, Lib.hid (STEP.out HC1.out)⟩
            case measure => simp [intOf]; omega
        · obtain rfl : k = y := by omega
          have HC : Hid (chkX rows x = true) := Lib.hid (chkX_of fun y hy => HY.out y (by have := HL.out; omega))
          go_wp2
          go_roundw
          case rel => exact ⟨x + 1, by omega, by go_num, hq, Lib.hid fun x' hx' => by
            by_cases e : x' = x
            · subst e; exact HC.out
            · exact HX.out x' (by omega)⟩
          case measure => simp [intOf]; omega
    · obtain rfl : k = x := by omega
      have HC : Hid (chkR rows = true) := Lib.hid (chkR_of fun x hx => HX.out x (by have := HL.out; omega))
      go_wp2
      go_ret
      exact ⟨ret_bool HC.out.symm, hq⟩
end Go.Proofs.YtaddclaadbjnlaaGreat

namespace Go.Proofs.YtaddclaadbjnlaaGreat
set_option maxRecDepth 100000
set_option linter.unusedVariables false
set_option linter.unusedSimpArgs false
def nxC (n : Nat) : Bool := decide ((prmL n).getD 0 [] = unitL n) && (List.range (prmL n).length).all fun k => decide (nxP ((prmL n).getD k []) = if k + 1 < (prmL n).length then some ((prmL n).getD (k + 1) []) else none)
theorem nx_fin : ∀ n : Fin 5, 1 ≤ n.1 → nxC n.1 = true := by decide +kernel
theorem nx_zero {n : Nat} (h1 : 1 ≤ n) (h4 : n ≤ 4) : (prmL n).getD 0 [] = unitL n := by
  have := nx_fin ⟨n, by omega⟩ h1
  simp only [nxC, Bool.and_eq_true, decide_eq_true_eq] at this
  exact this.1
theorem nx_at {n k : Nat} (h1 : 1 ≤ n) (h4 : n ≤ 4) (hk : k < (prmL n).length) : nxP ((prmL n).getD k []) = if k + 1 < (prmL n).length then some ((prmL n).getD (k + 1) []) else none := by
  have := nx_fin ⟨n, by omega⟩ h1
  simp only [nxC, Bool.and_eq_true, decide_eq_true_eq, List.all_eq_true, List.mem_range] at this
  exact this.2 k hk
def rowG (ps : List (List Int)) (fits : List (List Int) → Bool) : Nat → List (List Int) → List (List (List Int))
  | 0, o => [o]
  | m + 1, o => ps.flatMap fun p => if fits (o ++ [p]) then rowG ps fits m (o ++ [p]) else []
def rowL (n : Nat) (fits : List (List Int) → Bool) : List (List (List Int)) := rowG (prmL n) fits n []
end Go.Proofs.YtaddclaadbjnlaaGreat

namespace Go.Proofs.YtaddclaadbjnlaaGreat
set_option maxRecDepth 100000
set_option linter.unusedVariables false
set_option linter.unusedSimpArgs false
def rowP (ps : List (List Int)) (fits : List (List Int) → Bool) (m : Nat) (o : List (List Int)) (k : Nat) : List (List (List Int)) := (ps.take k).flatMap fun p => if fits (o ++ [p]) then rowG ps fits m (o ++ [p]) else []
theorem rowP_succ (ps : List (List Int)) (fits : List (List Int) → Bool) (m : Nat) (o : List (List Int)) {k : Nat} (h : k < ps.length) : rowP ps fits m o (k + 1) = rowP ps fits m o k ++ if fits (o ++ [ps.getD k []]) then rowG ps fits m (o ++ [ps.getD k []]) else [] := by
  unfold rowP
  rw [List.take_succ_eq_append_getElem h, List.flatMap_append]
  simp [List.getD_eq_getElem?_getD, List.getElem?_eq_getElem h]
theorem rowP_all (ps : List (List Int)) (fits : List (List Int) → Bool) (m : Nat) (o : List (List Int)) : rowP ps fits m o ps.length = rowG ps fits (m + 1) o := by
  unfold rowP; rw [List.take_length]; rfl
theorem rowG_bd (ps : List (List Int)) (fits : List (List Int) → Bool) : ∀ (m : Nat) (o : List (List Int)), (rowG ps fits m o).length ≤ ps.length ^ m := by
  intro m
  induction m with
  | zero => intro o; simp [rowG]
  | succ m ih =>
    intro o
    have : ∀ k, k ≤ ps.length → (rowP ps fits m o k).length ≤ k * ps.length ^ m := by
      intro k
      induction k with
      | zero => intro _; simp [rowP]
      | succ k ihk =>
        intro hk
        rw [rowP_succ ps fits m o (by omega), List.length_append, Nat.add_mul, Nat.one_mul]
        have := ihk (by omega)
        split
        · have := ih (o ++ [ps.getD k []]); omega
        · simp; omega
    have h := this ps.length (Nat.le_refl _)
    rw [rowP_all] at h
    rw [Nat.pow_succ, Nat.mul_comm]
    exact h
theorem rowP_le (ps : List (List Int)) (fits : List (List Int) → Bool) (m : Nat) (o : List (List Int)) : ∀ k, k ≤ ps.length → (rowP ps fits m o k).length ≤ k * ps.length ^ m := by
  intro k
  induction k with
  | zero => intro _; simp [rowP]
  | succ k ihk =>
    intro hk
    rw [rowP_succ ps fits m o (by omega), List.length_append, Nat.add_mul, Nat.one_mul]
    have := ihk (by omega)
    split
    · have := rowG_bd ps fits m (o ++ [ps.getD k []]); omega
    · simp; omega
end Go.Proofs.YtaddclaadbjnlaaGreat

namespace Go.Proofs.YtaddclaadbjnlaaGreat
set_option maxRecDepth 100000
set_option linter.unusedVariables false
set_option linter.unusedSimpArgs false
def allT (ps : List (List Int)) : Nat → List (List Int) → List (List (List Int))
  | 0, o => [o]
  | m + 1, o => ps.flatMap fun p => allT ps m (o ++ [p])
theorem allT_mem {ps : List (List Int)} : ∀ (m : Nat) (o t : List (List Int)), t ∈ allT ps m o → ∃ r, t = o ++ r ∧ r.length = m ∧ ∀ p ∈ r, p ∈ ps := by
  intro m
  induction m with
  | zero => intro o t h; simp [allT] at h; exact ⟨[], by simp [h], rfl, by simp⟩
  | succ m ih =>
    intro o t h
    simp only [allT, List.mem_flatMap] at h
    obtain ⟨p, hp, ht⟩ := h
    obtain ⟨r, h1, h2, h3⟩ := ih _ _ ht
    exact ⟨p :: r, by rw [h1]; simp, by simp [h2], fun q hq => by
      rcases List.mem_cons.1 hq with e | e
      · rw [e]; exact hp
      · exact h3 q e⟩
theorem filter_flatMap' {α β : Type} (l : List α) (f : α → List β) (p : β → Bool) : (l.flatMap f).filter p = l.flatMap fun a => (f a).filter p := by
  induction l with
  | nil => rfl
  | cons a l ih => simp [List.flatMap_cons, List.filter_append, ih]
theorem flatMap_congr' {α β : Type} {l : List α} {f g : α → List β} (h : ∀ a ∈ l, f a = g a) : l.flatMap f = l.flatMap g := by
  induction l with
  | nil => rfl
  | cons a l ih => rw [List.flatMap_cons, List.flatMap_cons, h a (by simp), ih fun b hb => h b (by simp [hb])]
theorem filter_none {α : Type} {l : List α} {p : α → Bool} (h : ∀ a ∈ l, p a = false) : l.filter p = [] := by
  rw [List.filter_eq_nil_iff]; intro a ha; rw [h a ha]; simp
theorem rowG_filter {ps : List (List Int)} {fits : List (List Int) → Bool} (hm : ∀ o r, fits (o ++ r) = true → fits o = true) : ∀ (m : Nat) (o : List (List Int)), rowG ps fits (m + 1) o = (allT ps (m + 1) o).filter fits := by
  intro m
  induction m with
  | zero =>
    intro o
    unfold rowG allT
    rw [filter_flatMap']
    refine flatMap_congr' fun p _ => ?_
    unfold rowG allT
    cases h : fits (o ++ [p]) <;> simp [h]
  | succ m ih =>
    intro o
    have e1 : rowG ps fits (m + 1 + 1) o = ps.flatMap fun p => if fits (o ++ [p]) then rowG ps fits (m + 1) (o ++ [p]) else [] := rfl
    have e2 : allT ps (m + 1 + 1) o = ps.flatMap fun p => allT ps (m + 1) (o ++ [p]) := rfl
    rw [e1, e2, filter_flatMap']
    refine flatMap_congr' fun p _ => ?_
    cases h : fits (o ++ [p]) with
    | true => rw [if_pos rfl, ih]
    | false =>
      rw [if_neg (by simp)]
      symm
      refine filter_none fun t ht => ?_
      obtain ⟨r, h1, _, _⟩ := allT_mem _ _ _ ht
      cases e : fits t with
      | false => rfl
      | true => rw [h1] at e; rw [hm _ _ e] at h; cases h
theorem rowL_filter {n : Nat} (h1 : 1 ≤ n) {fits : List (List Int) → Bool} (hm : ∀ o r, fits (o ++ r) = true → fits o = true) : rowL n fits = (allT (prmL n) n []).filter fits := by
  obtain ⟨m, rfl⟩ : ∃ m, n = m + 1 := ⟨n - 1, by omega⟩
  exact rowG_filter hm m []
end Go.Proofs.YtaddclaadbjnlaaGreat

namespace Go.Proofs.YtaddclaadbjnlaaGreat
set_option maxRecDepth 100000
set_option linter.unusedVariables false
set_option linter.unusedSimpArgs false
open Go.RowKit
def rngB (lo hi x : Int) : Bool := decide (lo ≤ x) && decide (x ≤ hi)
def rowOk (n m : Int) (xs : List Int) : Bool := decide ((xs.length : Int) = n) && xs.all (rngB 0 (m - 1))
theorem all_get_succ {α : Type} {f : α → Bool} {xs : List α} {k : Nat} (hx : k < xs.length) (h1 : (xs.take k).all f = true) (h2 : f xs[k] = true) : (xs.take (k + 1)).all f = true := by
  rw [List.take_succ_eq_append_getElem hx, List.all_append, h1]; simp [h2]
theorem all_no {α : Type} {f : α → Bool} {xs : List α} {k : Nat} (hx : k < xs.length) (h : f xs[k] = false) : xs.all f = false := by
  rw [List.all_eq_false]; exact ⟨xs[k], List.getElem_mem hx, by simp [h]⟩
theorem within_b (v lo hi : Int) (b : Bool) (h : rngB lo hi v = b) (w : World) :
    Calls Tryz.prog 37 #[.int .i64 v, .int .i64 lo, .int .i64 hi] w fun e w' => e = .returned (.bool b) ∧ w = w' :=
  (within_any v lo hi w).mono fun e w' ⟨he, hw⟩ => ⟨he.trans (ret_bool h), hw⟩
theorem l01In_b (v lo hi : Int) (b : Bool) (h : rngB lo hi v = b) (w : World) :
    Calls Tryz.prog 39 #[.int .i64 v, .int .i64 lo, .int .i64 hi] w fun e w' => e = .returned (.bool b) ∧ w = w' :=
  (l01In_any v lo hi w).mono fun e w' ⟨he, hw⟩ => ⟨he.trans (ret_bool h), hw⟩
set_option maxHeartbeats 400000 in
theorem allWithin_any (a : Option Addr) (n c : Nat) (xs : List Int) (lo hi : Int) (w : World) (h1 : Row w a n xs) (hm : n ≤ 9223372036854775807) :
    Calls Tryz.prog 100 #[.slice a n c, .int .i64 lo, .int .i64 hi] w fun e w' => e = .returned (.bool (xs.all (rngB lo hi))) ∧ w = w' := by
  have hl := h1.len
  have HL := Lib.hid hl; clear hl
  go_enter Tryz.func100, Tryz.ntmps100
  go_wp2
  go_loop [11] (fun i => ∃ k : Nat, k ≤ n ∧ i = .int .i64 k ∧ Hid ((xs.take k).all (rngB lo hi) = true)) (fun i => n - (intOf i).toNat)
  case atStart => exact ⟨0, Nat.zero_le _, rfl, by simp [Hid]⟩
  case round =>
    obtain ⟨k, hk, rfl, hall⟩ := hrel
    by_cases hlt : k < n
    · obtain ⟨b, off, rfl, g1⟩ := h1.at k hlt
      have hx : k < xs.length := by have := HL.out; omega
      clear h1
      cases hp : rngB lo hi xs[k] with
      | true =>
        have HC := Lib.hid (fun w => within_b xs[k] lo hi true hp w)
        have HP := Lib.hid hp; clear hp
        go_wp2_with fail
        refine (HC.out _).mono ?_
        rintro e w' ⟨rfl, rfl⟩
        go_wp2
        go_round
        case rel => exact ⟨k + 1, by omega, by go_num, all_get_succ hx hall HP.out⟩
        case measure => simp [intOf]; omega
      | false =>
        have HC := Lib.hid (fun w => within_b xs[k] lo hi false hp w)
        have HP := Lib.hid hp; clear hp
        go_wp2_with fail
        refine (HC.out _).mono ?_
        rintro e w' ⟨rfl, rfl⟩
        go_wp2
        go_ret
        exact ⟨ret_bool (all_no hx HP.out).symm, rfl⟩
    · obtain rfl : k = n := by omega
      go_wp2
      go_ret
      have ha : (xs.take k).all (rngB lo hi) = true := hall
      rw [List.take_of_length_le (by have := HL.out; omega)] at ha
      exact ⟨ret_bool ha.symm, rfl⟩
/-! ### questions of rows at a function value that only reads -/
def idxT (p : List Int → Bool) (xs : List (List Int)) : Int := match xs.findIdx? p with | some i => (i : Int) | none => -1
theorem idxT_hit {p : List Int → Bool} {xs : List (List Int)} {k : Nat} (hk : k < xs.length) (h1 : (xs.take k).all (fun x => !p x) = true) (h2 : p xs[k] = true) : idxT p xs = k := by
  have : xs.findIdx? p = some k := by
    rw [List.findIdx?_eq_some_iff_getElem]
    refine ⟨hk, h2, fun j hj => ?_⟩
    have hj' : j < xs.length := by omega
    rw [List.all_eq_true] at h1
    have := h1 xs[j] (by rw [List.mem_take_iff_getElem]; exact ⟨j, by omega, rfl⟩)
    simpa using this
  simp [idxT, this]
theorem idxT_miss {p : List Int → Bool} {xs : List (List Int)} (h1 : xs.all (fun x => !p x) = true) : idxT p xs = -1 := by
  have : xs.findIdx? p = none := by
    rw [List.findIdx?_eq_none_iff]
    intro x hx
    rw [List.all_eq_true] at h1
    simpa using h1 x hx
  simp [idxT, this]
theorem idxT_any (p : List Int → Bool) (xs : List (List Int)) : decide (0 ≤ idxT p xs) = xs.any p := by
  unfold idxT
  cases h : xs.findIdx? p with
  | none => rw [List.findIdx?_eq_none_iff] at h; simp; intro x hx; simpa using h x hx
  | some i =>
    rw [List.findIdx?_eq_some_iff_getElem] at h
    obtain ⟨hi, hp, _⟩ := h
    have : xs.any p = true := List.any_eq_true.2 ⟨xs[i], List.getElem_mem hi, hp⟩
    simp [this]
set_option maxHeartbeats 1000000 in
theorem idxFunc_rows (Inv : World → Prop) (f : FuncId) (caps : Array Value) (p : List Int → Bool) (a : Option Addr) (n c : Nat) (xs : List (List Int)) (w : World) (hI : Inv w) (h1 : ∀ w1, Inv w1 → Tbl w1 a n xs) (hm : n ≤ 9223372036854775807)
    (hcf : Ent f) (hf : ∀ x ∈ xs, ∀ w1, Inv w1 → ∀ a' n' c', Row w1 a' n' x → n' ≤ 9223372036854775807 → Calls Tryz.prog f (#[.slice a' n' c'] ++ caps) w1 fun e w' => e = .returned (.bool (p x)) ∧ Inv w') :
    Calls Tryz.prog 138 #[.slice a n c, .func (.func f) #[] caps] w fun e w' => e = .returned (.int .i64 (idxT p xs)) ∧ Inv w' := by
  have hcf' : ∀ (args : Array Value) (w : World), (callFunc f args).run Tryz.prog w = .ok (.enter f args) w := hcf
  have HF := Lib.hid hf; clear hf
  have hl := (h1 w hI).len
  have HL := Lib.hid hl; clear hl
  have H1 := Lib.hid h1; clear h1
  have HI := Lib.hid hI; clear hI
  go_enter Tryz.func138, Tryz.ntmps138
  go_wp2
  go_loopw [8] (fun i wr => ∃ k : Nat, k ≤ n ∧ i = .int .i64 k ∧ Hid ((xs.take k).all (fun x => !p x) = true) ∧ Hid (Inv wr)) (fun i _ => n - (intOf i).toNat)
  case atStart => exact ⟨0, Nat.zero_le _, rfl, by simp [Hid], HI⟩
  case round =>
    obtain ⟨k, hk, rfl, hall, hi⟩ := hrel
    by_cases hlt : k < n
    · obtain ⟨b, off, ai, ni, ci, rfl, g1, hri, hni⟩ := (H1.out wr hi.out).at k hlt
      have hx : k < xs.length := by have := HL.out; omega
      rw [Tbl.getD hx] at hri
      have hc := HF.out xs[k] (List.getElem_mem hx) wr hi.out ai ni ci hri hni
      by_cases hp : p xs[k] = true
      · rw [hp] at hc
        have HC := Lib.hid hc; clear hc
        have HP := Lib.hid hp; clear hp
        go_wp2_with fail
        refine HC.out.mono ?_
        rintro e w' ⟨rfl, hi'⟩
        have HI' := Lib.hid hi'; clear hi'
        go_wp2
        go_ret
        exact ⟨ret_int (idxT_hit hx hall HP.out).symm, HI'.out⟩
      · have hp : p xs[k] = false := by simpa using hp
        rw [hp] at hc
        have HC := Lib.hid hc; clear hc
        have HP := Lib.hid hp; clear hp
        go_wp2_with fail
        refine HC.out.mono ?_
        rintro e w' ⟨rfl, hi'⟩
        have HI' := Lib.hid hi'; clear hi'
        go_wp2
        go_roundw
        case rel =>
          refine ⟨k + 1, by omega, by go_num, ?_, HI'⟩
          show ((xs.take (k + 1)).all (fun x => !p x)) = true
          have ha : (xs.take k).all (fun x => !p x) = true := hall
          rw [List.take_succ_eq_append_getElem hx, List.all_append, ha]; simp [HP.out]
        case measure => simp [intOf]; omega
    · obtain rfl : k = n := by omega
      go_wp2
      go_ret
      have ha : (xs.take k).all (fun x => !p x) = true := hall
      rw [List.take_of_length_le (by have := HL.out; omega)] at ha
      exact ⟨ret_int (idxT_miss ha).symm, hi.out⟩
set_option maxHeartbeats 400000 in
theorem containsFunc_rows (Inv : World → Prop) (f : FuncId) (caps : Array Value) (p : List Int → Bool) (a : Option Addr) (n c : Nat) (xs : List (List Int)) (w : World) (hI : Inv w) (h1 : ∀ w1, Inv w1 → Tbl w1 a n xs) (hm : n ≤ 9223372036854775807)
    (hcf : Ent f) (hf : ∀ x ∈ xs, ∀ w1, Inv w1 → ∀ a' n' c', Row w1 a' n' x → n' ≤ 9223372036854775807 → Calls Tryz.prog f (#[.slice a' n' c'] ++ caps) w1 fun e w' => e = .returned (.bool (p x)) ∧ Inv w') :
    Calls Tryz.prog 98 #[.slice a n c, .func (.func f) #[] caps] w fun e w' => e = .returned (.bool (xs.any p)) ∧ Inv w' := by
  have HF := Lib.hid hf; clear hf
  have H1 := Lib.hid h1; clear h1
  have HI := Lib.hid hI; clear hI
  go_enter Tryz.func98, Tryz.ntmps98
  go_wp2_with fail
  refine (idxFunc_rows Inv f caps p _ _ _ xs _ HI.out H1.out hm hcf HF.out).mono ?_
  rintro e w' ⟨rfl, hi'⟩
  have HI' := Lib.hid hi'; clear hi'
  go_wp2
  go_ret
  exact ⟨ret_bool (idxT_any p xs), HI'.out⟩
end Go.Proofs.YtaddclaadbjnlaaGreat

namespace Go.Proofs.YtaddclaadbjnlaaGreat
set_option linter.unusedVariables false
set_option linter.unusedSimpArgs false
def tv (t : List (List Int)) (x y : Nat) : Nat := ((t.getD x []).getD y 0).toNat
def isTab (t : List (List Int)) : Bool := rngB 1 12 (t.length : Int) && t.all (rowOk t.length t.length)
def Sq (n : Nat) (t : List (List Int)) : Prop := t.length = n ∧ ∀ x, x < n → (t.getD x []).length = n ∧ ∀ y, y < n → tv t x y < n ∧ (t.getD x []).getD y 0 = ((tv t x y : Nat) : Int)
theorem rowOk_get {n m : Int} {xs : List Int} (h : rowOk n m xs = true) : (xs.length : Int) = n ∧ ∀ y, y < xs.length → 0 ≤ xs.getD y 0 ∧ xs.getD y 0 < m := by
  unfold rowOk at h
  rw [Bool.and_eq_true] at h
  refine ⟨by simpa using h.1, fun y hy => ?_⟩
  have := List.all_eq_true.1 h.2 xs[y] (List.getElem_mem hy)
  unfold rngB at this
  have e : xs.getD y 0 = xs[y] := by simp [List.getD_eq_getElem?_getD, List.getElem?_eq_getElem hy]
  rw [e]
  simp at this
  omega
theorem isTab_sq {t : List (List Int)} (h : isTab t = true) : 1 ≤ t.length ∧ t.length ≤ 12 ∧ Sq t.length t := by
  unfold isTab at h
  rw [Bool.and_eq_true] at h
  have h1 : 1 ≤ t.length ∧ t.length ≤ 12 := by
    have := h.1; unfold rngB at this; simp at this; omega
  refine ⟨h1.1, h1.2, rfl, fun x hx => ?_⟩
  have hr := List.all_eq_true.1 h.2 t[x] (List.getElem_mem hx)
  have e : t.getD x [] = t[x] := by simp [List.getD_eq_getElem?_getD, List.getElem?_eq_getElem hx]
  obtain ⟨h2, h3⟩ := rowOk_get hr
  rw [e]
  refine ⟨by omega, fun y hy => ?_⟩
  have := h3 y (by omega)
  unfold tv
  rw [e]
  omega
theorem Sq.len {n : Nat} {t : List (List Int)} (h : Sq n t) : t.length = n := h.1
theorem Sq.lt {n : Nat} {t : List (List Int)} (h : Sq n t) {x y : Nat} (hx : x < n) (hy : y < n) : tv t x y < n := ((h.2 x hx).2 y hy).1
theorem Sq.row {n : Nat} {t : List (List Int)} (h : Sq n t) {x : Nat} (hx : x < n) : (t.getD x []).length = n := (h.2 x hx).1
theorem Sq.val {n : Nat} {t : List (List Int)} (h : Sq n t) {x y : Nat} (hx : x < n) (hy : y < n) : (t.getD x []).getD y 0 = ((tv t x y : Nat) : Int) := ((h.2 x hx).2 y hy).2
/-! ### all of the numbers less than n -/
def allN (n : Nat) (P : Nat → Bool) : Bool := (List.range n).all P
theorem allN_succ {n : Nat} {P : Nat → Bool} (h : allN n P = true) (h' : P n = true) : allN (n + 1) P = true := by
  unfold allN at *; rw [List.range_succ, List.all_append, h]; simp [h']
theorem allN_no {n k : Nat} {P : Nat → Bool} (hk : k < n) (h : P k = false) : allN n P = false := by
  unfold allN; rw [List.all_eq_false]; exact ⟨k, List.mem_range.2 hk, by simp [h]⟩
theorem allN_get {n k : Nat} {P : Nat → Bool} (h : allN n P = true) (hk : k < n) : P k = true := List.all_eq_true.1 h k (List.mem_range.2 hk)
/-! ### the equation, and pairs that are led to one pair -/
def collAt (n : Nat) (f g : List (List Int)) (p q : Nat) : Bool := (!decide (p = q)) && (decide (tv f (p / n) (p % n) = tv f (q / n) (q % n)) && decide (tv g (p / n) (p % n) = tv g (q / n) (q % n)))
def collOk (n : Nat) (f g : List (List Int)) : Bool := allN (n * n) fun p => allN (n * n) fun q => !collAt n f g p q
end Go.Proofs.YtaddclaadbjnlaaGreat

namespace Go.Proofs.YtaddclaadbjnlaaGreat
set_option linter.unusedVariables false
set_option linter.unusedSimpArgs false
open Go.RowKit
structure Grid (w : World) (b off : Nat) (A O C : Nat → Nat) (n : Nat) (t : List (List Int)) : Prop where
  lt : b < w.heap.size
  row : ∀ x, x < n → w.cell? ⟨b, off + x, none⟩ = some (.slice (some ⟨A x, O x, none⟩) n (C x))
  rlt : ∀ x, x < n → A x < w.heap.size
  cell : ∀ x y, x < n → y < n → w.cell? ⟨A x, O x + y, none⟩ = some (.int .i64 ((tv t x y : Nat) : Int))
theorem Tbl.grid {w : World} {a : Option Addr} {n : Nat} {t : List (List Int)} (h : Tbl w a n t) (hs : Sq n t) (hn : 0 < n) : ∃ b off A O C, a = some ⟨b, off, none⟩ ∧ Grid w b off A O C n t := by
  obtain ⟨b, off, ai, ni, ci, ha, hb, _⟩ := h.2 0 hn
  have H : ∀ x, ∃ q : Nat × Nat × Nat, x < n → w.cell? ⟨b, off + x, none⟩ = some (.slice (some ⟨q.1, q.2.1, none⟩) n q.2.2) ∧ q.1 < w.heap.size ∧ ∀ y, y < n → w.cell? ⟨q.1, q.2.1 + y, none⟩ = some (.int .i64 ((tv t x y : Nat) : Int)) := by
    intro x
    by_cases hx : x < n
    · obtain ⟨b', off', ax, nx, cx, e, _, hc, hr, _⟩ := h.2 x hx
      rw [ha] at e; cases e
      have hl : nx = n := by rw [hr.len, hs.row hx]
      subst hl
      obtain ⟨bx, ox, e, hbx, hcx⟩ := hr.all hn
      subst e
      exact ⟨(bx, ox, cx), fun _ => ⟨hc, hbx, fun y hy => by rw [hcx y hy, hs.val hx hy]⟩⟩
    · exact ⟨(0, 0, 0), fun h => absurd h hx⟩
  obtain ⟨Q, hQ⟩ := Classical.axiomOfChoice H
  exact ⟨b, off, fun x => (Q x).1, fun x => (Q x).2.1, fun x => (Q x).2.2, ha, hb, fun x hx => (hQ x hx).1, fun x hx => (hQ x hx).2.1, fun x y hx hy => (hQ x hx).2.2 y hy⟩
section
variable {w w' : World} {b off n : Nat} {A O C : Nat → Nat} {t : List (List Int)}
theorem Grid.below (h : Grid w b off A O C n t) (hb : Below w.heap.size w w') : Grid w' b off A O C n t :=
  ⟨Nat.lt_of_lt_of_le h.lt hb.size, fun x hx => (hb.cell (p := ⟨b, off + x, none⟩) h.lt).trans (h.row x hx), fun x hx => Nat.lt_of_lt_of_le (h.rlt x hx) hb.size,
   fun x y hx hy => (hb.cell (p := ⟨A x, O x + y, none⟩) (h.rlt x hx)).trans (h.cell x y hx hy)⟩
theorem Grid.alloc (h : Grid w b off A O C n t) (o : Obj) : Grid (w.alloc o) b off A O C n t := h.below ((Below.refl _ _).alloc (Nat.le_refl _) o)
theorem Grid.drewN (h : Grid w b off A O C n t) (k : Nat) : Grid (w.drewN k) b off A O C n t := ⟨h.lt, h.row, h.rlt, h.cell⟩
theorem Grid.look (h : Grid w b off A O C n t) {x y : Nat} (hx : x < n) (hy : y < n) : w.cell? ⟨b, off + x, none⟩ = some (.slice (some ⟨A x, O x, none⟩) n (C x)) ∧ w.cell? ⟨A x, O x + y, none⟩ = some (.int .i64 ((tv t x y : Nat) : Int)) := ⟨h.row x hx, h.cell x y hx hy⟩
end
end Go.Proofs.YtaddclaadbjnlaaGreat

namespace Go.Proofs.YtaddclaadbjnlaaGreat
set_option maxRecDepth 100000
set_option linter.unusedVariables false
set_option linter.unusedSimpArgs false
open Go.RowKit
abbrev rAgg (a : Option Addr) (n c : Nat) : Value := .agg #[.slice a n c]
set_option maxHeartbeats 400000 in
theorem isTable1_any (N : Nat) (b1 : Nat) (t1 : TypeId) (a : Option Addr) (n c : Nat) (xs : List Int) (w : World) (hL1 : Loc w b1 #[.int .i64 N] t1) (h1 : Row w a n xs) (hm : n ≤ 9223372036854775807) (hN1 : 1 ≤ N) (hN : N ≤ 12) :
    Calls Tryz.prog 99 #[.slice a n c, .pointer (some ⟨b1, 0, none⟩)] w fun e w' => e = .returned (.bool (!rowOk N N xs)) ∧ w = w' := by
  have l1 := hL1.one
  have hl := h1.len
  by_cases hn : n = N
  · have b1 : ((n : Int) != (N : Int)) = false := by subst hn; simp
    have hq : rowOk N N xs = xs.all (rngB 0 ((N : Int) - 1)) := by simp [rowOk, ← hl, hn]
    have HQ := Lib.hid hq; have HA := Lib.hid (fun w hr => allWithin_any a n c xs 0 ((N : Int) - 1) w hr hm); clear hq hl hn
    go_enter Tryz.func99, Tryz.ntmps99
    go_wp2_with fail
    refine (HA.out _ h1).mono ?_
    rintro e w' ⟨rfl, rfl⟩
    go_wp2
    go_ret
    exact ⟨ret_bool (by rw [HQ.out]), rfl⟩
  · have b1 : ((n : Int) != (N : Int)) = true := by simp; omega
    have hq : rowOk N N xs = false := by
      unfold rowOk
      have : ((xs.length : Int) = (N : Int)) = False := by simp; omega
      simp [this]
    have HQ := Lib.hid hq; clear hq hl hn
    go_enter Tryz.func99, Tryz.ntmps99
    go_wp2
    go_ret
    exact ⟨ret_bool (by rw [HQ.out]; rfl), rfl⟩
theorem ent_isTable1 : Ent 99 := fun _ _ => rfl
set_option maxHeartbeats 1000000 in
theorem isTable_any (a : Option Addr) (n c : Nat) (t : List (List Int)) (w : World) (h1 : Tbl w a n t) (hm : n ≤ 9223372036854775807) :
    Calls Tryz.prog 53 #[.slice a n c] w fun e w' => e = .returned (.bool (isTab t)) ∧ Below w.heap.size w w' := by
  have hl := h1.len
  have hB := below_al (Below.refl w.heap.size w) (.cells #[.int .i64 n] 2)
  cases hp : rngB 1 12 n with
  | false =>
    have hq : isTab t = false := by unfold isTab; rw [← hl, hp]; rfl
    have HQ := Lib.hid hq
    have HC := Lib.hid (fun w => within_b n 1 12 false hp w); clear hp hl hq
    go_enter Tryz.func53, Tryz.ntmps53
    go_wp2_with fail
    refine (HC.out _).mono ?_
    rintro e w' ⟨rfl, rfl⟩
    go_wp2
    go_ret
    exact ⟨ret_bool HQ.out.symm, hB⟩
  | true =>
    have hn12 : 1 ≤ n ∧ n ≤ 12 := by unfold rngB at hp; simp at hp; omega
    have HC := Lib.hid (fun w => within_b n 1 12 true hp w)
    have hq : isTab t = t.all (rowOk n n) := by unfold isTab; rw [← hl, hp]; rfl
    have HQ := Lib.hid hq; clear hq hl hp
    have hcl : ∀ x ∈ t, ∀ w1, (w.alloc (.cells #[.int .i64 n] 2)) = w1 → ∀ a' n' c', Row w1 a' n' x → n' ≤ 9223372036854775807 → Calls Tryz.prog 99 (#[.slice a' n' c'] ++ #[.pointer (some ⟨w.heap.size, 0, none⟩)]) w1 fun e w' => e = .returned (.bool (!rowOk n n x)) ∧ (w.alloc (.cells #[.int .i64 n] 2)) = w' := fun x hx w1 hw1 a' n' c' hr hn' => by
      subst hw1
      exact isTable1_any n _ _ a' n' c' x _ (Loc.new _ rfl _ _) hr hn' hn12.1 hn12.2
    have HCL := Lib.hid hcl; clear hcl
    go_enter Tryz.func53, Tryz.ntmps53
    go_wp2_with fail
    refine (HC.out _).mono ?_
    rintro e w' ⟨rfl, rfl⟩
    go_wp2_with fail
    refine (containsFunc_rows (fun w1 => (w.alloc (.cells #[.int .i64 n] 2)) = w1) 99 _ (fun x => !rowOk n n x) _ _ _ t _ rfl (fun w1 h => h ▸ h1.alloc _) hm ent_isTable1 HCL.out).mono ?_
    rintro e w' ⟨rfl, rfl⟩
    go_wp2
    go_ret
    refine ⟨ret_bool ?_, hB⟩
    rw [HQ.out]
    simp [List.any_eq_not_all_not]
end Go.Proofs.YtaddclaadbjnlaaGreat

namespace Go.Proofs.YtaddclaadbjnlaaGreat
set_option maxRecDepth 100000
set_option linter.unusedVariables false
set_option linter.unusedSimpArgs false
open Go.RowKit
theorem div_lt_sq {p n : Nat} (h : p < n * n) : p / n < n := Nat.div_lt_of_lt_mul h
end Go.Proofs.YtaddclaadbjnlaaGreat

namespace Go.Proofs.YtaddclaadbjnlaaGreat
set_option maxRecDepth 100000
set_option linter.unusedVariables false
set_option linter.unusedSimpArgs false
open Go.RowKit
def doF (f g : List (List Int)) (i : Nat) (l : List Int) : List Int :=
  (l.set i ((tv f (l.getD i 0).toNat (l.getD (i + 1) 0).toNat : Nat) : Int)).set (i + 1) ((tv g (l.getD i 0).toNat (l.getD (i + 1) 0).toNat : Nat) : Int)
theorem doF_len (f g : List (List Int)) (i : Nat) (l : List Int) : (doF f g i l).length = l.length := by simp [doF]
def Less (n : Nat) (l : List Int) : Prop := ∀ i, i < l.length → ∃ k : Nat, k < n ∧ l.getD i 0 = (k : Int)
theorem Less.set {n : Nat} {l : List Int} (h : Less n l) (i k : Nat) (hk : k < n) : Less n (l.set i (k : Int)) := by
  intro j hj
  rw [List.length_set] at hj
  rw [getD_set' _ _ _ _ _ hj]
  by_cases e : j = i
  · rw [if_pos e]; exact ⟨k, hk, rfl⟩
  · rw [if_neg e]; exact h j hj
theorem Less.do_ {n : Nat} {f g : List (List Int)} {l : List Int} (h : Less n l) (hf : Sq n f) (hg : Sq n g) (i : Nat) (hi : i + 1 < l.length) : Less n (doF f g i l) := by
  obtain ⟨x, hx, ex⟩ := h i (by omega)
  obtain ⟨y, hy, ey⟩ := h (i + 1) hi
  unfold doF
  rw [ex, ey]
  exact (h.set i _ (hf.lt (by simpa using hx) (by simpa using hy))).set (i + 1) _ (hg.lt (by simpa using hx) (by simpa using hy))
end Go.Proofs.YtaddclaadbjnlaaGreat
