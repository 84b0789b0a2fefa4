/-
  Walks and plain laws of this seat, some texts in one.
  No condition but bounds on lengths.
-/
import Derived.Test.YtaddclaadbjnlaaGreatPs1
import Derived.Test.YtaddclaadbjnlaaGreatPs3
import Derived.Test.YtaddclaadbjnlaaGreatPs5
namespace Go.Proofs.YtaddclaadbjnlaaGreat
set_option maxRecDepth 100000
set_option linter.unusedVariables false
set_option linter.unusedSimpArgs false
def cmpI (x y : Int) : Int := if x < y then -1 else if y < x then 1 else 0
def cmpG {α : Type} (c : α → α → Int) : List α → List α → Int
  | [], [] => 0
  | [], _ :: _ => -1
  | _ :: _, [] => 1
  | x :: xs, y :: ys => if c x y = 0 then cmpG c xs ys else c x y
def cmpL : List Int → List Int → Int := cmpG cmpI
def cmpT : List (List Int) → List (List Int) → Int := cmpG cmpL
theorem cmpG_bd {α : Type} {c : α → α → Int} (hc : ∀ x y, -1 ≤ c x y ∧ c x y ≤ 1) : ∀ xs ys, -1 ≤ cmpG c xs ys ∧ cmpG c xs ys ≤ 1 := by
  intro xs
  induction xs with
  | nil => intro ys; cases ys <;> simp [cmpG]
  | cons x xs ih =>
    intro ys
    cases ys with
    | nil => simp [cmpG]
    | cons y ys =>
      unfold cmpG
      split
      · exact ih ys
      · exact hc x y
theorem cmpI_bd (x y : Int) : -1 ≤ cmpI x y ∧ cmpI x y ≤ 1 := by
  unfold cmpI
  split
  · omega
  · split <;> omega
theorem cmpL_bd (xs ys : List Int) : -1 ≤ cmpL xs ys ∧ cmpL xs ys ≤ 1 := cmpG_bd cmpI_bd xs ys
theorem cmpT_bd (xs ys : List (List Int)) : -1 ≤ cmpT xs ys ∧ cmpT xs ys ≤ 1 := cmpG_bd cmpL_bd xs ys
theorem cmpG_step {α : Type} {c : α → α → Int} {xs ys : List α} {k : Nat} (d : α) (hx : k < xs.length) (hy : k < ys.length) : cmpG c (xs.drop k) (ys.drop k) = if c (xs.getD k d) (ys.getD k d) = 0 then cmpG c (xs.drop (k + 1)) (ys.drop (k + 1)) else c (xs.getD k d) (ys.getD k d) := by
  rw [List.drop_eq_getElem_cons hx, List.drop_eq_getElem_cons hy]
  simp [cmpG, List.getD_eq_getElem?_getD, List.getElem?_eq_getElem hx, List.getElem?_eq_getElem hy]
theorem cmpG_long {α : Type} {c : α → α → Int} {xs ys : List α} {k : Nat} (hx : k < xs.length) (hy : ys.length ≤ k) : cmpG c (xs.drop k) (ys.drop k) = 1 := by
  rw [List.drop_eq_getElem_cons hx, List.drop_of_length_le hy]; rfl
theorem cmpG_short {α : Type} {c : α → α → Int} {xs ys : List α} {k : Nat} (hx : k = xs.length) (hy : k < ys.length) : cmpG c (xs.drop k) (ys.drop k) = -1 := by
  rw [List.drop_of_length_le (by omega), List.drop_eq_getElem_cons hy]; rfl
theorem cmpG_even {α : Type} {c : α → α → Int} {xs ys : List α} {k : Nat} (hx : k = xs.length) (hy : ys.length ≤ k) : cmpG c (xs.drop k) (ys.drop k) = 0 := by
  rw [List.drop_of_length_le (by omega), List.drop_of_length_le hy]; rfl
theorem cmpI_eq {x y : Int} : cmpI x y = 0 ↔ x = y := by
  unfold cmpI
  split
  · constructor <;> intro h <;> omega
  · split
    · constructor <;> intro h <;> omega
    · constructor <;> intro h <;> omega
theorem cmpG_eq {α : Type} {c : α → α → Int} (hc : ∀ x y, c x y = 0 ↔ x = y) : ∀ xs ys, cmpG c xs ys = 0 ↔ xs = ys := by
  intro xs
  induction xs with
  | nil => intro ys; cases ys <;> simp [cmpG]
  | cons x xs ih =>
    intro ys
    cases ys with
    | nil => simp [cmpG]
    | cons y ys =>
      unfold cmpG
      split
      · rename_i h
        rw [ih, List.cons.injEq, (hc x y).1 h]; simp
      · rename_i h
        rw [List.cons.injEq, ← hc x y]
        constructor
        · intro e; exact absurd e h
        · intro e; exact e.1
theorem cmpL_eq (xs ys : List Int) : cmpL xs ys = 0 ↔ xs = ys := cmpG_eq (fun _ _ => cmpI_eq) xs ys
theorem cmpT_eq (xs ys : List (List Int)) : cmpT xs ys = 0 ↔ xs = ys := cmpG_eq cmpL_eq xs ys
end Go.Proofs.YtaddclaadbjnlaaGreat
namespace Go.Proofs.YtaddclaadbjnlaaGreat
set_option maxRecDepth 100000
set_option linter.unusedVariables false
set_option linter.unusedSimpArgs false
open Go.RowKit
theorem isNaN_any (x : Int) (w : World) : Calls Tryz.prog 180 #[.int .i64 x] w fun e w' => e = .returned (.bool false) ∧ w = w' := by
  have h : (x != x) = false := by simp
  go_enter Tryz.func180, Tryz.ntmps180
  go_wp2
  go_ret
  exact ⟨rfl, rfl⟩
theorem compareI_any (x y : Int) (w : World) : Calls Tryz.prog 155 #[.int .i64 x, .int .i64 y] w fun e w' => e = .returned (.int .i64 (cmpI x y)) ∧ w = w' := by
  by_cases h1 : x < y
  · have hq : cmpI x y = -1 := by unfold cmpI; rw [if_pos h1]
    rw [hq]; clear hq
    go_enter Tryz.func155, Tryz.ntmps155
    go_wp2_with fail
    refine (isNaN_any _ _).mono ?_
    rintro e w2 ⟨rfl, rfl⟩
    go_wp2_with fail
    refine (isNaN_any _ _).mono ?_
    rintro e w2 ⟨rfl, rfl⟩
    go_wp2
    go_ret
    exact ⟨rfl, rfl⟩
  · by_cases h2 : y < x
    · have hq : cmpI x y = 1 := by unfold cmpI; rw [if_neg h1, if_pos h2]
      rw [hq]; clear hq
      go_enter Tryz.func155, Tryz.ntmps155
      go_wp2_with fail
      refine (isNaN_any _ _).mono ?_
      rintro e w2 ⟨rfl, rfl⟩
      go_wp2_with fail
      refine (isNaN_any _ _).mono ?_
      rintro e w2 ⟨rfl, rfl⟩
      go_wp2
      go_ret
      exact ⟨rfl, rfl⟩
    · have hq : cmpI x y = 0 := by unfold cmpI; rw [if_neg h1, if_neg h2]
      rw [hq]; clear hq
      go_enter Tryz.func155, Tryz.ntmps155
      go_wp2_with fail
      refine (isNaN_any _ _).mono ?_
      rintro e w2 ⟨rfl, rfl⟩
      go_wp2_with fail
      refine (isNaN_any _ _).mono ?_
      rintro e w2 ⟨rfl, rfl⟩
      go_wp2
      go_ret
      exact ⟨rfl, rfl⟩
set_option maxHeartbeats 4000000 in
theorem compareR_any (a1 a2 : Option Addr) (n1 n2 c1 c2 : Nat) (xs ys : List Int) (w : World) (h1 : Row w a1 n1 xs) (h2 : Row w a2 n2 ys) (hm : n1 ≤ 9223372036854775807) :
    Calls Tryz.prog 137 #[.slice a1 n1 c1, .slice a2 n2 c2] w fun e w' => e = .returned (.int .i64 (cmpL xs ys)) ∧ w = w' := by
  have HL1 := Lib.hid h1.len; have HL2 := Lib.hid h2.len
  go_enter Tryz.func137, Tryz.ntmps137
  go_wp2
  go_loop [5, 6, 7, 8, 11] (fun _ _ _ _ i => ∃ k : Nat, k ≤ n1 ∧ i = .int .i64 k ∧ (k ≤ n2) ∧ Hid (cmpL xs ys = cmpG cmpI (xs.drop k) (ys.drop k))) (fun _ _ _ _ i => n1 - (intOf i).toNat)
  case atStart => exact ⟨0, Nat.zero_le _, rfl, Nat.zero_le _, Lib.hid rfl⟩
  case round =>
    obtain ⟨k, hk, rfl, hk2, HK⟩ := hrel
    by_cases hlt : k < n1
    · obtain ⟨b1, o1, rfl, g1⟩ := h1.at k hlt
      obtain ⟨X, HX⟩ : ∃ X, Hid (xs.getD k 0 = X) := ⟨_, rfl⟩
      rw [HX.out] at g1
      have i1 : (0 : Int) ≤ (k : Int) := by omega
      have i2 : (k : Int) < (n1 : Int) := by omega
      by_cases hlt2 : k < n2
      · obtain ⟨b2, o2, rfl, g2⟩ := h2.at k hlt2
        obtain ⟨Y, HY⟩ : ∃ Y, Hid (ys.getD k 0 = Y) := ⟨_, rfl⟩
        rw [HY.out] at g2
        have i3 : (k : Int) < (n2 : Int) := by omega
        have i4 : ¬ (n2 : Int) ≤ (k : Int) := by omega
        have hst := cmpG_step (c := cmpI) (xs := xs) (ys := ys) (k := k) 0 (by have := HL1.out; omega) (by have := HL2.out; omega)
        rw [HX.out, HY.out] at hst
        by_cases hc : cmpI X Y = 0
        · rw [if_pos hc] at hst
          have HST := Lib.hid hst
          have HC := Lib.hid hc
          have t1 : ((0 : Int) != 0) = false := rfl
          clear hst hc
          go_wp2_with fail
          refine (compareI_any _ _ _).mono ?_
          rintro e w2 ⟨rfl, rfl⟩
          rw [HC.out]
          go_wp2
          go_round
          case rel => exact ⟨k + 1, by omega, by go_num, by omega, Lib.hid (by rw [HK.out, HST.out])⟩
          case measure => simp [intOf]; omega
        · rw [if_neg hc] at hst
          have HR : Hid (cmpI X Y = cmpL xs ys) := Lib.hid (by rw [HK.out, hst])
          obtain ⟨C, HC⟩ : ∃ C, Hid (cmpI X Y = C) := ⟨_, rfl⟩
          have t1 : (C != 0) = true := by rw [← HC.out]; simp [hc]
          clear hst hc
          go_wp2_with fail
          refine (compareI_any _ _ _).mono ?_
          rintro e w2 ⟨rfl, rfl⟩
          rw [HC.out]
          go_wp2
          go_ret
          exact ⟨ret_int (by rw [← HC.out, HR.out]), rfl⟩
      · have i4 : (n2 : Int) ≤ (k : Int) := by omega
        have HR : Hid (cmpL xs ys = 1) := Lib.hid (by rw [HK.out, cmpG_long (by have := HL1.out; omega) (by have := HL2.out; omega)])
        go_wp2
        go_ret
        exact ⟨ret_int HR.out.symm, rfl⟩
    · obtain rfl : n1 = k := by omega
      by_cases hlt2 : n1 < n2
      · have i3 : (n1 : Int) < (n2 : Int) := by omega
        have HR : Hid (cmpL xs ys = -1) := Lib.hid (by rw [HK.out, cmpG_short HL1.out (by have := HL2.out; omega)])
        go_wp2
        go_ret
        exact ⟨ret_int HR.out.symm, rfl⟩
      · have i3 : ¬ (n1 : Int) < (n2 : Int) := by omega
        have HR : Hid (cmpL xs ys = 0) := Lib.hid (by rw [HK.out, cmpG_even HL1.out (by have := HL2.out; omega)])
        go_wp2
        go_ret
        exact ⟨ret_int HR.out.symm, rfl⟩
theorem compareT1_any (a1 a2 : Option Addr) (n1 n2 c1 c2 : Nat) (xs ys : List Int) (w : World) (h1 : Row w a1 n1 xs) (h2 : Row w a2 n2 ys) (hm : n1 ≤ 9223372036854775807) :
    Calls Tryz.prog 136 #[.slice a1 n1 c1, .slice a2 n2 c2] w fun e w' => e = .returned (.int .i64 (cmpL xs ys)) ∧ w = w' := by
  have H := Lib.hid (compareR_any a1 a2 n1 n2 c1 c2 xs ys w h1 h2 hm)
  go_enter Tryz.func136, Tryz.ntmps136
  go_wp2_with fail
  refine H.out.mono ?_
  rintro e w2 ⟨rfl, rfl⟩
  go_wp2
  go_ret
  exact ⟨rfl, rfl⟩
set_option maxHeartbeats 4000000 in
theorem compareF_any (a1 a2 : Option Addr) (n1 n2 c1 c2 : Nat) (xss yss : List (List Int)) (w : World) (h1 : Tbl w a1 n1 xss) (h2 : Tbl w a2 n2 yss) (hm : n1 ≤ 9223372036854775807) :
    Calls Tryz.prog 135 #[.slice a1 n1 c1, .slice a2 n2 c2, .func (.func 136) #[] #[]] w fun e w' => e = .returned (.int .i64 (cmpT xss yss)) ∧ w = w' := by
  have HL1 := Lib.hid h1.len; have HL2 := Lib.hid h2.len
  go_enter Tryz.func135, Tryz.ntmps135
  go_wp2
  go_loop [7, 8, 9, 10, 13] (fun _ _ _ _ i => ∃ k : Nat, k ≤ n1 ∧ i = .int .i64 k ∧ (k ≤ n2) ∧ Hid (cmpT xss yss = cmpG cmpL (xss.drop k) (yss.drop k))) (fun _ _ _ _ i => n1 - (intOf i).toNat)
  case atStart => exact ⟨0, Nat.zero_le _, rfl, Nat.zero_le _, Lib.hid rfl⟩
  case round =>
    obtain ⟨k, hk, rfl, hk2, HK⟩ := hrel
    by_cases hlt : k < n1
    · obtain ⟨b1, o1, ax, nx, cx, rfl, g1, r1, l1⟩ := h1.at k hlt
      have i1 : (0 : Int) ≤ (k : Int) := by omega
      have i2 : (k : Int) < (n1 : Int) := by omega
      by_cases hlt2 : k < n2
      · obtain ⟨b2, o2, ay, ny, cy, rfl, g2, r2, l2⟩ := h2.at k hlt2
        have i3 : (k : Int) < (n2 : Int) := by omega
        have i4 : ¬ (n2 : Int) ≤ (k : Int) := by omega
        have hst := cmpG_step (c := cmpL) (xs := xss) (ys := yss) (k := k) [] (by have := HL1.out; omega) (by have := HL2.out; omega)
        by_cases hc : cmpL (xss.getD k []) (yss.getD k []) = 0
        · rw [if_pos hc] at hst
          have HST := Lib.hid hst
          have HC := Lib.hid hc
          have t1 : ((0 : Int) != 0) = false := rfl
          clear hst hc
          go_wp2_with fail
          refine (compareT1_any _ _ _ _ _ _ _ _ _ r1 r2 l1).mono ?_
          rintro e w2 ⟨rfl, rfl⟩
          rw [HC.out]
          go_wp2
          go_round
          case rel => exact ⟨k + 1, by omega, by go_num, by omega, Lib.hid (by rw [HK.out, HST.out])⟩
          case measure => simp [intOf]; omega
        · rw [if_neg hc] at hst
          obtain ⟨C, HC⟩ : ∃ C, Hid (cmpL (xss.getD k []) (yss.getD k []) = C) := ⟨_, rfl⟩
          have HR : Hid (C = cmpT xss yss) := Lib.hid (by rw [HK.out, hst, HC.out])
          have t1 : (C != 0) = true := by rw [← HC.out]; simpa using hc
          clear hst hc
          go_wp2_with fail
          refine (compareT1_any _ _ _ _ _ _ _ _ _ r1 r2 l1).mono ?_
          rintro e w2 ⟨rfl, rfl⟩
          rw [HC.out]
          go_wp2
          go_ret
          exact ⟨ret_int HR.out, rfl⟩
      · have i4 : (n2 : Int) ≤ (k : Int) := by omega
        have HR : Hid (cmpT xss yss = 1) := Lib.hid (by rw [HK.out, cmpG_long (by have := HL1.out; omega) (by have := HL2.out; omega)])
        go_wp2
        go_ret
        exact ⟨ret_int HR.out.symm, rfl⟩
    · obtain rfl : n1 = k := by omega
      by_cases hlt2 : n1 < n2
      · have i3 : (n1 : Int) < (n2 : Int) := by omega
        have HR : Hid (cmpT xss yss = -1) := Lib.hid (by rw [HK.out, cmpG_short HL1.out (by have := HL2.out; omega)])
        go_wp2
        go_ret
        exact ⟨ret_int HR.out.symm, rfl⟩
      · have i3 : ¬ (n1 : Int) < (n2 : Int) := by omega
        have HR : Hid (cmpT xss yss = 0) := Lib.hid (by rw [HK.out, cmpG_even HL1.out (by have := HL2.out; omega)])
        go_wp2
        go_ret
        exact ⟨ret_int HR.out.symm, rfl⟩
theorem compareTables_any (a1 a2 : Option Addr) (n1 n2 c1 c2 : Nat) (xss yss : List (List Int)) (w : World) (h1 : Tbl w a1 n1 xss) (h2 : Tbl w a2 n2 yss) (hm : n1 ≤ 9223372036854775807) :
    Calls Tryz.prog 97 #[.slice a1 n1 c1, .slice a2 n2 c2] w fun e w' => e = .returned (.int .i64 (cmpT xss yss)) ∧ w = w' := by
  have H := Lib.hid (compareF_any a1 a2 n1 n2 c1 c2 xss yss w h1 h2 hm)
  go_enter Tryz.func97, Tryz.ntmps97
  go_wp2_with fail
  refine H.out.mono ?_
  rintro e w2 ⟨rfl, rfl⟩
  go_wp2
  go_ret
  exact ⟨rfl, rfl⟩
theorem equalTables_any (a1 a2 : Option Addr) (n1 n2 c1 c2 : Nat) (xss yss : List (List Int)) (w : World) (h1 : Tbl w a1 n1 xss) (h2 : Tbl w a2 n2 yss) (hm : n1 ≤ 9223372036854775807) :
    Calls Tryz.prog 51 #[.slice a1 n1 c1, .slice a2 n2 c2] w fun e w' => e = .returned (.bool (decide (xss = yss))) ∧ w = w' := by
  have H := Lib.hid (compareTables_any a1 a2 n1 n2 c1 c2 xss yss w h1 h2 hm)
  have hq : decide (xss = yss) = (cmpT xss yss == 0) := by
    rw [Bool.eq_iff_iff]; simp [cmpT_eq]
  rw [hq]; clear hq
  obtain ⟨C, HC⟩ : ∃ C, Hid (cmpT xss yss = C) := ⟨_, rfl⟩
  rw [HC.out] at H ⊢
  go_enter Tryz.func51, Tryz.ntmps51
  go_wp2_with fail
  refine H.out.mono ?_
  rintro e w2 ⟨rfl, rfl⟩
  go_wp2
  go_ret
  exact ⟨rfl, rfl⟩
def TbS (w : World) (a : Option Addr) (n : Nat) (ts : List (List (List Int))) : Prop :=
  n = ts.length ∧ ∀ i, i < n → ∃ b off ai ni ci, a = some ⟨b, off, none⟩ ∧ b < w.heap.size ∧ w.cell? ⟨b, off + i, none⟩ = some (.slice ai ni ci) ∧ Tbl w ai ni (ts.getD i []) ∧ ni ≤ 9223372036854775807
theorem TbS.len {w : World} {a : Option Addr} {n : Nat} {ts : List (List (List Int))} (h : TbS w a n ts) : n = ts.length := h.1
theorem TbS.at {w : World} {a : Option Addr} {n : Nat} {ts : List (List (List Int))} (h : TbS w a n ts) (i : Nat) (hi : i < n) : ∃ b off ai ni ci, a = some ⟨b, off, none⟩ ∧ w.cell? ⟨b, off + i, none⟩ = some (.slice ai ni ci) ∧ Tbl w ai ni (ts.getD i []) ∧ ni ≤ 9223372036854775807 := by
  obtain ⟨b, off, ai, ni, ci, h1, _, h2⟩ := h.2 i hi; exact ⟨b, off, ai, ni, ci, h1, h2⟩
theorem TbS.below {w w' : World} {a : Option Addr} {n : Nat} {ts : List (List (List Int))} (h : TbS w a n ts) (hb : Below w.heap.size w w') : TbS w' a n ts :=
  ⟨h.1, fun i hi => by obtain ⟨b, off, ai, ni, ci, h1, h3, h2, h4, h5⟩ := h.2 i hi; exact ⟨b, off, ai, ni, ci, h1, Nat.lt_of_lt_of_le h3 hb.size, (hb.cell (p := ⟨b, off + i, none⟩) h3).trans h2, h4.below hb, h5⟩⟩
theorem TbS.drewN {w : World} {a : Option Addr} {n : Nat} {ts : List (List (List Int))} (h : TbS w a n ts) (k : Nat) : TbS (w.drewN k) a n ts := h
theorem TbS.alloc {w : World} {a : Option Addr} {n : Nat} {ts : List (List (List Int))} (h : TbS w a n ts) (o : Obj) : TbS (w.alloc o) a n ts := h.below ((Below.refl _ _).alloc (Nat.le_refl _) o)
def befT (r : Bool) : List (List Int) → List (List Int) → Bool
  | [], _ => r
  | _ :: _, [] => r
  | x :: t, y :: s => if cmpL x y = 0 then befT r t s else decide (cmpL x y < 0)
def befS : List (List (List Int)) → List (List (List Int)) → Bool
  | [], _ => false
  | _ :: _, [] => false
  | t :: us, s :: bs => befT (befS us bs) t s
theorem befT_step {r : Bool} {t s : List (List Int)} {k : Nat} (hx : k < t.length) (hy : k < s.length) : befT r (t.drop k) (s.drop k) = if cmpL (t.getD k []) (s.getD k []) = 0 then befT r (t.drop (k + 1)) (s.drop (k + 1)) else decide (cmpL (t.getD k []) (s.getD k []) < 0) := by
  rw [List.drop_eq_getElem_cons hx, List.drop_eq_getElem_cons hy]
  simp [befT, List.getD_eq_getElem?_getD, List.getElem?_eq_getElem hx, List.getElem?_eq_getElem hy]
theorem befT_end {r : Bool} {t s : List (List Int)} {k : Nat} (hx : t.length ≤ k) : befT r (t.drop k) (s.drop k) = r := by
  rw [List.drop_of_length_le hx]; cases s.drop k <;> rfl
theorem befS_step {us bs : List (List (List Int))} {k : Nat} (hx : k < us.length) (hy : k < bs.length) : befS (us.drop k) (bs.drop k) = befT (befS (us.drop (k + 1)) (bs.drop (k + 1))) (us.getD k []) (bs.getD k []) := by
  rw [List.drop_eq_getElem_cons hx, List.drop_eq_getElem_cons hy]
  simp [befS, List.getD_eq_getElem?_getD, List.getElem?_eq_getElem hx, List.getElem?_eq_getElem hy]
theorem befS_end {us bs : List (List (List Int))} {k : Nat} (hx : us.length ≤ k) : befS (us.drop k) (bs.drop k) = false := by
  rw [List.drop_of_length_le hx]; cases bs.drop k <;> rfl
set_option maxHeartbeats 4000000 in
theorem l01Less_any (a1 a2 : Option Addr) (n1 n2 c1 c2 : Nat) (xs ys : List Int) (w : World) (h1 : Row w a1 n1 xs) (h2 : Row w a2 n2 ys) (hm : n1 ≤ 9223372036854775807) :
    Calls Tryz.prog 141 #[.slice a1 n1 c1, .slice a2 n2 c2] w fun e w' => e = .returned (.bool (decide (cmpL xs ys < 0))) ∧ ∃ m, w' = w.drewN m := by
  have HL1 := Lib.hid h1.len; have HL2 := Lib.hid h2.len
  go_enter Tryz.func141, Tryz.ntmps141
  go_wp2
  go_loopw [5] (fun i wr => ∃ k : Nat, k ≤ n1 ∧ i = .int .i64 k ∧ (k ≤ n2) ∧ Hid (cmpL xs ys = cmpG cmpI (xs.drop k) (ys.drop k)) ∧ Hid (∃ m, wr = w.drewN m)) (fun i _ => n1 - (intOf i).toNat)
  case atStart => exact ⟨0, Nat.zero_le _, rfl, Nat.zero_le _, Lib.hid rfl, Lib.hid ⟨0, rfl⟩⟩
  case round =>
    obtain ⟨k, hk, rfl, hk2, HK, HW⟩ := hrel
    by_cases hlt : k < n1
    · have i2 : (k : Int) < (n1 : Int) := by omega
      by_cases hlt2 : k < n2
      · have h1r : Row wr a1 n1 xs := by obtain ⟨m, hm⟩ := HW.out; rw [hm]; exact h1.drewN m
        have h2r : Row wr a2 n2 ys := by obtain ⟨m, hm⟩ := HW.out; rw [hm]; exact h2.drewN m
        obtain ⟨b1, o1, rfl, g1⟩ := h1r.at k hlt
        obtain ⟨X, HX⟩ : ∃ X, Hid (xs.getD k 0 = X) := ⟨_, rfl⟩
        rw [HX.out] at g1
        have i1 : (0 : Int) ≤ (k : Int) := by omega
        obtain ⟨b2, o2, rfl, g2⟩ := h2r.at k hlt2
        obtain ⟨Y, HY⟩ : ∃ Y, Hid (ys.getD k 0 = Y) := ⟨_, rfl⟩
        rw [HY.out] at g2
        have i3 : (k : Int) < (n2 : Int) := by omega
        have hst := cmpG_step (c := cmpI) (xs := xs) (ys := ys) (k := k) 0 (by have := HL1.out; omega) (by have := HL2.out; omega)
        rw [HX.out, HY.out] at hst
        clear h1r h2r
        by_cases hc : X = Y
        · subst hc
          rw [if_pos (cmpI_eq.2 rfl)] at hst
          have HST := Lib.hid hst
          have t1 : (X != X) = false := by simp
          clear hst
          go_wp2
          go_quiet (fail)
          go_wp2
          go_roundw
          case rel => exact ⟨k + 1, by omega, by go_num, by omega, Lib.hid (by rw [HK.out, HST.out]), Lib.hid (by obtain ⟨m, hm⟩ := HW.out; exact ⟨m + nq, by rw [hm, World.drewN_drewN]⟩)⟩
          case measure => simp [intOf]; omega
        · have hne : ¬ cmpI X Y = 0 := fun e => hc (cmpI_eq.1 e)
          rw [if_neg hne] at hst
          have HR : Hid (decide (X < Y) = decide (cmpL xs ys < 0)) := Lib.hid (by
            rw [HK.out, hst]
            unfold cmpI
            by_cases hl : X < Y
            · rw [if_pos hl]; simp [hl]
            · rw [if_neg hl, if_pos (by omega)]; simp [hl])
          have t1 : (X != Y) = true := by simp [hc]
          clear hst hne
          go_wp2
          go_quiet (fail)
          go_wp2
          go_quiet (fail)
          go_wp2
          go_ret
          exact ⟨ret_bool HR.out, by obtain ⟨m, hm⟩ := HW.out; exact ⟨_, by rw [hm, World.drewN_drewN, World.drewN_drewN]⟩⟩
      · have i4 : ¬ (k : Int) < (n2 : Int) := by omega
        obtain rfl : k = n2 := by omega
        have HR : Hid (decide (n1 < k) = decide (cmpL xs ys < 0)) := Lib.hid (by
          rw [HK.out, cmpG_long (by have := HL1.out; omega) (by have := HL2.out; omega)]; simp; omega)
        go_wp2
        go_ret
        exact ⟨ret_bool HR.out, HW.out⟩
    · obtain rfl : n1 = k := by omega
      have HR : Hid (decide (n1 < n2) = decide (cmpL xs ys < 0)) := Lib.hid (by
        rw [HK.out]
        by_cases hl : n1 < n2
        · rw [cmpG_short HL1.out (by have := HL2.out; omega)]; simp; omega
        · rw [cmpG_even HL1.out (by have := HL2.out; omega)]; simp; omega)
      go_wp2
      go_ret
      exact ⟨ret_bool HR.out, HW.out⟩
set_option maxHeartbeats 8000000 in
theorem l03Before_any (a1 a2 : Option Addr) (m1 m2 c1 c2 : Nat) (us bs : List (List (List Int))) (w : World) (h1 : TbS w a1 m1 us) (h2 : TbS w a2 m2 bs) (hm : m1 ≤ m2) (hm2 : m2 ≤ 1000000000) (hl : ∀ k, k < m1 → (us.getD k []).length ≤ (bs.getD k []).length) :
    Calls Tryz.prog 109 #[.slice a1 m1 c1, .slice a2 m2 c2] w fun e w' => e = .returned (.bool (befS us bs)) ∧ ∃ m, w' = w.drewN m := by
  have HL1 := Lib.hid h1.len; have HL2 := Lib.hid h2.len; have HL := Lib.hid hl
  clear hl
  go_enter Tryz.func109, Tryz.ntmps109
  go_wp2
  go_loopw [5, 6] (fun i _ wr => ∃ k : Nat, k ≤ m1 ∧ i = .int .i64 k ∧ Hid (befS us bs = befS (us.drop k) (bs.drop k)) ∧ Hid (∃ m, wr = w.drewN m)) (fun i _ _ => m1 - (intOf i).toNat)
  case atStart => exact ⟨0, Nat.zero_le _, rfl, Lib.hid rfl, Lib.hid ⟨0, rfl⟩⟩
  case round =>
    obtain ⟨k, hk, rfl, HK, HW⟩ := hrel
    by_cases hlt : k < m1
    · have hstep := befS_step (us := us) (bs := bs) (k := k) (by have := HL1.out; omega) (by have := HL2.out; omega)
      obtain ⟨r, HR⟩ : ∃ r, Hid (befS (us.drop (k + 1)) (bs.drop (k + 1)) = r) := ⟨_, rfl⟩
      rw [HR.out] at hstep
      have HKT : Hid (befS us bs = befT r (us.getD k []) (bs.getD k [])) := Lib.hid (by rw [HK.out, hstep])
      have hll := HL.out k hlt
      obtain ⟨t, HT⟩ : ∃ t, Hid (us.getD k [] = t) := ⟨_, rfl⟩
      obtain ⟨s, HS⟩ : ∃ s, Hid (bs.getD k [] = s) := ⟨_, rfl⟩
      rw [HT.out, HS.out] at HKT hll
      have HLL := Lib.hid hll
      have i1 : (0 : Int) ≤ (k : Int) := by omega
      have i2 : (k : Int) < (m1 : Int) := by omega
      have i3 : (k : Int) < (m2 : Int) := by omega
      clear hstep hll
      go_wp2
      go_loopw [6] (fun i wr2 => ∃ x : Nat, x ≤ t.length ∧ i = .int .i64 x ∧ Hid (befS us bs = befT r (t.drop x) (s.drop x)) ∧ Hid (∃ m, wr2 = w.drewN m)) (fun i _ => t.length - (intOf i).toNat)
      case atStart => exact ⟨0, Nat.zero_le _, rfl, HKT, HW⟩
      case round =>
        obtain ⟨x, hx, rfl, HX, HW2⟩ := hrel
        have h1r : TbS wr a1 m1 us := by obtain ⟨m, hm⟩ := HW2.out; rw [hm]; exact h1.drewN m
        have h2r : TbS wr a2 m2 bs := by obtain ⟨m, hm⟩ := HW2.out; rw [hm]; exact h2.drewN m
        obtain ⟨b1, o1, ax, nx, cx, rfl, g1, t1, l1⟩ := h1r.at k hlt
        obtain ⟨b2, o2, ay, ny, cy, rfl, g2, t2, l2⟩ := h2r.at k (by omega)
        rw [HT.out] at t1
        rw [HS.out] at t2
        have hnx := t1.len
        have hny := t2.len
        by_cases hlx : x < t.length
        · obtain ⟨b3, o3, a3, n3, c3, rfl, g3, r3, l3⟩ := t1.at x (by omega)
          obtain ⟨b4, o4, a4, n4, c4, rfl, g4, r4, l4⟩ := t2.at x (by have := HLL.out; omega)
          have j1 : (0 : Int) ≤ (x : Int) := by omega
          have j2 : (x : Int) < (nx : Int) := by omega
          have j3 : (x : Int) < (ny : Int) := by have := HLL.out; omega
          have hst := befT_step (r := r) (t := t) (s := s) (k := x) hlx (by have := HLL.out; omega)
          obtain ⟨X, HXX⟩ : ∃ X, Hid (t.getD x [] = X) := ⟨_, rfl⟩
          obtain ⟨Y, HYY⟩ : ∃ Y, Hid (s.getD x [] = Y) := ⟨_, rfl⟩
          rw [HXX.out, HYY.out] at hst
          rw [HXX.out] at r3
          rw [HYY.out] at r4
          have HNX := Lib.hid hnx
          clear h1r h2r t1 t2 hny hnx
          by_cases hc : X = Y
          · subst hc
            rw [if_pos ((cmpL_eq X X).2 rfl)] at hst
            have HST := Lib.hid hst
            have HD : Hid (decide (X = X) = true) := Lib.hid (by simp)
            clear hst
            have HSA : Hid (∀ m, Calls Tryz.prog 110 #[.slice a3 n3 c3, .slice a4 n4 c4] (wr.drewN m) fun e w'' => e = .returned (.bool true) ∧ ∃ k, w'' = wr.drewN k) := Lib.hid fun m => (l01Same_any a3 a4 n3 n4 c3 c4 X X (wr.drewN m) (r3.drewN m) (r4.drewN m) l3).mono fun e w'' ⟨he, k, hk⟩ => ⟨by rw [he, HD.out], m + k, by rw [hk, World.drewN_drewN]⟩
            go_wp2
            go_quiet ((go_at_call 110; exact HSA.out _))
            go_wp2
            go_roundw
            case rel => exact ⟨x + 1, by omega, by go_num, Lib.hid (by rw [HX.out, HST.out]), Lib.hid (by obtain ⟨m, hm⟩ := HW2.out; exact ⟨m + nq, by rw [hm, World.drewN_drewN]⟩)⟩
            case measure => simp [intOf]; omega
          · have hne : ¬ cmpL X Y = 0 := fun e => hc ((cmpL_eq _ _).1 e)
            rw [if_neg hne] at hst
            have HR2 : Hid (decide (cmpL X Y < 0) = befS us bs) := Lib.hid (by rw [HX.out, hst])
            obtain ⟨D, HDD⟩ : ∃ D, Hid (decide (cmpL X Y < 0) = D) := ⟨_, rfl⟩
            have HD : Hid (decide (X = Y) = false) := Lib.hid (by simp [hc])
            clear hst hne
            have HSA : Hid (∀ m, Calls Tryz.prog 110 #[.slice a3 n3 c3, .slice a4 n4 c4] (wr.drewN m) fun e w'' => e = .returned (.bool false) ∧ ∃ k, w'' = wr.drewN k) := Lib.hid fun m => (l01Same_any a3 a4 n3 n4 c3 c4 X Y (wr.drewN m) (r3.drewN m) (r4.drewN m) l3).mono fun e w'' ⟨he, k, hk⟩ => ⟨by rw [he, HD.out], m + k, by rw [hk, World.drewN_drewN]⟩
            go_wp2
            go_quiet ((go_at_call 110; exact HSA.out _))
            obtain ⟨wq, hwq⟩ : ∃ wq, wr.drewN nq = wq := ⟨_, rfl⟩
            have HSB : Hid (∀ m, Calls Tryz.prog 141 #[.slice a3 n3 c3, .slice a4 n4 c4] (wq.drewN m) fun e w'' => e = .returned (.bool D) ∧ ∃ k, w'' = wq.drewN k) := Lib.hid fun m => (l01Less_any a3 a4 n3 n4 c3 c4 X Y (wq.drewN m) (by rw [← hwq]; exact (r3.drewN nq).drewN m) (by rw [← hwq]; exact (r4.drewN nq).drewN m) l3).mono fun e w'' ⟨he, k, hk⟩ => ⟨by rw [he, HDD.out], m + k, by rw [hk, World.drewN_drewN]⟩
            have q1 : (wr.drewN nq).cell? _ = _ := g1
            have q2 : (wr.drewN nq).cell? _ = _ := g2
            have q3 : (wr.drewN nq).cell? _ = _ := g3
            have q4 : (wr.drewN nq).cell? _ = _ := g4
            have HWQ := Lib.hid hwq
            rw [hwq] at q1 q2 q3 q4
            rw [hwq]
            clear hwq g1 g2 g3 g4
            go_wp2
            go_quiet ((go_at_call 141; exact HSB.out _))
            go_wp2
            go_ret
            exact ⟨ret_bool (by rw [← HDD.out, HR2.out]), by obtain ⟨m, hm⟩ := HW2.out; exact ⟨_, by rw [← HWQ.out, hm, World.drewN_drewN, World.drewN_drewN]⟩⟩
        · obtain rfl : t.length = x := by omega
          have HE : Hid (befS us bs = r) := Lib.hid (by rw [HX.out, befT_end (Nat.le_refl _)])
          have j2 : ¬ (t.length : Int) < (nx : Int) := by omega
          clear h1r h2r t1 t2 hny
          go_wp2
          go_roundw
          case rel => exact ⟨k + 1, by omega, by go_num, Lib.hid (by rw [HE.out, HR.out]), HW2⟩
          case measure => simp [intOf]; omega
    · obtain rfl : m1 = k := by omega
      have HE : Hid (befS us bs = false) := Lib.hid (by rw [HK.out, befS_end (by have := HL1.out; omega)])
      go_wp2
      go_ret
      exact ⟨ret_bool HE.out.symm, HW.out⟩
end Go.Proofs.YtaddclaadbjnlaaGreat
