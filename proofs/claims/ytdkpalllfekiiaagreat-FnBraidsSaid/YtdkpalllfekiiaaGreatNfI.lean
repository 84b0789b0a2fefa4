/-
  The program's normal form of a braid.
  No condition but bounds.
-/
import Derived.Test.YtdkpalllfekiiaaGreatSldI
import Derived.Test.YtdkpalllfekiiaaGreatBase
import Derived.Test.YtdkpalllfekiiaaGreatDfrI
namespace Go.Proofs.YtdkpalllfekiiaaGreat
set_option maxRecDepth 100000
set_option linter.unusedVariables false
set_option linter.unusedSimpArgs false
open Go.RowKit

theorem beg_succ {n : Nat} {s : Stt} {xs : List Int} {k : Nat} (h : k < xs.length) : begS n s (xs.take (k + 1)) = actS n (begS n s (xs.take k)) xs[k] := by
  unfold begS
  rw [List.take_succ_eq_append_getElem h, List.foldl_append]; rfl
theorem act_pos {n : Nat} {e : Int} {L : List Pm} {x : Int} (h : 0 < x) : actS n (e, L) x = (e, L ++ [Pm.s (plN x)]) := by unfold actS; rw [if_pos h]
theorem act_neg {n : Nat} {e : Int} {L : List Pm} {x : Int} (h : ¬ 0 < x) : actS n (e, L) x = (e - 1, L.map (tauP n) ++ [(Pm.tw n).m (Pm.s (plN x))]) := by unfold actS; rw [if_neg h]
/-- some of the permutations are turned -/
def turnK (n : Nat) (L : List Pm) (i : Nat) : List Pm := (L.take i).map (tauP n) ++ L.drop i
theorem turnK_get {n : Nat} {L : List Pm} {i : Nat} (h : i < L.length) : (turnK n L i).getD i Pm.one = L.getD i Pm.one := by
  unfold turnK
  have hl : ((L.take i).map (tauP n)).length = i := by simp; omega
  rw [List.getD_eq_getElem?_getD, List.getElem?_append_right (by omega), hl, Nat.sub_self, List.getElem?_drop, Nat.add_zero, List.getD_eq_getElem?_getD]
theorem turnK_set {n : Nat} {L : List Pm} {i : Nat} (h : i < L.length) : (turnK n L i).set i (tauP n (L.getD i Pm.one)) = turnK n L (i + 1) := by
  unfold turnK
  have hl : ((L.take i).map (tauP n)).length = i := by simp; omega
  rw [List.set_append_right _ _ (by omega), hl, Nat.sub_self, List.drop_eq_getElem_cons h, List.set_cons_zero, List.take_succ_eq_append_getElem h, List.map_append, List.append_assoc, List.getD_eq_getElem?_getD, List.getElem?_eq_getElem h]; rfl
theorem turnK_all {n : Nat} {L : List Pm} : turnK n L L.length = L.map (tauP n) := by unfold turnK; rw [List.take_length, List.drop_length, List.append_nil]
theorem chn_of : ∀ (Y : List Pm), (∀ j, j + 1 < Y.length → ∀ k, St (Y.getD (j + 1) Pm.one) k → En (Y.getD j Pm.one) k) → Chn Y := by
  intro Y
  induction Y with
  | nil => intro _; trivial
  | cons a Y ih =>
    intro h
    match Y, ih, h with
    | [], _, _ => trivial
    | b :: R, ih, h => exact ⟨fun k hk => h 0 (by simp) k hk, ih fun j hj k hk => h (j + 1) (by simpa using hj) k hk⟩
/-- two neighbours of a list are others -/
theorem star_at {Y : List Pm} {i : Nat} (h : i + 1 < Y.length) {p q : Pm} (hs : Star [Y.getD i Pm.one, Y.getD (i + 1) Pm.one] [p, q]) : Star Y ((Y.set i p).set (i + 1) q) := by
  have e1 : Y = Y.take i ++ [Y.getD i Pm.one, Y.getD (i + 1) Pm.one] ++ Y.drop (i + 2) := by
    have h1 : Y.getD i Pm.one = Y[i] := by simp [List.getD_eq_getElem?_getD, List.getElem?_eq_getElem (show i < Y.length by omega)]
    have h2 : Y.getD (i + 1) Pm.one = Y[i + 1] := by simp [List.getD_eq_getElem?_getD, List.getElem?_eq_getElem h]
    rw [h1, h2]
    conv => lhs; rw [← List.take_append_drop i Y, List.drop_eq_getElem_cons (show i < Y.length by omega), List.drop_eq_getElem_cons h]
    simp
  have e2 : (Y.set i p).set (i + 1) q = Y.take i ++ [p, q] ++ Y.drop (i + 2) := by
    have hl : (Y.take i).length = i := by simp; omega
    have h1 : (Y.take i ++ [Y.getD i Pm.one, Y.getD (i + 1) Pm.one] ++ Y.drop (i + 2)).set i p = Y.take i ++ [p, Y.getD (i + 1) Pm.one] ++ Y.drop (i + 2) := by
      rw [List.append_assoc, List.set_append_right _ _ (by omega), hl, Nat.sub_self]; simp
    have h2 : (Y.take i ++ [p, Y.getD (i + 1) Pm.one] ++ Y.drop (i + 2)).set (i + 1) q = Y.take i ++ [p, q] ++ Y.drop (i + 2) := by
      rw [List.append_assoc, List.set_append_right _ _ (by omega), hl, show i + 1 - i = 1 by omega]; simp
    conv => lhs; rw [e1]
    rw [h1, h2]
  rw [e2]
  conv => lhs; rw [e1]
  exact hs.ctx _ _
theorem val_at {n : Nat} {Y : List Pm} {i : Nat} (h : i + 1 < Y.length) {p q : Pm} (hv : val n [p, q] < val n [Y.getD i Pm.one, Y.getD (i + 1) Pm.one]) : val n ((Y.set i p).set (i + 1) q) < val n Y := by
  have e1 : Y = Y.take i ++ ([Y.getD i Pm.one, Y.getD (i + 1) Pm.one] ++ Y.drop (i + 2)) := by
    have h1 : Y.getD i Pm.one = Y[i] := by simp [List.getD_eq_getElem?_getD, List.getElem?_eq_getElem (show i < Y.length by omega)]
    have h2 : Y.getD (i + 1) Pm.one = Y[i + 1] := by simp [List.getD_eq_getElem?_getD, List.getElem?_eq_getElem h]
    rw [h1, h2]
    conv => lhs; rw [← List.take_append_drop i Y, List.drop_eq_getElem_cons (show i < Y.length by omega), List.drop_eq_getElem_cons h]
    simp
  have e2 : (Y.set i p).set (i + 1) q = Y.take i ++ ([p, q] ++ Y.drop (i + 2)) := by
    have hl : (Y.take i).length = i := by simp; omega
    have h1 : (Y.take i ++ ([Y.getD i Pm.one, Y.getD (i + 1) Pm.one] ++ Y.drop (i + 2))).set i p = Y.take i ++ ([p, Y.getD (i + 1) Pm.one] ++ Y.drop (i + 2)) := by
      rw [List.set_append_right _ _ (by omega), hl, Nat.sub_self]; simp
    have h2 : (Y.take i ++ ([p, Y.getD (i + 1) Pm.one] ++ Y.drop (i + 2))).set (i + 1) q = Y.take i ++ ([p, q] ++ Y.drop (i + 2)) := by
      rw [List.set_append_right _ _ (by omega), hl, show i + 1 - i = 1 by omega]; simp
    conv => lhs; rw [e1]
    rw [h1, h2]
  rw [e2]
  conv => rhs; rw [e1]
  rw [val_app, val_app, val_app, val_app]
  have hl : ([p, q] ++ Y.drop (i + 2)).length = ([Y.getD i Pm.one, Y.getD (i + 1) Pm.one] ++ Y.drop (i + 2)).length := by simp
  rw [hl]
  have hp : 0 < (n * (n * n) + 1) ^ (Y.drop (i + 2)).length := Nat.pow_pos (by omega)
  have := Nat.mul_lt_mul_of_pos_right hv hp
  omega

theorem FRow.set {n : Nat} {w : World} {u : SV} {q : Pm} {g i : Nat} {x : Value} (hu : FRow n w u q) (hne : u.1 ≠ some ⟨g, 0, none⟩) : FRow n (w.setCell ⟨g, i, none⟩ x) u q :=
  ⟨hu.own.keep fun b hb hlt => Below.heap_setCell _ _ _ _ (fun e => hne (by rw [hb, e])), hu.len, hu.fx⟩
theorem Fac.set2 {n : Nat} {w : World} {lo g m c i j : Nat} {vs : List SV} {Y : List Pm} {v u : SV} {p q : Pm} (h : Fac n w lo (some ⟨g, 0, none⟩) m c vs Y) (hi : i < m) (hj : j < m) (hv : FRow n w v p) (hu : FRow n w u q) (h1 : v.1 ≠ some ⟨g, 0, none⟩) (h2 : u.1 ≠ some ⟨g, 0, none⟩) :
    Fac n ((w.setCell ⟨g, i, none⟩ (sl v)).setCell ⟨g, j, none⟩ (sl u)) lo (some ⟨g, 0, none⟩) m c ((vs.set i v).set j u) ((Y.set i p).set j q) := (h.set hi hv h1).set hj (hu.set h2) h2
theorem set_same {Y : List Pm} {i : Nat} : Y.set i (Y.getD i Pm.one) = Y := by
  apply List.ext_getElem (by simp)
  intro j h1 h2
  rw [List.getElem_set]
  split
  · rename_i e; subst e; simp [List.getD_eq_getElem?_getD, List.getElem?_eq_getElem h2]
  · rfl
theorem Nw.ne {w : World} {a a' : Option Addr} {g : Nat} (h : Nw w a a') (hg : g < w.heap.size) (hne : a ≠ some ⟨g, 0, none⟩) : a' ≠ some ⟨g, 0, none⟩ := fun e => by
  rcases h with h | h
  · rw [h] at e; exact hne e
  · have := h g e; omega
theorem inc_toL {n : Nat} {p : Pm} (hp : Fx n p) : incOk (toL n p) = decide (toL n p = toL n Pm.one) := by
  rw [Bool.eq_iff_iff, decide_eq_true_iff]
  constructor
  · intro h
    have : p = Pm.one := asc_one hp fun k hk hs => by
      have h1 := allN_get h (show k < (toL n p).length - 1 by rw [toL_len]; omega)
      have h2 := of_decide_eq_true h1
      rw [toL_get (by omega), toL_get hk] at h2
      unfold St at hs; omega
    rw [this]
  · intro h
    have : p = Pm.one := toL_inj hp (Fx.one n) h
    subst this
    refine List.all_eq_true.2 fun i hi => ?_
    have hi' := List.mem_range.1 hi
    rw [toL_len] at hi'
    refine decide_eq_true ?_
    rw [toL_get (by omega), toL_get (by omega)]
    show ((i : Nat) : Int) < ((i + 1 : Nat) : Int)
    omega
theorem chn_drop : ∀ (d : Nat) (Z : List Pm), Chn Z → Chn (Z.drop d) := by
  intro d
  induction d with
  | zero => intro Z h; exact h
  | succ d ih =>
    intro Z h
    match Z, h with
    | [], _ => trivial
    | z :: Z, h => rw [List.drop_succ_cons]; exact ih Z (chn_tail h)
theorem chn_later {n : Nat} {Y : List Pm} (hA : AFx n Y) (hC : Chn Y) {a k : Nat} (ha : Y.getD a Pm.one = Pm.one) (hak : a ≤ k) (hk : k < Y.length) : Y.getD k Pm.one = Pm.one := by
  have hg : ∀ i (hi : i < Y.length), Y.getD i Pm.one = Y[i] := fun i hi => by simp [List.getD_eq_getElem?_getD, List.getElem?_eq_getElem hi]
  rw [hg a (by omega)] at ha
  rw [hg k hk]
  have h8 := chn_drop a _ hC
  rw [List.drop_eq_getElem_cons (show a < Y.length by omega), ha] at h8
  by_cases e1 : k = a
  · subst e1; exact ha
  · refine chn_one (n := n) (fun q hq => hA q (List.mem_of_mem_drop hq)) h8 _ ?_
    rw [List.mem_iff_getElem]
    refine ⟨k - (a + 1), by simp; omega, ?_⟩
    rw [List.getElem_drop]; congr 1; omega
theorem first_ex (P : Nat → Bool) : ∀ n : Nat, ∃ j, j ≤ n ∧ (∀ i, i < j → P i = false) ∧ (j < n → P j = true) := by
  intro n
  induction n with
  | zero => exact ⟨0, Nat.le_refl _, fun i h => absurd h (by omega), fun h => absurd h (by omega)⟩
  | succ n ih =>
    obtain ⟨j, h1, h2, h3⟩ := ih
    by_cases e : j < n
    · exact ⟨j, by omega, h2, fun _ => h3 e⟩
    · cases hp : P n with
      | true => exact ⟨n, by omega, fun i hi => h2 i (by omega), fun _ => hp⟩
      | false => exact ⟨n + 1, by omega, fun i hi => by
          by_cases e2 : i < n
          · exact h2 i (by omega)
          · rw [show i = n by omega]; exact hp, fun h => absurd h (by omega)⟩
theorem tst_id : TstW 63 incOk := ⟨fun _ _ => rfl, fun w a n c xs h hn => isIdentity_any a n c xs w h hn⟩
set_option maxHeartbeats 1000000 in
theorem deleteNil_any (F : FuncId) (p : List Int → Bool) (w : World) (hf : TstW F p) :
    Calls Tryz.prog 62 #[.slice none 0 0, .func (.func F) #[] #[]] w fun e w' => e = .returned (.slice none 0 0) ∧ Below w.heap.size w w' := by
  have HI := Lib.hid (indexRows_any F p none 0 0 [] w ⟨rfl, fun i h => absurd h (by omega)⟩ (by omega) (fun i h => absurd h (by omega)) hf)
  have EG := hf.1
  clear hf
  go_enter Tryz.func62, Tryz.ntmps62
  go_wp2_with fail
  refine HI.out.mono ?_
  rintro e w1 ⟨⟨r, rfl, hr⟩, hb1⟩
  rcases hr with ⟨k, hk, _⟩ | ⟨rfl, hall⟩
  · omega
  · go_wp2
    go_ret
    exact ⟨rfl, hb1⟩
/-- what is left out of a normal list -/
theorem strip_eq {n : Nat} {Y : List Pm} {e : Int} {o j : Nat} (hA : AFx n Y) (hC : Chn Y) (ho : o + j ≤ Y.length)
    (h1 : ∀ i, i < o → (Y.map (toL n)).getD i [] = toL n (Pm.tw n)) (h3 : o < Y.length → (Y.map (toL n)).getD o [] ≠ toL n (Pm.tw n))
    (h4 : ∀ i, i < j → (Y.map (toL n)).getD (o + i) [] ≠ toL n Pm.one) (h5 : o + j < Y.length → (Y.map (toL n)).getD (o + j) [] = toL n Pm.one) :
    stripL n e (Y.map (toL n)) = (e + (o : Nat), ((Y.map (toL n)).drop o).take j) := by
  obtain ⟨F, hF⟩ : ∃ F, F = Y.map (toL n) := ⟨_, rfl⟩
  have hFl : F.length = Y.length := by rw [hF]; simp
  have key : ∀ k, o + j ≤ k → k < Y.length → F.getD k [] = toL n Pm.one := by
    intro k hk hkl
    have h6 := h5 (by omega)
    have hg : ∀ i (hi : i < Y.length), (Y.map (toL n)).getD i [] = toL n Y[i] := fun i hi => by simp [List.getD_eq_getElem?_getD, List.getElem?_eq_getElem hi]
    rw [hg _ (by omega)] at h6
    have h7 : Y[o + j]'(by omega) = Pm.one := toL_inj (hA _ (List.getElem_mem _)) (Fx.one n) h6
    have h8 : Chn (Y.drop (o + j)) := by
      have : ∀ (d : Nat) (Z : List Pm), Chn Z → Chn (Z.drop d) := by
        intro d
        induction d with
        | zero => intro Z h; exact h
        | succ d ih =>
          intro Z h
          match Z, h with
          | [], _ => trivial
          | z :: Z, h => rw [List.drop_succ_cons]; exact ih Z (chn_tail h)
      exact this _ _ hC
    rw [List.drop_eq_getElem_cons (by omega), h7] at h8
    rw [hF, hg _ hkl]
    by_cases e1 : k = o + j
    · subst e1; rw [h7]
    · have : Y[k] = Pm.one := chn_one (n := n) (fun q hq => hA q (List.mem_of_mem_drop hq)) h8 _ (by
        rw [List.mem_iff_getElem]
        refine ⟨k - (o + j + 1), by simp; omega, ?_⟩
        rw [List.getElem_drop]; congr 1; omega)
      rw [this]
  have hsplit : F = F.take o ++ F.drop o := (List.take_append_drop o F).symm
  have t1 : ∀ x ∈ F.take o, decide (x = toL n (Pm.tw n)) = true := fun x hx => by
    obtain ⟨i, hi, rfl⟩ := List.getElem_of_mem hx
    have hi' : i < o ∧ i < F.length := by simp only [List.length_take] at hi; omega
    have := h1 i hi'.1
    rw [← hF, List.getD_eq_getElem?_getD, List.getElem?_eq_getElem hi'.2, Option.getD_some] at this
    rw [List.getElem_take]; simp [this]
  have t2 : ∀ G : List (List Int), (∀ x ∈ G, decide (x = toL n (Pm.tw n)) = true) → ∀ R : List (List Int), ((G ++ R).takeWhile fun p => decide (p = toL n (Pm.tw n))) = G ++ (R.takeWhile fun p => decide (p = toL n (Pm.tw n))) ∧ ((G ++ R).dropWhile fun p => decide (p = toL n (Pm.tw n))) = (R.dropWhile fun p => decide (p = toL n (Pm.tw n))) := by
    intro G
    induction G with
    | nil => intro _ R; exact ⟨rfl, rfl⟩
    | cons x G ih =>
      intro h R
      have hx := h x (by simp)
      obtain ⟨i1, i2⟩ := ih (fun y hy => h y (by simp [hy])) R
      rw [List.cons_append, List.takeWhile_cons, List.dropWhile_cons, if_pos hx, if_pos hx, i1, i2]
      exact ⟨rfl, rfl⟩
  have t3 : ((F.drop o).takeWhile fun p => decide (p = toL n (Pm.tw n))) = [] ∧ ((F.drop o).dropWhile fun p => decide (p = toL n (Pm.tw n))) = F.drop o := by
    rcases Nat.lt_or_ge o F.length with h | h
    · have := h3 (by omega)
      rw [← hF, List.getD_eq_getElem?_getD, List.getElem?_eq_getElem h, Option.getD_some] at this
      rw [List.drop_eq_getElem_cons h, List.takeWhile_cons, List.dropWhile_cons, if_neg (by simpa using this), if_neg (by simpa using this)]
      exact ⟨rfl, rfl⟩
    · rw [List.drop_of_length_le h]; exact ⟨rfl, rfl⟩
  obtain ⟨a1, a2⟩ := t2 (F.take o) t1 (F.drop o)
  rw [← hsplit, t3.1] at a1
  rw [← hsplit, t3.2] at a2
  rw [← hF]
  unfold stripL
  rw [a1, a2]
  refine Prod.ext ?_ ?_
  · show e + ((F.take o ++ []).length : Nat) = _
    rw [List.append_nil, List.length_take, Nat.min_eq_left (by omega)]
  · show (F.drop o).filter _ = _
    have hs2 : F.drop o = (F.drop o).take j ++ (F.drop o).drop j := (List.take_append_drop j _).symm
    conv => lhs; rw [hs2]
    rw [List.filter_append]
    have f1 : ((F.drop o).take j).filter (fun p => !decide (p = toL n Pm.one)) = (F.drop o).take j := by
      rw [List.filter_eq_self]
      intro x hx
      obtain ⟨i, hi, rfl⟩ := List.getElem_of_mem hx
      have hi' : i < j ∧ i < F.length - o := by simp only [List.length_take, List.length_drop] at hi; omega
      have := h4 i hi'.1
      rw [← hF, List.getD_eq_getElem?_getD, List.getElem?_eq_getElem (show o + i < F.length by omega), Option.getD_some] at this
      rw [List.getElem_take, List.getElem_drop]
      simpa using this
    have f2 : ((F.drop o).drop j).filter (fun p => !decide (p = toL n Pm.one)) = [] := by
      rw [List.filter_eq_nil_iff]
      intro x hx
      obtain ⟨i, hi, rfl⟩ := List.getElem_of_mem hx
      have hi' : i < F.length - o - j := by simp only [List.length_drop] at hi; omega
      have := key (o + j + i) (by omega) (by omega)
      rw [List.getD_eq_getElem?_getD, List.getElem?_eq_getElem (show o + j + i < F.length by omega), Option.getD_some] at this
      rw [List.getElem_drop, List.getElem_drop]
      have e9 : o + (j + i) = o + j + i := by omega
      simp only [e9, this]; simp
    rw [f1, f2, List.append_nil]
/-- what the normal form's call leaves -/
def NfR (n : Nat) (xs : List Int) (w : World) (e : Ending) (w' : World) : Prop :=
  ∃ (x : Int) (a : Option Addr) (m c : Nat) (F : List (List Int)), e = .returned (.tuple #[.int .i64 x, .slice a m c]) ∧ NFo n (begS n (0, []) xs) (x, F) ∧ Tbl w' a m F ∧ Below w.heap.size w w' ∧ -100 ≤ x ∧ x ≤ 100 ∧ m ≤ 30 ∧ ∀ y ∈ F, y.length = n

set_option maxHeartbeats 16000000 in
theorem normalForm_any (n : Nat) (a : Option Addr) (N c : Nat) (xs : List Int) (w : World) (h1 : Row w a N xs) (hb : isBr n xs = true) :
    Calls Tryz.prog 29 #[bAgg n a N c] w (NfR n xs w) := by
  obtain ⟨h26, h30, hlet⟩ := isBr_let hb
  have hn2 : 2 ≤ n := by omega
  have hn6 : n ≤ 6 := by omega
  have hN30 : N ≤ 30 := by have := h1.len; omega
  have HLT : Hid (∀ x ∈ xs, Ltr n x) := Lib.hid fun x hx => ltr_of rfl (hlet x hx)
  have HLB : Hid (∀ x ∈ xs, -1000 ≤ x ∧ x ≤ 1000) := Lib.hid fun x hx => by have := hlet x hx; omega
  have HL := Lib.hid h1.len
  have HTW := Lib.hid (toL_mem (tw_fx n))
  clear hlet hb
  have hA := Loc.new w rfl #[.int .i64 n, .slice a N c] 26
  have lA := hA.two
  go_enter Tryz.func29, Tryz.ntmps29
  go_wp2_with fail
  refine (halfTwist_any n _ hn6).mono ?_
  rintro e w0 ⟨at_, ct, rfl, htw, hb0⟩
  have hA0 := hA.below hb0 (by simp)
  have lA0 := hA0.two
  have hB0 : Below w.heap.size w w0 := below_alth (Below.refl _ _) hb0
  have r0 := h1.below hB0
  have htw := htw.mono (Nat.zero_le _)
  clear hA lA hb0
  go_wp2
  go_loopw [6, 7, 9, 10, 11, 12, 25] (fun s6 s7 _ _ _ _ i wr => ∃ (k : Nat) (ax : Option Addr) (m cx : Nat) (vs : List SV) (L : List Pm) (e : Int), k ≤ N ∧ i = .int .i64 k ∧ s6 = .int .i64 e ∧ s7 = .slice ax m cx ∧ Fac n wr w0.heap.size ax m cx vs L ∧ Hid ((e, L) = begS n (0, []) (xs.take k)) ∧ Below w0.heap.size w0 wr ∧ m ≤ k ∧ -(k : Int) ≤ e ∧ e ≤ 0) (fun _ _ _ _ _ _ i _ => N - (intOf i).toNat)
  case atStart => exact ⟨0, none, 0, 0, [], [], 0, Nat.zero_le _, rfl, rfl, rfl, Fac.nil _ _ _, Lib.hid rfl, Below.refl _ _, by omega, by omega, by omega⟩
  case round =>
    obtain ⟨k, ax, m, cx, vs, L, e, hk, rfl, rfl, rfl, hF, HS, hq, hmk, he1, he2⟩ := hrel
    obtain ⟨W, rfl⟩ : ∃ W : World, W = wr := ⟨_, rfl⟩
    by_cases hlt : k < N
    · have hx : k < xs.length := by have := HL.out; omega
      obtain ⟨b, off, rfl, g1⟩ := (r0.below hq).at k hlt
      rw [getD_at hx] at g1
      have hle := HLT.out xs[k] (List.getElem_mem hx)
      have hlb := HLB.out xs[k] (List.getElem_mem hx)
      have hbs := beg_succ (n := n) (s := (0, [])) hx
      rw [← HS.out] at hbs
      obtain ⟨X, HX⟩ : ∃ X : Int, Hid (xs[k] = X) := ⟨xs[k], Lib.hid rfl⟩
      rw [HX.out] at g1 hle hlb hbs
      have HLE := Lib.hid hle
      have HBS := Lib.hid hbs
      have HPL := Lib.hid (plc_nat hle)
      have hkn := hle.2
      have hb1 := hlb.1
      have hb2 := hlb.2
      have i1 : (0 : Int) ≤ (k : Int) := by omega
      have i2 : (k : Int) < (N : Int) := by omega
      have hfs := Fx.s hkn
      have HFS := Lib.hid hfs
      have HSM := Lib.hid (toL_mem hfs)
      clear hle hlb hbs hfs
      go_wp2_with fail
      refine (placeOf_any X _ hb1 hb2).mono ?_
      rintro e2 w2 ⟨rfl, hw2⟩
      obtain rfl : W = w2 := hw2.symm
      rw [HPL.out]
      obtain ⟨d, hdd⟩ : ∃ d, plN X = d := ⟨_, rfl⟩
      have HD := Lib.hid hdd
      rw [hdd] at hkn ⊢
      clear hdd
      go_wp2_with fail
      refine (swapOf_any n d _ hn6 hkn).mono ?_
      rintro e2 w2 ⟨a2, c2, rfl, ho2, hb2'⟩
      have hF2 := hF.below hb2'
      have hq2 := below_th hq hb2'
      have hz0 := hq.size
      have hz2 := hb2'.size
      have HHI := Lib.hid hF.hd.hi
      have hne : ∀ q, ax = some ⟨q, 0, none⟩ → a2 ≠ some ⟨q, 0, none⟩ := fun q h1 h2 => by have := HHI.out q h1; have := ho2.lo q h2; omega
      by_cases hpos : 0 < X
      · have HAP : Hid ((e, L ++ [Pm.s d]) = begS n (0, []) (xs.take (k + 1))) := Lib.hid (by rw [HBS.out, act_pos hpos, HD.out])
        have hrow : FRow n w2 (a2, n, c2) (Pm.s d) := ⟨ho2.mono (Nat.zero_le _), rfl, by rw [← HD.out]; exact HFS.out⟩
        go_wp2_with (at_builtin; refine appH1 rfl rfl hF2.hd rfl rfl (by omega) (by omega) ?_; intro g' cc w5 hH5 hg5 hat5 hb5)
        go_roundw
        case rel => exact ⟨k + 1, _, m + 1, cc, _, L ++ [Pm.s d], e, by omega, by go_num, rfl, rfl, hF2.snoc hrow hne hH5 hg5 hat5, HAP, hq2.trans hb5, by omega, by omega, he2⟩
        case measure => simp [intOf]; omega
      · have HAP : Hid ((e - 1, L.map (tauP n) ++ [(Pm.tw n).m (Pm.s d)]) = begS n (0, []) (xs.take (k + 1))) := Lib.hid (by rw [HBS.out, act_neg hpos, HD.out])
        have hwe : IntKind.i64.wrap (e - 1) = e - 1 := IntWalk.i64_in _ (by omega)
        have HTL := Lib.hid hF.len
        have HLF := Lib.hid hF.fx
        have ho2' := ho2.mono (Nat.zero_le _)
        have HLO2 := Lib.hid ho2.lo
        go_wp2
        go_loopw [11, 12, 43] (fun _ _ i wr2 => ∃ (i' : Nat) (vs' : List SV), i' ≤ m ∧ i = .int .i64 i' ∧ Fac n wr2 w0.heap.size ax m cx vs' (turnK n L i') ∧ Below w0.heap.size w0 wr2 ∧ Own wr2 0 a2 n c2 (toL n (Pm.s (plN X))) ∧ W.heap.size ≤ wr2.heap.size) (fun _ _ i _ => m - (intOf i).toNat)
        case atStart => exact ⟨0, vs, Nat.zero_le _, rfl, by simpa [turnK] using hF2, hq2, by rw [HD.out]; exact ho2', hz2⟩
        case round =>
          obtain ⟨i, vs', hi, rfl, hFi, hqi, ho2i, hzi⟩ := hrel
          obtain ⟨V, rfl⟩ : ∃ V : World, V = wr := ⟨_, rfl⟩
          by_cases hli : i < m
          · obtain ⟨g, rfl, hgl, gc, gf⟩ := hFi.cell hli
            have hri := hFi.row i hli
            have hiL : i < L.length := by have := HTL.out; omega
            rw [turnK_get hiL] at hri
            obtain ⟨⟨va, vn, vc⟩, HV⟩ : ∃ v, Hid (vs'.getD i svO = v) := ⟨_, rfl⟩
            rw [HV.out] at gc hri
            obtain rfl : n = vn := hri.len.symm
            change V.cell? _ = some (.slice va n vc) at gc
            have hAPI : va ≠ some ⟨g, 0, none⟩ := by have := hFi.ap i hli g rfl; rw [HV.out] at this; exact this
            obtain ⟨P, HP⟩ : ∃ P, Hid (L.getD i Pm.one = P) := ⟨_, rfl⟩
            rw [HP.out] at hri
            have i3 : (0 : Int) ≤ (i : Int) := by omega
            have i4 : (i : Int) < (m : Int) := by omega
            have htV := htw.below hqi
            have HT1 := Lib.hid (th_toL (q := P) (tw_fx n))
            have HF1 := Lib.hid ((tw_fx n).m hri.fx)
            have HT2 := Lib.hid (th_toL (q := Pm.tw n) HF1.out)
            have HM2 := Lib.hid (toL_mem HF1.out)
            have HFT := Lib.hid (tau_fx hri.fx)
            have HSE : Hid ((turnK n L i).set i (tauP n P) = turnK n L (i + 1)) := Lib.hid (by rw [← HP.out]; exact turnK_set hiL)
            go_wp2_with fail
            refine (then_any at_ va n n ct vc (toL n (Pm.tw n)) (toL n P) V htV.row hri.row (by omega) HTW.out).mono ?_
            rintro e3 w3 ⟨a3, c3, rfl, ho3, hb3⟩
            rw [HT1.out] at ho3
            go_wp2_with fail
            refine (then_any a3 at_ n n c3 ct _ (toL n (Pm.tw n)) w3 ho3.row (htV.below hb3).row (by omega) HM2.out).mono ?_
            rintro e4 w4 ⟨a4, c4, rfl, ho4, hb4⟩
            rw [HT2.out] at ho4
            have hb34 := below_th hb3 hb4
            have gc4 := (hb34.cell (p := ⟨g, i, none⟩) hgl).trans gc
            have hF4 := hFi.below hb34
            obtain ⟨_, e5, _, _, gf4⟩ := hF4.cell hli
            cases e5
            have hz34 := hb34.size
            have hz3 := hb3.size
            go_wp2
            go_roundw
            case rel =>
              have hv4 : FRow n w4 (a4, n, c4) (tauP n P) := ⟨ho4.mono (Nat.zero_le _), rfl, HFT.out⟩
              have hgz : w0.heap.size ≤ g := hF4.hd.low g rfl
              refine ⟨i + 1, _, by omega, by go_num, by rw [← HSE.out]; exact hF4.set hli hv4 (fun e => by have := ho4.lo g e; omega), ?_, ?_, by rw [size_set]; omega⟩
              · exact (below_th hqi hb34).setCell (by show w0.heap.size ≤ g; exact hgz) _
              · exact (ho2i.below hb34).keep fun b hb hlt => Below.heap_setCell _ _ _ _ (fun e => by have h5 := HLO2.out b hb; have h6 := HHI.out g rfl; have e : b = g := e; omega)
            case measure => simp [intOf]; omega
          · obtain rfl : m = i := by omega
            have hTA : turnK n L m = L.map (tauP n) := by rw [HTL.out]; exact turnK_all
            rw [hTA] at hFi
            clear hTA
            have htV := htw.below hqi
            have HFX := Lib.hid HFS.out
            have HT3 : Hid (thL (toL n (Pm.tw n)) (toL n (Pm.s (plN X))) = toL n ((Pm.tw n).m (Pm.s (plN X)))) := Lib.hid (th_toL (tw_fx n))
            have HF3 := Lib.hid ((tw_fx n).m HFS.out)
            have HAP3 : Hid ((e - 1, L.map (tauP n) ++ [(Pm.tw n).m (Pm.s (plN X))]) = begS n (0, []) (xs.take (k + 1))) := Lib.hid (by rw [← HAP.out, HD.out])
            have HHV := Lib.hid hFi.hd.hi
            go_wp2_with fail
            refine (then_any at_ a2 n n ct c2 (toL n (Pm.tw n)) (toL n (Pm.s (plN X))) V htV.row ho2i.row (by omega) HTW.out).mono ?_
            rintro e3 w3 ⟨a3, c3, rfl, ho3, hb3⟩
            rw [HT3.out] at ho3
            have hz3 := hb3.size
            have hzq := hqi.size
            have hF3 := hFi.below hb3
            have hq3 := below_th hqi hb3
            have hrow : FRow n w3 (a3, n, c3) ((Pm.tw n).m (Pm.s (plN X))) := ⟨ho3.mono (Nat.zero_le _), rfl, HF3.out⟩
            have hne3 : ∀ q, ax = some ⟨q, 0, none⟩ → a3 ≠ some ⟨q, 0, none⟩ := fun q h1 h2 => by have := HHV.out q h1; have := ho3.lo q h2; omega
            go_wp2_with (at_builtin; refine appH1 rfl rfl hF3.hd rfl rfl (by omega) (by omega) ?_; intro g' cc w5 hH5 hg5 hat5 hb5)
            go_roundw
            case rel => exact ⟨k + 1, _, m + 1, cc, _, _, e - 1, by omega, by go_num, rfl, rfl, hF3.snoc hrow hne3 hH5 hg5 hat5, HAP3, hq3.trans hb5, by omega, by omega, by omega⟩
            case measure => simp [intOf]; omega
    · obtain rfl : N = k := by omega
      have hxs : xs.take N = xs := List.take_of_length_le (by have := HL.out; omega)
      rw [hxs] at HS
      have HTL := Lib.hid hF.len
      have HLX := Lib.hid hF.fx
      clear hxs HTW HLT HLB
      go_wp2
      go_loopg [13, 14, 15, 16, 17] (val n L + 1) (fun gm s13 _ _ _ _ wr => ∃ (b : Bool) (vs' : List SV) (Y : List Pm), s13 = .bool b ∧ Fac n wr w0.heap.size ax m cx vs' Y ∧ Hid (Star L Y ∧ (b = false → NF Y)) ∧ Below w0.heap.size w0 wr ∧ gm = val n Y + (if b then 1 else 0))
      case atStart => exact ⟨true, vs, L, rfl, hF, Lib.hid ⟨.refl _, fun h => by cases h⟩, hq, by simp⟩
      case round =>
        clear hF hq
        obtain ⟨b, vs', Y, rfl, hF, HY, hq, hgm⟩ := hrel
        obtain ⟨W, rfl⟩ : ∃ W : World, W = wr := ⟨_, rfl⟩
        cases b with
        | false =>
          have hNF := HY.out.2 rfl
          have hstar := HY.out.1
          have hAY := hF.fx
          have HYN := Lib.hid hF.len
          have HCH := Lib.hid (nf_chn _ hNF)
          have HAY := Lib.hid hAY
          have HNY := Lib.hid (And.intro hstar hNF)
          have HTWE : Hid (∀ p : Pm, Fx n p → incOk (toL n p) = decide (toL n p = toL n Pm.one)) := Lib.hid fun p hp => inc_toL hp
          clear hNF hstar hAY
          rcases hF.hd.block with ⟨ha, hm0, hc0⟩ | ⟨g, cur, ha, hg0, hLg, hmc, hcm, hcs, hct⟩
          · subst ha hm0 hc0
            have hY0 : Y = [] := List.eq_nil_of_length_eq_zero HYN.out.symm
            have HY0 := Lib.hid hY0
            clear hY0
            go_wp2
            go_loopg [6, 7] 0 (fun gm s6 s7 wr => s6 = .int .i64 e ∧ s7 = .slice none 0 0 ∧ wr = W)
            case atStart => exact ⟨rfl, rfl, rfl⟩
            case round =>
              obtain ⟨rfl, rfl, rfl⟩ := hrel
              go_wp2_with fail
              refine (deleteNil_any _ _ _ tst_id).mono ?_
              rintro e9 w9 ⟨rfl, hb9⟩
              go_wp2
              go_ret2
              refine ⟨e, none, 0, 0, [], rfl, ⟨Y, ?_, HNY.out.2, ?_⟩, ⟨rfl, fun i h => absurd h (by omega)⟩, ?_, by omega, by omega, by omega, by simp⟩
              · rw [← HS.out]; exact HNY.out.1
              · rw [← HS.out, HY0.out]; simp [stripL]
              · exact hB0.trans ((below_th hq hb9).mono hB0.size)
          · subst ha
            have HGY : Hid (∀ i, i < m → (Y.map (toL n)).getD i [] = toL n (Y.getD i Pm.one)) := Lib.hid fun i hi => by
              have hi' : i < Y.length := by have := HYN.out; omega
              simp [List.getD_eq_getElem?_getD, List.getElem?_eq_getElem hi']
            have hdel : ∀ (o oo : Nat) (V : World), o ≤ m → (o < m → oo = o) → oo ≤ cx → Below W.heap.size W V → (∀ i, i < o → (Y.map (toL n)).getD i [] = toL n (Pm.tw n)) → (o < m → (Y.map (toL n)).getD o [] ≠ toL n (Pm.tw n)) →
                Calls Tryz.prog 62 #[.slice (some ⟨g, oo, none⟩) (m - o) (cx - o), .func (.func 63) #[] #[]] V fun e' w' => ∃ jj c', e' = .returned (.slice (some ⟨g, oo, none⟩) jj c') ∧ jj ≤ m ∧ Tbl w' (some ⟨g, oo, none⟩) jj (((Y.map (toL n)).drop o).take jj) ∧ stripL n e (Y.map (toL n)) = (e + (o : Nat), ((Y.map (toL n)).drop o).take jj) ∧ Below w0.heap.size V w' := by
              intro o oo V ho hoo hox hV h1 h3
              have hFV := hF.below hV
              have hlen : (Y.map (toL n)).length = m := by rw [List.length_map]; exact HYN.out.symm
              obtain ⟨jj, j1, j2, j3⟩ := first_ex (fun i => decide ((Y.map (toL n)).getD (o + i) [] = toL n Pm.one)) (m - o)
              have hgd : ∀ i, i < m - o → ((Y.map (toL n)).drop o).getD i [] = toL n (Y.getD (o + i) Pm.one) := fun i hi => by
                rw [← HGY.out (o + i) (by omega)]
                simp [List.getD_eq_getElem?_getD, List.getElem?_drop]
              have hfx : ∀ i, i < m → Fx n (Y.getD i Pm.one) := fun i hi => (hF.row i hi).fx
              refine (deleteRows_any _ incOk g oo (m - o) (cx - o) jj cur ((Y.map (toL n)).drop o) V (hLg.below hV hLg.lt) (by omega) (by rw [List.length_drop, hlen]) (by omega) (by by_cases h : o < m <;> omega) (fun i hi => ?_) (fun i hi => ?_) tst_id j1 (fun i hi => ?_) (fun i hi1 hi2 => ?_)).mono ?_
              · obtain ⟨g', e1, _, e2, _⟩ := hFV.cell (i := o + i) (by omega)
                cases e1
                obtain rfl : o = oo := (hoo (by omega)).symm
                have hr := hFV.row (o + i) (by omega)
                refine ⟨vs'.getD (o + i) svO, e2, ?_, hFV.ap (o + i) (by omega) g rfl⟩
                rw [hgd i hi, hr.len]; exact hr.own
              · rw [hgd i hi, toL_len]; omega
              · rw [hgd i (by omega), HTWE.out _ (hfx _ (by omega)), ← HGY.out (o + i) (by omega)]; exact j2 i hi
              · have hone : Y.getD (o + jj) Pm.one = Pm.one := toL_inj (hfx _ (by omega)) (Fx.one n) (by rw [← HGY.out (o + jj) (by omega)]; exact of_decide_eq_true (j3 (by omega)))
                have := chn_later HAY.out HCH.out hone (show o + jj ≤ o + i by omega) (by have := HYN.out; omega)
                rw [hgd i hi2, HTWE.out _ (hfx _ (by omega)), this]; simp
              · rintro e' w' ⟨c', rfl, ht, hm⟩
                refine ⟨jj, c', rfl, by omega, ht, ?_, hm.lowb (fun b hb => by subst hb; exact hg0) (by have := hq.size; have := hV.size; omega)⟩
                refine strip_eq HAY.out HCH.out (by have := HYN.out; omega) h1 (fun h => h3 (by have := HYN.out; omega)) (fun i hi => of_decide_eq_false (j2 i hi)) (fun h => of_decide_eq_true (j3 (by have := HYN.out; omega)))
            have HDEL := Lib.hid hdel
            have hmc' := hmc
            have HCS := Lib.hid hcs
            clear hdel hcs hct hmc
            go_wp2
            go_loopg [6, 7] m (fun gm s6 s7 wr => ∃ o oo : Nat, o ≤ m ∧ (o < m → oo = o) ∧ oo ≤ cx ∧ gm = m - o ∧ s6 = .int .i64 (e + (o : Nat)) ∧ s7 = .slice (some ⟨g, oo, none⟩) (m - o) (cx - o) ∧ Below W.heap.size W wr ∧ Hid (∀ i, i < o → (Y.map (toL n)).getD i [] = toL n (Pm.tw n)))
            case atStart => exact ⟨0, 0, Nat.zero_le _, fun _ => rfl, Nat.zero_le _, by omega, by simp, by simp, Below.refl _ _, Lib.hid fun i h => absurd h (by omega)⟩
            case round =>
              obtain ⟨o, oo, ho, hoo, hox, hgo, rfl, rfl, hV, HT⟩ := hrel
              obtain ⟨V, rfl⟩ : ∃ V : World, V = wr := ⟨_, rfl⟩
              have HOO := Lib.hid hoo
              have HOX := Lib.hid hox
              clear hoo hox
              by_cases hlo : o < m
              · obtain rfl : o = oo := (HOO.out hlo).symm
                obtain ⟨_, e5, hgl, gc, gf⟩ := (hF.below hV).cell hlo
                cases e5
                have hr := (hF.below hV).row o hlo
                obtain ⟨⟨va, vn, vc⟩, HV⟩ : ∃ v, Hid (vs'.getD o svO = v) := ⟨_, rfl⟩
                rw [HV.out] at gc hr
                obtain rfl : n = vn := hr.len.symm
                change V.cell? _ = some (.slice va n vc) at gc
                obtain ⟨B, HB⟩ : ∃ B, Hid (decide (toL n (Y.getD o Pm.one) = toL n (Pm.tw n)) = B) := ⟨_, rfl⟩
                have htV := (htw.below hq).below hV
                have q1 : (0 : Int) < ((m - o : Nat) : Int) := by omega
                have hwo : IntKind.i64.wrap (e + (o : Int) + 1) = e + ((o + 1 : Nat) : Int) := (IntWalk.i64_in _ (by omega)).trans (by omega)
                have q2 : (1 : Int) ≤ ((m - o : Nat) : Int) := by omega
                have q3 : ((m - o : Nat) : Int) ≤ ((cx - o : Nat) : Int) := by omega
                have q4 : (1 : Int) ≤ ((cx - o : Nat) : Int) := by omega
                cases B with
                | true =>
                  go_wp2_with fail
                  refine (sEqual_b va at_ n n vc ct (toL n (Y.getD o Pm.one)) (toL n (Pm.tw n)) V hr.row htV.row (by omega) true HB.out).mono ?_
                  rintro e9 w9 ⟨rfl, hb9⟩
                  have HT1 : Hid (∀ i, i < o + 1 → (Y.map (toL n)).getD i [] = toL n (Pm.tw n)) := Lib.hid fun i hi => by
                    by_cases e2 : i < o
                    · exact HT.out i e2
                    · rw [show i = o by omega, HGY.out o hlo]; exact of_decide_eq_true HB.out
                  go_wp2
                  · rename_i hc1
                    go_roundg (m - (o + 1))
                    case measure => omega
                    case rel =>
                      refine ⟨o + 1, o, by omega, fun h => by omega, by omega, rfl, rfl, ?_, below_th hV hb9, HT1⟩
                      rw [show m - o - 1 = m - (o + 1) by omega, show cx - (o + 1) = 0 by omega]
                  · rename_i hc1
                    go_roundg (m - (o + 1))
                    case measure => omega
                    case rel =>
                      refine ⟨o + 1, o + 1, by omega, fun h => by first | rfl | trivial, by omega, rfl, rfl, ?_, below_th hV hb9, HT1⟩
                      rw [show m - o - 1 = m - (o + 1) by omega, show cx - o - 1 = cx - (o + 1) by omega]
                | false =>
                  have HD := Lib.hid (HDEL.out o o)
                  go_wp2_with fail
                  refine (sEqual_b va at_ n n vc ct (toL n (Y.getD o Pm.one)) (toL n (Pm.tw n)) V hr.row htV.row (by omega) false HB.out).mono ?_
                  rintro e9 w9 ⟨rfl, hb9⟩
                  go_wp2_with fail
                  refine (HD.out w9 ho (fun _ => by first | rfl | trivial) HOX.out (below_th hV hb9) HT.out (fun _ => by rw [HGY.out o hlo]; exact of_decide_eq_false HB.out)).mono ?_
                  rintro e8 w8 ⟨jj, c', rfl, hjj, ht, hst, hb8⟩
                  go_wp2
                  go_ret2
                  refine ⟨e + (o : Nat), _, jj, c', _, rfl, ⟨Y, by rw [← HS.out]; exact HNY.out.1, HNY.out.2, by rw [← HS.out]; exact hst.symm⟩, ht, ?_, by omega, by omega, by omega, fun y hy => ?_⟩
                  · exact hB0.trans (((below_th hq (below_th hV hb9)).trans hb8).mono hB0.size)
                  · obtain ⟨q, hq2, rfl⟩ := List.mem_map.1 (List.mem_of_mem_drop (List.mem_of_mem_take hy)); exact toL_len n q
              · obtain rfl : m = o := by omega
                have hd := HDEL.out m oo V ho HOO.out HOX.out hV HT.out (fun h => absurd h (by omega))
                rw [Nat.sub_self] at hd
                have HD := Lib.hid hd
                clear hd
                rw [Nat.sub_self] at *
                go_wp2_with fail
                refine HD.out.mono ?_
                rintro e8 w8 ⟨jj, c', rfl, hjj, ht, hst, hb8⟩
                go_wp2
                go_ret2
                refine ⟨e + (m : Nat), _, jj, c', _, rfl, ⟨Y, by rw [← HS.out]; exact HNY.out.1, HNY.out.2, by rw [← HS.out]; exact hst.symm⟩, ht, ?_, by omega, by omega, by omega, fun y hy => ?_⟩
                · exact hB0.trans (((below_th hq hV).trans hb8).mono hB0.size)
                · obtain ⟨q, hq2, rfl⟩ := List.mem_map.1 (List.mem_of_mem_drop (List.mem_of_mem_take hy)); exact toL_len n q
        | true =>
          simp only [if_true] at hgm
          have HYL := Lib.hid hF.len
          go_wp2
          go_loopw [13, 14, 15, 16, 17] (fun s13 i _ _ _ wr2 => ∃ (j : Nat) (b' : Bool) (vs'' : List SV) (Y' : List Pm), i = .int .i64 j ∧ 1 ≤ j ∧ j ≤ m + 1 ∧ s13 = .bool b' ∧ Fac n wr2 w0.heap.size ax m cx vs'' Y' ∧ Hid (Star Y Y' ∧ (b' = false → Y' = Y ∧ ∀ t, t + 1 < j → t + 1 < m → ∀ k, St (Y.getD (t + 1) Pm.one) k → En (Y.getD t Pm.one) k) ∧ (b' = true → val n Y' < val n Y)) ∧ Below w0.heap.size w0 wr2) (fun _ i _ _ _ _ => m + 1 - (intOf i).toNat)
          case atStart => exact ⟨1, false, vs', Y, rfl, by omega, by omega, rfl, hF, Lib.hid ⟨.refl _, fun _ => ⟨rfl, fun t h => absurd h (by omega)⟩, fun h => by cases h⟩, hq⟩
          case round =>
            clear hF hq
            obtain ⟨j, b', vs'', Y', rfl, hj1, hjm, rfl, hF, HS2, hq⟩ := hrel
            obtain ⟨V, rfl⟩ : ∃ V : World, V = wr := ⟨_, rfl⟩
            by_cases hlj : j < m
            · obtain ⟨t, rfl⟩ : ∃ t, j = t + 1 := ⟨j - 1, by omega⟩
              obtain ⟨g, rfl, hgl, gc1, gf1⟩ := hF.cell (i := t) (by omega)
              obtain ⟨_, e5, _, gc2, gf2⟩ := hF.cell hlj
              cases e5
              have hr1 := hF.row t (by omega)
              have hr2 := hF.row (t + 1) hlj
              have ha1 := hF.ap t (by omega) g rfl
              have ha2 := hF.ap (t + 1) hlj g rfl
              obtain ⟨⟨v1, n1, d1⟩, HV1⟩ : ∃ v, Hid (vs''.getD t svO = v) := ⟨_, rfl⟩
              obtain ⟨⟨v2, n2, d2⟩, HV2⟩ : ∃ v, Hid (vs''.getD (t + 1) svO = v) := ⟨_, rfl⟩
              rw [HV1.out] at gc1 hr1 ha1
              rw [HV2.out] at gc2 hr2 ha2
              obtain rfl : n = n1 := hr1.len.symm
              obtain rfl : n = n2 := hr2.len.symm
              change V.cell? _ = some (.slice v1 n d1) at gc1
              change V.cell? _ = some (.slice v2 n d2) at gc2
              have HYL2 := Lib.hid hF.len
              have hwt : IntKind.i64.wrap (t : Int) = (t : Int) := IntWalk.i64_in _ (by omega)
              have i1 : (0 : Int) ≤ (t : Int) := by omega
              have i2 : (t : Int) < (m : Int) := by omega
              have i3 : (t : Int) + 1 < (m : Int) := by omega
              have i4 : (0 : Int) ≤ (t : Int) + 1 := by omega
              have hr1d := hr1.below (below_drewN (Below.refl _ _) 1)
              have hr2d := hr2.below (below_drewN (Below.refl _ _) 1)
              go_wp2
              go_region_law (go_simp; go_at_call 60; refine (slide_any n v1 v2 d1 d2 _ _ _ hn2 hn6 hr1d hr2d).mono ?_; rintro e6 w6 ⟨b1, b2, c1, c2, p', q', bb, rfl, hp', hq', hst, hpr, hfl, htr, hw1, hw2, hb6⟩)
              all_goals
                have hb6' : Below V.heap.size V w6 := below_th (below_drewN (Below.refl _ _) 1) hb6
                have hF6 := hF.below hb6'
                obtain ⟨_, e7, _, gd1, gf3⟩ := hF6.cell (i := t) (by omega)
                cases e7
                obtain ⟨_, e8, _, gd2, gf4⟩ := hF6.cell hlj
                cases e8
                have hn1 : b1 ≠ some ⟨g, 0, none⟩ := hw1.ne hgl ha1
                have hn2' : b2 ≠ some ⟨g, 0, none⟩ := hw2.ne hgl ha2
                have hF7 := hF6.set2 (i := t) (j := t + 1) (by omega) hlj hp' hq' hn1 hn2'
                have hgz : w0.heap.size ≤ g := hF6.hd.low g rfl
                obtain ⟨Y2, HY2⟩ : ∃ Y2, Hid ((Y'.set t p').set (t + 1) q' = Y2) := ⟨_, rfl⟩
                have HST : Hid (Star Y Y2 ∧ ((b' || bb) = false → Y2 = Y ∧ ∀ t_1, t_1 + 1 < t + 1 + 1 → t_1 + 1 < m → ∀ k, St (Y.getD (t_1 + 1) Pm.one) k → En (Y.getD t_1 Pm.one) k) ∧ ((b' || bb) = true → val n Y2 < val n Y)) := Lib.hid (by
                  have hlen : t + 1 < Y'.length := by have := HYL2.out; omega
                  have hs := star_at hlen hst
                  rw [HY2.out] at hs
                  refine ⟨HS2.out.1.trans hs, fun hbb => ?_, fun hbb => ?_⟩
                  · rw [Bool.or_eq_false_iff] at hbb
                    obtain ⟨h3, h4⟩ := HS2.out.2.1 hbb.1
                    obtain ⟨_, _, _, _, x5, x6⟩ := hfl hbb.2
                    have hy : Y2 = Y' := by rw [← HY2.out, x5, x6, set_same, set_same]
                    refine ⟨by rw [hy, h3], fun t1 ht1 ht2 k hk => ?_⟩
                    by_cases e9 : t1 = t
                    · subst e9
                      rw [← h3] at hk ⊢
                      rw [x5, x6] at hpr
                      exact hpr k hk
                    · exact h4 t1 (by omega) ht2 k hk
                  · have hvle : val n Y' ≤ val n Y := by
                      cases b' with
                      | true => exact Nat.le_of_lt (HS2.out.2.2 rfl)
                      | false => rw [(HS2.out.2.1 rfl).1]; exact Nat.le_refl _
                    cases bb with
                    | true =>
                      have hv := val_at (n := n) hlen (htr rfl)
                      rw [HY2.out] at hv
                      omega
                    | false =>
                      obtain ⟨_, _, _, _, x5, x6⟩ := hfl rfl
                      have hy : Y2 = Y' := by rw [← HY2.out, x5, x6, set_same, set_same]
                      rw [hy]
                      cases b' with
                      | true => exact HS2.out.2.2 rfl
                      | false => cases hbb)
                rw [HY2.out] at hF7
                change Fac n ((w6.setCell ⟨g, t, none⟩ (.slice b1 n c1)).setCell ⟨g, t + 1, none⟩ (.slice b2 n c2)) w0.heap.size (some ⟨g, 0, none⟩) m cx _ Y2 at hF7
                have hbw : Below w0.heap.size w0 ((w6.setCell ⟨g, t, none⟩ (.slice b1 n c1)).setCell ⟨g, t + 1, none⟩ (.slice b2 n c2)) := ((below_th hq hb6').setCell (by show w0.heap.size ≤ g; exact hgz) _).setCell (by show w0.heap.size ≤ g; exact hgz) _
                cases b' with
                | true =>
                  go_wp2
                  go_roundw
                  case rel => exact ⟨t + 1 + 1, true, _, Y2, by go_num, by omega, by omega, rfl, hF7, HST, hbw⟩
                  case measure => simp [intOf]; omega
                | false =>
                  go_wp2
                  go_roundw
                  case rel => exact ⟨t + 1 + 1, bb, _, Y2, by go_num, by omega, by omega, rfl, hF7, HST, hbw⟩
                  case measure => simp [intOf]; omega
            · have hj' : ¬ ((j : Nat) : Int) < (m : Int) := by omega
              go_wp2
              go_roundg (val n Y' + (if b' then 1 else 0))
              case measure =>
                cases b' with
                | true => have := HS2.out.2.2 rfl; simp; omega
                | false => rw [(HS2.out.2.1 rfl).1]; simp
              case rel =>
                refine ⟨b', vs'', Y', rfl, hF, Lib.hid ⟨HY.out.1.trans HS2.out.1, fun hb => ?_⟩, hq, rfl⟩
                obtain ⟨h3, h4⟩ := HS2.out.2.1 hb
                rw [h3]
                exact chn_nf (chn_of Y fun t ht k hk => h4 t (by have := HYL.out; omega) (by have := HYL.out; omega) k hk)
end Go.Proofs.YtdkpalllfekiiaaGreat
