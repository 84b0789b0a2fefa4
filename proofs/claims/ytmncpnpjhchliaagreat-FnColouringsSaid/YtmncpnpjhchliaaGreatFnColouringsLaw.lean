/-
  The walk of the law of colourings: it answers true.
  No condition.
-/
import Derived.Test.YtmncpnpjhchliaaGreatDrCo
import Derived.Test.YtmncpnpjhchliaaGreatDerI
import Derived.Test.YtmncpnpjhchliaaGreatQofI
import Derived.Test.YtmncpnpjhchliaaGreatBacL
import Derived.Test.YtmncpnpjhchliaaGreatBase5
import Derived.Test.YtmncpnpjhchliaaGreatBase2
import Derived.Test.YtmncpnpjhchliaaGreatConjB
import Derived.Test.YtmncpnpjhchliaaGreatStabB
import Derived.Test.YtmncpnpjhchliaaGreatBase4
namespace Go.Proofs.YtmncpnpjhchliaaGreat
set_option maxRecDepth 100000
set_option linter.unusedVariables false
set_option linter.unusedSimpArgs false
open Go.RowKit

theorem Dic.alloc {w : World} {b : Nat} (h : Dic w b) (o : Obj) : Dic (w.alloc o) b := h.below (below_al (Below.refl _ _) _)
theorem lsI64 {n : Nat} (hn : n ≤ 1000000) {l : List Int} (h : Less n l) : I64s l := fun x hx => by
  obtain ⟨i, hi, rfl⟩ := List.getElem_of_mem hx
  obtain ⟨k, hk, e⟩ := h i hi
  rw [List.getD_eq_getElem?_getD, List.getElem?_eq_getElem hi, Option.getD_some] at e
  rw [e]; exact ⟨by omega, by omega⟩
theorem col_facts (f g : List (List Int)) (S : Int) (ys : List Int) : (∃ C, C ≠ 0 ∧ colsF f g S ys = ([], C)) ∨ ∃ S2 : Nat, S = (S2 : Int) ∧ 2 ≤ S2 ∧ S2 ≤ 6 ∧ isBr (S2 : Int) ys = true ∧ isSol f g = true ∧ ∃ LL, colsF f g (S2 : Int) ys = (LL, 0) ∧ LL.length ≤ 5000 ∧ ∀ i, i < LL.length → colF f g (S2 : Int) ys (LL.getD i []) = (true, 0) ∧ Less f.length (LL.getD i []) ∧ (LL.getD i []).length = S2 := by
  by_cases q : (colsF f g S ys).2 = 0
  · right
    obtain ⟨h1, h2, h3, h4⟩ := colsF_ok q
    have hs := (isBr_let h2).1
    obtain ⟨S2, rfl⟩ : ∃ S2 : Nat, S = S2 := ⟨S.toNat, by omega⟩
    refine ⟨S2, rfl, by omega, by omega, h2, h1, (colsF f g (S2 : Int) ys).1, Prod.ext rfl q, by rw [h4]; exact Nat.le_trans colsK_len h3, fun i hi => ?_⟩
    have hm : (colsF f g (S2 : Int) ys).1.getD i [] ∈ (colsF f g (S2 : Int) ys).1 := by
      rw [List.getD_eq_getElem?_getD, List.getElem?_eq_getElem hi]; exact List.getElem_mem hi
    generalize (colsF f g (S2 : Int) ys).1.getD i [] = l at hm ⊢
    rw [h4, cols_mem (isSol_sq h1).1, Int.toNat_natCast] at hm
    obtain ⟨m1, m2, m3⟩ := hm
    refine ⟨?_, m2, m1⟩
    unfold colF
    rw [if_pos (ckF_of h1 h2 (by rw [m1]) m2), m3]
    simp
  · left
    have h0 := cols_code2 q
    exact ⟨(colsF f g S ys).2, q, Prod.ext (List.eq_nil_of_length_eq_zero h0) rfl⟩
theorem conj_facts {f g : List (List Int)} {S : Int} {ys : List Int} {LL : List (List Int)} (hb : isBr S ys = true) (h : colsF f g S ys = (LL, 0)) (X : Int) (hx : X ≠ 0 ∧ 1 - S ≤ X ∧ X ≤ S - 1) :
    conjF S ys X = (0, [], 3) ∨ (conjF S ys X = (S, [X] ++ ys ++ [-X], 0) ∧ (colsF f g S ([X] ++ ys ++ [-X])).1.length = LL.length ∧ (colsF f g S ([X] ++ ys ++ [-X])).2 = 0 ∧ I64s ([X] ++ ys ++ [-X]) ∧ ([X] ++ ys ++ [-X]).length ≤ 30) := by
  obtain ⟨h26, h30, hl⟩ := isBr_let hb
  have e1 : wrap64 (1 - S) = 1 - S := IntWalk.wrap64_in _ ⟨by omega, by omega⟩
  have e2 : wrap64 (S - 1) = S - 1 := IntWalk.wrap64_in _ ⟨by omega, by omega⟩
  have hlet : isLet S X = true := by unfold isLet; rw [e1, e2]; simp; omega
  unfold conjF
  rw [if_pos hb, if_pos hlet]
  by_cases q : ys.length ≤ 28
  · rw [if_pos q]
    right
    have hall : ∀ x ∈ [X] ++ ys ++ [-X], x ≠ 0 ∧ 1 - S ≤ x ∧ x ≤ S - 1 := fun x hx' => by
      simp only [List.mem_append, List.mem_singleton] at hx'
      rcases hx' with (rfl | hx') | rfl
      · exact hx
      · exact hl x hx'
      · omega
    have hlen : ([X] ++ ys ++ [-X]).length ≤ 30 := by simp; omega
    have hbr := isBr_of h26 hlen hall
    have := cols_conj (f := f) (g := g) (x := X) (by rw [h]) hx hbr
    rw [h] at this
    exact ⟨rfl, this.1, this.2, fun x hx' => by have := hall x hx'; exact ⟨by omega, by omega⟩, hlen⟩
  · rw [if_neg q]; left; rfl
theorem stab_facts {t : List (List Int)} {S : Int} {ys : List Int} (hr : isRk t = true) (hd : ∀ x, x < t.length → tv t x x = x) (hb : isBr S ys = true) (e : Int) (he : e = 1 ∨ e = -1) :
    ∃ (T : Int) (Z : List Int) (K : Int), stabF S ys e = (T, Z, K) ∧ I64 T ∧ I64s Z ∧ Z.length ≤ 31 ∧ (K = 3 ∨ (K = 0 ∧ ((colsF t (cstL t.length) S ys).2 = 0 → (colsF t (cstL t.length) T Z).2 = 0 → (colsF t (cstL t.length) T Z).1.length = (colsF t (cstL t.length) S ys).1.length))) := by
  obtain ⟨h26, h30, hl⟩ := isBr_let hb
  unfold stabF
  rw [if_pos hb, if_pos he]
  by_cases q : S = 6 ∨ ys.length = 30
  · rw [if_pos q]; exact ⟨0, [], 3, rfl, ⟨by omega, by omega⟩, fun x hx => (by cases hx), by simp, .inl rfl⟩
  · rw [if_neg q]
    have hm : -6 ≤ e * S ∧ e * S ≤ 6 := by rcases he with rfl | rfl <;> omega
    refine ⟨S + 1, ys ++ [e * S], 0, rfl, ⟨by omega, by omega⟩, fun x hx => ?_, by simp; omega, .inr ⟨rfl, fun k1 k2 => cols_stab hr hd he k1 k2⟩⟩
    rw [List.mem_append, List.mem_singleton] at hx
    rcases hx with hx | rfl
    · have := hl x hx; exact ⟨by omega, by omega⟩
    · exact ⟨by omega, by omega⟩
theorem stab_facts2 {t : List (List Int)} {n : Nat} {S e T K : Int} {ys Z : List Int} (hr : isRk t = true) (hl : t.length = n) (hd : ∀ x, x < n → tv t x x = x) (hb : isBr S ys = true) (he : e = 1 ∨ e = -1) (hst : stabF S ys e = (T, Z, K)) :
    I64 T ∧ I64s Z ∧ Z.length ≤ 31 ∧ (K = 3 ∨ (K = 0 ∧ ((colsF t (cstL n) S ys).2 = 0 → (colsF t (cstL n) T Z).2 = 0 → (colsF t (cstL n) T Z).1.length = (colsF t (cstL n) S ys).1.length))) := by
  subst hl
  obtain ⟨T', Z', K', h, h2⟩ := stab_facts hr hd hb e he
  rw [hst] at h
  cases h
  exact h2
theorem two_w (y : Int) (h0 : 0 ≤ y) (h1 : y < 2) : ∃ M E : Int, wrap64 (2 * y) = M ∧ IntKind.i64.wrap (2 * y) = M ∧ wrap64 (1 - M) = E ∧ IntKind.i64.wrap (1 - M) = E ∧ I64 E ∧ (E = 1 ∨ E = -1) :=
  ⟨2 * y, 1 - 2 * y, IntWalk.wrap64_in _ (by omega), IntWalk.i64_in _ (by omega), IntWalk.wrap64_in _ (by omega), IntWalk.i64_in _ (by omega), ⟨by omega, by omega⟩, by omega⟩
theorem qu_facts {n : Nat} {t : List (List Int)} {w : World} {a : Option Addr} (ht : Tbl w a n t) (h : isRk t = true) : isRk (quL n t) = true ∧ (quL n t).length = n ∧ ∀ x, x < n → tv (quL n t) x x = x := by
  have hk := rck_of h
  obtain ⟨_, h12, _⟩ := isRk_sq h
  rw [← ht.len] at hk h12
  exact ⟨hk.qu_rk h12, hk.qu_sq.len, fun x hx => hk.qu_dia hx⟩
set_option maxHeartbeats 64000000 in
theorem law_Col9 (a : Option Addr) (n c : Nat) (xs : List Int) (w : World) (h : Bts w a n xs) (hn : n ≤ 9223372036854775807) :
    Calls Tryz.prog 3 #[.slice a n c] w fun e w' => e = .returned (.bool true) ∧ Below w.heap.size w w' := by
  have hB : Below w.heap.size w w := Below.refl _ _
  go_enter Tryz.func3, Tryz.ntmps3
  go_wp2_with fail
  refine (big_any a n c _ hn).mono ?_
  rintro e w0 ⟨rfl, rfl⟩
  by_cases hbig : 4096 < n
  · have hd : decide (4096 < n) = true := by simpa using hbig
    rw [hd]
    go_wp2
    go_ret
    exact ⟨rfl, Below.refl _ _⟩
  have hd : decide (4096 < n) = false := by simpa using hbig
  rw [hd]
  clear hd hbig
  go_wp2_with fail
  refine (DrawColouringsOf_ok a n c xs _ h hn).mono ?_
  rintro e w1 ⟨n2, a1, c1, us, f, a1', c1', us', g, S, ab, nb, cb, ys, n1, n6, hS1, hS2, hnb, hsm, rfl, ⟨hof1, hos1, hap⟩, hob1, hbw1⟩
  replace hB := below_th hB hbw1
  have HI : Hid (I64s ys) := Lib.hid fun x hx => by have := hsm x hx; exact ⟨by omega, by omega⟩
  have hL0 : n2 = f.length := hof1.len
  have HCL : Hid (∀ (w : World) (l : List (List Int)) (k : Int), colsF f g S ys = (l, k) → Sol w a1 n2 f a1' n2 g → Row w ab nb ys → Calls Tryz.prog 7 #[sAgg a1 n2 c1 a1' n2 c1', bAgg S ab nb cb] w (RetT w l k)) := Lib.hid fun w l k e h1 hr => by have := impl_Cols_l a1 n2 c1 f a1' n2 c1' g S ab nb cb ys w h1 ⟨by omega, by omega⟩ ⟨by omega, by omega⟩ hr (by omega) HI.out; rw [e] at this; exact this
  have HSL : Hid (∀ (w : World) (l : List (List Int)) (k : Int), colsF f g S ys = (l, k) → Sol w a1 n2 f a1' n2 g → Row w ab nb ys → Calls Tryz.prog 8 #[sAgg a1 n2 c1 a1' n2 c1', bAgg S ab nb cb] w (RetT w l k)) := Lib.hid fun w l k e h1 hr => by have := spec_Cols_l a1 n2 c1 f a1' n2 c1' g S ab nb cb ys w h1 ⟨by omega, by omega⟩ ⟨by omega, by omega⟩ hr (by omega) HI.out; rw [e] at this; exact this
  have HCI : Hid (∀ (a2 a2' : Option Addr) (c2 c2' : Nat) (p q : List (List Int)) (T : Int) (bb : Option Addr) (kb eb : Nat) (zs : List Int) (w : World) (l : Nat) (k : Int), (colsF p q T zs).1.length = l → (colsF p q T zs).2 = k → I64 T → kb ≤ 2000 → I64s zs → Sol w a2 n2 p a2' n2 q → Row w bb kb zs → Calls Tryz.prog 10 #[sAgg a2 n2 c2 a2' n2 c2', bAgg T bb kb eb] w (RetI w (l : Int) k)) := Lib.hid fun a2 a2' c2 c2' p q T bb kb eb zs w l k el ek hT hk hz h1 hr => by have := impl_Cnt_l a2 n2 c2 p a2' n2 c2' q T bb kb eb zs w h1 ⟨by omega, by omega⟩ hT hr (by omega) hz; rw [el, ek] at this; exact this
  have HCS : Hid (∀ (a2 a2' : Option Addr) (c2 c2' : Nat) (p q : List (List Int)) (T : Int) (bb : Option Addr) (kb eb : Nat) (zs : List Int) (w : World) (l : Nat) (k : Int), (colsF p q T zs).1.length = l → (colsF p q T zs).2 = k → I64 T → kb ≤ 2000 → I64s zs → Sol w a2 n2 p a2' n2 q → Row w bb kb zs → Calls Tryz.prog 19 #[sAgg a2 n2 c2 a2' n2 c2', bAgg T bb kb eb] w (RetI w (l : Int) k)) := Lib.hid fun a2 a2' c2 c2' p q T bb kb eb zs w l k el ek hT hk hz h1 hr => by have := spec_Cnt_l a2 n2 c2 p a2' n2 c2' q T bb kb eb zs w h1 ⟨by omega, by omega⟩ hT hr (by omega) hz; rw [el, ek] at this; exact this
  have hS64 : I64 S := ⟨by omega, by omega⟩
  clear hsm hap
  rcases col_facts f g S ys with ⟨C, hC, e1⟩ | ⟨S2, rfl, hS22, hS26, hbr, hsol, LL, e1, hL5, hLL⟩
  · have HE := Lib.hid e1; clear e1 hL0
    have u0 : (C != C) = false := by simp
    have u1 : (C == C) = true := by simp
    have u2 : (C != 0) = true := by simpa using hC
    have m1 := ((Loc.new w1 rfl #[.slice a1 n2 c1, .slice a1' n2 c1'] 26).alloc (.cells #[.int .i64 S, .slice ab nb cb] 29)).two
    have m2 := (Loc.new (b := w1.heap.size + 1) (w1.alloc (.cells #[.slice a1 n2 c1, .slice a1' n2 c1'] 26)) (by simp) #[.int .i64 S, .slice ab nb cb] 29).two
    go_wp2_with fail
    refine (HCL.out _ [] C HE.out ⟨((hof1.alloc (.cells #[.slice a1 n2 c1, .slice a1' n2 c1'] 26)).alloc (.cells #[.int .i64 S, .slice ab nb cb] 29)).tbl, ((hos1.alloc (.cells #[.slice a1 n2 c1, .slice a1' n2 c1'] 26)).alloc (.cells #[.int .i64 S, .slice ab nb cb] 29)).tbl⟩ ((hob1.alloc (.cells #[.slice a1 n2 c1, .slice a1' n2 c1'] 26)).alloc (.cells #[.int .i64 S, .slice ab nb cb] 29)).row).mono ?_
    rintro e w2 ⟨aL, nL, cL, vsL, rfl, hoL, hbw2⟩
    clear m1 m2
    have hL1 := ((Loc.new w1 rfl #[.slice a1 n2 c1, .slice a1' n2 c1'] 26).alloc (.cells #[.int .i64 S, .slice ab nb cb] 29)).below hbw2 ((Loc.new w1 rfl #[.slice a1 n2 c1, .slice a1' n2 c1'] 26).alloc (.cells #[.int .i64 S, .slice ab nb cb] 29)).lt
    have l1 := hL1.two
    have hL2 := (Loc.new (b := w1.heap.size + 1) (w1.alloc (.cells #[.slice a1 n2 c1, .slice a1' n2 c1'] 26)) (by simp) #[.int .i64 S, .slice ab nb cb] 29).below hbw2 (Loc.new (b := w1.heap.size + 1) (w1.alloc (.cells #[.slice a1 n2 c1, .slice a1' n2 c1'] 26)) (by simp) #[.int .i64 S, .slice ab nb cb] 29).lt
    have l2 := hL2.two
    replace hof1 := ((hof1.alloc (.cells #[.slice a1 n2 c1, .slice a1' n2 c1'] 26)).alloc (.cells #[.int .i64 S, .slice ab nb cb] 29)).below hbw2
    replace hos1 := ((hos1.alloc (.cells #[.slice a1 n2 c1, .slice a1' n2 c1'] 26)).alloc (.cells #[.int .i64 S, .slice ab nb cb] 29)).below hbw2
    replace hob1 := ((hob1.alloc (.cells #[.slice a1 n2 c1, .slice a1' n2 c1'] 26)).alloc (.cells #[.int .i64 S, .slice ab nb cb] 29)).below hbw2
    replace hB := below_th (below_al (below_al hB (.cells #[.slice a1 n2 c1, .slice a1' n2 c1'] 26)) (.cells #[.int .i64 S, .slice ab nb cb] 29)) hbw2
    go_wp2_with fail
    refine (HSL.out _ [] C HE.out ⟨hof1.tbl, hos1.tbl⟩ hob1.row).mono ?_
    rintro e w3 ⟨aM, nM, cM, vsM, rfl, hoM, hbw3⟩
    replace hL1 := hL1.below hbw3 hL1.lt
    replace l1 := hL1.two
    replace hL2 := hL2.below hbw3 hL2.lt
    replace l2 := hL2.two
    replace hof1 := hof1.below hbw3
    replace hos1 := hos1.below hbw3
    replace hob1 := hob1.below hbw3
    replace hoL := hoL.below hbw3
    replace hB := below_th hB hbw3
    go_wp2_with fail
    refine (same9_same _ _ _ _ _ _ [] _ hoL.tbl hoM.tbl (by have := hoL.cap; omega)).mono ?_
    rintro e w4 ⟨rfl, hbw4⟩
    replace hL1 := hL1.below hbw4 hL1.lt
    replace l1 := hL1.two
    replace hL2 := hL2.below hbw4 hL2.lt
    replace l2 := hL2.two
    replace hof1 := hof1.below hbw4
    replace hos1 := hos1.below hbw4
    replace hob1 := hob1.below hbw4
    replace hoL := hoL.below hbw4
    replace hoM := hoM.below hbw4
    replace hB := below_th hB hbw4
    clear hoM
    go_wp2_with fail
    refine (HCI.out a1 a1' c1 c1' f g _ ab nb cb ys _ 0 C (by rw [HE.out]; rfl) (by rw [HE.out]) hS64 (by omega) HI.out ⟨hof1.tbl, hos1.tbl⟩ hob1.row).mono ?_
    rintro e w5 ⟨rfl, hbw5⟩
    replace hL1 := hL1.below hbw5 hL1.lt
    replace l1 := hL1.two
    replace hL2 := hL2.below hbw5 hL2.lt
    replace l2 := hL2.two
    replace hof1 := hof1.below hbw5
    replace hos1 := hos1.below hbw5
    replace hob1 := hob1.below hbw5
    replace hoL := hoL.below hbw5
    replace hB := below_th hB hbw5
    go_wp2
    go_ret
    exact ⟨rfl, hB⟩
  · have HE := Lib.hid e1; have HLL := Lib.hid hLL; have HBR := Lib.hid hbr; have HSOL := Lib.hid hsol
    obtain ⟨L, hL⟩ : ∃ L : Nat, L = LL.length := ⟨_, rfl⟩
    rw [← hL] at hL5
    have HL := Lib.hid hL.symm
    have HCJ : Hid (∀ X : Int, (X ≠ 0 ∧ 1 - (S2 : Int) ≤ X ∧ X ≤ (S2 : Int) - 1) → conjF S2 ys X = (0, [], 3) ∨ (conjF S2 ys X = ((S2 : Int), [X] ++ ys ++ [-X], 0) ∧ (colsF f g S2 ([X] ++ ys ++ [-X])).1.length = L ∧ (colsF f g S2 ([X] ++ ys ++ [-X])).2 = 0 ∧ I64s ([X] ++ ys ++ [-X]) ∧ ([X] ++ ys ++ [-X]).length ≤ 30)) := Lib.hid fun X hX => by rw [hL]; exact conj_facts hbr e1 X hX
    have HRK : Hid (ndF f g = true → isRk (drL n2 f g) = true) := Lib.hid fun e2 => by
      have hr : f.all permOk = true := by unfold ndF at e2; rw [Bool.and_eq_true] at e2; exact e2.1
      have hy := ybe_of hsol hr
      rw [← hL0] at hy
      exact hy.rk (by omega)
    have HCO : Hid (∀ i, i < L → ∀ (w : World) (al : Option Addr) (m cl : Nat), Sol w a1 n2 f a1' n2 g → Row w ab nb ys → Row w al m (LL.getD i []) → Calls Tryz.prog 11 #[sAgg a1 n2 c1 a1' n2 c1', bAgg S2 ab nb cb, .slice al m cl] w (RetO w true 0)) := Lib.hid fun i hi w al m cl h1 hr hl => by
      obtain ⟨q1, q2, q3⟩ := hLL i (by omega)
      have := impl_Col_l a1 n2 c1 f a1' n2 c1' g S2 ab nb cb ys al m cl (LL.getD i []) w h1 ⟨by omega, by omega⟩ hS64 hr (by omega) HI.out hl (by have := hl.len; omega) (lsI64 (by omega) q2)
      rw [q1] at this
      exact this
    clear e1 hLL hbr hsol hL hL0
    have u1 : ((L : Int) != (L : Int)) = false := by simp
    have m1 := ((Loc.new w1 rfl #[.slice a1 n2 c1, .slice a1' n2 c1'] 26).alloc (.cells #[.int .i64 S2, .slice ab nb cb] 29)).two
    have m2 := (Loc.new (b := w1.heap.size + 1) (w1.alloc (.cells #[.slice a1 n2 c1, .slice a1' n2 c1'] 26)) (by simp) #[.int .i64 S2, .slice ab nb cb] 29).two
    go_wp2_with fail
    refine (HCL.out _ LL 0 HE.out ⟨((hof1.alloc (.cells #[.slice a1 n2 c1, .slice a1' n2 c1'] 26)).alloc (.cells #[.int .i64 S2, .slice ab nb cb] 29)).tbl, ((hos1.alloc (.cells #[.slice a1 n2 c1, .slice a1' n2 c1'] 26)).alloc (.cells #[.int .i64 S2, .slice ab nb cb] 29)).tbl⟩ ((hob1.alloc (.cells #[.slice a1 n2 c1, .slice a1' n2 c1'] 26)).alloc (.cells #[.int .i64 S2, .slice ab nb cb] 29)).row).mono ?_
    rintro e w2 ⟨aL, nL, cL, vsL, rfl, hoL, hbw2⟩
    clear m1 m2
    have hL1 := ((Loc.new w1 rfl #[.slice a1 n2 c1, .slice a1' n2 c1'] 26).alloc (.cells #[.int .i64 S2, .slice ab nb cb] 29)).below hbw2 ((Loc.new w1 rfl #[.slice a1 n2 c1, .slice a1' n2 c1'] 26).alloc (.cells #[.int .i64 S2, .slice ab nb cb] 29)).lt
    have l1 := hL1.two
    have hL2 := (Loc.new (b := w1.heap.size + 1) (w1.alloc (.cells #[.slice a1 n2 c1, .slice a1' n2 c1'] 26)) (by simp) #[.int .i64 S2, .slice ab nb cb] 29).below hbw2 (Loc.new (b := w1.heap.size + 1) (w1.alloc (.cells #[.slice a1 n2 c1, .slice a1' n2 c1'] 26)) (by simp) #[.int .i64 S2, .slice ab nb cb] 29).lt
    have l2 := hL2.two
    replace hof1 := ((hof1.alloc (.cells #[.slice a1 n2 c1, .slice a1' n2 c1'] 26)).alloc (.cells #[.int .i64 S2, .slice ab nb cb] 29)).below hbw2
    replace hos1 := ((hos1.alloc (.cells #[.slice a1 n2 c1, .slice a1' n2 c1'] 26)).alloc (.cells #[.int .i64 S2, .slice ab nb cb] 29)).below hbw2
    replace hob1 := ((hob1.alloc (.cells #[.slice a1 n2 c1, .slice a1' n2 c1'] 26)).alloc (.cells #[.int .i64 S2, .slice ab nb cb] 29)).below hbw2
    replace hB := below_th (below_al (below_al hB (.cells #[.slice a1 n2 c1, .slice a1' n2 c1'] 26)) (.cells #[.int .i64 S2, .slice ab nb cb] 29)) hbw2
    go_wp2_with fail
    refine (HSL.out _ LL 0 HE.out ⟨hof1.tbl, hos1.tbl⟩ hob1.row).mono ?_
    rintro e w3 ⟨aM, nM, cM, vsM, rfl, hoM, hbw3⟩
    replace hL1 := hL1.below hbw3 hL1.lt
    replace l1 := hL1.two
    replace hL2 := hL2.below hbw3 hL2.lt
    replace l2 := hL2.two
    replace hof1 := hof1.below hbw3
    replace hos1 := hos1.below hbw3
    replace hob1 := hob1.below hbw3
    replace hoL := hoL.below hbw3
    replace hB := below_th hB hbw3
    obtain rfl : L = nL := by have := hoL.len; rw [HL.out] at this; exact this.symm
    obtain rfl : L = nM := by have := hoM.len; rw [HL.out] at this; exact this.symm
    go_wp2_with fail
    refine (same9_same _ _ _ _ _ _ LL _ hoL.tbl hoM.tbl (by have := hoL.cap; omega)).mono ?_
    rintro e w4 ⟨rfl, hbw4⟩
    replace hL1 := hL1.below hbw4 hL1.lt
    replace l1 := hL1.two
    replace hL2 := hL2.below hbw4 hL2.lt
    replace l2 := hL2.two
    replace hof1 := hof1.below hbw4
    replace hos1 := hos1.below hbw4
    replace hob1 := hob1.below hbw4
    replace hoL := hoL.below hbw4
    replace hoM := hoM.below hbw4
    replace hB := below_th hB hbw4
    clear hoM
    go_wp2_with fail
    refine (HCI.out a1 a1' c1 c1' f g _ ab nb cb ys _ L 0 (by rw [HE.out]; exact HL.out) (by rw [HE.out]) hS64 (by omega) HI.out ⟨hof1.tbl, hos1.tbl⟩ hob1.row).mono ?_
    rintro e w5 ⟨rfl, hbw5⟩
    replace hL1 := hL1.below hbw5 hL1.lt
    replace l1 := hL1.two
    replace hL2 := hL2.below hbw5 hL2.lt
    replace l2 := hL2.two
    replace hof1 := hof1.below hbw5
    replace hos1 := hos1.below hbw5
    replace hob1 := hob1.below hbw5
    replace hoL := hoL.below hbw5
    replace hB := below_th hB hbw5
    clear HCL HSL
    go_wp2
    go_loopw [11, 12, 13] (fun i _ _ wr => ∃ k : Nat, k ≤ L ∧ i = .int .i64 k ∧ Below w5.heap.size w5 wr) (fun i _ _ _ => L - (intOf i).toNat)
    case atStart => exact ⟨0, Nat.zero_le _, rfl, Below.refl _ _⟩
    case round =>
      obtain ⟨k, hk, rfl, hq⟩ := hrel
      obtain ⟨V, rfl⟩ : ∃ V : World, V = wr := ⟨_, rfl⟩
      have lX := (hL1.below hq hL1.lt).two
      have lE := (hL2.below hq hL2.lt).two
      by_cases hlt : k < L
      · obtain ⟨b1, o1, ai, ni, ci, e1, lb, ck, rk, lk⟩ := ((hoL.below hq).tbl).2 k hlt
        cases e1
        have i1 : (0 : Int) ≤ (k : Int) := by omega
        have i2 : (k : Int) < (L : Int) := by omega
        have hsv : Sol (V.drewN 1) a1 n2 f a1' n2 g := ⟨((hof1.below hq).tbl).drewN 1, ((hos1.below hq).tbl).drewN 1⟩
        have hrv : Row (V.drewN 1) ab nb ys := ((hob1.below hq).row).drewN 1
        have HK := Lib.hid (HCO.out k hlt (V.drewN 1) ai ni ci hsv hrv (rk.drewN 1))
        go_wp2
        go_region_held3 (fun w' => (w'.cell? ⟨w1.heap.size, 0, none⟩ = some (.slice a1 n2 c1) ∧ w'.cell? ⟨w1.heap.size, 1, none⟩ = some (.slice a1' n2 c1')) ∧ (w'.cell? ⟨w1.heap.size + 1, 0, none⟩ = some (.int .i64 S2) ∧ w'.cell? ⟨w1.heap.size + 1, 1, none⟩ = some (.slice ab nb cb)) ∧ w'.cell? ⟨b1, o1 + k, none⟩ = some (.slice ai ni ci))
          (first | exact ⟨⟨lX9.1, lX9.2.1⟩, ⟨lE9.1, lE9.2.1⟩, ck9⟩ | exact ⟨⟨lX.1, lX.2.1⟩, ⟨lE.1, lE.2.1⟩, ck⟩ | go_keep)
          (first | (go_at_call 11; refine HK.out.mono ?_; rintro e w9 ⟨rfl, hb9⟩; have hqq := below_th hq (below_th (below_drewN (Below.refl _ _) 1) hb9); have lX9 := (hL1.below hqq hL1.lt).two; have lE9 := (hL2.below hqq hL2.lt).two; have ck9 := (hb9.cell (p := ⟨b1, o1 + k, none⟩) lb).trans ck))
        all_goals
          go_wp2
          go_roundw
          case rel => exact ⟨k + 1, by omega, by go_num, hqq⟩
          case measure => simp [intOf]; omega
      · obtain rfl : L = k := by omega
        clear lX lE
        replace hL1 := hL1.below hq hL1.lt
        replace l1 := hL1.two
        replace hL2 := hL2.below hq hL2.lt
        replace l2 := hL2.two
        replace hof1 := hof1.below hq
        replace hos1 := hos1.below hq
        replace hob1 := hob1.below hq
        replace hoL := hoL.below hq
        replace hB := below_th hB hq
        clear hq hk
        have HCB : Hid (∀ (X T : Int) (Z : List Int) (K : Int) (w : World), conjF S2 ys X = (T, Z, K) → I64 X → Row w ab nb ys → Calls Tryz.prog 14 #[bAgg S2 ab nb cb, .int .i64 X] w (RetB w T Z K)) := Lib.hid fun X T Z K w e hX hr => by have := impl_Conj_any S2 ab nb cb ys X w hr (by omega) hS64 hX; rw [e] at this; exact this
        have HRS : Hid (∃ R : Nat, R + 1 = S2) := Lib.hid ⟨S2 - 1, by omega⟩
        obtain ⟨R, hR⟩ := HRS.out
        have hR1 : 1 ≤ R := by omega
        have hR64 : I64 (R : Int) := ⟨by omega, by omega⟩
        have wq1 : wrap64 ((S2 : Int) - 1) = (R : Int) := (IntWalk.wrap64_in _ (by omega)).trans (by omega)
        have wq2 : IntKind.i64.wrap ((S2 : Int) - 1) = (R : Int) := (IntWalk.i64_in _ (by omega)).trans (by omega)
        have HRQ : Hid (∀ q : Nat, q < R → ∃ P : Nat, 1 ≤ P ∧ P < S2 ∧ wrap64 (1 + (q : Int)) = (P : Int) ∧ IntKind.i64.wrap (1 + (q : Int)) = (P : Int) ∧ wrap64 (-(P : Int)) = -(P : Int) ∧ IntKind.i64.wrap (-(P : Int)) = -(P : Int)) := Lib.hid fun q hq => ⟨1 + q, by omega, by omega, (IntWalk.wrap64_in _ (by omega)).trans (by omega), (IntWalk.i64_in _ (by omega)).trans (by omega), IntWalk.wrap64_in _ (by omega), IntWalk.i64_in _ (by omega)⟩
        clear hR
        go_wp2_with fail
        refine (roll_ok a n c xs 1404 _ (h.below hB) hn).mono ?_
        rintro e w7 ⟨bd, rfl, hbd, hdc, hb7⟩
        have hlt2 : w1.heap.size + 1 < bd := Nat.lt_of_lt_of_le hL2.lt hbd
        have hwbd : w.heap.size ≤ bd := Nat.le_trans hB.size hbd
        have HOH := Lib.hid (fun g e => Nat.lt_of_lt_of_le (hob1.hi g e) hbd)
        have lE7 := (hL2.below hb7 hL2.lt).two
        go_wp2_with fail
        refine (below_ok bd (R : Int) _ hdc hR64).mono ?_
        rintro e w8 ⟨y, rfl, _, hy, hdc8, hg8⟩
        obtain ⟨hy1, hy2⟩ := hy (by omega)
        obtain ⟨q, rfl⟩ : ∃ q : Nat, y = (q : Int) := ⟨y.toNat, by omega⟩
        have hb8 := below_grown hb7 hg8 hbd
        obtain ⟨P, hP1, hPS, wp1, wp2, wn1, wn2⟩ := HRQ.out q (by omega)
        clear lE7 hy hy1 hy2 hdc hg8 hb7
        go_wp2_with fail
        refine (below_ok bd 2 _ hdc8 ⟨by omega, by omega⟩).mono ?_
        rintro e w9 ⟨y2, rfl, _, hy, hdc9, hg9⟩
        obtain ⟨hy1, hy2⟩ := hy (by omega)
        have hb9 := below_grown hb8 hg9 hbd
        have hy3 : y2 = 0 ∨ y2 = 1 := by omega
        clear hy hy1 hy2 hdc8 hg9 hb8 wq1 wq2 wp1 wp2
        go_upto_if 117 with fail
        go_cut [15] (fun s15 wx => ∃ X : Int, s15 = .int .i64 X ∧ Hid (X ≠ 0 ∧ 1 - (S2 : Int) ≤ X ∧ X ≤ (S2 : Int) - 1) ∧ Dic wx bd ∧ Below V.heap.size V wx)
        case first =>
          rcases hy3 with rfl | rfl
          · go_wp2
            go_meet
            exact ⟨-(P : Int), rfl, Lib.hid ⟨by omega, by omega, by omega⟩, hdc9, hb9⟩
          · go_wp2
            go_meet
            exact ⟨(P : Int), rfl, Lib.hid ⟨by omega, by omega, by omega⟩, hdc9, hb9⟩
        case rest =>
        obtain ⟨X, rfl, HX, hodc, hbc⟩ := hcut
        clear hy3 hdc9 hb9 wn1 wn2 hP1 hPS
        have hX64 : I64 X := by have := HX.out; exact ⟨by omega, by omega⟩
        have HCK : Hid (∃ (T : Int) (Z : List Int) (K : Int), Hid (conjF S2 ys X = (T, Z, K)) ∧ (K = 3 ∨ (K = 0 ∧ T = (S2 : Int) ∧ (colsF f g S2 Z).1.length = L ∧ (colsF f g S2 Z).2 = 0 ∧ I64s Z ∧ Z.length ≤ 30))) := Lib.hid (by
          rcases HCJ.out X HX.out with e4 | ⟨e4, e5, e6, e7, e8⟩
          · exact ⟨0, [], 3, Lib.hid e4, .inl rfl⟩
          · exact ⟨(S2 : Int), _, 0, Lib.hid e4, .inr ⟨rfl, rfl, e5, e6, e7, e8⟩⟩)
        obtain ⟨T4, Z4, K4, HE4, HK4⟩ := HCK.out
        replace HK4 := Lib.hid HK4
        clear HCK HCJ HX
        replace hL1 := hL1.below hbc hL1.lt
        replace l1 := hL1.two
        replace hL2 := hL2.below hbc hL2.lt
        replace l2 := hL2.two
        replace hof1 := hof1.below hbc
        replace hos1 := hos1.below hbc
        replace hob1 := hob1.below hbc
        replace hoL := hoL.below hbc
        replace hB := below_th hB hbc
        go_wp2_with fail
        refine (HCB.out X T4 Z4 K4 _ HE4.out hX64 hob1.row).mono ?_
        rintro e w6 ⟨a4, n4, c4, rfl, ho4, hbw6⟩
        replace hL1 := hL1.below hbw6 hL1.lt
        replace l1 := hL1.two
        replace hL2 := hL2.below hbw6 hL2.lt
        replace l2 := hL2.two
        replace hof1 := hof1.below hbw6
        replace hos1 := hos1.below hbw6
        replace hob1 := hob1.below hbw6
        replace hoL := hoL.below hbw6
        replace hodc := hodc.below hbw6
        replace hB := below_th hB hbw6
        have m1 := (hL1.alloc (.cells #[.int .i64 T4, .slice a4 n4 c4] 29)).two
        have m2 := (hL2.alloc (.cells #[.int .i64 T4, .slice a4 n4 c4] 29)).two
        have m4 := (Loc.new w6 rfl #[.int .i64 T4, .slice a4 n4 c4] 29).two
        obtain ⟨wa, hw_wa⟩ : ∃ wa, w6.alloc (.cells #[.int .i64 T4, .slice a4 n4 c4] 29) = wa := ⟨_, rfl⟩
        have hb_wa : Below (w6.alloc (.cells #[.int .i64 T4, .slice a4 n4 c4] 29)).heap.size (w6.alloc (.cells #[.int .i64 T4, .slice a4 n4 c4] 29)) wa := by rw [hw_wa]; exact Below.refl _ _
        replace hL1 := (hL1.alloc (.cells #[.int .i64 T4, .slice a4 n4 c4] 29)).below hb_wa (hL1.alloc (.cells #[.int .i64 T4, .slice a4 n4 c4] 29)).lt
        replace l1 := hL1.two
        replace hL2 := (hL2.alloc (.cells #[.int .i64 T4, .slice a4 n4 c4] 29)).below hb_wa (hL2.alloc (.cells #[.int .i64 T4, .slice a4 n4 c4] 29)).lt
        replace l2 := hL2.two
        have hL4 := (Loc.new w6 rfl #[.int .i64 T4, .slice a4 n4 c4] 29).below hb_wa (Loc.new w6 rfl #[.int .i64 T4, .slice a4 n4 c4] 29).lt
        have l4 := hL4.two
        replace hof1 := (hof1.alloc (.cells #[.int .i64 T4, .slice a4 n4 c4] 29)).below hb_wa
        replace hos1 := (hos1.alloc (.cells #[.int .i64 T4, .slice a4 n4 c4] 29)).below hb_wa
        replace hob1 := (hob1.alloc (.cells #[.int .i64 T4, .slice a4 n4 c4] 29)).below hb_wa
        replace hoL := (hoL.alloc (.cells #[.int .i64 T4, .slice a4 n4 c4] 29)).below hb_wa
        replace hodc := (hodc.alloc (.cells #[.int .i64 T4, .slice a4 n4 c4] 29)).below hb_wa
        replace ho4 := (ho4.alloc (.cells #[.int .i64 T4, .slice a4 n4 c4] 29)).below hb_wa
        replace hB := below_th (below_al hB (.cells #[.int .i64 T4, .slice a4 n4 c4] 29)) hb_wa
        have HW_wa := Lib.hid hw_wa; clear hw_wa hb_wa
        go_upto_if 127 with fail
        try rw [HW_wa.out]
        clear m1 m2 m4
        go_cut [17] (fun s17 wx => Below wa.heap.size wa wx)
        case first =>
          rcases HK4.out with rfl | ⟨rfl, rfl, e5, e6, e7, e8⟩
          · go_wp2
            go_meet
            exact Below.refl _ _
          · have HE5 := Lib.hid e5; have HE6 := Lib.hid e6; have HE7 := Lib.hid e7; clear e5 e6 e7
            have hn4 : n4 ≤ 30 := by have := ho4.len; omega
            go_wp2_with fail
            refine (HCI.out a1 a1' c1 c1' f g S2 a4 n4 c4 Z4 _ L 0 HE5.out HE6.out hS64 (by omega) HE7.out ⟨hof1.tbl, hos1.tbl⟩ ho4.row).mono ?_
            rintro e wz ⟨rfl, hbz⟩
            go_wp2
            go_meet
            exact hbz
        case rest =>
        have hbc2 : Below wa.heap.size wa wc := hcut
        clear hcut
        clear hL4 l4
        replace hL1 := hL1.below hbc2 hL1.lt
        replace l1 := hL1.two
        replace hL2 := hL2.below hbc2 hL2.lt
        replace l2 := hL2.two
        replace hof1 := hof1.below hbc2
        replace hos1 := hos1.below hbc2
        replace hob1 := hob1.below hbc2
        replace hoL := hoL.below hbc2
        replace hodc := hodc.below hbc2
        replace hB := below_th hB hbc2
        go_wp2_with fail
        refine (DerivedRack_any n2 a1 a1' c1 c1' f g _ hof1.tbl hos1.tbl HSOL.out (by omega)).mono ?_
        rintro e w7 hD
        unfold DerR at hD
        rcases hD with ⟨hd, rfl, hbw7⟩ | ⟨hd, a5, c5, vs5, rfl, ho5, hbw7⟩
        · clear hd
          replace hL1 := hL1.below hbw7 hL1.lt
          replace l1 := hL1.two
          replace hL2 := hL2.below hbw7 hL2.lt
          replace l2 := hL2.two
          replace hof1 := hof1.below hbw7
          replace hos1 := hos1.below hbw7
          replace hob1 := hob1.below hbw7
          replace hoL := hoL.below hbw7
          replace hodc := hodc.below hbw7
          replace hB := below_th hB hbw7
          go_wp2
          go_ret
          exact ⟨rfl, below_al hB _⟩
        · have HRD := Lib.hid (HRK.out hd); clear hd
          replace hL1 := hL1.below hbw7 hL1.lt
          replace l1 := hL1.two
          replace hL2 := hL2.below hbw7 hL2.lt
          replace l2 := hL2.two
          replace hof1 := hof1.below hbw7
          replace hos1 := hos1.below hbw7
          replace hob1 := hob1.below hbw7
          replace hoL := hoL.below hbw7
          replace hodc := hodc.below hbw7
          replace hB := below_th hB hbw7
          have m1 := (hL1.alloc (.cells #[.slice a5 n2 c5] 46)).two
          have m2 := (hL2.alloc (.cells #[.slice a5 n2 c5] 46)).two
          have m6 := (Loc.new w7 rfl #[.slice a5 n2 c5] 46).one
          go_wp2_with fail
          refine (QuandleOf_ok n2 a5 c5 (drL n2 f g) _ (ho5.alloc (.cells #[.slice a5 n2 c5] 46)).tbl HRD.out).mono ?_
          rintro e w8 ⟨a6, c6, vs6, rfl, ho6, hbw8⟩
          clear m1 m2 m6
          replace hL1 := (hL1.alloc (.cells #[.slice a5 n2 c5] 46)).below hbw8 (hL1.alloc (.cells #[.slice a5 n2 c5] 46)).lt
          replace l1 := hL1.two
          replace hL2 := (hL2.alloc (.cells #[.slice a5 n2 c5] 46)).below hbw8 (hL2.alloc (.cells #[.slice a5 n2 c5] 46)).lt
          replace l2 := hL2.two
          have hL6 := (Loc.new w7 rfl #[.slice a5 n2 c5] 46).below hbw8 (Loc.new w7 rfl #[.slice a5 n2 c5] 46).lt
          have l6 := hL6.one
          replace hof1 := (hof1.alloc (.cells #[.slice a5 n2 c5] 46)).below hbw8
          replace hos1 := (hos1.alloc (.cells #[.slice a5 n2 c5] 46)).below hbw8
          replace hob1 := (hob1.alloc (.cells #[.slice a5 n2 c5] 46)).below hbw8
          replace hoL := (hoL.alloc (.cells #[.slice a5 n2 c5] 46)).below hbw8
          replace hodc := (hodc.alloc (.cells #[.slice a5 n2 c5] 46)).below hbw8
          replace ho5 := (ho5.alloc (.cells #[.slice a5 n2 c5] 46)).below hbw8
          replace hB := below_th (below_al hB (.cells #[.slice a5 n2 c5] 46)) hbw8
          have HQ2 := Lib.hid (qu_facts ho5.tbl HRD.out)
          have hd12 : bd < ((w8.alloc (.cells #[.slice a6 n2 c6] 46))).heap.size := ((hodc.alloc (.cells #[.slice a6 n2 c6] 46))).lt
          have m1 := (hL1.alloc (.cells #[.slice a6 n2 c6] 46)).two
          have m2 := (hL2.alloc (.cells #[.slice a6 n2 c6] 46)).two
          have m6 := (hL6.alloc (.cells #[.slice a6 n2 c6] 46)).one
          have m7 := (Loc.new w8 rfl #[.slice a6 n2 c6] 46).one
          go_wp2_with fail
          refine (RackSolution_ok n2 a6 c6 (quL n2 (drL n2 f g)) _ (ho6.alloc (.cells #[.slice a6 n2 c6] 46)).tbl HQ2.out.1).mono ?_
          rintro e w9 ⟨a7, c7, vs7, a7', c7', vs7', rfl, ho7, hbw9⟩
          clear m1 m2 m6 m7
          replace hL1 := (hL1.alloc (.cells #[.slice a6 n2 c6] 46)).below hbw9 (hL1.alloc (.cells #[.slice a6 n2 c6] 46)).lt
          replace l1 := hL1.two
          replace hL2 := (hL2.alloc (.cells #[.slice a6 n2 c6] 46)).below hbw9 (hL2.alloc (.cells #[.slice a6 n2 c6] 46)).lt
          replace l2 := hL2.two
          replace hL6 := (hL6.alloc (.cells #[.slice a6 n2 c6] 46)).below hbw9 (hL6.alloc (.cells #[.slice a6 n2 c6] 46)).lt
          replace l6 := hL6.one
          have hL7 := (Loc.new w8 rfl #[.slice a6 n2 c6] 46).below hbw9 (Loc.new w8 rfl #[.slice a6 n2 c6] 46).lt
          have l7 := hL7.one
          replace hof1 := (hof1.alloc (.cells #[.slice a6 n2 c6] 46)).below hbw9
          replace hos1 := (hos1.alloc (.cells #[.slice a6 n2 c6] 46)).below hbw9
          replace hob1 := (hob1.alloc (.cells #[.slice a6 n2 c6] 46)).below hbw9
          replace hoL := (hoL.alloc (.cells #[.slice a6 n2 c6] 46)).below hbw9
          replace hodc := (hodc.alloc (.cells #[.slice a6 n2 c6] 46)).below hbw9
          replace ho5 := (ho5.alloc (.cells #[.slice a6 n2 c6] 46)).below hbw9
          replace ho6 := (ho6.alloc (.cells #[.slice a6 n2 c6] 46)).below hbw9
          replace hB := below_th (below_al hB (.cells #[.slice a6 n2 c6] 46)) hbw9
          have hof7 := ho7.f
          have hos7 := ho7.s
          clear ho7
          have hd13 : bd < w9.heap.size := hodc.lt
          have m2 := (hL2.alloc (.cells #[.slice a7 n2 c7, .slice a7' n2 c7'] 26)).two
          have m7 := (hL7.alloc (.cells #[.slice a7 n2 c7, .slice a7' n2 c7'] 26)).one
          have m8 := (Loc.new w9 rfl #[.slice a7 n2 c7, .slice a7' n2 c7'] 26).two
          obtain ⟨wb, hw_wb⟩ : ∃ wb, w9.alloc (.cells #[.slice a7 n2 c7, .slice a7' n2 c7'] 26) = wb := ⟨_, rfl⟩
          have hb_wb : Below (w9.alloc (.cells #[.slice a7 n2 c7, .slice a7' n2 c7'] 26)).heap.size (w9.alloc (.cells #[.slice a7 n2 c7, .slice a7' n2 c7'] 26)) wb := by rw [hw_wb]; exact Below.refl _ _
          replace hL1 := (hL1.alloc (.cells #[.slice a7 n2 c7, .slice a7' n2 c7'] 26)).below hb_wb (hL1.alloc (.cells #[.slice a7 n2 c7, .slice a7' n2 c7'] 26)).lt
          replace l1 := hL1.two
          replace hL2 := (hL2.alloc (.cells #[.slice a7 n2 c7, .slice a7' n2 c7'] 26)).below hb_wb (hL2.alloc (.cells #[.slice a7 n2 c7, .slice a7' n2 c7'] 26)).lt
          replace l2 := hL2.two
          replace hL6 := (hL6.alloc (.cells #[.slice a7 n2 c7, .slice a7' n2 c7'] 26)).below hb_wb (hL6.alloc (.cells #[.slice a7 n2 c7, .slice a7' n2 c7'] 26)).lt
          replace l6 := hL6.one
          replace hL7 := (hL7.alloc (.cells #[.slice a7 n2 c7, .slice a7' n2 c7'] 26)).below hb_wb (hL7.alloc (.cells #[.slice a7 n2 c7, .slice a7' n2 c7'] 26)).lt
          replace l7 := hL7.one
          have hL8 := (Loc.new w9 rfl #[.slice a7 n2 c7, .slice a7' n2 c7'] 26).below hb_wb (Loc.new w9 rfl #[.slice a7 n2 c7, .slice a7' n2 c7'] 26).lt
          have l8 := hL8.two
          replace hof1 := (hof1.alloc (.cells #[.slice a7 n2 c7, .slice a7' n2 c7'] 26)).below hb_wb
          replace hos1 := (hos1.alloc (.cells #[.slice a7 n2 c7, .slice a7' n2 c7'] 26)).below hb_wb
          replace hob1 := (hob1.alloc (.cells #[.slice a7 n2 c7, .slice a7' n2 c7'] 26)).below hb_wb
          replace hoL := (hoL.alloc (.cells #[.slice a7 n2 c7, .slice a7' n2 c7'] 26)).below hb_wb
          replace hodc := (hodc.alloc (.cells #[.slice a7 n2 c7, .slice a7' n2 c7'] 26)).below hb_wb
          replace ho5 := (ho5.alloc (.cells #[.slice a7 n2 c7, .slice a7' n2 c7'] 26)).below hb_wb
          replace ho6 := (ho6.alloc (.cells #[.slice a7 n2 c7, .slice a7' n2 c7'] 26)).below hb_wb
          replace hof7 := (hof7.alloc (.cells #[.slice a7 n2 c7, .slice a7' n2 c7'] 26)).below hb_wb
          replace hos7 := (hos7.alloc (.cells #[.slice a7 n2 c7, .slice a7' n2 c7'] 26)).below hb_wb
          replace hB := below_th (below_al hB (.cells #[.slice a7 n2 c7, .slice a7' n2 c7'] 26)) hb_wb
          have HW_wb := Lib.hid hw_wb; clear hw_wb hb_wb
          go_upto_region 35 with fail
          try rw [HW_wb.out]
          clear m2 m7 m8
          go_cut [26, 27] (fun s26 s27 wx => ∃ (E K8 T8 : Int) (Z8 : List Int) (bl : Nat) (a8 : Option Addr) (k8 c8 : Nat), s26 = .pointer (some ⟨bl, 0, none⟩) ∧ s27 = .int .i64 K8 ∧ Hid (stabF S2 ys E = (T8, Z8, K8)) ∧ Hid (E = 1 ∨ E = -1) ∧ Loc wx bl #[.int .i64 T8, .slice a8 k8 c8] 29 ∧ Row wx a8 k8 Z8 ∧ wb.grownBy wx (some bd))
          case first =>
            have HSB : Hid (∀ (E T K : Int) (Z : List Int) (w : World), stabF S2 ys E = (T, Z, K) → I64 E → Row w ab nb ys → Calls Tryz.prog 18 #[bAgg S2 ab nb cb, .int .i64 E] w (RetB w T Z K)) := Lib.hid fun E T K Z w e hE hr => by have := impl_Stab_any S2 ab nb cb ys E w hr (by omega) hS64 hE; rw [e] at this; exact this
            have HTW := Lib.hid two_w
            have h264 : I64 2 := ⟨by omega, by omega⟩
            have nEb : some (w1.heap.size + 1) ≠ some bd := by simp; omega
            have HNB : Hid (∀ g, ab = some ⟨g, 0, none⟩ → some g ≠ some bd) := Lib.hid (fun g e => by have := HOH.out g e; simp; omega)
            have lE := hL2.two
            have hzb := hL2.lt
            have tok1 : True := trivial
            have hBA : Below wb.heap.size wb ((wb.alloc (.cells #[.int .i64 0, .slice none 0 0] 29)).drewN 1) := below_drewN (below_al (Below.refl _ _) _) 1
            have hBB : Below wb.heap.size wb (wb.drewN 1) := below_drewN (Below.refl _ _) 1
            go_region_held3 (fun w' => w'.cell? ⟨w1.heap.size + 1, 0, none⟩ = some (.int .i64 S2) ∧ w'.cell? ⟨w1.heap.size + 1, 1, none⟩ = some (.slice ab nb cb))
              (first | exact lM | exact l15 | exact l14 | exact ⟨lE.1, lE.2.1⟩ | go_keep)
              (first
                | (go_at_call 18; have _t := tokA; refine (HSB.out E T8 K8 Z8 (w14) HE8.out hE64 (hr14)).mono ?_; rintro e w15 ⟨a8, k8, c8, rfl, ho8, hb15⟩; clear _t tokA; have kindA : True := trivial; have hO15 := hO14.below hb15 hO14.lt; have lO15 := hO15.two; have l15 := (((hL14)).below hb15 (hL14).lt).two; have hL15 := (((hL14)).below hb15 (hL14).lt); have l16 := ((hL15.setne (a := ⟨wb.heap.size, 0, none⟩) (by show w1.heap.size + 1 ≠ wb.heap.size; omega) (.int .i64 T8)).setne (a := ⟨wb.heap.size, 1, none⟩) (by show w1.heap.size + 1 ≠ wb.heap.size; omega) (.slice a8 k8 c8)).two; have lM := (⟨l16.1, l16.2.1⟩ : _ ∧ _); have l15 := (⟨l15.1, l15.2.1⟩ : _ ∧ _))
                | (go_at_call 18; have _t := tokB; refine (HSB.out E T8 K8 Z8 (w14.alloc (.cells #[.int .i64 0, .slice none 0 0] 29)) HE8.out hE64 (hr14.alloc _)).mono ?_; rintro e w15 ⟨a8, k8, c8, rfl, ho8, hb15⟩; clear _t tokB; have kindB : True := trivial; have hO15 := (Loc.new w14 rfl #[.int .i64 0, .slice none 0 0] 29).below hb15 (by simp); have lO15 := hO15.two; have l15 := ((((hL14.alloc (.cells #[.int .i64 0, .slice none 0 0] 29)))).below hb15 ((hL14.alloc (.cells #[.int .i64 0, .slice none 0 0] 29))).lt).two; have hL15 := ((((hL14.alloc (.cells #[.int .i64 0, .slice none 0 0] 29)))).below hb15 ((hL14.alloc (.cells #[.int .i64 0, .slice none 0 0] 29))).lt); have l16 := ((hL15.setne (a := ⟨w14.heap.size, 0, none⟩) (by show w1.heap.size + 1 ≠ w14.heap.size; have := hL14.lt; omega) (.int .i64 T8)).setne (a := ⟨w14.heap.size, 1, none⟩) (by show w1.heap.size + 1 ≠ w14.heap.size; have := hL14.lt; omega) (.slice a8 k8 c8)).two; have lM := (⟨l16.1, l16.2.1⟩ : _ ∧ _); have l15 := (⟨l15.1, l15.2.1⟩ : _ ∧ _))
                | (go_at_call 18; have _t := tokB; refine (HSB.out E T8 K8 Z8 (w14) HE8.out hE64 (hr14)).mono ?_; rintro e w15 ⟨a8, k8, c8, rfl, ho8, hb15⟩; clear _t tokB; have kindC : True := trivial; have l15 := (((hL14)).below hb15 (hL14).lt).two; have l15 := (⟨l15.1, l15.2.1⟩ : _ ∧ _))
                | (go_at_call 13; have _t := tok1; refine (below_ok bd 2 (wb.drewN 1) (hodc.below hBB) h264).mono ?_; rintro e w14 ⟨y, rfl, _, hy, hd14, hg14'⟩; clear _t tok1; have tokB : True := trivial; have hg14 : wb.grownBy w14 (some bd) := grown_trans (grown_of_below hBB (some bd)) hg14'; obtain ⟨hy1, hy2⟩ := hy (by decide); obtain ⟨M, E, wm1, wm2, we1, we2, hE64, hE1⟩ := HTW.out y hy1 hy2; have hL14 := hL2.grown hg14 nEb; have l14 : w14.cell? ⟨w1.heap.size + 1, 0, none⟩ = some (.int .i64 S2) ∧ w14.cell? ⟨w1.heap.size + 1, 1, none⟩ = some (.slice ab nb cb) := ⟨hL14.two.1, hL14.two.2.1⟩; obtain ⟨T8, Z8, K8, HE8⟩ : ∃ T Z K, Hid (stabF S2 ys E = (T, Z, K)) := ⟨_, _, _, rfl⟩; have hr14 := (hob1.grown hg14 HNB.out).row; have hE1 := Lib.hid hE1; clear hy hy1 hy2)
                | (go_at_call 13; have _t := tok1; refine (below_ok bd 2 ((wb.alloc (.cells #[.int .i64 0, .slice none 0 0] 29)).drewN 1) (hodc.below hBA) h264).mono ?_; rintro e w14 ⟨y, rfl, _, hy, hd14, hg14'⟩; clear _t tok1; have tokA : True := trivial; have hg14 : wb.grownBy w14 (some bd) := grown_trans (grown_of_below hBA (some bd)) hg14'; have hO14 := ((Loc.new wb rfl #[.int .i64 0, .slice none 0 0] 29).drewN 1).grown hg14' (by have := hodc.lt; simp; omega); obtain ⟨hy1, hy2⟩ := hy (by decide); obtain ⟨M, E, wm1, wm2, we1, we2, hE64, hE1⟩ := HTW.out y hy1 hy2; have hL14 := hL2.grown hg14 nEb; have l14 : w14.cell? ⟨w1.heap.size + 1, 0, none⟩ = some (.int .i64 S2) ∧ w14.cell? ⟨w1.heap.size + 1, 1, none⟩ = some (.slice ab nb cb) := ⟨hL14.two.1, hL14.two.2.1⟩; obtain ⟨T8, Z8, K8, HE8⟩ : ∃ T Z K, Hid (stabF S2 ys E = (T, Z, K)) := ⟨_, _, _, rfl⟩; have hr14 := (hob1.grown hg14 HNB.out).row; have hE1 := Lib.hid hE1; clear hy hy1 hy2))
            all_goals first
            | (have kind := kindA
               have hz14 := hO14.lt
               go_wp2
               go_meet
               exact ⟨E, K8, T8, Z8, wb.heap.size, a8, k8, c8, rfl, rfl, HE8, hE1, (hO15.set 0 _).set 1 _, ((ho8.setlo (by show wb.heap.size < w14.heap.size; exact hz14) _).setlo (by show wb.heap.size < w14.heap.size; exact hz14) _).row, grown_set (grown_set (grown_trans hg14 (grown_of_below hb15 (some bd))) (.inr (Nat.le_refl _)) _) (.inr (Nat.le_refl _)) _⟩)
            | (have kind := kindB
               have hz14 := hg14.size
               go_wp2
               go_meet
               have hlt8 : w14.heap.size < (w14.alloc (.cells #[.int .i64 0, .slice none 0 0] 29)).heap.size := by simp
               have hr9 := ((ho8.setlo (p := ⟨w14.heap.size, 0, none⟩) hlt8 (.int .i64 T8)).setlo (p := ⟨w14.heap.size, 1, none⟩) hlt8 (.slice a8 k8 c8)).row
               have hL9' := (hO15.set 0 (.int .i64 T8)).set 1 (.slice a8 k8 c8)
               have hG9 := grown_set (p := ⟨w14.heap.size, 1, none⟩) (grown_set (p := ⟨w14.heap.size, 0, none⟩) (grown_trans (grown_alloc hg14 (.cells #[.int .i64 0, .slice none 0 0] 29)) (grown_of_below hb15 (some bd))) (.inr hz14) (.int .i64 T8)) (.inr hz14) (.slice a8 k8 c8)
               exact ⟨E, K8, T8, Z8, w14.heap.size, a8, k8, c8, rfl, rfl, HE8, hE1, hL9', hr9, hG9⟩)
            | (have kind := kindC
               go_wp2
               go_meet
               have hr9 := (ho8.alloc (.cells #[.int .i64 T8, .slice a8 k8 c8] 29)).row
               have hL9' := Loc.new w15 rfl #[.int .i64 T8, .slice a8 k8 c8] 29
               have hG9 := grown_alloc (grown_trans hg14 (grown_of_below hb15 (some bd))) (.cells #[.int .i64 T8, .slice a8 k8 c8] 29)
               exact ⟨E, K8, T8, Z8, w15.heap.size, a8, k8, c8, rfl, rfl, HE8, hE1, hL9', hr9, hG9⟩)
          case rest =>
          obtain ⟨E, K8, T8, Z8, bl, a8, k8, c8, rfl, rfl, HE8, HE1, hL9, hr8, hG⟩ := hcut
          replace hL8 := hL8.grown hG (by simp; omega)
          replace hL2 := hL2.grown hG (by simp; omega)
          replace hof7 := hof7.grownb hG hd12
          replace hos7 := hos7.grownb hG hd12
          replace hob1 := hob1.grown hG (fun g e => by have := HOH.out g e; simp; omega)
          replace hB := below_grown hB hG hwbd
          have HSF := Lib.hid (stab_facts2 HQ2.out.1 HQ2.out.2.1 HQ2.out.2.2 HBR.out HE1.out HE8.out)
          obtain ⟨hT8, HZ8, hZ8, HK8⟩ : I64 T8 ∧ Hid (I64s Z8) ∧ Z8.length ≤ 31 ∧ Hid (K8 = 3 ∨ (K8 = 0 ∧ ((colsF (quL n2 (drL n2 f g)) (cstL n2) S2 ys).2 = 0 → (colsF (quL n2 (drL n2 f g)) (cstL n2) T8 Z8).2 = 0 → (colsF (quL n2 (drL n2 f g)) (cstL n2) T8 Z8).1.length = (colsF (quL n2 (drL n2 f g)) (cstL n2) S2 ys).1.length))) := ⟨HSF.out.1, Lib.hid HSF.out.2.1, HSF.out.2.2.1, Lib.hid HSF.out.2.2.2⟩
          have hk8 : k8 ≤ 31 := by have := hr8.len; omega
          obtain ⟨X9, HX9⟩ : ∃ X9 : Nat, Hid ((colsF (quL n2 (drL n2 f g)) (cstL n2) S2 ys).1.length = X9) := ⟨_, rfl⟩
          obtain ⟨k9, Hk9⟩ : ∃ k9, Hid ((colsF (quL n2 (drL n2 f g)) (cstL n2) S2 ys).2 = k9) := ⟨_, rfl⟩
          obtain ⟨Y9, HY9⟩ : ∃ Y9 : Nat, Hid ((colsF (quL n2 (drL n2 f g)) (cstL n2) T8 Z8).1.length = Y9) := ⟨_, rfl⟩
          obtain ⟨k10, Hk10⟩ : ∃ k10, Hid ((colsF (quL n2 (drL n2 f g)) (cstL n2) T8 Z8).2 = k10) := ⟨_, rfl⟩
          have HFIN : Hid (K8 = 3 ∨ (K8 = 0 ∧ (k9 = 0 → k10 = 0 → Y9 = X9))) := Lib.hid (by have := HK8.out; rw [HX9.out, Hk9.out, HY9.out, Hk10.out] at this; exact this)
          clear hZ8 HSF HK8 hG hodc
          have u7 : (k10 != k10) = false := by simp
          have l8 := hL8.two
          have l2 := hL2.two
          have l9 := hL9.two
          rcases HFIN.out with rfl | ⟨rfl, hfin⟩
          all_goals
            go_wp2_with fail
            refine (HCI.out a7 a7' c7 c7' _ _ S2 ab nb cb ys _ X9 k9 HX9.out Hk9.out hS64 (by omega) HI.out ⟨hof7.tbl, hos7.tbl⟩ hob1.row).mono ?_
            rintro e v1 ⟨rfl, hv1⟩
            have l81 := (hL8.below hv1 hL8.lt).two
            have l91 := (hL9.below hv1 hL9.lt).two
            have h71 := hof7.below hv1
            have h72 := hos7.below hv1
            have h81 := hr8.below hv1
            go_wp2_with fail
            refine (HCI.out a7 a7' c7 c7' _ _ T8 a8 k8 c8 Z8 _ Y9 k10 HY9.out Hk10.out hT8 (by omega) HZ8.out ⟨h71.tbl, h72.tbl⟩ h81).mono ?_
            rintro e v2 ⟨rfl, hv2⟩
            have l82 := ((hL8.below hv1 hL8.lt).below hv2 (Nat.lt_of_lt_of_le hL8.lt hv1.size)).two
            have l92 := ((hL9.below hv1 hL9.lt).below hv2 (Nat.lt_of_lt_of_le hL9.lt hv1.size)).two
            go_wp2_with fail
            refine (HCS.out a7 a7' c7 c7' _ _ T8 a8 k8 c8 Z8 _ Y9 k10 HY9.out Hk10.out hT8 (by omega) HZ8.out ⟨(h71.below hv2).tbl, (h72.below hv2).tbl⟩ (h81.below hv2)).mono ?_
            rintro e v3 ⟨rfl, hv3⟩
            have hB3 := below_th (below_th (below_th hB hv1) hv2) hv3
            clear hv1 hv2 hv3 l81 l82 l91 l92 l8 l2 l9 h71 h72 h81
            by_cases p9 : k9 = 0
            · by_cases p10 : k10 = 0
              · subst p9 p10
                try (have hxy := hfin rfl rfl; subst hxy; clear hfin; have u8 : ((Y9 : Int) == (Y9 : Int)) = true := by simp)
                go_wp2
                go_ret
                exact ⟨ret_bool (by simp), hB3⟩
              · have u8 : (k10 != 0) = true := by simpa using p10
                subst p9
                try clear hfin
                go_wp2
                go_ret
                exact ⟨ret_bool (by simp), hB3⟩
            · have u8 : (k9 != 0) = true := by simpa using p9
              try clear hfin
              go_wp2
              go_ret
              exact ⟨ret_bool (by simp), hB3⟩
end Go.Proofs.YtmncpnpjhchliaaGreat
