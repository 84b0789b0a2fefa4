/-
  The walk of the law of actions: it answers true.
  No condition.
-/
import Derived.Test.YtjhdbgohdmdpeaaGreatPrDa
import Derived.Test.YtjhdbgohdmdpeaaGreatPrDq
import Derived.Test.YtjhdbgohdmdpeaaGreatBacL
import Derived.Test.YtjhdbgohdmdpeaaGreatBacI
import Derived.Test.YtjhdbgohdmdpeaaGreatIvbI
import Derived.Test.YtjhdbgohdmdpeaaGreatBase5
import Derived.Test.YtjhdbgohdmdpeaaGreatBase4
namespace Go.Proofs.YtjhdbgohdmdpeaaGreat
set_option maxRecDepth 100000
set_option linter.unusedVariables false
set_option linter.unusedSimpArgs false
open Go.RowKit

theorem Bts.alloc {w : World} {a : Option Addr} {n : Nat} {xs : List Int} (h : Bts w a n xs) (o : Obj) : Bts (w.alloc o) a n xs := h.below (below_al (Below.refl _ _) _)
theorem sml_i64b {xs : List Int} (h : Sml xs) : I64s xs := fun x hx => by have := h x hx; exact ⟨by omega, by omega⟩
theorem less_snoc {n : Nat} {l : List Int} (h : Less n l) {q : Nat} (hq : q < n) : Less n (l ++ [(q : Int)]) := fun i hi => by
  rw [List.length_append, List.length_singleton] at hi
  by_cases e : i < l.length
  · obtain ⟨k, hk, e2⟩ := h i e
    exact ⟨k, hk, by rw [List.getD_eq_getElem?_getD, List.getElem?_append_left e, ← List.getD_eq_getElem?_getD]; exact e2⟩
  · obtain rfl : i = l.length := by omega
    exact ⟨q, hq, by simp [List.getD_eq_getElem?_getD]⟩
theorem less_i64 {n : Nat} (hn : n ≤ 1000000) {l : List Int} (h : Less n l) : I64s l := fun x hx => by
  obtain ⟨i, hi, rfl⟩ := List.getElem_of_mem hx
  obtain ⟨k, hk, e⟩ := h i hi
  rw [List.getD_eq_getElem?_getD, List.getElem?_eq_getElem hi, Option.getD_some] at e
  rw [e]; exact ⟨by omega, by omega⟩
theorem Dic.keepB {w w' : World} {b B : Nat} (h : Dic w b) (hb : Below B w w') (hlt : b < B) : Dic w' b := by
  obtain ⟨a, n, c, xs, i, g, h1, h2, h3, h4, hB, hg, hL⟩ := h
  refine ⟨a, n, c, xs, i, g, h1, h2, h3, h4, ⟨hB.1, fun j hj => ?_, hB.2.2⟩, hg, hL.below hb hlt⟩
  obtain ⟨q, off, e1, e2, e3⟩ := hB.2.1 j hj
  exact ⟨q, off, e1, Nat.lt_of_lt_of_le e2 hb.size, (hb.cell (p := ⟨q, off + j, none⟩) (by have := hg (by omega) q off e1; show q < B; omega)).trans e3⟩
/-- a state of the period's law: the list that is led on -/
theorem actM_st {n S : Nat} {f g : List (List Int)} {zs st : List Int} (hstep : ∀ l : List Int, l.length = S → Less n l → bacF f g S zs l = (actL n f g zs l, 0) ∧ (actL n f g zs l).length = S ∧ Less n (actL n f g zs l)) (hl : st.length = S) (hL : Less n st) : ∀ m, (actM n f g zs m st).length = S ∧ Less n (actM n f g zs m st) := by
  intro m
  induction m with
  | zero => exact ⟨hl, hL⟩
  | succ m ih => exact (hstep _ ih.1 ih.2).2
set_option maxHeartbeats 64000000 in
theorem law_Bac (a : Option Addr) (n c : Nat) (xs : List Int) (w : World) (h : Bts w a n xs) (hn : n ≤ 9223372036854775807) :
    Calls Tryz.prog 3 #[.slice a n c] w fun e w' => e = .returned (.bool true) ∧ Below w.heap.size w w' := by
  have hB : Below w.heap.size w w := Below.refl _ _
  go_enter Tryz.func3, Tryz.ntmps3
  go_wp2_with fail
  refine (big_any a n c _ hn).mono ?_
  rintro e w0 ⟨rfl, rfl⟩
  by_cases hbig : 4096 < n
  · have hd : decide (4096 < n) = true := by simpa using hbig
    rw [hd]
    go_wp2
    go_ret
    exact ⟨rfl, Below.refl _ _⟩
  have hd : decide (4096 < n) = false := by simpa using hbig
  rw [hd]
  clear hd hbig
  go_wp2_with fail
  refine (DrawBraidAction_ok a n c xs _ (h.below hB) hn).mono ?_
  rintro e w1 ⟨n2, a1, c1, vs1, f, a1', c1', vs1', g, S, ab, nb, cb, ys, at1, m, ct1, l, hn1, hn6, hS1, hS2, hnb, hsm, hm20, hsl, rfl, ⟨hof1, hos1, hap1⟩, hob1, hot1, hbw1⟩
  replace hB := below_th hB hbw1
  have HIb := Lib.hid (sml_i64b hsm); have HIl := Lib.hid (sml_i64b hsl)
  clear hsm hsl hap1
  have HBI : Hid (∀ (ab : Option Addr) (nb cb : Nat) (zs : List Int) (al : Option Addr) (m cl : Nat) (l : List Int) (w : World) (O : List Int) (C : Int), bacF f g S zs l = (O, C) → Sol w a1 n2 f a1' n2 g → Row w ab nb zs → nb ≤ 9223372036854775807 → I64s zs → Row w al m l → m ≤ 9223372036854775807 → I64s l → Calls Tryz.prog 15 #[sAgg a1 n2 c1 a1' n2 c1', bAgg S ab nb cb, .slice al m cl] w (RetR w O C)) := Lib.hid fun ab nb cb zs al m cl l w O C e h1 hr hnb hx hl hml hxl => by have := impl_Bac_l a1 n2 c1 f a1' n2 c1' g S ab nb cb zs al m cl l w h1 ⟨by omega, by omega⟩ ⟨by omega, by omega⟩ hr hnb hx hl hml hxl; rw [e] at this; exact this
  have HBS : Hid (∀ (ab : Option Addr) (nb cb : Nat) (zs : List Int) (al : Option Addr) (m cl : Nat) (l : List Int) (w : World) (O : List Int) (C : Int), bacF f g S zs l = (O, C) → Sol w a1 n2 f a1' n2 g → Row w ab nb zs → nb ≤ 9223372036854775807 → I64s zs → Row w al m l → m ≤ 9223372036854775807 → I64s l → Calls Tryz.prog 16 #[sAgg a1 n2 c1 a1' n2 c1', bAgg S ab nb cb, .slice al m cl] w (RetR w O C)) := Lib.hid fun ab nb cb zs al m cl l w O C e h1 hr hnb hx hl hml hxl => by have := spec_Bac_l a1 n2 c1 f a1' n2 c1' g S ab nb cb zs al m cl l w h1 ⟨by omega, by omega⟩ ⟨by omega, by omega⟩ hr hnb hx hl hml hxl; rw [e] at this; exact this
  rcases bac_facts f g S ys l with ⟨C, e1, hC⟩ | ⟨O, e1, hbr, hIO, e2, hlO, hl6, hIl6, e3⟩
  · have HE := Lib.hid e1; clear e1
    have u0 : (C != C) = false := by simp
    have u1 : (C == 0) = false := by simpa using hC
    have m1 := ((Loc.new w1 rfl #[.slice a1 n2 c1, .slice a1' n2 c1'] 26).alloc (.cells #[.int .i64 S, .slice ab nb cb] 29)).two
    have m2 := (Loc.new (b := w1.heap.size + 1) (w1.alloc (.cells #[.slice a1 n2 c1, .slice a1' n2 c1'] 26)) (by simp) #[.int .i64 S, .slice ab nb cb] 29).two
    go_wp2_with fail
    refine (HBI.out _ _ _ ys _ _ _ l _ [] C HE.out ⟨((hof1.alloc (.cells #[.slice a1 n2 c1, .slice a1' n2 c1'] 26)).alloc (.cells #[.int .i64 S, .slice ab nb cb] 29)).tbl, ((hos1.alloc (.cells #[.slice a1 n2 c1, .slice a1' n2 c1'] 26)).alloc (.cells #[.int .i64 S, .slice ab nb cb] 29)).tbl⟩ ((hob1.alloc (.cells #[.slice a1 n2 c1, .slice a1' n2 c1'] 26)).alloc (.cells #[.int .i64 S, .slice ab nb cb] 29)).row (by have := hob1.cap; omega) HIb.out ((hot1.alloc (.cells #[.slice a1 n2 c1, .slice a1' n2 c1'] 26)).alloc (.cells #[.int .i64 S, .slice ab nb cb] 29)).row (by have := hot1.cap; omega) HIl.out).mono ?_
    rintro e w2 ⟨a3, n3, c3, rfl, ho3, hbw2⟩
    clear m1 m2
    have hL1 := ((Loc.new w1 rfl #[.slice a1 n2 c1, .slice a1' n2 c1'] 26).alloc (.cells #[.int .i64 S, .slice ab nb cb] 29)).below hbw2 ((Loc.new w1 rfl #[.slice a1 n2 c1, .slice a1' n2 c1'] 26).alloc (.cells #[.int .i64 S, .slice ab nb cb] 29)).lt
    have l1 := hL1.two
    have hL2 := (Loc.new (b := w1.heap.size + 1) (w1.alloc (.cells #[.slice a1 n2 c1, .slice a1' n2 c1'] 26)) (by simp) #[.int .i64 S, .slice ab nb cb] 29).below hbw2 (Loc.new (b := w1.heap.size + 1) (w1.alloc (.cells #[.slice a1 n2 c1, .slice a1' n2 c1'] 26)) (by simp) #[.int .i64 S, .slice ab nb cb] 29).lt
    have l2 := hL2.two
    replace hof1 := ((hof1.alloc (.cells #[.slice a1 n2 c1, .slice a1' n2 c1'] 26)).alloc (.cells #[.int .i64 S, .slice ab nb cb] 29)).below hbw2
    replace hos1 := ((hos1.alloc (.cells #[.slice a1 n2 c1, .slice a1' n2 c1'] 26)).alloc (.cells #[.int .i64 S, .slice ab nb cb] 29)).below hbw2
    replace hob1 := ((hob1.alloc (.cells #[.slice a1 n2 c1, .slice a1' n2 c1'] 26)).alloc (.cells #[.int .i64 S, .slice ab nb cb] 29)).below hbw2
    replace hot1 := ((hot1.alloc (.cells #[.slice a1 n2 c1, .slice a1' n2 c1'] 26)).alloc (.cells #[.int .i64 S, .slice ab nb cb] 29)).below hbw2
    replace hB := below_th (below_al (below_al hB (.cells #[.slice a1 n2 c1, .slice a1' n2 c1'] 26)) (.cells #[.int .i64 S, .slice ab nb cb] 29)) hbw2
    go_wp2_with fail
    refine (HBS.out _ _ _ ys _ _ _ l _ [] C HE.out ⟨hof1.tbl, hos1.tbl⟩ hob1.row (by have := hob1.cap; omega) HIb.out hot1.row (by have := hot1.cap; omega) HIl.out).mono ?_
    rintro e w3 ⟨a4, n4, c4, rfl, ho4, hbw3⟩
    replace hL1 := hL1.below hbw3 hL1.lt
    replace l1 := hL1.two
    replace hL2 := hL2.below hbw3 hL2.lt
    replace l2 := hL2.two
    replace hof1 := hof1.below hbw3
    replace hos1 := hos1.below hbw3
    replace hob1 := hob1.below hbw3
    replace hot1 := hot1.below hbw3
    replace ho3 := ho3.below hbw3
    replace hB := below_th hB hbw3
    obtain rfl : n3 = 0 := by have := ho3.len; simpa using this
    go_wp2_with fail
    refine (likeInts_same _ _ _ _ _ _ [] _ ho3.row ho4.row (by have := ho3.cap; omega)).mono ?_
    rintro e w4 ⟨rfl, hbw4⟩
    replace hL1 := hL1.below hbw4 hL1.lt
    replace l1 := hL1.two
    replace hL2 := hL2.below hbw4 hL2.lt
    replace l2 := hL2.two
    replace hof1 := hof1.below hbw4
    replace hos1 := hos1.below hbw4
    replace hob1 := hob1.below hbw4
    replace hot1 := hot1.below hbw4
    replace ho3 := ho3.below hbw4
    replace ho4 := ho4.below hbw4
    replace hB := below_th hB hbw4
    clear HBI HBS HE ho3 ho4 hof1 hos1 hob1 hot1 u0 HIb HIl
    clear hL1 l1 hL2 l2
    go_wp2_with fail
    refine (DrawBraidPeriod_ok a n c xs _ (h.below hB) hn).mono ?_
    rintro e w5 ⟨m2, b1, d1, us1, F, b1', d1', us1', G, T, bb, kb, eb, zs, m1, m6, hT1, hT2, hkb, hsm2, rfl, ⟨hof1, hos1, hap2⟩, hob1, hbw5⟩
    replace hB := below_th hB hbw5
    have HI := Lib.hid (sml_i64b hsm2)
    clear hsm2 hap2
    have HPI : Hid (∀ (w : World) (P C : Int), bpF F G T zs = (P, C) → Sol w b1 m2 F b1' m2 G → Row w bb kb zs → Calls Tryz.prog 21 #[sAgg b1 m2 d1 b1' m2 d1', bAgg T bb kb eb] w (RetI w P C)) := Lib.hid fun w P C e h1 hr => by have := impl_Bp_l b1 m2 d1 F b1' m2 d1' G T bb kb eb zs w h1 ⟨by omega, by omega⟩ ⟨by omega, by omega⟩ hr (by omega) HI.out; rw [e] at this; exact this
    have HPS : Hid (∀ (w : World) (P C : Int), bpF F G T zs = (P, C) → Sol w b1 m2 F b1' m2 G → Row w bb kb zs → Calls Tryz.prog 22 #[sAgg b1 m2 d1 b1' m2 d1', bAgg T bb kb eb] w (RetI w P C)) := Lib.hid fun w P C e h1 hr => by have := spec_Bp_l b1 m2 d1 F b1' m2 d1' G T bb kb eb zs w h1 ⟨by omega, by omega⟩ ⟨by omega, by omega⟩ hr (by omega) HI.out; rw [e] at this; exact this
    rcases per_facts F G T zs with ⟨p, C, e4, hC2⟩ | ⟨S2, p, rfl, e4, hp9, hS22, hS26, hbr2, hF1, hback, hstep⟩
    · have HE := Lib.hid e4; clear e4
      have u0 : (C != C) = false := by simp
      have u1 : (p != p) = false := by simp
      have u2 : (C != 0) = true := by simpa using hC2
      have m20 := ((Loc.new w5 rfl #[.slice b1 m2 d1, .slice b1' m2 d1'] 26).alloc (.cells #[.int .i64 T, .slice bb kb eb] 29)).two
      have m21 := (Loc.new (b := w5.heap.size + 1) (w5.alloc (.cells #[.slice b1 m2 d1, .slice b1' m2 d1'] 26)) (by simp) #[.int .i64 T, .slice bb kb eb] 29).two
      go_wp2_with fail
      refine (HPI.out _ p C HE.out ⟨((hof1.alloc (.cells #[.slice b1 m2 d1, .slice b1' m2 d1'] 26)).alloc (.cells #[.int .i64 T, .slice bb kb eb] 29)).tbl, ((hos1.alloc (.cells #[.slice b1 m2 d1, .slice b1' m2 d1'] 26)).alloc (.cells #[.int .i64 T, .slice bb kb eb] 29)).tbl⟩ ((hob1.alloc (.cells #[.slice b1 m2 d1, .slice b1' m2 d1'] 26)).alloc (.cells #[.int .i64 T, .slice bb kb eb] 29)).row).mono ?_
      rintro e w6 ⟨rfl, hbw6⟩
      clear m20 m21
      have hL20 := ((Loc.new w5 rfl #[.slice b1 m2 d1, .slice b1' m2 d1'] 26).alloc (.cells #[.int .i64 T, .slice bb kb eb] 29)).below hbw6 ((Loc.new w5 rfl #[.slice b1 m2 d1, .slice b1' m2 d1'] 26).alloc (.cells #[.int .i64 T, .slice bb kb eb] 29)).lt
      have l20 := hL20.two
      have hL21 := (Loc.new (b := w5.heap.size + 1) (w5.alloc (.cells #[.slice b1 m2 d1, .slice b1' m2 d1'] 26)) (by simp) #[.int .i64 T, .slice bb kb eb] 29).below hbw6 (Loc.new (b := w5.heap.size + 1) (w5.alloc (.cells #[.slice b1 m2 d1, .slice b1' m2 d1'] 26)) (by simp) #[.int .i64 T, .slice bb kb eb] 29).lt
      have l21 := hL21.two
      replace hof1 := ((hof1.alloc (.cells #[.slice b1 m2 d1, .slice b1' m2 d1'] 26)).alloc (.cells #[.int .i64 T, .slice bb kb eb] 29)).below hbw6
      replace hos1 := ((hos1.alloc (.cells #[.slice b1 m2 d1, .slice b1' m2 d1'] 26)).alloc (.cells #[.int .i64 T, .slice bb kb eb] 29)).below hbw6
      replace hob1 := ((hob1.alloc (.cells #[.slice b1 m2 d1, .slice b1' m2 d1'] 26)).alloc (.cells #[.int .i64 T, .slice bb kb eb] 29)).below hbw6
      replace hB := below_th (below_al (below_al hB (.cells #[.slice b1 m2 d1, .slice b1' m2 d1'] 26)) (.cells #[.int .i64 T, .slice bb kb eb] 29)) hbw6
      go_wp2_with fail
      refine (HPS.out _ p C HE.out ⟨hof1.tbl, hos1.tbl⟩ hob1.row).mono ?_
      rintro e w7 ⟨rfl, hbw7⟩
      replace hL20 := hL20.below hbw7 hL20.lt
      replace l20 := hL20.two
      replace hL21 := hL21.below hbw7 hL21.lt
      replace l21 := hL21.two
      replace hof1 := hof1.below hbw7
      replace hos1 := hos1.below hbw7
      replace hob1 := hob1.below hbw7
      replace hB := below_th hB hbw7
      go_wp2
      go_ret
      exact ⟨rfl, hB⟩
    · rw [← hof1.len] at hback hstep hF1
      have HE := Lib.hid e4; have HBK := Lib.hid hback; have HST := Lib.hid hstep
      clear e4 hback hstep hbr2
      have u1 : ((p : Int) != (p : Int)) = false := by simp
      have m20 := ((Loc.new w5 rfl #[.slice b1 m2 d1, .slice b1' m2 d1'] 26).alloc (.cells #[.int .i64 S2, .slice bb kb eb] 29)).two
      have m21 := (Loc.new (b := w5.heap.size + 1) (w5.alloc (.cells #[.slice b1 m2 d1, .slice b1' m2 d1'] 26)) (by simp) #[.int .i64 S2, .slice bb kb eb] 29).two
      go_wp2_with fail
      refine (HPI.out _ _ _ HE.out ⟨((hof1.alloc (.cells #[.slice b1 m2 d1, .slice b1' m2 d1'] 26)).alloc (.cells #[.int .i64 S2, .slice bb kb eb] 29)).tbl, ((hos1.alloc (.cells #[.slice b1 m2 d1, .slice b1' m2 d1'] 26)).alloc (.cells #[.int .i64 S2, .slice bb kb eb] 29)).tbl⟩ ((hob1.alloc (.cells #[.slice b1 m2 d1, .slice b1' m2 d1'] 26)).alloc (.cells #[.int .i64 S2, .slice bb kb eb] 29)).row).mono ?_
      rintro e w6 ⟨rfl, hbw6⟩
      clear m20 m21
      have hL20 := ((Loc.new w5 rfl #[.slice b1 m2 d1, .slice b1' m2 d1'] 26).alloc (.cells #[.int .i64 S2, .slice bb kb eb] 29)).below hbw6 ((Loc.new w5 rfl #[.slice b1 m2 d1, .slice b1' m2 d1'] 26).alloc (.cells #[.int .i64 S2, .slice bb kb eb] 29)).lt
      have l20 := hL20.two
      have hL21 := (Loc.new (b := w5.heap.size + 1) (w5.alloc (.cells #[.slice b1 m2 d1, .slice b1' m2 d1'] 26)) (by simp) #[.int .i64 S2, .slice bb kb eb] 29).below hbw6 (Loc.new (b := w5.heap.size + 1) (w5.alloc (.cells #[.slice b1 m2 d1, .slice b1' m2 d1'] 26)) (by simp) #[.int .i64 S2, .slice bb kb eb] 29).lt
      have l21 := hL21.two
      replace hof1 := ((hof1.alloc (.cells #[.slice b1 m2 d1, .slice b1' m2 d1'] 26)).alloc (.cells #[.int .i64 S2, .slice bb kb eb] 29)).below hbw6
      replace hos1 := ((hos1.alloc (.cells #[.slice b1 m2 d1, .slice b1' m2 d1'] 26)).alloc (.cells #[.int .i64 S2, .slice bb kb eb] 29)).below hbw6
      replace hob1 := ((hob1.alloc (.cells #[.slice b1 m2 d1, .slice b1' m2 d1'] 26)).alloc (.cells #[.int .i64 S2, .slice bb kb eb] 29)).below hbw6
      replace hB := below_th (below_al (below_al hB (.cells #[.slice b1 m2 d1, .slice b1' m2 d1'] 26)) (.cells #[.int .i64 S2, .slice bb kb eb] 29)) hbw6
      go_wp2_with fail
      refine (HPS.out _ _ _ HE.out ⟨hof1.tbl, hos1.tbl⟩ hob1.row).mono ?_
      rintro e w7 ⟨rfl, hbw7⟩
      replace hL20 := hL20.below hbw7 hL20.lt
      replace l20 := hL20.two
      replace hL21 := hL21.below hbw7 hL21.lt
      replace l21 := hL21.two
      replace hof1 := hof1.below hbw7
      replace hos1 := hos1.below hbw7
      replace hob1 := hob1.below hbw7
      replace hB := below_th hB hbw7
      by_cases hp60 : p ≤ 60
      · have i60 : (p : Int) ≤ 60 := by omega
        have z20 := hL20.lt
        have z21 := hL21.lt
        have HFH := Lib.hid hof1.uHi; have HSH := Lib.hid hos1.uHi; have HOH := Lib.hid hob1.hi
        have hBs := hB.size
        go_wp2_with fail
        refine (roll_ok a n c xs 1403 _ (h.below hB) hn).mono ?_
        rintro e w8 ⟨bd, rfl, hbd, hdc, hbw8⟩
        replace hL20 := hL20.below hbw8 hL20.lt
        replace l20 := hL20.two
        replace hL21 := hL21.below hbw8 hL21.lt
        replace l21 := hL21.two
        replace hof1 := hof1.below hbw8
        replace hos1 := hos1.below hbw8
        replace hob1 := hob1.below hbw8
        replace hB := below_th hB hbw8
        have HBI : Hid (∀ (ab : Option Addr) (nb cb : Nat) (zs : List Int) (al : Option Addr) (m cl : Nat) (l : List Int) (w : World) (O : List Int) (C : Int), bacF F G (S2 : Int) zs l = (O, C) → Sol w b1 m2 F b1' m2 G → Row w ab nb zs → nb ≤ 9223372036854775807 → I64s zs → Row w al m l → m ≤ 9223372036854775807 → I64s l → Calls Tryz.prog 15 #[sAgg b1 m2 d1 b1' m2 d1', bAgg (S2 : Int) ab nb cb, .slice al m cl] w (RetR w O C)) := Lib.hid fun ab nb cb zs al m cl l w O C e h1 hr hnb hx hl hml hxl => by have := impl_Bac_l b1 m2 d1 F b1' m2 d1' G (S2 : Int) ab nb cb zs al m cl l w h1 ⟨by omega, by omega⟩ ⟨by omega, by omega⟩ hr hnb hx hl hml hxl; rw [e] at this; exact this
        have hbr : w7.heap.size ≤ bd := hbd
        have hd0 : bd < w8.heap.size := hdc.lt
        have hlt20 : w5.heap.size < bd := by omega
        have hlt21 : w5.heap.size + 1 < bd := by omega
        have hO6 := Own.fresh w8 rfl
        have hd6 := hdc.below (below_al (Below.refl w8.heap.size w8) (.cells #[] 2))
        have hG6 := World.grownBy_alloc w8 (.cells #[] 2) (some bd)
        go_wp2
        go_loopw [27, 28] (fun z i wr => ∃ (j : Nat) (al : Option Addr) (cl : Nat) (st : List Int), j ≤ S2 ∧ i = .int .i64 j ∧ z = .slice al j cl ∧ Own wr w8.heap.size al j cl st ∧ Hid (Less m2 st) ∧ Dic wr bd ∧ w8.grownBy wr (some bd)) (fun _ i _ => S2 - (intOf i).toNat)
        case atStart => exact ⟨0, _, 0, [], Nat.zero_le _, rfl, rfl, hO6, Lib.hid (fun i hi => absurd hi (by simp)), hd6, hG6⟩
        case round =>
          clear hO6 hd6 hG6
          obtain ⟨j, al, cl, st, hj, rfl, rfl, hol, HL, hd, hG⟩ := hrel
          obtain ⟨V, rfl⟩ : ∃ V : World, V = wr := ⟨_, rfl⟩
          have hX := hL20.grown hG (by simp; omega)
          have hE := hL21.grown hG (by simp; omega)
          have lX := hX.two
          have lE := hE.two
          have hzV := hG.size
          by_cases hlt : j < S2
          · go_wp2_with fail
            refine (below_ok bd (m2 : Int) _ hd ⟨by omega, by omega⟩).mono ?_
            rintro e w7 ⟨y, rfl, _, hy, hd7, hg7⟩
            obtain ⟨hy1, hy2⟩ := hy (by omega)
            obtain ⟨q, rfl⟩ : ∃ q : Nat, y = q := ⟨y.toNat, by omega⟩
            have hol7 := hol.grown hg7 (fun g e => by have := hol.lo g e; simp; omega)
            have hz7 := hg7.size
            have hG7 := grown_trans hG hg7
            go_wp2_with (at_builtin; refine app1 rfl rfl hol7 rfl rfl (by omega) (by omega) ?_; intro g' cc w8 hO8 hg8 hs8 hb8)
            go_roundw
            case rel => exact ⟨j + 1, _, cc, _, by omega, by go_num, rfl, hO8, Lib.hid (less_snoc HL.out (by omega)), hd7.keepB hb8 (by omega), grown_below hG7 hb8 (Nat.le_refl _)⟩
            case measure => simp [intOf]; omega
          · obtain rfl : j = S2 := by omega
            have hsl : st.length = j := hol.len.symm
            have HAM := Lib.hid (actM_st (f := F) (g := G) (zs := zs) HST.out hsl HL.out)
            have hsf : Sol V b1 m2 F b1' m2 G := ⟨(hof1.keep fun q hq hl => hG.block q hl (fun e => by have := HFH.out q hq; cases e; omega)).tbl, (hos1.keep fun q hq hl => hG.block q hl (fun e => by have := HSH.out q hq; cases e; omega)).tbl⟩
            have hrb : Row V bb kb zs := (hob1.grown hG (fun g e => by have := HOH.out g e; simp; omega)).row
            have hBV := below_grown hB hG (by omega)
            have hrs := hol.row
            clear hof1 hos1 hob1 hG hd hol hL20 hL21 hB
            go_wp2
            go_loopw [29, 30, 31, 32] (fun z i _ _ wr => ∃ (k : Nat) (al : Option Addr) (cl : Nat), k ≤ p ∧ i = .int .i64 k ∧ z = .slice al j cl ∧ Row wr al j (actM m2 F G zs k st) ∧ Below V.heap.size V wr) (fun _ i _ _ _ => p - (intOf i).toNat)
            case atStart => exact ⟨0, al, cl, Nat.zero_le _, rfl, rfl, hrs, Below.refl _ _⟩
            case round =>
              obtain ⟨k, ak, ck, hk, rfl, rfl, hrk, hq⟩ := hrel
              obtain ⟨U, rfl⟩ : ∃ U : World, U = wr := ⟨_, rfl⟩
              have lX := (hX.below hq hX.lt).two
              have lE := (hE.below hq hE.lt).two
              by_cases hkp : k < p
              · obtain ⟨hml, hmL⟩ := HAM.out k
                have HSTK := Lib.hid (HST.out _ hml hmL)
                have HSTL : Hid ((actM m2 F G zs k st).length = j) := Lib.hid hml
                have HSI := Lib.hid (less_i64 (by omega) hmL)
                clear hml hmL
                go_wp2_with fail
                refine (HBI.out _ _ _ zs _ _ _ (actM m2 F G zs k st) _ (actL m2 F G zs (actM m2 F G zs k st)) 0 HSTK.out.1 (hsf.below hq) (hrb.below hq) (by omega) HI.out hrk (by omega) HSI.out).mono ?_
                rintro e w9 ⟨a9, n9, c9, rfl, ho9, hb9⟩
                obtain rfl : n9 = j := by have := ho9.len; rw [HSTK.out.2.1] at this; exact this
                go_wp2
                go_roundw
                case rel => exact ⟨k + 1, _, _, by omega, by go_num, rfl, ho9.row, below_th hq hb9⟩
                case measure => simp [intOf]; omega
              · obtain rfl : k = p := by omega
                have hrk2 : Row U ak j st := by have := HBK.out st hsl HL.out; rw [this] at hrk; exact hrk
                have hrs2 := hrs.below hq
                go_wp2_with fail
                refine (likeInts_same _ _ _ _ _ _ st _ hrk2 hrs2 (by omega)).mono ?_
                rintro e w9 ⟨rfl, hb9⟩
                go_wp2
                go_ret
                exact ⟨rfl, below_th (below_th hBV hq) hb9⟩
      · have i60 : ¬ (p : Int) ≤ 60 := by omega
        go_wp2
        go_ret
        exact ⟨rfl, hB⟩
  · have HE1 := Lib.hid e1; have HE2 := Lib.hid e2; have HBR := Lib.hid hbr; have HIO := Lib.hid hIO; have HE3 := Lib.hid e3; have HLO := Lib.hid hlO
    clear e1 e2 e3 hbr hIO hIl6 hlO
    have HTI : Hid (∀ (w : World) (U : Int) (Z : List Int) (K : Int), timF S ys S ys = (U, Z, K) → Row w ab nb ys → Calls Tryz.prog 19 #[bAgg S ab nb cb, bAgg S ab nb cb] w (RetB w U Z K)) := Lib.hid fun w U Z K e hr => by have := impl_Tim_any S S ab ab nb nb cb cb ys ys w hr hr (by omega) (by omega); rw [e] at this; exact this
    have HIV : Hid (∀ (w : World), Row w ab nb ys → Calls Tryz.prog 18 #[bAgg S ab nb cb] w (RetB w S (ivL ys) 0)) := Lib.hid fun w hr => impl_Ivb_ok S ab nb cb ys w hr HBR.out
    have HIV2 : Hid (I64s (ivL ys)) := Lib.hid (fun x hx => by
      have := (isBr_let (ivL_br HBR.out)).2.2 x hx
      exact ⟨by omega, by omega⟩)
    have m1 := ((Loc.new w1 rfl #[.slice a1 n2 c1, .slice a1' n2 c1'] 26).alloc (.cells #[.int .i64 S, .slice ab nb cb] 29)).two
    have m2 := (Loc.new (b := w1.heap.size + 1) (w1.alloc (.cells #[.slice a1 n2 c1, .slice a1' n2 c1'] 26)) (by simp) #[.int .i64 S, .slice ab nb cb] 29).two
    go_wp2_with fail
    refine (HBI.out _ _ _ ys _ _ _ l _ O 0 HE1.out ⟨((hof1.alloc (.cells #[.slice a1 n2 c1, .slice a1' n2 c1'] 26)).alloc (.cells #[.int .i64 S, .slice ab nb cb] 29)).tbl, ((hos1.alloc (.cells #[.slice a1 n2 c1, .slice a1' n2 c1'] 26)).alloc (.cells #[.int .i64 S, .slice ab nb cb] 29)).tbl⟩ ((hob1.alloc (.cells #[.slice a1 n2 c1, .slice a1' n2 c1'] 26)).alloc (.cells #[.int .i64 S, .slice ab nb cb] 29)).row (by have := hob1.cap; omega) HIb.out ((hot1.alloc (.cells #[.slice a1 n2 c1, .slice a1' n2 c1'] 26)).alloc (.cells #[.int .i64 S, .slice ab nb cb] 29)).row (by have := hot1.cap; omega) HIl.out).mono ?_
    rintro e w2 ⟨a3, n3, c3, rfl, ho3, hbw2⟩
    clear m1 m2
    have hL1 := ((Loc.new w1 rfl #[.slice a1 n2 c1, .slice a1' n2 c1'] 26).alloc (.cells #[.int .i64 S, .slice ab nb cb] 29)).below hbw2 ((Loc.new w1 rfl #[.slice a1 n2 c1, .slice a1' n2 c1'] 26).alloc (.cells #[.int .i64 S, .slice ab nb cb] 29)).lt
    have l1 := hL1.two
    have hL2 := (Loc.new (b := w1.heap.size + 1) (w1.alloc (.cells #[.slice a1 n2 c1, .slice a1' n2 c1'] 26)) (by simp) #[.int .i64 S, .slice ab nb cb] 29).below hbw2 (Loc.new (b := w1.heap.size + 1) (w1.alloc (.cells #[.slice a1 n2 c1, .slice a1' n2 c1'] 26)) (by simp) #[.int .i64 S, .slice ab nb cb] 29).lt
    have l2 := hL2.two
    replace hof1 := ((hof1.alloc (.cells #[.slice a1 n2 c1, .slice a1' n2 c1'] 26)).alloc (.cells #[.int .i64 S, .slice ab nb cb] 29)).below hbw2
    replace hos1 := ((hos1.alloc (.cells #[.slice a1 n2 c1, .slice a1' n2 c1'] 26)).alloc (.cells #[.int .i64 S, .slice ab nb cb] 29)).below hbw2
    replace hob1 := ((hob1.alloc (.cells #[.slice a1 n2 c1, .slice a1' n2 c1'] 26)).alloc (.cells #[.int .i64 S, .slice ab nb cb] 29)).below hbw2
    replace hot1 := ((hot1.alloc (.cells #[.slice a1 n2 c1, .slice a1' n2 c1'] 26)).alloc (.cells #[.int .i64 S, .slice ab nb cb] 29)).below hbw2
    replace hB := below_th (below_al (below_al hB (.cells #[.slice a1 n2 c1, .slice a1' n2 c1'] 26)) (.cells #[.int .i64 S, .slice ab nb cb] 29)) hbw2
    go_wp2_with fail
    refine (HBS.out _ _ _ ys _ _ _ l _ O 0 HE1.out ⟨hof1.tbl, hos1.tbl⟩ hob1.row (by have := hob1.cap; omega) HIb.out hot1.row (by have := hot1.cap; omega) HIl.out).mono ?_
    rintro e w3 ⟨a4, n4, c4, rfl, ho4, hbw3⟩
    replace hL1 := hL1.below hbw3 hL1.lt
    replace l1 := hL1.two
    replace hL2 := hL2.below hbw3 hL2.lt
    replace l2 := hL2.two
    replace hof1 := hof1.below hbw3
    replace hos1 := hos1.below hbw3
    replace hob1 := hob1.below hbw3
    replace hot1 := hot1.below hbw3
    replace ho3 := ho3.below hbw3
    replace hB := below_th hB hbw3
    go_wp2_with fail
    refine (likeInts_same _ _ _ _ _ _ O _ ho3.row ho4.row (by have := ho3.cap; omega)).mono ?_
    rintro e w4 ⟨rfl, hbw4⟩
    replace hL1 := hL1.below hbw4 hL1.lt
    replace l1 := hL1.two
    replace hL2 := hL2.below hbw4 hL2.lt
    replace l2 := hL2.two
    replace hof1 := hof1.below hbw4
    replace hos1 := hos1.below hbw4
    replace hob1 := hob1.below hbw4
    replace hot1 := hot1.below hbw4
    replace ho3 := ho3.below hbw4
    replace ho4 := ho4.below hbw4
    replace hB := below_th hB hbw4
    go_wp2_with fail
    refine (HIV.out _ hob1.row).mono ?_
    rintro e w5 ⟨a5, n5, c5, rfl, ho5, hbw5⟩
    replace hL1 := hL1.below hbw5 hL1.lt
    replace l1 := hL1.two
    replace hL2 := hL2.below hbw5 hL2.lt
    replace l2 := hL2.two
    replace hof1 := hof1.below hbw5
    replace hos1 := hos1.below hbw5
    replace hob1 := hob1.below hbw5
    replace hot1 := hot1.below hbw5
    replace ho3 := ho3.below hbw5
    replace hB := below_th hB hbw5
    have m1 := (hL1.alloc (.cells #[.int .i64 S, .slice a5 n5 c5] 29)).two
    have m2 := (hL2.alloc (.cells #[.int .i64 S, .slice a5 n5 c5] 29)).two
    have m5 := (Loc.new w5 rfl #[.int .i64 S, .slice a5 n5 c5] 29).two
    go_wp2_with fail
    refine (HBI.out _ _ _ (ivL ys) _ _ _ O _ l 0 HE2.out ⟨(hof1.alloc (.cells #[.int .i64 S, .slice a5 n5 c5] 29)).tbl, (hos1.alloc (.cells #[.int .i64 S, .slice a5 n5 c5] 29)).tbl⟩ (ho5.alloc (.cells #[.int .i64 S, .slice a5 n5 c5] 29)).row (by have := ho5.cap; omega) HIV2.out (ho3.alloc (.cells #[.int .i64 S, .slice a5 n5 c5] 29)).row (by have := ho3.cap; omega) HIO.out).mono ?_
    rintro e w6 ⟨a6, n6, c6, rfl, ho6, hbw6⟩
    clear m1 m2 m5
    replace hL1 := (hL1.alloc (.cells #[.int .i64 S, .slice a5 n5 c5] 29)).below hbw6 (hL1.alloc (.cells #[.int .i64 S, .slice a5 n5 c5] 29)).lt
    replace l1 := hL1.two
    replace hL2 := (hL2.alloc (.cells #[.int .i64 S, .slice a5 n5 c5] 29)).below hbw6 (hL2.alloc (.cells #[.int .i64 S, .slice a5 n5 c5] 29)).lt
    replace l2 := hL2.two
    have hL5 := (Loc.new w5 rfl #[.int .i64 S, .slice a5 n5 c5] 29).below hbw6 (Loc.new w5 rfl #[.int .i64 S, .slice a5 n5 c5] 29).lt
    have l5 := hL5.two
    replace hof1 := (hof1.alloc (.cells #[.int .i64 S, .slice a5 n5 c5] 29)).below hbw6
    replace hos1 := (hos1.alloc (.cells #[.int .i64 S, .slice a5 n5 c5] 29)).below hbw6
    replace hob1 := (hob1.alloc (.cells #[.int .i64 S, .slice a5 n5 c5] 29)).below hbw6
    replace hot1 := (hot1.alloc (.cells #[.int .i64 S, .slice a5 n5 c5] 29)).below hbw6
    replace ho3 := (ho3.alloc (.cells #[.int .i64 S, .slice a5 n5 c5] 29)).below hbw6
    replace ho5 := (ho5.alloc (.cells #[.int .i64 S, .slice a5 n5 c5] 29)).below hbw6
    replace hB := below_th (below_al hB (.cells #[.int .i64 S, .slice a5 n5 c5] 29)) hbw6
    go_wp2_with fail
    refine (likeInts_same _ _ _ _ _ _ l _ ho6.row hot1.row (by have := ho6.cap; omega)).mono ?_
    rintro e w7 ⟨rfl, hbw7⟩
    replace hL1 := hL1.below hbw7 hL1.lt
    replace l1 := hL1.two
    replace hL2 := hL2.below hbw7 hL2.lt
    replace l2 := hL2.two
    replace hL5 := hL5.below hbw7 hL5.lt
    replace l5 := hL5.two
    replace hof1 := hof1.below hbw7
    replace hos1 := hos1.below hbw7
    replace hob1 := hob1.below hbw7
    replace hot1 := hot1.below hbw7
    replace ho3 := ho3.below hbw7
    replace ho5 := ho5.below hbw7
    replace ho6 := ho6.below hbw7
    replace hB := below_th hB hbw7
    clear hL5 l5
    rcases HE3.out with e5 | ⟨Z, e5, e6, e7⟩
    · have HE5 := Lib.hid e5; clear e5
      go_wp2_with fail
      refine (HTI.out _ _ _ _ HE5.out hob1.row).mono ?_
      rintro e w8 ⟨a7, n7, c7, rfl, ho7, hbw8⟩
      replace hL1 := hL1.below hbw8 hL1.lt
      replace l1 := hL1.two
      replace hL2 := hL2.below hbw8 hL2.lt
      replace l2 := hL2.two
      replace hof1 := hof1.below hbw8
      replace hos1 := hos1.below hbw8
      replace hob1 := hob1.below hbw8
      replace hot1 := hot1.below hbw8
      replace ho3 := ho3.below hbw8
      replace hB := below_th hB hbw8
      clear HBI HBS HE1 HE2 HE3 HBR HIO HTI HIV HIV2 HIb HIl HLO ho3 hof1 hos1 hob1 hot1 ho7 ho5 ho6 ho4
      clear hL1 l1 hL2 l2
      have m7 := (Loc.new w8 rfl #[.int .i64 0, .slice a7 n7 c7] 29).two
      go_wp2_with fail
      refine (DrawBraidPeriod_ok a n c xs _ ((h.below hB).alloc (.cells #[.int .i64 0, .slice a7 n7 c7] 29)) hn).mono ?_
      rintro e w9 ⟨m2, b1, d1, us1, F, b1', d1', us1', G, T, bb, kb, eb, zs, m1, m6, hT1, hT2, hkb, hsm2, rfl, ⟨hof1, hos1, hap2⟩, hob1, hbw9⟩
      clear m7
      have hL7 := (Loc.new w8 rfl #[.int .i64 0, .slice a7 n7 c7] 29).below hbw9 (Loc.new w8 rfl #[.int .i64 0, .slice a7 n7 c7] 29).lt
      have l7 := hL7.two
      replace hB := below_th (below_al hB (.cells #[.int .i64 0, .slice a7 n7 c7] 29)) hbw9
      have HI := Lib.hid (sml_i64b hsm2)
      clear hsm2 hap2
      have HPI : Hid (∀ (w : World) (P C : Int), bpF F G T zs = (P, C) → Sol w b1 m2 F b1' m2 G → Row w bb kb zs → Calls Tryz.prog 21 #[sAgg b1 m2 d1 b1' m2 d1', bAgg T bb kb eb] w (RetI w P C)) := Lib.hid fun w P C e h1 hr => by have := impl_Bp_l b1 m2 d1 F b1' m2 d1' G T bb kb eb zs w h1 ⟨by omega, by omega⟩ ⟨by omega, by omega⟩ hr (by omega) HI.out; rw [e] at this; exact this
      have HPS : Hid (∀ (w : World) (P C : Int), bpF F G T zs = (P, C) → Sol w b1 m2 F b1' m2 G → Row w bb kb zs → Calls Tryz.prog 22 #[sAgg b1 m2 d1 b1' m2 d1', bAgg T bb kb eb] w (RetI w P C)) := Lib.hid fun w P C e h1 hr => by have := spec_Bp_l b1 m2 d1 F b1' m2 d1' G T bb kb eb zs w h1 ⟨by omega, by omega⟩ ⟨by omega, by omega⟩ hr (by omega) HI.out; rw [e] at this; exact this
      rcases per_facts F G T zs with ⟨p, C, e4, hC2⟩ | ⟨S2, p, rfl, e4, hp9, hS22, hS26, hbr2, hF1, hback, hstep⟩
      · have HE := Lib.hid e4; clear e4
        have u0 : (C != C) = false := by simp
        have u1 : (p != p) = false := by simp
        have u2 : (C != 0) = true := by simpa using hC2
        have m7 := ((hL7.alloc (.cells #[.slice b1 m2 d1, .slice b1' m2 d1'] 26)).alloc (.cells #[.int .i64 T, .slice bb kb eb] 29)).two
        have m20 := ((Loc.new w9 rfl #[.slice b1 m2 d1, .slice b1' m2 d1'] 26).alloc (.cells #[.int .i64 T, .slice bb kb eb] 29)).two
        have m21 := (Loc.new (b := w9.heap.size + 1) (w9.alloc (.cells #[.slice b1 m2 d1, .slice b1' m2 d1'] 26)) (by simp) #[.int .i64 T, .slice bb kb eb] 29).two
        go_wp2_with fail
        refine (HPI.out _ p C HE.out ⟨((hof1.alloc (.cells #[.slice b1 m2 d1, .slice b1' m2 d1'] 26)).alloc (.cells #[.int .i64 T, .slice bb kb eb] 29)).tbl, ((hos1.alloc (.cells #[.slice b1 m2 d1, .slice b1' m2 d1'] 26)).alloc (.cells #[.int .i64 T, .slice bb kb eb] 29)).tbl⟩ ((hob1.alloc (.cells #[.slice b1 m2 d1, .slice b1' m2 d1'] 26)).alloc (.cells #[.int .i64 T, .slice bb kb eb] 29)).row).mono ?_
        rintro e w10 ⟨rfl, hbw10⟩
        clear m7 m20 m21
        replace hL7 := ((hL7.alloc (.cells #[.slice b1 m2 d1, .slice b1' m2 d1'] 26)).alloc (.cells #[.int .i64 T, .slice bb kb eb] 29)).below hbw10 ((hL7.alloc (.cells #[.slice b1 m2 d1, .slice b1' m2 d1'] 26)).alloc (.cells #[.int .i64 T, .slice bb kb eb] 29)).lt
        replace l7 := hL7.two
        have hL20 := ((Loc.new w9 rfl #[.slice b1 m2 d1, .slice b1' m2 d1'] 26).alloc (.cells #[.int .i64 T, .slice bb kb eb] 29)).below hbw10 ((Loc.new w9 rfl #[.slice b1 m2 d1, .slice b1' m2 d1'] 26).alloc (.cells #[.int .i64 T, .slice bb kb eb] 29)).lt
        have l20 := hL20.two
        have hL21 := (Loc.new (b := w9.heap.size + 1) (w9.alloc (.cells #[.slice b1 m2 d1, .slice b1' m2 d1'] 26)) (by simp) #[.int .i64 T, .slice bb kb eb] 29).below hbw10 (Loc.new (b := w9.heap.size + 1) (w9.alloc (.cells #[.slice b1 m2 d1, .slice b1' m2 d1'] 26)) (by simp) #[.int .i64 T, .slice bb kb eb] 29).lt
        have l21 := hL21.two
        replace hof1 := ((hof1.alloc (.cells #[.slice b1 m2 d1, .slice b1' m2 d1'] 26)).alloc (.cells #[.int .i64 T, .slice bb kb eb] 29)).below hbw10
        replace hos1 := ((hos1.alloc (.cells #[.slice b1 m2 d1, .slice b1' m2 d1'] 26)).alloc (.cells #[.int .i64 T, .slice bb kb eb] 29)).below hbw10
        replace hob1 := ((hob1.alloc (.cells #[.slice b1 m2 d1, .slice b1' m2 d1'] 26)).alloc (.cells #[.int .i64 T, .slice bb kb eb] 29)).below hbw10
        replace hB := below_th (below_al (below_al hB (.cells #[.slice b1 m2 d1, .slice b1' m2 d1'] 26)) (.cells #[.int .i64 T, .slice bb kb eb] 29)) hbw10
        go_wp2_with fail
        refine (HPS.out _ p C HE.out ⟨hof1.tbl, hos1.tbl⟩ hob1.row).mono ?_
        rintro e w11 ⟨rfl, hbw11⟩
        replace hL7 := hL7.below hbw11 hL7.lt
        replace l7 := hL7.two
        replace hL20 := hL20.below hbw11 hL20.lt
        replace l20 := hL20.two
        replace hL21 := hL21.below hbw11 hL21.lt
        replace l21 := hL21.two
        replace hof1 := hof1.below hbw11
        replace hos1 := hos1.below hbw11
        replace hob1 := hob1.below hbw11
        replace hB := below_th hB hbw11
        go_wp2
        go_ret
        exact ⟨rfl, hB⟩
      · rw [← hof1.len] at hback hstep hF1
        have HE := Lib.hid e4; have HBK := Lib.hid hback; have HST := Lib.hid hstep
        clear e4 hback hstep hbr2
        have u1 : ((p : Int) != (p : Int)) = false := by simp
        have m7 := ((hL7.alloc (.cells #[.slice b1 m2 d1, .slice b1' m2 d1'] 26)).alloc (.cells #[.int .i64 S2, .slice bb kb eb] 29)).two
        have m20 := ((Loc.new w9 rfl #[.slice b1 m2 d1, .slice b1' m2 d1'] 26).alloc (.cells #[.int .i64 S2, .slice bb kb eb] 29)).two
        have m21 := (Loc.new (b := w9.heap.size + 1) (w9.alloc (.cells #[.slice b1 m2 d1, .slice b1' m2 d1'] 26)) (by simp) #[.int .i64 S2, .slice bb kb eb] 29).two
        go_wp2_with fail
        refine (HPI.out _ _ _ HE.out ⟨((hof1.alloc (.cells #[.slice b1 m2 d1, .slice b1' m2 d1'] 26)).alloc (.cells #[.int .i64 S2, .slice bb kb eb] 29)).tbl, ((hos1.alloc (.cells #[.slice b1 m2 d1, .slice b1' m2 d1'] 26)).alloc (.cells #[.int .i64 S2, .slice bb kb eb] 29)).tbl⟩ ((hob1.alloc (.cells #[.slice b1 m2 d1, .slice b1' m2 d1'] 26)).alloc (.cells #[.int .i64 S2, .slice bb kb eb] 29)).row).mono ?_
        rintro e w10 ⟨rfl, hbw10⟩
        clear m7 m20 m21
        replace hL7 := ((hL7.alloc (.cells #[.slice b1 m2 d1, .slice b1' m2 d1'] 26)).alloc (.cells #[.int .i64 S2, .slice bb kb eb] 29)).below hbw10 ((hL7.alloc (.cells #[.slice b1 m2 d1, .slice b1' m2 d1'] 26)).alloc (.cells #[.int .i64 S2, .slice bb kb eb] 29)).lt
        replace l7 := hL7.two
        have hL20 := ((Loc.new w9 rfl #[.slice b1 m2 d1, .slice b1' m2 d1'] 26).alloc (.cells #[.int .i64 S2, .slice bb kb eb] 29)).below hbw10 ((Loc.new w9 rfl #[.slice b1 m2 d1, .slice b1' m2 d1'] 26).alloc (.cells #[.int .i64 S2, .slice bb kb eb] 29)).lt
        have l20 := hL20.two
        have hL21 := (Loc.new (b := w9.heap.size + 1) (w9.alloc (.cells #[.slice b1 m2 d1, .slice b1' m2 d1'] 26)) (by simp) #[.int .i64 S2, .slice bb kb eb] 29).below hbw10 (Loc.new (b := w9.heap.size + 1) (w9.alloc (.cells #[.slice b1 m2 d1, .slice b1' m2 d1'] 26)) (by simp) #[.int .i64 S2, .slice bb kb eb] 29).lt
        have l21 := hL21.two
        replace hof1 := ((hof1.alloc (.cells #[.slice b1 m2 d1, .slice b1' m2 d1'] 26)).alloc (.cells #[.int .i64 S2, .slice bb kb eb] 29)).below hbw10
        replace hos1 := ((hos1.alloc (.cells #[.slice b1 m2 d1, .slice b1' m2 d1'] 26)).alloc (.cells #[.int .i64 S2, .slice bb kb eb] 29)).below hbw10
        replace hob1 := ((hob1.alloc (.cells #[.slice b1 m2 d1, .slice b1' m2 d1'] 26)).alloc (.cells #[.int .i64 S2, .slice bb kb eb] 29)).below hbw10
        replace hB := below_th (below_al (below_al hB (.cells #[.slice b1 m2 d1, .slice b1' m2 d1'] 26)) (.cells #[.int .i64 S2, .slice bb kb eb] 29)) hbw10
        go_wp2_with fail
        refine (HPS.out _ _ _ HE.out ⟨hof1.tbl, hos1.tbl⟩ hob1.row).mono ?_
        rintro e w11 ⟨rfl, hbw11⟩
        replace hL7 := hL7.below hbw11 hL7.lt
        replace l7 := hL7.two
        replace hL20 := hL20.below hbw11 hL20.lt
        replace l20 := hL20.two
        replace hL21 := hL21.below hbw11 hL21.lt
        replace l21 := hL21.two
        replace hof1 := hof1.below hbw11
        replace hos1 := hos1.below hbw11
        replace hob1 := hob1.below hbw11
        replace hB := below_th hB hbw11
        by_cases hp60 : p ≤ 60
        · have i60 : (p : Int) ≤ 60 := by omega
          have z20 := hL20.lt
          have z21 := hL21.lt
          have HFH := Lib.hid hof1.uHi; have HSH := Lib.hid hos1.uHi; have HOH := Lib.hid hob1.hi
          have hBs := hB.size
          go_wp2_with fail
          refine (roll_ok a n c xs 1403 _ (h.below hB) hn).mono ?_
          rintro e w12 ⟨bd, rfl, hbd, hdc, hbw12⟩
          replace hL7 := hL7.below hbw12 hL7.lt
          replace l7 := hL7.two
          replace hL20 := hL20.below hbw12 hL20.lt
          replace l20 := hL20.two
          replace hL21 := hL21.below hbw12 hL21.lt
          replace l21 := hL21.two
          replace hof1 := hof1.below hbw12
          replace hos1 := hos1.below hbw12
          replace hob1 := hob1.below hbw12
          replace hB := below_th hB hbw12
          have HBI : Hid (∀ (ab : Option Addr) (nb cb : Nat) (zs : List Int) (al : Option Addr) (m cl : Nat) (l : List Int) (w : World) (O : List Int) (C : Int), bacF F G (S2 : Int) zs l = (O, C) → Sol w b1 m2 F b1' m2 G → Row w ab nb zs → nb ≤ 9223372036854775807 → I64s zs → Row w al m l → m ≤ 9223372036854775807 → I64s l → Calls Tryz.prog 15 #[sAgg b1 m2 d1 b1' m2 d1', bAgg (S2 : Int) ab nb cb, .slice al m cl] w (RetR w O C)) := Lib.hid fun ab nb cb zs al m cl l w O C e h1 hr hnb hx hl hml hxl => by have := impl_Bac_l b1 m2 d1 F b1' m2 d1' G (S2 : Int) ab nb cb zs al m cl l w h1 ⟨by omega, by omega⟩ ⟨by omega, by omega⟩ hr hnb hx hl hml hxl; rw [e] at this; exact this
          have hbr : w11.heap.size ≤ bd := hbd
          have hd0 : bd < w12.heap.size := hdc.lt
          have hlt20 : w9.heap.size < bd := by omega
          have hlt21 : w9.heap.size + 1 < bd := by omega
          have hO6 := Own.fresh w12 rfl
          have hd6 := hdc.below (below_al (Below.refl w12.heap.size w12) (.cells #[] 2))
          have hG6 := World.grownBy_alloc w12 (.cells #[] 2) (some bd)
          go_wp2
          go_loopw [27, 28] (fun z i wr => ∃ (j : Nat) (al : Option Addr) (cl : Nat) (st : List Int), j ≤ S2 ∧ i = .int .i64 j ∧ z = .slice al j cl ∧ Own wr w12.heap.size al j cl st ∧ Hid (Less m2 st) ∧ Dic wr bd ∧ w12.grownBy wr (some bd)) (fun _ i _ => S2 - (intOf i).toNat)
          case atStart => exact ⟨0, _, 0, [], Nat.zero_le _, rfl, rfl, hO6, Lib.hid (fun i hi => absurd hi (by simp)), hd6, hG6⟩
          case round =>
            clear hO6 hd6 hG6
            obtain ⟨j, al, cl, st, hj, rfl, rfl, hol, HL, hd, hG⟩ := hrel
            obtain ⟨V, rfl⟩ : ∃ V : World, V = wr := ⟨_, rfl⟩
            have hX := hL20.grown hG (by simp; omega)
            have hE := hL21.grown hG (by simp; omega)
            have lX := hX.two
            have lE := hE.two
            have hzV := hG.size
            by_cases hlt : j < S2
            · go_wp2_with fail
              refine (below_ok bd (m2 : Int) _ hd ⟨by omega, by omega⟩).mono ?_
              rintro e w7 ⟨y, rfl, _, hy, hd7, hg7⟩
              obtain ⟨hy1, hy2⟩ := hy (by omega)
              obtain ⟨q, rfl⟩ : ∃ q : Nat, y = q := ⟨y.toNat, by omega⟩
              have hol7 := hol.grown hg7 (fun g e => by have := hol.lo g e; simp; omega)
              have hz7 := hg7.size
              have hG7 := grown_trans hG hg7
              go_wp2_with (at_builtin; refine app1 rfl rfl hol7 rfl rfl (by omega) (by omega) ?_; intro g' cc w8 hO8 hg8 hs8 hb8)
              go_roundw
              case rel => exact ⟨j + 1, _, cc, _, by omega, by go_num, rfl, hO8, Lib.hid (less_snoc HL.out (by omega)), hd7.keepB hb8 (by omega), grown_below hG7 hb8 (Nat.le_refl _)⟩
              case measure => simp [intOf]; omega
            · obtain rfl : j = S2 := by omega
              have hsl : st.length = j := hol.len.symm
              have HAM := Lib.hid (actM_st (f := F) (g := G) (zs := zs) HST.out hsl HL.out)
              have hsf : Sol V b1 m2 F b1' m2 G := ⟨(hof1.keep fun q hq hl => hG.block q hl (fun e => by have := HFH.out q hq; cases e; omega)).tbl, (hos1.keep fun q hq hl => hG.block q hl (fun e => by have := HSH.out q hq; cases e; omega)).tbl⟩
              have hrb : Row V bb kb zs := (hob1.grown hG (fun g e => by have := HOH.out g e; simp; omega)).row
              have hBV := below_grown hB hG (by omega)
              have hrs := hol.row
              clear hof1 hos1 hob1 hG hd hol hL20 hL21 hB
              go_wp2
              go_loopw [29, 30, 31, 32] (fun z i _ _ wr => ∃ (k : Nat) (al : Option Addr) (cl : Nat), k ≤ p ∧ i = .int .i64 k ∧ z = .slice al j cl ∧ Row wr al j (actM m2 F G zs k st) ∧ Below V.heap.size V wr) (fun _ i _ _ _ => p - (intOf i).toNat)
              case atStart => exact ⟨0, al, cl, Nat.zero_le _, rfl, rfl, hrs, Below.refl _ _⟩
              case round =>
                obtain ⟨k, ak, ck, hk, rfl, rfl, hrk, hq⟩ := hrel
                obtain ⟨U, rfl⟩ : ∃ U : World, U = wr := ⟨_, rfl⟩
                have lX := (hX.below hq hX.lt).two
                have lE := (hE.below hq hE.lt).two
                by_cases hkp : k < p
                · obtain ⟨hml, hmL⟩ := HAM.out k
                  have HSTK := Lib.hid (HST.out _ hml hmL)
                  have HSTL : Hid ((actM m2 F G zs k st).length = j) := Lib.hid hml
                  have HSI := Lib.hid (less_i64 (by omega) hmL)
                  clear hml hmL
                  go_wp2_with fail
                  refine (HBI.out _ _ _ zs _ _ _ (actM m2 F G zs k st) _ (actL m2 F G zs (actM m2 F G zs k st)) 0 HSTK.out.1 (hsf.below hq) (hrb.below hq) (by omega) HI.out hrk (by omega) HSI.out).mono ?_
                  rintro e w9 ⟨a9, n9, c9, rfl, ho9, hb9⟩
                  obtain rfl : n9 = j := by have := ho9.len; rw [HSTK.out.2.1] at this; exact this
                  go_wp2
                  go_roundw
                  case rel => exact ⟨k + 1, _, _, by omega, by go_num, rfl, ho9.row, below_th hq hb9⟩
                  case measure => simp [intOf]; omega
                · obtain rfl : k = p := by omega
                  have hrk2 : Row U ak j st := by have := HBK.out st hsl HL.out; rw [this] at hrk; exact hrk
                  have hrs2 := hrs.below hq
                  go_wp2_with fail
                  refine (likeInts_same _ _ _ _ _ _ st _ hrk2 hrs2 (by omega)).mono ?_
                  rintro e w9 ⟨rfl, hb9⟩
                  go_wp2
                  go_ret
                  exact ⟨rfl, below_th (below_th hBV hq) hb9⟩
        · have i60 : ¬ (p : Int) ≤ 60 := by omega
          go_wp2
          go_ret
          exact ⟨rfl, hB⟩
    · have HE5 := Lib.hid e5; have HE6 := Lib.hid e6; have HE7 := Lib.hid e7; clear e5 e6 e7
      have HIZ : Hid (I64s (ys ++ ys)) := Lib.hid (fun x hx => by rcases List.mem_append.1 hx with hx | hx <;> exact HIb.out x hx)
      go_wp2_with fail
      refine (HTI.out _ _ _ _ HE5.out hob1.row).mono ?_
      rintro e w8 ⟨a7, n7, c7, rfl, ho7, hbw8⟩
      replace hL1 := hL1.below hbw8 hL1.lt
      replace l1 := hL1.two
      replace hL2 := hL2.below hbw8 hL2.lt
      replace l2 := hL2.two
      replace hof1 := hof1.below hbw8
      replace hos1 := hos1.below hbw8
      replace hob1 := hob1.below hbw8
      replace hot1 := hot1.below hbw8
      replace ho3 := ho3.below hbw8
      replace hB := below_th hB hbw8
      have m1 := (hL1.alloc (.cells #[.int .i64 S, .slice a7 n7 c7] 29)).two
      have m2 := (hL2.alloc (.cells #[.int .i64 S, .slice a7 n7 c7] 29)).two
      have m7 := (Loc.new w8 rfl #[.int .i64 S, .slice a7 n7 c7] 29).two
      go_wp2_with fail
      refine (HBI.out _ _ _ (ys ++ ys) _ _ _ l _ Z 0 HE6.out ⟨(hof1.alloc (.cells #[.int .i64 S, .slice a7 n7 c7] 29)).tbl, (hos1.alloc (.cells #[.int .i64 S, .slice a7 n7 c7] 29)).tbl⟩ (ho7.alloc (.cells #[.int .i64 S, .slice a7 n7 c7] 29)).row (by have := ho7.cap; omega) HIZ.out (hot1.alloc (.cells #[.int .i64 S, .slice a7 n7 c7] 29)).row (by have := hot1.cap; omega) HIl.out).mono ?_
      rintro e w9 ⟨a8, n8, c8, rfl, ho8, hbw9⟩
      clear m1 m2 m7
      replace hL1 := (hL1.alloc (.cells #[.int .i64 S, .slice a7 n7 c7] 29)).below hbw9 (hL1.alloc (.cells #[.int .i64 S, .slice a7 n7 c7] 29)).lt
      replace l1 := hL1.two
      replace hL2 := (hL2.alloc (.cells #[.int .i64 S, .slice a7 n7 c7] 29)).below hbw9 (hL2.alloc (.cells #[.int .i64 S, .slice a7 n7 c7] 29)).lt
      replace l2 := hL2.two
      have hL7 := (Loc.new w8 rfl #[.int .i64 S, .slice a7 n7 c7] 29).below hbw9 (Loc.new w8 rfl #[.int .i64 S, .slice a7 n7 c7] 29).lt
      have l7 := hL7.two
      replace hof1 := (hof1.alloc (.cells #[.int .i64 S, .slice a7 n7 c7] 29)).below hbw9
      replace hos1 := (hos1.alloc (.cells #[.int .i64 S, .slice a7 n7 c7] 29)).below hbw9
      replace hob1 := (hob1.alloc (.cells #[.int .i64 S, .slice a7 n7 c7] 29)).below hbw9
      replace hot1 := (hot1.alloc (.cells #[.int .i64 S, .slice a7 n7 c7] 29)).below hbw9
      replace ho3 := (ho3.alloc (.cells #[.int .i64 S, .slice a7 n7 c7] 29)).below hbw9
      replace ho7 := (ho7.alloc (.cells #[.int .i64 S, .slice a7 n7 c7] 29)).below hbw9
      replace hB := below_th (below_al hB (.cells #[.int .i64 S, .slice a7 n7 c7] 29)) hbw9
      go_wp2_with fail
      refine (HBI.out _ _ _ ys _ _ _ O _ Z 0 HE7.out ⟨hof1.tbl, hos1.tbl⟩ hob1.row (by have := hob1.cap; omega) HIb.out ho3.row (by have := ho3.cap; omega) HIO.out).mono ?_
      rintro e w10 ⟨a9, n9, c9, rfl, ho9, hbw10⟩
      replace hL1 := hL1.below hbw10 hL1.lt
      replace l1 := hL1.two
      replace hL2 := hL2.below hbw10 hL2.lt
      replace l2 := hL2.two
      replace hL7 := hL7.below hbw10 hL7.lt
      replace l7 := hL7.two
      replace hof1 := hof1.below hbw10
      replace hos1 := hos1.below hbw10
      replace hob1 := hob1.below hbw10
      replace hot1 := hot1.below hbw10
      replace ho3 := ho3.below hbw10
      replace ho7 := ho7.below hbw10
      replace ho8 := ho8.below hbw10
      replace hB := below_th hB hbw10
      go_wp2_with fail
      refine (likeInts_same _ _ _ _ _ _ Z _ ho8.row ho9.row (by have := ho8.cap; omega)).mono ?_
      rintro e w11 ⟨rfl, hbw11⟩
      replace hL1 := hL1.below hbw11 hL1.lt
      replace l1 := hL1.two
      replace hL2 := hL2.below hbw11 hL2.lt
      replace l2 := hL2.two
      replace hL7 := hL7.below hbw11 hL7.lt
      replace l7 := hL7.two
      replace hof1 := hof1.below hbw11
      replace hos1 := hos1.below hbw11
      replace hob1 := hob1.below hbw11
      replace hot1 := hot1.below hbw11
      replace ho3 := ho3.below hbw11
      replace ho7 := ho7.below hbw11
      replace ho8 := ho8.below hbw11
      replace ho9 := ho9.below hbw11
      replace hB := below_th hB hbw11
      clear hL7 l7
      clear HBI HBS HE1 HE2 HE3 HE5 HE6 HE7 HBR HIO HTI HIV HIV2 HIZ HIb HIl HLO ho3 hof1 hos1 hob1 hot1 ho7 ho8 ho9 ho5 ho6 ho4
      clear hL1 l1 hL2 l2
      go_wp2_with fail
      refine (DrawBraidPeriod_ok a n c xs _ (h.below hB) hn).mono ?_
      rintro e w12 ⟨m2, b1, d1, us1, F, b1', d1', us1', G, T, bb, kb, eb, zs, m1, m6, hT1, hT2, hkb, hsm2, rfl, ⟨hof1, hos1, hap2⟩, hob1, hbw12⟩
      replace hB := below_th hB hbw12
      have HI := Lib.hid (sml_i64b hsm2)
      clear hsm2 hap2
      have HPI : Hid (∀ (w : World) (P C : Int), bpF F G T zs = (P, C) → Sol w b1 m2 F b1' m2 G → Row w bb kb zs → Calls Tryz.prog 21 #[sAgg b1 m2 d1 b1' m2 d1', bAgg T bb kb eb] w (RetI w P C)) := Lib.hid fun w P C e h1 hr => by have := impl_Bp_l b1 m2 d1 F b1' m2 d1' G T bb kb eb zs w h1 ⟨by omega, by omega⟩ ⟨by omega, by omega⟩ hr (by omega) HI.out; rw [e] at this; exact this
      have HPS : Hid (∀ (w : World) (P C : Int), bpF F G T zs = (P, C) → Sol w b1 m2 F b1' m2 G → Row w bb kb zs → Calls Tryz.prog 22 #[sAgg b1 m2 d1 b1' m2 d1', bAgg T bb kb eb] w (RetI w P C)) := Lib.hid fun w P C e h1 hr => by have := spec_Bp_l b1 m2 d1 F b1' m2 d1' G T bb kb eb zs w h1 ⟨by omega, by omega⟩ ⟨by omega, by omega⟩ hr (by omega) HI.out; rw [e] at this; exact this
      rcases per_facts F G T zs with ⟨p, C, e4, hC2⟩ | ⟨S2, p, rfl, e4, hp9, hS22, hS26, hbr2, hF1, hback, hstep⟩
      · have HE := Lib.hid e4; clear e4
        have u0 : (C != C) = false := by simp
        have u1 : (p != p) = false := by simp
        have u2 : (C != 0) = true := by simpa using hC2
        have m20 := ((Loc.new w12 rfl #[.slice b1 m2 d1, .slice b1' m2 d1'] 26).alloc (.cells #[.int .i64 T, .slice bb kb eb] 29)).two
        have m21 := (Loc.new (b := w12.heap.size + 1) (w12.alloc (.cells #[.slice b1 m2 d1, .slice b1' m2 d1'] 26)) (by simp) #[.int .i64 T, .slice bb kb eb] 29).two
        go_wp2_with fail
        refine (HPI.out _ p C HE.out ⟨((hof1.alloc (.cells #[.slice b1 m2 d1, .slice b1' m2 d1'] 26)).alloc (.cells #[.int .i64 T, .slice bb kb eb] 29)).tbl, ((hos1.alloc (.cells #[.slice b1 m2 d1, .slice b1' m2 d1'] 26)).alloc (.cells #[.int .i64 T, .slice bb kb eb] 29)).tbl⟩ ((hob1.alloc (.cells #[.slice b1 m2 d1, .slice b1' m2 d1'] 26)).alloc (.cells #[.int .i64 T, .slice bb kb eb] 29)).row).mono ?_
        rintro e w13 ⟨rfl, hbw13⟩
        clear m20 m21
        have hL20 := ((Loc.new w12 rfl #[.slice b1 m2 d1, .slice b1' m2 d1'] 26).alloc (.cells #[.int .i64 T, .slice bb kb eb] 29)).below hbw13 ((Loc.new w12 rfl #[.slice b1 m2 d1, .slice b1' m2 d1'] 26).alloc (.cells #[.int .i64 T, .slice bb kb eb] 29)).lt
        have l20 := hL20.two
        have hL21 := (Loc.new (b := w12.heap.size + 1) (w12.alloc (.cells #[.slice b1 m2 d1, .slice b1' m2 d1'] 26)) (by simp) #[.int .i64 T, .slice bb kb eb] 29).below hbw13 (Loc.new (b := w12.heap.size + 1) (w12.alloc (.cells #[.slice b1 m2 d1, .slice b1' m2 d1'] 26)) (by simp) #[.int .i64 T, .slice bb kb eb] 29).lt
        have l21 := hL21.two
        replace hof1 := ((hof1.alloc (.cells #[.slice b1 m2 d1, .slice b1' m2 d1'] 26)).alloc (.cells #[.int .i64 T, .slice bb kb eb] 29)).below hbw13
        replace hos1 := ((hos1.alloc (.cells #[.slice b1 m2 d1, .slice b1' m2 d1'] 26)).alloc (.cells #[.int .i64 T, .slice bb kb eb] 29)).below hbw13
        replace hob1 := ((hob1.alloc (.cells #[.slice b1 m2 d1, .slice b1' m2 d1'] 26)).alloc (.cells #[.int .i64 T, .slice bb kb eb] 29)).below hbw13
        replace hB := below_th (below_al (below_al hB (.cells #[.slice b1 m2 d1, .slice b1' m2 d1'] 26)) (.cells #[.int .i64 T, .slice bb kb eb] 29)) hbw13
        go_wp2_with fail
        refine (HPS.out _ p C HE.out ⟨hof1.tbl, hos1.tbl⟩ hob1.row).mono ?_
        rintro e w14 ⟨rfl, hbw14⟩
        replace hL20 := hL20.below hbw14 hL20.lt
        replace l20 := hL20.two
        replace hL21 := hL21.below hbw14 hL21.lt
        replace l21 := hL21.two
        replace hof1 := hof1.below hbw14
        replace hos1 := hos1.below hbw14
        replace hob1 := hob1.below hbw14
        replace hB := below_th hB hbw14
        go_wp2
        go_ret
        exact ⟨rfl, hB⟩
      · rw [← hof1.len] at hback hstep hF1
        have HE := Lib.hid e4; have HBK := Lib.hid hback; have HST := Lib.hid hstep
        clear e4 hback hstep hbr2
        have u1 : ((p : Int) != (p : Int)) = false := by simp
        have m20 := ((Loc.new w12 rfl #[.slice b1 m2 d1, .slice b1' m2 d1'] 26).alloc (.cells #[.int .i64 S2, .slice bb kb eb] 29)).two
        have m21 := (Loc.new (b := w12.heap.size + 1) (w12.alloc (.cells #[.slice b1 m2 d1, .slice b1' m2 d1'] 26)) (by simp) #[.int .i64 S2, .slice bb kb eb] 29).two
        go_wp2_with fail
        refine (HPI.out _ _ _ HE.out ⟨((hof1.alloc (.cells #[.slice b1 m2 d1, .slice b1' m2 d1'] 26)).alloc (.cells #[.int .i64 S2, .slice bb kb eb] 29)).tbl, ((hos1.alloc (.cells #[.slice b1 m2 d1, .slice b1' m2 d1'] 26)).alloc (.cells #[.int .i64 S2, .slice bb kb eb] 29)).tbl⟩ ((hob1.alloc (.cells #[.slice b1 m2 d1, .slice b1' m2 d1'] 26)).alloc (.cells #[.int .i64 S2, .slice bb kb eb] 29)).row).mono ?_
        rintro e w13 ⟨rfl, hbw13⟩
        clear m20 m21
        have hL20 := ((Loc.new w12 rfl #[.slice b1 m2 d1, .slice b1' m2 d1'] 26).alloc (.cells #[.int .i64 S2, .slice bb kb eb] 29)).below hbw13 ((Loc.new w12 rfl #[.slice b1 m2 d1, .slice b1' m2 d1'] 26).alloc (.cells #[.int .i64 S2, .slice bb kb eb] 29)).lt
        have l20 := hL20.two
        have hL21 := (Loc.new (b := w12.heap.size + 1) (w12.alloc (.cells #[.slice b1 m2 d1, .slice b1' m2 d1'] 26)) (by simp) #[.int .i64 S2, .slice bb kb eb] 29).below hbw13 (Loc.new (b := w12.heap.size + 1) (w12.alloc (.cells #[.slice b1 m2 d1, .slice b1' m2 d1'] 26)) (by simp) #[.int .i64 S2, .slice bb kb eb] 29).lt
        have l21 := hL21.two
        replace hof1 := ((hof1.alloc (.cells #[.slice b1 m2 d1, .slice b1' m2 d1'] 26)).alloc (.cells #[.int .i64 S2, .slice bb kb eb] 29)).below hbw13
        replace hos1 := ((hos1.alloc (.cells #[.slice b1 m2 d1, .slice b1' m2 d1'] 26)).alloc (.cells #[.int .i64 S2, .slice bb kb eb] 29)).below hbw13
        replace hob1 := ((hob1.alloc (.cells #[.slice b1 m2 d1, .slice b1' m2 d1'] 26)).alloc (.cells #[.int .i64 S2, .slice bb kb eb] 29)).below hbw13
        replace hB := below_th (below_al (below_al hB (.cells #[.slice b1 m2 d1, .slice b1' m2 d1'] 26)) (.cells #[.int .i64 S2, .slice bb kb eb] 29)) hbw13
        go_wp2_with fail
        refine (HPS.out _ _ _ HE.out ⟨hof1.tbl, hos1.tbl⟩ hob1.row).mono ?_
        rintro e w14 ⟨rfl, hbw14⟩
        replace hL20 := hL20.below hbw14 hL20.lt
        replace l20 := hL20.two
        replace hL21 := hL21.below hbw14 hL21.lt
        replace l21 := hL21.two
        replace hof1 := hof1.below hbw14
        replace hos1 := hos1.below hbw14
        replace hob1 := hob1.below hbw14
        replace hB := below_th hB hbw14
        by_cases hp60 : p ≤ 60
        · have i60 : (p : Int) ≤ 60 := by omega
          have z20 := hL20.lt
          have z21 := hL21.lt
          have HFH := Lib.hid hof1.uHi; have HSH := Lib.hid hos1.uHi; have HOH := Lib.hid hob1.hi
          have hBs := hB.size
          go_wp2_with fail
          refine (roll_ok a n c xs 1403 _ (h.below hB) hn).mono ?_
          rintro e w15 ⟨bd, rfl, hbd, hdc, hbw15⟩
          replace hL20 := hL20.below hbw15 hL20.lt
          replace l20 := hL20.two
          replace hL21 := hL21.below hbw15 hL21.lt
          replace l21 := hL21.two
          replace hof1 := hof1.below hbw15
          replace hos1 := hos1.below hbw15
          replace hob1 := hob1.below hbw15
          replace hB := below_th hB hbw15
          have HBI : Hid (∀ (ab : Option Addr) (nb cb : Nat) (zs : List Int) (al : Option Addr) (m cl : Nat) (l : List Int) (w : World) (O : List Int) (C : Int), bacF F G (S2 : Int) zs l = (O, C) → Sol w b1 m2 F b1' m2 G → Row w ab nb zs → nb ≤ 9223372036854775807 → I64s zs → Row w al m l → m ≤ 9223372036854775807 → I64s l → Calls Tryz.prog 15 #[sAgg b1 m2 d1 b1' m2 d1', bAgg (S2 : Int) ab nb cb, .slice al m cl] w (RetR w O C)) := Lib.hid fun ab nb cb zs al m cl l w O C e h1 hr hnb hx hl hml hxl => by have := impl_Bac_l b1 m2 d1 F b1' m2 d1' G (S2 : Int) ab nb cb zs al m cl l w h1 ⟨by omega, by omega⟩ ⟨by omega, by omega⟩ hr hnb hx hl hml hxl; rw [e] at this; exact this
          have hbr : w14.heap.size ≤ bd := hbd
          have hd0 : bd < w15.heap.size := hdc.lt
          have hlt20 : w12.heap.size < bd := by omega
          have hlt21 : w12.heap.size + 1 < bd := by omega
          have hO6 := Own.fresh w15 rfl
          have hd6 := hdc.below (below_al (Below.refl w15.heap.size w15) (.cells #[] 2))
          have hG6 := World.grownBy_alloc w15 (.cells #[] 2) (some bd)
          go_wp2
          go_loopw [27, 28] (fun z i wr => ∃ (j : Nat) (al : Option Addr) (cl : Nat) (st : List Int), j ≤ S2 ∧ i = .int .i64 j ∧ z = .slice al j cl ∧ Own wr w15.heap.size al j cl st ∧ Hid (Less m2 st) ∧ Dic wr bd ∧ w15.grownBy wr (some bd)) (fun _ i _ => S2 - (intOf i).toNat)
          case atStart => exact ⟨0, _, 0, [], Nat.zero_le _, rfl, rfl, hO6, Lib.hid (fun i hi => absurd hi (by simp)), hd6, hG6⟩
          case round =>
            clear hO6 hd6 hG6
            obtain ⟨j, al, cl, st, hj, rfl, rfl, hol, HL, hd, hG⟩ := hrel
            obtain ⟨V, rfl⟩ : ∃ V : World, V = wr := ⟨_, rfl⟩
            have hX := hL20.grown hG (by simp; omega)
            have hE := hL21.grown hG (by simp; omega)
            have lX := hX.two
            have lE := hE.two
            have hzV := hG.size
            by_cases hlt : j < S2
            · go_wp2_with fail
              refine (below_ok bd (m2 : Int) _ hd ⟨by omega, by omega⟩).mono ?_
              rintro e w7 ⟨y, rfl, _, hy, hd7, hg7⟩
              obtain ⟨hy1, hy2⟩ := hy (by omega)
              obtain ⟨q, rfl⟩ : ∃ q : Nat, y = q := ⟨y.toNat, by omega⟩
              have hol7 := hol.grown hg7 (fun g e => by have := hol.lo g e; simp; omega)
              have hz7 := hg7.size
              have hG7 := grown_trans hG hg7
              go_wp2_with (at_builtin; refine app1 rfl rfl hol7 rfl rfl (by omega) (by omega) ?_; intro g' cc w8 hO8 hg8 hs8 hb8)
              go_roundw
              case rel => exact ⟨j + 1, _, cc, _, by omega, by go_num, rfl, hO8, Lib.hid (less_snoc HL.out (by omega)), hd7.keepB hb8 (by omega), grown_below hG7 hb8 (Nat.le_refl _)⟩
              case measure => simp [intOf]; omega
            · obtain rfl : j = S2 := by omega
              have hsl : st.length = j := hol.len.symm
              have HAM := Lib.hid (actM_st (f := F) (g := G) (zs := zs) HST.out hsl HL.out)
              have hsf : Sol V b1 m2 F b1' m2 G := ⟨(hof1.keep fun q hq hl => hG.block q hl (fun e => by have := HFH.out q hq; cases e; omega)).tbl, (hos1.keep fun q hq hl => hG.block q hl (fun e => by have := HSH.out q hq; cases e; omega)).tbl⟩
              have hrb : Row V bb kb zs := (hob1.grown hG (fun g e => by have := HOH.out g e; simp; omega)).row
              have hBV := below_grown hB hG (by omega)
              have hrs := hol.row
              clear hof1 hos1 hob1 hG hd hol hL20 hL21 hB
              go_wp2
              go_loopw [29, 30, 31, 32] (fun z i _ _ wr => ∃ (k : Nat) (al : Option Addr) (cl : Nat), k ≤ p ∧ i = .int .i64 k ∧ z = .slice al j cl ∧ Row wr al j (actM m2 F G zs k st) ∧ Below V.heap.size V wr) (fun _ i _ _ _ => p - (intOf i).toNat)
              case atStart => exact ⟨0, al, cl, Nat.zero_le _, rfl, rfl, hrs, Below.refl _ _⟩
              case round =>
                obtain ⟨k, ak, ck, hk, rfl, rfl, hrk, hq⟩ := hrel
                obtain ⟨U, rfl⟩ : ∃ U : World, U = wr := ⟨_, rfl⟩
                have lX := (hX.below hq hX.lt).two
                have lE := (hE.below hq hE.lt).two
                by_cases hkp : k < p
                · obtain ⟨hml, hmL⟩ := HAM.out k
                  have HSTK := Lib.hid (HST.out _ hml hmL)
                  have HSTL : Hid ((actM m2 F G zs k st).length = j) := Lib.hid hml
                  have HSI := Lib.hid (less_i64 (by omega) hmL)
                  clear hml hmL
                  go_wp2_with fail
                  refine (HBI.out _ _ _ zs _ _ _ (actM m2 F G zs k st) _ (actL m2 F G zs (actM m2 F G zs k st)) 0 HSTK.out.1 (hsf.below hq) (hrb.below hq) (by omega) HI.out hrk (by omega) HSI.out).mono ?_
                  rintro e w9 ⟨a9, n9, c9, rfl, ho9, hb9⟩
                  obtain rfl : n9 = j := by have := ho9.len; rw [HSTK.out.2.1] at this; exact this
                  go_wp2
                  go_roundw
                  case rel => exact ⟨k + 1, _, _, by omega, by go_num, rfl, ho9.row, below_th hq hb9⟩
                  case measure => simp [intOf]; omega
                · obtain rfl : k = p := by omega
                  have hrk2 : Row U ak j st := by have := HBK.out st hsl HL.out; rw [this] at hrk; exact hrk
                  have hrs2 := hrs.below hq
                  go_wp2_with fail
                  refine (likeInts_same _ _ _ _ _ _ st _ hrk2 hrs2 (by omega)).mono ?_
                  rintro e w9 ⟨rfl, hb9⟩
                  go_wp2
                  go_ret
                  exact ⟨rfl, below_th (below_th hBV hq) hb9⟩
        · have i60 : ¬ (p : Int) ≤ 60 := by omega
          go_wp2
          go_ret
          exact ⟨rfl, hB⟩
end Go.Proofs.YtjhdbgohdmdpeaaGreat
