/-
  Walks and plain laws of this seat, some texts in one.
  No condition but bounds on lengths.
-/
import Derived.Test.YtiliimkfobfbnaaGreatPt12
import Derived.Test.YtiliimkfobfbnaaGreatPt11
namespace Go.Proofs.YtiliimkfobfbnaaGreat
set_option maxRecDepth 100000
set_option linter.unusedVariables false
set_option linter.unusedSimpArgs false
open Go.RowKit
structure BrT (n : Nat) (f g : List (List Int)) : Prop where
  n1 : 1 ≤ n
  n12 : n ≤ 12
  sf : Sq n f
  sg : Sq n g
  rf : ∀ x, x < n → IsP n (f.getD x [])
  rg : ∀ x, x < n → IsP n (g.getD x [])
  b : Brc n (tv f) (tv g) (ivN f) (ivN g)
  is : isBrc f g = true
theorem BrT.of {n : Nat} {f g : List (List Int)} (h : isBrc f g = true) (hl : n = f.length) : BrT n f g := by
  subst hl
  obtain ⟨h1, h2, h3, h4⟩ := isBrc_sq h
  obtain ⟨k1, k2, k3⟩ := isBrc_grp h
  exact ⟨h1, h2, h3, h4, fun x hx => isGrp_row k1 hx, fun x hx => by rw [k3] at hx ⊢; exact isGrp_row k2 hx, brc_of h, h⟩
set_option maxHeartbeats 4000000 in
theorem lambdaTable1_any (n bb bm : Nat) (tb tm : TypeId) (a a' am : Option Addr) (c c' cm : Nat) (f g : List (List Int)) (w : World) (hL : Loc w bb #[.slice a n c, .slice a' n c'] tb) (hM : Loc w bm #[.slice am n cm] tm) (h1 : Tbl w a n f) (h2 : Tbl w a' n g) (hrm : Row w am n (ivnL n f)) (h : BrT n f g) (x y : Nat) (hx : x < n) (hy : y < n) :
    Calls Tryz.prog 83 #[.int .i64 x, .int .i64 y, .pointer (some ⟨bb, 0, none⟩), .pointer (some ⟨bm, 0, none⟩)] w fun e w' => e = .returned (.int .i64 ((lamN f g x y : Nat) : Int)) ∧ ∃ m, w' = w.drewN m := by
  obtain ⟨bf, of, A, O, C, rfl, gf⟩ := h1.grid h.sf h.n1
  obtain ⟨bg, og, A', O', C', rfl, gg⟩ := h2.grid h.sg h.n1
  have hn := h.n12
  have hmx : ivN f x < n := h.b.a.il x hx
  obtain ⟨b1, o1, rfl, gm⟩ := hrm.at x hx
  rw [ivnL_get f hx] at gm
  have l1 := h.sg.lt hx hy
  have hd : lamN f g x y = tv f (ivN f x) (tv g x y) := rfl
  rw [hd]
  have k1 := gg.look hx hy
  generalize ivN f x = MX at *
  generalize tv g x y = q at *
  have k2 := gf.look hmx l1
  generalize tv f MX q = u at *
  have lL := hL.two
  have lM := hM.one
  clear h hd
  have i1 : (0 : Int) ≤ (x : Int) := by omega
  have i2 : (x : Int) < (n : Int) := by omega
  have i3 : (0 : Int) ≤ (y : Int) := by omega
  have i4 : (y : Int) < (n : Int) := by omega
  have i5 : (0 : Int) ≤ (MX : Int) := by omega
  have i6 : (MX : Int) < (n : Int) := by omega
  have i7 : (0 : Int) ≤ (q : Int) := by omega
  have i8 : (q : Int) < (n : Int) := by omega
  go_enter Tryz.func83, Tryz.ntmps83
  go_wp2
  go_quiet (fail)
  go_wp2
  go_ret
  exact ⟨rfl, _, rfl⟩
theorem ent_lam1 : Ent 83 := fun _ _ => rfl
set_option maxHeartbeats 4000000 in
theorem lambdaTable_any (n : Nat) (a a' : Option Addr) (c c' : Nat) (f g : List (List Int)) (w : World) (h1 : Tbl w a n f) (h2 : Tbl w a' n g) (h : BrT n f g) :
    Calls Tryz.prog 46 #[sAgg a n c a' n c'] w fun e w' => ∃ a1 c1 vs, e = .returned (.slice a1 n c1) ∧ OwnT w' w.heap.size a1 n c1 vs (tabF n fun x y => ((lamN f g x y : Nat) : Int)) ∧ Below w.heap.size w w' := by
  have HB := Lib.hid h
  have HS := Lib.hid h.sf
  have HR := Lib.hid h.rf
  have hn := h.n12
  clear h
  have hA := Loc.new w rfl #[.slice a n c, .slice a' n c'] 26
  have hB := below_al (Below.refl w.heap.size w) (.cells #[.slice a n c, .slice a' n c'] 26)
  obtain ⟨w0, hw0⟩ : ∃ w0, w.alloc (.cells #[.slice a n c, .slice a' n c'] 26) = w0 := ⟨_, rfl⟩
  have hz0 : w0.heap.size = w.heap.size + 1 := by rw [← hw0]; exact size_alloc _ _
  rw [hw0] at hA hB
  have lA := hA.two
  go_enter Tryz.func46, Tryz.ntmps46
  go_wp2_with fail
  try rw [hw0]
  refine (groupInverses_any _ n _ f _ (h1.below hB) (by omega) HS.out HR.out).mono ?_
  rintro e w1 ⟨am, cm, rfl, hom, hb1⟩
  have hz1 := hb1.size
  have hB1 := below_th hB hb1
  have hA1 := hA.below hb1 hA.lt
  have lA1 := hA1.two
  obtain ⟨w2, hw2⟩ : ∃ w2, (w1.alloc (.cells #[.slice none 0 0] 50)).setCell ⟨w1.heap.size, 0, none⟩ (.slice am n cm) = w2 := ⟨_, rfl⟩
  have hL2 : Loc w2 w1.heap.size #[.slice am n cm] 50 := by rw [← hw2]; exact (Loc.new w1 rfl _ _).set 0 _
  have hb2 : Below w1.heap.size w1 w2 := by rw [← hw2]; exact (below_al (Below.refl _ _) _).setCell (Nat.le_refl _) _
  have hB2 := below_th hB1 hb2
  have hA2 := hA1.below hb2 hA1.lt
  have lA2 := hA2.two
  have hrm := (hom.below hb2).row
  have hc1 : Hid (∀ x y, x < n → y < n → ∀ w3, Below w2.heap.size w2 w3 → Calls Tryz.prog 83 (#[.int .i64 x, .int .i64 y] ++ #[.pointer (some ⟨w.heap.size, 0, none⟩), .pointer (some ⟨w1.heap.size, 0, none⟩)]) w3 fun e w' => e = .returned (.int .i64 ((lamN f g x y : Nat) : Int)) ∧ Below w3.heap.size w3 w') := Lib.hid fun x y hx hy w3 hb3 =>
    (lambdaTable1_any n _ _ _ _ a a' am c c' cm f g w3 (hA2.below hb3 hA2.lt) (hL2.below hb3 hL2.lt) (h1.below (below_th hB2 hb3)) (h2.below (below_th hB2 hb3)) (hrm.below hb3) HB.out x y hx hy).mono fun e w' ⟨he, k, hk⟩ => ⟨he, by rw [hk]; exact below_drewN (Below.refl _ _) k⟩
  go_wp2_with fail
  try rw [hw2]
  refine (tableBy_any _ _ (fun x y => ((lamN f g x y : Nat) : Int)) n _ (by omega) ent_lam1 hc1.out).mono ?_
  rintro e w3 ⟨a1, c1, vs, rfl, ho1, hb3⟩
  have hB3 := below_th hB2 hb3
  go_wp2
  go_ret
  exact ⟨a1, c1, vs, rfl, ho1.mono hB2.size, hB3⟩
set_option maxHeartbeats 4000000 in
theorem braceSolution1_any (n bl bb bk : Nat) (tl tb tk : TypeId) (al a a' ak : Option Addr) (cl c c' ck : Nat) (f g : List (List Int)) (w : World) (hl : Loc w bl #[.slice al n cl] tl) (hL : Loc w bb #[.slice a n c, .slice a' n c'] tb) (hK : Loc w bk #[.slice ak n ck] tk) (hlam : Tbl w al n (tabF n fun x y => ((lamN f g x y : Nat) : Int))) (h2 : Tbl w a' n g) (hrk : Row w ak n (ivnL n g)) (h : BrT n f g) (x y : Nat) (hx : x < n) (hy : y < n) :
    Calls Tryz.prog 61 #[.int .i64 x, .int .i64 y, .pointer (some ⟨bl, 0, none⟩), .pointer (some ⟨bb, 0, none⟩), .pointer (some ⟨bk, 0, none⟩)] w fun e w' => e = .returned (.tuple #[.int .i64 ((lamN f g x y : Nat) : Int), .int .i64 ((rhoN f g x y : Nat) : Int)]) ∧ ∃ m, w' = w.drewN m := by
  obtain ⟨bf, of, A, O, C, rfl, gl⟩ := hlam.grid (Sq.tab fun x y hx hy => h.b.lam_lt hx hy) h.n1
  obtain ⟨bg, og, A', O', C', rfl, gg⟩ := h2.grid h.sg h.n1
  have hn := h.n12
  have hz : lamN f g x y < n := h.b.lam_lt hx hy
  have hbz : ivN g (lamN f g x y) < n := h.b.c.il _ hz
  obtain ⟨b1, o1, rfl, gm⟩ := hrk.at _ hz
  rw [ivnL_get g hz] at gm
  have l1 := h.sg.lt hx hy
  have k0 := gl.look hx hy
  rw [tv_tab hx hy] at k0
  have hd : rhoN f g x y = tv g (ivN g (lamN f g x y)) (tv g x y) := rfl
  rw [hd]
  have k1 := gg.look hx hy
  generalize lamN f g x y = Z at *
  generalize ivN g Z = MX at *
  generalize tv g x y = q at *
  have k2 := gg.look hbz l1
  generalize tv g MX q = u at *
  have ll := hl.one
  have lL := hL.two
  have lK := hK.one
  clear h hd
  have i1 : (0 : Int) ≤ (x : Int) := by omega
  have i2 : (x : Int) < (n : Int) := by omega
  have i3 : (0 : Int) ≤ (y : Int) := by omega
  have i4 : (y : Int) < (n : Int) := by omega
  have i5 : (0 : Int) ≤ (MX : Int) := by omega
  have i6 : (MX : Int) < (n : Int) := by omega
  have i7 : (0 : Int) ≤ (q : Int) := by omega
  have i8 : (q : Int) < (n : Int) := by omega
  have i9 : (0 : Int) ≤ (Z : Int) := by omega
  have i10 : (Z : Int) < (n : Int) := by omega
  go_enter Tryz.func61, Tryz.ntmps61
  go_wp2
  go_quiet (fail)
  go_wp2
  go_ret2
  exact ⟨rfl, _, rfl⟩
theorem ent_brs1 : Ent 61 := fun _ _ => rfl
set_option maxHeartbeats 8000000 in
theorem braceSolution_any (n : Nat) (a a' : Option Addr) (c c' : Nat) (f g : List (List Int)) (w : World) (h1 : Tbl w a n f) (h2 : Tbl w a' n g) (h : BrT n f g) :
    Calls Tryz.prog 26 #[sAgg a n c a' n c'] w fun e w' => ∃ a1 c1 vs a1' c1' vs', e = .returned (sAgg a1 n c1 a1' n c1') ∧ OwnS w' w.heap.size a1 n c1 vs (lamT f g) a1' n c1' vs' (rhoT f g) ∧ Below w.heap.size w w' := by
  have HB := Lib.hid h
  have HS := Lib.hid h.sg
  have HR := Lib.hid h.rg
  have hn := h.n12
  have HL : Hid (lamT f g = tabF n fun x y => ((lamN f g x y : Nat) : Int)) := Lib.hid (by unfold lamT; rw [h.sf.len])
  have HG : Hid (rhoT f g = tabF n fun x y => ((rhoN f g x y : Nat) : Int)) := Lib.hid (by unfold rhoT; rw [h.sf.len])
  clear h
  obtain ⟨w0, hw0⟩ : ∃ w0, (w.alloc (.cells #[.slice a n c, .slice a' n c'] 26)).alloc (.cells #[.slice none 0 0, .slice none 0 0] 29) = w0 := ⟨_, rfl⟩
  have hz0 : w0.heap.size = w.heap.size + 2 := by rw [← hw0]; simp
  have hB : Below w.heap.size w w0 := by rw [← hw0]; exact below_al (below_al (Below.refl _ _) _) _
  have hA : Loc w0 w.heap.size #[.slice a n c, .slice a' n c'] 26 := by rw [← hw0]; exact (Loc.new w rfl _ _).alloc _
  have hO : Loc w0 (w.heap.size + 1) #[.slice none 0 0, .slice none 0 0] 29 := by rw [← hw0]; exact Loc.new _ (by simp) _ _
  have lA := hA.two
  go_enter Tryz.func26, Tryz.ntmps26
  go_wp2_with fail
  try rw [hw0]
  refine (groupInverses_any _ n _ g _ (h2.below hB) (by omega) HS.out HR.out).mono ?_
  rintro e w1 ⟨ak, ck, rfl, hok, hb1⟩
  have hz1 := hb1.size
  have hB1 := below_th hB hb1
  have hA1 := hA.below hb1 hA.lt
  have hO1 := hO.below hb1 hO.lt
  obtain ⟨w2, hw2⟩ : ∃ w2, (w1.alloc (.cells #[.slice none 0 0] 50)).setCell ⟨w1.heap.size, 0, none⟩ (.slice ak n ck) = w2 := ⟨_, rfl⟩
  have hK2 : Loc w2 w1.heap.size #[.slice ak n ck] 50 := by rw [← hw2]; exact (Loc.new w1 rfl _ _).set 0 _
  have hb2 : Below w1.heap.size w1 w2 := by rw [← hw2]; exact (below_al (Below.refl _ _) _).setCell (Nat.le_refl _) _
  have hz2 := hb2.size
  have hB2 := below_th hB1 hb2
  have hA2 := hA1.below hb2 hA1.lt
  have hO2 := hO1.below hb2 hO1.lt
  have lA2 := hA2.two
  have hok2 := hok.below hb2
  go_wp2_with fail
  try rw [hw2]
  refine (lambdaTable_any n a a' c c' f g _ (h1.below hB2) (h2.below hB2) HB.out).mono ?_
  rintro e w3 ⟨al, cl, vl, rfl, hol, hb3⟩
  have hz3 := hb3.size
  have hB3 := below_th hB2 hb3
  have hA3 := hA2.below hb3 hA2.lt
  have hO3 := hO2.below hb3 hO2.lt
  have hK3 := hK2.below hb3 hK2.lt
  have hok3 := hok2.below hb3
  obtain ⟨w4, hw4⟩ : ∃ w4, (w3.alloc (.cells #[.slice none 0 0] 24)).setCell ⟨w3.heap.size, 0, none⟩ (.slice al n cl) = w4 := ⟨_, rfl⟩
  have hL4 : Loc w4 w3.heap.size #[.slice al n cl] 24 := by rw [← hw4]; exact (Loc.new w3 rfl _ _).set 0 _
  have hb4 : Below w3.heap.size w3 w4 := by rw [← hw4]; exact (below_al (Below.refl _ _) _).setCell (Nat.le_refl _) _
  have hz4 := hb4.size
  have hB4 := below_th hB3 hb4
  have hA4 := hA3.below hb4 hA3.lt
  have hO4 := hO3.below hb4 hO3.lt
  have hK4 := hK3.below hb4 hK3.lt
  have hrk := (hok3.below hb4).row
  have hlt := (hol.below hb4).tbl
  have lA4 := hA4.two
  have hp : Hid (PairAt 61 #[.pointer (some ⟨w3.heap.size, 0, none⟩), .pointer (some ⟨w.heap.size, 0, none⟩), .pointer (some ⟨w1.heap.size, 0, none⟩)] (fun x y => ((lamN f g x y : Nat) : Int)) (fun x y => ((rhoN f g x y : Nat) : Int)) n w4) := Lib.hid fun x y hx hy w5 hb5 =>
    (braceSolution1_any n _ _ _ _ _ _ al a a' ak cl c c' ck f g w5 (hL4.below hb5 hL4.lt) (hA4.below hb5 hA4.lt) (hK4.below hb5 hK4.lt) (hlt.below hb5) (h2.below (below_th hB4 hb5)) (hrk.below hb5) HB.out x y hx hy).mono fun e w' ⟨he, k, hk⟩ => ⟨he, by rw [hk]; exact below_drewN (Below.refl _ _) k⟩
  go_wp2_with fail
  try rw [hw4]
  refine (solutionBy_any _ _ _ _ n _ (by omega) ent_brs1 hp.out).mono ?_
  rintro e w5 ⟨a1, c1, vs, a1', c1', vs', rfl, ho, hb5⟩
  rw [← HL.out, ← HG.out] at ho
  have hB5 := below_th hB4 hb5
  have hO5 := hO4.below hb5 hO4.lt
  have lO := hO5.two
  go_wp2
  refine bodyPost_ret (v := sAgg a1 n c1 a1' n c1') (by simp [results, Tryz.results26, go_sem, lO]) rfl ⟨a1, c1, vs, a1', c1', vs', rfl, ⟨?_, ?_, ho.ap⟩, ?_⟩
  · exact ((ho.f.setlo (by show w.heap.size + 1 < w4.heap.size; omega) _).setlo (by show w.heap.size + 1 < w4.heap.size; omega) _).mono (by omega)
  · exact ((ho.s.setlo (by show w.heap.size + 1 < w4.heap.size; omega) _).setlo (by show w.heap.size + 1 < w4.heap.size; omega) _).mono (by omega)
  · exact below_setne (below_setne hB5 (by show w.heap.size ≤ w.heap.size + 1; omega) _) (by show w.heap.size ≤ w.heap.size + 1; omega) _
def BrsR (n : Nat) (f g : List (List Int)) (w : World) (e : Ending) (w' : World) : Prop :=
  (isBrc f g = false ∧ e = .returned (.tuple #[sAgg none 0 0 none 0 0, .int .i64 1]) ∧ Below w.heap.size w w') ∨
  (isBrc f g = true ∧ ∃ a1 c1 vs a1' c1' vs', e = .returned (.tuple #[sAgg a1 n c1 a1' n c1', .int .i64 0]) ∧ OwnS w' w.heap.size a1 n c1 vs (lamT f g) a1' n c1' vs' (rhoT f g) ∧ Below w.heap.size w w')
set_option maxHeartbeats 8000000 in
theorem BraceSolution_any (a : Option Addr) (n c : Nat) (a' : Option Addr) (n' c' : Nat) (f g : List (List Int)) (w : World) (h1 : Tbl w a n f) (h2 : Tbl w a' n' g) (hm1 : n ≤ 9223372036854775807) (hm2 : n' ≤ 9223372036854775807) :
    Calls Tryz.prog 6 #[sAgg a n c a' n' c'] w (BrsR n f g w) := by
  unfold BrsR
  obtain ⟨w0, hw0⟩ : ∃ w0, (w.alloc (.cells #[.slice a n c, .slice a' n' c'] 26)).alloc (.cells #[.slice none 0 0, .slice none 0 0] 29) = w0 := ⟨_, rfl⟩
  have hz0 : w0.heap.size = w.heap.size + 2 := by rw [← hw0]; simp
  have hB : Below w.heap.size w w0 := by rw [← hw0]; exact below_al (below_al (Below.refl _ _) _) _
  have hA : Loc w0 w.heap.size #[.slice a n c, .slice a' n' c'] 26 := by rw [← hw0]; exact (Loc.new w rfl _ _).alloc _
  have hO : Loc w0 (w.heap.size + 1) #[.slice none 0 0, .slice none 0 0] 29 := by rw [← hw0]; exact Loc.new _ (by simp) _ _
  have lA := hA.two
  have HL1 := Lib.hid h1.len
  have HL2 := Lib.hid h2.len
  cases hf : isBrc f g with
  | false =>
    have HF := Lib.hid hf; clear hf
    go_enter Tryz.func6, Tryz.ntmps6
    go_wp2_with fail
    try rw [hw0]
    refine (IsBrace_any _ _ _ _ _ _ f g _ (h1.below hB) (h2.below hB) hm1 hm2).mono ?_
    rintro e w1 ⟨rfl, hb1⟩
    rw [HF.out]
    have hO1 := hO.below hb1 hO.lt
    have hB1 := below_th hB hb1
    have lO := hO1.two
    go_wp2
    refine bodyPost_ret (v := .tuple #[sAgg none 0 0 none 0 0, .int .i64 1]) (by simp [results, Tryz.results6, go_sem, lO]) rfl (.inl ⟨trivial, rfl, ?_⟩)
    exact below_setne (below_setne hB1 (by show w.heap.size ≤ w.heap.size + 1; omega) _) (by show w.heap.size ≤ w.heap.size + 1; omega) _
  | true =>
    have hT := BrT.of hf HL1.out
    obtain rfl : n = n' := by have := HL2.out; have := hT.sg.len; omega
    have HF := Lib.hid hf; have HT := Lib.hid hT; clear hf hT
    go_enter Tryz.func6, Tryz.ntmps6
    go_wp2_with fail
    try rw [hw0]
    refine (IsBrace_any _ _ _ _ _ _ f g _ (h1.below hB) (h2.below hB) hm1 hm2).mono ?_
    rintro e w1 ⟨rfl, hb1⟩
    rw [HF.out]
    have hz1 := hb1.size
    have hA1 := hA.below hb1 hA.lt
    have hO1 := hO.below hb1 hO.lt
    have hB1 := below_th hB hb1
    have lA1 := hA1.two
    go_wp2_with fail
    refine (braceSolution_any n a a' c c' f g _ (h1.below hB1) (h2.below hB1) HT.out).mono ?_
    rintro e w5 ⟨a1, c1, vs, a1', c1', vs', rfl, ho, hb5⟩
    have hB5 := below_th hB1 hb5
    have hO5 := hO1.below hb5 hO1.lt
    have lO := hO5.two
    go_wp2
    refine bodyPost_ret (v := .tuple #[sAgg a1 n c1 a1' n c1', .int .i64 0]) (by simp [results, Tryz.results6, go_sem, lO]) rfl (.inr ⟨trivial, a1, c1, vs, a1', c1', vs', rfl, ⟨?_, ?_, ho.ap⟩, ?_⟩)
    · exact ((ho.f.setlo (by show w.heap.size + 1 < w1.heap.size; omega) _).setlo (by show w.heap.size + 1 < w1.heap.size; omega) _).mono (by omega)
    · exact ((ho.s.setlo (by show w.heap.size + 1 < w1.heap.size; omega) _).setlo (by show w.heap.size + 1 < w1.heap.size; omega) _).mono (by omega)
    · exact below_setne (below_setne hB5 (by show w.heap.size ≤ w.heap.size + 1; omega) _) (by show w.heap.size ≤ w.heap.size + 1; omega) _
theorem SocleOf_yes (n : Nat) (a a' : Option Addr) (c c' : Nat) (f g : List (List Int)) (w : World) (h1 : Tbl w a n f) (h2 : Tbl w a' n g) (h : BrT n f g) :
    Calls Tryz.prog 16 #[sAgg a n c a' n c'] w fun e w' => e = .returned (.tuple #[.int .i64 ((setN (socB n f g) n : Nat) : Int), .int .i64 0]) ∧ Below w.heap.size w w' := by
  have hn := h.n12
  have HI := Lib.hid h.is
  have HF := Lib.hid h.sf
  clear h
  have HSO := Lib.hid (fun (w : World) (h1 : Tbl w a n f) (h2 : Tbl w a' n g) => socleOf_any n a a' c c' f g w h1 h2 HF.out hn)
  obtain ⟨S, HS⟩ : ∃ S, Hid (setN (socB n f g) n = S) := ⟨_, Lib.hid rfl⟩
  have hso := HSO.out
  rw [HS.out] at hso ⊢
  have HSO := Lib.hid hso
  clear hso
  have hA := Loc.new w rfl #[.slice a n c, .slice a' n c'] 26
  have hB := below_al (Below.refl w.heap.size w) (.cells #[.slice a n c, .slice a' n c'] 26)
  have lA := hA.two
  go_enter Tryz.func16, Tryz.ntmps16
  go_wp2_with fail
  refine (IsBrace_any _ _ _ _ _ _ f g _ (h1.below hB) (h2.below hB) (by omega) (by omega)).mono ?_
  rintro e w1 ⟨rfl, hb1⟩
  rw [HI.out]
  have lA1 := (hA.below hb1 hA.lt).two
  have hB1 := below_th hB hb1
  go_wp2_with fail
  refine (HSO.out _ (h1.below hB1) (h2.below hB1)).mono ?_
  rintro e w2 ⟨rfl, hb2⟩
  go_wp2
  go_ret2
  exact ⟨rfl, below_th hB1 hb2⟩
theorem elL_mem {n s i : Nat} (hs : s < 2 ^ n) (hi : i < (elL 12 s).length) : ∃ x, (elL 12 s).getD i 0 = ((x : Nat) : Int) ∧ x < n ∧ s.testBit x = true := by
  unfold elL at hi ⊢
  rw [List.length_map] at hi
  rw [List.getD_eq_getElem?_getD, List.getElem?_map, List.getElem?_eq_getElem hi]
  have hm := List.getElem_mem hi
  obtain ⟨_, h2⟩ := List.mem_filter.1 hm
  refine ⟨_, rfl, ?_, h2⟩
  by_cases c : (((List.range 12).filter fun x => s.testBit x)[i]) < n
  · exact c
  · have := Nat.testBit_lt_two_pow (Nat.lt_of_lt_of_le hs (Nat.pow_le_pow_right (n := 2) (by decide) (show n ≤ ((List.range 12).filter fun x => s.testBit x)[i] by omega)))
    rw [h2] at this; exact absurd this (by simp)
set_option maxHeartbeats 4000000 in
theorem isSubgroup_yes (n s : Nat) (a : Option Addr) (c : Nat) (t : List (List Int)) (w : World) (h1 : Tbl w a n t) (ht : Sq n t) (hn1 : 1 ≤ n) (hn : n ≤ 12) (hs : s < 2 ^ n) (h0 : s.testBit 0 = true) (hcl : ∀ x y, x < n → y < n → s.testBit x = true → s.testBit y = true → s.testBit (tv t x y) = true) :
    Calls Tryz.prog 107 #[.slice a n c, .int .i64 s] w fun e w' => e = .returned (.bool true) ∧ Below w.heap.size w w' := by
  have hs4 : s < 4096 := Nat.lt_of_lt_of_le hs (by have := Nat.pow_le_pow_right (n := 2) (by decide) hn; simpa using this)
  have H0 := Lib.hid h0; have HC := Lib.hid hcl; have HT := Lib.hid ht
  have HSS := Lib.hid hs
  clear h0 hcl hs
  have HB := Lib.hid (fun (x : Nat) (hx : x < 64) (w : World) => hasBit_any s x w hs4 hx)
  obtain ⟨ba, oa, A, O, C, rfl, G⟩ := h1.grid ht hn1
  clear h1 ht
  go_enter Tryz.func107, Tryz.ntmps107
  go_wp2_with fail
  refine (HB.out 0 (by omega) _).mono ?_
  rintro e w1 ⟨rfl, rfl⟩
  rw [H0.out]
  go_wp2_with fail
  refine (elementsOf_any s _ hs4).mono ?_
  rintro e w2 ⟨al, m, cl, rfl, hol, hb⟩
  have hml : m ≤ 12 := by have := hol.len; have := elL_len_le 12 s; omega
  have HML := Lib.hid hol.len
  have hr := hol.row
  have hsz := hb.size
  clear hol
  go_wp2
  go_loopw [17] (fun i wr => ∃ k : Nat, k ≤ m ∧ i = .int .i64 k ∧ wr = w2) (fun i _ => m - (intOf i).toNat)
  case atStart => exact ⟨0, Nat.zero_le _, rfl, rfl⟩
  case round =>
    obtain ⟨k, hk, rfl, hw⟩ := hrel
    obtain rfl : w2 = wr := hw.symm
    by_cases hlt : k < m
    · obtain ⟨x, ex, hx, hbx⟩ := elL_mem HSS.out (show k < (elL 12 s).length by have := HML.out; omega)
      obtain ⟨b1, o1, rfl, g1⟩ := hr.at k hlt
      rw [ex] at g1
      have HBX := Lib.hid hbx
      clear ex hbx
      go_wp2
      go_loopw [23] (fun i wr => ∃ j : Nat, j ≤ m ∧ i = .int .i64 j ∧ wr = w2) (fun i _ => m - (intOf i).toNat)
      case atStart => exact ⟨0, Nat.zero_le _, rfl, rfl⟩
      case round =>
        obtain ⟨j, hj, rfl, hw⟩ := hrel
        obtain rfl : w2 = wr := hw.symm
        by_cases hlj : j < m
        · obtain ⟨y, ey, hy, hby⟩ := elL_mem HSS.out (show j < (elL 12 s).length by have := HML.out; omega)
          obtain ⟨b2, o2, e2, g2⟩ := hr.at j hlj
          cases e2
          rw [ey] at g2
          have HZ := Lib.hid (HC.out x y hx hy HBX.out hby)
          obtain ⟨q1, q2⟩ := (G.below hb).look hx hy
          have hq := HT.out.lt hx hy
          obtain ⟨q, HQ⟩ : ∃ q, Hid (tv t x y = q) := ⟨_, Lib.hid rfl⟩
          rw [HQ.out] at q2 hq HZ
          have i1 : (0 : Int) ≤ (x : Int) := by omega
          have i2 : (x : Int) < (n : Int) := by omega
          have i3 : (0 : Int) ≤ (y : Int) := by omega
          have i4 : (y : Int) < (n : Int) := by omega
          clear ey hby
          go_wp2_with fail
          refine (HB.out q (by omega) _).mono ?_
          rintro e w3 ⟨rfl, rfl⟩
          rw [HZ.out]
          go_wp2
          go_roundw
          case rel => exact ⟨j + 1, by omega, by go_num, trivial⟩
          case measure => simp [intOf]; omega
        · obtain rfl : j = m := by omega
          go_wp2
          go_roundw
          case rel => exact ⟨k + 1, by omega, by go_num, trivial⟩
          case measure => simp [intOf]; omega
    · obtain rfl : k = m := by omega
      go_wp2
      go_ret
      exact ⟨rfl, hb⟩
set_option maxHeartbeats 4000000 in
theorem isLeftIdeal_yes (n s : Nat) (a a' al : Option Addr) (c c' cl : Nat) (f g lam : List (List Int)) (w : World) (h1 : Tbl w a n f) (h3 : Tbl w al n lam) (hf : Sq n f) (hl : Sq n lam) (hn1 : 1 ≤ n) (hn : n ≤ 12) (hs : s < 2 ^ n) (h0 : s.testBit 0 = true) (hcl : ∀ x y, x < n → y < n → s.testBit x = true → s.testBit y = true → s.testBit (tv f x y) = true) (hlm : ∀ x z, x < n → z < n → s.testBit x = true → s.testBit (tv lam z x) = true) :
    Calls Tryz.prog 81 #[sAgg a n c a' n c', .slice al n cl, .int .i64 s] w fun e w' => e = .returned (.bool true) ∧ Below w.heap.size w w' := by
  have hs4 : s < 4096 := Nat.lt_of_lt_of_le hs (by have := Nat.pow_le_pow_right (n := 2) (by decide) hn; simpa using this)
  have HSG := Lib.hid (fun (w : World) (h1 : Tbl w a n f) => isSubgroup_yes n s a c f w h1 hf hn1 hn hs h0 hcl)
  have HLM := Lib.hid hlm; have HT := Lib.hid hl
  have HSS := Lib.hid hs
  clear h0 hcl hs hlm
  have HB := Lib.hid (fun (x : Nat) (hx : x < 64) (w : World) => hasBit_any s x w hs4 hx)
  obtain ⟨ba, oa, A, O, C, rfl, G⟩ := h3.grid hl hn1
  clear h3 hl
  have hA := Loc.new w rfl #[.slice a n c, .slice a' n c'] 26
  have hB := below_al (Below.refl w.heap.size w) (.cells #[.slice a n c, .slice a' n c'] 26)
  have lA := hA.two
  go_enter Tryz.func81, Tryz.ntmps81
  go_wp2_with fail
  refine (HSG.out _ (h1.below hB)).mono ?_
  rintro e w1 ⟨rfl, hb1⟩
  have hB1 := below_th hB hb1
  go_wp2_with fail
  refine (elementsOf_any s _ hs4).mono ?_
  rintro e w2 ⟨ae, m, ce, rfl, hol, hb⟩
  have hB2 := below_th hB1 hb
  have hml : m ≤ 12 := by have := hol.len; have := elL_len_le 12 s; omega
  have HML := Lib.hid hol.len
  have hr := hol.row
  clear hol
  go_wp2
  go_loopw [19] (fun i wr => ∃ k : Nat, k ≤ m ∧ i = .int .i64 k ∧ wr = w2) (fun i _ => m - (intOf i).toNat)
  case atStart => exact ⟨0, Nat.zero_le _, rfl, rfl⟩
  case round =>
    obtain ⟨k, hk, rfl, hw⟩ := hrel
    obtain rfl : w2 = wr := hw.symm
    by_cases hlt : k < m
    · obtain ⟨x, ex, hx, hbx⟩ := elL_mem HSS.out (show k < (elL 12 s).length by have := HML.out; omega)
      obtain ⟨b1, o1, rfl, g1⟩ := hr.at k hlt
      rw [ex] at g1
      have HBX := Lib.hid hbx
      clear ex hbx
      go_wp2
      go_loopw [25] (fun i wr => ∃ j : Nat, j ≤ n ∧ i = .int .i64 j ∧ wr = w2) (fun i _ => n - (intOf i).toNat)
      case atStart => exact ⟨0, Nat.zero_le _, rfl, rfl⟩
      case round =>
        obtain ⟨j, hj, rfl, hw⟩ := hrel
        obtain rfl : w2 = wr := hw.symm
        by_cases hlj : j < n
        · have HZ := Lib.hid (HLM.out x j hx hlj HBX.out)
          obtain ⟨q1, q2⟩ := (G.below hB2).look hlj hx
          have hq := HT.out.lt hlj hx
          obtain ⟨q, HQ⟩ : ∃ q, Hid (tv lam j x = q) := ⟨_, Lib.hid rfl⟩
          rw [HQ.out] at q2 hq HZ
          have i1 : (0 : Int) ≤ (x : Int) := by omega
          have i2 : (x : Int) < (n : Int) := by omega
          have i3 : (0 : Int) ≤ (j : Int) := by omega
          have i4 : (j : Int) < (n : Int) := by omega
          go_wp2_with fail
          refine (HB.out q (by omega) _).mono ?_
          rintro e w3 ⟨rfl, rfl⟩
          rw [HZ.out]
          go_wp2
          go_roundw
          case rel => exact ⟨j + 1, by omega, by go_num, trivial⟩
          case measure => simp [intOf]; omega
        · obtain rfl : j = n := by omega
          go_wp2
          go_roundw
          case rel => exact ⟨k + 1, by omega, by go_num, trivial⟩
          case measure => simp [intOf]; omega
    · obtain rfl : k = m := by omega
      go_wp2
      go_ret
      exact ⟨rfl, hB2⟩
set_option maxHeartbeats 4000000 in
theorem isNormal_yes (n s : Nat) (a : Option Addr) (c : Nat) (t : List (List Int)) (w : World) (h1 : Tbl w a n t) (ht : Sq n t) (hr : ∀ x, x < n → IsP n (t.getD x [])) (hn1 : 1 ≤ n) (hn : n ≤ 12) (hs : s < 2 ^ n) (hcl : ∀ x y, x < n → y < n → s.testBit y = true → s.testBit (tv t (tv t x y) (ivN t x)) = true) :
    Calls Tryz.prog 82 #[.slice a n c, .int .i64 s] w fun e w' => e = .returned (.bool true) ∧ Below w.heap.size w w' := by
  have hs4 : s < 4096 := Nat.lt_of_lt_of_le hs (by have := Nat.pow_le_pow_right (n := 2) (by decide) hn; simpa using this)
  have HC := Lib.hid hcl; have HT := Lib.hid ht; have HR := Lib.hid hr
  have HSS := Lib.hid hs
  clear hcl hs hr
  have HB := Lib.hid (fun (x : Nat) (hx : x < 64) (w : World) => hasBit_any s x w hs4 hx)
  have h1' := h1
  obtain ⟨ba, oa, A, O, C, rfl, G⟩ := h1.grid ht hn1
  clear h1 ht
  go_enter Tryz.func82, Tryz.ntmps82
  go_wp2_with fail
  refine (groupInverses_any _ n _ t _ h1' (by omega) HT.out HR.out).mono ?_
  rintro e w1 ⟨am, cm, rfl, hom, hb1⟩
  have hrm := hom.row
  clear hom h1'
  go_wp2
  go_loopw [13] (fun i wr => ∃ k : Nat, k ≤ n ∧ i = .int .i64 k ∧ Below w1.heap.size w1 wr) (fun i _ => n - (intOf i).toNat)
  case atStart => exact ⟨0, Nat.zero_le _, rfl, Below.refl _ _⟩
  case round =>
    obtain ⟨x, hx, rfl, hq⟩ := hrel
    by_cases hlt : x < n
    · go_wp2_with fail
      refine (elementsOf_any s _ hs4).mono ?_
      rintro e w2 ⟨ae, m, ce, rfl, hol, hb⟩
      have hq2 := below_th hq hb
      have hB2 := below_th hb1 hq2
      have hml : m ≤ 12 := by have := hol.len; have := elL_len_le 12 s; omega
      have HML := Lib.hid hol.len
      have hre := hol.row
      have hrm2 := hrm.below hq2
      obtain ⟨bm, om, rfl, gm⟩ := hrm2.at x hlt
      rw [ivnL_get t hlt] at gm
      have hmx : ivN t x < n := (ivN_idx HT.out hlt (HR.out x hlt)).1
      have HCX := Lib.hid (fun y => HC.out x y hlt)
      obtain ⟨MX, HMX⟩ : ∃ MX, Hid (ivN t x = MX) := ⟨_, Lib.hid rfl⟩
      have hcx := HCX.out
      rw [HMX.out] at gm hmx hcx
      have HCX2 := Lib.hid hcx
      have G2 := G.below hB2
      clear hol hrm2 hcx HCX
      go_wp2
      go_loopw [19] (fun i wr => ∃ j : Nat, j ≤ m ∧ i = .int .i64 j ∧ ∃ q, wr = w2.drewN q) (fun i _ => m - (intOf i).toNat)
      case atStart => exact ⟨0, Nat.zero_le _, rfl, 0, rfl⟩
      case round =>
        obtain ⟨j, hj, rfl, p, rfl⟩ := hrel
        by_cases hlj : j < m
        · obtain ⟨y, ey, hy, hby⟩ := elL_mem HSS.out (show j < (elL 12 s).length by have := HML.out; omega)
          obtain ⟨b2, o2, rfl, g2⟩ := hre.at j hlj
          rw [ey] at g2
          have HZ := Lib.hid (HCX2.out y hy hby)
          have l1 := HT.out.lt hlt hy
          obtain ⟨r1, k1⟩ := G2.look hlt hy
          obtain ⟨r2, k2⟩ := G2.look l1 hmx
          have hq := HT.out.lt l1 hmx
          generalize tv t x y = q1 at *
          obtain ⟨q, HQ⟩ : ∃ q, Hid (tv t q1 MX = q) := ⟨_, Lib.hid rfl⟩
          rw [HQ.out] at k2 hq HZ
          have i1 : (0 : Int) ≤ (x : Int) := by omega
          have i2 : (x : Int) < (n : Int) := by omega
          have i3 : (0 : Int) ≤ (y : Int) := by omega
          have i4 : (y : Int) < (n : Int) := by omega
          have i5 : (0 : Int) ≤ (q1 : Int) := by omega
          have i6 : (q1 : Int) < (n : Int) := by omega
          have i7 : (0 : Int) ≤ (MX : Int) := by omega
          have i8 : (MX : Int) < (n : Int) := by omega
          obtain ⟨W, hW⟩ : ∃ W, w2.drewN p = W := ⟨_, rfl⟩
          have HWW := Lib.hid hW
          have gm : (w2.drewN p).cell? _ = _ := gm
          have g2 : (w2.drewN p).cell? _ = _ := g2
          have r1 : (w2.drewN p).cell? _ = _ := r1
          have k1 : (w2.drewN p).cell? _ = _ := k1
          have r2 : (w2.drewN p).cell? _ = _ := r2
          have k2 : (w2.drewN p).cell? _ = _ := k2
          rw [hW] at gm g2 r1 k1 r2 k2 ⊢
          clear hW
          have HS1 : Hid (∀ m, Calls Tryz.prog 109 #[.int .i64 s, .int .i64 q] (W.drewN m) fun e w'' => e = .returned (.bool true) ∧ ∃ k, w'' = W.drewN k) := Lib.hid fun m => (HB.out q (by omega) _).mono fun e w'' ⟨he, hk⟩ => ⟨by rw [he, HZ.out], m, hk⟩
          clear ey hby
          go_wp2
          go_quiet ((go_at_call 109; with_reducible exact HS1.out _))
          go_wp2
          go_roundw
          case rel => exact ⟨j + 1, by omega, by go_num, p + nq, by rw [← HWW.out, World.drewN_drewN]⟩
          case measure => simp [intOf]; omega
        · obtain rfl : j = m := by omega
          go_wp2
          go_roundw
          case rel => exact ⟨x + 1, by omega, by go_num, below_drewN hq2 p⟩
          case measure => simp [intOf]; omega
    · obtain rfl : x = n := by omega
      go_wp2
      go_ret
      exact ⟨rfl, below_th hb1 hq⟩
end Go.Proofs.YtiliimkfobfbnaaGreat
namespace Go.Proofs.YtiliimkfobfbnaaGreat
set_option maxRecDepth 100000
set_option linter.unusedVariables false
set_option linter.unusedSimpArgs false
structure Ldr (n : Nat) (L : Nat → Nat) : Prop where
  le : ∀ x, x < n → L x ≤ x
  idem : ∀ x, x < n → L (L x) = L x
def rkL (L : Nat → Nat) (y : Nat) : Nat := ((List.range y).filter fun z => decide (L z = z)).length
def clN (L : Nat → Nat) (x : Nat) : Nat := rkL L (L x)
def clsL (n : Nat) (L : Nat → Nat) : List Int := (List.range n).map fun x => ((clN L x : Nat) : Int)
def ldsN (k : Nat) (L : Nat → Nat) : List Nat := (List.range k).filter fun z => decide (L z = z)
def ldsL (k : Nat) (L : Nat → Nat) : List Int := (ldsN k L).map fun z : Nat => (z : Int)
def lbL (n : Nat) (L : Nat → Nat) : List Int := (List.range n).map fun x => ((L x : Nat) : Int)
theorem rkL_succ (L : Nat → Nat) (y : Nat) : rkL L (y + 1) = rkL L y + if L y = y then 1 else 0 := by
  unfold rkL
  rw [List.range_succ, List.filter_append, List.length_append]
  by_cases h : L y = y <;> simp [h]
theorem rkL_le (L : Nat → Nat) {x y : Nat} (h : x ≤ y) : rkL L x ≤ rkL L y := by
  obtain ⟨d, rfl⟩ : ∃ d, y = x + d := ⟨y - x, by omega⟩
  clear h
  induction d with
  | zero => exact Nat.le_refl _
  | succ d ih => rw [show x + (d + 1) = (x + d) + 1 by omega, rkL_succ]; omega
theorem rkL_bd (L : Nat → Nat) (y : Nat) : rkL L y ≤ y := by
  unfold rkL; exact Nat.le_trans (List.length_filter_le _ _) (by simp)
theorem rkL_lt {L : Nat → Nat} {x y : Nat} (h : x < y) (hx : L x = x) : rkL L x < rkL L y := by
  have h1 := rkL_succ L x
  rw [if_pos hx] at h1
  have := rkL_le L (show x + 1 ≤ y by omega)
  omega
theorem ldsN_len (k : Nat) (L : Nat → Nat) : (ldsN k L).length = rkL L k := rfl
theorem ldsL_len (k : Nat) (L : Nat → Nat) : (ldsL k L).length = rkL L k := by unfold ldsL; rw [List.length_map]; rfl
theorem ldsN_succ (k : Nat) (L : Nat → Nat) : ldsN (k + 1) L = ldsN k L ++ if L k = k then [k] else [] := by
  unfold ldsN
  rw [List.range_succ, List.filter_append]
  congr 1
  by_cases h : L k = k <;> simp [h]
theorem ldsL_succ (k : Nat) (L : Nat → Nat) : ldsL (k + 1) L = ldsL k L ++ if L k = k then [(k : Int)] else [] := by
  unfold ldsL
  rw [ldsN_succ, List.map_append]
  by_cases h : L k = k <;> simp [h]
theorem ldsN_split {L : Nat → Nat} {y k : Nat} (h : y < k) (hy : L y = y) : ∃ r, ldsN k L = ldsN y L ++ y :: r := by
  obtain ⟨d, rfl⟩ : ∃ d, k = y + 1 + d := ⟨k - (y + 1), by omega⟩
  clear h
  induction d with
  | zero => exact ⟨[], by rw [Nat.add_zero, ldsN_succ, if_pos hy]⟩
  | succ d ih =>
    obtain ⟨r, hr⟩ := ih
    exact ⟨r ++ if L (y + 1 + d) = y + 1 + d then [y + 1 + d] else [], by rw [show y + 1 + (d + 1) = (y + 1 + d) + 1 by omega, ldsN_succ, hr]; simp⟩
theorem ldsN_at {L : Nat → Nat} {y k : Nat} (h : y < k) (hy : L y = y) : (ldsN k L).getD (rkL L y) 0 = y := by
  obtain ⟨r, hr⟩ := ldsN_split h hy
  rw [hr, List.getD_eq_getElem?_getD, List.getElem?_append_right (by rw [ldsN_len]; exact Nat.le_refl _), ldsN_len]; simp
theorem ldsN_mem {L : Nat → Nat} {k u : Nat} (h : u < rkL L k) : (ldsN k L).getD u 0 < k ∧ L ((ldsN k L).getD u 0) = (ldsN k L).getD u 0 := by
  have hu : u < (ldsN k L).length := h
  have hm : (ldsN k L).getD u 0 ∈ ldsN k L := by rw [List.getD_eq_getElem?_getD, List.getElem?_eq_getElem hu]; exact List.getElem_mem hu
  obtain ⟨h1, h2⟩ := List.mem_filter.1 hm
  exact ⟨List.mem_range.1 h1, of_decide_eq_true h2⟩
theorem ldsN_rk {L : Nat → Nat} {k u : Nat} (h : u < rkL L k) : rkL L ((ldsN k L).getD u 0) = u := by
  obtain ⟨h1, h2⟩ := ldsN_mem h
  have h3 := ldsN_at h1 h2
  have hlt := rkL_lt h1 h2
  have hnd : (ldsN k L).Nodup := List.Pairwise.filter _ List.nodup_range
  have a1 : u < (ldsN k L).length := h
  have a2 : rkL L ((ldsN k L).getD u 0) < (ldsN k L).length := hlt
  generalize hq : rkL L ((ldsN k L).getD u 0) = q at *
  rw [List.getD_eq_getElem?_getD, List.getElem?_eq_getElem a2, List.getD_eq_getElem?_getD, List.getElem?_eq_getElem a1, Option.getD_some, Option.getD_some] at h3
  exact (List.getElem_inj hnd).1 h3
theorem ldsL_idx {L : Nat → Nat} {y k : Nat} (h : y < k) (hy : L y = y) : rkL L y < rkL L k ∧ (ldsL k L).getD (rkL L y) 0 = (y : Int) ∧ ∀ i, i < rkL L y → (ldsL k L).getD i 0 ≠ (y : Int) := by
  have hg : ∀ i, (ldsL k L).getD i 0 = (((ldsN k L).getD i 0 : Nat) : Int) := fun i => by
    unfold ldsL
    rw [List.getD_eq_getElem?_getD, List.getD_eq_getElem?_getD, List.getElem?_map]
    cases (ldsN k L)[i]? <;> rfl
  refine ⟨rkL_lt h hy, by rw [hg, ldsN_at h hy], fun i hi e => ?_⟩
  rw [hg] at e
  have e2 : (ldsN k L).getD i 0 = y := by omega
  have hik : i < rkL L k := Nat.lt_trans hi (rkL_lt h hy)
  have := ldsN_rk hik
  rw [e2] at this
  omega
theorem ldsL_not {L : Nat → Nat} {k : Nat} : ∀ i, i < (ldsL k L).length → (ldsL k L).getD i 0 ≠ (k : Int) := fun i hi e => by
  rw [ldsL_len] at hi
  have hg : (ldsL k L).getD i 0 = (((ldsN k L).getD i 0 : Nat) : Int) := by
    unfold ldsL
    rw [List.getD_eq_getElem?_getD, List.getD_eq_getElem?_getD, List.getElem?_map]
    cases (ldsN k L)[i]? <;> rfl
  rw [hg] at e
  have := (ldsN_mem hi).1
  omega
theorem clsL_len (n : Nat) (L : Nat → Nat) : (clsL n L).length = n := by simp [clsL]
theorem clsL_succ (n : Nat) (L : Nat → Nat) : clsL (n + 1) L = clsL n L ++ [((clN L n : Nat) : Int)] := by simp [clsL, List.range_succ]
theorem clsL_get {n x : Nat} (L : Nat → Nat) (h : x < n) : (clsL n L).getD x 0 = ((clN L x : Nat) : Int) := by
  simp [clsL, List.getD_eq_getElem?_getD, List.getElem?_map, h]
theorem clsL_step (n j : Nat) (L : Nat → Nat) (h : j < n) : (clsL j L ++ List.replicate (n - j) 0).set j ((clN L j : Nat) : Int) = clsL (j + 1) L ++ List.replicate (n - (j + 1)) 0 := by
  rw [List.set_append_right _ _ (by rw [clsL_len]; omega), clsL_len, Nat.sub_self, clsL_succ, List.append_assoc]
  congr 1
  obtain ⟨m, hm⟩ : ∃ m, n - j = m + 1 := ⟨n - j - 1, by omega⟩
  have hm' : n - (j + 1) = m := by omega
  rw [hm, hm', List.replicate_succ]
  simp
theorem lbL_len (n : Nat) (L : Nat → Nat) : (lbL n L).length = n := by simp [lbL]
theorem lbL_get {n x : Nat} (L : Nat → Nat) (h : x < n) : (lbL n L).getD x 0 = ((L x : Nat) : Int) := by
  simp [lbL, List.getD_eq_getElem?_getD, List.getElem?_map, h]
section
variable {n : Nat} {L : Nat → Nat}
theorem Ldr.cl_lt (h : Ldr n L) {x : Nat} (hx : x < n) : clN L x < rkL L n := by
  have := h.le x hx
  exact rkL_lt (by omega) (h.idem x hx)
theorem Ldr.first (h : Ldr n L) {x : Nat} (hx : x < n) : (clN L x = rkL L x) ↔ L x = x := by
  constructor
  · intro e
    by_cases c : L x = x
    · exact c
    · have hle := h.le x hx
      have := rkL_lt (L := L) (show L x < x by omega) (h.idem x hx)
      unfold clN at e; omega
  · intro e; unfold clN; rw [e]
def fsN (n : Nat) (L : Nat → Nat) (u : Nat) : Nat := (ldsN n L).getD u 0
theorem Ldr.fs_lt (h : Ldr n L) {u : Nat} (hu : u < rkL L n) : fsN n L u < n := (ldsN_mem hu).1
theorem Ldr.cl_fs (h : Ldr n L) {u : Nat} (hu : u < rkL L n) : clN L (fsN n L u) = u := by
  unfold clN fsN
  rw [(ldsN_mem hu).2, ldsN_rk hu]
theorem Ldr.fs_cl (h : Ldr n L) {x : Nat} (hx : x < n) : fsN n L (clN L x) = L x := by
  have := h.le x hx
  exact ldsN_at (by omega) (h.idem x hx)
theorem Ldr.cl_eq (h : Ldr n L) {x y : Nat} (hx : x < n) (hy : y < n) : clN L x = clN L y ↔ L x = L y := by
  constructor
  · intro e; rw [← h.fs_cl hx, e, h.fs_cl hy]
  · intro e; unfold clN; rw [e]
theorem rkL_cong {M : Nat → Nat} {k : Nat} (e : ∀ x, x < k → L x = M x) : rkL L k = rkL M k ∧ ldsN k L = ldsN k M := by
  have : ldsN k L = ldsN k M := by
    unfold ldsN
    refine List.filter_congr fun x hx => ?_
    rw [e x (List.mem_range.1 hx)]
  exact ⟨by rw [← ldsN_len, this, ldsN_len], this⟩
theorem clN_cong {M : Nat → Nat} (h : Ldr n L) (e : ∀ x, x < n → L x = M x) {x : Nat} (hx : x < n) : clN L x = clN M x := by
  have := h.le x hx
  unfold clN
  rw [← e x hx]
  exact (rkL_cong fun y hy => e y (by omega)).1
end
def LdrOf (n : Nat) (al : Nat → Nat → Prop) (L : Nat → Nat) : Prop := ∀ x, x < n → L x < n ∧ al x (L x) ∧ ∀ z, z < n → al x z → L x ≤ z
structure Eqv (n : Nat) (al : Nat → Nat → Prop) : Prop where
  refl : ∀ x, x < n → al x x
  symm : ∀ x y, x < n → y < n → al x y → al y x
  trans : ∀ x y z, x < n → y < n → z < n → al x y → al y z → al x z
theorem LdrOf.ldr {n : Nat} {al : Nat → Nat → Prop} {L : Nat → Nat} (h : LdrOf n al L) (e : Eqv n al) : Ldr n L := by
  refine ⟨fun x hx => (h x hx).2.2 x hx (e.refl x hx), fun x hx => ?_⟩
  obtain ⟨h1, h2, h3⟩ := h x hx
  obtain ⟨k1, k2, k3⟩ := h (L x) h1
  have a := k3 (L x) h1 (e.refl _ h1)
  have b := h3 _ k1 (e.trans _ _ _ hx h1 k1 h2 k2)
  omega
theorem LdrOf.eq_iff {n : Nat} {al : Nat → Nat → Prop} {L : Nat → Nat} (h : LdrOf n al L) (e : Eqv n al) {x y : Nat} (hx : x < n) (hy : y < n) : L x = L y ↔ al x y := by
  obtain ⟨h1, h2, h3⟩ := h x hx
  obtain ⟨k1, k2, k3⟩ := h y hy
  constructor
  · intro q
    rw [q] at h2
    exact e.trans _ _ _ hx k1 hy h2 (e.symm _ _ hy k1 k2)
  · intro q
    have a := h3 _ k1 (e.trans _ _ _ hx hy k1 q k2)
    have b := k3 _ h1 (e.trans _ _ _ hy hx h1 (e.symm _ _ hx hy q) h2)
    omega
theorem LdrOf.same {n : Nat} {al bl : Nat → Nat → Prop} {L M : Nat → Nat} (h : LdrOf n al L) (h' : LdrOf n bl M) (e : ∀ x y, x < n → y < n → (al x y ↔ bl x y)) : ∀ x, x < n → L x = M x := fun x hx => by
  obtain ⟨h1, h2, h3⟩ := h x hx
  obtain ⟨k1, k2, k3⟩ := h' x hx
  have a := h3 _ k1 ((e x _ hx k1).2 k2)
  have b := k3 _ h1 ((e x _ hx h1).1 h2)
  omega
end Go.Proofs.YtiliimkfobfbnaaGreat
