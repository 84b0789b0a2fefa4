/-
  The program's derived rack of a solution.
  No condition but bounds.
-/
import Derived.Test.YtmncpnpjhchliaaGreatGuiC
import Derived.Test.YtmncpnpjhchliaaGreatIdxN
import Derived.Test.YtmncpnpjhchliaaGreatBase
import Derived.Test.YtmncpnpjhchliaaGreatNdP
import Derived.Test.YtmncpnpjhchliaaGreatBase2
namespace Go.Proofs.YtmncpnpjhchliaaGreat
set_option maxRecDepth 100000
set_option linter.unusedVariables false
set_option linter.unusedSimpArgs false
open Go.RowKit

theorem Ybe.idx {n : Nat} {f g : List (List Int)} (h : Ybe n f g) {x y : Nat} (hx : x < n) (hy : y < n) : bkN f y x < n ∧ (f.getD y []).getD (bkN f y x) 0 = (x : Int) ∧ ∀ i, i < bkN f y x → (f.getD y []).getD i 0 ≠ (x : Int) := by
  obtain ⟨h1, h2⟩ := h.bk hy hx
  refine ⟨h1, by rw [h.sf.val hy h1, h2], fun i hi e => ?_⟩
  have hin : i < n := by omega
  rw [h.sf.val hy hin] at e
  have e2 : tv f y i = x := by omega
  have := h.inj hy hin h1 (e2.trans h2.symm)
  omega

set_option maxHeartbeats 4000000 in
theorem derivedRack1_any (n b : Nat) (t : TypeId) (a a' : Option Addr) (c c' : Nat) (f g : List (List Int)) (w : World) (hL : Loc w b #[.slice a n c, .slice a' n c'] t) (h1 : Tbl w a n f) (h2 : Tbl w a' n g) (h : Ybe n f g) (hn : n ≤ 12) (x y : Nat) (hx : x < n) (hy : y < n) :
    Calls Tryz.prog 91 #[.int .i64 x, .int .i64 y, .pointer (some ⟨b, 0, none⟩)] w fun e w' => e = .returned (.int .i64 ((drN f g x y : Nat) : Int)) ∧ ∃ m, w' = w.drewN m := by
  obtain ⟨bf, of, A, O, C, rfl, gf⟩ := h1.grid h.sf h.pos
  obtain ⟨bg, og, A', O', C', rfl, gg⟩ := h2.grid h.sg h.pos
  obtain ⟨b1, o1, ai, ni, ci, e1, ck, rk, lk⟩ := h1.at y hy
  cases e1
  obtain ⟨q1, q2, q3⟩ := h.idx hx hy
  have hni : n = ni := by have := rk.len; rw [h.sf.row hy] at this; exact this.symm
  subst hni
  have hv := h.sg.lt hy q1
  have hd : drN f g x y = tv f x (tv g y (bkN f y x)) := rfl
  rw [hd]
  obtain ⟨p, HP⟩ : ∃ p, Hid (f.getD y [] = p) := ⟨_, rfl⟩
  rw [HP.out] at rk q2 q3
  generalize bkN f y x = q at *
  have k2 := gg.look hy q1
  generalize tv g y q = v at *
  have k3 := gf.look hx hv
  generalize tv f x v = u at *
  have lA := hL.two
  have Q2 := Lib.hid q2; have Q3 := Lib.hid q3
  clear h q2 q3 hd
  have i1 : (0 : Int) ≤ (x : Int) := by omega
  have i2 : (x : Int) < (n : Int) := by omega
  have i3 : (0 : Int) ≤ (y : Int) := by omega
  have i4 : (y : Int) < (n : Int) := by omega
  have i5 : (0 : Int) ≤ (q : Int) := by omega
  have i6 : (q : Int) < (n : Int) := by omega
  have i7 : (0 : Int) ≤ (v : Int) := by omega
  have i8 : (v : Int) < (n : Int) := by omega
  go_enter Tryz.func91, Tryz.ntmps91
  go_wp2_with fail
  refine (indexIn_any _ n _ q p (x : Int) _ rk (by omega) q1 Q2.out Q3.out).mono ?_
  rintro e w1 ⟨rfl, rfl⟩
  go_wp2
  go_quiet (fail)
  go_wp2
  go_ret
  exact ⟨rfl, _, rfl⟩
theorem ent_der1 : Ent 91 := fun _ _ => rfl

set_option maxHeartbeats 4000000 in
theorem derivedRack_any (n : Nat) (a a' : Option Addr) (c c' : Nat) (f g : List (List Int)) (w : World) (h1 : Tbl w a n f) (h2 : Tbl w a' n g) (h : Ybe n f g) (hn : n ≤ 12) :
    Calls Tryz.prog 49 #[sAgg a n c a' n c'] w fun e w' => ∃ a1 c1 vs, e = .returned (rAgg a1 n c1) ∧ OwnT w' w.heap.size a1 n c1 vs (drL n f g) ∧ Below w.heap.size w w' := by
  have HY := Lib.hid h; clear h
  have hA := (Loc.new w rfl #[.slice a n c, .slice a' n c'] 26).alloc (.cells #[.slice none 0 0] 46)
  have hR := Loc.new (w.alloc (.cells #[.slice a n c, .slice a' n c'] 26)) rfl #[.slice none 0 0] 46
  rw [size_alloc] at hR
  have hB := below_al (below_al (Below.refl w.heap.size w) (.cells #[.slice a n c, .slice a' n c'] 26)) (.cells #[.slice none 0 0] 46)
  go_enter Tryz.func49, Tryz.ntmps49
  have lA := hA.two
  go_wp2_with fail
  generalize (w.alloc (.cells #[.slice a n c, .slice a' n c'] 26)).alloc (.cells #[.slice none 0 0] 46) = w0 at *
  have hc1 : Hid (∀ x y, x < n → y < n → ∀ w1, Below w0.heap.size w0 w1 → Calls Tryz.prog 91 (#[.int .i64 x, .int .i64 y] ++ #[.pointer (some ⟨w.heap.size, 0, none⟩)]) w1 fun e w' => e = .returned (.int .i64 ((drN f g x y : Nat) : Int)) ∧ Below w1.heap.size w1 w') := Lib.hid fun x y hx hy w1 hb1 =>
    (derivedRack1_any n _ _ a a' c c' f g w1 (hA.below hb1 hA.lt) (h1.below (below_th hB hb1)) (h2.below (below_th hB hb1)) HY.out hn x y hx hy).mono fun e w' ⟨he, k, hk⟩ => ⟨he, by rw [hk]; exact below_drewN (Below.refl _ _) k⟩
  refine (tableBy_any _ _ (fun x y => ((drN f g x y : Nat) : Int)) n _ (by omega) ent_der1 hc1.out).mono ?_
  rintro e w1 ⟨a1, c1, vs, rfl, ho1, hb1⟩
  have hB1 := below_th hB hb1
  have hR1 := hR.below hb1 hR.lt
  have lR := hR1.one
  have hz : w.heap.size + 1 < w0.heap.size := hR.lt
  go_wp2
  refine bodyPost_ret (v := rAgg a1 n c1) (by simp [results, Tryz.results49, go_sem, lR]) rfl ⟨a1, c1, vs, rfl, ?_, ?_⟩
  · exact (ho1.setlo (by show w.heap.size + 1 < w0.heap.size; omega) _).mono (by have := hB.size; omega)
  · exact below_setne hB1 (by show w.heap.size ≤ w.heap.size + 1; omega) _

/-- DerivedRack of a solution: a rack where it is nondegenerate, and a code where it is not -/
def DerR (n : Nat) (f g : List (List Int)) (w : World) (e : Ending) (w' : World) : Prop :=
  (ndF f g = false ∧ e = .returned (.tuple #[rAgg none 0 0, .int .i64 5]) ∧ Below w.heap.size w w') ∨
  (ndF f g = true ∧ ∃ a1 c1 vs, e = .returned (.tuple #[rAgg a1 n c1, .int .i64 0]) ∧ OwnT w' w.heap.size a1 n c1 vs (drL n f g) ∧ Below w.heap.size w w')

set_option maxHeartbeats 4000000 in
theorem DerivedRack_any (n : Nat) (a a' : Option Addr) (c c' : Nat) (f g : List (List Int)) (w : World) (h1 : Tbl w a n f) (h2 : Tbl w a' n g) (h : isSol f g = true) (hn : n ≤ 12) :
    Calls Tryz.prog 15 #[sAgg a n c a' n c'] w (DerR n f g w) := by
  have hS := isSol_sq h
  have hY : ndF f g = true → Ybe n f g := fun hd => by
    have hr : f.all permOk = true := by unfold ndF at hd; rw [Bool.and_eq_true] at hd; exact hd.1
    have := ybe_of h hr
    rw [← h1.len] at this
    exact this
  have HS := Lib.hid h; have HY := Lib.hid hY
  have HF : Hid (Sq n f) := Lib.hid (by have := hS.2.2.1; rw [← h1.len] at this; exact this)
  have HG : Hid (Sq n g) := Lib.hid (by have := hS.2.2.2; rw [← h1.len] at this; exact this)
  clear h hS hY
  unfold DerR
  have hA := (Loc.new w rfl #[.slice a n c, .slice a' n c'] 26).alloc (.cells #[.slice none 0 0] 46)
  have hR := Loc.new (w.alloc (.cells #[.slice a n c, .slice a' n c'] 26)) rfl #[.slice none 0 0] 46
  rw [size_alloc] at hR
  have hB := below_al (below_al (Below.refl w.heap.size w) (.cells #[.slice a n c, .slice a' n c'] 26)) (.cells #[.slice none 0 0] 46)
  have lA := hA.two
  have hz0 : w.heap.size + 1 < ((w.alloc (.cells #[.slice a n c, .slice a' n c'] 26)).alloc (.cells #[.slice none 0 0] 46)).heap.size := hR.lt
  generalize hw0 : (w.alloc (.cells #[.slice a n c, .slice a' n c'] 26)).alloc (.cells #[.slice none 0 0] 46) = w0 at *
  cases hd : ndF f g with
  | false =>
    have HD := Lib.hid hd; clear hd
    go_enter Tryz.func15, Tryz.ntmps15
    go_wp2_with fail
    try rw [hw0]
    refine (isSolution_any _ _ _ _ _ _ f g _ (h1.below hB) (h2.below hB) (by omega) (by omega)).mono ?_
    rintro e w1 ⟨rfl, hb1⟩
    rw [HS.out]
    have lA1 := (hA.below hb1 hA.lt).two
    have hB1 := below_th hB hb1
    go_wp2_with fail
    refine (isNondegenerate_any n _ _ _ _ f g _ (h1.below hB1) (h2.below hB1) HF.out HG.out hn).mono ?_
    rintro e w2 ⟨rfl, hb2⟩
    rw [HD.out]
    have hR2 := (hR.below hb1 hR.lt).below hb2 (by have := hb1.size; omega)
    have lR := hR2.one
    have hB2 := below_th hB1 hb2
    go_wp2
    refine bodyPost_ret (v := .tuple #[rAgg none 0 0, .int .i64 5]) (by simp [results, Tryz.results15, go_sem, lR]) rfl (Or.inl ⟨trivial, rfl, ?_⟩)
    exact below_setne hB2 (by show w.heap.size ≤ w.heap.size + 1; omega) _
  | true =>
    have HD := Lib.hid hd; clear hd
    go_enter Tryz.func15, Tryz.ntmps15
    go_wp2_with fail
    try rw [hw0]
    refine (isSolution_any _ _ _ _ _ _ f g _ (h1.below hB) (h2.below hB) (by omega) (by omega)).mono ?_
    rintro e w1 ⟨rfl, hb1⟩
    rw [HS.out]
    have lA1 := (hA.below hb1 hA.lt).two
    have hB1 := below_th hB hb1
    go_wp2_with fail
    refine (isNondegenerate_any n _ _ _ _ f g _ (h1.below hB1) (h2.below hB1) HF.out HG.out hn).mono ?_
    rintro e w2 ⟨rfl, hb2⟩
    rw [HD.out]
    have hB2 := below_th hB1 hb2
    have hz1 := hb1.size
    have lA2 := ((hA.below hb1 hA.lt).below hb2 (by omega)).two
    go_wp2_with fail
    refine (derivedRack_any n _ _ _ _ f g _ (h1.below hB2) (h2.below hB2) (HY.out HD.out) hn).mono ?_
    rintro e w3 ⟨a1, c1, vs, rfl, ho, hb3⟩
    have hz2 := hb2.size
    have hR3 := ((hR.below hb1 hR.lt).below hb2 (by omega)).below hb3 (by omega)
    have lR := hR3.one
    have hB3 := below_th hB2 hb3
    go_wp2
    refine bodyPost_ret (v := .tuple #[rAgg a1 n c1, .int .i64 0]) (by simp [results, Tryz.results15, go_sem, lR]) rfl (Or.inr ⟨trivial, a1, c1, vs, rfl, ?_, ?_⟩)
    · exact (ho.setlo (by show w.heap.size + 1 < w2.heap.size; omega) _).mono (by have := hB.size; omega)
    · exact below_setne hB3 (by show w.heap.size ≤ w.heap.size + 1; omega) _

set_option maxHeartbeats 4000000 in
theorem DerivedRack_no (n : Nat) (a a' : Option Addr) (c n' c' : Nat) (f g : List (List Int)) (w : World) (h1 : Tbl w a n f) (h2 : Tbl w a' n' g) (h : isSol f g = false) (hn : n ≤ 12) (hn' : n' ≤ 12) :
    Calls Tryz.prog 15 #[sAgg a n c a' n' c'] w fun e w' => e = .returned (.tuple #[rAgg none 0 0, .int .i64 1]) ∧ Below w.heap.size w w' := by
  have HS := Lib.hid h
  clear h
  have hA := (Loc.new w rfl #[.slice a n c, .slice a' n' c'] 26).alloc (.cells #[.slice none 0 0] 46)
  have hR := Loc.new (w.alloc (.cells #[.slice a n c, .slice a' n' c'] 26)) rfl #[.slice none 0 0] 46
  rw [size_alloc] at hR
  have hB := below_al (below_al (Below.refl w.heap.size w) (.cells #[.slice a n c, .slice a' n' c'] 26)) (.cells #[.slice none 0 0] 46)
  have lA := hA.two
  generalize hw0 : (w.alloc (.cells #[.slice a n c, .slice a' n' c'] 26)).alloc (.cells #[.slice none 0 0] 46) = w0 at *
  go_enter Tryz.func15, Tryz.ntmps15
  go_wp2_with fail
  try rw [hw0]
  refine (isSolution_any _ _ _ _ _ _ f g _ (h1.below hB) (h2.below hB) (by omega) (by omega)).mono ?_
  rintro e w1 ⟨rfl, hb1⟩
  rw [HS.out]
  have hR1 := hR.below hb1 hR.lt
  have lR := hR1.one
  have hB1 := below_th hB hb1
  go_wp2
  refine bodyPost_ret (v := .tuple #[rAgg none 0 0, .int .i64 1]) (by simp [results, Tryz.results15, go_sem, lR]) rfl ⟨rfl, ?_⟩
  exact below_setne hB1 (by show w.heap.size ≤ w.heap.size + 1; omega) _
end Go.Proofs.YtmncpnpjhchliaaGreat
