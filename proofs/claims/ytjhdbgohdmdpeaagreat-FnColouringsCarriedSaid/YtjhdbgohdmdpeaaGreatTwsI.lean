/-
  The program's twisted solution of a rack by the identity.
  No condition but bounds.
-/
import Derived.Test.YtjhdbgohdmdpeaaGreatGuiC
import Derived.Test.YtjhdbgohdmdpeaaGreatSolBy
import Derived.Test.YtjhdbgohdmdpeaaGreatBase
import Derived.Test.YtjhdbgohdmdpeaaGreatBase3
import Derived.Test.YtjhdbgohdmdpeaaGreatNdL
namespace Go.Proofs.YtjhdbgohdmdpeaaGreat
set_option maxRecDepth 100000
set_option linter.unusedVariables false
set_option linter.unusedSimpArgs false
open Go.RowKit

theorem unit_perm (n : Nat) : permOk (unitL n) = true :=
  permOk_of (n := n) (F := fun i => i) (unitL_len n) (fun i hi => unitL_get n i hi) ⟨fun x hx => hx, fun x y _ _ e => e⟩
theorem backU (n : Nat) : backF (unitL n) = unitL n :=
  pf_ext (backF_pf (unit_pf n)) (unit_pf n) fun i hi => rfl
theorem rnU {n : Nat} {t : List (List Int)} (hs : Sq n t) : rnL n t (unitL n) = t := by
  refine sq_ext (rnL_sq (unit_isP n) hs) hs fun x y hx hy => ?_
  rw [rnL_tv (unit_pf n) hs hx hy]; rfl
theorem twG_trn {n : Nat} {f g : List (List Int)} : trnL n (drL n f g) = twG n f g := by
  unfold trnL twG tabF
  refine List.map_congr_left fun x hx => List.map_congr_left fun y hy => ?_
  rw [List.mem_range] at hx hy
  have : tv (drL n f g) y x = drN f g y x := tv_tab hy hx
  show ((tv (drL n f g) y x : Nat) : Int) = _
  rw [this]

set_option maxHeartbeats 4000000 in
theorem twistedU1_any (n bu bb br : Nat) (tu tb tr : TypeId) (au ab a : Option Addr) (cu cb c : Nat) (t : List (List Int)) (w : World) (hU : Loc w bu #[.slice au n cu] tu) (hB : Loc w bb #[.slice ab n cb] tb) (hR : Loc w br #[.slice a n c] tr)
    (h1 : Row w au n (unitL n)) (h2 : Row w ab n (unitL n)) (h3 : Tbl w a n t) (hs : Sq n t) (hn : n ≤ 12) (x y : Nat) (hx : x < n) (hy : y < n) :
    Calls Tryz.prog 112 #[.int .i64 x, .int .i64 y, .pointer (some ⟨bu, 0, none⟩), .pointer (some ⟨bb, 0, none⟩), .pointer (some ⟨br, 0, none⟩)] w fun e w' => e = .returned (.tuple #[.int .i64 y, .int .i64 ((tv t y x : Nat) : Int)]) ∧ ∃ m, w' = w.drewN m := by
  obtain ⟨bf, of, A, O, C, rfl, G⟩ := h3.grid hs (by omega)
  have g4 := G.look hy hx
  have hv := hs.lt hy hx
  generalize tv t y x = v at *
  obtain ⟨b2, o2, rfl, g2⟩ := h1.at y hy
  obtain ⟨b3, o3, rfl, g3⟩ := h2.at v hv
  rw [unitL_get n y hy] at g2
  rw [unitL_get n v hv] at g3
  have l1 := hU.one
  have l2 := hB.one
  have l3 := hR.one
  have i1 : (0 : Int) ≤ (x : Int) := by omega
  have i2 : (x : Int) < (n : Int) := by omega
  have i3 : (0 : Int) ≤ (y : Int) := by omega
  have i4 : (y : Int) < (n : Int) := by omega
  have i5 : (0 : Int) ≤ (v : Int) := by omega
  have i6 : (v : Int) < (n : Int) := by omega
  go_enter Tryz.func112, Tryz.ntmps112
  go_wp2
  go_quiet (fail)
  go_wp2
  go_ret2
  exact ⟨rfl, _, rfl⟩
theorem ent_twu1 : Ent 112 := fun _ _ => rfl

set_option maxHeartbeats 4000000 in
theorem TwistedU_any (n : Nat) (a au : Option Addr) (c cu : Nat) (t : List (List Int)) (w : World) (h1 : Tbl w a n t) (h2 : Row w au n (unitL n)) (h : isRk t = true) :
    Calls Tryz.prog 29 #[rAgg a n c, .slice au n cu] w fun e w' => ∃ a1 c1 vs a1' c1' vs', e = .returned (.tuple #[sAgg a1 n c1 a1' n c1', .int .i64 0]) ∧ OwnS w' w.heap.size a1 n c1 vs (twF n) a1' n c1' vs' (trnL n t) ∧ Below w.heap.size w w' := by
  obtain ⟨hn1, hn, hs⟩ := isRk_sq h
  rw [← h1.len] at hn1 hn hs
  have HS := Lib.hid hs; have HK := Lib.hid h
  have HP := Lib.hid (unit_perm n)
  have HB := Lib.hid (backU n)
  have HU := Lib.hid (unit_isP n)
  have HE : Hid (rnL n t (unitL n) = t) := Lib.hid (rnU hs)
  have HM : Hid (∀ x ∈ unitL n, 0 ≤ x ∧ x < n) := Lib.hid (unit_isP n).mem
  clear hs h
  obtain ⟨w0, hw0⟩ : ∃ w0, ((w.alloc (.cells #[.slice a n c] 47)).alloc (.cells #[.slice au n cu] 27)).alloc (.cells #[.slice none 0 0, .slice none 0 0] 26) = w0 := ⟨_, rfl⟩
  have hz0 : w0.heap.size = w.heap.size + 3 := by rw [← hw0]; simp
  have hB0 : Below w.heap.size w w0 := by rw [← hw0]; exact below_al (below_al (below_al (Below.refl _ _) _) _) _
  have hR : Loc w0 w.heap.size #[.slice a n c] 47 := by rw [← hw0]; exact ((Loc.new w rfl _ _).alloc _).alloc _
  have hU : Loc w0 (w.heap.size + 1) #[.slice au n cu] 27 := by rw [← hw0]; exact (Loc.new _ (by simp) _ _).alloc _
  have hO : Loc w0 (w.heap.size + 2) #[.slice none 0 0, .slice none 0 0] 26 := by rw [← hw0]; exact Loc.new _ (by simp) _ _
  have lR := hR.one
  have lU := hU.one
  go_enter Tryz.func29, Tryz.ntmps29
  go_wp2_with fail
  try rw [hw0]
  refine (isRack_any a n c t _ (h1.below hB0) (by omega)).mono ?_
  rintro e w1 ⟨rfl, hb1⟩
  rw [HK.out]
  have hz1 := hb1.size
  have hB1 := below_th hB0 hb1
  have hR1 := hR.below hb1 hR.lt
  have hU1 := hU.below hb1 hU.lt
  have hO1 := hO.below hb1 hO.lt
  have lR1 := hR1.one
  have lU1 := hU1.one
  go_wp2_with fail
  refine (isPermuted_any au n cu (unitL n) _ (h2.below hB1) (by omega)).mono ?_
  rintro e w2 ⟨rfl, hb2⟩
  rw [HP.out]
  have hz2 := hb2.size
  have hB2 := below_th hB1 hb2
  have hR2 := hR1.below hb2 (by omega)
  have hU2 := hU1.below hb2 (by omega)
  have hO2 := hO1.below hb2 (by omega)
  have lR2 := hR2.one
  have lU2 := hU2.one
  have t1 := (h1.below hB2).drewN 1
  have t2 := (h2.below hB2).drewN 1
  go_wp2
  go_region_held3 (fun w' => w'.cell? ⟨w.heap.size, 0, none⟩ = some (.slice a n c) ∧ w'.cell? ⟨w.heap.size + 1, 0, none⟩ = some (.slice au n cu))
    (first | exact ⟨lR3, lU3⟩ | exact ⟨lR2, lU2⟩ | go_keep)
    (first
    | (go_at_call 109; refine (renamed_any n a au c cu t (unitL n) _ t1 t2 HS.out HU.out hn).mono ?_; rintro e w3 ⟨a3, c3, vs3, rfl, ho3, hb3⟩; rw [HE.out] at ho3; have hR3 := (hR2.drewN 1).below hb3 (by simp; omega); have hU3 := (hU2.drewN 1).below hb3 (by simp; omega); have lR3 := hR3.one; have lU3 := hU3.one; have hB3 := below_th (below_drewN hB2 1) hb3; have t3 := t1.below hb3)
    | (go_at_call 108; refine (equalTables_any a3 a n n c3 c t t _ ho3.tbl t3 (by omega)).mono ?_; rintro e w4 ⟨rfl, rfl⟩; rw [decide_eq_true (rfl : t = t)]))
  all_goals
    have hz3 := hb3.size
    have hO3 := (hO2.drewN 1).below hb3 (by show w.heap.size + 2 < w2.heap.size; omega)
    have h23 := t2.below hb3
    go_wp2_with fail
    refine (inverse_any au n cu (unitL n) _ h23 (by omega) HM.out).mono ?_
    rintro e w5 ⟨a5, c5, rfl, ho5, hb5⟩
    rw [HB.out] at ho5
    have hz5 := hb5.size
    have hzz : w.heap.size + 3 ≤ w3.heap.size := by have : w2.heap.size ≤ w3.heap.size := hz3; omega
    have hB5 := below_th hB3 hb5
    have hR5 := hR3.below hb5 (by omega)
    have hU5 := hU3.below hb5 (by omega)
    have hO5 := hO3.below hb5 (by omega)
    obtain ⟨w6, hw6⟩ : ∃ w6, (w5.alloc (.cells #[.slice none 0 0] 27)).setCell ⟨w5.heap.size, 0, none⟩ (.slice a5 n c5) = w6 := ⟨_, rfl⟩
    have hL6 : Loc w6 w5.heap.size #[.slice a5 n c5] 27 := by rw [← hw6]; exact (Loc.new w5 rfl _ _).set 0 _
    have hb6 : Below w5.heap.size w5 w6 := by rw [← hw6]; exact (below_al (Below.refl _ _) _).setCell (Nat.le_refl _) _
    have hz6 := hb6.size
    have hB6 := below_th hB5 hb6
    have hR6 := hR5.below hb6 (by omega)
    have hU6 := hU5.below hb6 (by omega)
    have hO6 := hO5.below hb6 (by omega)
    have lU6 := hU6.one
    have ho6 := ho5.below hb6
    have hp : Hid (PairAt 112 #[.pointer (some ⟨w.heap.size + 1, 0, none⟩), .pointer (some ⟨w5.heap.size, 0, none⟩), .pointer (some ⟨w.heap.size, 0, none⟩)] (fun _ y => (y : Int)) (fun x y => ((tv t y x : Nat) : Int)) n w6) := Lib.hid fun x y hx hy w7 hb7 =>
      (twistedU1_any n _ _ _ _ _ _ au a5 a cu c5 c t w7 (hU6.below hb7 hU6.lt) (hL6.below hb7 hL6.lt) (hR6.below hb7 hR6.lt) (h2.below (below_th hB6 hb7)) (ho6.below hb7).row (h1.below (below_th hB6 hb7)) HS.out hn x y hx hy).mono fun e w' ⟨he, k, hk⟩ => ⟨he, by rw [hk]; exact below_drewN (Below.refl _ _) k⟩
    have lU5 := hU5.one
    have lL6 := hL6.one
    go_wp2_with fail
    try rw [hw6]
    refine (solutionBy_any _ _ _ _ n _ (by omega) ent_twu1 hp.out).mono ?_
    rintro e w7 ⟨a1, c1, vs, a1', c1', vs', rfl, ho, hb7⟩
    have hB7 := below_th hB6 hb7
    have hO7 := hO6.below hb7 (by omega)
    have lO := hO7.two
    go_wp2
    refine bodyPost_ret (v := .tuple #[sAgg a1 n c1 a1' n c1', .int .i64 0]) (by simp [results, Tryz.results29, go_sem, lO]) rfl ⟨a1, c1, vs, a1', c1', vs', rfl, ⟨?_, ?_, ho.ap⟩, ?_⟩
    · exact ((ho.f.setlo (by show w.heap.size + 2 < w6.heap.size; omega) _).setlo (by show w.heap.size + 2 < w6.heap.size; omega) _).mono (by omega)
    · exact ((ho.s.setlo (by show w.heap.size + 2 < w6.heap.size; omega) _).setlo (by show w.heap.size + 2 < w6.heap.size; omega) _).mono (by omega)
    · exact below_setne (below_setne hB7 (by show w.heap.size ≤ w.heap.size + 2; omega) _) (by show w.heap.size ≤ w.heap.size + 2; omega) _
end Go.Proofs.YtjhdbgohdmdpeaaGreat
