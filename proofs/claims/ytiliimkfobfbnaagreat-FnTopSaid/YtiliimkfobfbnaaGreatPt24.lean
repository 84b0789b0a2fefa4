/-
  Walks and plain laws of this seat, some texts in one.
  No condition but bounds on lengths.
-/
import Derived.Test.YtiliimkfobfbnaaGreatPt10
import Derived.Test.YtiliimkfobfbnaaGreatPt12
import Derived.Test.YtiliimkfobfbnaaGreatPt22
import Derived.Test.YtiliimkfobfbnaaGreatPt7
import Derived.Test.YtiliimkfobfbnaaGreatPt5
import Derived.Test.YtiliimkfobfbnaaGreatPt20
import Derived.Test.YtiliimkfobfbnaaGreatPt6
import Derived.Test.YtiliimkfobfbnaaGreatPt21
namespace Go.Proofs.YtiliimkfobfbnaaGreat
set_option maxRecDepth 100000
set_option linter.unusedVariables false
set_option linter.unusedSimpArgs false
open Go.RowKit
theorem unit_perm (n : Nat) : permOk (unitL n) = true :=
  permOk_of (n := n) (F := fun i => i) (unitL_len n) (fun i hi => unitL_get n i hi) ⟨fun x hx => hx, fun x y _ _ e => e⟩
theorem backU (n : Nat) : backF (unitL n) = unitL n :=
  pf_ext (backF_pf (unit_pf n)) (unit_pf n) fun i hi => rfl
theorem rnU {n : Nat} {t : List (List Int)} (hs : Sq n t) : rnL n t (unitL n) = t := by
  refine sq_ext (rnL_sq (unit_isP n) hs) hs fun x y hx hy => ?_
  rw [rnL_tv (unit_pf n) hs hx hy]; rfl
theorem twG_trn {n : Nat} {f g : List (List Int)} : trnL n (drL n f g) = twG n f g := by
  unfold trnL twG tabF
  refine List.map_congr_left fun x hx => List.map_congr_left fun y hy => ?_
  rw [List.mem_range] at hx hy
  have : tv (drL n f g) y x = drN f g y x := tv_tab hy hx
  show ((tv (drL n f g) y x : Nat) : Int) = _
  rw [this]
set_option maxHeartbeats 4000000 in
theorem twistedU1_any (n bu bb br : Nat) (tu tb tr : TypeId) (au ab a : Option Addr) (cu cb c : Nat) (t : List (List Int)) (w : World) (hU : Loc w bu #[.slice au n cu] tu) (hB : Loc w bb #[.slice ab n cb] tb) (hR : Loc w br #[.slice a n c] tr)
    (h1 : Row w au n (unitL n)) (h2 : Row w ab n (unitL n)) (h3 : Tbl w a n t) (hs : Sq n t) (hn : n ≤ 12) (x y : Nat) (hx : x < n) (hy : y < n) :
    Calls Tryz.prog 55 #[.int .i64 x, .int .i64 y, .pointer (some ⟨bu, 0, none⟩), .pointer (some ⟨bb, 0, none⟩), .pointer (some ⟨br, 0, none⟩)] w fun e w' => e = .returned (.tuple #[.int .i64 y, .int .i64 ((tv t y x : Nat) : Int)]) ∧ ∃ m, w' = w.drewN m := by
  obtain ⟨bf, of, A, O, C, rfl, G⟩ := h3.grid hs (by omega)
  have g4 := G.look hy hx
  have hv := hs.lt hy hx
  generalize tv t y x = v at *
  obtain ⟨b2, o2, rfl, g2⟩ := h1.at y hy
  obtain ⟨b3, o3, rfl, g3⟩ := h2.at v hv
  rw [unitL_get n y hy] at g2
  rw [unitL_get n v hv] at g3
  have l1 := hU.one
  have l2 := hB.one
  have l3 := hR.one
  have i1 : (0 : Int) ≤ (x : Int) := by omega
  have i2 : (x : Int) < (n : Int) := by omega
  have i3 : (0 : Int) ≤ (y : Int) := by omega
  have i4 : (y : Int) < (n : Int) := by omega
  have i5 : (0 : Int) ≤ (v : Int) := by omega
  have i6 : (v : Int) < (n : Int) := by omega
  go_enter Tryz.func55, Tryz.ntmps55
  go_wp2
  go_quiet (fail)
  go_wp2
  go_ret2
  exact ⟨rfl, _, rfl⟩
theorem ent_twu1 : Ent 55 := fun _ _ => rfl
set_option maxHeartbeats 4000000 in
theorem TwistedU_any (n : Nat) (a au : Option Addr) (c cu : Nat) (t : List (List Int)) (w : World) (h1 : Tbl w a n t) (h2 : Row w au n (unitL n)) (h : isRk t = true) :
    Calls Tryz.prog 22 #[rAgg a n c, .slice au n cu] w fun e w' => ∃ a1 c1 vs a1' c1' vs', e = .returned (.tuple #[sAgg a1 n c1 a1' n c1', .int .i64 0]) ∧ OwnS w' w.heap.size a1 n c1 vs (twF n) a1' n c1' vs' (trnL n t) ∧ Below w.heap.size w w' := by
  obtain ⟨hn1, hn, hs⟩ := isRk_sq h
  rw [← h1.len] at hn1 hn hs
  have HS := Lib.hid hs; have HK := Lib.hid h
  have HP := Lib.hid (unit_perm n)
  have HB := Lib.hid (backU n)
  have HU := Lib.hid (unit_isP n)
  have HE : Hid (rnL n t (unitL n) = t) := Lib.hid (rnU hs)
  have HM : Hid (∀ x ∈ unitL n, 0 ≤ x ∧ x < n) := Lib.hid (unit_isP n).mem
  clear hs h
  obtain ⟨w0, hw0⟩ : ∃ w0, ((w.alloc (.cells #[.slice a n c] 37)).alloc (.cells #[.slice au n cu] 50)).alloc (.cells #[.slice none 0 0, .slice none 0 0] 29) = w0 := ⟨_, rfl⟩
  have hz0 : w0.heap.size = w.heap.size + 3 := by rw [← hw0]; simp
  have hB0 : Below w.heap.size w w0 := by rw [← hw0]; exact below_al (below_al (below_al (Below.refl _ _) _) _) _
  have hR : Loc w0 w.heap.size #[.slice a n c] 37 := by rw [← hw0]; exact ((Loc.new w rfl _ _).alloc _).alloc _
  have hU : Loc w0 (w.heap.size + 1) #[.slice au n cu] 50 := by rw [← hw0]; exact (Loc.new _ (by simp) _ _).alloc _
  have hO : Loc w0 (w.heap.size + 2) #[.slice none 0 0, .slice none 0 0] 29 := by rw [← hw0]; exact Loc.new _ (by simp) _ _
  have lR := hR.one
  have lU := hU.one
  go_enter Tryz.func22, Tryz.ntmps22
  go_wp2_with fail
  try rw [hw0]
  refine (isRack_any a n c t _ (h1.below hB0) (by omega)).mono ?_
  rintro e w1 ⟨rfl, hb1⟩
  rw [HK.out]
  have hz1 := hb1.size
  have hB1 := below_th hB0 hb1
  have hR1 := hR.below hb1 hR.lt
  have hU1 := hU.below hb1 hU.lt
  have hO1 := hO.below hb1 hO.lt
  have lR1 := hR1.one
  have lU1 := hU1.one
  go_wp2_with fail
  refine (isPermuted_any au n cu (unitL n) _ (h2.below hB1) (by omega)).mono ?_
  rintro e w2 ⟨rfl, hb2⟩
  rw [HP.out]
  have hz2 := hb2.size
  have hB2 := below_th hB1 hb2
  have hR2 := hR1.below hb2 (by omega)
  have hU2 := hU1.below hb2 (by omega)
  have hO2 := hO1.below hb2 (by omega)
  have lR2 := hR2.one
  have lU2 := hU2.one
  have t1 := (h1.below hB2).drewN 1
  have t2 := (h2.below hB2).drewN 1
  go_wp2
  go_region_held3 (fun w' => w'.cell? ⟨w.heap.size, 0, none⟩ = some (.slice a n c) ∧ w'.cell? ⟨w.heap.size + 1, 0, none⟩ = some (.slice au n cu))
    (first | exact ⟨lR3, lU3⟩ | exact ⟨lR2, lU2⟩ | go_keep)
    (first
    | (go_at_call 52; refine (renamed_any n a au c cu t (unitL n) _ t1 t2 HS.out HU.out hn).mono ?_; rintro e w3 ⟨a3, c3, vs3, rfl, ho3, hb3⟩; rw [HE.out] at ho3; have hR3 := (hR2.drewN 1).below hb3 (by simp; omega); have hU3 := (hU2.drewN 1).below hb3 (by simp; omega); have lR3 := hR3.one; have lU3 := hU3.one; have hB3 := below_th (below_drewN hB2 1) hb3; have t3 := t1.below hb3)
    | (go_at_call 32; refine (equalTables_any a3 a n n c3 c t t _ ho3.tbl t3 (by omega)).mono ?_; rintro e w4 ⟨rfl, rfl⟩; rw [decide_eq_true (rfl : t = t)]))
  all_goals
    have hz3 := hb3.size
    have hO3 := (hO2.drewN 1).below hb3 (by show w.heap.size + 2 < w2.heap.size; omega)
    have h23 := t2.below hb3
    go_wp2_with fail
    refine (inverse_any au n cu (unitL n) _ h23 (by omega) HM.out).mono ?_
    rintro e w5 ⟨a5, c5, rfl, ho5, hb5⟩
    rw [HB.out] at ho5
    have hz5 := hb5.size
    have hzz : w.heap.size + 3 ≤ w3.heap.size := by have : w2.heap.size ≤ w3.heap.size := hz3; omega
    have hB5 := below_th hB3 hb5
    have hR5 := hR3.below hb5 (by omega)
    have hU5 := hU3.below hb5 (by omega)
    have hO5 := hO3.below hb5 (by omega)
    obtain ⟨w6, hw6⟩ : ∃ w6, (w5.alloc (.cells #[.slice none 0 0] 50)).setCell ⟨w5.heap.size, 0, none⟩ (.slice a5 n c5) = w6 := ⟨_, rfl⟩
    have hL6 : Loc w6 w5.heap.size #[.slice a5 n c5] 50 := by rw [← hw6]; exact (Loc.new w5 rfl _ _).set 0 _
    have hb6 : Below w5.heap.size w5 w6 := by rw [← hw6]; exact (below_al (Below.refl _ _) _).setCell (Nat.le_refl _) _
    have hz6 := hb6.size
    have hB6 := below_th hB5 hb6
    have hR6 := hR5.below hb6 (by omega)
    have hU6 := hU5.below hb6 (by omega)
    have hO6 := hO5.below hb6 (by omega)
    have lU6 := hU6.one
    have ho6 := ho5.below hb6
    have hp : Hid (PairAt 55 #[.pointer (some ⟨w.heap.size + 1, 0, none⟩), .pointer (some ⟨w5.heap.size, 0, none⟩), .pointer (some ⟨w.heap.size, 0, none⟩)] (fun _ y => (y : Int)) (fun x y => ((tv t y x : Nat) : Int)) n w6) := Lib.hid fun x y hx hy w7 hb7 =>
      (twistedU1_any n _ _ _ _ _ _ au a5 a cu c5 c t w7 (hU6.below hb7 hU6.lt) (hL6.below hb7 hL6.lt) (hR6.below hb7 hR6.lt) (h2.below (below_th hB6 hb7)) (ho6.below hb7).row (h1.below (below_th hB6 hb7)) HS.out hn x y hx hy).mono fun e w' ⟨he, k, hk⟩ => ⟨he, by rw [hk]; exact below_drewN (Below.refl _ _) k⟩
    have lU5 := hU5.one
    have lL6 := hL6.one
    go_wp2_with fail
    try rw [hw6]
    refine (solutionBy_any _ _ _ _ n _ (by omega) ent_twu1 hp.out).mono ?_
    rintro e w7 ⟨a1, c1, vs, a1', c1', vs', rfl, ho, hb7⟩
    have hB7 := below_th hB6 hb7
    have hO7 := hO6.below hb7 (by omega)
    have lO := hO7.two
    go_wp2
    refine bodyPost_ret (v := .tuple #[sAgg a1 n c1 a1' n c1', .int .i64 0]) (by simp [results, Tryz.results22, go_sem, lO]) rfl ⟨a1, c1, vs, a1', c1', vs', rfl, ⟨?_, ?_, ho.ap⟩, ?_⟩
    · exact ((ho.f.setlo (by show w.heap.size + 2 < w6.heap.size; omega) _).setlo (by show w.heap.size + 2 < w6.heap.size; omega) _).mono (by omega)
    · exact ((ho.s.setlo (by show w.heap.size + 2 < w6.heap.size; omega) _).setlo (by show w.heap.size + 2 < w6.heap.size; omega) _).mono (by omega)
    · exact below_setne (below_setne hB7 (by show w.heap.size ≤ w.heap.size + 2; omega) _) (by show w.heap.size ≤ w.heap.size + 2; omega) _
def Dic (w : World) (b : Nat) : Prop := ∃ (a : Option Addr) (n c : Nat) (xs : List Int) (i : Nat) (h : Int), n ≤ 9223372036854775807 ∧ i ≤ n ∧ 0 ≤ h ∧ h < 18446744073709551616 ∧ Bts w a n xs ∧ (0 < n → ∀ g o, a = some ⟨g, o, none⟩ → g < b) ∧
  Loc w b #[.slice a n c, .int .i64 i, .int .u64 h] 78
theorem Dic.lt {w : World} {b : Nat} (h : Dic w b) : b < w.heap.size := by obtain ⟨a, n, c, xs, i, h, _, _, _, _, _, _, hL⟩ := h; exact hL.lt
theorem Dic.below {w w' : World} {b : Nat} (h : Dic w b) (hb : Below w.heap.size w w') : Dic w' b := by
  obtain ⟨a, n, c, xs, i, h, h1, h2, h3, h4, hB, hg, hL⟩ := h
  exact ⟨a, n, c, xs, i, h, h1, h2, h3, h4, hB.below hb, hg, hL.below hb hL.lt⟩
set_option maxHeartbeats 2000000 in
theorem below_ok (b : Nat) (n : Int) (w : World) (h : Dic w b) (hn : I64 n) :
    Calls Tryz.prog 21 #[.pointer (some ⟨b, 0, none⟩), .int .i64 n] w fun e w' => ∃ x, e = .returned (.int .i64 x) ∧ (n < 1 → x = 0) ∧ (1 ≤ n → 0 ≤ x ∧ x < n) ∧ Dic w' b ∧ w.grownBy w' (some b) := by
  obtain ⟨a, m, c, xs, i, g, h1, h2, h3, h4, hB, hg, hL⟩ := h
  by_cases hn1 : n < 1
  · go_enter Tryz.func21, Tryz.ntmps21
    go_wp2
    go_ret
    exact ⟨_, rfl, fun _ => rfl, fun h => absurd h (by omega), ⟨a, m, c, xs, i, g, h1, h2, h3, h4, hB, hg, hL⟩, grown_refl _ _⟩
  · have lL := hL.three
    obtain ⟨hn2, hn3⟩ := hn
    have hn4 : 1 ≤ n := by omega
    clear hn1
    go_enter Tryz.func21, Tryz.ntmps21
    go_wp2
    obtain ⟨G, HG⟩ : ∃ G, Hid (IntKind.u64.wrap (IntKind.u64.wrap (g * 6364136223846793005) + 1442695040888963407) = G) := ⟨_, rfl⟩
    have hG := u64_rng (IntKind.u64.wrap (g * 6364136223846793005) + 1442695040888963407)
    rw [HG.out] at hG
    rw [HG.out]
    obtain ⟨hG1, hG2⟩ := hG
    obtain ⟨hX1, hX2⟩ := mask24 G hG1 hG2
    obtain ⟨X, HX⟩ : ∃ X, Hid (wrap64 (bits BinOp.and IntKind.u64 (G / 8589934592) 16777215) = X) := ⟨_, rfl⟩
    rw [HX.out] at hX1 hX2
    rw [HX.out]
    have hL2 := hL.set 2 (.int .u64 G)
    have lL2 := hL2.three
    have hg2 := grown_set (grown_refl w (some b)) (p := ⟨b, 2, none⟩) (.inl rfl) (.int .u64 G)
    have hB2 : Bts (w.setCell ⟨b, 2, none⟩ (.int .u64 G)) a m xs := ⟨hB.1, fun j hj => by
      obtain ⟨q, off, e1, e2, e3⟩ := hB.2.1 j hj
      exact ⟨q, off, e1, by rw [size_set]; exact e2, cell_setne e3 (by have := hg (by omega) q off e1; simp; omega) _⟩, hB.2.2⟩
    generalize w.setCell ⟨b, 2, none⟩ (.int .u64 G) = w2 at *
    by_cases hi : i < m
    · obtain ⟨q, off, rfl, hc⟩ := hB2.at i hi
      have hxr := hB2.2.2 i
      obtain ⟨V, HV⟩ : ∃ V, Hid (xs.getD i 0 = V) := ⟨_, rfl⟩
      rw [HV.out] at hc hxr
      obtain ⟨v1, v2⟩ := hxr
      have s1 : (0 : Int) ≤ (i : Int) := by omega
      have s2 : (i : Int) < (m : Int) := by omega
      go_quiet (fail)
      go_wp2
      have s3 : IntKind.i64.wrap (X + V) = X + V := IntWalk.i64_in _ ⟨by omega, by omega⟩
      have s4 : IntKind.i64.wrap V = V := IntWalk.i64_in _ ⟨by omega, by omega⟩
      go_quiet (fail)
      clear s3 s4
      go_wp2
      go_ret
      rename_i nq0
      have hL3 := (hL2.drewN (nq0 + nq)).set 1 (.int .i64 (i + 1))
      refine ⟨_, rfl, fun h => absurd h (by omega), fun _ => ⟨Int.emod_nonneg _ (by omega), Int.emod_lt_of_pos _ (by omega)⟩, ?_, grown_set (grown_drewN hg2 _) (.inl rfl) _⟩
      refine ⟨some ⟨q, off, none⟩, m, c, xs, i + 1, G, h1, by omega, hG1, hG2, ?_, hg, hL3⟩
      exact ⟨hB2.1, fun j hj => by
        obtain ⟨q', off', e1, e2, e3⟩ := hB2.2.1 j hj
        exact ⟨q', off', e1, by rw [size_set]; exact e2, cell_setne (w := w2.drewN _) e3 (by have := hg (by omega) q' off' e1; simp; omega) _⟩, hB2.2.2⟩
    · go_quiet (fail)
      go_wp2
      go_ret
      refine ⟨_, rfl, fun h => absurd h (by omega), fun _ => ⟨Int.emod_nonneg _ (by omega), Int.emod_lt_of_pos _ (by omega)⟩, ?_, grown_drewN hg2 _⟩
      exact ⟨a, m, c, xs, i, G, h1, h2, hG1, hG2, hB2.below (below_drewN (Below.refl _ _) _), hg, hL2.drewN _⟩
set_option maxHeartbeats 2000000 in
theorem roll_ok (a : Option Addr) (n c : Nat) (xs : List Int) (s : Int) (w : World) (h : Bts w a n xs) (hn : n ≤ 9223372036854775807) :
    Calls Tryz.prog 20 #[.slice a n c, .int .u64 s] w fun e w' => ∃ b, e = .returned (.pointer (some ⟨b, 0, none⟩)) ∧ w.heap.size ≤ b ∧ Dic w' b ∧ Below w.heap.size w w' := by
  go_enter Tryz.func20, Tryz.ntmps20
  go_wp2
  go_loopw [6] (fun i wr => ∃ (k : Nat) (g : Int), k ≤ n ∧ i = .int .i64 k ∧ 0 ≤ g ∧ g < 18446744073709551616 ∧ Loc wr w.heap.size #[.slice a n c, .int .i64 0, .int .u64 g] 78 ∧ Below w.heap.size w wr) (fun i _ => n - (intOf i).toNat)
  case atStart => exact ⟨0, _, by omega, rfl, (u64_rng _).1, (u64_rng _).2, Loc.new w rfl _ _, below_al (Below.refl _ _) _⟩
  case round =>
    obtain ⟨k, g, hk, rfl, hg1, hg2, hL, hq⟩ := hrel
    by_cases hlt : k < n
    · obtain ⟨q, off, rfl, hc⟩ := (h.below hq).at k hlt
      obtain ⟨V, HV⟩ : ∃ V, Hid (xs.getD k 0 = V) := ⟨_, rfl⟩
      have hxr := h.2.2 k
      rw [HV.out] at hc hxr
      obtain ⟨v1, v2⟩ := hxr
      have s1 : (0 : Int) ≤ (k : Int) := by omega
      have s2 : (k : Int) < (n : Int) := by omega
      have lL := hL.three
      go_wp2
      refine wp_region_still_tail 15 (by kernel_rfl) (by kernel_rfl) ?_
      change wpStill _ _ wr.drew (fun a' => wpList _ _ _ _ a' wr.drew) _ _
      replace hL := hL.drew
      replace lL := hL.three
      replace hc : wr.drew.cell? ⟨q, off + k, none⟩ = some (.int .u8 V) := hc
      replace hq : Below w.heap.size w wr.drew := hq.drew
      generalize wr.drew = w2 at *
      simp only [List.take_succ_cons, List.take_zero, List.drop_succ_cons, List.drop_zero]
      repeat still_step
      refine wpStill_nil ?_
      go_wp2
      go_roundw
      case rel =>
        have hu := u64_rng (IntKind.u64.wrap (IntKind.u64.wrap (g * 1099511628211) + V) + 5)
        exact ⟨k + 1, _, by omega, by go_num, hu.1, hu.2, hL.set 2 _, hq.setCell (Nat.le_refl _) _⟩
      case measure => simp [intOf]; omega
    · go_wp2
      go_ret
      exact ⟨_, rfl, Nat.le_refl _, ⟨a, n, c, xs, 0, g, hn, by omega, hg1, hg2, h.below hq, fun hn q o e => by obtain ⟨b', o', e1, e2, _⟩ := h.2.1 0 hn; rw [e1] at e; cases e; exact e2, hL⟩, hq⟩
theorem below_grown {w0 w w' : World} {b : Nat} (h : Below w0.heap.size w0 w) (hg : w.grownBy w' (some b)) (hb : w0.heap.size ≤ b) : Below w0.heap.size w0 w' := h.grown hg h.size (fun k hk => by cases hk; exact hb)
def TbS (w : World) (a : Option Addr) (n : Nat) (ts : List (List (List Int))) : Prop :=
  n = ts.length ∧ ∀ i, i < n → ∃ b off ai ni ci, a = some ⟨b, off, none⟩ ∧ b < w.heap.size ∧ w.cell? ⟨b, off + i, none⟩ = some (.slice ai ni ci) ∧ Tbl w ai ni (ts.getD i []) ∧ ni ≤ 9223372036854775807
theorem TbS.len {w : World} {a : Option Addr} {n : Nat} {ts : List (List (List Int))} (h : TbS w a n ts) : n = ts.length := h.1
theorem TbS.at {w : World} {a : Option Addr} {n : Nat} {ts : List (List (List Int))} (h : TbS w a n ts) (i : Nat) (hi : i < n) : ∃ b off ai ni ci, a = some ⟨b, off, none⟩ ∧ w.cell? ⟨b, off + i, none⟩ = some (.slice ai ni ci) ∧ Tbl w ai ni (ts.getD i []) ∧ ni ≤ 9223372036854775807 := by
  obtain ⟨b, off, ai, ni, ci, h1, _, h2⟩ := h.2 i hi; exact ⟨b, off, ai, ni, ci, h1, h2⟩
theorem TbS.below {w w' : World} {a : Option Addr} {n : Nat} {ts : List (List (List Int))} (h : TbS w a n ts) (hb : Below w.heap.size w w') : TbS w' a n ts :=
  ⟨h.1, fun i hi => by obtain ⟨b, off, ai, ni, ci, h1, h3, h2, h4, h5⟩ := h.2 i hi; exact ⟨b, off, ai, ni, ci, h1, Nat.lt_of_lt_of_le h3 hb.size, (hb.cell (p := ⟨b, off + i, none⟩) h3).trans h2, h4.below hb, h5⟩⟩
theorem TbS.drewN {w : World} {a : Option Addr} {n : Nat} {ts : List (List (List Int))} (h : TbS w a n ts) (k : Nat) : TbS (w.drewN k) a n ts := h
theorem TbS.alloc {w : World} {a : Option Addr} {n : Nat} {ts : List (List (List Int))} (h : TbS w a n ts) (o : Obj) : TbS (w.alloc o) a n ts := h.below ((Below.refl _ _).alloc (Nat.le_refl _) o)
def befT (r : Bool) : List (List Int) → List (List Int) → Bool
  | [], _ => r
  | _ :: _, [] => r
  | x :: t, y :: s => if cmpL x y = 0 then befT r t s else decide (cmpL x y < 0)
def befS : List (List (List Int)) → List (List (List Int)) → Bool
  | [], _ => false
  | _ :: _, [] => false
  | t :: us, s :: bs => befT (befS us bs) t s
theorem befT_step {r : Bool} {t s : List (List Int)} {k : Nat} (hx : k < t.length) (hy : k < s.length) : befT r (t.drop k) (s.drop k) = if cmpL (t.getD k []) (s.getD k []) = 0 then befT r (t.drop (k + 1)) (s.drop (k + 1)) else decide (cmpL (t.getD k []) (s.getD k []) < 0) := by
  rw [List.drop_eq_getElem_cons hx, List.drop_eq_getElem_cons hy]
  simp [befT, List.getD_eq_getElem?_getD, List.getElem?_eq_getElem hx, List.getElem?_eq_getElem hy]
theorem befT_end {r : Bool} {t s : List (List Int)} {k : Nat} (hx : t.length ≤ k) : befT r (t.drop k) (s.drop k) = r := by
  rw [List.drop_of_length_le hx]; cases s.drop k <;> rfl
theorem befS_step {us bs : List (List (List Int))} {k : Nat} (hx : k < us.length) (hy : k < bs.length) : befS (us.drop k) (bs.drop k) = befT (befS (us.drop (k + 1)) (bs.drop (k + 1))) (us.getD k []) (bs.getD k []) := by
  rw [List.drop_eq_getElem_cons hx, List.drop_eq_getElem_cons hy]
  simp [befS, List.getD_eq_getElem?_getD, List.getElem?_eq_getElem hx, List.getElem?_eq_getElem hy]
theorem befS_end {us bs : List (List (List Int))} {k : Nat} (hx : us.length ≤ k) : befS (us.drop k) (bs.drop k) = false := by
  rw [List.drop_of_length_le hx]; cases bs.drop k <;> rfl
set_option maxHeartbeats 4000000 in
theorem l01Less_any (a1 a2 : Option Addr) (n1 n2 c1 c2 : Nat) (xs ys : List Int) (w : World) (h1 : Row w a1 n1 xs) (h2 : Row w a2 n2 ys) (hm : n1 ≤ 9223372036854775807) :
    Calls Tryz.prog 155 #[.slice a1 n1 c1, .slice a2 n2 c2] w fun e w' => e = .returned (.bool (decide (cmpL xs ys < 0))) ∧ ∃ m, w' = w.drewN m := by
  have HL1 := Lib.hid h1.len; have HL2 := Lib.hid h2.len
  go_enter Tryz.func155, Tryz.ntmps155
  go_wp2
  go_loopw [5] (fun i wr => ∃ k : Nat, k ≤ n1 ∧ i = .int .i64 k ∧ (k ≤ n2) ∧ Hid (cmpL xs ys = cmpG cmpI (xs.drop k) (ys.drop k)) ∧ Hid (∃ m, wr = w.drewN m)) (fun i _ => n1 - (intOf i).toNat)
  case atStart => exact ⟨0, Nat.zero_le _, rfl, Nat.zero_le _, Lib.hid rfl, Lib.hid ⟨0, rfl⟩⟩
  case round =>
    obtain ⟨k, hk, rfl, hk2, HK, HW⟩ := hrel
    by_cases hlt : k < n1
    · have i2 : (k : Int) < (n1 : Int) := by omega
      by_cases hlt2 : k < n2
      · have h1r : Row wr a1 n1 xs := by obtain ⟨m, hm⟩ := HW.out; rw [hm]; exact h1.drewN m
        have h2r : Row wr a2 n2 ys := by obtain ⟨m, hm⟩ := HW.out; rw [hm]; exact h2.drewN m
        obtain ⟨b1, o1, rfl, g1⟩ := h1r.at k hlt
        obtain ⟨X, HX⟩ : ∃ X, Hid (xs.getD k 0 = X) := ⟨_, rfl⟩
        rw [HX.out] at g1
        have i1 : (0 : Int) ≤ (k : Int) := by omega
        obtain ⟨b2, o2, rfl, g2⟩ := h2r.at k hlt2
        obtain ⟨Y, HY⟩ : ∃ Y, Hid (ys.getD k 0 = Y) := ⟨_, rfl⟩
        rw [HY.out] at g2
        have i3 : (k : Int) < (n2 : Int) := by omega
        have hst := cmpG_step (c := cmpI) (xs := xs) (ys := ys) (k := k) 0 (by have := HL1.out; omega) (by have := HL2.out; omega)
        rw [HX.out, HY.out] at hst
        clear h1r h2r
        by_cases hc : X = Y
        · subst hc
          rw [if_pos (cmpI_eq.2 rfl)] at hst
          have HST := Lib.hid hst
          have t1 : (X != X) = false := by simp
          clear hst
          go_wp2
          go_quiet (fail)
          go_wp2
          go_roundw
          case rel => exact ⟨k + 1, by omega, by go_num, by omega, Lib.hid (by rw [HK.out, HST.out]), Lib.hid (by obtain ⟨m, hm⟩ := HW.out; exact ⟨m + nq, by rw [hm, World.drewN_drewN]⟩)⟩
          case measure => simp [intOf]; omega
        · have hne : ¬ cmpI X Y = 0 := fun e => hc (cmpI_eq.1 e)
          rw [if_neg hne] at hst
          have HR : Hid (decide (X < Y) = decide (cmpL xs ys < 0)) := Lib.hid (by
            rw [HK.out, hst]
            unfold cmpI
            by_cases hl : X < Y
            · rw [if_pos hl]; simp [hl]
            · rw [if_neg hl, if_pos (by omega)]; simp [hl])
          have t1 : (X != Y) = true := by simp [hc]
          clear hst hne
          go_wp2
          go_quiet (fail)
          go_wp2
          go_quiet (fail)
          go_wp2
          go_ret
          exact ⟨ret_bool HR.out, by obtain ⟨m, hm⟩ := HW.out; exact ⟨_, by rw [hm, World.drewN_drewN, World.drewN_drewN]⟩⟩
      · have i4 : ¬ (k : Int) < (n2 : Int) := by omega
        obtain rfl : k = n2 := by omega
        have HR : Hid (decide (n1 < k) = decide (cmpL xs ys < 0)) := Lib.hid (by
          rw [HK.out, cmpG_long (by have := HL1.out; omega) (by have := HL2.out; omega)]; simp; omega)
        go_wp2
        go_ret
        exact ⟨ret_bool HR.out, HW.out⟩
    · obtain rfl : n1 = k := by omega
      have HR : Hid (decide (n1 < n2) = decide (cmpL xs ys < 0)) := Lib.hid (by
        rw [HK.out]
        by_cases hl : n1 < n2
        · rw [cmpG_short HL1.out (by have := HL2.out; omega)]; simp; omega
        · rw [cmpG_even HL1.out (by have := HL2.out; omega)]; simp; omega)
      go_wp2
      go_ret
      exact ⟨ret_bool HR.out, HW.out⟩
set_option maxHeartbeats 8000000 in
theorem l03Before_any (a1 a2 : Option Addr) (m1 m2 c1 c2 : Nat) (us bs : List (List (List Int))) (w : World) (h1 : TbS w a1 m1 us) (h2 : TbS w a2 m2 bs) (hm : m1 ≤ m2) (hm2 : m2 ≤ 1000000000) (hl : ∀ k, k < m1 → (us.getD k []).length ≤ (bs.getD k []).length) :
    Calls Tryz.prog 150 #[.slice a1 m1 c1, .slice a2 m2 c2] w fun e w' => e = .returned (.bool (befS us bs)) ∧ ∃ m, w' = w.drewN m := by
  have HL1 := Lib.hid h1.len; have HL2 := Lib.hid h2.len; have HL := Lib.hid hl
  clear hl
  go_enter Tryz.func150, Tryz.ntmps150
  go_wp2
  go_loopw [5, 6] (fun i _ wr => ∃ k : Nat, k ≤ m1 ∧ i = .int .i64 k ∧ Hid (befS us bs = befS (us.drop k) (bs.drop k)) ∧ Hid (∃ m, wr = w.drewN m)) (fun i _ _ => m1 - (intOf i).toNat)
  case atStart => exact ⟨0, Nat.zero_le _, rfl, Lib.hid rfl, Lib.hid ⟨0, rfl⟩⟩
  case round =>
    obtain ⟨k, hk, rfl, HK, HW⟩ := hrel
    by_cases hlt : k < m1
    · have hstep := befS_step (us := us) (bs := bs) (k := k) (by have := HL1.out; omega) (by have := HL2.out; omega)
      obtain ⟨r, HR⟩ : ∃ r, Hid (befS (us.drop (k + 1)) (bs.drop (k + 1)) = r) := ⟨_, rfl⟩
      rw [HR.out] at hstep
      have HKT : Hid (befS us bs = befT r (us.getD k []) (bs.getD k [])) := Lib.hid (by rw [HK.out, hstep])
      have hll := HL.out k hlt
      obtain ⟨t, HT⟩ : ∃ t, Hid (us.getD k [] = t) := ⟨_, rfl⟩
      obtain ⟨s, HS⟩ : ∃ s, Hid (bs.getD k [] = s) := ⟨_, rfl⟩
      rw [HT.out, HS.out] at HKT hll
      have HLL := Lib.hid hll
      have i1 : (0 : Int) ≤ (k : Int) := by omega
      have i2 : (k : Int) < (m1 : Int) := by omega
      have i3 : (k : Int) < (m2 : Int) := by omega
      clear hstep hll
      go_wp2
      go_loopw [6] (fun i wr2 => ∃ x : Nat, x ≤ t.length ∧ i = .int .i64 x ∧ Hid (befS us bs = befT r (t.drop x) (s.drop x)) ∧ Hid (∃ m, wr2 = w.drewN m)) (fun i _ => t.length - (intOf i).toNat)
      case atStart => exact ⟨0, Nat.zero_le _, rfl, HKT, HW⟩
      case round =>
        obtain ⟨x, hx, rfl, HX, HW2⟩ := hrel
        have h1r : TbS wr a1 m1 us := by obtain ⟨m, hm⟩ := HW2.out; rw [hm]; exact h1.drewN m
        have h2r : TbS wr a2 m2 bs := by obtain ⟨m, hm⟩ := HW2.out; rw [hm]; exact h2.drewN m
        obtain ⟨b1, o1, ax, nx, cx, rfl, g1, t1, l1⟩ := h1r.at k hlt
        obtain ⟨b2, o2, ay, ny, cy, rfl, g2, t2, l2⟩ := h2r.at k (by omega)
        rw [HT.out] at t1
        rw [HS.out] at t2
        have hnx := t1.len
        have hny := t2.len
        by_cases hlx : x < t.length
        · obtain ⟨b3, o3, a3, n3, c3, rfl, g3, r3, l3⟩ := t1.at x (by omega)
          obtain ⟨b4, o4, a4, n4, c4, rfl, g4, r4, l4⟩ := t2.at x (by have := HLL.out; omega)
          have j1 : (0 : Int) ≤ (x : Int) := by omega
          have j2 : (x : Int) < (nx : Int) := by omega
          have j3 : (x : Int) < (ny : Int) := by have := HLL.out; omega
          have hst := befT_step (r := r) (t := t) (s := s) (k := x) hlx (by have := HLL.out; omega)
          obtain ⟨X, HXX⟩ : ∃ X, Hid (t.getD x [] = X) := ⟨_, rfl⟩
          obtain ⟨Y, HYY⟩ : ∃ Y, Hid (s.getD x [] = Y) := ⟨_, rfl⟩
          rw [HXX.out, HYY.out] at hst
          rw [HXX.out] at r3
          rw [HYY.out] at r4
          have HNX := Lib.hid hnx
          clear h1r h2r t1 t2 hny hnx
          by_cases hc : X = Y
          · subst hc
            rw [if_pos ((cmpL_eq X X).2 rfl)] at hst
            have HST := Lib.hid hst
            have HD : Hid (decide (X = X) = true) := Lib.hid (by simp)
            clear hst
            have HSA : Hid (∀ m, Calls Tryz.prog 154 #[.slice a3 n3 c3, .slice a4 n4 c4] (wr.drewN m) fun e w'' => e = .returned (.bool true) ∧ ∃ k, w'' = wr.drewN k) := Lib.hid fun m => (l01Same_any a3 a4 n3 n4 c3 c4 X X (wr.drewN m) (r3.drewN m) (r4.drewN m) l3).mono fun e w'' ⟨he, k, hk⟩ => ⟨by rw [he, HD.out], m + k, by rw [hk, World.drewN_drewN]⟩
            go_wp2
            go_quiet ((go_at_call 154; exact HSA.out _))
            go_wp2
            go_roundw
            case rel => exact ⟨x + 1, by omega, by go_num, Lib.hid (by rw [HX.out, HST.out]), Lib.hid (by obtain ⟨m, hm⟩ := HW2.out; exact ⟨m + nq, by rw [hm, World.drewN_drewN]⟩)⟩
            case measure => simp [intOf]; omega
          · have hne : ¬ cmpL X Y = 0 := fun e => hc ((cmpL_eq _ _).1 e)
            rw [if_neg hne] at hst
            have HR2 : Hid (decide (cmpL X Y < 0) = befS us bs) := Lib.hid (by rw [HX.out, hst])
            obtain ⟨D, HDD⟩ : ∃ D, Hid (decide (cmpL X Y < 0) = D) := ⟨_, rfl⟩
            have HD : Hid (decide (X = Y) = false) := Lib.hid (by simp [hc])
            clear hst hne
            have HSA : Hid (∀ m, Calls Tryz.prog 154 #[.slice a3 n3 c3, .slice a4 n4 c4] (wr.drewN m) fun e w'' => e = .returned (.bool false) ∧ ∃ k, w'' = wr.drewN k) := Lib.hid fun m => (l01Same_any a3 a4 n3 n4 c3 c4 X Y (wr.drewN m) (r3.drewN m) (r4.drewN m) l3).mono fun e w'' ⟨he, k, hk⟩ => ⟨by rw [he, HD.out], m + k, by rw [hk, World.drewN_drewN]⟩
            go_wp2
            go_quiet ((go_at_call 154; exact HSA.out _))
            obtain ⟨wq, hwq⟩ : ∃ wq, wr.drewN nq = wq := ⟨_, rfl⟩
            have HSB : Hid (∀ m, Calls Tryz.prog 155 #[.slice a3 n3 c3, .slice a4 n4 c4] (wq.drewN m) fun e w'' => e = .returned (.bool D) ∧ ∃ k, w'' = wq.drewN k) := Lib.hid fun m => (l01Less_any a3 a4 n3 n4 c3 c4 X Y (wq.drewN m) (by rw [← hwq]; exact (r3.drewN nq).drewN m) (by rw [← hwq]; exact (r4.drewN nq).drewN m) l3).mono fun e w'' ⟨he, k, hk⟩ => ⟨by rw [he, HDD.out], m + k, by rw [hk, World.drewN_drewN]⟩
            have q1 : (wr.drewN nq).cell? _ = _ := g1
            have q2 : (wr.drewN nq).cell? _ = _ := g2
            have q3 : (wr.drewN nq).cell? _ = _ := g3
            have q4 : (wr.drewN nq).cell? _ = _ := g4
            have HWQ := Lib.hid hwq
            rw [hwq] at q1 q2 q3 q4
            rw [hwq]
            clear hwq g1 g2 g3 g4
            go_wp2
            go_quiet ((go_at_call 155; exact HSB.out _))
            go_wp2
            go_ret
            exact ⟨ret_bool (by rw [← HDD.out, HR2.out]), by obtain ⟨m, hm⟩ := HW2.out; exact ⟨_, by rw [← HWQ.out, hm, World.drewN_drewN, World.drewN_drewN]⟩⟩
        · obtain rfl : t.length = x := by omega
          have HE : Hid (befS us bs = r) := Lib.hid (by rw [HX.out, befT_end (Nat.le_refl _)])
          have j2 : ¬ (t.length : Int) < (nx : Int) := by omega
          clear h1r h2r t1 t2 hny
          go_wp2
          go_roundw
          case rel => exact ⟨k + 1, by omega, by go_num, Lib.hid (by rw [HE.out, HR.out]), HW2⟩
          case measure => simp [intOf]; omega
    · obtain rfl : m1 = k := by omega
      have HE : Hid (befS us bs = false) := Lib.hid (by rw [HK.out, befS_end (by have := HL1.out; omega)])
      go_wp2
      go_ret
      exact ⟨ret_bool HE.out.symm, HW.out⟩
def cycV (n x y : Nat) : Nat := (x + y) % n
set_option maxHeartbeats 4000000 in
theorem l10Cyclic_any (n : Nat) (w : World) (h1 : 1 ≤ n) (hn : n ≤ 12) :
    Calls Tryz.prog 136 #[.int .i64 n] w fun e w' => ∃ a c vs, e = .returned (.slice a n c) ∧ OwnT w' w.heap.size a n c vs (tabF n fun x y => ((cycV n x y : Nat) : Int)) ∧ Below w.heap.size w w' := by
  obtain ⟨V, HV⟩ : ∃ V : Nat → Nat → Int, Hid ((fun x y => ((cycV n x y : Nat) : Int)) = V) := ⟨_, Lib.hid rfl⟩
  rw [HV.out]
  have hO := OwnT.fresh w rfl
  have hB := below_al (Below.refl w.heap.size w) (.cells #[] 50)
  go_enter Tryz.func136, Tryz.ntmps136
  go_wp2
  go_loopw [3, 4, 5] (fun z i _ wr => ∃ (k : Nat) (az : Option Addr) (cz : Nat) (vz : List SV), k ≤ n ∧ i = .int .i64 k ∧ z = .slice az k cz ∧ OwnT wr w.heap.size az k cz vz ((tabF n V).take k) ∧ Below w.heap.size w wr) (fun _ i _ _ => n - (intOf i).toNat)
  case atStart => exact ⟨0, _, 0, _, Nat.zero_le _, rfl, rfl, by simpa using hO, hB⟩
  case round =>
    clear hO hB
    obtain ⟨k, az, cz, vz, hk, rfl, rfl, ho, hb⟩ := hrel
    by_cases hlt : k < n
    · have hE := Own.fresh wr rfl
      have hqe := below_al (Below.refl wr.heap.size wr) (.cells #[] 2)
      go_wp2
      go_loopw [5, 6] (fun z i wq => ∃ (j : Nat) (ar : Option Addr) (cr : Nat), j ≤ n ∧ i = .int .i64 j ∧ z = .slice ar j cr ∧ Own wq wr.heap.size ar j cr ((List.range j).map fun y => V k y) ∧ Below wr.heap.size wr wq) (fun _ i _ => n - (intOf i).toNat)
      case atStart => exact ⟨0, _, 0, Nat.zero_le _, rfl, rfl, by simpa using hE, hqe⟩
      case round =>
        clear hE hqe
        obtain ⟨j, ar, cr, hj, rfl, rfl, hor, hqr⟩ := hrel
        have hwq := hqr.size
        by_cases hjt : j < n
        · obtain ⟨X, HX⟩ : ∃ X, Hid ((k + j) % n = X) := ⟨_, Lib.hid rfl⟩
          have hXn : X < n := by rw [← HX.out]; exact Nat.mod_lt _ (by omega)
          have HS : Hid (((List.range (j + 1)).map fun y => V k y) = ((List.range j).map fun y => V k y) ++ [(X : Int)]) := Lib.hid (by
            rw [show (X : Int) = V k j by rw [← HV.out, ← HX.out]; rfl]; simp [List.range_succ])
          have htm : Int.tmod ((k : Int) + (j : Int)) (n : Int) = (X : Int) := by
            rw [← HX.out, show ((k : Int) + (j : Int)) = ((k + j : Nat) : Int) by omega]; rfl
          have hz : ¬ (n : Int) = 0 := by omega
          have hz2 : ((n : Int) == 0) = false := by simpa using hz
          have HW : Hid (IntKind.i64.wrap ((k : Int) + (j : Int)) = (k : Int) + (j : Int)) := Lib.hid (IntWalk.i64_in _ ⟨by omega, by omega⟩)
          have HWX : Hid (IntKind.i64.wrap (X : Int) = (X : Int)) := Lib.hid (IntWalk.i64_in _ ⟨by omega, by omega⟩)
          have hj12 : j + 1 ≤ 1000000000000 := by omega
          have s1 := HW.out; have s2 := HWX.out
          go_wp2_with (at_builtin; refine app1 rfl rfl hor rfl rfl hj12 hwq ?_; intro g' cc w8 hO8 hg8 hs8 hb8)
          clear s1 s2
          go_roundw
          case rel => exact ⟨j + 1, _, _, by omega, by go_num, rfl, by rw [HS.out]; exact hO8, hqr.trans hb8⟩
          case measure => simp [intOf]; omega
        · obtain rfl : n = j := by omega
          have ho3 := ho.below hqr
          have HS := Lib.hid (tabF_succ V hlt)
          have hbs := hb.size
          go_wp2_with (at_builtin; refine appT1 rfl rfl ho3 rfl (hor.mono (by omega)) (fun g h1 h2 => by have h3 := ho.high _ h1; have h4 := hor.lo _ h2; omega) (fun i hi g h1 h2 => by have h3 := hor.lo _ h1; have h4 := (ho.row i hi).hi _ h2; omega) rfl (by omega) (by omega) ?_; intro g' cc w9 hOT hb9)
          go_roundw
          case rel => exact ⟨k + 1, _, _, _, by omega, by go_num, rfl, by rw [HS.out]; exact hOT, (hb.trans (hqr.mono (by omega))).trans (hb9.mono (by omega))⟩
          case measure => simp [intOf]; omega
    · obtain rfl : n = k := by omega
      have HTK : Hid ((tabF n V).take n = tabF n V) := Lib.hid (List.take_of_length_le (by rw [tabF_len]; exact Nat.le_refl _))
      rw [HTK.out] at ho
      go_wp2
      go_ret
      exact ⟨_, _, _, rfl, ho, hb⟩
end Go.Proofs.YtiliimkfobfbnaaGreat
