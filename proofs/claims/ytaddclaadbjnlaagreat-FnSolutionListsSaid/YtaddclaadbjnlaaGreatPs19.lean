/-
  Walks and plain laws of this seat, some texts in one.
  No condition but bounds on lengths.
-/
import Derived.Test.YtaddclaadbjnlaaGreatPs18
import Derived.Test.YtaddclaadbjnlaaGreatPs10
import Derived.Test.YtaddclaadbjnlaaGreatPs14
import Derived.Test.YtaddclaadbjnlaaGreatPs7
import Derived.Deep.DeepCutAuto
import Derived.Test.YtaddclaadbjnlaaGreatPs16
import Derived.Test.YtaddclaadbjnlaaGreatPs13
import Derived.Test.YtaddclaadbjnlaaGreatPs2
import Derived.Test.YtaddclaadbjnlaaGreatPs3
namespace Go.Proofs.YtaddclaadbjnlaaGreat
set_option linter.unusedVariables false
set_option linter.unusedSimpArgs false
set_option maxRecDepth 100000
open Go.RowKit
def SolT (w : World) (n : Nat) (e : Ending) (w' : World) : Prop :=
  (∃ k : Int, k ≠ 0 ∧ e = .returned (.tuple #[sAgg none 0 0 none 0 0, .int .i64 k]) ∧ Below w.heap.size w w') ∨
  ∃ (a : Option Addr) (c : Nat) (vs : List SV) (f : List (List Int)) (a' : Option Addr) (c' : Nat) (vs' : List SV) (g : List (List Int)), e = .returned (.tuple #[sAgg a n c a' n c', .int .i64 0]) ∧ OwnS w' w.heap.size a n c vs f a' n c' vs' g ∧ Sq n f ∧ Sq n g ∧ Below w.heap.size w w'
set_option maxHeartbeats 16000000 in
theorem TwistedSolution_ok (a ap : Option Addr) (n c cp : Nat) (t : List (List Int)) (p : List Int) (w : World) (h1 : Tbl w a n t) (h2 : Row w ap n p) (sq : Sq n t) (n1 : 1 ≤ n) (hn : n ≤ 12) :
    Calls Tryz.prog 116 #[rAgg a n c, .slice ap n cp] w (SolT w n) := by
  have hA := (Loc.new w rfl #[.slice a n c] 34).alloc (.cells #[.slice none 0 0, .slice none 0 0] 53)
  have hR := Loc.new (w.alloc (.cells #[.slice a n c] 34)) rfl #[.slice none 0 0, .slice none 0 0] 53
  rw [size_alloc] at hR
  have hB := below_al (below_al (Below.refl w.heap.size w) (.cells #[.slice a n c] 34)) (.cells #[.slice none 0 0, .slice none 0 0] 53)
  have SQ := Lib.hid sq
  clear sq
  go_enter Tryz.func116, Tryz.ntmps116
  have lA := hA.one
  go_wp2_with fail
  generalize (w.alloc (.cells #[.slice a n c] 34)).alloc (.cells #[.slice none 0 0, .slice none 0 0] 53) = wa at *
  refine (l03Is_any _ _ _ t _ (h1.below hB) (by omega)).mono ?_
  rintro e w1 ⟨rfl, hb1⟩
  replace hA := hA.below hb1 hA.lt; replace hR := hR.below hb1 hR.lt; replace hB := below_th hB hb1; replace lA := hA.one
  have lR := hR.two
  cases isRk t with
  | false =>
    go_wp2
    exact bodyPost_ret (v := .tuple #[sAgg none 0 0 none 0 0, .int .i64 1]) (by simp [results, Tryz.results116, go_sem, lR]) rfl (Or.inl ⟨1, by omega, rfl, (hB.setCell (by simp) _).setCell (by simp) _⟩)
  | true =>
  go_wp2_with fail
  refine (l01Perm_any _ _ _ p _ (h2.below hB) (by omega)).mono ?_
  rintro e w2 ⟨rfl, hw2⟩
  subst hw2
  cases hq : (rngB 1 12 n && permOk p) with
  | false =>
    clear hq
    go_wp2
    exact bodyPost_ret (v := .tuple #[sAgg none 0 0 none 0 0, .int .i64 2]) (by simp [results, Tryz.results116, go_sem, lR]) rfl (Or.inl ⟨2, by omega, rfl, (hB.setCell (by simp) _).setCell (by simp) _⟩)
  | true =>
  have HP := Lib.hid (permOk_isP h2.len.symm (by rw [Bool.and_eq_true] at hq; exact hq.2))
  clear hq
  have b3 : ((n : Int) != (n : Int)) = false := by simp
  go_wp2
  go_region_held3 (fun w' => w'.cell? ⟨w.heap.size, 0, none⟩ = some (.slice a n c)) (first | exact l4 | exact l3 | exact lA.1)
    (first
      | (go_at_call 108; refine (l03Image_any n _ _ _ _ t p _ ((h1.below hB).drewN 1) ((h2.below hB).drewN 1) SQ.out HP.out n1 hn).mono ?_; rintro e w3 ⟨a3, c3, vs3, rfl, ho3, hb3⟩; have q3 : Below w1.heap.size w1 w3 := (Below.drew (Below.refl _ _)).trans hb3; have l3 := (hA.below q3 hA.lt).one.1)
      | (go_at_call 60; refine (l01Same2_any _ _ _ _ _ _ _ t _ ho3.tbl ((h1.below hB).below q3) (by omega)).mono ?_; rintro e _ ⟨rfl, m4, rfl⟩; have q4 : Below w1.heap.size w1 (w3.drewN m4) := below_drewN q3 m4; have l4 := (hA.below q4 hA.lt).one.1))
  all_goals
  replace hA := hA.below q4 hA.lt; replace hR := hR.below q4 hR.lt; replace hB := below_th hB q4; replace lA := hA.one
  replace lR := hR.two
  clear q3 q4 l3 l4 ho3 hb3
  generalize w3.drewN m4 = w4 at *
  cases decide (rnL n t p = t) with
  | false =>
    go_wp2
    exact bodyPost_ret (v := .tuple #[sAgg none 0 0 none 0 0, .int .i64 5]) (by simp [results, Tryz.results116, go_sem, lR]) rfl (Or.inl ⟨5, by omega, rfl, (hB.setCell (by simp) _).setCell (by simp) _⟩)
  | true =>
  go_wp2_with fail
  refine (l01Back_any _ _ _ p _ (h2.below hB) (by omega) HP.out.mem).mono ?_
  rintro e w5 ⟨a5, c5, rfl, ho5, hb5⟩
  replace hA := hA.below hb5 hA.lt; replace hR := hR.below hb5 hR.lt; replace hB := below_th hB hb5
  have hRO : w.heap.size + 1 < w5.heap.size := hR.lt
  obtain ⟨bt, ot, A, O, C, rfl, G⟩ := (h1.below hB).grid SQ.out n1
  have h2 := h2.below hB
  have h5 := ho5.row
  have HB5 := Lib.hid hB
  obtain ⟨V, hV⟩ : ∃ V : Nat → Nat → Int, V = fun x y => p.getD y 0 := ⟨_, rfl⟩
  obtain ⟨U, hU⟩ : ∃ U : Nat → Nat → Int, U = fun x y => (backF p).getD (tv t (p.getD y 0).toNat x) 0 := ⟨_, rfl⟩
  have HVE : Hid (∀ x y, V x y = p.getD y 0) := Lib.hid fun x y => by rw [hV]
  have HUE : Hid (∀ x y, U x y = (backF p).getD (tv t (p.getD y 0).toNat x) 0) := Lib.hid fun x y => by rw [hU]
  clear hV hU
  have HSV : Hid (Sq n (tabF n V)) := Lib.hid (tabF_sqI fun x y hx hy => by
    rw [HVE.out]
    obtain ⟨z, e, hz⟩ := HP.out.at hy
    rw [e]; omega)
  have HSU : Hid (Sq n (tabF n U)) := Lib.hid (tabF_sqI fun x y hx hy => by
    rw [HUE.out]
    obtain ⟨z, e, hz⟩ := HP.out.at hy
    rw [e, Int.toNat_natCast]
    obtain ⟨v, e2, hv⟩ := (back_isP HP.out).at (SQ.out.lt hz hx)
    rw [e2]; omega)
  obtain ⟨w0, hw0⟩ : ∃ w0, w5.alloc (.cells #[.slice none 0 0, .slice none 0 0] 53) = w0 := ⟨_, rfl⟩
  have HZ0 : Hid (w0.heap.size = w5.heap.size + 1) := Lib.hid (by rw [← hw0]; simp)
  have hO : Loc w0 w5.heap.size #[.slice none 0 0, .slice none 0 0] 53 := by rw [← hw0]; exact Loc.new _ rfl _ _
  replace hR : Loc w0 (w.heap.size + 1) #[.slice none 0 0, .slice none 0 0] 53 := by rw [← hw0]; exact hR.alloc _
  have hX0 : Loc w0 w.heap.size #[.slice (some ⟨bt, ot, none⟩) n c] 34 := by rw [← hw0]; exact hA.alloc _
  replace hB : Below w5.heap.size w5 w0 := by rw [← hw0]; exact below_al (Below.refl _ _) _
  have HW0 := Lib.hid hw0
  clear hw0 h1 ho5 hb5 hA lA lR
  go_wp2
  try rw [HW0.out]
  go_loopw [8, 9, 10, 11] (fun i _ _ _ wr => ∃ (k : Nat) (az : Option Addr) (cz : Nat) (vz : List SV) (ay : Option Addr) (cy : Nat) (vy : List SV), k ≤ n ∧ i = .int .i64 k ∧ Loc wr (w5.heap.size) #[.slice az k cz, .slice ay k cy] 53 ∧ Loc wr (w.heap.size + 1) #[.slice none 0 0, .slice none 0 0] 53 ∧ OwnT wr w0.heap.size az k cz vz ((tabF n V).take k) ∧ OwnT wr w0.heap.size ay k cy vy ((tabF n U).take k) ∧ ApT az k vz ay k vy ∧ Below w5.heap.size w5 wr ∧ Loc wr (w.heap.size) #[.slice (some ⟨bt, ot, none⟩) n c] 34) (fun i _ _ _ _ => n - (intOf i).toNat)
  case atStart => exact ⟨0, none, 0, [], none, 0, [], Nat.zero_le _, rfl, hO, hR, by simpa using OwnT.nil _ _, by simpa using OwnT.nil _ _, (fun g h _ => by rcases h with h | ⟨i, hi, _⟩; (cases h); omega), hB, hX0⟩
  case round =>
    clear hR hO hB hX0
    obtain ⟨k, az, cz, vz, ay, cy, vy, hk, rfl, hO, hR, hz, hy, hap, hB, hX0⟩ := hrel
    have hOlt := hO.lt
    have hZ0 := HZ0.out
    by_cases hlt : k < n
    · obtain ⟨w1, hw1⟩ : ∃ w1, (wr.alloc (.cells #[] 2)).alloc (.cells #[] 2) = w1 := ⟨_, rfl⟩
      have hE1 : Own w1 wr.heap.size (some ⟨wr.heap.size, 0, none⟩) 0 0 [] := by rw [← hw1]; exact (Own.fresh wr rfl).alloc _
      have hE2 : Own w1 wr.heap.size (some ⟨wr.heap.size + 1, 0, none⟩) 0 0 [] := by rw [← hw1]; exact (Own.fresh (wr.alloc (.cells #[] 2)) (by simp)).mono (by simp)
      have hqe : Below wr.heap.size wr w1 := by rw [← hw1]; exact below_al (below_al (Below.refl wr.heap.size wr) _) _
      have HRV := Lib.hid (tabF_succ V hlt)
      have HRU := Lib.hid (tabF_succ U hlt)
      obtain ⟨B, hBB⟩ : ∃ B, B = wr.heap.size := ⟨_, rfl⟩
      go_wp2
      try rw [hw1]
      clear hw1
      go_loopw [9, 10, 11] (fun z y i wq => ∃ (jj : Nat) (ar : Option Addr) (cr : Nat) (as_ : Option Addr) (cs : Nat), jj ≤ n ∧ i = .int .i64 jj ∧ z = .slice ar jj cr ∧ y = .slice as_ jj cs ∧ Own wq B ar jj cr ((List.range jj).map fun y => V k y) ∧ Own wq B as_ jj cs ((List.range jj).map fun y => U k y) ∧ Apr ar as_ ∧ Below wr.heap.size wr wq) (fun _ _ i _ => n - (intOf i).toNat)
      case atStart => exact ⟨0, _, 0, _, 0, Nat.zero_le _, rfl, rfl, rfl, by rw [hBB]; simpa using hE1, by rw [hBB]; simpa using hE2, (fun g e1 e2 => by simp at e1 e2; omega), hqe⟩
      case round =>
        clear hE1 hE2 hqe
        obtain ⟨jj, ar, cr, as_, cs, hj, rfl, rfl, rfl, hor, hos, hpr, hqr⟩ := hrel
        have hwq := hqr.size
        obtain ⟨W, rfl⟩ : ∃ W : World, W = wr := ⟨_, rfl⟩
        by_cases hjt : jj < n
        · have HV1 : Hid (((List.range (jj + 1)).map fun y => V k y) = ((List.range jj).map fun y => V k y) ++ [V k jj]) := Lib.hid (by simp [List.range_succ])
          have HU1 : Hid (((List.range (jj + 1)).map fun y => U k y) = ((List.range jj).map fun y => U k y) ++ [U k jj]) := Lib.hid (by simp [List.range_succ])
          have hX0W := hX0.below hqr hX0.lt
          have lX0 := hX0W.one
          have hBW := hB.trans (hqr.mono (by have := hB.size; omega))
          have hBs := hB.size
          obtain ⟨F1, hF1, hF1n⟩ := HP.out.at hjt
          have h2W := h2.below hBW
          obtain ⟨b2, o2, rfl, l2, g2⟩ := h2.2 jj hjt
          have g2 := (hBW.cell (p := ⟨b2, o2 + jj, none⟩) l2).trans g2
          rw [hF1] at g2
          obtain ⟨r1, k1⟩ := (G.below hBW).look hF1n hlt
          have gl := G.lt
          have gr := G.rlt _ hF1n
          have hu := SQ.out.lt hF1n hlt
          have hU0 := HUE.out k jj
          have hV0 := HVE.out k jj
          rw [hF1, Int.toNat_natCast] at hU0
          rw [hF1] at hV0
          obtain ⟨u, HU⟩ : ∃ u, tv t F1 k = u := ⟨_, rfl⟩
          rw [HU] at k1 hu hU0
          clear HU hF1
          obtain ⟨F2, hF2, hF2n⟩ := (back_isP HP.out).at hu
          obtain ⟨b5, o5, rfl, l5, g5⟩ := h5.2 u hu
          have g5 := (hBW.cell (p := ⟨b5, o5 + u, none⟩) l5).trans g5
          rw [hF2] at g5 hU0
          clear hF2
          rw [hV0] at HV1
          rw [hU0] at HU1
          clear hV0 hU0 h2W
          have y1 : (0 : Int) ≤ (F1 : Int) := by omega
          have y2 : (F1 : Int) < (n : Int) := by omega
          have y3 : (0 : Int) ≤ (u : Int) := by omega
          have y4 : (u : Int) < (n : Int) := by omega
          have hjb : jj + 1 ≤ 1000000000000 := by omega
          have hBsz : B ≤ W.heap.size := by omega
          have hXB : w.heap.size < B := by have := hX0.lt; omega
          have hl2 : b2 < B := by omega
          have hlt2 : bt < B := by omega
          have hl4 : A F1 < B := by omega
          have hl5 : b5 < B := by omega
          clear hR hO hz hy hap hB hOlt hZ0
          go_upto_region 16 with (at_builtin; refine app1h rfl rfl hor rfl rfl (by omega) (by omega) ?_; intro g' cc w8 hO8 hg8 hat8 hb8)
          have hos8 := hos.beside hor hpr.symm hg8
          have hpr8 := hos.apart hor hpr.symm hat8
          have hs8 : B ≤ w8.heap.size := Nat.le_trans hBsz hb8.size
          have hosd := hos8.drewN 1
          have hq8 := hqr.trans (hb8.mono (by omega))
          have lP : (fun w' => w'.cell? ⟨w.heap.size, 0, none⟩ = some (.slice (some ⟨bt, ot, none⟩) n c) ∧ w'.cell? ⟨b2, o2 + jj, none⟩ = some (.int .i64 F1) ∧ w'.cell? ⟨bt, ot + F1, none⟩ = some (.slice (some ⟨A F1, O F1, none⟩) n (C F1)) ∧ w'.cell? ⟨A F1, O F1 + k, none⟩ = some (.int .i64 u) ∧ w'.cell? ⟨b5, o5 + u, none⟩ = some (.int .i64 F2)) w8 := ⟨(hb8.cell (p := ⟨w.heap.size, 0, none⟩) hXB).trans lX0.1, (hb8.cell (p := ⟨b2, o2 + jj, none⟩) hl2).trans g2, (hb8.cell (p := ⟨bt, ot + F1, none⟩) hlt2).trans r1, (hb8.cell (p := ⟨A F1, O F1 + k, none⟩) hl4).trans k1, (hb8.cell (p := ⟨b5, o5 + u, none⟩) hl5).trans g5⟩
          clear lX0 g2 r1 k1 g5 hX0W hor hos hg8 hat8 hb8
          go_region_held_law (fun w' => w'.cell? ⟨w.heap.size, 0, none⟩ = some (.slice (some ⟨bt, ot, none⟩) n c) ∧ w'.cell? ⟨b2, o2 + jj, none⟩ = some (.int .i64 F1) ∧ w'.cell? ⟨bt, ot + F1, none⟩ = some (.slice (some ⟨A F1, O F1, none⟩) n (C F1)) ∧ w'.cell? ⟨A F1, O F1 + k, none⟩ = some (.int .i64 u) ∧ w'.cell? ⟨b5, o5 + u, none⟩ = some (.int .i64 F2)) (first | exact lQ | exact lP | go_keep) (first | (refine step_app1hn rfl rfl hosd rfl rfl hjb hs8 ?_; intro g9 cc9 v9 hO9 hg9 hat9 hb9; have lQ : (fun w' => w'.cell? ⟨w.heap.size, 0, none⟩ = some (.slice (some ⟨bt, ot, none⟩) n c) ∧ w'.cell? ⟨b2, o2 + jj, none⟩ = some (.int .i64 F1) ∧ w'.cell? ⟨bt, ot + F1, none⟩ = some (.slice (some ⟨A F1, O F1, none⟩) n (C F1)) ∧ w'.cell? ⟨A F1, O F1 + k, none⟩ = some (.int .i64 u) ∧ w'.cell? ⟨b5, o5 + u, none⟩ = some (.int .i64 F2)) v9 := ⟨(hb9.cell (p := ⟨w.heap.size, 0, none⟩) hXB).trans lP.1, (hb9.cell (p := ⟨b2, o2 + jj, none⟩) hl2).trans lP.2.1, (hb9.cell (p := ⟨bt, ot + F1, none⟩) hlt2).trans lP.2.2.1, (hb9.cell (p := ⟨A F1, O F1 + k, none⟩) hl4).trans lP.2.2.2.1, (hb9.cell (p := ⟨b5, o5 + u, none⟩) hl5).trans lP.2.2.2.2⟩))
          all_goals
            have hor9 := (hO8.drewN 1).beside hosd hpr8.symm hg9
            have hpr9 := (hO8.drewN 1).apart hosd hpr8.symm hat9
            have hq9 := (below_drewN hq8 1).trans (hb9.mono (by omega))
            go_wp2
            go_roundw
            case rel => exact ⟨jj + 1, _, _, _, _, by omega, by go_num, rfl, rfl, by rw [HV1.out]; exact hor9, by rw [HU1.out]; exact hO9, hpr9, hq9⟩
            case measure => simp [intOf]; omega
        · obtain rfl : jj = n := by omega
          have hO3 := hO.below hqr hO.lt
          have hR3 := hR.below hqr hR.lt
          have lO := hO3.two
          have hz3 := hz.below hqr
          have hy3 := hy.below hqr
          have hB3 := hB.trans (hqr.mono (by have := hB.size; omega))
          have hX03 := hX0.below hqr hX0.lt
          have hzhi := hz.uHi
          have hyhi := hy.uHi
          have hrlo := hor.lo
          have hrhi := hor.hi
          have hslo := hos.lo
          have hshi := hos.hi
          have hB0s := hO3.lt
          clear hO hR hz hy hB
          go_upto_region 18 with (at_builtin; refine appT1g rfl rfl hz3 rfl (hor.mono (by omega)) (fun g h1 h2 => by have h3 := hzhi _ (.inl h1); have h4 := hrlo _ h2; omega) (fun i hi g h1 h2 => by have h3 := hrlo _ h1; have h4 := hzhi _ (.inr ⟨i, hi, h2⟩); omega) rfl (by omega) (by omega) ?_; intro g6 cc6 w6 hOT6 hg6 hat6 hb6; have hO6 := hO3.below hb6 (by omega); have lO6 := hO6.two)
          have hvl := hz3.vlen
          have hy6 := hz3.other hy3 hap hg6
          have hap6 := ApT.snoc hz3 hy3 hap (v := (ar, jj, cr)) hvl hat6 (fun q h1 h2 => by have h3 := hrlo _ h1; have h4 := hyhi _ h2; omega)
          have hos6 := hos.grown hg6 (fun g h1 h2 => by have h3 := hslo _ h1; have h4 := hzhi _ (hz3.ownBlk h2.symm); omega)
          have hsz6 := hg6.size
          have hB6 := hB3.trans (hb6.mono (by omega))
          have hR6 := hR3.below hb6 (by omega)
          have hz7 := hOT6.setlo (p := ⟨w5.heap.size, 0, none⟩) (by show w5.heap.size < w0.heap.size; omega) (.slice (some ⟨g6, 0, none⟩) (k + 1) cc6)
          have hy7 := hy6.setlo (p := ⟨w5.heap.size, 0, none⟩) (by show w5.heap.size < w0.heap.size; omega) (.slice (some ⟨g6, 0, none⟩) (k + 1) cc6)
          have hos7 := (hos6.mono (lo' := w0.heap.size) (by omega)).setlo (p := ⟨w5.heap.size, 0, none⟩) (by show w5.heap.size < w0.heap.size; omega) (.slice (some ⟨g6, 0, none⟩) (k + 1) cc6)
          have hO7 := hO6.set 0 (.slice (some ⟨g6, 0, none⟩) (k + 1) cc6)
          have hR7 := hR6.setne (a := ⟨w5.heap.size, 0, none⟩) (by show w.heap.size + 1 ≠ w5.heap.size; omega) (.slice (some ⟨g6, 0, none⟩) (k + 1) cc6)
          have hB7 := below_setne (a := ⟨w5.heap.size, 0, none⟩) hB6 (by show w5.heap.size ≤ w5.heap.size; omega) (.slice (some ⟨g6, 0, none⟩) (k + 1) cc6)
          have hX07 := (hX03.below hb6 (by omega)).setne (a := ⟨w5.heap.size, 0, none⟩) (by show w.heap.size ≠ w5.heap.size; omega) (.slice (some ⟨g6, 0, none⟩) (k + 1) cc6)
          have hsz7 : (w6.setCell ⟨w5.heap.size, 0, none⟩ (.slice (some ⟨g6, 0, none⟩) (k + 1) cc6)).heap.size = w6.heap.size := size_set _ _ _
          simp only [Array.setIfInBounds, List.size_toArray, List.length_cons, List.length_nil, Nat.zero_add, Nat.lt_add_one, Nat.reduceAdd, Nat.reduceLT, dif_pos, Nat.zero_lt_succ] at hO7
          have hvl7 := hy7.vlen
          have lO7 := hO7.two
          have HSZ := Lib.hid hsz7
          have hlo7 : w0.heap.size ≤ (w6.setCell ⟨w5.heap.size, 0, none⟩ (.slice (some ⟨g6, 0, none⟩) (k + 1) cc6)).heap.size := by rw [hsz7]; omega
          have hyz : ∀ g, TblS ay k vy g → ∀ q, as_ = some ⟨q, 0, none⟩ → q ≠ g := fun g h1 q h2 e => by have h3 := hslo _ h2; have h4 := hyhi _ h1; omega
          have hrz : ∀ q, as_ = some ⟨q, 0, none⟩ → ¬ TblS (some ⟨g6, 0, none⟩) (k + 1) (vz ++ [(ar, jj, cr)]) q := fun q h2 h1 => by
            have k1 := hslo _ h2
            have k2 := hshi _ h2
            rcases h1 with e | ⟨i, hi, e⟩
            · cases e
              rcases hat6 with e | e
              · have := hzhi _ (hz3.ownBlk e); omega
              · omega
            · by_cases hik : i < k
              · have e2 : (vz ++ [(ar, jj, cr)]).getD i svO = vz.getD i svO := by simp [List.getD_eq_getElem?_getD, List.getElem?_append_left (show i < vz.length by omega)]
                rw [e2] at e
                have := hzhi _ (.inr ⟨i, hik, e⟩); omega
              · have e2 : i = vz.length := by omega
                have e3 : (vz ++ [(ar, jj, cr)]).getD i svO = (ar, jj, cr) := by rw [e2]; simp [List.getD_eq_getElem?_getD]
                rw [e3] at e
                exact hpr _ e h2
          clear hsz7 hO6 lO6 hB6 hB3 hO3 lO hR3 hR6 hz3 hy3
          generalize w6.setCell ⟨w5.heap.size, 0, none⟩ (.slice (some ⟨g6, 0, none⟩) (k + 1) cc6) = w7 at *
          go_wp2_with (at_builtin; refine appT1g rfl rfl hy7 rfl hos7 (fun g h1 h2 => hyz _ (.inl h1) _ h2 rfl) (fun i hi g h1 h2 => hyz _ (.inr ⟨i, hi, h2⟩) _ h1 rfl) rfl (by omega) hlo7 ?_; intro g9 cc9 w9 hOT9 hg9 hat9 hb9; have hO9 := hO7.below hb9 (by omega); have lO9 := hO9.two)
          have hz9 := hy7.other hz7 hap6.symm hg9
          have hap9 := (ApT.snoc hy7 hz7 hap6.symm (v := (as_, jj, cs)) hvl7 hat9 hrz).symm
          have hO10 := hO9.set 1 (.slice (some ⟨g9, 0, none⟩) (k + 1) cc9)
          have hR9 := (hR7.below hb9 (by omega)).setne (a := ⟨w5.heap.size, 1, none⟩) (by show w.heap.size + 1 ≠ w5.heap.size; omega) (.slice (some ⟨g9, 0, none⟩) (k + 1) cc9)
          have hB9 := below_setne (a := ⟨w5.heap.size, 1, none⟩) (hB7.trans (hb9.mono (by omega))) (by show w5.heap.size ≤ w5.heap.size; omega) (.slice (some ⟨g9, 0, none⟩) (k + 1) cc9)
          have hX09 := (hX07.below hb9 (by omega)).setne (a := ⟨w5.heap.size, 1, none⟩) (by show w.heap.size ≠ w5.heap.size; omega) (.slice (some ⟨g9, 0, none⟩) (k + 1) cc9)
          go_roundw
          case rel => exact ⟨k + 1, _, _, _, _, _, _, by omega, by go_num, hO10, hR9, by rw [HRV.out]; exact hz9.setlo (by show w5.heap.size < w0.heap.size; omega) _, by rw [HRU.out]; exact hOT9.setlo (by show w5.heap.size < w0.heap.size; omega) _, hap9, hB9, hX09⟩
          case measure => simp [intOf]; omega
    · obtain rfl : k = n := by omega
      rw [List.take_of_length_le (by rw [tabF_len]; exact Nat.le_refl _)] at hz hy
      have lO := hO.two
      have lR := hR.two
      go_wp2
      refine bodyPost_ret (v := .tuple #[sAgg az k cz ay k cy, .int .i64 0]) (by simp [results, Tryz.results116, go_sem, lR, lO]) rfl (Or.inr ⟨az, cz, vz, _, ay, cy, vy, _, rfl, ⟨?_, ?_, hap⟩, HSV.out, HSU.out, ?_⟩)
      · exact ((hz.setlo (by show w.heap.size + 1 < w0.heap.size; omega) _).setlo (by show w.heap.size + 1 < w0.heap.size; omega) _).mono (by omega)
      · exact ((hy.setlo (by show w.heap.size + 1 < w0.heap.size; omega) _).setlo (by show w.heap.size + 1 < w0.heap.size; omega) _).mono (by omega)
      · exact below_setne (below_setne (HB5.out.trans (hB.mono (by omega))) (by show w.heap.size ≤ w.heap.size + 1; omega) _) (by show w.heap.size ≤ w.heap.size + 1; omega) _
set_option maxHeartbeats 8000000 in
theorem l02Draw_ok (M b : Nat) (w : World) (h : Src w b) (h1 : 1 ≤ M) (hM : M ≤ 12) :
    Calls Tryz.prog 117 #[.pointer (some ⟨b, 0, none⟩), .int .i64 M] w (SolD b w M) := by
  have hlt := h.lt
  have hR := Loc.new w rfl #[.slice none 0 0, .slice none 0 0] 53
  go_enter Tryz.func117, Tryz.ntmps117
  go_wp2_with fail
  refine (l02Any_ok M b _ (h.below (below_al (Below.refl _ _) _)) h1 hM).mono ?_
  rintro e w1 ⟨n, n1, nM, a1, c1, vs1, f, a1', c1', vs1', g, rfl, ho1, sf, sg, hs1, hg1⟩
  have hR1 := hR.grown hg1 (by simp; omega)
  have hG1 := grown_trans (World.grownBy_alloc w (.cells #[.slice none 0 0, .slice none 0 0] 53) (some b)) hg1
  have hz1 := hR1.lt
  obtain ⟨w2, hw2⟩ : ∃ w2, w1.alloc (.cells #[.slice a1 n c1, .slice a1' n c1'] 53) = w2 := ⟨_, rfl⟩
  have hb2 : Below w1.heap.size w1 w2 := by rw [← hw2]; exact below_al (Below.refl _ _) _
  have hO2 : Loc w2 w1.heap.size #[.slice a1 n c1, .slice a1' n c1'] 53 := by rw [← hw2]; exact Loc.new w1 rfl _ _
  have hR2 := hR1.below hb2 hz1
  have hs2 := hs1.below hb2
  have hG2 := grown_trans hG1 (grown_of_below hb2 (some b))
  have ho2 := (ho1.below hb2).mono (lo' := w.heap.size + 1) (by simp)
  have HFH : Hid (∀ q, TblS a1 n vs1 q → q < w1.heap.size) := Lib.hid ho1.f.uHi
  have HGH : Hid (∀ q, TblS a1' n vs1' q → q < w1.heap.size) := Lib.hid ho1.s.uHi
  have HW2 := Lib.hid hw2
  have SF := Lib.hid sf; have SG := Lib.hid sg
  clear hw2 ho1 hR hR1 hG1 hs1 hg1 sf sg
  go_wp2_with fail
  rw [HW2.out]
  refine (l01Next_ok b 4 _ hs2 ⟨by omega, by omega⟩).mono ?_
  rintro e w3 ⟨x, rfl, _, hx, hs3, hg3⟩
  obtain ⟨hx1, hx2⟩ := hx (by omega)
  clear hx
  have hR3 := hR2.grown hg3 (by simp; omega)
  have hO3 := hO2.grown hg3 (by simp; omega)
  have hG3 := grown_trans hG2 hg3
  have ho3 := ho2.grownb hg3 (by omega)
  have hO3l := hO3.lt
  have hR3l := hR3.lt
  clear hR2 hO2 hG2 ho2 hs2 hb2
  by_cases hx0 : 0 < x
  · have lO := hO3.two
    have tok1 : True := trivial
    go_upto_region 3 with fail
    go_region_held3 (fun w' => w'.cell? ⟨w1.heap.size, 0, none⟩ = some (.slice a1 n c1) ∧ w'.cell? ⟨w1.heap.size, 1, none⟩ = some (.slice a1' n c1'))
      (first | exact ⟨lM.1, lM.2.1⟩ | exact ⟨lC.1, lC.2.1⟩ | exact ⟨lB.1, lB.2.1⟩ | exact ⟨lO.1, lO.2.1⟩ | go_keep)
      (first
        | (go_at_call 151; have _t := tok1; refine (l01Draw_ok b n _ (hs3.below (below_drewN (Below.refl _ _) 1)) n1 (by omega)).mono ?_; rintro e w5 ⟨a5, c5, p, rfl, hp, ho5', hs5, hg5'⟩; clear _t tok1; have tok2 : True := trivial; have HP := Lib.hid hp; clear hp; have hg5 : w3.grownBy w5 (some b) := grown_trans (grown_of_below (below_drewN (Below.refl _ _) 1) (some b)) hg5'; have hO5 := hO3.grown hg5 (by simp; omega); have lB := hO5.two; have ho5 := ho3.grownb hg5 (by omega))
        | (go_at_call 150; have _t := tok2; refine (l02Rename_any n a1 a1' a5 c1 c1' c5 f g p _ ho5.f.tbl ho5.s.tbl ho5'.row SF.out SG.out HP.out n1 (by omega)).mono ?_; rintro e w6 ⟨a6, c6, vs6, f6, a6', c6', vs6', g6, rfl, ho6, sf6, sg6, hb6⟩; clear _t tok2; have hg5s := hg5.size; have hO6 := hO5.below hb6 (by omega); have lC := hO6.two; have hR6 := (hR3.grown hg5 (by simp; omega)).below hb6 (by omega); have lRr := hR6.two; have lM := ((hO6.setne (a := ⟨w.heap.size, 0, none⟩) (by show w1.heap.size ≠ w.heap.size; omega) (.slice a6 n c6)).setne (a := ⟨w.heap.size, 1, none⟩) (by show w1.heap.size ≠ w.heap.size; omega) (.slice a6' n c6')).two))
    all_goals
      have lR := hR6.two
      have hs6 := hs5.below hb6
      have hG6 := grown_trans (grown_trans hG3 hg5) (grown_of_below hb6 (some b))
      go_wp2
      exact bodyPost_ret (v := sAgg a6 n c6 a6' n c6') (by simp [results, Tryz.results117, go_sem, lR]) rfl ⟨n, n1, nM, sol_ret ho6 (by omega) hs6 hlt hG6 sf6 sg6⟩
  · have hx3 : ¬ 0 < x := hx0
    have lO := hO3.two
    have lR := hR3.two
    go_wp2
    exact bodyPost_ret (v := sAgg a1 n c1 a1' n c1') (by simp [results, Tryz.results117, go_sem, lR, lO]) rfl ⟨n, n1, nM, sol_ret ho3 (by omega) hs3 hlt hG3 SF.out SG.out⟩
end Go.Proofs.YtaddclaadbjnlaaGreat
namespace Go.Proofs.YtaddclaadbjnlaaGreat
set_option linter.unusedVariables false
set_option linter.unusedSimpArgs false
def Shape (n : Nat) (F : List (List Int)) : Prop := F.length = n ∧ ∀ x, x < n → (F.getD x []).length = n
theorem Shape.set {n : Nat} {F : List (List Int)} (h : Shape n F) (u v : Nat) (x : Int) : Shape n (F.set u ((F.getD u []).set v x)) := by
  refine ⟨by simp [h.1], fun i hi => ?_⟩
  rw [getD_set' _ _ _ _ _ (by rw [h.1]; exact hi)]
  by_cases e : i = u
  · rw [if_pos e, List.length_set, ← e]; exact h.2 i hi
  · rw [if_neg e]; exact h.2 i hi
theorem Shape.at_ {n : Nat} {F : List (List Int)} (h : Shape n F) (u v : Nat) (x : Int) {i j : Nat} (hi : i < n) (hj : j < n) : ((F.set u ((F.getD u []).set v x)).getD i []).getD j 0 = if i = u ∧ j = v then x else (F.getD i []).getD j 0 := by
  rw [getD_set' _ _ _ _ _ (by rw [h.1]; exact hi)]
  by_cases e : i = u
  · subst e
    rw [if_pos rfl, getD_set' _ _ _ _ _ (by rw [h.2 i hi]; exact hj)]
    by_cases e' : j = v <;> simp [e']
  · rw [if_neg e, if_neg (fun h => e h.1)]
theorem Shape.ext {n : Nat} {F : List (List Int)} {V : Nat → Nat → Int} (h : Shape n F) (hv : ∀ x y, x < n → y < n → (F.getD x []).getD y 0 = V x y) : F = tabF n V := by
  apply List.ext_getElem
  · rw [h.1, tabF_len]
  · intro x h1 h2
    have hx : x < n := by rw [h.1] at h1; exact h1
    have e1 : F.getD x [] = F[x] := by simp [List.getD_eq_getElem?_getD, List.getElem?_eq_getElem h1]
    have e2 : (tabF n V).getD x [] = (tabF n V)[x] := by simp [List.getD_eq_getElem?_getD, List.getElem?_eq_getElem h2]
    have e3 := tabF_get n V x hx
    rw [← e1, ← e2, e3]
    apply List.ext_getElem
    · rw [h.2 x hx]; simp
    · intro y h3 h4
      have hy : y < n := by rw [h.2 x hx] at h3; exact h3
      have := hv x y hx hy
      rw [List.getD_eq_getElem?_getD, List.getElem?_eq_getElem h3] at this
      simpa using this
def InvAt (n : Nat) (f g : List (List Int)) (done : Nat → Nat → Prop) (F G : List (List Int)) : Prop :=
  Shape n F ∧ Shape n G ∧ ∀ x y, x < n → y < n → done x y → (F.getD (tv f x y) []).getD (tv g x y) 0 = (x : Int) ∧ (G.getD (tv f x y) []).getD (tv g x y) 0 = (y : Int)
section
variable {n : Nat} {f g F G : List (List Int)}
theorem InvAt.start (hf : Shape n F) (hg : Shape n G) : InvAt n f g (fun x _ => x < 0) F G := ⟨hf, hg, fun x y _ _ h => absurd h (by omega)⟩
theorem InvAt.step (hn : 1 ≤ n) (hf : Sq n f) (hg : Sq n g) (hc : collOk n f g = true) {k j : Nat} (hk : k < n) (hj : j < n) (h : InvAt n f g (fun x y => x < k ∨ (x = k ∧ y < j)) F G) :
    InvAt n f g (fun x y => x < k ∨ (x = k ∧ y < j + 1)) (F.set (tv f k j) ((F.getD (tv f k j) []).set (tv g k j) (k : Int))) (G.set (tv f k j) ((G.getD (tv f k j) []).set (tv g k j) (j : Int))) := by
  refine ⟨h.1.set _ _ _, h.2.1.set _ _ _, fun x y hx hy hd => ?_⟩
  rw [h.1.at_ _ _ _ (hf.lt hx hy) (hg.lt hx hy), h.2.1.at_ _ _ _ (hf.lt hx hy) (hg.lt hx hy)]
  by_cases e : tv f x y = tv f k j ∧ tv g x y = tv g k j
  · rw [if_pos e, if_pos e]
    have e2 := prN_eq hn hc hx hy e.1 e.2
    rw [prN_eq hn hc hk hj rfl rfl] at e2
    have e3 := congrArg (· / n) e2
    have e4 := congrArg (· % n) e2
    simp only [pair_div hn hy, pair_div hn hj, pair_mod hy, pair_mod hj] at e3 e4
    exact ⟨by rw [e3], by rw [e4]⟩
  · rw [if_neg e, if_neg e]
    have hne : ¬ (x = k ∧ y = j) := by rintro ⟨rfl, rfl⟩; exact e ⟨rfl, rfl⟩
    refine h.2.2 x y hx hy ?_
    show x < k ∨ (x = k ∧ y < j)
    have : x < k ∨ (x = k ∧ y < j + 1) := hd
    omega
end
end Go.Proofs.YtaddclaadbjnlaaGreat
namespace Go.Proofs.YtaddclaadbjnlaaGreat
set_option maxRecDepth 100000
set_option linter.unusedVariables false
set_option linter.unusedSimpArgs false
open Go.RowKit
set_option maxHeartbeats 400000 in
theorem clone_any (a : Option Addr) (n c : Nat) (xs : List Int) (w : World) (h1 : Row w a n xs) (hm : n ≤ 1000000000000) :
    Calls Tryz.prog 61 #[.slice a n c] w fun e w' => ∃ a' c', e = .returned (.slice a' n c') ∧ Own w' w.heap.size a' n c' xs ∧ Below w.heap.size w w' := by
  have hnil := Lib.run_eql_slice_nil (P := Tryz.prog) w 41 2 a n c 0 0 und_ints
  cases a with
  | none =>
    have hn : n = 0 := by
      rcases Nat.eq_zero_or_pos n with h | h
      · exact h
      · obtain ⟨b, off, h2, _⟩ := h1.at 0 h; cases h2
    subst hn
    have hx : xs = [] := List.eq_nil_of_length_eq_zero h1.len.symm
    subst hx
    go_enter Tryz.func61, Tryz.ntmps61
    go_wp2
    go_ret
    exact ⟨none, 0, rfl, Own.nil _ _, Below.refl _ _⟩
  | some p =>
    have hr := h1.alloc (.cells #[] 2)
    go_enter Tryz.func61, Tryz.ntmps61
    go_wp2_with (at_builtin; refine appL rfl rfl (Own.fresh w rfl) rfl hr rfl (by omega) (by simp) ?_; intro ad' c' w' hO hg hb; rw [Nat.zero_add] at hO ⊢)
    go_ret
    exact ⟨ad', c', rfl, by simpa using hO, ((Below.refl _ _).alloc (Nat.le_refl _) _).trans hb⟩
set_option maxHeartbeats 1000000 in
theorem cloneTable_any (a : Option Addr) (n c : Nat) (xss : List (List Int)) (w : World) (h1 : Tbl w a n xss) (hm : n ≤ 1000000) (hx1 : ∀ i, i < n → (xss.getD i []).length ≤ 1000000) :
    Calls Tryz.prog 90 #[.slice a n c] w fun e w' => ∃ a' c' vs, e = .returned (.slice a' n c') ∧ OwnT w' w.heap.size a' n c' vs xss ∧ Below w.heap.size w w' := by
  have hl := h1.len
  have HL := Lib.hid hl; clear hl
  have HX := Lib.hid hx1; clear hx1
  go_enter Tryz.func90, Tryz.ntmps90
  go_wp2_with (at_make; refine makeT rfl rfl rfl rfl (by omega) ?_; intro w1 ho hs hb)
  go_loopw [11] (fun i wr => ∃ (k : Nat) (vs : List SV), k ≤ n ∧ i = .int .i64 k ∧ OwnT wr w.heap.size (some ⟨w.heap.size, 0, none⟩) n n vs (xss.take k ++ List.replicate (n - k) []) ∧ Below w.heap.size w wr) (fun i _ => n - (intOf i).toNat)
  case atStart => exact ⟨0, _, Nat.zero_le _, rfl, by simpa using ho, hb⟩
  case round =>
    clear ho hb
    obtain ⟨k, vs, hk, rfl, ho, hb⟩ := hrel
    by_cases hlt : k < n
    · have hr := h1.below hb
      obtain ⟨b, off, ai, ni, ci, rfl, g1, hri, hni⟩ := hr.at k hlt
      have hx : k < xss.length := by have := HL.out; omega
      have hle : ni ≤ 1000000 := by have := HX.out k hlt; have := hri.len; omega
      rw [Tbl.getD hx] at hri
      obtain ⟨g, hg, hgl, hc, hf⟩ := ho.cells (by omega)
      cases hg
      clear h1 hr hc
      go_wp2_with fail
      refine (clone_any _ _ _ _ _ hri (by omega)).mono ?_
      rintro e w2 ⟨a2, c2, rfl, ho2, hb2⟩
      have hot := ho.below hb2
      obtain ⟨g', hg', hgl', hc', hf'⟩ := hot.cells (by omega)
      cases hg'
      have hc1 := hc' k hlt
      have hf1 := hf' k
      clear hc' hf' hf
      go_wp2
      go_roundw
      case rel =>
        have hlo : w.heap.size ≤ wr.heap.size := hb.size
        refine ⟨k + 1, vs.set k (a2, ni, c2), by omega, by go_num, ?_, ?_⟩
        · have hp := hot.put k hlt (v := (a2, ni, c2)) (ho2.mono hlo) (fun e => by have := ho2.lo _ e; omega) (fun j hj _ g1 h1 h2 => by have h3 := ho2.lo _ h1; have h4 := (ho.row j hj).hi _ h2; omega)
          rw [copyT_step xss n k HL.out hx] at hp
          exact hp
        · exact (hb.trans (hb2.mono hlo)).setCell (Nat.le_refl _) _
      case measure => simp [intOf]; omega
    · obtain rfl : k = n := by omega
      go_wp2
      go_ret
      have e1 : xss.take k ++ List.replicate (k - k) [] = xss := by
        rw [List.take_of_length_le (by have := HL.out; omega), Nat.sub_self, List.replicate_zero, List.append_nil]
      rw [e1] at ho
      exact ⟨_, _, _, rfl, ho, hb⟩
end Go.Proofs.YtaddclaadbjnlaaGreat
