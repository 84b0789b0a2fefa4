/-
  Walks and plain laws of this seat, some texts in one.
  No condition but bounds on lengths.
-/
import Derived.Deep.RegionHeldLaw
import Derived.Test.YtaddclaadbjnlaaGreatPs9
import Derived.Deep.DeepCutAuto
namespace Go.Proofs.YtaddclaadbjnlaaGreat
set_option linter.unusedVariables false
set_option linter.unusedSimpArgs false
set_option maxRecDepth 100000
open Go.RowKit
theorem wrap_nn {P : Nat} (h : P ≤ 1000000) : IntKind.i64.wrap (P : Int) = (P : Int) := IntWalk.i64_in _ (by omega)
theorem wrap_n6 {P : Nat} (h : P ≤ 1000000) : wrap64 (P : Int) = (P : Int) := IntWalk.wrap64_in _ (by omega)
theorem wrap_ad {P x : Nat} (h : P ≤ 1000000) (h2 : x ≤ 1000000) : IntKind.i64.wrap ((P : Int) + (x : Int)) = (P : Int) + (x : Int) := IntWalk.i64_in _ (by omega)
set_option maxHeartbeats 16000000 in
theorem l02Product_any (a a' b b' : Option Addr) (n m c c' d d' : Nat) (f f' g g' : List (List Int)) (w : World) (t1 : Tbl w a n f) (t2 : Tbl w a' n f') (t3 : Tbl w b m g) (t4 : Tbl w b' m g') (s1 : Sq n f) (s2 : Sq n f') (s3 : Sq m g) (s4 : Sq m g') (n1 : 1 ≤ n) (m1 : 1 ≤ m) (hn : n ≤ 100) (hm : m ≤ 100) :
    Calls Tryz.prog 172 #[sAgg a n c a' n c', sAgg b m d b' m d'] w (SolB w (n * m)) := by
  obtain ⟨ba, oa, A1, O1, C1, rfl, G1⟩ := t1.grid s1 n1
  obtain ⟨ba', oa', A2, O2, C2, rfl, G2⟩ := t2.grid s2 n1
  obtain ⟨bb, ob, A3, O3, C3, rfl, G3⟩ := t3.grid s3 m1
  obtain ⟨bb', ob', A4, O4, C4, rfl, G4⟩ := t4.grid s4 m1
  clear t1 t2 t3 t4
  obtain ⟨w0, hw0⟩ : ∃ w0, (((w.alloc (.cells #[.slice (some ⟨ba, oa, none⟩) n c, .slice (some ⟨ba', oa', none⟩) n c'] 53)).alloc (.cells #[.slice (some ⟨bb, ob, none⟩) m d, .slice (some ⟨bb', ob', none⟩) m d'] 53)).alloc (.cells #[.slice none 0 0, .slice none 0 0] 53)).alloc (.cells #[.slice none 0 0, .slice none 0 0] 53) = w0 := ⟨_, rfl⟩
  have HZ0 : Hid (w0.heap.size = w.heap.size + 1 + 1 + 1 + 1) := Lib.hid (by rw [← hw0]; simp)
  have hB : Below w.heap.size w w0 := by rw [← hw0]; exact below_al (below_al (below_al (below_al (Below.refl _ _) _) _) _) _
  have hR : Loc w0 (w.heap.size + 1 + 1) #[.slice none 0 0, .slice none 0 0] 53 := by rw [← hw0]; exact (Loc.new _ (by simp) _ _).alloc _
  have hO : Loc w0 (w.heap.size + 1 + 1 + 1) #[.slice none 0 0, .slice none 0 0] 53 := by rw [← hw0]; exact Loc.new _ (by simp) _ _
  have HW0 := Lib.hid hw0; clear hw0
  have hX0 : Loc w0 (w.heap.size) #[.slice (some ⟨ba, oa, none⟩) n c, .slice (some ⟨ba', oa', none⟩) n c'] 53 := by rw [← HW0.out]; exact (((Loc.new _ (by simp) _ _).alloc _).alloc _).alloc _
  have hX1 : Loc w0 (w.heap.size + 1) #[.slice (some ⟨bb, ob, none⟩) m d, .slice (some ⟨bb', ob', none⟩) m d'] 53 := by rw [← HW0.out]; exact ((Loc.new _ (by simp) _ _).alloc _).alloc _
  obtain ⟨V, hV⟩ : ∃ V : Nat → Nat → Int, V = fun x y => ((tv f (x / m) (y / m) * m + tv g (x % m) (y % m) : Nat) : Int) := ⟨_, rfl⟩
  obtain ⟨U, hU⟩ : ∃ U : Nat → Nat → Int, U = fun x y => ((tv f' (x / m) (y / m) * m + tv g' (x % m) (y % m) : Nat) : Int) := ⟨_, rfl⟩
  have HVE : Hid (∀ x y, V x y = ((tv f (x / m) (y / m) * m + tv g (x % m) (y % m) : Nat) : Int)) := Lib.hid fun x y => by rw [hV]
  have HUE : Hid (∀ x y, U x y = ((tv f' (x / m) (y / m) * m + tv g' (x % m) (y % m) : Nat) : Int)) := Lib.hid fun x y => by rw [hU]
  clear hV hU
  obtain ⟨N, hN⟩ : ∃ N, N = n * m := ⟨_, rfl⟩
  have key : ∀ a b, a < n → b < m → a * m + b < N := fun a b ha hb => by
    have := Nat.mul_le_mul_right m (show a + 1 ≤ n by omega)
    rw [Nat.succ_mul] at this; omega
  have dv : ∀ x, x < N → x / m < n := fun x hx => Nat.div_lt_of_lt_mul (by rw [Nat.mul_comm]; omega)
  have HSV : Hid (Sq N (tabF N V)) := Lib.hid (tabF_sqI fun x y hx hy => by
    rw [HVE.out]
    have := key _ _ (s1.lt (dv x hx) (dv y hy)) (s3.lt (Nat.mod_lt x m1) (Nat.mod_lt y m1)); omega)
  have HSU : Hid (Sq N (tabF N U)) := Lib.hid (tabF_sqI fun x y hx hy => by
    rw [HUE.out]
    have := key _ _ (s2.lt (dv x hx) (dv y hy)) (s4.lt (Nat.mod_lt x m1) (Nat.mod_lt y m1)); omega)
  rw [← hN]
  have hNb : N ≤ 100 * 100 := by rw [hN]; exact Nat.mul_le_mul hn hm
  have hNM : wrap64 ((n : Int) * (m : Int)) = (N : Int) := by rw [show (n : Int) * (m : Int) = ((n * m : Nat) : Int) by push_cast; rfl, ← hN]; unfold wrap64; omega
  have HN := Lib.hid hN
  have HNM := Lib.hid hNM
  clear hN key dv hNM
  have lX0 := hX0.two
  have lX1 := hX1.two
  go_enter Tryz.func172, Tryz.ntmps172
  go_upto_region 1 with fail
  go_quiet (fail)
  go_wp2
  have hlit : (((((w.alloc (.cells #[.slice (some ⟨ba, oa, none⟩) n c, .slice (some ⟨ba', oa', none⟩) n c'] 53)).alloc (.cells #[.slice (some ⟨bb, ob, none⟩) m d, .slice (some ⟨bb', ob', none⟩) m d'] 53)).alloc (.cells #[.slice none 0 0, .slice none 0 0] 53)).drewN nq).alloc (.cells #[.slice none 0 0, .slice none 0 0] 53)) = w0.drewN nq := by rw [← HW0.out]; rfl
  rw [hlit]
  clear hlit
  replace hB := below_drewN hB nq
  replace hO := hO.drewN nq
  replace hR := hR.drewN nq
  replace hX0 := hX0.drewN nq
  replace hX1 := hX1.drewN nq
  generalize w0.drewN nq = w00 at *
  go_loopw [8, 9, 10, 11] (fun i _ _ _ wr => ∃ (k : Nat) (az : Option Addr) (cz : Nat) (vz : List SV) (ay : Option Addr) (cy : Nat) (vy : List SV), k ≤ N ∧ i = .int .i64 k ∧ Loc wr (w.heap.size + 1 + 1 + 1) #[.slice az k cz, .slice ay k cy] 53 ∧ Loc wr (w.heap.size + 1 + 1) #[.slice none 0 0, .slice none 0 0] 53 ∧ OwnT wr w0.heap.size az k cz vz ((tabF N V).take k) ∧ OwnT wr w0.heap.size ay k cy vy ((tabF N U).take k) ∧ ApT az k vz ay k vy ∧ Below w.heap.size w wr ∧ Loc wr (w.heap.size) #[.slice (some ⟨ba, oa, none⟩) n c, .slice (some ⟨ba', oa', none⟩) n c'] 53 ∧ Loc wr (w.heap.size + 1) #[.slice (some ⟨bb, ob, none⟩) m d, .slice (some ⟨bb', ob', none⟩) m d'] 53) (fun i _ _ _ _ => N - (intOf i).toNat)
  case atStart => exact ⟨0, none, 0, [], none, 0, [], Nat.zero_le _, rfl, hO, hR, by simpa using OwnT.nil _ _, by simpa using OwnT.nil _ _, (fun g h _ => by rcases h with h | ⟨i, hi, _⟩; (cases h); omega), hB, hX0, hX1⟩
  case round =>
    clear hR hO hB hX0 hX1
    obtain ⟨k, az, cz, vz, ay, cy, vy, hk, rfl, hO, hR, hz, hy, hap, hB, hX0, hX1⟩ := hrel
    have hOlt := hO.lt
    have hZ0 := HZ0.out
    by_cases hlt : k < N
    · have cik : (k : Int) < wrap64 ((n : Int) * (m : Int)) := by rw [HNM.out]; omega
      obtain ⟨w1, hw1⟩ : ∃ w1, (wr.alloc (.cells #[] 2)).alloc (.cells #[] 2) = w1 := ⟨_, rfl⟩
      have hE1 : Own w1 wr.heap.size (some ⟨wr.heap.size, 0, none⟩) 0 0 [] := by rw [← hw1]; exact (Own.fresh wr rfl).alloc _
      have hE2 : Own w1 wr.heap.size (some ⟨wr.heap.size + 1, 0, none⟩) 0 0 [] := by rw [← hw1]; exact (Own.fresh (wr.alloc (.cells #[] 2)) (by simp)).mono (by simp)
      have hqe : Below wr.heap.size wr w1 := by rw [← hw1]; exact below_al (below_al (Below.refl wr.heap.size wr) _) _
      have HRV := Lib.hid (tabF_succ V hlt)
      have HRU := Lib.hid (tabF_succ U hlt)
      obtain ⟨B, hBB⟩ : ∃ B, B = wr.heap.size := ⟨_, rfl⟩
      go_wp2
      try rw [hw1]
      clear hw1
      go_loopw [9, 10, 11] (fun z y i wq => ∃ (jj : Nat) (ar : Option Addr) (cr : Nat) (as_ : Option Addr) (cs : Nat), jj ≤ N ∧ i = .int .i64 jj ∧ z = .slice ar jj cr ∧ y = .slice as_ jj cs ∧ Own wq B ar jj cr ((List.range jj).map fun y => V k y) ∧ Own wq B as_ jj cs ((List.range jj).map fun y => U k y) ∧ Apr ar as_ ∧ Below wr.heap.size wr wq) (fun _ _ i _ => N - (intOf i).toNat)
      case atStart => exact ⟨0, _, 0, _, 0, Nat.zero_le _, rfl, rfl, rfl, by rw [hBB]; simpa using hE1, by rw [hBB]; simpa using hE2, (fun g e1 e2 => by simp at e1 e2; omega), hqe⟩
      case round =>
        clear hE1 hE2 hqe
        obtain ⟨jj, ar, cr, as_, cs, hj, rfl, rfl, rfl, hor, hos, hpr, hqr⟩ := hrel
        have hwq := hqr.size
        obtain ⟨W, rfl⟩ : ∃ W : World, W = wr := ⟨_, rfl⟩
        by_cases hjt : jj < N
        · have cijj : (jj : Int) < wrap64 ((n : Int) * (m : Int)) := by rw [HNM.out]; omega
          have HV1 : Hid (((List.range (jj + 1)).map fun y => V k y) = ((List.range jj).map fun y => V k y) ++ [V k jj]) := Lib.hid (by simp [List.range_succ])
          have HU1 : Hid (((List.range (jj + 1)).map fun y => U k y) = ((List.range jj).map fun y => U k y) ++ [U k jj]) := Lib.hid (by simp [List.range_succ])
          have HVK := Lib.hid (HVE.out k jj)
          have HUK := Lib.hid (HUE.out k jj)
          have hX0W := hX0.below hqr hX0.lt
          have hX1W := hX1.below hqr hX1.lt
          have hBW := hB.trans (hqr.mono (by have := hB.size; omega))
          have hx0l := hX0W.lt
          have hx1l := hX1W.lt
          have hN9 := HN.out
          have ha1 : k / m < n := Nat.div_lt_of_lt_mul (by rw [Nat.mul_comm]; omega)
          have ha2 : jj / m < n := Nat.div_lt_of_lt_mul (by rw [Nat.mul_comm]; omega)
          have hb1 : k % m < m := Nat.mod_lt _ m1
          have hb2 : jj % m < m := Nat.mod_lt _ m1
          clear hN9
          have l1 := s1.lt ha1 ha2
          have l2 := s2.lt ha1 ha2
          have l3 := s3.lt hb1 hb2
          have l4 := s4.lt hb1 hb2
          obtain ⟨r1, k1⟩ := (G1.below hBW).look ha1 ha2
          obtain ⟨r2, k2⟩ := (G2.below hBW).look ha1 ha2
          obtain ⟨r3, k3⟩ := (G3.below hBW).look hb1 hb2
          obtain ⟨r4, k4⟩ := (G4.below hBW).look hb1 hb2
          have gl2 := G2.lt
          have gl4 := G4.lt
          have gr2 := G2.rlt _ ha1
          have gr4 := G4.rlt _ hb1
          have gl1 := G1.lt
          have gl3 := G3.lt
          have gr1 := G1.rlt _ ha1
          have gr3 := G3.rlt _ hb1
          have hBs := hB.size
          have e1 : Int.tdiv (k : Int) (m : Int) = ((k / m : Nat) : Int) := rfl
          have e2 : Int.tdiv (jj : Int) (m : Int) = ((jj / m : Nat) : Int) := rfl
          have e3 : Int.tmod (k : Int) (m : Int) = ((k % m : Nat) : Int) := rfl
          have e4 : Int.tmod (jj : Int) (m : Int) = ((jj % m : Nat) : Int) := rfl
          have hm1 : tv f (k / m) (jj / m) * m ≤ 100 * 100 := Nat.mul_le_mul (by omega) hm
          have hm2 : tv f' (k / m) (jj / m) * m ≤ 100 * 100 := Nat.mul_le_mul (by omega) hm
          obtain ⟨P1, hP1⟩ : ∃ P, tv f (k / m) (jj / m) * m = P := ⟨_, rfl⟩
          obtain ⟨P2, hP2⟩ : ∃ P, tv f' (k / m) (jj / m) * m = P := ⟨_, rfl⟩
          have HVX : Hid (V k jj = (P1 : Int) + ((tv g (k % m) (jj % m) : Nat) : Int)) := Lib.hid (by rw [HVK.out, hP1]; push_cast; rfl)
          have HUX : Hid (U k jj = (P2 : Int) + ((tv g' (k % m) (jj % m) : Nat) : Int)) := Lib.hid (by rw [HUK.out, hP2]; push_cast; rfl)
          have f1 : ((tv f (k / m) (jj / m) : Nat) : Int) * (m : Int) = (P1 : Int) := by rw [← hP1]; push_cast; rfl
          have f2 : ((tv f' (k / m) (jj / m) : Nat) : Int) * (m : Int) = (P2 : Int) := by rw [← hP2]; push_cast; rfl
          rw [hP1] at hm1
          rw [hP2] at hm2
          have hPb1 : P1 ≤ 1000000 := by omega
          have hPb2 : P2 ≤ 1000000 := by omega
          have hxb3 : tv g (k % m) (jj % m) ≤ 1000000 := by omega
          have hxb4 : tv g' (k % m) (jj % m) ≤ 1000000 := by omega
          have hab1 : k / m ≤ 1000000 := by omega
          have hab2 : jj / m ≤ 1000000 := by omega
          have hab3 : k % m ≤ 1000000 := by omega
          have hab4 : jj % m ≤ 1000000 := by omega
          have hXB : w.heap.size + 1 < B := by have := hX1.lt; omega
          have hl1 : ba < B := by omega
          have hl3 : bb < B := by omega
          have hr1 : A1 (k / m) < B := by omega
          have hr3 : A3 (k % m) < B := by omega
          have hl2 : ba' < B := by omega
          have hl4 : bb' < B := by omega
          have hr2 : A2 (k / m) < B := by omega
          have hr4 : A4 (k % m) < B := by omega
          have hBsz : B ≤ W.heap.size := by omega
          have hjb : jj + 1 ≤ 1000000000000 := by omega
          have hz1 : ¬ (m : Int) = 0 := by omega
          have hz2 : ((m : Int) == 0) = false := by simpa using hz1
          have hm0 : ¬ m = 0 := by omega
          have q1 : ((k / m : Nat) : Int) < (n : Int) := by omega
          have q2 : ((jj / m : Nat) : Int) < (n : Int) := by omega
          have q3 : ((k % m : Nat) : Int) < (m : Int) := by omega
          have q4 : ((jj % m : Nat) : Int) < (m : Int) := by omega
          have y1 : (0 : Int) ≤ ((k / m : Nat) : Int) := Int.natCast_nonneg _
          have y2 : (0 : Int) ≤ ((jj / m : Nat) : Int) := Int.natCast_nonneg _
          have y3 : (0 : Int) ≤ ((k % m : Nat) : Int) := Int.natCast_nonneg _
          have y4 : (0 : Int) ≤ ((jj % m : Nat) : Int) := Int.natCast_nonneg _
          clear HVK HUK hP1 hP2 hm1 hm2
          generalize k / m = p1 at *
          generalize jj / m = p2 at *
          generalize k % m = p3 at *
          generalize jj % m = p4 at *
          generalize tv f p1 p2 = x1 at *
          generalize tv f' p1 p2 = x2 at *
          generalize tv g p3 p4 = x3 at *
          generalize tv g' p3 p4 = x4 at *
          have MC1 := Lib.hid (show wrap64 ((x1 : Int) * (m : Int)) = (P1 : Int) by rw [f1]; exact wrap_n6 hPb1)
          have MC2 := Lib.hid (show wrap64 ((x2 : Int) * (m : Int)) = (P2 : Int) by rw [f2]; exact wrap_n6 hPb2)
          have MC3 := Lib.hid (show IntKind.i64.wrap ((x1 : Int) * (m : Int)) = (P1 : Int) by rw [f1]; exact wrap_nn hPb1)
          have MC4 := Lib.hid (show IntKind.i64.wrap ((x2 : Int) * (m : Int)) = (P2 : Int) by rw [f2]; exact wrap_nn hPb2)
          have v1 : IntKind.i64.wrap (p1 : Int) = (p1 : Int) := wrap_nn hab1
          have v2 : IntKind.i64.wrap (p2 : Int) = (p2 : Int) := wrap_nn hab2
          have v3 : IntKind.i64.wrap (p3 : Int) = (p3 : Int) := wrap_nn hab3
          have v4 : IntKind.i64.wrap (p4 : Int) = (p4 : Int) := wrap_nn hab4
          have V5 := Lib.hid (wrap_ad hPb1 hxb3)
          have V6 := Lib.hid (wrap_ad hPb2 hxb4)
          have R2 := Lib.hid r2
          have K2 := Lib.hid k2
          have R4 := Lib.hid r4
          have K4 := Lib.hid k4
          clear f1 f2 hab1 hab2 hab3 hab4 hxb3 hxb4 r2 k2 r4 k4 l1 l2 l3 l4 ha1 ha2 hb1 hb2
          rw [HVX.out] at HV1
          rw [HUX.out] at HU1
          clear HVX HUX
          have lX0 := hX0W.two
          have lX1 := hX1W.two
          have hordr := hor.drewN 1
          have c1 := MC1.out
          have c3 := MC3.out
          have v5 := V5.out
          clear G1 G2 G3 G4 hR hO hz hy hap hB hOlt hZ0 hx0l hx1l hn hm hNb hk hBW hPb1 hPb2
          go_upto_region 10 with fail
          go_region_held_law (fun w' => w'.cell? ⟨w.heap.size, 0, none⟩ = some (.slice (some ⟨ba, oa, none⟩) n c) ∧ w'.cell? ⟨w.heap.size + 1, 0, none⟩ = some (.slice (some ⟨bb, ob, none⟩) m d) ∧ w'.cell? ⟨ba, oa + p1, none⟩ = some (.slice (some ⟨A1 p1, O1 p1, none⟩) n (C1 p1)) ∧ w'.cell? ⟨A1 p1, O1 p1 + p2, none⟩ = some (.int .i64 x1) ∧ w'.cell? ⟨bb, ob + p3, none⟩ = some (.slice (some ⟨A3 p3, O3 p3, none⟩) m (C3 p3)) ∧ w'.cell? ⟨A3 p3, O3 p3 + p4, none⟩ = some (.int .i64 x3)) (first | exact lP | exact ⟨lX0.1, lX1.1, r1, k1, r3, k3⟩ | go_keep) (first | (refine step_app1hn rfl rfl hordr rfl rfl hjb hBsz ?_; intro g' cc w9 hO8 hg8 hat8 hb8; have lP : (fun w' => w'.cell? ⟨w.heap.size, 0, none⟩ = some (.slice (some ⟨ba, oa, none⟩) n c) ∧ w'.cell? ⟨w.heap.size + 1, 0, none⟩ = some (.slice (some ⟨bb, ob, none⟩) m d) ∧ w'.cell? ⟨ba, oa + p1, none⟩ = some (.slice (some ⟨A1 p1, O1 p1, none⟩) n (C1 p1)) ∧ w'.cell? ⟨A1 p1, O1 p1 + p2, none⟩ = some (.int .i64 x1) ∧ w'.cell? ⟨bb, ob + p3, none⟩ = some (.slice (some ⟨A3 p3, O3 p3, none⟩) m (C3 p3)) ∧ w'.cell? ⟨A3 p3, O3 p3 + p4, none⟩ = some (.int .i64 x3)) w9 := ⟨(hb8.cell (p := ⟨w.heap.size, 0, none⟩) (by show w.heap.size < B; omega)).trans lX0.1, (hb8.cell (p := ⟨w.heap.size + 1, 0, none⟩) hXB).trans lX1.1, (hb8.cell (p := ⟨ba, oa + p1, none⟩) hl1).trans r1, (hb8.cell (p := ⟨A1 p1, O1 p1 + p2, none⟩) hr1).trans k1, (hb8.cell (p := ⟨bb, ob + p3, none⟩) hl3).trans r3, (hb8.cell (p := ⟨A3 p3, O3 p3 + p4, none⟩) hr3).trans k3⟩))
          all_goals
            have hosdr := hos.drewN 1
            have hos8 := hosdr.beside hordr hpr.symm hg8
            have hpr8 := hosdr.apart hordr hpr.symm hat8
            have hs8 : B ≤ w9.heap.size := Nat.le_trans hBsz hb8.size
            have hX0e := (hX0W.drewN 1).below hb8 (by omega)
            have hX1e := (hX1W.drewN 1).below hb8 (by omega)
            have r2 := (hb8.cell (p := ⟨ba', oa' + p1, none⟩) hl2).trans R2.out
            have k2 := (hb8.cell (p := ⟨A2 p1, O2 p1 + p2, none⟩) hr2).trans K2.out
            have r4 := (hb8.cell (p := ⟨bb', ob' + p3, none⟩) hl4).trans R4.out
            have k4 := (hb8.cell (p := ⟨A4 p3, O4 p3 + p4, none⟩) hr4).trans K4.out
            have c2 := MC2.out
            have c4 := MC4.out
            have v6 := V6.out
            have hq8 := (below_drewN hqr 1).trans (hb8.mono (by omega))
            clear c1 c3 v5 r1 k1 r3 k3 lX0 lX1 hX0W hX1W hor hos hordr hosdr hg8 hat8
            have lX0 := hX0e.two
            have lX1 := hX1e.two
            have hosd := hos8.drewN 1
            go_upto_region 11 with fail
            go_region_held_law (fun w' => w'.cell? ⟨w.heap.size, 1, none⟩ = some (.slice (some ⟨ba', oa', none⟩) n c') ∧ w'.cell? ⟨w.heap.size + 1, 1, none⟩ = some (.slice (some ⟨bb', ob', none⟩) m d') ∧ w'.cell? ⟨ba', oa' + p1, none⟩ = some (.slice (some ⟨A2 p1, O2 p1, none⟩) n (C2 p1)) ∧ w'.cell? ⟨A2 p1, O2 p1 + p2, none⟩ = some (.int .i64 x2) ∧ w'.cell? ⟨bb', ob' + p3, none⟩ = some (.slice (some ⟨A4 p3, O4 p3, none⟩) m (C4 p3)) ∧ w'.cell? ⟨A4 p3, O4 p3 + p4, none⟩ = some (.int .i64 x4)) (first | exact lQ | exact ⟨lX0.2.1, lX1.2.1, r2, k2, r4, k4⟩ | go_keep) (first | (refine step_app1hn rfl rfl hosd rfl rfl hjb hs8 ?_; intro g9 cc9 v9 hO9 hg9 hat9 hb9; have lQ : (fun w' => w'.cell? ⟨w.heap.size, 1, none⟩ = some (.slice (some ⟨ba', oa', none⟩) n c') ∧ w'.cell? ⟨w.heap.size + 1, 1, none⟩ = some (.slice (some ⟨bb', ob', none⟩) m d') ∧ w'.cell? ⟨ba', oa' + p1, none⟩ = some (.slice (some ⟨A2 p1, O2 p1, none⟩) n (C2 p1)) ∧ w'.cell? ⟨A2 p1, O2 p1 + p2, none⟩ = some (.int .i64 x2) ∧ w'.cell? ⟨bb', ob' + p3, none⟩ = some (.slice (some ⟨A4 p3, O4 p3, none⟩) m (C4 p3)) ∧ w'.cell? ⟨A4 p3, O4 p3 + p4, none⟩ = some (.int .i64 x4)) v9 := ⟨(hb9.cell (p := ⟨w.heap.size, 1, none⟩) (by show w.heap.size < B; omega)).trans lX0.2.1, (hb9.cell (p := ⟨w.heap.size + 1, 1, none⟩) hXB).trans lX1.2.1, (hb9.cell (p := ⟨ba', oa' + p1, none⟩) hl2).trans r2, (hb9.cell (p := ⟨A2 p1, O2 p1 + p2, none⟩) hr2).trans k2, (hb9.cell (p := ⟨bb', ob' + p3, none⟩) hl4).trans r4, (hb9.cell (p := ⟨A4 p3, O4 p3 + p4, none⟩) hr4).trans k4⟩))
            all_goals
              have hor9 := (hO8.drewN 1).beside hosd hpr8.symm hg9
              have hpr9 := (hO8.drewN 1).apart hosd hpr8.symm hat9
              have hq9 := (below_drewN hq8 1).trans (hb9.mono (by omega))
              go_wp2
              go_roundw
              case rel => exact ⟨jj + 1, _, _, _, _, by omega, by go_num, rfl, rfl, by rw [HV1.out]; exact hor9, by rw [HU1.out]; exact hO9, hpr9, hq9⟩
              case measure => simp [intOf]; omega
        · have cojj : ¬ (jj : Int) < wrap64 ((n : Int) * (m : Int)) := by rw [HNM.out]; omega
          obtain rfl : jj = N := by omega
          have hO3 := hO.below hqr hO.lt
          have hR3 := hR.below hqr hR.lt
          have lO := hO3.two
          have hz3 := hz.below hqr
          have hy3 := hy.below hqr
          have hB3 := hB.trans (hqr.mono (by have := hB.size; omega))
          have hX03 := hX0.below hqr hX0.lt
          have hX13 := hX1.below hqr hX1.lt
          have hzhi := hz.uHi
          have hyhi := hy.uHi
          have hrlo := hor.lo
          have hrhi := hor.hi
          have hslo := hos.lo
          have hshi := hos.hi
          have hB0s := hO3.lt
          clear hO hR hz hy hB
          go_upto_region 13 with (at_builtin; refine appT1g rfl rfl hz3 rfl (hor.mono (by omega)) (fun g h1 h2 => by have h3 := hzhi _ (.inl h1); have h4 := hrlo _ h2; omega) (fun i hi g h1 h2 => by have h3 := hrlo _ h1; have h4 := hzhi _ (.inr ⟨i, hi, h2⟩); omega) rfl (by omega) (by omega) ?_; intro g6 cc6 w6 hOT6 hg6 hat6 hb6; have hO6 := hO3.below hb6 (by omega); have lO6 := hO6.two)
          have hvl := hz3.vlen
          have hy6 := hz3.other hy3 hap hg6
          have hap6 := ApT.snoc hz3 hy3 hap (v := (ar, jj, cr)) hvl hat6 (fun q h1 h2 => by have h3 := hrlo _ h1; have h4 := hyhi _ h2; omega)
          have hos6 := hos.grown hg6 (fun g h1 h2 => by have h3 := hslo _ h1; have h4 := hzhi _ (hz3.ownBlk h2.symm); omega)
          have hsz6 := hg6.size
          have hB6 := hB3.trans (hb6.mono (by omega))
          have hR6 := hR3.below hb6 (by omega)
          have hz7 := hOT6.setlo (p := ⟨w.heap.size + 1 + 1 + 1, 0, none⟩) (by show w.heap.size + 1 + 1 + 1 < w0.heap.size; omega) (.slice (some ⟨g6, 0, none⟩) (k + 1) cc6)
          have hy7 := hy6.setlo (p := ⟨w.heap.size + 1 + 1 + 1, 0, none⟩) (by show w.heap.size + 1 + 1 + 1 < w0.heap.size; omega) (.slice (some ⟨g6, 0, none⟩) (k + 1) cc6)
          have hos7 := (hos6.mono (lo' := w0.heap.size) (by omega)).setlo (p := ⟨w.heap.size + 1 + 1 + 1, 0, none⟩) (by show w.heap.size + 1 + 1 + 1 < w0.heap.size; omega) (.slice (some ⟨g6, 0, none⟩) (k + 1) cc6)
          have hO7 := hO6.set 0 (.slice (some ⟨g6, 0, none⟩) (k + 1) cc6)
          have hR7 := hR6.setne (a := ⟨w.heap.size + 1 + 1 + 1, 0, none⟩) (by show w.heap.size + 1 + 1 ≠ w.heap.size + 1 + 1 + 1; omega) (.slice (some ⟨g6, 0, none⟩) (k + 1) cc6)
          have hB7 := below_setne (a := ⟨w.heap.size + 1 + 1 + 1, 0, none⟩) hB6 (by show w.heap.size ≤ w.heap.size + 1 + 1 + 1; omega) (.slice (some ⟨g6, 0, none⟩) (k + 1) cc6)
          have hX07 := (hX03.below hb6 (by omega)).setne (a := ⟨w.heap.size + 1 + 1 + 1, 0, none⟩) (by show w.heap.size ≠ w.heap.size + 1 + 1 + 1; omega) (.slice (some ⟨g6, 0, none⟩) (k + 1) cc6)
          have hX17 := (hX13.below hb6 (by omega)).setne (a := ⟨w.heap.size + 1 + 1 + 1, 0, none⟩) (by show w.heap.size + 1 ≠ w.heap.size + 1 + 1 + 1; omega) (.slice (some ⟨g6, 0, none⟩) (k + 1) cc6)
          have hsz7 : (w6.setCell ⟨w.heap.size + 1 + 1 + 1, 0, none⟩ (.slice (some ⟨g6, 0, none⟩) (k + 1) cc6)).heap.size = w6.heap.size := size_set _ _ _
          simp only [Array.setIfInBounds, List.size_toArray, List.length_cons, List.length_nil, Nat.zero_add, Nat.lt_add_one, Nat.reduceAdd, Nat.reduceLT, dif_pos, Nat.zero_lt_succ] at hO7
          have hvl7 := hy7.vlen
          have lO7 := hO7.two
          have HSZ := Lib.hid hsz7
          have hlo7 : w0.heap.size ≤ (w6.setCell ⟨w.heap.size + 1 + 1 + 1, 0, none⟩ (.slice (some ⟨g6, 0, none⟩) (k + 1) cc6)).heap.size := by rw [hsz7]; omega
          have hyz : ∀ g, TblS ay k vy g → ∀ q, as_ = some ⟨q, 0, none⟩ → q ≠ g := fun g h1 q h2 e => by have h3 := hslo _ h2; have h4 := hyhi _ h1; omega
          have hrz : ∀ q, as_ = some ⟨q, 0, none⟩ → ¬ TblS (some ⟨g6, 0, none⟩) (k + 1) (vz ++ [(ar, jj, cr)]) q := fun q h2 h1 => by
            have k1 := hslo _ h2
            have k2 := hshi _ h2
            rcases h1 with e | ⟨i, hi, e⟩
            · cases e
              rcases hat6 with e | e
              · have := hzhi _ (hz3.ownBlk e); omega
              · omega
            · by_cases hik : i < k
              · have e2 : (vz ++ [(ar, jj, cr)]).getD i svO = vz.getD i svO := by simp [List.getD_eq_getElem?_getD, List.getElem?_append_left (show i < vz.length by omega)]
                rw [e2] at e
                have := hzhi _ (.inr ⟨i, hik, e⟩); omega
              · have e2 : i = vz.length := by omega
                have e3 : (vz ++ [(ar, jj, cr)]).getD i svO = (ar, jj, cr) := by rw [e2]; simp [List.getD_eq_getElem?_getD]
                rw [e3] at e
                exact hpr _ e h2
          clear hsz7 hO6 lO6 hB6 hB3 hO3 lO hR3 hR6 hz3 hy3
          generalize w6.setCell ⟨w.heap.size + 1 + 1 + 1, 0, none⟩ (.slice (some ⟨g6, 0, none⟩) (k + 1) cc6) = w7 at *
          go_wp2_with (at_builtin; refine appT1g rfl rfl hy7 rfl hos7 (fun g h1 h2 => hyz _ (.inl h1) _ h2 rfl) (fun i hi g h1 h2 => hyz _ (.inr ⟨i, hi, h2⟩) _ h1 rfl) rfl (by omega) hlo7 ?_; intro g9 cc9 w9 hOT9 hg9 hat9 hb9; have hO9 := hO7.below hb9 (by omega); have lO9 := hO9.two)
          have hz9 := hy7.other hz7 hap6.symm hg9
          have hap9 := (ApT.snoc hy7 hz7 hap6.symm (v := (as_, jj, cs)) hvl7 hat9 hrz).symm
          have hO10 := hO9.set 1 (.slice (some ⟨g9, 0, none⟩) (k + 1) cc9)
          have hR9 := (hR7.below hb9 (by omega)).setne (a := ⟨w.heap.size + 1 + 1 + 1, 1, none⟩) (by show w.heap.size + 1 + 1 ≠ w.heap.size + 1 + 1 + 1; omega) (.slice (some ⟨g9, 0, none⟩) (k + 1) cc9)
          have hB9 := below_setne (a := ⟨w.heap.size + 1 + 1 + 1, 1, none⟩) (hB7.trans (hb9.mono (by omega))) (by show w.heap.size ≤ w.heap.size + 1 + 1 + 1; omega) (.slice (some ⟨g9, 0, none⟩) (k + 1) cc9)
          have hX09 := (hX07.below hb9 (by omega)).setne (a := ⟨w.heap.size + 1 + 1 + 1, 1, none⟩) (by show w.heap.size ≠ w.heap.size + 1 + 1 + 1; omega) (.slice (some ⟨g9, 0, none⟩) (k + 1) cc9)
          have hX19 := (hX17.below hb9 (by omega)).setne (a := ⟨w.heap.size + 1 + 1 + 1, 1, none⟩) (by show w.heap.size + 1 ≠ w.heap.size + 1 + 1 + 1; omega) (.slice (some ⟨g9, 0, none⟩) (k + 1) cc9)
          go_roundw
          case rel => exact ⟨k + 1, _, _, _, _, _, _, by omega, by go_num, hO10, hR9, by rw [HRV.out]; exact hz9.setlo (by show w.heap.size + 1 + 1 + 1 < w0.heap.size; omega) _, by rw [HRU.out]; exact hOT9.setlo (by show w.heap.size + 1 + 1 + 1 < w0.heap.size; omega) _, hap9, hB9, hX09, hX19⟩
          case measure => simp [intOf]; omega
    · have cok : ¬ (k : Int) < wrap64 ((n : Int) * (m : Int)) := by rw [HNM.out]; omega
      obtain rfl : k = N := by omega
      rw [List.take_of_length_le (by rw [tabF_len]; exact Nat.le_refl _)] at hz hy
      have lO := hO.two
      have lR := hR.two
      go_wp2
      refine bodyPost_ret (v := sAgg az k cz ay k cy) (by simp [results, Tryz.results172, go_sem, lR, lO]) rfl ⟨az, cz, vz, _, ay, cy, vy, _, rfl, ⟨?_, ?_, hap⟩, HSV.out, HSU.out, ?_⟩
      · exact ((hz.setlo (by show w.heap.size + 1 + 1 < w0.heap.size; omega) _).setlo (by show w.heap.size + 1 + 1 < w0.heap.size; omega) _).mono (by omega)
      · exact ((hy.setlo (by show w.heap.size + 1 + 1 < w0.heap.size; omega) _).setlo (by show w.heap.size + 1 + 1 < w0.heap.size; omega) _).mono (by omega)
      · exact below_setne (below_setne hB (by show w.heap.size ≤ w.heap.size + 1 + 1; omega) _) (by show w.heap.size ≤ w.heap.size + 1 + 1; omega) _
theorem wrap_a6 {P x : Nat} (h : P ≤ 10000) (h2 : x ≤ 10000) : wrap64 ((P : Int) + (x : Int)) = (P : Int) + (x : Int) := IntWalk.wrap64_in _ (by omega)
def IsBo (e : Ending) : Prop := ∃ q, e = .returned (.bool q)
def SqB (w : World) (n : Nat) (e : Ending) (w' : World) : Prop :=
  ∃ (a : Option Addr) (c : Nat) (vs : List SV) (t : List (List Int)), e = .returned (.slice a n c) ∧ OwnT w' w.heap.size a n c vs t ∧ Sq n t ∧ Below w.heap.size w w'
set_option maxHeartbeats 4000000 in
theorem l03Alexander_any (n a b : Nat) (w : World) (n1 : 1 ≤ n) (hn : n ≤ 100) (ha : a ≤ 100) (hb : b ≤ 100) :
    Calls Tryz.prog 156 #[.int .i64 n, .int .i64 a, .int .i64 b] w (SqB w n) := by
  obtain ⟨V, hV⟩ : ∃ V : Nat → Nat → Int, V = fun x y => (((b * x + a * y) % n : Nat) : Int) := ⟨_, rfl⟩
  have HVE : Hid (∀ x y, V x y = (((b * x + a * y) % n : Nat) : Int)) := Lib.hid fun x y => by rw [hV]
  have HSV : Hid (Sq n (tabF n V)) := Lib.hid (tabF_sqI fun x y hx hy => by
    rw [HVE.out]; have := Nat.mod_lt (b * x + a * y) (show n > 0 by omega); omega)
  clear hV
  have hO := OwnT.fresh w rfl
  have hB := below_al (Below.refl w.heap.size w) (.cells #[] 41)
  go_enter Tryz.func156, Tryz.ntmps156
  go_wp2
  go_loopw [7, 8, 9, 10] (fun z i _ _ wr => ∃ (k : Nat) (az : Option Addr) (cz : Nat) (vz : List SV), k ≤ n ∧ i = .int .i64 k ∧ z = .slice az k cz ∧ OwnT wr w.heap.size az k cz vz ((tabF n V).take k) ∧ Below w.heap.size w wr) (fun _ i _ _ _ => n - (intOf i).toNat)
  case atStart => exact ⟨0, _, 0, _, Nat.zero_le _, rfl, rfl, by simpa using hO, hB⟩
  case round =>
    clear hO hB
    obtain ⟨k, az, cz, vz, hk, rfl, rfl, ho, hb'⟩ := hrel
    by_cases hlt : k < n
    · have HRV := Lib.hid (tabF_succ V hlt)
      have hE := Own.fresh wr rfl
      have hqe := below_al (Below.refl wr.heap.size wr) (.cells #[] 2)
      go_wp2
      go_loopw [9, 10] (fun z i wq => ∃ (j : Nat) (ar : Option Addr) (cr : Nat), j ≤ n ∧ i = .int .i64 j ∧ z = .slice ar j cr ∧ Own wq wr.heap.size ar j cr ((List.range j).map fun y => V k y) ∧ Below wr.heap.size wr wq) (fun _ i _ => n - (intOf i).toNat)
      case atStart => exact ⟨0, _, 0, Nat.zero_le _, rfl, rfl, by simpa using hE, hqe⟩
      case round =>
        clear hE hqe
        obtain ⟨j, ar, cr, hj, rfl, rfl, hor, hqr⟩ := hrel
        have hwq := hqr.size
        obtain ⟨W, rfl⟩ : ∃ W : World, W = wr := ⟨_, rfl⟩
        by_cases hjt : j < n
        · have HV1 : Hid (((List.range (j + 1)).map fun y => V k y) = ((List.range j).map fun y => V k y) ++ [V k j]) := Lib.hid (by simp [List.range_succ])
          have hm1 : b * k ≤ 100 * 100 := Nat.mul_le_mul hb (by omega)
          have hm2 : a * j ≤ 100 * 100 := Nat.mul_le_mul ha (by omega)
          have hve := HVE.out k j
          obtain ⟨P, hP⟩ : ∃ P, b * k = P := ⟨_, rfl⟩
          obtain ⟨Q, hQ⟩ : ∃ Q, a * j = Q := ⟨_, rfl⟩
          rw [hP, hQ] at hve
          have f1 : (b : Int) * (k : Int) = (P : Int) := by rw [← hP]; push_cast; rfl
          have f2 : (a : Int) * (j : Int) = (Q : Int) := by rw [← hQ]; push_cast; rfl
          rw [hP] at hm1
          rw [hQ] at hm2
          have hPQ : P ≤ 10000 ∧ Q ≤ 10000 := by omega
          have e1 : Int.tmod ((P : Int) + (Q : Int)) (n : Int) = V k j := by rw [hve]; rfl
          have hvb : 0 ≤ V k j ∧ V k j < n := by rw [hve]; have := Nat.mod_lt (P + Q) (show n > 0 by omega); omega
          have hz1 : ¬ (n : Int) = 0 := by omega
          have hz2 : ((n : Int) == 0) = false := by simpa using hz1
          have c1 : wrap64 ((b : Int) * (k : Int)) = (P : Int) := by rw [f1]; exact wrap_n6 (by omega)
          have c2 : wrap64 ((a : Int) * (j : Int)) = (Q : Int) := by rw [f2]; exact wrap_n6 (by omega)
          have c5 : wrap64 ((P : Int) + (Q : Int)) = (P : Int) + (Q : Int) := wrap_a6 hPQ.1 hPQ.2
          clear hP hQ hm1 hm2 f1 f2 hve hPQ
          generalize V k j = v at *
          go_wp2_with (at_builtin; refine app1 rfl rfl hor rfl rfl (by omega) hwq ?_; intro g' cc w8 hO8 hg8 hs8 hb8)
          go_roundw
          case rel => exact ⟨j + 1, _, _, by omega, by go_num, rfl, by rw [HV1.out]; exact hO8, hqr.trans hb8⟩
          case measure => simp [intOf]; omega
        · obtain rfl : j = n := by omega
          have hbb := hb'.size
          have hz1 := ho.below hqr
          have hq1 := hb'.trans (hqr.mono hbb)
          go_wp2_with (at_builtin; refine appT1 rfl rfl hz1 rfl (hor.mono hbb) (fun g h1 h2 => by have h3 := ho.high _ h1; have h4 := hor.lo _ h2; omega) (fun i hi g h1 h2 => by have h3 := hor.lo _ h1; have h4 := (ho.row i hi).hi _ h2; omega) rfl (by omega) (by omega) ?_; intro g' cc w2 hO hb2)
          go_roundw
          case rel => exact ⟨k + 1, _, _, _, by omega, by go_num, rfl, by rw [HRV.out]; exact hO, hq1.trans hb2⟩
          case measure => simp [intOf]; omega
    · obtain rfl : k = n := by omega
      rw [List.take_of_length_le (by rw [tabF_len]; exact Nat.le_refl _)] at ho
      go_wp2
      go_ret
      exact ⟨_, _, vz, _, rfl, ho, HSV.out, hb'⟩
set_option maxHeartbeats 4000000 in
theorem l03Coprime_any (a n : Nat) (w : World) (ha : a ≤ 100) (hn : n ≤ 100) :
    Calls Tryz.prog 157 #[.int .i64 a, .int .i64 n] w fun e w' => IsBo e ∧ w' = w := by
  go_enter Tryz.func157, Tryz.ntmps157
  go_wp2
  go_loop [5] (fun i => ∃ d : Nat, 2 ≤ d ∧ d ≤ 200 ∧ i = .int .i64 d) (fun i => n + 1 - (intOf i).toNat)
  case atStart => exact ⟨2, by omega, by omega, rfl⟩
  case round =>
    obtain ⟨d, hd2, hd, rfl⟩ := hrel
    by_cases hlt : d ≤ n
    · have hz1 : ¬ (d : Int) = 0 := by omega
      have hz2 : ((d : Int) == 0) = false := by simpa using hz1
      have hz3 : ¬ d = 0 := by omega
      have i1 : (d : Int) ≤ (n : Int) := by omega
      have e1 : Int.tmod (a : Int) (d : Int) = ((a % d : Nat) : Int) := rfl
      have e2 : Int.tmod (n : Int) (d : Int) = ((n % d : Nat) : Int) := rfl
      have b1 : a % d ≤ 100 := Nat.le_trans (Nat.mod_le _ _) ha
      have b2 : n % d ≤ 100 := Nat.le_trans (Nat.mod_le _ _) hn
      generalize a % d = u at *
      generalize n % d = v at *
      by_cases hu : u = 0
      · subst hu
        by_cases hv : v = 0
        · subst hv
          go_wp2
          go_ret
          exact ⟨⟨_, rfl⟩, rfl⟩
        · have hv2 : ((v : Int) == 0) = false := by simpa using hv
          have hv3 : ¬ (v : Int) = 0 := by omega
          go_wp2
          go_round
          case rel => exact ⟨d + 1, by omega, by omega, by go_num⟩
          case measure => simp [intOf]; omega
      · have hv2 : ((u : Int) == 0) = false := by simpa using hu
        have hv3 : ¬ (u : Int) = 0 := by omega
        go_wp2
        go_round
        case rel => exact ⟨d + 1, by omega, by omega, by go_num⟩
        case measure => simp [intOf]; omega
    · have i1 : ¬ (d : Int) ≤ (n : Int) := by omega
      go_wp2
      go_ret
      exact ⟨⟨_, rfl⟩, rfl⟩
end Go.Proofs.YtaddclaadbjnlaaGreat
