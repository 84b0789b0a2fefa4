/-
  Walks and plain laws of this seat, some texts in one.
  No condition but bounds on lengths.
-/
import Derived.Test.YtaddclaadbjnlaaGreatPs8
import Derived.Deep.DeepCutAuto
namespace Go.Proofs.YtaddclaadbjnlaaGreat
set_option linter.unusedVariables false
set_option linter.unusedSimpArgs false
set_option maxRecDepth 100000
open Go.RowKit
set_option maxHeartbeats 16000000 in
theorem l02Union_any (a a' b b' : Option Addr) (n m c c' d d' : Nat) (f f' g g' : List (List Int)) (w : World) (t1 : Tbl w a n f) (t2 : Tbl w a' n f') (t3 : Tbl w b m g) (t4 : Tbl w b' m g') (s1 : Sq n f) (s2 : Sq n f') (s3 : Sq m g) (s4 : Sq m g') (n1 : 1 ≤ n) (m1 : 1 ≤ m) (hn : n ≤ 100) (hm : m ≤ 100) :
    Calls Tryz.prog 174 #[sAgg a n c a' n c', sAgg b m d b' m d'] w (SolB w (n + m)) := by
  obtain ⟨ba, oa, A1, O1, C1, rfl, G1⟩ := t1.grid s1 n1
  obtain ⟨ba', oa', A2, O2, C2, rfl, G2⟩ := t2.grid s2 n1
  obtain ⟨bb, ob, A3, O3, C3, rfl, G3⟩ := t3.grid s3 m1
  obtain ⟨bb', ob', A4, O4, C4, rfl, G4⟩ := t4.grid s4 m1
  clear t1 t2 t3 t4
  obtain ⟨w0, hw0⟩ : ∃ w0, (((w.alloc (.cells #[.slice (some ⟨ba, oa, none⟩) n c, .slice (some ⟨ba', oa', none⟩) n c'] 53)).alloc (.cells #[.slice (some ⟨bb, ob, none⟩) m d, .slice (some ⟨bb', ob', none⟩) m d'] 53)).alloc (.cells #[.slice none 0 0, .slice none 0 0] 53)).alloc (.cells #[.slice none 0 0, .slice none 0 0] 53) = w0 := ⟨_, rfl⟩
  have HZ0 : Hid (w0.heap.size = w.heap.size + 1 + 1 + 1 + 1) := Lib.hid (by rw [← hw0]; simp)
  have hB : Below w.heap.size w w0 := by rw [← hw0]; exact below_al (below_al (below_al (below_al (Below.refl _ _) _) _) _) _
  have hR : Loc w0 (w.heap.size + 1 + 1) #[.slice none 0 0, .slice none 0 0] 53 := by rw [← hw0]; exact (Loc.new _ (by simp) _ _).alloc _
  have hO : Loc w0 (w.heap.size + 1 + 1 + 1) #[.slice none 0 0, .slice none 0 0] 53 := by rw [← hw0]; exact Loc.new _ (by simp) _ _
  have HW0 := Lib.hid hw0; clear hw0
  have hX0 : Loc w0 (w.heap.size) #[.slice (some ⟨ba, oa, none⟩) n c, .slice (some ⟨ba', oa', none⟩) n c'] 53 := by rw [← HW0.out]; exact (((Loc.new _ (by simp) _ _).alloc _).alloc _).alloc _
  have hX1 : Loc w0 (w.heap.size + 1) #[.slice (some ⟨bb, ob, none⟩) m d, .slice (some ⟨bb', ob', none⟩) m d'] 53 := by rw [← HW0.out]; exact ((Loc.new _ (by simp) _ _).alloc _).alloc _
  obtain ⟨V, hV⟩ : ∃ V : Nat → Nat → Int, V = fun x y => if x < n ∧ y < n then ((tv f x y : Nat) : Int) else if ¬ x < n ∧ ¬ y < n then ((tv g (x - n) (y - n) + n : Nat) : Int) else (y : Int) := ⟨_, rfl⟩
  obtain ⟨U, hU⟩ : ∃ U : Nat → Nat → Int, U = fun x y => if x < n ∧ y < n then ((tv f' x y : Nat) : Int) else if ¬ x < n ∧ ¬ y < n then ((tv g' (x - n) (y - n) + n : Nat) : Int) else (x : Int) := ⟨_, rfl⟩
  have HVE : Hid (∀ x y, V x y = if x < n ∧ y < n then ((tv f x y : Nat) : Int) else if ¬ x < n ∧ ¬ y < n then ((tv g (x - n) (y - n) + n : Nat) : Int) else (y : Int)) := Lib.hid fun x y => by rw [hV]
  have HUE : Hid (∀ x y, U x y = if x < n ∧ y < n then ((tv f' x y : Nat) : Int) else if ¬ x < n ∧ ¬ y < n then ((tv g' (x - n) (y - n) + n : Nat) : Int) else (x : Int)) := Lib.hid fun x y => by rw [hU]
  clear hV hU
  obtain ⟨N, hN⟩ : ∃ N, N = n + m := ⟨_, rfl⟩
  have HSV : Hid (Sq N (tabF N V)) := Lib.hid (tabF_sqI fun x y hx hy => by
    rw [HVE.out]
    split
    · rename_i h; have := s1.lt h.1 h.2; omega
    · split
      · have := s3.lt (x := x - n) (y := y - n) (by omega) (by omega); omega
      · omega)
  have HSU : Hid (Sq N (tabF N U)) := Lib.hid (tabF_sqI fun x y hx hy => by
    rw [HUE.out]
    split
    · rename_i h; have := s2.lt h.1 h.2; omega
    · split
      · have := s4.lt (x := x - n) (y := y - n) (by omega) (by omega); omega
      · omega)
  rw [← hN]
  have hNb : N ≤ 200 := by omega
  have HN := Lib.hid hN
  clear hN
  have lX0 := hX0.two
  have lX1 := hX1.two
  go_enter Tryz.func174, Tryz.ntmps174
  go_upto_region 1 with fail
  go_quiet (fail)
  go_wp2
  have hlit : (((((w.alloc (.cells #[.slice (some ⟨ba, oa, none⟩) n c, .slice (some ⟨ba', oa', none⟩) n c'] 53)).alloc (.cells #[.slice (some ⟨bb, ob, none⟩) m d, .slice (some ⟨bb', ob', none⟩) m d'] 53)).alloc (.cells #[.slice none 0 0, .slice none 0 0] 53)).drewN nq).alloc (.cells #[.slice none 0 0, .slice none 0 0] 53)) = w0.drewN nq := by rw [← HW0.out]; rfl
  rw [hlit]
  clear hlit
  replace hB := below_drewN hB nq
  replace hO := hO.drewN nq
  replace hR := hR.drewN nq
  replace hX0 := hX0.drewN nq
  replace hX1 := hX1.drewN nq
  generalize w0.drewN nq = w00 at *
  go_loopw [8, 9, 10, 11] (fun i _ _ _ wr => ∃ (k : Nat) (az : Option Addr) (cz : Nat) (vz : List SV) (ay : Option Addr) (cy : Nat) (vy : List SV), k ≤ N ∧ i = .int .i64 k ∧ Loc wr (w.heap.size + 1 + 1 + 1) #[.slice az k cz, .slice ay k cy] 53 ∧ Loc wr (w.heap.size + 1 + 1) #[.slice none 0 0, .slice none 0 0] 53 ∧ OwnT wr w0.heap.size az k cz vz ((tabF N V).take k) ∧ OwnT wr w0.heap.size ay k cy vy ((tabF N U).take k) ∧ ApT az k vz ay k vy ∧ Below w.heap.size w wr ∧ Loc wr (w.heap.size) #[.slice (some ⟨ba, oa, none⟩) n c, .slice (some ⟨ba', oa', none⟩) n c'] 53 ∧ Loc wr (w.heap.size + 1) #[.slice (some ⟨bb, ob, none⟩) m d, .slice (some ⟨bb', ob', none⟩) m d'] 53) (fun i _ _ _ _ => N - (intOf i).toNat)
  case atStart => exact ⟨0, none, 0, [], none, 0, [], Nat.zero_le _, rfl, hO, hR, by simpa using OwnT.nil _ _, by simpa using OwnT.nil _ _, (fun g h _ => by rcases h with h | ⟨i, hi, _⟩; (cases h); omega), hB, hX0, hX1⟩
  case round =>
    clear hR hO hB hX0 hX1
    obtain ⟨k, az, cz, vz, ay, cy, vy, hk, rfl, hO, hR, hz, hy, hap, hB, hX0, hX1⟩ := hrel
    have hOlt := hO.lt
    have hZ0 := HZ0.out
    by_cases hlt : k < N
    · have cik : (k : Int) < (n : Int) + (m : Int) := by have := HN.out; omega
      obtain ⟨w1, hw1⟩ : ∃ w1, (wr.alloc (.cells #[] 2)).alloc (.cells #[] 2) = w1 := ⟨_, rfl⟩
      have hE1 : Own w1 wr.heap.size (some ⟨wr.heap.size, 0, none⟩) 0 0 [] := by rw [← hw1]; exact (Own.fresh wr rfl).alloc _
      have hE2 : Own w1 wr.heap.size (some ⟨wr.heap.size + 1, 0, none⟩) 0 0 [] := by rw [← hw1]; exact (Own.fresh (wr.alloc (.cells #[] 2)) (by simp)).mono (by simp)
      have hqe : Below wr.heap.size wr w1 := by rw [← hw1]; exact below_al (below_al (Below.refl wr.heap.size wr) _) _
      have HRV := Lib.hid (tabF_succ V hlt)
      have HRU := Lib.hid (tabF_succ U hlt)
      obtain ⟨B, hBB⟩ : ∃ B, B = wr.heap.size := ⟨_, rfl⟩
      go_wp2
      try rw [hw1]
      clear hw1
      go_loopw [9, 10, 11] (fun z y i wq => ∃ (jj : Nat) (ar : Option Addr) (cr : Nat) (as_ : Option Addr) (cs : Nat), jj ≤ N ∧ i = .int .i64 jj ∧ z = .slice ar jj cr ∧ y = .slice as_ jj cs ∧ Own wq B ar jj cr ((List.range jj).map fun y => V k y) ∧ Own wq B as_ jj cs ((List.range jj).map fun y => U k y) ∧ Apr ar as_ ∧ Below wr.heap.size wr wq) (fun _ _ i _ => N - (intOf i).toNat)
      case atStart => exact ⟨0, _, 0, _, 0, Nat.zero_le _, rfl, rfl, rfl, by rw [hBB]; simpa using hE1, by rw [hBB]; simpa using hE2, (fun g e1 e2 => by simp at e1 e2; omega), hqe⟩
      case round =>
        clear hE1 hE2 hqe
        obtain ⟨jj, ar, cr, as_, cs, hj, rfl, rfl, rfl, hor, hos, hpr, hqr⟩ := hrel
        have hwq := hqr.size
        obtain ⟨W, rfl⟩ : ∃ W : World, W = wr := ⟨_, rfl⟩
        by_cases hjt : jj < N
        · have cijj : (jj : Int) < (n : Int) + (m : Int) := by have := HN.out; omega
          have HV1 : Hid (((List.range (jj + 1)).map fun y => V k y) = ((List.range jj).map fun y => V k y) ++ [V k jj]) := Lib.hid (by simp [List.range_succ])
          have HU1 : Hid (((List.range (jj + 1)).map fun y => U k y) = ((List.range jj).map fun y => U k y) ++ [U k jj]) := Lib.hid (by simp [List.range_succ])
          have HVK := Lib.hid (HVE.out k jj)
          have HUK := Lib.hid (HUE.out k jj)
          have hX0W := hX0.below hqr hX0.lt
          have hX1W := hX1.below hqr hX1.lt
          have lX0 := hX0W.two
          have lX1 := hX1W.two
          have hBW := hB.trans (hqr.mono (by have := hB.size; omega))
          have hx0l := hX0W.lt
          have hx1l := hX1W.lt
          by_cases ck : k < n
          · by_cases cj : jj < n
            · have q1 : (k : Int) < (n : Int) := by omega
              have q2 : (jj : Int) < (n : Int) := by omega
              have z1 : (0 : Int) ≤ (k : Int) := by omega
              have z2 : (0 : Int) ≤ (jj : Int) := by omega
              obtain ⟨r1, k1⟩ := (G1.below hBW).look ck cj
              obtain ⟨r2, k2⟩ := (G2.below hBW).look ck cj
              have hv : V k jj = ((tv f k jj : Nat) : Int) := by rw [HVK.out, if_pos ⟨ck, cj⟩]
              have hu : U k jj = ((tv f' k jj : Nat) : Int) := by rw [HUK.out, if_pos ⟨ck, cj⟩]
              rw [hv] at HV1
              rw [hu] at HU1
              clear hv hu
              go_upto_region 14 with (at_builtin; refine app1h rfl rfl hor rfl rfl (by omega) (by omega) ?_; intro g' cc w8 hO8 hg8 hat8 hb8)
              have r2 := (hb8.cell (p := ⟨ba', oa' + k, none⟩) (by have := G2.lt; have := hB.size; show ba' < B; omega)).trans r2
              have k2 := (hb8.cell (p := ⟨A2 k, O2 k + jj, none⟩) (by have := G2.rlt k ck; have := hB.size; show A2 k < B; omega)).trans k2
              have hos8 := hos.beside hor hpr.symm hg8
              have hpr8 := hos.apart hor hpr.symm hat8
              have hs8 := hb8.size
              have lX0 := (hX0W.below hb8 (by omega)).two
              have lX1 := (hX1W.below hb8 (by omega)).two
              go_wp2_with (at_builtin; refine app1h rfl rfl hos8 rfl rfl (by omega) (by omega) ?_; intro g9 cc9 w9 hO9 hg9 hat9 hb9)
              have hor9 := hO8.beside hos8 hpr8.symm hg9
              have hpr9 := hO8.apart hos8 hpr8.symm hat9
              go_roundw
              case rel => exact ⟨jj + 1, _, _, _, _, by omega, by go_num, rfl, rfl, by rw [HV1.out]; exact hor9, by rw [HU1.out]; exact hO9, hpr9, hqr.trans ((hb8.mono (by omega)).trans (hb9.mono (by omega)))⟩
              case measure => simp [intOf]; omega
            · have q1 : (k : Int) < (n : Int) := by omega
              have q2 : ¬ (jj : Int) < (n : Int) := by omega
              have q3 : ¬ (n : Int) ≤ (k : Int) := by omega
              have hv : V k jj = (jj : Int) := by rw [HVK.out, if_neg (fun h => cj h.2), if_neg (fun h => h.1 ck)]
              have hu : U k jj = (k : Int) := by rw [HUK.out, if_neg (fun h => cj h.2), if_neg (fun h => h.1 ck)]
              rw [hv] at HV1
              rw [hu] at HU1
              clear hv hu
              go_upto_region 11 with (at_builtin; refine app1h rfl rfl hor rfl rfl (by omega) (by omega) ?_; intro g' cc w8 hO8 hg8 hat8 hb8)
              have hos8 := hos.beside hor hpr.symm hg8
              have hpr8 := hos.apart hor hpr.symm hat8
              have hs8 := hb8.size
              have lX0 := (hX0W.below hb8 (by omega)).two
              have lX1 := (hX1W.below hb8 (by omega)).two
              go_wp2_with (at_builtin; refine app1h rfl rfl hos8 rfl rfl (by omega) (by omega) ?_; intro g9 cc9 w9 hO9 hg9 hat9 hb9)
              have hor9 := hO8.beside hos8 hpr8.symm hg9
              have hpr9 := hO8.apart hos8 hpr8.symm hat9
              go_roundw
              case rel => exact ⟨jj + 1, _, _, _, _, by omega, by go_num, rfl, rfl, by rw [HV1.out]; exact hor9, by rw [HU1.out]; exact hO9, hpr9, hqr.trans ((hb8.mono (by omega)).trans (hb9.mono (by omega)))⟩
              case measure => simp [intOf]; omega
          · by_cases cj : jj < n
            · have q1 : ¬ (k : Int) < (n : Int) := by omega
              have q2 : (jj : Int) < (n : Int) := by omega
              have q3 : ¬ (n : Int) ≤ (jj : Int) := by omega
              have q4 : (n : Int) ≤ (k : Int) := by omega
              have hv : V k jj = (jj : Int) := by rw [HVK.out, if_neg (fun h => ck h.1), if_neg (fun h => h.2 cj)]
              have hu : U k jj = (k : Int) := by rw [HUK.out, if_neg (fun h => ck h.1), if_neg (fun h => h.2 cj)]
              rw [hv] at HV1
              rw [hu] at HU1
              clear hv hu
              go_upto_region 11 with (at_builtin; refine app1h rfl rfl hor rfl rfl (by omega) (by omega) ?_; intro g' cc w8 hO8 hg8 hat8 hb8)
              have hos8 := hos.beside hor hpr.symm hg8
              have hpr8 := hos.apart hor hpr.symm hat8
              have hs8 := hb8.size
              have lX0 := (hX0W.below hb8 (by omega)).two
              have lX1 := (hX1W.below hb8 (by omega)).two
              go_wp2_with (at_builtin; refine app1h rfl rfl hos8 rfl rfl (by omega) (by omega) ?_; intro g9 cc9 w9 hO9 hg9 hat9 hb9)
              have hor9 := hO8.beside hos8 hpr8.symm hg9
              have hpr9 := hO8.apart hos8 hpr8.symm hat9
              go_roundw
              case rel => exact ⟨jj + 1, _, _, _, _, by omega, by go_num, rfl, rfl, by rw [HV1.out]; exact hor9, by rw [HU1.out]; exact hO9, hpr9, hqr.trans ((hb8.mono (by omega)).trans (hb9.mono (by omega)))⟩
              case measure => simp [intOf]; omega
            · obtain ⟨k', hk9⟩ : ∃ k', k' = k - n := ⟨_, rfl⟩
              obtain ⟨j', hj9⟩ : ∃ j', j' = jj - n := ⟨_, rfl⟩
              have hk' : k' < m := by have := HN.out; omega
              have hj' : j' < m := by have := HN.out; omega
              have q1 : ¬ (k : Int) < (n : Int) := by omega
              have q2 : ¬ (jj : Int) < (n : Int) := by omega
              have q3 : (n : Int) ≤ (k : Int) := by omega
              have q4 : (n : Int) ≤ (jj : Int) := by omega
              have q5 : (k' : Int) < (m : Int) := by omega
              have q6 : (j' : Int) < (m : Int) := by omega
              have z1 : (0 : Int) ≤ (k' : Int) := by omega
              have z2 : (0 : Int) ≤ (j' : Int) := by omega
              have e1 : (k : Int) - (n : Int) = (k' : Int) := by omega
              have e2 : (jj : Int) - (n : Int) = (j' : Int) := by omega
              obtain ⟨r1, k1⟩ := (G3.below hBW).look hk' hj'
              obtain ⟨r2, k2⟩ := (G4.below hBW).look hk' hj'
              have b1 := s3.lt hk' hj'
              have b2 := s4.lt hk' hj'
              have hv : V k jj = ((tv g k' j' : Nat) : Int) + (n : Int) := by rw [HVK.out, if_neg (fun h => ck h.1), if_pos ⟨ck, cj⟩, ← hk9, ← hj9]; omega
              have hu : U k jj = ((tv g' k' j' : Nat) : Int) + (n : Int) := by rw [HUK.out, if_neg (fun h => ck h.1), if_pos ⟨ck, cj⟩, ← hk9, ← hj9]; omega
              rw [hv] at HV1
              rw [hu] at HU1
              clear hv hu hk9 hj9
              go_upto_region 17 with (at_builtin; refine app1h rfl rfl hor rfl rfl (by omega) (by omega) ?_; intro g' cc w8 hO8 hg8 hat8 hb8)
              have r2 := (hb8.cell (p := ⟨bb', ob' + k', none⟩) (by have := G4.lt; have := hB.size; show bb' < B; omega)).trans r2
              have k2 := (hb8.cell (p := ⟨A4 k', O4 k' + j', none⟩) (by have := G4.rlt k' hk'; have := hB.size; show A4 k' < B; omega)).trans k2
              have hos8 := hos.beside hor hpr.symm hg8
              have hpr8 := hos.apart hor hpr.symm hat8
              have hs8 := hb8.size
              have lX0 := (hX0W.below hb8 (by omega)).two
              have lX1 := (hX1W.below hb8 (by omega)).two
              go_wp2_with (at_builtin; refine app1h rfl rfl hos8 rfl rfl (by omega) (by omega) ?_; intro g9 cc9 w9 hO9 hg9 hat9 hb9)
              have hor9 := hO8.beside hos8 hpr8.symm hg9
              have hpr9 := hO8.apart hos8 hpr8.symm hat9
              go_roundw
              case rel => exact ⟨jj + 1, _, _, _, _, by omega, by go_num, rfl, rfl, by rw [HV1.out]; exact hor9, by rw [HU1.out]; exact hO9, hpr9, hqr.trans ((hb8.mono (by omega)).trans (hb9.mono (by omega)))⟩
              case measure => simp [intOf]; omega
        · have cojj : ¬ (jj : Int) < (n : Int) + (m : Int) := by have := HN.out; omega
          obtain rfl : jj = N := by omega
          have hO3 := hO.below hqr hO.lt
          have hR3 := hR.below hqr hR.lt
          have lO := hO3.two
          have hz3 := hz.below hqr
          have hy3 := hy.below hqr
          have hB3 := hB.trans (hqr.mono (by have := hB.size; omega))
          have hX03 := hX0.below hqr hX0.lt
          have hX13 := hX1.below hqr hX1.lt
          have hzhi := hz.uHi
          have hyhi := hy.uHi
          have hrlo := hor.lo
          have hrhi := hor.hi
          have hslo := hos.lo
          have hshi := hos.hi
          have hB0s := hO3.lt
          clear hO hR hz hy hB
          go_upto_region 19 with (at_builtin; refine appT1g rfl rfl hz3 rfl (hor.mono (by omega)) (fun g h1 h2 => by have h3 := hzhi _ (.inl h1); have h4 := hrlo _ h2; omega) (fun i hi g h1 h2 => by have h3 := hrlo _ h1; have h4 := hzhi _ (.inr ⟨i, hi, h2⟩); omega) rfl (by omega) (by omega) ?_; intro g6 cc6 w6 hOT6 hg6 hat6 hb6; have hO6 := hO3.below hb6 (by omega); have lO6 := hO6.two)
          have hvl := hz3.vlen
          have hy6 := hz3.other hy3 hap hg6
          have hap6 := ApT.snoc hz3 hy3 hap (v := (ar, jj, cr)) hvl hat6 (fun q h1 h2 => by have h3 := hrlo _ h1; have h4 := hyhi _ h2; omega)
          have hos6 := hos.grown hg6 (fun g h1 h2 => by have h3 := hslo _ h1; have h4 := hzhi _ (hz3.ownBlk h2.symm); omega)
          have hsz6 := hg6.size
          have hB6 := hB3.trans (hb6.mono (by omega))
          have hR6 := hR3.below hb6 (by omega)
          have hz7 := hOT6.setlo (p := ⟨w.heap.size + 1 + 1 + 1, 0, none⟩) (by show w.heap.size + 1 + 1 + 1 < w0.heap.size; omega) (.slice (some ⟨g6, 0, none⟩) (k + 1) cc6)
          have hy7 := hy6.setlo (p := ⟨w.heap.size + 1 + 1 + 1, 0, none⟩) (by show w.heap.size + 1 + 1 + 1 < w0.heap.size; omega) (.slice (some ⟨g6, 0, none⟩) (k + 1) cc6)
          have hos7 := (hos6.mono (lo' := w0.heap.size) (by omega)).setlo (p := ⟨w.heap.size + 1 + 1 + 1, 0, none⟩) (by show w.heap.size + 1 + 1 + 1 < w0.heap.size; omega) (.slice (some ⟨g6, 0, none⟩) (k + 1) cc6)
          have hO7 := hO6.set 0 (.slice (some ⟨g6, 0, none⟩) (k + 1) cc6)
          have hR7 := hR6.setne (a := ⟨w.heap.size + 1 + 1 + 1, 0, none⟩) (by show w.heap.size + 1 + 1 ≠ w.heap.size + 1 + 1 + 1; omega) (.slice (some ⟨g6, 0, none⟩) (k + 1) cc6)
          have hB7 := below_setne (a := ⟨w.heap.size + 1 + 1 + 1, 0, none⟩) hB6 (by show w.heap.size ≤ w.heap.size + 1 + 1 + 1; omega) (.slice (some ⟨g6, 0, none⟩) (k + 1) cc6)
          have hX07 := (hX03.below hb6 (by omega)).setne (a := ⟨w.heap.size + 1 + 1 + 1, 0, none⟩) (by show w.heap.size ≠ w.heap.size + 1 + 1 + 1; omega) (.slice (some ⟨g6, 0, none⟩) (k + 1) cc6)
          have hX17 := (hX13.below hb6 (by omega)).setne (a := ⟨w.heap.size + 1 + 1 + 1, 0, none⟩) (by show w.heap.size + 1 ≠ w.heap.size + 1 + 1 + 1; omega) (.slice (some ⟨g6, 0, none⟩) (k + 1) cc6)
          have hsz7 : (w6.setCell ⟨w.heap.size + 1 + 1 + 1, 0, none⟩ (.slice (some ⟨g6, 0, none⟩) (k + 1) cc6)).heap.size = w6.heap.size := size_set _ _ _
          simp only [Array.setIfInBounds, List.size_toArray, List.length_cons, List.length_nil, Nat.zero_add, Nat.lt_add_one, Nat.reduceAdd, Nat.reduceLT, dif_pos, Nat.zero_lt_succ] at hO7
          have hvl7 := hy7.vlen
          have lO7 := hO7.two
          have HSZ := Lib.hid hsz7
          have hlo7 : w0.heap.size ≤ (w6.setCell ⟨w.heap.size + 1 + 1 + 1, 0, none⟩ (.slice (some ⟨g6, 0, none⟩) (k + 1) cc6)).heap.size := by rw [hsz7]; omega
          have hyz : ∀ g, TblS ay k vy g → ∀ q, as_ = some ⟨q, 0, none⟩ → q ≠ g := fun g h1 q h2 e => by have h3 := hslo _ h2; have h4 := hyhi _ h1; omega
          have hrz : ∀ q, as_ = some ⟨q, 0, none⟩ → ¬ TblS (some ⟨g6, 0, none⟩) (k + 1) (vz ++ [(ar, jj, cr)]) q := fun q h2 h1 => by
            have k1 := hslo _ h2
            have k2 := hshi _ h2
            rcases h1 with e | ⟨i, hi, e⟩
            · cases e
              rcases hat6 with e | e
              · have := hzhi _ (hz3.ownBlk e); omega
              · omega
            · by_cases hik : i < k
              · have e2 : (vz ++ [(ar, jj, cr)]).getD i svO = vz.getD i svO := by simp [List.getD_eq_getElem?_getD, List.getElem?_append_left (show i < vz.length by omega)]
                rw [e2] at e
                have := hzhi _ (.inr ⟨i, hik, e⟩); omega
              · have e2 : i = vz.length := by omega
                have e3 : (vz ++ [(ar, jj, cr)]).getD i svO = (ar, jj, cr) := by rw [e2]; simp [List.getD_eq_getElem?_getD]
                rw [e3] at e
                exact hpr _ e h2
          clear hsz7 hO6 lO6 hB6 hB3 hO3 lO hR3 hR6 hz3 hy3
          generalize w6.setCell ⟨w.heap.size + 1 + 1 + 1, 0, none⟩ (.slice (some ⟨g6, 0, none⟩) (k + 1) cc6) = w7 at *
          go_wp2_with (at_builtin; refine appT1g rfl rfl hy7 rfl hos7 (fun g h1 h2 => hyz _ (.inl h1) _ h2 rfl) (fun i hi g h1 h2 => hyz _ (.inr ⟨i, hi, h2⟩) _ h1 rfl) rfl (by omega) hlo7 ?_; intro g9 cc9 w9 hOT9 hg9 hat9 hb9; have hO9 := hO7.below hb9 (by omega); have lO9 := hO9.two)
          have hz9 := hy7.other hz7 hap6.symm hg9
          have hap9 := (ApT.snoc hy7 hz7 hap6.symm (v := (as_, jj, cs)) hvl7 hat9 hrz).symm
          have hO10 := hO9.set 1 (.slice (some ⟨g9, 0, none⟩) (k + 1) cc9)
          have hR9 := (hR7.below hb9 (by omega)).setne (a := ⟨w.heap.size + 1 + 1 + 1, 1, none⟩) (by show w.heap.size + 1 + 1 ≠ w.heap.size + 1 + 1 + 1; omega) (.slice (some ⟨g9, 0, none⟩) (k + 1) cc9)
          have hB9 := below_setne (a := ⟨w.heap.size + 1 + 1 + 1, 1, none⟩) (hB7.trans (hb9.mono (by omega))) (by show w.heap.size ≤ w.heap.size + 1 + 1 + 1; omega) (.slice (some ⟨g9, 0, none⟩) (k + 1) cc9)
          have hX09 := (hX07.below hb9 (by omega)).setne (a := ⟨w.heap.size + 1 + 1 + 1, 1, none⟩) (by show w.heap.size ≠ w.heap.size + 1 + 1 + 1; omega) (.slice (some ⟨g9, 0, none⟩) (k + 1) cc9)
          have hX19 := (hX17.below hb9 (by omega)).setne (a := ⟨w.heap.size + 1 + 1 + 1, 1, none⟩) (by show w.heap.size + 1 ≠ w.heap.size + 1 + 1 + 1; omega) (.slice (some ⟨g9, 0, none⟩) (k + 1) cc9)
          go_roundw
          case rel => exact ⟨k + 1, _, _, _, _, _, _, by omega, by go_num, hO10, hR9, by rw [HRV.out]; exact hz9.setlo (by show w.heap.size + 1 + 1 + 1 < w0.heap.size; omega) _, by rw [HRU.out]; exact hOT9.setlo (by show w.heap.size + 1 + 1 + 1 < w0.heap.size; omega) _, hap9, hB9, hX09, hX19⟩
          case measure => simp [intOf]; omega
    · have cok : ¬ (k : Int) < (n : Int) + (m : Int) := by have := HN.out; omega
      obtain rfl : k = N := by omega
      rw [List.take_of_length_le (by rw [tabF_len]; exact Nat.le_refl _)] at hz hy
      have lO := hO.two
      have lR := hR.two
      go_wp2
      refine bodyPost_ret (v := sAgg az k cz ay k cy) (by simp [results, Tryz.results174, go_sem, lR, lO]) rfl ⟨az, cz, vz, _, ay, cy, vy, _, rfl, ⟨?_, ?_, hap⟩, HSV.out, HSU.out, ?_⟩
      · exact ((hz.setlo (by show w.heap.size + 1 + 1 < w0.heap.size; omega) _).setlo (by show w.heap.size + 1 + 1 < w0.heap.size; omega) _).mono (by omega)
      · exact ((hy.setlo (by show w.heap.size + 1 + 1 < w0.heap.size; omega) _).setlo (by show w.heap.size + 1 + 1 < w0.heap.size; omega) _).mono (by omega)
      · exact below_setne (below_setne hB (by show w.heap.size ≤ w.heap.size + 1 + 1; omega) _) (by show w.heap.size ≤ w.heap.size + 1 + 1; omega) _
end Go.Proofs.YtaddclaadbjnlaaGreat
