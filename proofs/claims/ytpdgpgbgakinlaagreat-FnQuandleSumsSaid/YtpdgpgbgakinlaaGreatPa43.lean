/-
  Walks and plain laws of this seat, some texts in one.
  No condition but bounds on lengths.
-/
import Derived.Test.YtpdgpgbgakinlaaGreatPa42
import Derived.Test.YtpdgpgbgakinlaaGreatPa32
import Derived.Test.YtpdgpgbgakinlaaGreatPa30
import Derived.Deep.DeepCutAuto
namespace Go.Proofs.YtpdgpgbgakinlaaGreat
set_option maxRecDepth 100000
set_option linter.unusedVariables false
set_option linter.unusedSimpArgs false
open Go.RowKit
def RrD (b : Nat) (w : World) (e : Ending) (w' : World) : Prop :=
  ∃ (a : Option Addr) (n c : Nat) (T : List (List Int)) (m : Int) (am : Option Addr) (nm cm : Nat) (F : List (List Int)), e = .returned (.tuple #[rAgg a n c, .int .i64 m, .slice am nm cm]) ∧ n ≤ 14 ∧ nm ≤ 14 ∧ -2 ≤ m ∧ m ≤ 13 ∧
    TbR w' w.heap.size a n T ∧ TbR w' w.heap.size am nm F ∧ Src w' b ∧ w.grownBy w' (some b)
theorem tbr_lit (w w' : World) (lo : Nat) (hlo : lo ≤ w.heap.size) (hz : w.heap.size + 2 ≤ w'.heap.size) (hk : ∀ k, w.heap.size ≤ k → w'.heap[k]? = ((w.alloc (.cells #[.int .i64 0] 2)).alloc (.cells #[.slice (some ⟨w.heap.size, 0, none⟩) 1 1] 27)).heap[k]?) : TbR w' lo (some ⟨w.heap.size + 1, 0, none⟩) 1 [[0]] := by
  have h0 : Loc w' w.heap.size #[.int .i64 0] 2 := (hk _ (by omega)).trans ((Loc.new w rfl _ _).alloc _)
  have h1 : Loc w' (w.heap.size + 1) #[.slice (some ⟨w.heap.size, 0, none⟩) 1 1] 27 := (hk _ (by omega)).trans (Loc.new (b := w.heap.size + 1) _ (by simp) _ _)
  have key : ∀ v : World, Loc v w.heap.size #[.int .i64 0] 2 → Loc v (w.heap.size + 1) #[.slice (some ⟨w.heap.size, 0, none⟩) 1 1] 27 → Tbl v (some ⟨w.heap.size + 1, 0, none⟩) 1 [[0]] := fun v a1 a2 => tbl_rows a2 [[0]] fun i hi => by
    obtain rfl : i = 0 := by simp at hi; exact hi
    exact ⟨_, 1, 1, rfl, row_loc a1 rfl rfl, by omega⟩
  refine ⟨key w' h0 h1, fun w'' hs hk2 => key w'' ?_ ?_⟩
  · exact (hk2 _ hlo (by omega)).trans h0
  · exact (hk2 _ (by omega) (by omega)).trans h1
set_option maxHeartbeats 64000000 in
theorem l18DrawRack_ok (b : Nat) (w : World) (h : Src w b) :
    Calls Tryz.prog 57 #[.pointer (some ⟨b, 0, none⟩)] w (RrD b w) := by
  have hlt := h.lt
  have hR := Loc.new w rfl #[.slice none 0 0] 45
  have hG0 := World.grownBy_alloc w (.cells #[.slice none 0 0] 45) (some b)
  go_enter Tryz.func57, Tryz.ntmps57
  go_wp2_with fail
  refine (l03DrawAny_ok 5 b _ (h.below (below_al (Below.refl _ _) _)) (by omega) (by omega)).mono ?_
  rintro e w1 ⟨a1, n1, c1, T1, rfl, hn1, hT1, hs1, hg1⟩
  have hR1 := hR.grown hg1 (by simp; omega)
  have hG1 := grown_trans hG0 hg1
  have hz1 := hR1.lt
  replace hT1 := hT1.mono (lo' := w.heap.size + 1) (by simp)
  obtain ⟨w2, hw2⟩ : ∃ w2, w1.alloc (.cells #[.slice a1 n1 c1] 45) = w2 := ⟨_, rfl⟩
  have hX2 : Loc w2 w1.heap.size #[.slice a1 n1 c1] 45 := by rw [← hw2]; exact Loc.new w1 rfl _ _
  have hb2 : Below w1.heap.size w1 w2 := by rw [← hw2]; exact below_al (Below.refl _ _) _
  have hR2 := hR1.below hb2 hz1
  have hT2 := hT1.below hb2
  have hs2 := hs1.below hb2
  have hG2 := grown_trans hG1 (grown_of_below hb2 (some b))
  have HW2 := Lib.hid hw2
  have hz2 := hX2.lt
  have lX2 := hX2.one
  clear hw2 hR hG0 hR1 hG1 hT1 hs1 hg1 hb2
  go_upto_region 2 with fail
  try rw [HW2.out]
  clear HW2
  go_cut [20] (fun s20 wx => ∃ Q : Bool, s20 = .bool Q ∧ Hid (Q = true → isRk T1 = true) ∧ Loc wx w1.heap.size #[.slice a1 n1 c1] 45 ∧ Loc wx w.heap.size #[.slice none 0 0] 45 ∧ TbR wx (w.heap.size + 1) a1 n1 T1 ∧ Src wx b ∧ w.grownBy wx (some b) ∧ w1.heap.size < wx.heap.size)
  case first => as_aux_lemma =>
    go_wp2_with fail
    refine (l03Is_any a1 n1 c1 T1 _ hT2.1 (by omega)).mono ?_
    rintro e w3 ⟨rfl, hb3⟩
    have hR3 := hR2.below hb3 hR2.lt
    have hX3 := hX2.below hb3 hX2.lt
    have hT3 := hT2.below hb3
    have hs3 := hs2.below hb3
    have hG3 := grown_trans hG2 (grown_of_below hb3 (some b))
    have hz3 := hX3.lt
    clear hR2 hX2 hT2 hs2 hG2 hb3 lX2
    cases q : isRk T1 with
    | false =>
      clear q
      go_wp2
      go_meet
      exact ⟨false, rfl, Lib.hid (fun e => by cases e), hX3, hR3, hT3, hs3, hG3, hz3⟩
    | true =>
      have HQ := Lib.hid q
      clear q
      go_wp2_with fail
      refine (l01Next_ok b 5 _ hs3 ⟨by omega, by omega⟩).mono ?_
      rintro e w4 ⟨x, rfl, _, _, hs4, hg4⟩
      have hR4 := hR3.grown hg4 (by simp; omega)
      have hX4 := hX3.grown hg4 (by simp; omega)
      have hT4 := hT3.grown hg4 (by omega)
      have hG4 := grown_trans hG3 hg4
      have hz4 := hX4.lt
      go_wp2
      go_meet
      exact ⟨_, rfl, Lib.hid (fun _ => HQ.out), hX4, hR4, hT4, hs4, hG4, hz4⟩
  case rest =>
  obtain ⟨Q, rfl, HQ, hX, hRr, hT, hs, hG, hzw⟩ := hcut
  clear hX2 hR2 hT2 hs2 hG2 hz2 lX2
  go_upto_if 20 with fail
  go_cut [] (fun wx => ∃ (a : Option Addr) (n c : Nat) (T : List (List Int)), n ≤ 14 ∧ Loc wx w1.heap.size #[.slice a n c] 45 ∧ Loc wx w.heap.size #[.slice none 0 0] 45 ∧ TbR wx (w.heap.size + 1) a n T ∧ Src wx b ∧ w.grownBy wx (some b) ∧ w1.heap.size < wx.heap.size)
  case first => as_aux_lemma =>
    cases Q with
    | false =>
      go_wp2
      go_meet
      exact ⟨a1, n1, c1, T1, hn1, hX, hRr, hT, hs, hG, hzw⟩
    | true =>
      have hrk := HQ.out rfl
      have lX := hX.one
      go_wp2_with fail
      refine (spec_QofS a1 n1 c1 T1 _ hT.1 hrk).mono ?_
      rintro e w4 ⟨a4, c4, vs4, T4, rfl, ho4, hb4⟩
      have hR4 := (hRr.below hb4 hRr.lt).setne (a := ⟨w1.heap.size, 0, none⟩) (by show w.heap.size ≠ w1.heap.size; omega) (.slice a4 n1 c4)
      have hX4 := hX.below hb4 hX.lt
      have hX5 := hX4.set 0 (.slice a4 n1 c4)
      have lX4 := hX4.one
      have hT5 := ((TbR.own ho4).setlo (p := ⟨w1.heap.size, 0, none⟩) (by show w1.heap.size < wc.heap.size; omega) (.slice a4 n1 c4)).mono (lo' := w.heap.size + 1) (by omega)
      have hs5 := (hs.below hb4).setne (p := ⟨w1.heap.size, 0, none⟩) (by show b < w1.heap.size; omega) (.slice a4 n1 c4)
      have hG5 := grown_set (p := ⟨w1.heap.size, 0, none⟩) (grown_trans hG (grown_of_below hb4 (some b))) (.inr (by show w.heap.size ≤ w1.heap.size; omega)) (.slice a4 n1 c4)
      have hz4 := hb4.size
      clear hrk
      go_wp2
      go_meet
      exact ⟨a4, n1, c4, T4, hn1, hX5, hR4, hT5, hs5, hG5, by rw [size_set]; omega⟩
  case rest =>
  obtain ⟨a, n, c, T, hn, hX, hRr, hT, hs, hG, hzw⟩ := hcut
  clear hzw HQ
  have hzw := hX.lt
  go_wp2_with fail
  refine (l18DrawModulus_ok b _ hs).mono ?_
  rintro e w4 ⟨m, rfl, hm1, hm2, hs4, hg4⟩
  have hR4 := hRr.grown hg4 (by simp; omega)
  have hX4 := hX.grown hg4 (by simp; omega)
  have hT4 := hT.grown hg4 (by omega)
  have hG4 := grown_trans hG hg4
  have lX4 := hX4.one
  clear hRr hX hT hG hs hg4
  go_wp2_with fail
  refine (l03Is_any a n c T _ hT4.1 (by omega)).mono ?_
  rintro e w5 ⟨rfl, hb5⟩
  have hR5 := hR4.below hb5 hR4.lt
  have hX5 := hX4.below hb5 hX4.lt
  have hT5 := hT4.below hb5
  have hs5 := hs4.below hb5
  have hG5 := grown_trans hG4 (grown_of_below hb5 (some b))
  have lX5 := hX5.one
  have hz5 := hX5.lt
  clear hR4 hX4 hT4 hs4 hG4 hb5 lX4 hzw
  have FIN : Hid (∀ (v : World) (am : Option Addr) (nm cm : Nat) (F : List (List Int)), nm ≤ 14 → TbR v (w.heap.size + 1) a n T → TbR v (w.heap.size + 1) am nm F → Src v b → w.grownBy v (some b) → RrD b w (.returned (.tuple #[rAgg a n c, .int .i64 m, .slice am nm cm])) (v.setCell ⟨w.heap.size, 0, none⟩ (.slice a n c))) := Lib.hid fun v am nm cm F q1 q2 q3 q4 q5 =>
    ⟨a, n, c, T, m, am, nm, cm, F, rfl, hn, q1, hm1, hm2, (q2.setlo (p := ⟨w.heap.size, 0, none⟩) (by show w.heap.size < w.heap.size + 1; omega) _).mono (by omega), (q3.setlo (p := ⟨w.heap.size, 0, none⟩) (by show w.heap.size < w.heap.size + 1; omega) _).mono (by omega), q4.setne (p := ⟨w.heap.size, 0, none⟩) (by show b < w.heap.size; omega) _, grown_set (p := ⟨w.heap.size, 0, none⟩) q5 (.inr (by simp)) _⟩
  cases q : isRk T with
  | false =>
    clear q
    have hTa := (hT5.below (below_al (below_al (Below.refl _ _) (.cells #[.int .i64 0] 2)) (.cells #[.slice (some ⟨w5.heap.size, 0, none⟩) 1 1] 27)))
    have hFa := tbr_lit w5 _ (w.heap.size + 1) (by omega) (by simp) (fun k _ => rfl)
    have hsa := (hs5.below (below_al (below_al (Below.refl _ _) (.cells #[.int .i64 0] 2)) (.cells #[.slice (some ⟨w5.heap.size, 0, none⟩) 1 1] 27)))
    have hGa := grown_alloc (grown_alloc hG5 (.cells #[.int .i64 0] 2)) (.cells #[.slice (some ⟨w5.heap.size, 0, none⟩) 1 1] 27)
    have hRa := (hR5.alloc (.cells #[.int .i64 0] 2)).alloc (.cells #[.slice (some ⟨w5.heap.size, 0, none⟩) 1 1] 27)
    have lRa := hRa.one
    have hW := FIN.out _ _ 1 1 _ (by omega) hTa hFa hsa hGa
    clear hTa hFa hsa hGa
    go_wp2
    exact bodyPost_ret (v := .tuple #[rAgg a n c, .int .i64 m, .slice (some ⟨w5.heap.size + 1, 0, none⟩) 1 1]) (by simp [results, Tryz.results57, go_sem, lRa]) rfl hW
  | true =>
  obtain ⟨t1, t12, hsq, _⟩ := isSol_sq (rk_isSol q)
  have hTl := hT5.1.len
  rw [← hTl] at t1 t12 hsq
  have HSQ := Lib.hid hsq
  clear q hTl hsq
  go_wp2_with fail
  refine (l03Solution_any a n c T _ hT5.1 HSQ.out t1 t12).mono ?_
  rintro e w6 ⟨a6, c6, vs6, a7, c7, vs7, rfl, ho6, hb6⟩
  have hR6 := hR5.below hb6 hR5.lt
  have hX6 := hX5.below hb6 hX5.lt
  have hT6 := hT5.below hb6
  have hs6 := hs5.below hb6
  have hG6 := grown_trans hG5 (grown_of_below hb6 (some b))
  have hz6 := hX6.lt
  have hz56 := hb6.size
  have hf6 := TbR.own ho6.f
  have hg6 := TbR.own ho6.s
  clear hR5 hX5 hT5 hs5 hG5 hb6 lX5 ho6
  go_wp2_with fail
  refine (l18DrawMatrix_ok b w5.heap.size n n m a6 a7 c6 c7 T (cstL n) _ hs6 (by omega) hz56 hf6 hg6 hn hn ⟨hm1, hm2⟩).mono ?_
  rintro e w7 ⟨am, nm, cm, F, rfl, hnm, hF7, hO7, hs7, hg7⟩
  have hX7 := hX6.grown hg7 (by simp; omega)
  have lX7 := hX7.one
  clear hf6 hg6
  go_upto_region 8 with fail
  go_cut [58] (fun s58 wx => ∃ Q : Bool, s58 = .bool Q ∧ (Q = true → nm = n ∧ Hid (isMx n m F = true)) ∧ wx.heap.size ≥ w7.heap.size ∧ TbR wx w6.heap.size am nm F ∧ (nm = n → ∃ vs, OwnT wx w6.heap.size am n cm vs F) ∧ Src wx b ∧ w6.grownBy wx (some b))
  case first => as_aux_lemma =>
    by_cases hnn : nm = n
    · subst nm
      have hbn : ((n : Int) == (n : Int)) = true := by simp
      have HO7 := Lib.hid (hO7 rfl)
      clear hO7
      go_wp2_with fail
      refine (l14Code_any n m am n cm F _ hF7.1 (by omega) _ rfl).mono ?_
      rintro e w8 ⟨rfl, rfl⟩
      cases qm : isMx n m F with
      | false =>
        clear qm
        go_wp2
        go_meet
        exact ⟨false, rfl, (fun e => by cases e), Nat.le_refl _, hF7, (fun _ => HO7.out), hs7, hg7⟩
      | true =>
        have HM := Lib.hid qm
        clear qm
        go_wp2_with fail
        refine (l01Next_ok b 4 _ hs7 ⟨by omega, by omega⟩).mono ?_
        rintro e w9 ⟨x, rfl, _, _, hs9, hg9⟩
        have hz9 := hg9.size
        go_wp2
        go_meet
        exact ⟨_, rfl, (fun _ => ⟨by first | trivial | rfl, HM⟩), hz9, hF7.grown hg9 (by omega), (fun _ => by obtain ⟨vs, ho⟩ := HO7.out; exact ⟨vs, ho.grownS hg9 (by omega)⟩), hs9, grown_trans hg7 hg9⟩
    · have hbn : ((nm : Int) == (n : Int)) = false := by simp; omega
      have HNN := Lib.hid hnn
      clear hnn hO7
      go_wp2
      go_meet
      exact ⟨false, rfl, (fun e => by cases e), Nat.le_refl _, hF7, (fun e => absurd e HNN.out), hs7, hg7⟩
  case rest =>
  obtain ⟨Q, rfl, hQ, _, hF, hO, hs, hG⟩ := hcut
  clear hX7 lX7 hF7 hO7 hs7 hg7
  cases Q with
  | false =>
    have hX := hX6.grown hG (by simp; omega)
    have lX := hX.one
    have hR := hR6.grown hG (by simp; omega)
    have lR := hR.one
    have hW := FIN.out _ am nm cm F hnm (hT6.grown hG (by omega)) (hF.mono (by omega)) hs (grown_trans hG6 hG)
    clear hQ hO
    go_wp2
    exact bodyPost_ret (v := .tuple #[rAgg a n c, .int .i64 m, .slice am nm cm]) (by simp [results, Tryz.results57, go_sem, lR]) rfl hW
  | true =>
  obtain ⟨rfl, HM⟩ := hQ rfl
  obtain ⟨vs, hOv⟩ := hO rfl
  clear hO
  have hmb := (isMx_sq HM.out).1
  have HFH := Lib.hid hOv.uHi
  have p0 : ¬ m = 0 := by omega
  have p0b : (m == 0) = false := by simpa using p0
  have hz7 := hG.size
  clear hQ hF
  go_wp2
  go_loopw [8] (fun x wr => ∃ (k : Nat) (F : List (List Int)), k ≤ nm ∧ x = .int .i64 k ∧ Hid (isMx nm m F = true) ∧ OwnT wr w6.heap.size am nm cm vs F ∧ Src wr b ∧ w6.grownBy wr (some b)) (fun x _ => nm - (intOf x).toNat)
  case atStart => exact ⟨0, _, Nat.zero_le _, rfl, HM, hOv, hs, hG⟩
  case round =>
    clear HM hOv hs hG
    obtain ⟨k, F, hk, rfl, HM, hO, hs, hG⟩ := hrel
    by_cases hlt3 : k < nm
    · obtain ⟨gz, rfl⟩ := hO.head (by omega)
      obtain ⟨_, e0, _, cc, _⟩ := hO.cells (by omega)
      cases e0
      have ck := cc k hlt3
      have hrk := hO.row k hlt3
      have hrl := hrk.len
      rw [mx_rlen HM.out hlt3] at hrl
      obtain ⟨gr, hgr⟩ := hrk.headS (by omega)
      rw [hgr, hrl] at ck
      generalize (vs.getD k svO).2.2 = cr at ck
      have HGR := Lib.hid hgr
      rw [hgr] at hrk
      have cd := hrk.cells.2.1 k (by rw [hrl]; exact hlt3)
      have hdb := mx_at HM.out hlt3 hlt3
      obtain ⟨D, hD⟩ : ∃ D, (F.getD k []).getD k 0 = D := ⟨_, rfl⟩
      rw [hD] at cd hdb
      have hgrh := HFH.out gr (.inr ⟨k, hlt3, hgr⟩)
      have hgrl := hrk.lo gr rfl
      have i1 : (0 : Int) ≤ (k : Int) := by omega
      have i2 : (k : Int) < (nm : Int) := by omega
      have HALL := Lib.hid (And.intro hO (And.intro hs hG))
      clear cc hrk hrl hgr hD hO hs hG
      go_wp2
      go_quiet (fail)
      go_wp2
      go_loopw [11] (fun y wr => ∃ (j : Nat) (F : List (List Int)), j ≤ nm ∧ y = .int .i64 j ∧ Hid (isMx nm m F = true) ∧ OwnT wr w6.heap.size (some ⟨gz, 0, none⟩) nm cm vs F ∧ Src wr b ∧ w6.grownBy wr (some b)) (fun y _ => nm - (intOf y).toNat)
      case atStart => exact ⟨0, F, Nat.zero_le _, rfl, HM, HALL.out.1.drewN _, HALL.out.2.1.below (below_drewN (Below.refl _ _) _), grown_drewN HALL.out.2.2 _⟩
      case round =>
        clear HM HALL ck cd
        obtain ⟨j, F, hj, rfl, HM, hO, hs, hG⟩ := hrel
        by_cases hjt : j < nm
        · have hrk := hO.row k hlt3
          rw [HGR.out] at hrk
          have hrl := hrk.len
          rw [mx_rlen HM.out hlt3] at hrl
          have c1 := hrk.cells.2.1 j (by rw [hrl]; exact hjt)
          have f1 := hrk.cells.2.2 j
          have hX := mx_at HM.out hlt3 hjt
          obtain ⟨X, hXe⟩ : ∃ X, (F.getD k []).getD j 0 = X := ⟨_, rfl⟩
          rw [hXe] at c1 hX
          obtain ⟨Z, hZ⟩ : ∃ Z, (X + m - D) % m = Z := ⟨_, rfl⟩
          have e2 : IntKind.i64.wrap (X + m) = X + m := IntWalk.i64_in _ (by omega)
          have e3 : IntKind.i64.wrap (X + m - D) = X + m - D := IntWalk.i64_in _ (by omega)
          have e4 : (X + m - D).tmod m = Z := by rw [← hZ]; exact IntWalk.rem_in _ _ (by omega)
          have e5 : IntKind.i64.wrap Z = Z := by rw [← hZ]; exact IntWalk.i64_in _ ⟨by have := Int.emod_nonneg (X + m - D) p0; omega, by have := Int.emod_lt_of_pos (X + m - D) (show 0 < m by omega); omega⟩
          have hZb : 0 ≤ Z ∧ Z < m := by rw [← hZ]; exact ⟨Int.emod_nonneg _ (by omega), Int.emod_lt_of_pos _ (by omega)⟩
          have HM2 := Lib.hid (mx_set HM.out hlt3 hjt hZb.1 hZb.2)
          have j1 : (0 : Int) ≤ (j : Int) := by omega
          have j2 : (j : Int) < (nm : Int) := by omega
          have hNs := hO.setrow k hlt3 (g := gr) HGR.out j Z
          have hSs := hs.setne (p := ⟨gr, j, none⟩) (by show b < gr; omega) (.int .i64 Z)
          have hGs := grown_set (p := ⟨gr, j, none⟩) hG (.inr (by show w6.heap.size ≤ gr; omega)) (.int .i64 Z)
          clear hO hs hG hXe hZ hrk hrl
          go_wp2
          go_roundw
          case rel => exact ⟨j + 1, _, by omega, by go_num, HM2, hNs, hSs, hGs⟩
          case measure => simp [intOf]; omega
        · obtain rfl : nm = j := by omega
          go_wp2
          go_roundw
          case rel => exact ⟨k + 1, F, by omega, by go_num, HM, hO, hs, hG⟩
          case measure => simp [intOf]; omega
    · obtain rfl : nm = k := by omega
      have hX := hX6.grown hG (by simp; omega)
      have lX := hX.one
      have hR := hR6.grown hG (by simp; omega)
      have lR := hR.one
      have hW := FIN.out _ am nm cm F hnm (hT6.grown hG (by omega)) ((TbR.own hO).mono (by omega)) hs (grown_trans hG6 hG)
      go_wp2
      exact bodyPost_ret (v := .tuple #[rAgg a nm c, .int .i64 m, .slice am nm cm]) (by simp [results, Tryz.results57, go_sem, lR]) rfl hW
end Go.Proofs.YtpdgpgbgakinlaaGreat

namespace Go.Proofs.YtpdgpgbgakinlaaGreat
set_option maxRecDepth 100000
set_option linter.unusedVariables false
set_option linter.unusedSimpArgs false
open Go.RowKit
def DrIq (w : World) (e : Ending) (w' : World) : Prop :=
  ∃ (a : Option Addr) (n c : Nat) (T : List (List Int)) (m : Int) (am : Option Addr) (nm cm : Nat) (F : List (List Int)),
      e = .returned (.tuple #[rAgg a n c, .int .i64 m, .slice am nm cm]) ∧ n ≤ 14 ∧ nm ≤ 14 ∧ -2 ≤ m ∧ m ≤ 13 ∧ Tbl w' a n T ∧ Tbl w' am nm F ∧ Below w.heap.size w w'
set_option maxHeartbeats 16000000 in
theorem DrawIsQuandleWeight_ok (a : Option Addr) (n c : Nat) (xs : List Int) (w : World) (h : Bts w a n xs) (hn : n ≤ 9223372036854775807) :
    Calls Tryz.prog 28 #[.slice a n c] w (DrIq w) := by
  go_enter Tryz.func28, Tryz.ntmps28
  have hP := Loc.new w rfl #[.slice none 0 0] 45
  have hB0 := below_al (Below.refl w.heap.size w) (.cells #[.slice none 0 0] 45)
  go_wp2_with fail
  refine (l01From_ok a n c xs _ (h.below hB0) hn).mono ?_
  rintro e w1 ⟨b, rfl, hb, hs1, hb1⟩
  have hP1 := hP.below hb1 hP.lt
  have hB1 := below_th hB0 hb1
  rw [size_alloc] at hb
  have hz1 := hs1.lt
  clear hP hB0 hb1
  go_wp2_with fail
  refine (l18DrawRack_ok b _ hs1).mono ?_
  rintro e w2 ⟨a1, n1, c1, T, m, am, nm, cm, F, rfl, hn1, hnm, hm1, hm2, hT2, hF2, hs2, hg2⟩
  have hP2 := hP1.grown hg2 (by simp; omega)
  have hB2 := below_grown hB1 hg2 (by omega)
  have hz2 := hg2.size
  obtain ⟨w3, hw3⟩ : ∃ w3, w2.alloc (.cells #[.slice a1 n1 c1] 45) = w3 := ⟨_, rfl⟩
  have hb3 : Below w2.heap.size w2 w3 := by rw [← hw3]; exact below_al (Below.refl _ _) _
  have hX3 : Loc w3 w2.heap.size #[.slice a1 n1 c1] 45 := by rw [← hw3]; exact Loc.new w2 rfl _ _
  have hP3 := hP2.below hb3 hP2.lt
  have hB3 := below_th hB2 hb3
  have hT3 := hT2.below hb3
  have hF3 := hF2.below hb3
  have HW3 := Lib.hid hw3
  have lP3 := hP3.one
  have lX3 := hX3.one
  clear hw3
  go_upto_region 2 with fail
  rw [HW3.out]
  go_wp2
  refine bodyPost_ret (v := .tuple #[rAgg a1 n1 c1, .int .i64 m, .slice am nm cm]) (by simp [results, Tryz.results28, go_sem, lP3]) rfl ⟨a1, n1, c1, T, m, am, nm, cm, F, rfl, hn1, hnm, hm1, hm2, ?_, ?_, ?_⟩
  · exact (hT3.setlo (by show w.heap.size < w1.heap.size; omega) _).1
  · exact (hF3.setlo (by show w.heap.size < w1.heap.size; omega) _).1
  · exact below_setne hB3 (Nat.le_refl _) _
def DrQs (w : World) (e : Ending) (w' : World) : Prop :=
  ∃ (a : Option Addr) (n c : Nat) (T : List (List Int)) (m : Int) (am : Option Addr) (nm cm : Nat) (F : List (List Int)) (S : Int) (ab : Option Addr) (nb cb : Nat) (xs : List Int),
    e = .returned (.tuple #[rAgg a n c, .int .i64 m, .slice am nm cm, bAgg S ab nb cb]) ∧ n ≤ 14 ∧ nm ≤ 14 ∧ -2 ≤ m ∧ m ≤ 13 ∧ 0 ≤ S ∧ S ≤ 10 ∧ nb ≤ 31 ∧ nb ≤ cb ∧ cb ≤ 9223372036854775807 ∧ Sml xs ∧
    Tbl w' a n T ∧ Tbl w' am nm F ∧ Row w' ab nb xs ∧ Below w.heap.size w w'
set_option maxHeartbeats 16000000 in
theorem DrawQuandleStateSum_ok (a : Option Addr) (n c : Nat) (xs : List Int) (w : World) (h : Bts w a n xs) (hn : n ≤ 9223372036854775807) :
    Calls Tryz.prog 16 #[.slice a n c] w (DrQs w) := by
  go_enter Tryz.func16, Tryz.ntmps16
  have hP := (Loc.new w rfl #[.slice none 0 0] 45).alloc (.cells #[.int .i64 0, .slice none 0 0] 29)
  have hR := Loc.new (w.alloc (.cells #[.slice none 0 0] 45)) rfl #[.int .i64 0, .slice none 0 0] 29
  have hB0 := below_al (below_al (Below.refl w.heap.size w) (.cells #[.slice none 0 0] 45)) (.cells #[.int .i64 0, .slice none 0 0] 29)
  rw [size_alloc] at hR
  go_wp2_with fail
  refine (l01From_ok a n c xs _ (h.below hB0) hn).mono ?_
  rintro e w1 ⟨b, rfl, hb, hs1, hb1⟩
  have hP1 := hP.below hb1 hP.lt
  have hR1 := hR.below hb1 hR.lt
  have hB1 := below_th hB0 hb1
  rw [size_alloc, size_alloc] at hb
  have hz1 := hs1.lt
  clear hP hR hB0 hb1
  go_wp2_with fail
  refine (l18DrawRack_ok b _ hs1).mono ?_
  rintro e w2 ⟨a1, n1, c1, T, m, am, nm, cm, F, rfl, hn1, hnm, hm1, hm2, hT2, hF2, hs2, hg2⟩
  have hP2 := hP1.grown hg2 (by simp; omega)
  have hR2 := hR1.grown hg2 (by simp; omega)
  have hB2 := below_grown hB1 hg2 (by omega)
  have hz2 := hg2.size
  obtain ⟨w3, hw3⟩ : ∃ w3, w2.alloc (.cells #[.slice a1 n1 c1] 45) = w3 := ⟨_, rfl⟩
  have hb3 : Below w2.heap.size w2 w3 := by rw [← hw3]; exact below_al (Below.refl _ _) _
  have hX3 : Loc w3 w2.heap.size #[.slice a1 n1 c1] 45 := by rw [← hw3]; exact Loc.new w2 rfl _ _
  have hP3 := hP2.below hb3 hP2.lt
  have hR3 := hR2.below hb3 hR2.lt
  have hB3 := below_th hB2 hb3
  have hT3 := hT2.below hb3
  have hF3 := hF2.below hb3
  have hs3 := hs2.below hb3
  have HW3 := Lib.hid hw3
  have hz3 := hX3.lt
  have lX3 := hX3.one
  have FIN : Hid (∀ (v : World) (S : Int) (ab : Option Addr) (nb cb : Nat) (ys : List Int), 0 ≤ S → S ≤ 10 → nb ≤ 31 → Sml ys → Own v (w.heap.size + 2) ab nb cb ys → TbR v w1.heap.size a1 n1 T → TbR v w1.heap.size am nm F → Below w.heap.size w v →
      DrQs w (.returned (.tuple #[rAgg a1 n1 c1, .int .i64 m, .slice am nm cm, bAgg S ab nb cb])) v) := Lib.hid fun v S ab nb cb ys q1 q2 q3 q4 q5 q6 q8 q9 =>
    ⟨a1, n1, c1, T, m, am, nm, cm, F, S, ab, nb, cb, ys, rfl, hn1, hnm, hm1, hm2, q1, q2, q3, q5.cap.1, q5.cap.2, q4, q6.1, q8.1, q5.row, q9⟩
  clear hw3 hP1 hP2 hR1 hR2 hB1 hB2 hT2 hF2 hs1 hs2 hg2 hb3
  go_upto_region 3 with fail
  rw [HW3.out]
  clear HW3
  go_region_held3 (fun v => v.cell? ⟨w2.heap.size, 0, none⟩ = some (.slice a1 n1 c1))
    (first | exact k11 | exact k10 | exact k9 | exact lX3.1 | go_keep)
    (first
      | (go_at_call 58; refine (l18Braid_ok b _ (hs3.below (below_drewN (Below.refl _ _) 1))).mono ?_; rintro e w9 ⟨S, ab, nb, cb, ys, rfl, hS1, hS2, hnb, hsm, hob, hs9, hg9'⟩; have hg9 : w3.grownBy w9 (some b) := grown_trans (grown_of_below (below_drewN (Below.refl _ _) 1) (some b)) hg9'; have hX9 := hX3.grown hg9 (by simp; omega); have k9 := hX9.one.1; have hP9 := hP3.grown hg9 (by simp; omega); have lP9 := hP9.one; have hR9 := hR3.grown hg9 (by simp; omega); have lR9 := hR9.two;
         have hX10 := hX9.setne (a := ⟨w.heap.size, 0, none⟩) (by show w2.heap.size ≠ w.heap.size; omega) (.slice a1 n1 c1); have k10 := hX10.one.1; have hR10 := hR9.setne (a := ⟨w.heap.size, 0, none⟩) (by show w.heap.size + 1 ≠ w.heap.size; omega) (.slice a1 n1 c1); have lR10 := hR10.two;
         have hX11 := (hX10.setne (a := ⟨w.heap.size + 1, 0, none⟩) (by show w2.heap.size ≠ w.heap.size + 1; omega) (.int .i64 S)).setne (a := ⟨w.heap.size + 1, 1, none⟩) (by show w2.heap.size ≠ w.heap.size + 1; omega) (.slice ab nb cb); have k11 := hX11.one.1))
  all_goals
    have hz9 := hg9.size
    have hB9 := below_grown hB3 hg9 (by omega)
    have hT9 := ((((hT3.grown hg9 hz1).setlo (p := ⟨w.heap.size, 0, none⟩) (by show w.heap.size < w1.heap.size; omega) (.slice a1 n1 c1)).setlo (p := ⟨w.heap.size + 1, 0, none⟩) (by show w.heap.size + 1 < w1.heap.size; omega) (.int .i64 S)).setlo (p := ⟨w.heap.size + 1, 1, none⟩) (by show w.heap.size + 1 < w1.heap.size; omega) (.slice ab nb cb))
    have hF9 := ((((hF3.grown hg9 hz1).setlo (p := ⟨w.heap.size, 0, none⟩) (by show w.heap.size < w1.heap.size; omega) (.slice a1 n1 c1)).setlo (p := ⟨w.heap.size + 1, 0, none⟩) (by show w.heap.size + 1 < w1.heap.size; omega) (.int .i64 S)).setlo (p := ⟨w.heap.size + 1, 1, none⟩) (by show w.heap.size + 1 < w1.heap.size; omega) (.slice ab nb cb))
    have ho9 := (((hob.mono (lo' := w.heap.size + 2) (by show w.heap.size + 2 ≤ w3.heap.size; omega)).setlo (p := ⟨w.heap.size, 0, none⟩) (by show w.heap.size < w.heap.size + 2; omega) (.slice a1 n1 c1)).setlo (p := ⟨w.heap.size + 1, 0, none⟩) (by show w.heap.size + 1 < w.heap.size + 2; omega) (.int .i64 S)).setlo (p := ⟨w.heap.size + 1, 1, none⟩) (by show w.heap.size + 1 < w.heap.size + 2; omega) (.slice ab nb cb)
    have hBf := below_setne (a := ⟨w.heap.size + 1, 1, none⟩) (below_setne (a := ⟨w.heap.size + 1, 0, none⟩) (below_setne (a := ⟨w.heap.size, 0, none⟩) hB9 (by show w.heap.size ≤ w.heap.size; omega) (.slice a1 n1 c1)) (by show w.heap.size ≤ w.heap.size + 1; omega) (.int .i64 S)) (by show w.heap.size ≤ w.heap.size + 1; omega) (.slice ab nb cb)
    have hW := FIN.out _ S ab nb cb ys hS1 hS2 hnb hsm ho9 hT9 hF9 hBf
    go_wp2
  all_goals exact bodyPost_ret (v := .tuple #[rAgg a1 n1 c1, .int .i64 m, .slice am nm cm, bAgg S ab nb cb]) (by simp [results, Tryz.results16, go_sem, lP9, lR9]) rfl hW
end Go.Proofs.YtpdgpgbgakinlaaGreat
