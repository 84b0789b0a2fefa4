/-
  Walks and plain laws of this seat, some texts in one.
  No condition but bounds on lengths.
-/
import Derived.Test.YtaddclaadbjnlaaGreatPs27
import Derived.Deep.RegionLaw
namespace Go.Proofs.YtaddclaadbjnlaaGreat
set_option maxRecDepth 100000
set_option linter.unusedVariables false
set_option linter.unusedSimpArgs false
open Go.RowKit
theorem make_eqN (n : Nat) (hn : n ≤ 1000000000000) : ∃ mk : World → World, ∀ v : World, (Instr.makeSlice 41 (.int .i64 n) (.int .i64 n)).run Tryz.prog v = .ok (.slice (some ⟨v.heap.size, 0, none⟩) n n) (mk v) ∧ Own (mk v) v.heap.size (some ⟨v.heap.size, 0, none⟩) n n (List.replicate n 0) ∧ Below v.heap.size v (mk v) ∧ v.heap.size < (mk v).heap.size := by
  have H : ∀ v : World, ∃ w' : World, (Instr.makeSlice 41 (.int .i64 n) (.int .i64 n)).run Tryz.prog v = .ok (.slice (some ⟨v.heap.size, 0, none⟩) n n) w' ∧ Own w' v.heap.size (some ⟨v.heap.size, 0, none⟩) n n (List.replicate n 0) ∧ Below v.heap.size v w' ∧ v.heap.size < w'.heap.size := fun v => by
    obtain ⟨i0, hi, hz0, hz1, hz2⟩ := info_parts info_int
    obtain ⟨w', hrun, r1, r2⟩ := run_make_full (P := Tryz.prog) v v.heap.size 41 2 i0 (.int .i64 0) 1 und_ints hi hz0 hz1 .i64 .i64 n (by rw [hz2]; omega) (by unfold maxLen; omega) (Nat.le_refl _)
    have ho : Own w' v.heap.size (some ⟨v.heap.size, 0, none⟩) n n (List.replicate n 0) := by
      refine ⟨by simp, ?_⟩
      have e : (madeCells (Value.int IntKind.i64 0).cells (n * 1)).toList = (List.replicate n (0 : Int)).map (.int .i64) := by
        rw [Nat.mul_one, List.map_replicate]; exact toList_madeCells_one _ _
      rw [e] at r1; exact r1
    exact ⟨w', hrun, ho, (Below.refl _ _).grown r2 (Nat.le_refl _) (by simp), ho.lt.2⟩
  obtain ⟨mk, h⟩ := Classical.axiomOfChoice H
  exact ⟨mk, h⟩
theorem make_eqB (n : Nat) (hn : n ≤ 1000000000000) : ∃ mk : World → World, ∀ v : World, (Instr.makeSlice 104 (.int .i64 n) (.int .i64 n)).run Tryz.prog v = .ok (.slice (some ⟨v.heap.size, 0, none⟩) n n) (mk v) ∧ OwnBo (mk v) v.heap.size (some ⟨v.heap.size, 0, none⟩) n n (List.replicate n false) ∧ Below v.heap.size v (mk v) ∧ v.heap.size < (mk v).heap.size := by
  have H : ∀ v : World, ∃ w' : World, (Instr.makeSlice 104 (.int .i64 n) (.int .i64 n)).run Tryz.prog v = .ok (.slice (some ⟨v.heap.size, 0, none⟩) n n) w' ∧ OwnBo w' v.heap.size (some ⟨v.heap.size, 0, none⟩) n n (List.replicate n false) ∧ Below v.heap.size v w' ∧ v.heap.size < w'.heap.size := fun v => by
    obtain ⟨i0, hi, hz0, hz1, hz2⟩ := info_parts info_bool
    obtain ⟨w', hrun, r1, r2⟩ := run_make_full (P := Tryz.prog) v v.heap.size 104 4 i0 (.bool false) 1 und_bools hi hz0 hz1 .i64 .i64 n (by rw [hz2]; omega) (by unfold maxLen; omega) (Nat.le_refl _)
    have ho : OwnBo w' v.heap.size (some ⟨v.heap.size, 0, none⟩) n n (List.replicate n false) := by
      refine ⟨by simp, ?_⟩
      have e : (madeCells (Value.bool false).cells (n * 1)).toList = (List.replicate n false).map Value.bool := by
        rw [Nat.mul_one, List.map_replicate]; exact toList_madeCells_one _ _
      rw [e] at r1; exact r1
    exact ⟨w', hrun, ho, (Below.refl _ _).grown r2 (Nat.le_refl _) (by simp), ho.lt.2⟩
  obtain ⟨mk, h⟩ := Classical.axiomOfChoice H
  exact ⟨mk, h⟩
theorem MapSt.none (n : Nat) : MapSt n (List.replicate n (-1)) (List.replicate n false) [] := by
  have h1 : ∀ a, a < n → (List.replicate n (-1 : Int)).getD a 0 = -1 := fun a ha => by simp [List.getD_eq_getElem?_getD, List.getElem?_replicate, ha]
  have h2 : ∀ a, a < n → (List.replicate n false).getD a false = false := fun a ha => by simp [List.getD_eq_getElem?_getD, List.getElem?_replicate, ha]
  have h3 : ∀ a v, a < n → ¬ Mp (List.replicate n (-1)) a v := fun a v ha q => by unfold Mp at q; rw [h1 a ha] at q; omega
  refine ⟨by simp, by simp, fun a ha => .inl (h1 a ha), fun a b v ha _ q _ => absurd q (h3 a v ha), fun v hv => ?_, fun x hx => (by simp at hx), fun a ha => ?_, by simp⟩
  · rw [h2 v hv]
    exact ⟨(fun q => by cases q), fun ⟨a, ha, q⟩ => absurd q (h3 a v ha)⟩
  · exact ⟨(fun q => by simp at q), fun ⟨v, q⟩ => absurd q (h3 a v ha)⟩
theorem ClS.none (n : Nat) (ts us : List (List (List Int))) : ClS n ts us (List.replicate n (-1)) := fun a b ha _ ma _ => by
  obtain ⟨u, q⟩ := ma
  unfold Mp at q
  rw [show (List.replicate n (-1 : Int)).getD a 0 = -1 by simp [List.getD_eq_getElem?_getD, List.getElem?_replicate, ha]] at q
  omega
def YA (n : Nat) (ts us : List (List (List Int))) (Y : List (List Int)) : Prop := Y.Nodup ∧ ∀ l, l ∈ Y ↔ IsoL n ts us l
theorem YA.of {n : Nat} {ts us : List (List (List Int))} {Y : List (List Int)} (h : YS n ts us (List.replicate n (-1)) Y) : YA n ts us Y := by
  refine ⟨h.1, fun l => ?_⟩
  rw [h.2 l]
  refine ⟨fun q => q.1, fun q => ⟨q, fun a v ha hm => ?_⟩⟩
  unfold Mp at hm
  rw [show (List.replicate n (-1 : Int)).getD a 0 = -1 by simp [List.getD_eq_getElem?_getD, List.getElem?_replicate, ha]] at hm
  omega
def MadeM (mb bi bu gf gt K kf kt n : Nat) (im : List Int) (W v : World) : Prop :=
  Loc v mb #[.slice (some ⟨gf, 0, none⟩) K kf, .slice (some ⟨gt, 0, none⟩) K kt, .slice (some ⟨bi, 0, none⟩) n n, .slice (some ⟨bu, 0, none⟩) n n, .slice none 0 0] 106 ∧ Own v W.heap.size (some ⟨bi, 0, none⟩) n n im ∧ OwnBo v W.heap.size (some ⟨bu, 0, none⟩) n n (List.replicate n false) ∧ W.heap.size ≤ mb ∧ bi ≠ mb ∧ bu ≠ mb ∧ bi ≠ bu ∧ Below W.heap.size W v
abbrev zM : Array Value := #[.slice none 0 0, .slice none 0 0, .slice none 0 0, .slice none 0 0, .slice none 0 0]
theorem Loc.fiveF {w : World} {b : Nat} {x y z u v : Value} {t : TypeId} (h : Loc w b #[x, y, z, u, v] t) : w.cell? ⟨b, 0, none⟩ = some x ∧ w.cell? ⟨b, 1, none⟩ = some y ∧ w.cell? ⟨b, 2, none⟩ = some z ∧ w.cell? ⟨b, 3, none⟩ = some u ∧ w.cell? ⟨b, 4, none⟩ = some v ∧ w.frozen? ⟨b, 0, none⟩ = false ∧ w.frozen? ⟨b, 1, none⟩ = false ∧ w.frozen? ⟨b, 2, none⟩ = false ∧ w.frozen? ⟨b, 3, none⟩ = false ∧ w.frozen? ⟨b, 4, none⟩ = false :=
  ⟨h.cell 0 rfl, h.cell 1 rfl, h.cell 2 rfl, h.cell 3 rfl, h.cell 4 rfl, h.free 0, h.free 1, h.free 2, h.free 3, h.free 4⟩
theorem made_set {mb bi bu gf gt K kf kt n : Nat} {W v : World} {im : List Int} (h : Loc v mb zM 106) (h1 : Own v W.heap.size (some ⟨bi, 0, none⟩) n n im) (h2 : OwnBo v W.heap.size (some ⟨bu, 0, none⟩) n n (List.replicate n false)) (h3 : W.heap.size ≤ mb) (d1 : bi ≠ mb) (d2 : bu ≠ mb) (d3 : bi ≠ bu) (hB : Below W.heap.size W v) :
    MadeM mb bi bu gf gt K kf kt n im W (((((v.setCell ⟨mb, 0, none⟩ (.slice (some ⟨gf, 0, none⟩) K kf)).setCell ⟨mb, 1, none⟩ (.slice (some ⟨gt, 0, none⟩) K kt)).setCell ⟨mb, 2, none⟩ (.slice (some ⟨bi, 0, none⟩) n n)).setCell ⟨mb, 3, none⟩ (.slice (some ⟨bu, 0, none⟩) n n)).setCell ⟨mb, 4, none⟩ (.slice none 0 0)) := by
  refine ⟨((((h.set 0 _).set 1 _).set 2 _).set 3 _).set 4 _, ?_, ?_, h3, d1, d2, d3, ?_⟩
  · exact ((((h1.setne (fun g e => by cases e; exact d1) _).setne (fun g e => by cases e; exact d1) _).setne (fun g e => by cases e; exact d1) _).setne (fun g e => by cases e; exact d1) _).setne (fun g e => by cases e; exact d1) _
  · exact ((((h2.setne (fun g e => by cases e; exact d2) _).setne (fun g e => by cases e; exact d2) _).setne (fun g e => by cases e; exact d2) _).setne (fun g e => by cases e; exact d2) _).setne (fun g e => by cases e; exact d2) _
  · exact below_setne (below_setne (below_setne (below_setne (below_setne hB h3 _) h3 _) h3 _) h3 _) h3 _
theorem setrep {n k : Nat} (h : k < n) : (List.replicate k (-1 : Int) ++ List.replicate (n - k) 0).set k (-1) = List.replicate (k + 1) (-1) ++ List.replicate (n - (k + 1)) 0 := by
  apply List.ext_getElem
  · simp; omega
  · intro i h1 h2
    rw [List.getElem_set]
    by_cases e : k = i
    · subst e; simp [List.getElem_append]
    · rw [if_neg e]
      by_cases q : i < k
      · simp [List.getElem_append, q, show i < k + 1 by omega]
      · simp [List.getElem_append, q, show ¬ i < k + 1 by omega]
set_option maxHeartbeats 64000000 in
theorem iso1_any {S0 : Nat → Prop} {W : World} {gf gt K kf kt n : Nat} {ts us : List (List (List Int))} (B1 B2 : Nat) (BB OO CC DB DO DC : Nat → Nat) (AA AO AC EA EO EC : Nat → Nat → Nat) (hT : TB S0 W gf K n BB OO CC AA AO AC ts) (hU : TB S0 W gt K n DB DO DC EA EO EC us) (hn1 : 1 ≤ n) (hn : n ≤ 12) (hK1 : 1 ≤ K) (hK : K ≤ 2) (h0 : ∀ g, S0 g → g < W.heap.size)
    (hB1 : Loc W B1 #[.slice (some ⟨gf, 0, none⟩) K kf] 70) (hB2 : Loc W B2 #[.slice (some ⟨gt, 0, none⟩) K kt] 70)
    (l : Nat) (J Js : (Nat → Prop) → List (List Int) → World → Prop) (hY : ∀ bi, YOk S0 W bi n ts us l J Js) (hJo : JOk J) (hJs : JOk Js) (hJ0 : ∀ S A, (∀ g, S g → W.heap.size ≤ g ∧ g < A.heap.size) → Below W.heap.size W A → J S [] A) :
    Calls Tryz.prog 94 #[.func (.yield l) #[] #[], .pointer (some ⟨B1, 0, none⟩), .pointer (some ⟨B2, 0, none⟩)] W fun e W' => (∃ v, e = .returned v) ∧ ((∃ S Y, YA n ts us Y ∧ J S Y W') ∨ ∃ S Z, Js S Z W') := by
  have c1 := hB1.one
  have c2 := hB2.one
  have h1 := hT.cell W (Marked.refl _ _) 0 (by omega)
  have h2 := hU.cell W (Marked.refl _ _) 0 (by omega)
  have HT := Lib.hid hT; have HU := Lib.hid hU; have HY := Lib.hid hY; have HJO := Lib.hid hJo; have HJS := Lib.hid hJs; have HJ0 := Lib.hid hJ0; have H0 := Lib.hid h0
  obtain ⟨mkI, hmkI⟩ := make_eqN n (by omega)
  obtain ⟨mkB, hmkB⟩ := make_eqB n (by omega)
  have HMI := Lib.hid hmkI; have HMB := Lib.hid hmkB
  have eqI := fun v => (hmkI v).1
  have eqB := fun v => (hmkB v).1
  have k1 : (0 : Int) < (K : Int) := by omega
  have nn : ((n : Int) != (n : Int)) = false := by simp
  clear hT hU hY hJo hJs hJ0 h0 hmkI hmkB
  go_enter Tryz.func94, Tryz.ntmps94
  go_upto_region 2 with fail
  go_cut [5] (fun s5 wx => ∃ mb bi bu, s5 = .pointer (some ⟨mb, 0, none⟩) ∧ MadeM mb bi bu gf gt K kf kt n (List.replicate n 0) W wx)
  case first =>
    have hBI : ∀ v, Below W.heap.size W v → Below W.heap.size W (mkI v) := fun v q => below_th q (HMI.out v).2.2.1
    have hBB : ∀ v, Below W.heap.size W v → Below W.heap.size W (mkB v) := fun v q => below_th q (HMB.out v).2.2.1
    have hKeep : ∀ v, Below W.heap.size W v → v.cell? ⟨B1, 0, none⟩ = some (.slice (some ⟨gf, 0, none⟩) K kf) ∧ v.cell? ⟨B2, 0, none⟩ = some (.slice (some ⟨gt, 0, none⟩) K kt) := fun v q => ⟨(hB1.below q hB1.lt).one.1, (hB2.below q hB2.lt).one.1⟩
    have HBI := Lib.hid hBI; have HBB := Lib.hid hBB; have HKP := Lib.hid hKeep
    clear hBI hBB hKeep
    refine wp_region_noPanic ?_
    refine wp_region_held_drew (S := (fun v => v.cell? ⟨B1, 0, none⟩ = some (.slice (some ⟨gf, 0, none⟩) K kf) ∧ v.cell? ⟨B2, 0, none⟩ = some (.slice (some ⟨gt, 0, none⟩) K kt))) (by kernel_rfl) (by (try dsimp only); first | exact ⟨c1.1, c2.1⟩ | go_keep) (fun hHeld1 => ?_)
    refine' wpAnyH_take (i := 0) (v := _) rfl (by kernel_rfl) (by kernel_rfl) (by kernel_rfl) (fun _ _ _ h => h) (Or.inl ⟨by rfl, ?hy0⟩) (by assumption) ?_
    case hy0 => (intro w' hSw; (try dsimp only at hSw); go_simp; (try with_reducible rfl))
    (try simp only [Act.put, List.getElem_toArray, List.getElem_cons_zero, List.getElem_cons_succ, List.setIfInBounds_toArray, List.set_cons_zero, List.set_cons_succ])
    refine' wpAnyH_take (i := 1) (v := _) rfl (by kernel_rfl) (by kernel_rfl) (by kernel_rfl) (fun _ _ _ h => h) (Or.inl ⟨by rfl, ?hy1⟩) (by assumption) ?_
    case hy1 => (intro w' hSw; (try dsimp only at hSw); go_simp; (try with_reducible rfl))
    (try simp only [Act.put, List.getElem_toArray, List.getElem_cons_zero, List.getElem_cons_succ, List.setIfInBounds_toArray, List.set_cons_zero, List.set_cons_succ])
    refine' wpAnyH_take (i := 2) (v := _) rfl (by kernel_rfl) (by kernel_rfl) (by kernel_rfl) (fun _ _ _ h => h) (Or.inl ⟨by rfl, ?hy2⟩) (by assumption) ?_
    case hy2 => (intro w' hSw; (try dsimp only at hSw); go_simp; (try with_reducible rfl))
    (try simp only [Act.put, List.getElem_toArray, List.getElem_cons_zero, List.getElem_cons_succ, List.setIfInBounds_toArray, List.set_cons_zero, List.set_cons_succ])
    refine' wpAnyH_take (i := 4) (v := _) rfl (by kernel_rfl) (by kernel_rfl) (by kernel_rfl) (fun _ _ _ h => h) (Or.inl ⟨by rfl, ?hy4⟩) (by assumption) ?_
    case hy4 => (intro w' hSw; (try dsimp only at hSw); go_simp; (try with_reducible rfl))
    (try simp only [Act.put, List.getElem_toArray, List.getElem_cons_zero, List.getElem_cons_succ, List.setIfInBounds_toArray, List.set_cons_zero, List.set_cons_succ])
    refine wpAnyH_ready (rs := [3, 5, 7]) (by kernel_rfl) (by simp) ?_
    refine AllReadyH.cons rfl (fun K' hK' => ?_) ?_
    · skip
      go_simp
      refine hK'.out _ _ (by (try dsimp only); exact HKP.out _ (by repeat (with_reducible first | exact Below.refl _ _ | exact Below.drew (Below.refl _ _) | refine HBI.out _ ?_ | refine HBB.out _ ?_ | refine below_al ?_ _ | refine Below.drew ?_ | refine below_drewN ?_ _))) (fun hHeld2 => ?_)
      clear hK' K' hHeld1
      (try simp only [Act.put, List.getElem_toArray, List.getElem_cons_zero, List.getElem_cons_succ, List.setIfInBounds_toArray, List.set_cons_zero, List.set_cons_succ])
      refine wpAnyH_ready (rs := [5, 7]) (by kernel_rfl) (by simp) ?_
      refine AllReadyH.cons rfl (fun K' hK' => ?_) ?_
      · skip
        go_simp
        refine hK'.out _ _ (by (try dsimp only); exact HKP.out _ (by repeat (with_reducible first | exact Below.refl _ _ | exact Below.drew (Below.refl _ _) | refine HBI.out _ ?_ | refine HBB.out _ ?_ | refine below_al ?_ _ | refine Below.drew ?_ | refine below_drewN ?_ _))) (fun hHeld3 => ?_)
        clear hK' K' hHeld2
        (try simp only [Act.put, List.getElem_toArray, List.getElem_cons_zero, List.getElem_cons_succ, List.setIfInBounds_toArray, List.set_cons_zero, List.set_cons_succ])
        refine' wpAnyH_take (i := 6) (v := _) rfl (by kernel_rfl) (by kernel_rfl) (by kernel_rfl) (fun _ _ _ h => h) (Or.inl ⟨by rfl, ?hy6⟩) (by assumption) ?_
        case hy6 => (intro w' hSw; (try dsimp only at hSw); go_simp; (try with_reducible rfl))
        (try simp only [Act.put, List.getElem_toArray, List.getElem_cons_zero, List.getElem_cons_succ, List.setIfInBounds_toArray, List.set_cons_zero, List.set_cons_succ])
        refine wpAnyH_ready (rs := [7]) (by kernel_rfl) (by simp) ?_
        refine AllReadyH.cons rfl (fun K' hK' => ?_) AllReadyH.nil
        go_simp
        refine hK'.out _ _ (by (try dsimp only); exact HKP.out _ (by repeat (with_reducible first | exact Below.refl _ _ | exact Below.drew (Below.refl _ _) | refine HBI.out _ ?_ | refine HBB.out _ ?_ | refine below_al ?_ _ | refine Below.drew ?_ | refine below_drewN ?_ _))) (fun hHeld4 => ?_)
        clear hK' K' hHeld3
        (try simp only [Act.put, List.getElem_toArray, List.getElem_cons_zero, List.getElem_cons_succ, List.setIfInBounds_toArray, List.set_cons_zero, List.set_cons_succ])
        have hI := ((((HMI.out W.drew).2.1).below (HMB.out _).2.2.1).alloc (.cells #[.slice none 0 0, .slice none 0 0, .slice none 0 0, .slice none 0 0, .slice none 0 0] 106))
        have hO := (((HMB.out (mkI W.drew)).2.1).alloc (.cells #[.slice none 0 0, .slice none 0 0, .slice none 0 0, .slice none 0 0, .slice none 0 0] 106))
        have hL := (Loc.new (mkB (mkI W.drew)) rfl #[.slice none 0 0, .slice none 0 0, .slice none 0 0, .slice none 0 0, .slice none 0 0] 106)
        have hBB' : Below W.heap.size W ((mkB (mkI W.drew)).alloc (.cells #[.slice none 0 0, .slice none 0 0, .slice none 0 0, .slice none 0 0, .slice none 0 0] 106)) := by repeat (with_reducible first | exact Below.refl _ _ | exact Below.drew (Below.refl _ _) | refine HBI.out _ ?_ | refine HBB.out _ ?_ | refine below_al ?_ _ | refine Below.drew ?_ | refine below_drewN ?_ _)
        have g0 := (HMI.out W.drew).2.2.2
        have g1 := (HMB.out (mkI W.drew)).2.2.2
        have g2 : (mkB (mkI W.drew)).heap.size < ((mkB (mkI W.drew)).alloc (.cells #[.slice none 0 0, .slice none 0 0, .slice none 0 0, .slice none 0 0, .slice none 0 0] 106)).heap.size := by simp
        have gW : W.heap.size ≤ W.drew.heap.size := Nat.le_refl _
        obtain ⟨V, hV⟩ : ∃ V : World, ((mkB (mkI W.drew)).alloc (.cells #[.slice none 0 0, .slice none 0 0, .slice none 0 0, .slice none 0 0, .slice none 0 0] 106)) = V := ⟨_, rfl⟩
        rw [hV] at hI hO hL hBB' g2 hHeld4 ⊢
        have ebi : W.drew.heap.size = W.heap.size := by simp
        rw [ebi] at hI
        obtain ⟨bi, hbi⟩ : ∃ b, W.heap.size = b := ⟨_, rfl⟩
        have ebu : True := trivial
        obtain ⟨bu, hbu⟩ : ∃ b, (mkI W.drew).heap.size = b := ⟨_, rfl⟩
        have emb : True := trivial
        obtain ⟨mb, hmb⟩ : ∃ b, (mkB (mkI W.drew)).heap.size = b := ⟨_, rfl⟩
        have hI' : Own V W.heap.size (some ⟨bi, 0, none⟩) n n (List.replicate n 0) := by rw [← hbi]; exact hI.mono (by omega)
        have hO' : OwnBo V W.heap.size (some ⟨bu, 0, none⟩) n n (List.replicate n false) := by rw [← hbu]; exact hO.mono (by omega)
        have hL' : Loc V mb #[.slice none 0 0, .slice none 0 0, .slice none 0 0, .slice none 0 0, .slice none 0 0] 106 := by rw [← hmb]; exact hL
        have hd : W.heap.size ≤ mb ∧ bi ≠ mb ∧ bu ≠ mb ∧ bi ≠ bu := by omega
        rw [hbi]
        rw [hbu]
        rw [hmb]
        have HF := Lib.hid (made_set (gf := gf) (gt := gt) (K := K) (kf := kf) (kt := kt) hL' hI' hO' hd.1 hd.2.1 hd.2.2.1 hd.2.2.2 hBB')
        have f := hL'.fiveF
        have hKS : Hid (∀ u0 u1 u2 u3 u4, Below W.heap.size W (((((V.setCell ⟨mb, 0, none⟩ u0).setCell ⟨mb, 1, none⟩ u1).setCell ⟨mb, 2, none⟩ u2).setCell ⟨mb, 3, none⟩ u3).setCell ⟨mb, 4, none⟩ u4)) := Lib.hid fun u0 u1 u2 u3 u4 => below_setne (below_setne (below_setne (below_setne (below_setne hBB' hd.1 _) hd.1 _) hd.1 _) hd.1 _) hd.1 _
        clear hI hO hL hL' hI' hO' hd hBB' hbi hbu hmb hV g0 g1 g2 gW eqI eqB ebi ebu emb
        refine wpAnyH_ready (rs := [8]) (by kernel_rfl) (by simp) ?_
        refine AllReadyH.cons rfl (fun K' hK' => ?_) AllReadyH.nil
        go_simp
        refine hK'.out _ _ (by (try dsimp only); exact HKP.out _ (hKS.out _ _ _ _ _)) (fun hHeldZ => ?_)
        clear hK' K'
        (try simp only [Act.put, List.getElem_toArray, List.getElem_cons_zero, List.getElem_cons_succ, List.setIfInBounds_toArray, List.set_cons_zero, List.set_cons_succ])
        refine wpAnyH_done (by kernel_rfl) ?_ _
        refine NoPanic.normal ?_
        go_wp2
        go_meet
        exact ⟨mb, bi, bu, rfl, HF.out⟩
      refine AllReadyH.cons rfl (fun K' hK' => ?_) AllReadyH.nil
      go_simp
      refine hK'.out _ _ (by (try dsimp only); exact HKP.out _ (by repeat (with_reducible first | exact Below.refl _ _ | exact Below.drew (Below.refl _ _) | refine HBI.out _ ?_ | refine HBB.out _ ?_ | refine below_al ?_ _ | refine Below.drew ?_ | refine below_drewN ?_ _))) (fun hHeld3 => ?_)
      clear hK' K' hHeld2
      (try simp only [Act.put, List.getElem_toArray, List.getElem_cons_zero, List.getElem_cons_succ, List.setIfInBounds_toArray, List.set_cons_zero, List.set_cons_succ])
      refine wpAnyH_ready (rs := [5]) (by kernel_rfl) (by simp) ?_
      refine AllReadyH.cons rfl (fun K' hK' => ?_) AllReadyH.nil
      go_simp
      refine hK'.out _ _ (by (try dsimp only); exact HKP.out _ (by repeat (with_reducible first | exact Below.refl _ _ | exact Below.drew (Below.refl _ _) | refine HBI.out _ ?_ | refine HBB.out _ ?_ | refine below_al ?_ _ | refine Below.drew ?_ | refine below_drewN ?_ _))) (fun hHeld4 => ?_)
      clear hK' K' hHeld3
      (try simp only [Act.put, List.getElem_toArray, List.getElem_cons_zero, List.getElem_cons_succ, List.setIfInBounds_toArray, List.set_cons_zero, List.set_cons_succ])
      refine' wpAnyH_take (i := 6) (v := _) rfl (by kernel_rfl) (by kernel_rfl) (by kernel_rfl) (fun _ _ _ h => h) (Or.inl ⟨by rfl, ?hy6⟩) (by assumption) ?_
      case hy6 => (intro w' hSw; (try dsimp only at hSw); go_simp; (try with_reducible rfl))
      (try simp only [Act.put, List.getElem_toArray, List.getElem_cons_zero, List.getElem_cons_succ, List.setIfInBounds_toArray, List.set_cons_zero, List.set_cons_succ])
      have hI := ((((HMI.out W.drew).2.1).alloc (.cells #[.slice none 0 0, .slice none 0 0, .slice none 0 0, .slice none 0 0, .slice none 0 0] 106)).below (HMB.out _).2.2.1)
      have hO := ((HMB.out ((mkI W.drew).alloc (.cells #[.slice none 0 0, .slice none 0 0, .slice none 0 0, .slice none 0 0, .slice none 0 0] 106))).2.1)
      have hL := (Loc.below (Loc.new (mkI W.drew) rfl #[.slice none 0 0, .slice none 0 0, .slice none 0 0, .slice none 0 0, .slice none 0 0] 106) (HMB.out _).2.2.1 (Loc.lt (Loc.new (mkI W.drew) rfl #[.slice none 0 0, .slice none 0 0, .slice none 0 0, .slice none 0 0, .slice none 0 0] 106)))
      have hBB' : Below W.heap.size W (mkB ((mkI W.drew).alloc (.cells #[.slice none 0 0, .slice none 0 0, .slice none 0 0, .slice none 0 0, .slice none 0 0] 106))) := by repeat (with_reducible first | exact Below.refl _ _ | exact Below.drew (Below.refl _ _) | refine HBI.out _ ?_ | refine HBB.out _ ?_ | refine below_al ?_ _ | refine Below.drew ?_ | refine below_drewN ?_ _)
      have g0 := (HMI.out W.drew).2.2.2
      have g1 : (mkI W.drew).heap.size < ((mkI W.drew).alloc (.cells #[.slice none 0 0, .slice none 0 0, .slice none 0 0, .slice none 0 0, .slice none 0 0] 106)).heap.size := by simp
      have g2 := (HMB.out ((mkI W.drew).alloc (.cells #[.slice none 0 0, .slice none 0 0, .slice none 0 0, .slice none 0 0, .slice none 0 0] 106))).2.2.2
      have gW : W.heap.size ≤ W.drew.heap.size := Nat.le_refl _
      obtain ⟨V, hV⟩ : ∃ V : World, (mkB ((mkI W.drew).alloc (.cells #[.slice none 0 0, .slice none 0 0, .slice none 0 0, .slice none 0 0, .slice none 0 0] 106))) = V := ⟨_, rfl⟩
      rw [hV] at hI hO hL hBB' g2 hHeld4 ⊢
      have ebi : W.drew.heap.size = W.heap.size := by simp
      rw [ebi] at hI
      obtain ⟨bi, hbi⟩ : ∃ b, W.heap.size = b := ⟨_, rfl⟩
      have ebu : ((mkI W.drew).alloc (.cells #[.slice none 0 0, .slice none 0 0, .slice none 0 0, .slice none 0 0, .slice none 0 0] 106)).heap.size = (mkI W.drew).heap.size + 1 := by simp
      rw [ebu] at hO
      obtain ⟨bu, hbu⟩ : ∃ b, (mkI W.drew).heap.size + 1 = b := ⟨_, rfl⟩
      have emb : True := trivial
      obtain ⟨mb, hmb⟩ : ∃ b, (mkI W.drew).heap.size = b := ⟨_, rfl⟩
      have hI' : Own V W.heap.size (some ⟨bi, 0, none⟩) n n (List.replicate n 0) := by rw [← hbi]; exact hI.mono (by omega)
      have hO' : OwnBo V W.heap.size (some ⟨bu, 0, none⟩) n n (List.replicate n false) := by rw [← hbu]; exact hO.mono (by omega)
      have hL' : Loc V mb #[.slice none 0 0, .slice none 0 0, .slice none 0 0, .slice none 0 0, .slice none 0 0] 106 := by rw [← hmb]; exact hL
      have hd : W.heap.size ≤ mb ∧ bi ≠ mb ∧ bu ≠ mb ∧ bi ≠ bu := by omega
      rw [hbi]
      rw [hbu]
      rw [hmb]
      have HF := Lib.hid (made_set (gf := gf) (gt := gt) (K := K) (kf := kf) (kt := kt) hL' hI' hO' hd.1 hd.2.1 hd.2.2.1 hd.2.2.2 hBB')
      have f := hL'.fiveF
      have hKS : Hid (∀ u0 u1 u2 u3 u4, Below W.heap.size W (((((V.setCell ⟨mb, 0, none⟩ u0).setCell ⟨mb, 1, none⟩ u1).setCell ⟨mb, 2, none⟩ u2).setCell ⟨mb, 3, none⟩ u3).setCell ⟨mb, 4, none⟩ u4)) := Lib.hid fun u0 u1 u2 u3 u4 => below_setne (below_setne (below_setne (below_setne (below_setne hBB' hd.1 _) hd.1 _) hd.1 _) hd.1 _) hd.1 _
      clear hI hO hL hL' hI' hO' hd hBB' hbi hbu hmb hV g0 g1 g2 gW eqI eqB ebi ebu emb
      refine wpAnyH_ready (rs := [8]) (by kernel_rfl) (by simp) ?_
      refine AllReadyH.cons rfl (fun K' hK' => ?_) AllReadyH.nil
      go_simp
      refine hK'.out _ _ (by (try dsimp only); exact HKP.out _ (hKS.out _ _ _ _ _)) (fun hHeldZ => ?_)
      clear hK' K'
      (try simp only [Act.put, List.getElem_toArray, List.getElem_cons_zero, List.getElem_cons_succ, List.setIfInBounds_toArray, List.set_cons_zero, List.set_cons_succ])
      refine wpAnyH_done (by kernel_rfl) ?_ _
      refine NoPanic.normal ?_
      go_wp2
      go_meet
      exact ⟨mb, bi, bu, rfl, HF.out⟩
    refine AllReadyH.cons rfl (fun K' hK' => ?_) ?_
    · skip
      go_simp
      refine hK'.out _ _ (by (try dsimp only); exact HKP.out _ (by repeat (with_reducible first | exact Below.refl _ _ | exact Below.drew (Below.refl _ _) | refine HBI.out _ ?_ | refine HBB.out _ ?_ | refine below_al ?_ _ | refine Below.drew ?_ | refine below_drewN ?_ _))) (fun hHeld2 => ?_)
      clear hK' K' hHeld1
      (try simp only [Act.put, List.getElem_toArray, List.getElem_cons_zero, List.getElem_cons_succ, List.setIfInBounds_toArray, List.set_cons_zero, List.set_cons_succ])
      refine wpAnyH_ready (rs := [3, 7]) (by kernel_rfl) (by simp) ?_
      refine AllReadyH.cons rfl (fun K' hK' => ?_) ?_
      · skip
        go_simp
        refine hK'.out _ _ (by (try dsimp only); exact HKP.out _ (by repeat (with_reducible first | exact Below.refl _ _ | exact Below.drew (Below.refl _ _) | refine HBI.out _ ?_ | refine HBB.out _ ?_ | refine below_al ?_ _ | refine Below.drew ?_ | refine below_drewN ?_ _))) (fun hHeld3 => ?_)
        clear hK' K' hHeld2
        (try simp only [Act.put, List.getElem_toArray, List.getElem_cons_zero, List.getElem_cons_succ, List.setIfInBounds_toArray, List.set_cons_zero, List.set_cons_succ])
        refine' wpAnyH_take (i := 6) (v := _) rfl (by kernel_rfl) (by kernel_rfl) (by kernel_rfl) (fun _ _ _ h => h) (Or.inl ⟨by rfl, ?hy6⟩) (by assumption) ?_
        case hy6 => (intro w' hSw; (try dsimp only at hSw); go_simp; (try with_reducible rfl))
        (try simp only [Act.put, List.getElem_toArray, List.getElem_cons_zero, List.getElem_cons_succ, List.setIfInBounds_toArray, List.set_cons_zero, List.set_cons_succ])
        refine wpAnyH_ready (rs := [7]) (by kernel_rfl) (by simp) ?_
        refine AllReadyH.cons rfl (fun K' hK' => ?_) AllReadyH.nil
        go_simp
        refine hK'.out _ _ (by (try dsimp only); exact HKP.out _ (by repeat (with_reducible first | exact Below.refl _ _ | exact Below.drew (Below.refl _ _) | refine HBI.out _ ?_ | refine HBB.out _ ?_ | refine below_al ?_ _ | refine Below.drew ?_ | refine below_drewN ?_ _))) (fun hHeld4 => ?_)
        clear hK' K' hHeld3
        (try simp only [Act.put, List.getElem_toArray, List.getElem_cons_zero, List.getElem_cons_succ, List.setIfInBounds_toArray, List.set_cons_zero, List.set_cons_succ])
        have hI := (((HMI.out (mkB W.drew)).2.1).alloc (.cells #[.slice none 0 0, .slice none 0 0, .slice none 0 0, .slice none 0 0, .slice none 0 0] 106))
        have hO := ((((HMB.out W.drew).2.1).below (HMI.out _).2.2.1).alloc (.cells #[.slice none 0 0, .slice none 0 0, .slice none 0 0, .slice none 0 0, .slice none 0 0] 106))
        have hL := (Loc.new (mkI (mkB W.drew)) rfl #[.slice none 0 0, .slice none 0 0, .slice none 0 0, .slice none 0 0, .slice none 0 0] 106)
        have hBB' : Below W.heap.size W ((mkI (mkB W.drew)).alloc (.cells #[.slice none 0 0, .slice none 0 0, .slice none 0 0, .slice none 0 0, .slice none 0 0] 106)) := by repeat (with_reducible first | exact Below.refl _ _ | exact Below.drew (Below.refl _ _) | refine HBI.out _ ?_ | refine HBB.out _ ?_ | refine below_al ?_ _ | refine Below.drew ?_ | refine below_drewN ?_ _)
        have g0 := (HMB.out W.drew).2.2.2
        have g1 := (HMI.out (mkB W.drew)).2.2.2
        have g2 : (mkI (mkB W.drew)).heap.size < ((mkI (mkB W.drew)).alloc (.cells #[.slice none 0 0, .slice none 0 0, .slice none 0 0, .slice none 0 0, .slice none 0 0] 106)).heap.size := by simp
        have gW : W.heap.size ≤ W.drew.heap.size := Nat.le_refl _
        obtain ⟨V, hV⟩ : ∃ V : World, ((mkI (mkB W.drew)).alloc (.cells #[.slice none 0 0, .slice none 0 0, .slice none 0 0, .slice none 0 0, .slice none 0 0] 106)) = V := ⟨_, rfl⟩
        rw [hV] at hI hO hL hBB' g2 hHeld4 ⊢
        have ebi : True := trivial
        obtain ⟨bi, hbi⟩ : ∃ b, (mkB W.drew).heap.size = b := ⟨_, rfl⟩
        have ebu : W.drew.heap.size = W.heap.size := by simp
        rw [ebu] at hO
        obtain ⟨bu, hbu⟩ : ∃ b, W.heap.size = b := ⟨_, rfl⟩
        have emb : True := trivial
        obtain ⟨mb, hmb⟩ : ∃ b, (mkI (mkB W.drew)).heap.size = b := ⟨_, rfl⟩
        have hI' : Own V W.heap.size (some ⟨bi, 0, none⟩) n n (List.replicate n 0) := by rw [← hbi]; exact hI.mono (by omega)
        have hO' : OwnBo V W.heap.size (some ⟨bu, 0, none⟩) n n (List.replicate n false) := by rw [← hbu]; exact hO.mono (by omega)
        have hL' : Loc V mb #[.slice none 0 0, .slice none 0 0, .slice none 0 0, .slice none 0 0, .slice none 0 0] 106 := by rw [← hmb]; exact hL
        have hd : W.heap.size ≤ mb ∧ bi ≠ mb ∧ bu ≠ mb ∧ bi ≠ bu := by omega
        rw [hbi]
        rw [hbu]
        rw [hmb]
        have HF := Lib.hid (made_set (gf := gf) (gt := gt) (K := K) (kf := kf) (kt := kt) hL' hI' hO' hd.1 hd.2.1 hd.2.2.1 hd.2.2.2 hBB')
        have f := hL'.fiveF
        have hKS : Hid (∀ u0 u1 u2 u3 u4, Below W.heap.size W (((((V.setCell ⟨mb, 0, none⟩ u0).setCell ⟨mb, 1, none⟩ u1).setCell ⟨mb, 2, none⟩ u2).setCell ⟨mb, 3, none⟩ u3).setCell ⟨mb, 4, none⟩ u4)) := Lib.hid fun u0 u1 u2 u3 u4 => below_setne (below_setne (below_setne (below_setne (below_setne hBB' hd.1 _) hd.1 _) hd.1 _) hd.1 _) hd.1 _
        clear hI hO hL hL' hI' hO' hd hBB' hbi hbu hmb hV g0 g1 g2 gW eqI eqB ebi ebu emb
        refine wpAnyH_ready (rs := [8]) (by kernel_rfl) (by simp) ?_
        refine AllReadyH.cons rfl (fun K' hK' => ?_) AllReadyH.nil
        go_simp
        refine hK'.out _ _ (by (try dsimp only); exact HKP.out _ (hKS.out _ _ _ _ _)) (fun hHeldZ => ?_)
        clear hK' K'
        (try simp only [Act.put, List.getElem_toArray, List.getElem_cons_zero, List.getElem_cons_succ, List.setIfInBounds_toArray, List.set_cons_zero, List.set_cons_succ])
        refine wpAnyH_done (by kernel_rfl) ?_ _
        refine NoPanic.normal ?_
        go_wp2
        go_meet
        exact ⟨mb, bi, bu, rfl, HF.out⟩
      refine AllReadyH.cons rfl (fun K' hK' => ?_) AllReadyH.nil
      go_simp
      refine hK'.out _ _ (by (try dsimp only); exact HKP.out _ (by repeat (with_reducible first | exact Below.refl _ _ | exact Below.drew (Below.refl _ _) | refine HBI.out _ ?_ | refine HBB.out _ ?_ | refine below_al ?_ _ | refine Below.drew ?_ | refine below_drewN ?_ _))) (fun hHeld3 => ?_)
      clear hK' K' hHeld2
      (try simp only [Act.put, List.getElem_toArray, List.getElem_cons_zero, List.getElem_cons_succ, List.setIfInBounds_toArray, List.set_cons_zero, List.set_cons_succ])
      refine wpAnyH_ready (rs := [3]) (by kernel_rfl) (by simp) ?_
      refine AllReadyH.cons rfl (fun K' hK' => ?_) AllReadyH.nil
      go_simp
      refine hK'.out _ _ (by (try dsimp only); exact HKP.out _ (by repeat (with_reducible first | exact Below.refl _ _ | exact Below.drew (Below.refl _ _) | refine HBI.out _ ?_ | refine HBB.out _ ?_ | refine below_al ?_ _ | refine Below.drew ?_ | refine below_drewN ?_ _))) (fun hHeld4 => ?_)
      clear hK' K' hHeld3
      (try simp only [Act.put, List.getElem_toArray, List.getElem_cons_zero, List.getElem_cons_succ, List.setIfInBounds_toArray, List.set_cons_zero, List.set_cons_succ])
      refine' wpAnyH_take (i := 6) (v := _) rfl (by kernel_rfl) (by kernel_rfl) (by kernel_rfl) (fun _ _ _ h => h) (Or.inl ⟨by rfl, ?hy6⟩) (by assumption) ?_
      case hy6 => (intro w' hSw; (try dsimp only at hSw); go_simp; (try with_reducible rfl))
      (try simp only [Act.put, List.getElem_toArray, List.getElem_cons_zero, List.getElem_cons_succ, List.setIfInBounds_toArray, List.set_cons_zero, List.set_cons_succ])
      have hI := ((HMI.out ((mkB W.drew).alloc (.cells #[.slice none 0 0, .slice none 0 0, .slice none 0 0, .slice none 0 0, .slice none 0 0] 106))).2.1)
      have hO := ((((HMB.out W.drew).2.1).alloc (.cells #[.slice none 0 0, .slice none 0 0, .slice none 0 0, .slice none 0 0, .slice none 0 0] 106)).below (HMI.out _).2.2.1)
      have hL := (Loc.below (Loc.new (mkB W.drew) rfl #[.slice none 0 0, .slice none 0 0, .slice none 0 0, .slice none 0 0, .slice none 0 0] 106) (HMI.out _).2.2.1 (Loc.lt (Loc.new (mkB W.drew) rfl #[.slice none 0 0, .slice none 0 0, .slice none 0 0, .slice none 0 0, .slice none 0 0] 106)))
      have hBB' : Below W.heap.size W (mkI ((mkB W.drew).alloc (.cells #[.slice none 0 0, .slice none 0 0, .slice none 0 0, .slice none 0 0, .slice none 0 0] 106))) := by repeat (with_reducible first | exact Below.refl _ _ | exact Below.drew (Below.refl _ _) | refine HBI.out _ ?_ | refine HBB.out _ ?_ | refine below_al ?_ _ | refine Below.drew ?_ | refine below_drewN ?_ _)
      have g0 := (HMB.out W.drew).2.2.2
      have g1 : (mkB W.drew).heap.size < ((mkB W.drew).alloc (.cells #[.slice none 0 0, .slice none 0 0, .slice none 0 0, .slice none 0 0, .slice none 0 0] 106)).heap.size := by simp
      have g2 := (HMI.out ((mkB W.drew).alloc (.cells #[.slice none 0 0, .slice none 0 0, .slice none 0 0, .slice none 0 0, .slice none 0 0] 106))).2.2.2
      have gW : W.heap.size ≤ W.drew.heap.size := Nat.le_refl _
      obtain ⟨V, hV⟩ : ∃ V : World, (mkI ((mkB W.drew).alloc (.cells #[.slice none 0 0, .slice none 0 0, .slice none 0 0, .slice none 0 0, .slice none 0 0] 106))) = V := ⟨_, rfl⟩
      rw [hV] at hI hO hL hBB' g2 hHeld4 ⊢
      have ebi : ((mkB W.drew).alloc (.cells #[.slice none 0 0, .slice none 0 0, .slice none 0 0, .slice none 0 0, .slice none 0 0] 106)).heap.size = (mkB W.drew).heap.size + 1 := by simp
      rw [ebi] at hI
      obtain ⟨bi, hbi⟩ : ∃ b, (mkB W.drew).heap.size + 1 = b := ⟨_, rfl⟩
      have ebu : W.drew.heap.size = W.heap.size := by simp
      rw [ebu] at hO
      obtain ⟨bu, hbu⟩ : ∃ b, W.heap.size = b := ⟨_, rfl⟩
      have emb : True := trivial
      obtain ⟨mb, hmb⟩ : ∃ b, (mkB W.drew).heap.size = b := ⟨_, rfl⟩
      have hI' : Own V W.heap.size (some ⟨bi, 0, none⟩) n n (List.replicate n 0) := by rw [← hbi]; exact hI.mono (by omega)
      have hO' : OwnBo V W.heap.size (some ⟨bu, 0, none⟩) n n (List.replicate n false) := by rw [← hbu]; exact hO.mono (by omega)
      have hL' : Loc V mb #[.slice none 0 0, .slice none 0 0, .slice none 0 0, .slice none 0 0, .slice none 0 0] 106 := by rw [← hmb]; exact hL
      have hd : W.heap.size ≤ mb ∧ bi ≠ mb ∧ bu ≠ mb ∧ bi ≠ bu := by omega
      rw [hbi]
      rw [hbu]
      rw [hmb]
      have HF := Lib.hid (made_set (gf := gf) (gt := gt) (K := K) (kf := kf) (kt := kt) hL' hI' hO' hd.1 hd.2.1 hd.2.2.1 hd.2.2.2 hBB')
      have f := hL'.fiveF
      have hKS : Hid (∀ u0 u1 u2 u3 u4, Below W.heap.size W (((((V.setCell ⟨mb, 0, none⟩ u0).setCell ⟨mb, 1, none⟩ u1).setCell ⟨mb, 2, none⟩ u2).setCell ⟨mb, 3, none⟩ u3).setCell ⟨mb, 4, none⟩ u4)) := Lib.hid fun u0 u1 u2 u3 u4 => below_setne (below_setne (below_setne (below_setne (below_setne hBB' hd.1 _) hd.1 _) hd.1 _) hd.1 _) hd.1 _
      clear hI hO hL hL' hI' hO' hd hBB' hbi hbu hmb hV g0 g1 g2 gW eqI eqB ebi ebu emb
      refine wpAnyH_ready (rs := [8]) (by kernel_rfl) (by simp) ?_
      refine AllReadyH.cons rfl (fun K' hK' => ?_) AllReadyH.nil
      go_simp
      refine hK'.out _ _ (by (try dsimp only); exact HKP.out _ (hKS.out _ _ _ _ _)) (fun hHeldZ => ?_)
      clear hK' K'
      (try simp only [Act.put, List.getElem_toArray, List.getElem_cons_zero, List.getElem_cons_succ, List.setIfInBounds_toArray, List.set_cons_zero, List.set_cons_succ])
      refine wpAnyH_done (by kernel_rfl) ?_ _
      refine NoPanic.normal ?_
      go_wp2
      go_meet
      exact ⟨mb, bi, bu, rfl, HF.out⟩
    refine AllReadyH.cons rfl (fun K' hK' => ?_) AllReadyH.nil
    go_simp
    refine hK'.out _ _ (by (try dsimp only); exact HKP.out _ (by repeat (with_reducible first | exact Below.refl _ _ | exact Below.drew (Below.refl _ _) | refine HBI.out _ ?_ | refine HBB.out _ ?_ | refine below_al ?_ _ | refine Below.drew ?_ | refine below_drewN ?_ _))) (fun hHeld2 => ?_)
    clear hK' K' hHeld1
    (try simp only [Act.put, List.getElem_toArray, List.getElem_cons_zero, List.getElem_cons_succ, List.setIfInBounds_toArray, List.set_cons_zero, List.set_cons_succ])
    refine wpAnyH_ready (rs := [3, 5]) (by kernel_rfl) (by simp) ?_
    refine AllReadyH.cons rfl (fun K' hK' => ?_) ?_
    · skip
      go_simp
      refine hK'.out _ _ (by (try dsimp only); exact HKP.out _ (by repeat (with_reducible first | exact Below.refl _ _ | exact Below.drew (Below.refl _ _) | refine HBI.out _ ?_ | refine HBB.out _ ?_ | refine below_al ?_ _ | refine Below.drew ?_ | refine below_drewN ?_ _))) (fun hHeld3 => ?_)
      clear hK' K' hHeld2
      (try simp only [Act.put, List.getElem_toArray, List.getElem_cons_zero, List.getElem_cons_succ, List.setIfInBounds_toArray, List.set_cons_zero, List.set_cons_succ])
      refine wpAnyH_ready (rs := [5]) (by kernel_rfl) (by simp) ?_
      refine AllReadyH.cons rfl (fun K' hK' => ?_) AllReadyH.nil
      go_simp
      refine hK'.out _ _ (by (try dsimp only); exact HKP.out _ (by repeat (with_reducible first | exact Below.refl _ _ | exact Below.drew (Below.refl _ _) | refine HBI.out _ ?_ | refine HBB.out _ ?_ | refine below_al ?_ _ | refine Below.drew ?_ | refine below_drewN ?_ _))) (fun hHeld4 => ?_)
      clear hK' K' hHeld3
      (try simp only [Act.put, List.getElem_toArray, List.getElem_cons_zero, List.getElem_cons_succ, List.setIfInBounds_toArray, List.set_cons_zero, List.set_cons_succ])
      refine' wpAnyH_take (i := 6) (v := _) rfl (by kernel_rfl) (by kernel_rfl) (by kernel_rfl) (fun _ _ _ h => h) (Or.inl ⟨by rfl, ?hy6⟩) (by assumption) ?_
      case hy6 => (intro w' hSw; (try dsimp only at hSw); go_simp; (try with_reducible rfl))
      (try simp only [Act.put, List.getElem_toArray, List.getElem_cons_zero, List.getElem_cons_succ, List.setIfInBounds_toArray, List.set_cons_zero, List.set_cons_succ])
      have hI := (((HMI.out ((W.alloc (.cells #[.slice none 0 0, .slice none 0 0, .slice none 0 0, .slice none 0 0, .slice none 0 0] 106)).drew)).2.1).below (HMB.out _).2.2.1)
      have hO := ((HMB.out (mkI ((W.alloc (.cells #[.slice none 0 0, .slice none 0 0, .slice none 0 0, .slice none 0 0, .slice none 0 0] 106)).drew))).2.1)
      have hL := (Loc.below (Loc.below (Loc.drew (Loc.new W rfl #[.slice none 0 0, .slice none 0 0, .slice none 0 0, .slice none 0 0, .slice none 0 0] 106)) (HMI.out _).2.2.1 (Loc.lt (Loc.drew (Loc.new W rfl #[.slice none 0 0, .slice none 0 0, .slice none 0 0, .slice none 0 0, .slice none 0 0] 106)))) (HMB.out _).2.2.1 (Loc.lt (Loc.below (Loc.drew (Loc.new W rfl #[.slice none 0 0, .slice none 0 0, .slice none 0 0, .slice none 0 0, .slice none 0 0] 106)) (HMI.out _).2.2.1 (Loc.lt (Loc.drew (Loc.new W rfl #[.slice none 0 0, .slice none 0 0, .slice none 0 0, .slice none 0 0, .slice none 0 0] 106))))))
      have hBB' : Below W.heap.size W (mkB (mkI ((W.alloc (.cells #[.slice none 0 0, .slice none 0 0, .slice none 0 0, .slice none 0 0, .slice none 0 0] 106)).drew))) := by repeat (with_reducible first | exact Below.refl _ _ | exact Below.drew (Below.refl _ _) | refine HBI.out _ ?_ | refine HBB.out _ ?_ | refine below_al ?_ _ | refine Below.drew ?_ | refine below_drewN ?_ _)
      have g0 : W.heap.size < ((W.alloc (.cells #[.slice none 0 0, .slice none 0 0, .slice none 0 0, .slice none 0 0, .slice none 0 0] 106)).drew).heap.size := by simp
      have g1 := (HMI.out ((W.alloc (.cells #[.slice none 0 0, .slice none 0 0, .slice none 0 0, .slice none 0 0, .slice none 0 0] 106)).drew)).2.2.2
      have g2 := (HMB.out (mkI ((W.alloc (.cells #[.slice none 0 0, .slice none 0 0, .slice none 0 0, .slice none 0 0, .slice none 0 0] 106)).drew))).2.2.2
      have gW : W.heap.size ≤ W.drew.heap.size := Nat.le_refl _
      obtain ⟨V, hV⟩ : ∃ V : World, (mkB (mkI ((W.alloc (.cells #[.slice none 0 0, .slice none 0 0, .slice none 0 0, .slice none 0 0, .slice none 0 0] 106)).drew))) = V := ⟨_, rfl⟩
      rw [hV] at hI hO hL hBB' g2 hHeld4 ⊢
      have ebi : ((W.alloc (.cells #[.slice none 0 0, .slice none 0 0, .slice none 0 0, .slice none 0 0, .slice none 0 0] 106)).drew).heap.size = W.heap.size + 1 := by simp
      rw [ebi] at hI
      obtain ⟨bi, hbi⟩ : ∃ b, W.heap.size + 1 = b := ⟨_, rfl⟩
      have ebu : True := trivial
      obtain ⟨bu, hbu⟩ : ∃ b, (mkI ((W.alloc (.cells #[.slice none 0 0, .slice none 0 0, .slice none 0 0, .slice none 0 0, .slice none 0 0] 106)).drew)).heap.size = b := ⟨_, rfl⟩
      have emb : True := trivial
      obtain ⟨mb, hmb⟩ : ∃ b, W.heap.size = b := ⟨_, rfl⟩
      have hI' : Own V W.heap.size (some ⟨bi, 0, none⟩) n n (List.replicate n 0) := by rw [← hbi]; exact hI.mono (by omega)
      have hO' : OwnBo V W.heap.size (some ⟨bu, 0, none⟩) n n (List.replicate n false) := by rw [← hbu]; exact hO.mono (by omega)
      have hL' : Loc V mb #[.slice none 0 0, .slice none 0 0, .slice none 0 0, .slice none 0 0, .slice none 0 0] 106 := by rw [← hmb]; exact hL
      have hd : W.heap.size ≤ mb ∧ bi ≠ mb ∧ bu ≠ mb ∧ bi ≠ bu := by omega
      rw [hbi]
      rw [hbu]
      rw [hmb]
      have HF := Lib.hid (made_set (gf := gf) (gt := gt) (K := K) (kf := kf) (kt := kt) hL' hI' hO' hd.1 hd.2.1 hd.2.2.1 hd.2.2.2 hBB')
      have f := hL'.fiveF
      have hKS : Hid (∀ u0 u1 u2 u3 u4, Below W.heap.size W (((((V.setCell ⟨mb, 0, none⟩ u0).setCell ⟨mb, 1, none⟩ u1).setCell ⟨mb, 2, none⟩ u2).setCell ⟨mb, 3, none⟩ u3).setCell ⟨mb, 4, none⟩ u4)) := Lib.hid fun u0 u1 u2 u3 u4 => below_setne (below_setne (below_setne (below_setne (below_setne hBB' hd.1 _) hd.1 _) hd.1 _) hd.1 _) hd.1 _
      clear hI hO hL hL' hI' hO' hd hBB' hbi hbu hmb hV g0 g1 g2 gW eqI eqB ebi ebu emb
      refine wpAnyH_ready (rs := [8]) (by kernel_rfl) (by simp) ?_
      refine AllReadyH.cons rfl (fun K' hK' => ?_) AllReadyH.nil
      go_simp
      refine hK'.out _ _ (by (try dsimp only); exact HKP.out _ (hKS.out _ _ _ _ _)) (fun hHeldZ => ?_)
      clear hK' K'
      (try simp only [Act.put, List.getElem_toArray, List.getElem_cons_zero, List.getElem_cons_succ, List.setIfInBounds_toArray, List.set_cons_zero, List.set_cons_succ])
      refine wpAnyH_done (by kernel_rfl) ?_ _
      refine NoPanic.normal ?_
      go_wp2
      go_meet
      exact ⟨mb, bi, bu, rfl, HF.out⟩
    refine AllReadyH.cons rfl (fun K' hK' => ?_) AllReadyH.nil
    go_simp
    refine hK'.out _ _ (by (try dsimp only); exact HKP.out _ (by repeat (with_reducible first | exact Below.refl _ _ | exact Below.drew (Below.refl _ _) | refine HBI.out _ ?_ | refine HBB.out _ ?_ | refine below_al ?_ _ | refine Below.drew ?_ | refine below_drewN ?_ _))) (fun hHeld3 => ?_)
    clear hK' K' hHeld2
    (try simp only [Act.put, List.getElem_toArray, List.getElem_cons_zero, List.getElem_cons_succ, List.setIfInBounds_toArray, List.set_cons_zero, List.set_cons_succ])
    refine wpAnyH_ready (rs := [3]) (by kernel_rfl) (by simp) ?_
    refine AllReadyH.cons rfl (fun K' hK' => ?_) AllReadyH.nil
    go_simp
    refine hK'.out _ _ (by (try dsimp only); exact HKP.out _ (by repeat (with_reducible first | exact Below.refl _ _ | exact Below.drew (Below.refl _ _) | refine HBI.out _ ?_ | refine HBB.out _ ?_ | refine below_al ?_ _ | refine Below.drew ?_ | refine below_drewN ?_ _))) (fun hHeld4 => ?_)
    clear hK' K' hHeld3
    (try simp only [Act.put, List.getElem_toArray, List.getElem_cons_zero, List.getElem_cons_succ, List.setIfInBounds_toArray, List.set_cons_zero, List.set_cons_succ])
    refine' wpAnyH_take (i := 6) (v := _) rfl (by kernel_rfl) (by kernel_rfl) (by kernel_rfl) (fun _ _ _ h => h) (Or.inl ⟨by rfl, ?hy6⟩) (by assumption) ?_
    case hy6 => (intro w' hSw; (try dsimp only at hSw); go_simp; (try with_reducible rfl))
    (try simp only [Act.put, List.getElem_toArray, List.getElem_cons_zero, List.getElem_cons_succ, List.setIfInBounds_toArray, List.set_cons_zero, List.set_cons_succ])
    have hI := ((HMI.out (mkB ((W.alloc (.cells #[.slice none 0 0, .slice none 0 0, .slice none 0 0, .slice none 0 0, .slice none 0 0] 106)).drew))).2.1)
    have hO := (((HMB.out ((W.alloc (.cells #[.slice none 0 0, .slice none 0 0, .slice none 0 0, .slice none 0 0, .slice none 0 0] 106)).drew)).2.1).below (HMI.out _).2.2.1)
    have hL := (Loc.below (Loc.below (Loc.drew (Loc.new W rfl #[.slice none 0 0, .slice none 0 0, .slice none 0 0, .slice none 0 0, .slice none 0 0] 106)) (HMB.out _).2.2.1 (Loc.lt (Loc.drew (Loc.new W rfl #[.slice none 0 0, .slice none 0 0, .slice none 0 0, .slice none 0 0, .slice none 0 0] 106)))) (HMI.out _).2.2.1 (Loc.lt (Loc.below (Loc.drew (Loc.new W rfl #[.slice none 0 0, .slice none 0 0, .slice none 0 0, .slice none 0 0, .slice none 0 0] 106)) (HMB.out _).2.2.1 (Loc.lt (Loc.drew (Loc.new W rfl #[.slice none 0 0, .slice none 0 0, .slice none 0 0, .slice none 0 0, .slice none 0 0] 106))))))
    have hBB' : Below W.heap.size W (mkI (mkB ((W.alloc (.cells #[.slice none 0 0, .slice none 0 0, .slice none 0 0, .slice none 0 0, .slice none 0 0] 106)).drew))) := by repeat (with_reducible first | exact Below.refl _ _ | exact Below.drew (Below.refl _ _) | refine HBI.out _ ?_ | refine HBB.out _ ?_ | refine below_al ?_ _ | refine Below.drew ?_ | refine below_drewN ?_ _)
    have g0 : W.heap.size < ((W.alloc (.cells #[.slice none 0 0, .slice none 0 0, .slice none 0 0, .slice none 0 0, .slice none 0 0] 106)).drew).heap.size := by simp
    have g1 := (HMB.out ((W.alloc (.cells #[.slice none 0 0, .slice none 0 0, .slice none 0 0, .slice none 0 0, .slice none 0 0] 106)).drew)).2.2.2
    have g2 := (HMI.out (mkB ((W.alloc (.cells #[.slice none 0 0, .slice none 0 0, .slice none 0 0, .slice none 0 0, .slice none 0 0] 106)).drew))).2.2.2
    have gW : W.heap.size ≤ W.drew.heap.size := Nat.le_refl _
    obtain ⟨V, hV⟩ : ∃ V : World, (mkI (mkB ((W.alloc (.cells #[.slice none 0 0, .slice none 0 0, .slice none 0 0, .slice none 0 0, .slice none 0 0] 106)).drew))) = V := ⟨_, rfl⟩
    rw [hV] at hI hO hL hBB' g2 hHeld4 ⊢
    have ebi : True := trivial
    obtain ⟨bi, hbi⟩ : ∃ b, (mkB ((W.alloc (.cells #[.slice none 0 0, .slice none 0 0, .slice none 0 0, .slice none 0 0, .slice none 0 0] 106)).drew)).heap.size = b := ⟨_, rfl⟩
    have ebu : ((W.alloc (.cells #[.slice none 0 0, .slice none 0 0, .slice none 0 0, .slice none 0 0, .slice none 0 0] 106)).drew).heap.size = W.heap.size + 1 := by simp
    rw [ebu] at hO
    obtain ⟨bu, hbu⟩ : ∃ b, W.heap.size + 1 = b := ⟨_, rfl⟩
    have emb : True := trivial
    obtain ⟨mb, hmb⟩ : ∃ b, W.heap.size = b := ⟨_, rfl⟩
    have hI' : Own V W.heap.size (some ⟨bi, 0, none⟩) n n (List.replicate n 0) := by rw [← hbi]; exact hI.mono (by omega)
    have hO' : OwnBo V W.heap.size (some ⟨bu, 0, none⟩) n n (List.replicate n false) := by rw [← hbu]; exact hO.mono (by omega)
    have hL' : Loc V mb #[.slice none 0 0, .slice none 0 0, .slice none 0 0, .slice none 0 0, .slice none 0 0] 106 := by rw [← hmb]; exact hL
    have hd : W.heap.size ≤ mb ∧ bi ≠ mb ∧ bu ≠ mb ∧ bi ≠ bu := by omega
    rw [hbi]
    rw [hbu]
    rw [hmb]
    have HF := Lib.hid (made_set (gf := gf) (gt := gt) (K := K) (kf := kf) (kt := kt) hL' hI' hO' hd.1 hd.2.1 hd.2.2.1 hd.2.2.2 hBB')
    have f := hL'.fiveF
    have hKS : Hid (∀ u0 u1 u2 u3 u4, Below W.heap.size W (((((V.setCell ⟨mb, 0, none⟩ u0).setCell ⟨mb, 1, none⟩ u1).setCell ⟨mb, 2, none⟩ u2).setCell ⟨mb, 3, none⟩ u3).setCell ⟨mb, 4, none⟩ u4)) := Lib.hid fun u0 u1 u2 u3 u4 => below_setne (below_setne (below_setne (below_setne (below_setne hBB' hd.1 _) hd.1 _) hd.1 _) hd.1 _) hd.1 _
    clear hI hO hL hL' hI' hO' hd hBB' hbi hbu hmb hV g0 g1 g2 gW eqI eqB ebi ebu emb
    refine wpAnyH_ready (rs := [8]) (by kernel_rfl) (by simp) ?_
    refine AllReadyH.cons rfl (fun K' hK' => ?_) AllReadyH.nil
    go_simp
    refine hK'.out _ _ (by (try dsimp only); exact HKP.out _ (hKS.out _ _ _ _ _)) (fun hHeldZ => ?_)
    clear hK' K'
    (try simp only [Act.put, List.getElem_toArray, List.getElem_cons_zero, List.getElem_cons_succ, List.setIfInBounds_toArray, List.set_cons_zero, List.set_cons_succ])
    refine wpAnyH_done (by kernel_rfl) ?_ _
    refine NoPanic.normal ?_
    go_wp2
    go_meet
    exact ⟨mb, bi, bu, rfl, HF.out⟩
  case rest =>
  obtain ⟨mb, bi, bu, rfl, hM⟩ := hcut
  obtain ⟨V, hV⟩ : ∃ V : World, V = wc := ⟨_, rfl⟩
  rw [← hV] at hM ⊢
  clear hV eqI eqB HMI HMB c1 c2 h1 h2
  have lb := hM.1.five
  go_wp2
  go_loopw [27] (fun s27 wr => ∃ k : Nat, s27 = .int .i64 k ∧ k ≤ n ∧ MadeM mb bi bu gf gt K kf kt n (List.replicate k (-1) ++ List.replicate (n - k) 0) W wr) (fun s27 _ => n - (intOf s27).toNat)
  case atStart => exact ⟨0, rfl, Nat.zero_le _, by simpa using hM⟩
  case round =>
    clear hM lb
    obtain ⟨k, rfl, hk, hM⟩ := hrel
    obtain ⟨V, hV⟩ : ∃ V : World, V = wr := ⟨_, rfl⟩
    rw [← hV] at hM ⊢
    clear hV
    have lb := hM.1.five
    by_cases hlt : k < n
    · have ck := (hM.2.1.cells).2.1 k hlt
      have fk := (hM.2.1.cells).2.2 k
      have i1 : (0 : Int) ≤ (k : Int) := by omega
      have i2 : (k : Int) < (n : Int) := by omega
      have hM2 : MadeM mb bi bu gf gt K kf kt n (List.replicate (k + 1) (-1) ++ List.replicate (n - (k + 1)) 0) W (V.setCell ⟨bi, k, none⟩ (.int .i64 (-1))) := by
        obtain ⟨m1, m2, m3, m4, m5, m6, m7, m8⟩ := hM
        refine ⟨m1.setne (by show mb ≠ bi; exact Ne.symm m5) _, ?_, m3.setne (fun g e => by cases e; exact Ne.symm m7) _, m4, m5, m6, m7, below_setne m8 (m2.lo bi rfl) _⟩
        rw [← setrep hlt]; exact m2.set k (-1)
      have HM2 := Lib.hid hM2
      clear hM hM2
      go_wp2
      go_roundw
      case rel => exact ⟨k + 1, by go_num, by omega, HM2.out⟩
      case measure => simp [intOf]; omega
    · obtain rfl : k = n := by omega
      have e0 : List.replicate k (-1 : Int) ++ List.replicate (k - k) 0 = List.replicate k (-1) := by simp
      rw [e0] at hM
      obtain ⟨m1, m2, m3, m4, m5, m6, m7, m8⟩ := hM
      have hMM : MapM S0 W mb bi bu gf gt K kf kt k V none 0 0 (List.replicate k (-1)) (List.replicate k false) [] := ⟨m1, m2, m3, Own.nil _ _, m4, m5, m6, fun g e => (by cases e), m7, Marked.ofB m8⟩
      have hJ := HJ0.out (MapS mb bi bu none) V hMM.own_ m8
      have hE := extendM_any BB OO CC DB DO DC AA AO AC EA EO EC HT.out HU.out hn1 hn hK H0.out l J Js (HY.out bi) HJO.out HJS.out k [] V none 0 0 _ _ [] (by simp) hMM (MapSt.none k) (ClS.none k ts us) hJ (fun l h => by cases h)
      have HE := Lib.hid hE
      clear hE hJ hMM m1 m2 m3 m4 m5 m6 m7 m8
      go_wp2_with fail
      refine HE.out.mono ?_
      rintro e w2 ⟨r, as2, cs2, rfl, hM2, _, _, hTr, hFl⟩
      have hfin : (∃ S Y, YA k ts us Y ∧ J S Y w2) ∨ ∃ S Z, Js S Z w2 := by
        cases r with
        | true => obtain ⟨Y, hY, hJ⟩ := hTr rfl; exact .inl ⟨_, Y, YA.of hY, hJ⟩
        | false => obtain ⟨Z, hJ⟩ := hFl rfl; exact .inr ⟨_, Z, hJ⟩
      have HF := Lib.hid hfin
      clear hTr hFl hM2 hfin
      go_wp2
      go_end0
      exact ⟨⟨_, rfl⟩, HF.out⟩
end Go.Proofs.YtaddclaadbjnlaaGreat
