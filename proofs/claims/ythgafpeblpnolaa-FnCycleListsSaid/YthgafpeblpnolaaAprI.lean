/-
  The program's list of all permutations.
  No condition but bounds.
-/
import Derived.Test.YthgafpeblpnolaaBase2
import Derived.Test.YthgafpeblpnolaaBase
namespace Go.Proofs.Ythgafpeblpnolaa
set_option maxRecDepth 100000
set_option linter.unusedVariables false
set_option linter.unusedSimpArgs false
open Go.RowKit
attribute [local go_sem] Oper.semAt_some
attribute [local go_sem] run_store_fn

set_option maxHeartbeats 16000000 in
theorem allPerms_any (N : Nat) (w : World) (h1 : 1 ≤ N) (h4 : N ≤ 4) :
    Calls Try.prog 15 #[.int .i64 N] w fun e w' => ∃ a k c vs, e = .returned (.tuple #[.slice a k c, .int .i64 0]) ∧ OwnT w' w.heap.size a k c vs (prmL N) ∧ Below w.heap.size w w' := by
  have hdd : ∀ k : Nat, (Fence.wide.depth.isSome = true → 1 ≤ k) := fun k h => by cases h
  have HIN := Lib.hid (fun w => within_any (N : Int) 1 7 w)
  have HD7 : Hid ((decide ((1 : Int) ≤ N) && decide ((N : Int) ≤ 7)) = true) := Lib.hid (by simp; omega)
  refine (callsIn_wide (n := 3)).1 ?_
  refine callsIn_of_wp_marks Try.func15 rfl trivial ?_ rfl
  simp only [Try.ntmps15, List.size_toArray, List.length_cons, List.length_nil, Nat.reduceAdd, Nat.reduceSub, Array.replicate_succ, Array.replicate_zero, List.push_toArray, List.append_toArray, List.nil_append, List.cons_append]
  gi_wp2_with (refine ⟨trivial, ?_⟩; first | (gi_at_call 22; refine (callsIn_wide.2 (HIN.out _)).mono ?_; rintro e w1 ⟨rfl, rfl⟩; rw [HD7.out]) | (gi_at_call 37; refine (callsIn_wide.2 (perms_any N _)).mono ?_; rintro e w1 ⟨rfl, rfl⟩))
  obtain ⟨W0, hW0⟩ : ∃ W0, (w.alloc (Obj.cells #[Value.slice none 0 0] 36)).alloc (Obj.cells #[Value.int IntKind.i64 N] 3) = W0 := ⟨_, rfl⟩
  rw [hW0]
  have hs0 : W0.heap.size = w.heap.size + 2 := by rw [← hW0]; simp
  have hB0 : Below w.heap.size w W0 := by rw [← hW0]; exact below_al (below_al (Below.refl _ _) _) _
  have hL2 : Loc W0 w.heap.size #[.slice none 0 0] 36 := by rw [← hW0]; exact (Loc.new w rfl _ _).alloc _
  have hL3 : Loc W0 (w.heap.size + 1) #[.int .i64 N] 3 := by rw [← hW0]; exact Loc.new _ (by simp) _ _
  have HM := Lib.hid (prm_bd h1 h4)
  have HPP := Lib.hid (prm_isP h1 h4)
  clear hW0
  refine wpIn_rangeFunc_it rfl (by omega) (gf := 65) (lb := #[.pointer (some ⟨w.heap.size + 1, 0, none⟩)]) rfl trivial (enters_of Try.func65 (by kernel_rfl) rfl)
    (perms1_it _ N (w.heap.size + 1) W0 (by omega) hL3.one.1 h1 h4) (Below.refl _ _) rfl
    (fun b k W => ∃ a c vs, Loc W w.heap.size #[.slice a k c] 36 ∧ OwnT W (W0.heap.size + 2) a k c vs ((prmL N).take k) ∧ ¬ TblS a k vs b ∧ b < W.heap.size ∧ Below w.heap.size w W)
    ?start ?abide
    (fun b c => { tmps := #[.int .i64 N, undef, .slice none 0 0, .int .i64 0, .pointer (some ⟨w.heap.size, 0, none⟩), .slice (some ⟨b, 0, none⟩) N c, .int .i64 N, .bool true, .bool false, .int .i64 N,
      .func (.func 65) #[] #[.pointer (some ⟨w.heap.size + 1, 0, none⟩)], .slice (some ⟨b, 0, none⟩) N c, undef, undef, undef, undef, undef, undef], defers := [] })
    ?assign ?body ?done
  case start =>
    intro b W' hb hlt hB
    refine ⟨none, 0, [], hL2.below hB (by omega), OwnT.nil _ _, ?_, hlt, hB0.trans (hB.mono (by omega))⟩
    rintro (h | ⟨i, hi, _⟩)
    · cases h
    · omega
  case abide =>
    rintro b k A B r hr hb ⟨a, c, vs, q1, q2, q3, q4, q7⟩ hg
    have hne : ∀ g, (g < W0.heap.size) → some g ≠ some r := fun g hg e => by cases e; omega
    refine ⟨a, c, vs, q1.grown hg (hne _ (by omega)), OwnT.keep q2 fun g h1 h2 => hg.block g h2 (fun e => ?_), q3, by have := hg.size; omega, q7.grown hg q7.size (fun j e => by cases e; omega)⟩
    have e' : g = r := by injection e
    have h3 := q2.uLo g h1
    rcases hr with hr | hr
    · exact q3 (by rw [← hr, ← e']; exact h1)
    · omega
  case assign =>
    intro l b c W K hK
    gi_wp2
    exact hK
  case body =>
    rintro l b c k W hb hkM ⟨a, ca, vs, hL, ho, hnb, hbW, hB⟩ hs hown
    obtain ⟨B0, HB0⟩ : ∃ B0, B0 = W0.heap.size + 2 := ⟨_, rfl⟩
    rw [← HB0] at ho hown hb hs
    have hM24 : k ≤ 24 := by have := HM.out; omega
    have hx2 : w.heap.size < B0 := by omega
    have hend : (∀ (a3 : Option Addr) (c3 : Nat) (w3 : World) (g' cc : Nat) (w8 : World) (act : Act), Own w3 W.heap.size a3 N c3 ((prmL N).getD k []) → Below W.heap.size W w3 → OwnT w8 B0 (some ⟨g', 0, none⟩) (k + 1) cc (vs ++ [(a3, N, c3)]) ((prmL N).take k ++ [(prmL N).getD k []]) → w3.grownBy w8 (Value.slice a k ca).ownBlock → ((Value.slice a k ca).ownBlock = some g' ∨ w3.heap.size ≤ g') → Below B0 w3 w8 → Loc w8 w.heap.size #[.slice a k ca] 36 →
        itPost (fun b k W => ∃ a c vs, Loc W w.heap.size #[.slice a k c] 36 ∧ OwnT W (W0.heap.size + 2) a k c vs ((prmL N).take k) ∧ ¬ TblS a k vs b ∧ b < W.heap.size ∧ Below w.heap.size w W) W0.heap.size b (k + 1) W .normal act (w8.setCell ⟨w.heap.size, 0, none⟩ (.slice (some ⟨g', 0, none⟩) (k + 1) cc))) := by
      intro a3 c3 w3 g' cc w8 act ho3 hb3 hO hg8 hat8 hb8 hL8
      have hz3 := hb3.size
      have hz8 := hb8.size
      have hneb : ∀ q, q < W.heap.size → ¬ TblS a k vs q → w8.heap[q]? = W.heap[q]? := fun q hq hn => (hg8.block q (by omega) (fun e => hn (OwnT.ownBlk ho e.symm))).trans (hb3.block q hq)
      have hlow : ∀ q, q < B0 → q < W.heap.size → w8.heap[q]? = W.heap[q]? := fun q h1 h2 => hneb q h2 (fun h => by have := ho.uLo q h; omega)
      have hsc : ∀ q, q ≠ w.heap.size → (w8.setCell ⟨w.heap.size, 0, none⟩ (.slice (some ⟨g', 0, none⟩) (k + 1) cc)).heap[q]? = w8.heap[q]? := fun q hq => Below.heap_setCell _ _ _ _ hq
      refine ⟨⟨some ⟨g', 0, none⟩, cc, vs ++ [(a3, N, c3)], hL8.set 0 _, ?_, ?_, by rw [size_set]; omega, ?_⟩, ?_, by rw [size_set]; omega, ?_, ?_⟩
      · rw [← HB0, List.take_succ_eq_append_getElem hkM]
        have : (prmL N)[k] = (prmL N).getD k [] := by simp [List.getD_eq_getElem?_getD, List.getElem?_eq_getElem hkM]
        rw [this]
        exact hO.setlo hx2 _
      · intro hq
        rcases TblS.snoc (a := a) ho.vlen hq with rfl | h' | h'
        · rcases hat8 with h2 | h2
          · exact hnb (OwnT.ownBlk ho h2)
          · omega
        · have := ho3.lo _ h'; omega
        · exact hnb h'
      · have h8 : Below w.heap.size w w8 := hB.trans ((hb3.mono hB.size).trans (hb8.mono (by omega)))
        exact h8.setCell (by show w.heap.size ≤ w.heap.size; omega) _
      · exact (hsc _ (by omega)).trans (hneb _ hbW hnb)
      · exact (hsc _ (by omega)).trans (hlow _ (by omega) (by omega))
      · exact (hsc _ (by omega)).trans (hlow _ (by omega) (by omega))
    have HEND := Lib.hid hend
    clear hend
    have lL := hL.one
    gi_wp2
    refine wpIn_region_any (by kernel_rfl) ?_
    change wpAnyIn _ _ _ _ _ _ _ _ _ (World.drew _)
    refine wpAnyIn_ready (rs := [0, 1]) (by kernel_rfl) (by simp) ?_
    refine AllReadyIn.cons rfl (fun K hK => ?_) ?_
    · go_simp
      refine hK _ _ ?_
      clear hK K
      refine wpAnyIn_ready (rs := [1]) (by kernel_rfl) (by simp) ?_
      refine AllReadyIn.cons rfl (fun K hK => ?_) ?_
      · go_simp
        refine hK _ _ ?_
        clear hK K
        refine wpAnyIn_ready (rs := [2]) (by kernel_rfl) (by simp) ?_
        refine AllReadyIn.cons rfl (fun K hK => ?_) ?_
        · go_simp
          refine ⟨trivial, ?_⟩
          gi_at_call 38
          refine (CallsIn.inRound l (callsIn_wide.2 (clone_any _ _ _ _ _ (hown.row.drewN 1) (by omega)))).mono ?_
          rintro e w3 ⟨a3, c3, rfl, ho3, hb3⟩
          have lL3 := ((hL.drewN 1).below hb3 hL.lt).one
          have hz3 : W.heap.size ≤ w3.heap.size := hb3.size
          have lL4 := (((hL.drewN 1).below hb3 hL.lt).alloc (.cells #[.slice a3 N c3] 46)).one
          have hb4 : Below W.heap.size W w3 := (show Below W.heap.size W (W.drewN 1) from ⟨rfl, rfl, rfl, Nat.le_refl _, fun _ _ => rfl⟩).trans hb3
          try go_simp
          refine hK _ _ ?_
          clear hK K
          refine wpAnyIn_ready (rs := [3]) (by kernel_rfl) (by simp) ?_
          refine AllReadyIn.cons rfl (fun K hK => ?_) ?_
          · go_simp
            refine hK _ _ ?_
            clear hK K
            refine wpAnyIn_ready (rs := [4]) (by kernel_rfl) (by simp) ?_
            refine AllReadyIn.cons rfl (fun K hK => ?_) ?_
            · refine stepIn_of (E := True) rfl (fun c h => by cases h) (step_appT1n (lo := B0) rfl rfl ((ho.drewN 1).below hb3) rfl (ho3.mono (by show B0 ≤ W.heap.size; omega)) (fun g h e => by have := ho.high g h; have := ho3.lo g e; have : W.heap.size ≤ g := this; omega) (fun j hj g h e => by have := ho.uHi g (.inr ⟨j, hj, e⟩); have := ho3.lo g h; have : W.heap.size ≤ g := this; omega) rfl (by omega) (by omega) ?_)
              intro g' cc w8 hO hg8 hat8 hb8
              have hL8 := ((hL.drewN 1).below hb3 hL.lt).below hb8 (by omega)
              have lL8 := hL8.one
              refine hK _ _ ?_
              clear hK K
              refine wpAnyIn_ready (rs := [5]) (by kernel_rfl) (by simp) ?_
              refine AllReadyIn.cons rfl (fun K hK => ?_) ?_
              · go_simp
                refine hK _ _ ?_
                clear hK K
                refine wpAnyIn_done (by kernel_rfl) ?_ _
                exact HEND.out a3 c3 w3 g' cc w8 ⟨#[], []⟩ ho3 hb4 hO hg8 hat8 hb8 hL8
              exact AllReadyIn.nil
            exact AllReadyIn.nil
          exact AllReadyIn.nil
        exact AllReadyIn.nil
      exact AllReadyIn.nil
    refine AllReadyIn.cons rfl (fun K hK => ?_) ?_
    · go_simp
      refine hK _ _ ?_
      clear hK K
      refine wpAnyIn_ready (rs := [0, 2]) (by kernel_rfl) (by simp) ?_
      refine AllReadyIn.cons rfl (fun K hK => ?_) ?_
      · go_simp
        refine hK _ _ ?_
        clear hK K
        refine wpAnyIn_ready (rs := [2]) (by kernel_rfl) (by simp) ?_
        refine AllReadyIn.cons rfl (fun K hK => ?_) ?_
        · go_simp
          refine ⟨trivial, ?_⟩
          gi_at_call 38
          refine (CallsIn.inRound l (callsIn_wide.2 (clone_any _ _ _ _ _ (hown.row.drewN 1) (by omega)))).mono ?_
          rintro e w3 ⟨a3, c3, rfl, ho3, hb3⟩
          have lL3 := ((hL.drewN 1).below hb3 hL.lt).one
          have hz3 : W.heap.size ≤ w3.heap.size := hb3.size
          have lL4 := (((hL.drewN 1).below hb3 hL.lt).alloc (.cells #[.slice a3 N c3] 46)).one
          have hb4 : Below W.heap.size W w3 := (show Below W.heap.size W (W.drewN 1) from ⟨rfl, rfl, rfl, Nat.le_refl _, fun _ _ => rfl⟩).trans hb3
          try go_simp
          refine hK _ _ ?_
          clear hK K
          refine wpAnyIn_ready (rs := [3]) (by kernel_rfl) (by simp) ?_
          refine AllReadyIn.cons rfl (fun K hK => ?_) ?_
          · go_simp
            refine hK _ _ ?_
            clear hK K
            refine wpAnyIn_ready (rs := [4]) (by kernel_rfl) (by simp) ?_
            refine AllReadyIn.cons rfl (fun K hK => ?_) ?_
            · refine stepIn_of (E := True) rfl (fun c h => by cases h) (step_appT1n (lo := B0) rfl rfl ((ho.drewN 1).below hb3) rfl (ho3.mono (by show B0 ≤ W.heap.size; omega)) (fun g h e => by have := ho.high g h; have := ho3.lo g e; have : W.heap.size ≤ g := this; omega) (fun j hj g h e => by have := ho.uHi g (.inr ⟨j, hj, e⟩); have := ho3.lo g h; have : W.heap.size ≤ g := this; omega) rfl (by omega) (by omega) ?_)
              intro g' cc w8 hO hg8 hat8 hb8
              have hL8 := ((hL.drewN 1).below hb3 hL.lt).below hb8 (by omega)
              have lL8 := hL8.one
              refine hK _ _ ?_
              clear hK K
              refine wpAnyIn_ready (rs := [5]) (by kernel_rfl) (by simp) ?_
              refine AllReadyIn.cons rfl (fun K hK => ?_) ?_
              · go_simp
                refine hK _ _ ?_
                clear hK K
                refine wpAnyIn_done (by kernel_rfl) ?_ _
                exact HEND.out a3 c3 w3 g' cc w8 ⟨#[], []⟩ ho3 hb4 hO hg8 hat8 hb8 hL8
              exact AllReadyIn.nil
            exact AllReadyIn.nil
          exact AllReadyIn.nil
        exact AllReadyIn.nil
      refine AllReadyIn.cons rfl (fun K hK => ?_) ?_
      · go_simp
        refine ⟨trivial, ?_⟩
        gi_at_call 38
        refine (CallsIn.inRound l (callsIn_wide.2 (clone_any _ _ _ _ _ (hown.row.drewN 1) (by omega)))).mono ?_
        rintro e w3 ⟨a3, c3, rfl, ho3, hb3⟩
        have lL3 := ((hL.drewN 1).below hb3 hL.lt).one
        have hz3 : W.heap.size ≤ w3.heap.size := hb3.size
        have lL4 := (((hL.drewN 1).below hb3 hL.lt).alloc (.cells #[.slice a3 N c3] 46)).one
        have hb4 : Below W.heap.size W w3 := (show Below W.heap.size W (W.drewN 1) from ⟨rfl, rfl, rfl, Nat.le_refl _, fun _ _ => rfl⟩).trans hb3
        try go_simp
        refine hK _ _ ?_
        clear hK K
        refine wpAnyIn_ready (rs := [0, 3]) (by kernel_rfl) (by simp) ?_
        refine AllReadyIn.cons rfl (fun K hK => ?_) ?_
        · go_simp
          refine hK _ _ ?_
          clear hK K
          refine wpAnyIn_ready (rs := [3]) (by kernel_rfl) (by simp) ?_
          refine AllReadyIn.cons rfl (fun K hK => ?_) ?_
          · go_simp
            refine hK _ _ ?_
            clear hK K
            refine wpAnyIn_ready (rs := [4]) (by kernel_rfl) (by simp) ?_
            refine AllReadyIn.cons rfl (fun K hK => ?_) ?_
            · refine stepIn_of (E := True) rfl (fun c h => by cases h) (step_appT1n (lo := B0) rfl rfl ((ho.drewN 1).below hb3) rfl (ho3.mono (by show B0 ≤ W.heap.size; omega)) (fun g h e => by have := ho.high g h; have := ho3.lo g e; have : W.heap.size ≤ g := this; omega) (fun j hj g h e => by have := ho.uHi g (.inr ⟨j, hj, e⟩); have := ho3.lo g h; have : W.heap.size ≤ g := this; omega) rfl (by omega) (by omega) ?_)
              intro g' cc w8 hO hg8 hat8 hb8
              have hL8 := ((hL.drewN 1).below hb3 hL.lt).below hb8 (by omega)
              have lL8 := hL8.one
              refine hK _ _ ?_
              clear hK K
              refine wpAnyIn_ready (rs := [5]) (by kernel_rfl) (by simp) ?_
              refine AllReadyIn.cons rfl (fun K hK => ?_) ?_
              · go_simp
                refine hK _ _ ?_
                clear hK K
                refine wpAnyIn_done (by kernel_rfl) ?_ _
                exact HEND.out a3 c3 w3 g' cc w8 ⟨#[], []⟩ ho3 hb4 hO hg8 hat8 hb8 hL8
              exact AllReadyIn.nil
            exact AllReadyIn.nil
          exact AllReadyIn.nil
        refine AllReadyIn.cons rfl (fun K hK => ?_) ?_
        · go_simp
          refine hK _ _ ?_
          clear hK K
          refine wpAnyIn_ready (rs := [0]) (by kernel_rfl) (by simp) ?_
          refine AllReadyIn.cons rfl (fun K hK => ?_) ?_
          · go_simp
            refine hK _ _ ?_
            clear hK K
            refine wpAnyIn_ready (rs := [4]) (by kernel_rfl) (by simp) ?_
            refine AllReadyIn.cons rfl (fun K hK => ?_) ?_
            · refine stepIn_of (E := True) rfl (fun c h => by cases h) (step_appT1n (lo := B0) rfl rfl ((ho.drewN 1).below hb3) rfl (ho3.mono (by show B0 ≤ W.heap.size; omega)) (fun g h e => by have := ho.high g h; have := ho3.lo g e; have : W.heap.size ≤ g := this; omega) (fun j hj g h e => by have := ho.uHi g (.inr ⟨j, hj, e⟩); have := ho3.lo g h; have : W.heap.size ≤ g := this; omega) rfl (by omega) (by omega) ?_)
              intro g' cc w8 hO hg8 hat8 hb8
              have hL8 := ((hL.drewN 1).below hb3 hL.lt).below hb8 (by omega)
              have lL8 := hL8.one
              refine hK _ _ ?_
              clear hK K
              refine wpAnyIn_ready (rs := [5]) (by kernel_rfl) (by simp) ?_
              refine AllReadyIn.cons rfl (fun K hK => ?_) ?_
              · go_simp
                refine hK _ _ ?_
                clear hK K
                refine wpAnyIn_done (by kernel_rfl) ?_ _
                exact HEND.out a3 c3 w3 g' cc w8 ⟨#[], []⟩ ho3 hb4 hO hg8 hat8 hb8 hL8
              exact AllReadyIn.nil
            exact AllReadyIn.nil
          exact AllReadyIn.nil
        exact AllReadyIn.nil
      exact AllReadyIn.nil
    exact AllReadyIn.nil
  case done =>
    rintro b W hb ⟨a, c, vs, hL, ho, hnb, hbW, hB⟩ hK
    rw [List.take_length] at ho
    obtain ⟨P, HP⟩ : ∃ P, Hid ((prmL N).length = P) := ⟨_, Lib.hid rfl⟩
    rw [HP.out] at ho hnb hL
    have lL := hL.one
    gi_wp2
    refine ⟨by simp, .inl ⟨_, _, rfl, run_takeDeferred hK, ?_⟩⟩
    refine ⟨_, results_tmp2 rfl _ _ _, a, P, c, vs, rfl, ?_, ?_⟩
    · refine (ho.mono (by omega)).keep fun g hg hlt => World.putObj_heap_other ?_
      have := ho.uLo g hg
      omega
    · exact hB.grown (grownBy_putObj' _ _ _) hB.size (fun j e => by cases e; omega)
end Go.Proofs.Ythgafpeblpnolaa
