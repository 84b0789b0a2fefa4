/-
  Walks and plain laws of this seat, some texts in one.
  No condition but bounds on lengths.
-/
import Derived.Shelf.Abstract
import Derived.Test.YtaddclaadbjnlaaGreatPs31
import Derived.Test.YtaddclaadbjnlaaGreatPs32
import Derived.Test.YtaddclaadbjnlaaGreatPs7
import Derived.Test.YtaddclaadbjnlaaGreatPs29
import Derived.Test.YtaddclaadbjnlaaGreatPs4
import Derived.Test.YtaddclaadbjnlaaGreatPs14
namespace Go.Proofs.YtaddclaadbjnlaaGreat
set_option maxRecDepth 100000
set_option linter.unusedVariables false
set_option linter.unusedSimpArgs false
open Go.RowKit
attribute [local go_sem] Oper.semAt_some
theorem run_store_fn {P : Program} {w : World} (a : Addr) (m : Mode) (fn : Fn) (first captured : Array Value) : (store a (.func fn first captured) m).run P w = stored P w a (.func fn first captured) m := run_store P w a _ m rfl
attribute [local go_sem] run_store_fn
theorem perms_any (N : Nat) (w : World) : Calls Tryz.prog 88 #[.int .i64 N] w fun e w' =>
    e = .returned (.func (.func 126) #[] #[.pointer (some ⟨w.heap.size, 0, none⟩)]) ∧ w' = w.alloc (.cells #[.int .i64 N] 3) := by
  go_enter Tryz.func88, Tryz.ntmps88
  go_wp2
  go_ret
  exact ⟨rfl, rfl⟩
theorem uponIn_of {P : Program} {o : Oper} {a : Act} {K : Act → World → Prop} {Q : Exit → Act → World → Prop} {l m : Nat} {r : Result Next} (h : o.upon P a K Q r) : o.uponIn (Fence.wide.inRound l) m P a K Q r := by
  cases r with
  | halt h0 w0 => cases h0 <;> first | exact h | exact h.elim
  | ok x w0 =>
    cases x with
    | value v => exact h
    | skip => exact h
    | defer d => exact h
    | enter f args => exact ⟨fun e => (by cases e), callsIn_wide.2 h⟩
    | row row args => exact ⟨fun e => (by cases e), fun c cs _ => (by obtain ⟨v, w', r, s⟩ := h c cs; exact ⟨v, w', r, stepsIn_wide.2 s⟩)⟩
    | _ => exact h.elim
theorem stepIn_of {P : Program} {ops : Array Oper} {o : Oper} {a : Act} {w : World} {K : Act → World → Prop} {Q : Exit → Act → World → Prop} {E E' : Prop} {l m : Nat} (hg : o.guard = none) (hd : ∀ c, o.op ≠ .defer c)
    (h : if Region.wanted o (yielded ops a.tmps) = true then Oper.wp P o a w K Q else E) : if Region.wanted o (yielded ops a.tmps) = true then Oper.wpIn (Fence.wide.inRound l) m P o a w K Q else E' := by
  have hw : Region.wanted o (yielded ops a.tmps) = true := by simp [Region.wanted, hg]
  rw [if_pos hw] at h ⊢
  refine ⟨fun f _ => trivial, ?_⟩
  have : o.semAt (Fence.wide.inRound l).round a.eval = execOp a.eval o := Oper.semAt_some l _ _ hd
  rw [this]
  exact uponIn_of h
set_option maxHeartbeats 16000000 in
theorem rowTables_any (N gf : Nat) (lb : Array Value) (fits : List (List Int) → Bool) (w : World) (h1 : 1 ≤ N) (h4 : N ≤ 4) (hfit : FitH gf lb fits N) :
    Calls Tryz.prog 45 #[.int .i64 N, .func (.func gf) #[] lb] w fun e w' => ∃ a k c us, e = .returned (.slice a k c) ∧ OwnTT w' w.heap.size a k c us (rowL N fits) ∧ Below w.heap.size w w' := by
  have hdd : ∀ k : Nat, (Fence.wide.depth.isSome = true → 1 ≤ k) := fun k h => by cases h
  refine (callsIn_wide (n := 3)).1 ?_
  refine callsIn_of_wp_marks Tryz.func45 rfl trivial ?_ rfl
  simp only [Tryz.ntmps45, List.size_toArray, List.length_cons, List.length_nil, Nat.reduceAdd, Nat.reduceSub, Array.replicate_succ, Array.replicate_zero, List.push_toArray, List.append_toArray, List.nil_append, List.cons_append]
  gi_wp2_with (refine ⟨trivial, ?_⟩; gi_at_call 88; refine (callsIn_wide.2 (perms_any N _)).mono ?_; rintro e w1 ⟨rfl, rfl⟩)
  obtain ⟨W0, hW0⟩ : ∃ W0, (((w.alloc (Obj.cells #[Value.int IntKind.i64 N] 3)).alloc (Obj.cells #[Value.func (Fn.func gf) #[] lb] 72)).alloc (Obj.cells #[Value.slice none 0 0] 32)).alloc (Obj.cells #[Value.int IntKind.i64 N] 3) = W0 := ⟨_, rfl⟩
  rw [hW0]
  have hs0 : W0.heap.size = w.heap.size + 4 := by rw [← hW0]; simp
  have hB0 : Below w.heap.size w W0 := by rw [← hW0]; exact below_al (below_al (below_al (below_al (Below.refl _ _) _) _) _) _
  have hL0 : Loc W0 w.heap.size #[.int .i64 N] 3 := by rw [← hW0]; exact (((Loc.new w rfl _ _).alloc _).alloc _).alloc _
  have hL1 : Loc W0 (w.heap.size + 1) #[.func (.func gf) #[] lb] 72 := by rw [← hW0]; exact ((Loc.new _ (by simp) _ _).alloc _).alloc _
  have hL2 : Loc W0 (w.heap.size + 2) #[.slice none 0 0] 32 := by rw [← hW0]; exact (Loc.new _ (by simp) _ _).alloc _
  have hL3 : Loc W0 (w.heap.size + 3) #[.int .i64 N] 3 := by rw [← hW0]; exact Loc.new _ (by simp) _ _
  have HM := Lib.hid (prm_bd h1 h4)
  have HPP := Lib.hid (prm_isP h1 h4)
  clear hW0
  refine wpIn_rangeFunc_it rfl (by omega) (gf := 126) (lb := #[.pointer (some ⟨w.heap.size + 1 + 1 + 1, 0, none⟩)]) rfl trivial (enters_of Tryz.func126 (by kernel_rfl) rfl)
    (perms1_it _ N (w.heap.size + 3) W0 (by omega) hL3.one.1 h1 h4) (Below.refl _ _) rfl
    (fun b k W => ∃ a c vs, Loc W (w.heap.size + 2) #[.slice a k c] 32 ∧ OwnT W (W0.heap.size + 2) a k c vs ((prmL N).take k) ∧ ¬ TblS a k vs b ∧ b < W.heap.size ∧ Loc W w.heap.size #[.int .i64 N] 3 ∧ Loc W (w.heap.size + 1) #[.func (.func gf) #[] lb] 72 ∧ Below w.heap.size w W)
    ?start ?abide
    (fun b c => { tmps := #[.int .i64 N, .func (.func gf) #[] lb, .pointer (some ⟨w.heap.size, 0, none⟩), .pointer (some ⟨w.heap.size + 1, 0, none⟩), .slice none 0 0, .pointer (some ⟨w.heap.size + 1 + 1, 0, none⟩), .slice (some ⟨b, 0, none⟩) N c, undef, undef, .int .i64 N,
      .func (.func 126) #[] #[.pointer (some ⟨w.heap.size + 1 + 1 + 1, 0, none⟩)], .slice (some ⟨b, 0, none⟩) N c, undef, undef, undef, undef, undef, undef, undef, undef, undef], defers := [] })
    ?assign ?body ?done
  case start =>
    intro b W' hb hlt hB
    refine ⟨none, 0, [], hL2.below hB (by omega), OwnT.nil _ _, ?_, hlt, hL0.below hB (by omega), hL1.below hB (by omega), hB0.trans (hB.mono (by omega))⟩
    rintro (h | ⟨i, hi, _⟩)
    · cases h
    · omega
  case abide =>
    rintro b k A B r hr hb ⟨a, c, vs, q1, q2, q3, q4, q5, q6, q7⟩ hg
    have hne : ∀ g, (g < W0.heap.size) → some g ≠ some r := fun g hg e => by cases e; omega
    refine ⟨a, c, vs, q1.grown hg (hne _ (by omega)), OwnT.keep q2 fun g h1 h2 => hg.block g h2 (fun e => ?_), q3, by have := hg.size; omega, q5.grown hg (hne _ (by omega)), q6.grown hg (hne _ (by omega)), q7.grown hg q7.size (fun j e => by cases e; omega)⟩
    have e' : g = r := by injection e
    have h3 := q2.uLo g h1
    rcases hr with hr | hr
    · exact q3 (by rw [← hr, ← e']; exact h1)
    · omega
  case assign =>
    intro l b c W K hK
    gi_wp2
    exact hK
  case body =>
    rintro l b c k W hb hkM ⟨a, ca, vs, hL, ho, hnb, hbW, hn, hf, hB⟩ hs hown
    obtain ⟨B0, HB0⟩ : ∃ B0, B0 = W0.heap.size + 2 := ⟨_, rfl⟩
    rw [← HB0] at ho hown hb hs
    have hM24 : k ≤ 24 := by have := HM.out; omega
    have hx2 : w.heap.size + 2 < B0 := by omega
    have hend : (∀ (a3 : Option Addr) (c3 : Nat) (w3 : World) (g' cc : Nat) (w8 : World) (act : Act), Own w3 W.heap.size a3 N c3 ((prmL N).getD k []) → Below W.heap.size W w3 → OwnT w8 B0 (some ⟨g', 0, none⟩) (k + 1) cc (vs ++ [(a3, N, c3)]) ((prmL N).take k ++ [(prmL N).getD k []]) → w3.grownBy w8 (Value.slice a k ca).ownBlock → ((Value.slice a k ca).ownBlock = some g' ∨ w3.heap.size ≤ g') → Below B0 w3 w8 → Loc w8 (w.heap.size + 2) #[.slice a k ca] 32 →
        itPost (fun b k W => ∃ a c vs, Loc W (w.heap.size + 2) #[.slice a k c] 32 ∧ OwnT W (W0.heap.size + 2) a k c vs ((prmL N).take k) ∧ ¬ TblS a k vs b ∧ b < W.heap.size ∧ Loc W w.heap.size #[.int .i64 N] 3 ∧ Loc W (w.heap.size + 1) #[.func (.func gf) #[] lb] 72 ∧ Below w.heap.size w W) W0.heap.size b (k + 1) W .normal act (w8.setCell ⟨w.heap.size + 2, 0, none⟩ (.slice (some ⟨g', 0, none⟩) (k + 1) cc))) := by
      intro a3 c3 w3 g' cc w8 act ho3 hb3 hO hg8 hat8 hb8 hL8
      have hz3 := hb3.size
      have hz8 := hb8.size
      have hneb : ∀ q, q < W.heap.size → ¬ TblS a k vs q → w8.heap[q]? = W.heap[q]? := fun q hq hn => (hg8.block q (by omega) (fun e => hn (OwnT.ownBlk ho e.symm))).trans (hb3.block q hq)
      have hlow : ∀ q, q < B0 → q < W.heap.size → w8.heap[q]? = W.heap[q]? := fun q h1 h2 => hneb q h2 (fun h => by have := ho.uLo q h; omega)
      have hsc : ∀ q, q ≠ w.heap.size + 2 → (w8.setCell ⟨w.heap.size + 2, 0, none⟩ (.slice (some ⟨g', 0, none⟩) (k + 1) cc)).heap[q]? = w8.heap[q]? := fun q hq => Below.heap_setCell _ _ _ _ hq
      refine ⟨⟨some ⟨g', 0, none⟩, cc, vs ++ [(a3, N, c3)], hL8.set 0 _, ?_, ?_, by rw [size_set]; omega, ?_, ?_, ?_⟩, ?_, by rw [size_set]; omega, ?_, ?_⟩
      · rw [← HB0, List.take_succ_eq_append_getElem hkM]
        have : (prmL N)[k] = (prmL N).getD k [] := by simp [List.getD_eq_getElem?_getD, List.getElem?_eq_getElem hkM]
        rw [this]
        exact hO.setlo hx2 _
      · intro hq
        rcases TblS.snoc (a := a) ho.vlen hq with rfl | h' | h'
        · rcases hat8 with h2 | h2
          · exact hnb (OwnT.ownBlk ho h2)
          · omega
        · have := ho3.lo _ h'; omega
        · exact hnb h'
      · exact ((hsc _ (by omega)).trans (hlow _ (by omega) hn.lt)).trans hn
      · exact ((hsc _ (by omega)).trans (hlow _ (by omega) hf.lt)).trans hf
      · have h8 : Below w.heap.size w w8 := hB.trans ((hb3.mono hB.size).trans (hb8.mono (by omega)))
        exact h8.setCell (by show w.heap.size ≤ w.heap.size + 2; omega) _
      · exact (hsc _ (by omega)).trans (hneb _ hbW hnb)
      · exact (hsc _ (by omega)).trans (hlow _ (by omega) (by omega))
      · exact (hsc _ (by omega)).trans (hlow _ (by omega) (by omega))
    have HEND := Lib.hid hend
    clear hend
    have lL := hL.one
    gi_wp2
    refine wpIn_region_any (by kernel_rfl) ?_
    change wpAnyIn _ _ _ _ _ _ _ _ _ (World.drew _)
    refine wpAnyIn_ready (rs := [0, 1]) (by kernel_rfl) (by simp) ?_
    refine AllReadyIn.cons rfl (fun K hK => ?_) ?_
    · go_simp
      refine hK _ _ ?_
      clear hK K
      refine wpAnyIn_ready (rs := [1]) (by kernel_rfl) (by simp) ?_
      refine AllReadyIn.cons rfl (fun K hK => ?_) ?_
      · go_simp
        refine hK _ _ ?_
        clear hK K
        refine wpAnyIn_ready (rs := [2]) (by kernel_rfl) (by simp) ?_
        refine AllReadyIn.cons rfl (fun K hK => ?_) ?_
        · go_simp
          refine ⟨trivial, ?_⟩
          gi_at_call 61
          refine (CallsIn.inRound l (callsIn_wide.2 (clone_any _ _ _ _ _ (hown.row.drewN 1) (by omega)))).mono ?_
          rintro e w3 ⟨a3, c3, rfl, ho3, hb3⟩
          have lL3 := ((hL.drewN 1).below hb3 hL.lt).one
          have hz3 : W.heap.size ≤ w3.heap.size := hb3.size
          have lL4 := (((hL.drewN 1).below hb3 hL.lt).alloc (.cells #[.slice a3 N c3] 41)).one
          have hb4 : Below W.heap.size W w3 := (show Below W.heap.size W (W.drewN 1) from ⟨rfl, rfl, rfl, Nat.le_refl _, fun _ _ => rfl⟩).trans hb3
          try go_simp
          refine hK _ _ ?_
          clear hK K
          refine wpAnyIn_ready (rs := [3]) (by kernel_rfl) (by simp) ?_
          refine AllReadyIn.cons rfl (fun K hK => ?_) ?_
          · go_simp
            refine hK _ _ ?_
            clear hK K
            refine wpAnyIn_ready (rs := [4]) (by kernel_rfl) (by simp) ?_
            refine AllReadyIn.cons rfl (fun K hK => ?_) ?_
            · refine stepIn_of (E := True) rfl (fun c h => by cases h) (step_appT1n (lo := B0) rfl rfl ((ho.drewN 1).below hb3) rfl (ho3.mono (by show B0 ≤ W.heap.size; omega)) (fun g h e => by have := ho.high g h; have := ho3.lo g e; have : W.heap.size ≤ g := this; omega) (fun j hj g h e => by have := ho.uHi g (.inr ⟨j, hj, e⟩); have := ho3.lo g h; have : W.heap.size ≤ g := this; omega) rfl (by omega) (by omega) ?_)
              intro g' cc w8 hO hg8 hat8 hb8
              have hL8 := ((hL.drewN 1).below hb3 hL.lt).below hb8 (by omega)
              have lL8 := hL8.one
              refine hK _ _ ?_
              clear hK K
              refine wpAnyIn_ready (rs := [5]) (by kernel_rfl) (by simp) ?_
              refine AllReadyIn.cons rfl (fun K hK => ?_) ?_
              · go_simp
                refine hK _ _ ?_
                clear hK K
                refine wpAnyIn_done (by kernel_rfl) ?_ _
                exact HEND.out a3 c3 w3 g' cc w8 ⟨#[], []⟩ ho3 hb4 hO hg8 hat8 hb8 hL8
              exact AllReadyIn.nil
            exact AllReadyIn.nil
          exact AllReadyIn.nil
        exact AllReadyIn.nil
      exact AllReadyIn.nil
    refine AllReadyIn.cons rfl (fun K hK => ?_) ?_
    · go_simp
      refine hK _ _ ?_
      clear hK K
      refine wpAnyIn_ready (rs := [0, 2]) (by kernel_rfl) (by simp) ?_
      refine AllReadyIn.cons rfl (fun K hK => ?_) ?_
      · go_simp
        refine hK _ _ ?_
        clear hK K
        refine wpAnyIn_ready (rs := [2]) (by kernel_rfl) (by simp) ?_
        refine AllReadyIn.cons rfl (fun K hK => ?_) ?_
        · go_simp
          refine ⟨trivial, ?_⟩
          gi_at_call 61
          refine (CallsIn.inRound l (callsIn_wide.2 (clone_any _ _ _ _ _ (hown.row.drewN 1) (by omega)))).mono ?_
          rintro e w3 ⟨a3, c3, rfl, ho3, hb3⟩
          have lL3 := ((hL.drewN 1).below hb3 hL.lt).one
          have hz3 : W.heap.size ≤ w3.heap.size := hb3.size
          have lL4 := (((hL.drewN 1).below hb3 hL.lt).alloc (.cells #[.slice a3 N c3] 41)).one
          have hb4 : Below W.heap.size W w3 := (show Below W.heap.size W (W.drewN 1) from ⟨rfl, rfl, rfl, Nat.le_refl _, fun _ _ => rfl⟩).trans hb3
          try go_simp
          refine hK _ _ ?_
          clear hK K
          refine wpAnyIn_ready (rs := [3]) (by kernel_rfl) (by simp) ?_
          refine AllReadyIn.cons rfl (fun K hK => ?_) ?_
          · go_simp
            refine hK _ _ ?_
            clear hK K
            refine wpAnyIn_ready (rs := [4]) (by kernel_rfl) (by simp) ?_
            refine AllReadyIn.cons rfl (fun K hK => ?_) ?_
            · refine stepIn_of (E := True) rfl (fun c h => by cases h) (step_appT1n (lo := B0) rfl rfl ((ho.drewN 1).below hb3) rfl (ho3.mono (by show B0 ≤ W.heap.size; omega)) (fun g h e => by have := ho.high g h; have := ho3.lo g e; have : W.heap.size ≤ g := this; omega) (fun j hj g h e => by have := ho.uHi g (.inr ⟨j, hj, e⟩); have := ho3.lo g h; have : W.heap.size ≤ g := this; omega) rfl (by omega) (by omega) ?_)
              intro g' cc w8 hO hg8 hat8 hb8
              have hL8 := ((hL.drewN 1).below hb3 hL.lt).below hb8 (by omega)
              have lL8 := hL8.one
              refine hK _ _ ?_
              clear hK K
              refine wpAnyIn_ready (rs := [5]) (by kernel_rfl) (by simp) ?_
              refine AllReadyIn.cons rfl (fun K hK => ?_) ?_
              · go_simp
                refine hK _ _ ?_
                clear hK K
                refine wpAnyIn_done (by kernel_rfl) ?_ _
                exact HEND.out a3 c3 w3 g' cc w8 ⟨#[], []⟩ ho3 hb4 hO hg8 hat8 hb8 hL8
              exact AllReadyIn.nil
            exact AllReadyIn.nil
          exact AllReadyIn.nil
        exact AllReadyIn.nil
      refine AllReadyIn.cons rfl (fun K hK => ?_) ?_
      · go_simp
        refine ⟨trivial, ?_⟩
        gi_at_call 61
        refine (CallsIn.inRound l (callsIn_wide.2 (clone_any _ _ _ _ _ (hown.row.drewN 1) (by omega)))).mono ?_
        rintro e w3 ⟨a3, c3, rfl, ho3, hb3⟩
        have lL3 := ((hL.drewN 1).below hb3 hL.lt).one
        have hz3 : W.heap.size ≤ w3.heap.size := hb3.size
        have lL4 := (((hL.drewN 1).below hb3 hL.lt).alloc (.cells #[.slice a3 N c3] 41)).one
        have hb4 : Below W.heap.size W w3 := (show Below W.heap.size W (W.drewN 1) from ⟨rfl, rfl, rfl, Nat.le_refl _, fun _ _ => rfl⟩).trans hb3
        try go_simp
        refine hK _ _ ?_
        clear hK K
        refine wpAnyIn_ready (rs := [0, 3]) (by kernel_rfl) (by simp) ?_
        refine AllReadyIn.cons rfl (fun K hK => ?_) ?_
        · go_simp
          refine hK _ _ ?_
          clear hK K
          refine wpAnyIn_ready (rs := [3]) (by kernel_rfl) (by simp) ?_
          refine AllReadyIn.cons rfl (fun K hK => ?_) ?_
          · go_simp
            refine hK _ _ ?_
            clear hK K
            refine wpAnyIn_ready (rs := [4]) (by kernel_rfl) (by simp) ?_
            refine AllReadyIn.cons rfl (fun K hK => ?_) ?_
            · refine stepIn_of (E := True) rfl (fun c h => by cases h) (step_appT1n (lo := B0) rfl rfl ((ho.drewN 1).below hb3) rfl (ho3.mono (by show B0 ≤ W.heap.size; omega)) (fun g h e => by have := ho.high g h; have := ho3.lo g e; have : W.heap.size ≤ g := this; omega) (fun j hj g h e => by have := ho.uHi g (.inr ⟨j, hj, e⟩); have := ho3.lo g h; have : W.heap.size ≤ g := this; omega) rfl (by omega) (by omega) ?_)
              intro g' cc w8 hO hg8 hat8 hb8
              have hL8 := ((hL.drewN 1).below hb3 hL.lt).below hb8 (by omega)
              have lL8 := hL8.one
              refine hK _ _ ?_
              clear hK K
              refine wpAnyIn_ready (rs := [5]) (by kernel_rfl) (by simp) ?_
              refine AllReadyIn.cons rfl (fun K hK => ?_) ?_
              · go_simp
                refine hK _ _ ?_
                clear hK K
                refine wpAnyIn_done (by kernel_rfl) ?_ _
                exact HEND.out a3 c3 w3 g' cc w8 ⟨#[], []⟩ ho3 hb4 hO hg8 hat8 hb8 hL8
              exact AllReadyIn.nil
            exact AllReadyIn.nil
          exact AllReadyIn.nil
        refine AllReadyIn.cons rfl (fun K hK => ?_) ?_
        · go_simp
          refine hK _ _ ?_
          clear hK K
          refine wpAnyIn_ready (rs := [0]) (by kernel_rfl) (by simp) ?_
          refine AllReadyIn.cons rfl (fun K hK => ?_) ?_
          · go_simp
            refine hK _ _ ?_
            clear hK K
            refine wpAnyIn_ready (rs := [4]) (by kernel_rfl) (by simp) ?_
            refine AllReadyIn.cons rfl (fun K hK => ?_) ?_
            · refine stepIn_of (E := True) rfl (fun c h => by cases h) (step_appT1n (lo := B0) rfl rfl ((ho.drewN 1).below hb3) rfl (ho3.mono (by show B0 ≤ W.heap.size; omega)) (fun g h e => by have := ho.high g h; have := ho3.lo g e; have : W.heap.size ≤ g := this; omega) (fun j hj g h e => by have := ho.uHi g (.inr ⟨j, hj, e⟩); have := ho3.lo g h; have : W.heap.size ≤ g := this; omega) rfl (by omega) (by omega) ?_)
              intro g' cc w8 hO hg8 hat8 hb8
              have hL8 := ((hL.drewN 1).below hb3 hL.lt).below hb8 (by omega)
              have lL8 := hL8.one
              refine hK _ _ ?_
              clear hK K
              refine wpAnyIn_ready (rs := [5]) (by kernel_rfl) (by simp) ?_
              refine AllReadyIn.cons rfl (fun K hK => ?_) ?_
              · go_simp
                refine hK _ _ ?_
                clear hK K
                refine wpAnyIn_done (by kernel_rfl) ?_ _
                exact HEND.out a3 c3 w3 g' cc w8 ⟨#[], []⟩ ho3 hb4 hO hg8 hat8 hb8 hL8
              exact AllReadyIn.nil
            exact AllReadyIn.nil
          exact AllReadyIn.nil
        exact AllReadyIn.nil
      exact AllReadyIn.nil
    exact AllReadyIn.nil
  case done =>
    rintro b W hb ⟨a, c, vs, hL, ho, hnb, hbW, hn, hf, hB⟩ hK
    rw [List.take_length] at ho
    obtain ⟨P, HP⟩ : ∃ P, Hid ((prmL N).length = P) := ⟨_, rfl⟩
    rw [HP.out] at ho hnb hL HM HPP
    have hP24 : P ≤ 24 ∧ 0 < P := HM.out
    have hsz : w.heap.size ≤ W.heap.size := hB.size
    have hWn := hn.lt
    have hWL := hL.lt
    obtain ⟨W2, hW2⟩ : ∃ W2, (W.alloc (Obj.cells #[Value.slice none 0 0] 70)).alloc (Obj.cells #[Value.nilFunc] 102) = W2 := ⟨_, rfl⟩
    have hz2 : W2.heap.size = W.heap.size + 2 := by rw [← hW2]; simp
    have hb2 : Below W.heap.size W W2 := by rw [← hW2]; exact below_al (below_al (Below.refl _ _) _) _
    have hT2 : Loc W2 W.heap.size #[.slice none 0 0] 70 := by rw [← hW2]; exact (Loc.new W rfl _ _).alloc _
    have hE2 : Loc W2 (W.heap.size + 1) #[.nilFunc] 102 := by rw [← hW2]; exact Loc.new _ (by simp) _ _
    have lE2 := hE2.one
    have hE3 := hE2.set 0 (Value.func (Fn.func 89) #[] #[bxP w.heap.size, bxP W.heap.size, bxP (w.heap.size + 1 + 1), bxP (w.heap.size + 1), bxP (W.heap.size + 1)])
    have lE3 := hE3.one
    obtain ⟨W3, hW3⟩ : ∃ W3, W2.setCell ⟨W.heap.size + 1, 0, none⟩ (Value.func (Fn.func 89) #[] #[bxP w.heap.size, bxP W.heap.size, bxP (w.heap.size + 1 + 1), bxP (w.heap.size + 1), bxP (W.heap.size + 1)]) = W3 := ⟨_, rfl⟩
    have hb3 : Below W.heap.size W W3 := by rw [← hW3]; exact hb2.setCell (by show W.heap.size ≤ W.heap.size + 1; omega) _
    have hz3 : W3.heap.size = W.heap.size + 2 := by rw [← hW3, size_set, hz2]
    have hT3 : Loc W3 W.heap.size #[.slice none 0 0] 70 := by rw [← hW3]; exact hT2.setne (by simp) _
    rw [hW3] at hE3 lE3
    have hX : ExtB W3 w.heap.size W.heap.size (w.heap.size + 1 + 1) (w.heap.size + 1) (W.heap.size + 1) N P c a gf lb := ⟨hn.below hb3 hn.lt, hL.below hb3 hL.lt, hf.below hb3 hf.lt, hE3, by omega, by omega, by omega, by omega⟩
    have hp3 := ho.below hb3
    have HPW : Hid (0 + P ^ N ≤ 1000000000) := Lib.hid (by
      have e1 : P ^ N ≤ 24 ^ N := Nat.pow_le_pow_left hP24.1 N
      have e2 : (24 : Nat) ^ N ≤ 24 ^ 4 := Nat.pow_le_pow_right (by omega) h4
      have e3 : (24 : Nat) ^ 4 ≤ 1000000 := by decide
      omega)
    have hK3 : W3.heap[W0.heap.size]? = some (.deferred (some [])) := (hb3.block _ (by omega)).trans hK
    rw [hs0] at hK3
    gi_wp2_with (refine ⟨trivial, ?_⟩; gi_at_call 89; refine (callsIn_wide.2 (extend_any N P (W.heap.size + 2) (W0.heap.size + 2) w.heap.size W.heap.size (w.heap.size + 1 + 1) (w.heap.size + 1) (W.heap.size + 1) gf lb fits (prmL N) a c vs h1 (by omega) HPP.out hfit (by omega) (by omega) (by omega) (by omega) (by omega) (fun g hg => by have := ho.uHi g hg; omega) N 0 [] none 0 [] none 0 0 [] [] W3 (by omega) (Hd.nil _ _) (RowsOf.nil _ _ _) hX hp3 hT3 (OwnTT.nil _ _) (fun g _ h => TTS.nil h) (fun g _ h => TTS.nil h) (by omega) HPW.out)).mono ?_; rintro e w4 ⟨⟨v4, rfl⟩, ta, tk, tc, tus, hT4, ht4, hM4, hsub4⟩; have lT4 := hT4.one)
    have hK4 : w4.heap[w.heap.size + 4]? = some (.deferred (some [])) := (hM4.block _ (by omega) (fun h => by rcases h with h | h; omega; exact TTS.nil h)).trans hK3
    have hB4 : Below w.heap.size w w4 := hB.trans ((hb3.mono hsz).trans (Marked.lowb hM4 (fun g h => by rcases h with h | h; omega; exact absurd h TTS.nil) (by omega)))
    refine ⟨by simp, .inl ⟨_, _, rfl, run_takeDeferred hK4, ?_⟩⟩
    refine ⟨_, results_tmp rfl _ _ _, ta, tk, tc, tus, rfl, ?_, ?_⟩
    · refine (ht4.mono (by omega)).keep fun g hg hlt => World.putObj_heap_other ?_
      have := ht4.uLo g hg
      omega
    · exact hB4.grown (grownBy_putObj' _ _ _) hB4.size (fun j e => by cases e; omega)
attribute [local go_sem] Oper.semAt_some
def lstF (n : Nat) (t best : List (List Int)) (p : List Int) : List (List Int) := if cmpT (rnL n t p) best < 0 then rnL n t p else best
def lstK (n : Nat) (t : List (List Int)) (k : Nat) : List (List Int) := ((prmL n).take k).foldl (lstF n t) t
def leastL (n : Nat) (t : List (List Int)) : List (List Int) := (prmL n).foldl (lstF n t) t
theorem lstK_succ (n : Nat) (t : List (List Int)) {k : Nat} (h : k < (prmL n).length) : lstK n t (k + 1) = lstF n t (lstK n t k) ((prmL n).getD k []) := by
  unfold lstK
  rw [List.take_succ_eq_append_getElem h, List.foldl_append]
  simp [List.getD_eq_getElem?_getD, List.getElem?_eq_getElem h]
set_option maxHeartbeats 16000000 in
theorem leastTable_any (N : Nat) (at_ : Option Addr) (ct : Nat) (t : List (List Int)) (w : World) (h1 : 1 ≤ N) (h4 : N ≤ 4) (hT : Tbl w at_ N t) (hs : Sq N t) :
    Calls Tryz.prog 48 #[.slice at_ N ct] w fun e w' => ∃ a c vs, e = .returned (.tuple #[.slice a N c, .int .i64 0]) ∧ OwnT w' w.heap.size a N c vs (leastL N t) ∧ Below w.heap.size w w' := by
  have HIT : Hid (isTab t = true) := Lib.hid (sq_isTab hs h1 (by omega))
  have HRW : Hid (∀ i, i < N → (t.getD i []).length ≤ 1000000) := Lib.hid fun i hi => by rw [hs.row hi]; omega
  have HS := Lib.hid hs
  clear hs
  obtain ⟨wa, hwa⟩ : ∃ wa, w.alloc (.cells #[.slice at_ N ct] 32) = wa := ⟨_, rfl⟩
  have hza : wa.heap.size = w.heap.size + 1 := by rw [← hwa]; simp
  have hBa : Below w.heap.size w wa := by rw [← hwa]; exact below_al (Below.refl _ _) _
  have hLa : Loc wa w.heap.size #[.slice at_ N ct] 32 := by rw [← hwa]; exact Loc.new w rfl _ _
  have lLa := hLa.one
  have hTa := hT.below hBa
  refine (callsIn_wide (n := 3)).1 ?_
  refine callsIn_of_wp_marks Tryz.func48 rfl trivial ?_ rfl
  simp only [Tryz.ntmps48, List.size_toArray, List.length_cons, List.length_nil, Nat.reduceAdd, Nat.reduceSub, Array.replicate_succ, Array.replicate_zero, List.push_toArray, List.append_toArray, List.nil_append, List.cons_append]
  gi_wp2_with (refine ⟨trivial, ?_⟩; gi_at_call 53; refine (callsIn_wide.2 (isTable_any at_ N ct t _ hTa (by omega))).mono ?_; rintro e w1 ⟨rfl, hb1⟩; rw [HIT.out]; have hL1 := hLa.below hb1 hLa.lt; have lL1 := hL1.one)
  have hB1 := below_th hBa hb1
  have hT1 := hTa.below hb1
  gi_wp2_with (refine ⟨trivial, ?_⟩; gi_at_call 90; refine (callsIn_wide.2 (cloneTable_any at_ N ct t _ hT1 (by omega) HRW.out)).mono ?_; rintro e w2 ⟨a2, c2, vs2, rfl, ho2, hb2⟩; have hL3 := (hL1.below hb2 hL1.lt).alloc (.cells #[.slice a2 N c2] 32); have lL3 := hL3.one)
  have hB2 := below_th hB1 hb2
  have hz2 := hb2.size
  have hz1 := hb1.size
  obtain ⟨w3, hw3⟩ : ∃ w3, w2.alloc (.cells #[.slice a2 N c2] 32) = w3 := ⟨_, rfl⟩
  rw [hw3] at hL3 lL3
  have hz3 : w3.heap.size = w2.heap.size + 1 := by rw [← hw3]; simp
  have hB3 : Below w.heap.size w w3 := by rw [← hw3]; exact below_al hB2 _
  have hM3 : Loc w3 w2.heap.size #[.slice a2 N c2] 32 := by rw [← hw3]; exact Loc.new w2 rfl _ _
  have ho3 : OwnT w3 w1.heap.size a2 N c2 vs2 t := by rw [← hw3]; exact ho2.alloc _
  have i7 : decide ((7 : Int) < (N : Int)) = false := by simp; omega
  rw [hw3]
  gi_wp2_with (refine ⟨trivial, ?_⟩; gi_at_call 88; refine (callsIn_wide.2 (perms_any N _)).mono ?_; rintro e w4 ⟨rfl, rfl⟩)
  obtain ⟨W0, hW0⟩ : ∃ W0, w3.alloc (.cells #[.int .i64 N] 3) = W0 := ⟨_, rfl⟩
  rw [hW0]
  have hs0 : W0.heap.size = w2.heap.size + 2 := by rw [← hW0]; simp; omega
  have hB0 : Below w.heap.size w W0 := by rw [← hW0]; exact below_al hB3 _
  have hLT : Loc W0 w.heap.size #[.slice at_ N ct] 32 := by rw [← hW0]; exact hL3.alloc _
  have hLM : Loc W0 w2.heap.size #[.slice a2 N c2] 32 := by rw [← hW0]; exact hM3.alloc _
  have hLN : Loc W0 (w2.heap.size + 1) #[.int .i64 N] 3 := by rw [← hW0]; exact Loc.new w3 (by omega) _ _
  have hoM : OwnT W0 w.heap.size a2 N c2 vs2 t := by rw [← hW0]; exact (ho3.alloc _).mono (by omega)
  have hhi : ∀ g, TblS a2 N vs2 g → g < w2.heap.size := fun g hg => ho2.uHi g hg
  have HM := Lib.hid (prm_bd h1 h4)
  have HPP := Lib.hid (prm_isP h1 h4)
  have HHI := Lib.hid hhi
  have HW3 := Lib.hid hw3
  clear hW0 hw3 hwa hhi
  refine wpIn_rangeFunc_it rfl (by omega) (gf := 126) (lb := #[.pointer (some ⟨w2.heap.size + 1, 0, none⟩)]) rfl trivial (enters_of Tryz.func126 (by kernel_rfl) rfl)
    (perms1_it _ N (w2.heap.size + 1) W0 (by omega) hLN.one.1 h1 h4) (Below.refl _ _) rfl
    (fun b k W => ∃ a c vs, Loc W w2.heap.size #[.slice a N c] 32 ∧ OwnT W w.heap.size a N c vs (lstK N t k) ∧ (∀ g, TblS a N vs g → g ≠ b ∧ g ≠ w2.heap.size ∧ g ≠ W0.heap.size ∧ g ≠ W0.heap.size + 1) ∧ b < W.heap.size ∧ Loc W w.heap.size #[.slice at_ N ct] 32 ∧ Below w.heap.size w W)
    ?start ?abide
    (fun b c => { tmps := #[.slice at_ N ct, .pointer (some ⟨w.heap.size, 0, none⟩), .slice none 0 0, .int .i64 0, .pointer (some ⟨w2.heap.size, 0, none⟩), .slice (some ⟨b, 0, none⟩) N c, undef, .slice at_ N ct, .bool true, .bool false, .slice at_ N ct, .int .i64 N,
      .bool false, .slice at_ N ct, .slice a2 N c2, .slice at_ N ct, .int .i64 N, .func (.func 126) #[] #[.pointer (some ⟨w2.heap.size + 1, 0, none⟩)], .slice (some ⟨b, 0, none⟩) N c, undef, undef, undef, undef, undef, undef, undef, undef, undef], defers := [] })
    ?assign ?body ?done
  case start =>
    intro b W' hb hlt hB
    exact ⟨a2, c2, vs2, hLM.below hB (by omega), OwnT.keep hoM fun g h1 h2 => hB.block g (by have := HHI.out g h1; omega), fun g hg => by have := HHI.out g hg; omega, hlt, hLT.below hB (by omega), hB0.trans (hB.mono (by omega))⟩
  case abide =>
    rintro b k A B r hr hb ⟨a, c, vs, q1, q2, q3, q4, q5, q6⟩ hg
    have hne : ∀ g, (g < W0.heap.size) → some g ≠ some r := fun g hg e => by cases e; omega
    refine ⟨a, c, vs, q1.grown hg (hne _ (by omega)), OwnT.keep q2 fun g h1 h2 => hg.block g h2 (fun e => ?_), q3, by have := hg.size; omega, q5.grown hg (hne _ (by omega)), q6.grown hg q6.size (fun j e => by cases e; omega)⟩
    have e' : g = r := by injection e
    have h3 := q3 g h1
    omega
  case assign =>
    intro l b c W K hK
    gi_wp2
    exact hK
  case body =>
    rintro l b c k W hb hkM ⟨a, ca, vs, hL, ho, hav, hbW, hLt, hB⟩ hs hown
    have hpk := HPP.out k hkM
    have lL := hL.one
    have lT := hLt.one
    have hTW := hT.below hB
    have HAV := Lib.hid hav
    have HKK := Lib.hid (lstK_succ N t hkM)
    obtain ⟨p, HP⟩ : ∃ p, Hid ((prmL N).getD k [] = p) := ⟨_, rfl⟩
    rw [HP.out] at hpk hown HKK
    have HPK := Lib.hid hpk
    clear hav hpk
    obtain ⟨C, HC⟩ : ∃ C, Hid (cmpT (rnL N t p) (lstK N t k) = C) := ⟨_, rfl⟩
    have hC64 : -1 ≤ C ∧ C ≤ 1 := by rw [← HC.out]; exact cmpT_bd _ _
    by_cases hC : C < 0
    · have HKN : Hid (lstK N t (k + 1) = rnL N t p) := Lib.hid (by rw [HKK.out]; unfold lstF; rw [HC.out, if_pos hC])
      gi_wp2_with (first
        | (refine ⟨trivial, ?_⟩; gi_at_call 96; refine (CallsIn.inRound l (callsIn_wide.2 (renamed_any N _ _ _ _ t p W hTW hown.row HS.out HPK.out (by omega)))).mono ?_; rintro e w5 ⟨a5, c5, vs5, rfl, ho5, hb5⟩; have hL5 := hL.below hb5 hL.lt; have lL5 := hL5.one)
        | (refine ⟨trivial, ?_⟩; gi_at_call 97; refine (CallsIn.inRound l (callsIn_wide.2 (compareTables_any _ _ _ _ _ _ _ _ w5 ho5.tbl (ho.below hb5).tbl (by omega)))).mono ?_; rintro e w6 ⟨rfl, rfl⟩; rw [HC.out]))
      have hz5 := hb5.size
      have hsc : ∀ q, q ≠ w2.heap.size → (w5.setCell ⟨w2.heap.size, 0, none⟩ (.slice a5 N c5)).heap[q]? = w5.heap[q]? := fun q hq => Below.heap_setCell _ _ _ _ hq
      refine ⟨⟨a5, c5, vs5, hL5.set 0 _, ?_, ?_, by rw [size_set]; omega, ?_, ?_⟩, ?_, by rw [size_set]; omega, ?_, ?_⟩
      · rw [HKN.out]
        exact (OwnT.keep ho5 fun g h1 h2 => hsc g (by have := ho5.uLo g h1; omega)).mono hB.size
      · intro g hg
        have := ho5.uLo g hg
        omega
      · exact ((hsc _ (by omega)).trans (hb5.block _ hLt.lt)).trans hLt
      · exact (hB.trans (hb5.mono hB.size)).setCell (by show w.heap.size ≤ w2.heap.size; omega) _
      · exact (hsc _ (by omega)).trans (hb5.block _ hbW)
      · exact (hsc _ (by omega)).trans (hb5.block _ (by omega))
      · exact (hsc _ (by omega)).trans (hb5.block _ (by omega))
    · have HKN : Hid (lstK N t (k + 1) = lstK N t k) := Lib.hid (by rw [HKK.out]; unfold lstF; rw [HC.out, if_neg hC])
      gi_wp2_with (first
        | (refine ⟨trivial, ?_⟩; gi_at_call 96; refine (CallsIn.inRound l (callsIn_wide.2 (renamed_any N _ _ _ _ t p W hTW hown.row HS.out HPK.out (by omega)))).mono ?_; rintro e w5 ⟨a5, c5, vs5, rfl, ho5, hb5⟩; have hL5 := hL.below hb5 hL.lt; have lL5 := hL5.one)
        | (refine ⟨trivial, ?_⟩; gi_at_call 97; refine (CallsIn.inRound l (callsIn_wide.2 (compareTables_any _ _ _ _ _ _ _ _ w5 ho5.tbl (ho.below hb5).tbl (by omega)))).mono ?_; rintro e w6 ⟨rfl, rfl⟩; rw [HC.out]))
      have hz5 := hb5.size
      refine ⟨⟨a, ca, vs, hL5, ?_, HAV.out, by omega, hLt.below hb5 hLt.lt, hB.trans (hb5.mono hB.size)⟩, hb5.block _ hbW, by omega, hb5.block _ (by omega), hb5.block _ (by omega)⟩
      rw [HKN.out]
      exact ho.below hb5
  case done =>
    rintro b W hb ⟨a, c, vs, hL, ho, hav, hbW, hLt, hB⟩ hK
    have lL := hL.one
    have HAV := Lib.hid hav
    have hE : lstK N t (prmL N).length = leastL N t := by unfold lstK leastL; rw [List.take_length]
    rw [hE] at ho
    clear hav hE
    gi_wp2
    refine ⟨by simp, .inl ⟨_, _, rfl, run_takeDeferred hK, ?_⟩⟩
    refine ⟨_, results_tmp2 rfl _ _ _, a, c, vs, rfl, ?_, ?_⟩
    · exact OwnT.keep ho fun g hg hlt => World.putObj_heap_other (HAV.out g hg).2.2.1
    · exact hB.grown (grownBy_putObj' _ _ _) hB.size (fun j e => by cases e; omega)
end Go.Proofs.YtaddclaadbjnlaaGreat
