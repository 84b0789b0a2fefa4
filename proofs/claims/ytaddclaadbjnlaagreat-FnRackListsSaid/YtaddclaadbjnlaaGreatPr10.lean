/-
  Walks and plain laws of this seat, some texts in one.
  No condition but bounds on lengths.
-/
import Derived.Shelf.Abstract
import Derived.Test.YtaddclaadbjnlaaGreatPr8
import Derived.Test.YtaddclaadbjnlaaGreatPr9
import Derived.Test.YtaddclaadbjnlaaGreatPr7
import Derived.Test.YtaddclaadbjnlaaGreatPr2
import Derived.Test.YtaddclaadbjnlaaGreatPr4
import Derived.Test.YtaddclaadbjnlaaGreatPr6
import Derived.Test.YtaddclaadbjnlaaGreatPr1
namespace Go.Proofs.YtaddclaadbjnlaaGreat
set_option maxRecDepth 100000
set_option linter.unusedVariables false
set_option linter.unusedSimpArgs false
open Go.RowKit
attribute [local go_sem] Oper.semAt_some
theorem run_store_fn {P : Program} {w : World} (a : Addr) (m : Mode) (fn : Fn) (first captured : Array Value) : (store a (.func fn first captured) m).run P w = stored P w a (.func fn first captured) m := run_store P w a _ m rfl
attribute [local go_sem] run_store_fn
theorem perms_any (N : Nat) (w : World) : Calls Tryz.prog 88 #[.int .i64 N] w fun e w' =>
    e = .returned (.func (.func 126) #[] #[.pointer (some ⟨w.heap.size, 0, none⟩)]) ∧ w' = w.alloc (.cells #[.int .i64 N] 3) := by
  go_enter Tryz.func88, Tryz.ntmps88
  go_wp2
  go_ret
  exact ⟨rfl, rfl⟩
theorem uponIn_of {P : Program} {o : Oper} {a : Act} {K : Act → World → Prop} {Q : Exit → Act → World → Prop} {l m : Nat} {r : Result Next} (h : o.upon P a K Q r) : o.uponIn (Fence.wide.inRound l) m P a K Q r := by
  cases r with
  | halt h0 w0 => cases h0 <;> first | exact h | exact h.elim
  | ok x w0 =>
    cases x with
    | value v => exact h
    | skip => exact h
    | defer d => exact h
    | enter f args => exact ⟨fun e => (by cases e), callsIn_wide.2 h⟩
    | row row args => exact ⟨fun e => (by cases e), fun c cs _ => (by obtain ⟨v, w', r, s⟩ := h c cs; exact ⟨v, w', r, stepsIn_wide.2 s⟩)⟩
    | _ => exact h.elim
theorem stepIn_of {P : Program} {ops : Array Oper} {o : Oper} {a : Act} {w : World} {K : Act → World → Prop} {Q : Exit → Act → World → Prop} {E E' : Prop} {l m : Nat} (hg : o.guard = none) (hd : ∀ c, o.op ≠ .defer c)
    (h : if Region.wanted o (yielded ops a.tmps) = true then Oper.wp P o a w K Q else E) : if Region.wanted o (yielded ops a.tmps) = true then Oper.wpIn (Fence.wide.inRound l) m P o a w K Q else E' := by
  have hw : Region.wanted o (yielded ops a.tmps) = true := by simp [Region.wanted, hg]
  rw [if_pos hw] at h ⊢
  refine ⟨fun f _ => trivial, ?_⟩
  have : o.semAt (Fence.wide.inRound l).round a.eval = execOp a.eval o := Oper.semAt_some l _ _ hd
  rw [this]
  exact uponIn_of h
set_option maxHeartbeats 16000000 in
theorem rowTables_any (N gf : Nat) (lb : Array Value) (fits : List (List Int) → Bool) (w : World) (h1 : 1 ≤ N) (h4 : N ≤ 4) (hfit : FitH gf lb fits N) :
    Calls Tryz.prog 45 #[.int .i64 N, .func (.func gf) #[] lb] w fun e w' => ∃ a k c us, e = .returned (.slice a k c) ∧ OwnTT w' w.heap.size a k c us (rowL N fits) ∧ Below w.heap.size w w' := by
  have hdd : ∀ k : Nat, (Fence.wide.depth.isSome = true → 1 ≤ k) := fun k h => by cases h
  refine (callsIn_wide (n := 3)).1 ?_
  refine callsIn_of_wp_marks Tryz.func45 rfl trivial ?_ rfl
  simp only [Tryz.ntmps45, List.size_toArray, List.length_cons, List.length_nil, Nat.reduceAdd, Nat.reduceSub, Array.replicate_succ, Array.replicate_zero, List.push_toArray, List.append_toArray, List.nil_append, List.cons_append]
  gi_wp2_with (refine ⟨trivial, ?_⟩; gi_at_call 88; refine (callsIn_wide.2 (perms_any N _)).mono ?_; rintro e w1 ⟨rfl, rfl⟩)
  obtain ⟨W0, hW0⟩ : ∃ W0, (((w.alloc (Obj.cells #[Value.int IntKind.i64 N] 3)).alloc (Obj.cells #[Value.func (Fn.func gf) #[] lb] 72)).alloc (Obj.cells #[Value.slice none 0 0] 32)).alloc (Obj.cells #[Value.int IntKind.i64 N] 3) = W0 := ⟨_, rfl⟩
  rw [hW0]
  have hs0 : W0.heap.size = w.heap.size + 4 := by rw [← hW0]; simp
  have hB0 : Below w.heap.size w W0 := by rw [← hW0]; exact below_al (below_al (below_al (below_al (Below.refl _ _) _) _) _) _
  have hL0 : Loc W0 w.heap.size #[.int .i64 N] 3 := by rw [← hW0]; exact (((Loc.new w rfl _ _).alloc _).alloc _).alloc _
  have hL1 : Loc W0 (w.heap.size + 1) #[.func (.func gf) #[] lb] 72 := by rw [← hW0]; exact ((Loc.new _ (by simp) _ _).alloc _).alloc _
  have hL2 : Loc W0 (w.heap.size + 2) #[.slice none 0 0] 32 := by rw [← hW0]; exact (Loc.new _ (by simp) _ _).alloc _
  have hL3 : Loc W0 (w.heap.size + 3) #[.int .i64 N] 3 := by rw [← hW0]; exact Loc.new _ (by simp) _ _
  have HM := Lib.hid (prm_bd h1 h4)
  have HPP := Lib.hid (prm_isP h1 h4)
  clear hW0
  refine wpIn_rangeFunc_it rfl (by omega) (gf := 126) (lb := #[.pointer (some ⟨w.heap.size + 1 + 1 + 1, 0, none⟩)]) rfl trivial (enters_of Tryz.func126 (by kernel_rfl) rfl)
    (perms1_it _ N (w.heap.size + 3) W0 (by omega) hL3.one.1 h1 h4) (Below.refl _ _) rfl
    (fun b k W => ∃ a c vs, Loc W (w.heap.size + 2) #[.slice a k c] 32 ∧ OwnT W (W0.heap.size + 2) a k c vs ((prmL N).take k) ∧ ¬ TblS a k vs b ∧ b < W.heap.size ∧ Loc W w.heap.size #[.int .i64 N] 3 ∧ Loc W (w.heap.size + 1) #[.func (.func gf) #[] lb] 72 ∧ Below w.heap.size w W)
    ?start ?abide
    (fun b c => { tmps := #[.int .i64 N, .func (.func gf) #[] lb, .pointer (some ⟨w.heap.size, 0, none⟩), .pointer (some ⟨w.heap.size + 1, 0, none⟩), .slice none 0 0, .pointer (some ⟨w.heap.size + 1 + 1, 0, none⟩), .slice (some ⟨b, 0, none⟩) N c, undef, undef, .int .i64 N,
      .func (.func 126) #[] #[.pointer (some ⟨w.heap.size + 1 + 1 + 1, 0, none⟩)], .slice (some ⟨b, 0, none⟩) N c, undef, undef, undef, undef, undef, undef, undef, undef, undef], defers := [] })
    ?assign ?body ?done
  case start =>
    intro b W' hb hlt hB
    refine ⟨none, 0, [], hL2.below hB (by omega), OwnT.nil _ _, ?_, hlt, hL0.below hB (by omega), hL1.below hB (by omega), hB0.trans (hB.mono (by omega))⟩
    rintro (h | ⟨i, hi, _⟩)
    · cases h
    · omega
  case abide =>
    rintro b k A B r hr hb ⟨a, c, vs, q1, q2, q3, q4, q5, q6, q7⟩ hg
    have hne : ∀ g, (g < W0.heap.size) → some g ≠ some r := fun g hg e => by cases e; omega
    refine ⟨a, c, vs, q1.grown hg (hne _ (by omega)), OwnT.keep q2 fun g h1 h2 => hg.block g h2 (fun e => ?_), q3, by have := hg.size; omega, q5.grown hg (hne _ (by omega)), q6.grown hg (hne _ (by omega)), q7.grown hg q7.size (fun j e => by cases e; omega)⟩
    have e' : g = r := by injection e
    have h3 := q2.uLo g h1
    rcases hr with hr | hr
    · exact q3 (by rw [← hr, ← e']; exact h1)
    · omega
  case assign =>
    intro l b c W K hK
    gi_wp2
    exact hK
  case body =>
    rintro l b c k W hb hkM ⟨a, ca, vs, hL, ho, hnb, hbW, hn, hf, hB⟩ hs hown
    obtain ⟨B0, HB0⟩ : ∃ B0, B0 = W0.heap.size + 2 := ⟨_, rfl⟩
    rw [← HB0] at ho hown hb hs
    have hM24 : k ≤ 24 := by have := HM.out; omega
    have hx2 : w.heap.size + 2 < B0 := by omega
    have hend : (∀ (a3 : Option Addr) (c3 : Nat) (w3 : World) (g' cc : Nat) (w8 : World) (act : Act), Own w3 W.heap.size a3 N c3 ((prmL N).getD k []) → Below W.heap.size W w3 → OwnT w8 B0 (some ⟨g', 0, none⟩) (k + 1) cc (vs ++ [(a3, N, c3)]) ((prmL N).take k ++ [(prmL N).getD k []]) → w3.grownBy w8 (Value.slice a k ca).ownBlock → ((Value.slice a k ca).ownBlock = some g' ∨ w3.heap.size ≤ g') → Below B0 w3 w8 → Loc w8 (w.heap.size + 2) #[.slice a k ca] 32 →
        itPost (fun b k W => ∃ a c vs, Loc W (w.heap.size + 2) #[.slice a k c] 32 ∧ OwnT W (W0.heap.size + 2) a k c vs ((prmL N).take k) ∧ ¬ TblS a k vs b ∧ b < W.heap.size ∧ Loc W w.heap.size #[.int .i64 N] 3 ∧ Loc W (w.heap.size + 1) #[.func (.func gf) #[] lb] 72 ∧ Below w.heap.size w W) W0.heap.size b (k + 1) W .normal act (w8.setCell ⟨w.heap.size + 2, 0, none⟩ (.slice (some ⟨g', 0, none⟩) (k + 1) cc))) := by
      intro a3 c3 w3 g' cc w8 act ho3 hb3 hO hg8 hat8 hb8 hL8
      have hz3 := hb3.size
      have hz8 := hb8.size
      have hneb : ∀ q, q < W.heap.size → ¬ TblS a k vs q → w8.heap[q]? = W.heap[q]? := fun q hq hn => (hg8.block q (by omega) (fun e => hn (OwnT.ownBlk ho e.symm))).trans (hb3.block q hq)
      have hlow : ∀ q, q < B0 → q < W.heap.size → w8.heap[q]? = W.heap[q]? := fun q h1 h2 => hneb q h2 (fun h => by have := ho.uLo q h; omega)
      have hsc : ∀ q, q ≠ w.heap.size + 2 → (w8.setCell ⟨w.heap.size + 2, 0, none⟩ (.slice (some ⟨g', 0, none⟩) (k + 1) cc)).heap[q]? = w8.heap[q]? := fun q hq => Below.heap_setCell _ _ _ _ hq
      refine ⟨⟨some ⟨g', 0, none⟩, cc, vs ++ [(a3, N, c3)], hL8.set 0 _, ?_, ?_, by rw [size_set]; omega, ?_, ?_, ?_⟩, ?_, by rw [size_set]; omega, ?_, ?_⟩
      · rw [← HB0, List.take_succ_eq_append_getElem hkM]
        have : (prmL N)[k] = (prmL N).getD k [] := by simp [List.getD_eq_getElem?_getD, List.getElem?_eq_getElem hkM]
        rw [this]
        exact hO.setlo hx2 _
      · intro hq
        rcases TblS.snoc (a := a) ho.vlen hq with rfl | h' | h'
        · rcases hat8 with h2 | h2
          · exact hnb (OwnT.ownBlk ho h2)
          · omega
        · have := ho3.lo _ h'; omega
        · exact hnb h'
      · exact ((hsc _ (by omega)).trans (hlow _ (by omega) hn.lt)).trans hn
      · exact ((hsc _ (by omega)).trans (hlow _ (by omega) hf.lt)).trans hf
      · have h8 : Below w.heap.size w w8 := hB.trans ((hb3.mono hB.size).trans (hb8.mono (by omega)))
        exact h8.setCell (by show w.heap.size ≤ w.heap.size + 2; omega) _
      · exact (hsc _ (by omega)).trans (hneb _ hbW hnb)
      · exact (hsc _ (by omega)).trans (hlow _ (by omega) (by omega))
      · exact (hsc _ (by omega)).trans (hlow _ (by omega) (by omega))
    have HEND := Lib.hid hend
    clear hend
    have lL := hL.one
    gi_wp2
    refine wpIn_region_any (by kernel_rfl) ?_
    change wpAnyIn _ _ _ _ _ _ _ _ _ (World.drew _)
    refine wpAnyIn_ready (rs := [0, 1]) (by kernel_rfl) (by simp) ?_
    refine AllReadyIn.cons rfl (fun K hK => ?_) ?_
    · go_simp
      refine hK _ _ ?_
      clear hK K
      refine wpAnyIn_ready (rs := [1]) (by kernel_rfl) (by simp) ?_
      refine AllReadyIn.cons rfl (fun K hK => ?_) ?_
      · go_simp
        refine hK _ _ ?_
        clear hK K
        refine wpAnyIn_ready (rs := [2]) (by kernel_rfl) (by simp) ?_
        refine AllReadyIn.cons rfl (fun K hK => ?_) ?_
        · go_simp
          refine ⟨trivial, ?_⟩
          gi_at_call 61
          refine (CallsIn.inRound l (callsIn_wide.2 (clone_any _ _ _ _ _ (hown.row.drewN 1) (by omega)))).mono ?_
          rintro e w3 ⟨a3, c3, rfl, ho3, hb3⟩
          have lL3 := ((hL.drewN 1).below hb3 hL.lt).one
          have hz3 : W.heap.size ≤ w3.heap.size := hb3.size
          have lL4 := (((hL.drewN 1).below hb3 hL.lt).alloc (.cells #[.slice a3 N c3] 41)).one
          have hb4 : Below W.heap.size W w3 := (show Below W.heap.size W (W.drewN 1) from ⟨rfl, rfl, rfl, Nat.le_refl _, fun _ _ => rfl⟩).trans hb3
          try go_simp
          refine hK _ _ ?_
          clear hK K
          refine wpAnyIn_ready (rs := [3]) (by kernel_rfl) (by simp) ?_
          refine AllReadyIn.cons rfl (fun K hK => ?_) ?_
          · go_simp
            refine hK _ _ ?_
            clear hK K
            refine wpAnyIn_ready (rs := [4]) (by kernel_rfl) (by simp) ?_
            refine AllReadyIn.cons rfl (fun K hK => ?_) ?_
            · refine stepIn_of (E := True) rfl (fun c h => by cases h) (step_appT1n (lo := B0) rfl rfl ((ho.drewN 1).below hb3) rfl (ho3.mono (by show B0 ≤ W.heap.size; omega)) (fun g h e => by have := ho.high g h; have := ho3.lo g e; have : W.heap.size ≤ g := this; omega) (fun j hj g h e => by have := ho.uHi g (.inr ⟨j, hj, e⟩); have := ho3.lo g h; have : W.heap.size ≤ g := this; omega) rfl (by omega) (by omega) ?_)
              intro g' cc w8 hO hg8 hat8 hb8
              have hL8 := ((hL.drewN 1).below hb3 hL.lt).below hb8 (by omega)
              have lL8 := hL8.one
              refine hK _ _ ?_
              clear hK K
              refine wpAnyIn_ready (rs := [5]) (by kernel_rfl) (by simp) ?_
              refine AllReadyIn.cons rfl (fun K hK => ?_) ?_
              · go_simp
                refine hK _ _ ?_
                clear hK K
                refine wpAnyIn_done (by kernel_rfl) ?_ _
                exact HEND.out a3 c3 w3 g' cc w8 ⟨#[], []⟩ ho3 hb4 hO hg8 hat8 hb8 hL8
              exact AllReadyIn.nil
            exact AllReadyIn.nil
          exact AllReadyIn.nil
        exact AllReadyIn.nil
      exact AllReadyIn.nil
    refine AllReadyIn.cons rfl (fun K hK => ?_) ?_
    · go_simp
      refine hK _ _ ?_
      clear hK K
      refine wpAnyIn_ready (rs := [0, 2]) (by kernel_rfl) (by simp) ?_
      refine AllReadyIn.cons rfl (fun K hK => ?_) ?_
      · go_simp
        refine hK _ _ ?_
        clear hK K
        refine wpAnyIn_ready (rs := [2]) (by kernel_rfl) (by simp) ?_
        refine AllReadyIn.cons rfl (fun K hK => ?_) ?_
        · go_simp
          refine ⟨trivial, ?_⟩
          gi_at_call 61
          refine (CallsIn.inRound l (callsIn_wide.2 (clone_any _ _ _ _ _ (hown.row.drewN 1) (by omega)))).mono ?_
          rintro e w3 ⟨a3, c3, rfl, ho3, hb3⟩
          have lL3 := ((hL.drewN 1).below hb3 hL.lt).one
          have hz3 : W.heap.size ≤ w3.heap.size := hb3.size
          have lL4 := (((hL.drewN 1).below hb3 hL.lt).alloc (.cells #[.slice a3 N c3] 41)).one
          have hb4 : Below W.heap.size W w3 := (show Below W.heap.size W (W.drewN 1) from ⟨rfl, rfl, rfl, Nat.le_refl _, fun _ _ => rfl⟩).trans hb3
          try go_simp
          refine hK _ _ ?_
          clear hK K
          refine wpAnyIn_ready (rs := [3]) (by kernel_rfl) (by simp) ?_
          refine AllReadyIn.cons rfl (fun K hK => ?_) ?_
          · go_simp
            refine hK _ _ ?_
            clear hK K
            refine wpAnyIn_ready (rs := [4]) (by kernel_rfl) (by simp) ?_
            refine AllReadyIn.cons rfl (fun K hK => ?_) ?_
            · refine stepIn_of (E := True) rfl (fun c h => by cases h) (step_appT1n (lo := B0) rfl rfl ((ho.drewN 1).below hb3) rfl (ho3.mono (by show B0 ≤ W.heap.size; omega)) (fun g h e => by have := ho.high g h; have := ho3.lo g e; have : W.heap.size ≤ g := this; omega) (fun j hj g h e => by have := ho.uHi g (.inr ⟨j, hj, e⟩); have := ho3.lo g h; have : W.heap.size ≤ g := this; omega) rfl (by omega) (by omega) ?_)
              intro g' cc w8 hO hg8 hat8 hb8
              have hL8 := ((hL.drewN 1).below hb3 hL.lt).below hb8 (by omega)
              have lL8 := hL8.one
              refine hK _ _ ?_
              clear hK K
              refine wpAnyIn_ready (rs := [5]) (by kernel_rfl) (by simp) ?_
              refine AllReadyIn.cons rfl (fun K hK => ?_) ?_
              · go_simp
                refine hK _ _ ?_
                clear hK K
                refine wpAnyIn_done (by kernel_rfl) ?_ _
                exact HEND.out a3 c3 w3 g' cc w8 ⟨#[], []⟩ ho3 hb4 hO hg8 hat8 hb8 hL8
              exact AllReadyIn.nil
            exact AllReadyIn.nil
          exact AllReadyIn.nil
        exact AllReadyIn.nil
      refine AllReadyIn.cons rfl (fun K hK => ?_) ?_
      · go_simp
        refine ⟨trivial, ?_⟩
        gi_at_call 61
        refine (CallsIn.inRound l (callsIn_wide.2 (clone_any _ _ _ _ _ (hown.row.drewN 1) (by omega)))).mono ?_
        rintro e w3 ⟨a3, c3, rfl, ho3, hb3⟩
        have lL3 := ((hL.drewN 1).below hb3 hL.lt).one
        have hz3 : W.heap.size ≤ w3.heap.size := hb3.size
        have lL4 := (((hL.drewN 1).below hb3 hL.lt).alloc (.cells #[.slice a3 N c3] 41)).one
        have hb4 : Below W.heap.size W w3 := (show Below W.heap.size W (W.drewN 1) from ⟨rfl, rfl, rfl, Nat.le_refl _, fun _ _ => rfl⟩).trans hb3
        try go_simp
        refine hK _ _ ?_
        clear hK K
        refine wpAnyIn_ready (rs := [0, 3]) (by kernel_rfl) (by simp) ?_
        refine AllReadyIn.cons rfl (fun K hK => ?_) ?_
        · go_simp
          refine hK _ _ ?_
          clear hK K
          refine wpAnyIn_ready (rs := [3]) (by kernel_rfl) (by simp) ?_
          refine AllReadyIn.cons rfl (fun K hK => ?_) ?_
          · go_simp
            refine hK _ _ ?_
            clear hK K
            refine wpAnyIn_ready (rs := [4]) (by kernel_rfl) (by simp) ?_
            refine AllReadyIn.cons rfl (fun K hK => ?_) ?_
            · refine stepIn_of (E := True) rfl (fun c h => by cases h) (step_appT1n (lo := B0) rfl rfl ((ho.drewN 1).below hb3) rfl (ho3.mono (by show B0 ≤ W.heap.size; omega)) (fun g h e => by have := ho.high g h; have := ho3.lo g e; have : W.heap.size ≤ g := this; omega) (fun j hj g h e => by have := ho.uHi g (.inr ⟨j, hj, e⟩); have := ho3.lo g h; have : W.heap.size ≤ g := this; omega) rfl (by omega) (by omega) ?_)
              intro g' cc w8 hO hg8 hat8 hb8
              have hL8 := ((hL.drewN 1).below hb3 hL.lt).below hb8 (by omega)
              have lL8 := hL8.one
              refine hK _ _ ?_
              clear hK K
              refine wpAnyIn_ready (rs := [5]) (by kernel_rfl) (by simp) ?_
              refine AllReadyIn.cons rfl (fun K hK => ?_) ?_
              · go_simp
                refine hK _ _ ?_
                clear hK K
                refine wpAnyIn_done (by kernel_rfl) ?_ _
                exact HEND.out a3 c3 w3 g' cc w8 ⟨#[], []⟩ ho3 hb4 hO hg8 hat8 hb8 hL8
              exact AllReadyIn.nil
            exact AllReadyIn.nil
          exact AllReadyIn.nil
        refine AllReadyIn.cons rfl (fun K hK => ?_) ?_
        · go_simp
          refine hK _ _ ?_
          clear hK K
          refine wpAnyIn_ready (rs := [0]) (by kernel_rfl) (by simp) ?_
          refine AllReadyIn.cons rfl (fun K hK => ?_) ?_
          · go_simp
            refine hK _ _ ?_
            clear hK K
            refine wpAnyIn_ready (rs := [4]) (by kernel_rfl) (by simp) ?_
            refine AllReadyIn.cons rfl (fun K hK => ?_) ?_
            · refine stepIn_of (E := True) rfl (fun c h => by cases h) (step_appT1n (lo := B0) rfl rfl ((ho.drewN 1).below hb3) rfl (ho3.mono (by show B0 ≤ W.heap.size; omega)) (fun g h e => by have := ho.high g h; have := ho3.lo g e; have : W.heap.size ≤ g := this; omega) (fun j hj g h e => by have := ho.uHi g (.inr ⟨j, hj, e⟩); have := ho3.lo g h; have : W.heap.size ≤ g := this; omega) rfl (by omega) (by omega) ?_)
              intro g' cc w8 hO hg8 hat8 hb8
              have hL8 := ((hL.drewN 1).below hb3 hL.lt).below hb8 (by omega)
              have lL8 := hL8.one
              refine hK _ _ ?_
              clear hK K
              refine wpAnyIn_ready (rs := [5]) (by kernel_rfl) (by simp) ?_
              refine AllReadyIn.cons rfl (fun K hK => ?_) ?_
              · go_simp
                refine hK _ _ ?_
                clear hK K
                refine wpAnyIn_done (by kernel_rfl) ?_ _
                exact HEND.out a3 c3 w3 g' cc w8 ⟨#[], []⟩ ho3 hb4 hO hg8 hat8 hb8 hL8
              exact AllReadyIn.nil
            exact AllReadyIn.nil
          exact AllReadyIn.nil
        exact AllReadyIn.nil
      exact AllReadyIn.nil
    exact AllReadyIn.nil
  case done =>
    rintro b W hb ⟨a, c, vs, hL, ho, hnb, hbW, hn, hf, hB⟩ hK
    rw [List.take_length] at ho
    obtain ⟨P, HP⟩ : ∃ P, Hid ((prmL N).length = P) := ⟨_, rfl⟩
    rw [HP.out] at ho hnb hL HM HPP
    have hP24 : P ≤ 24 ∧ 0 < P := HM.out
    have hsz : w.heap.size ≤ W.heap.size := hB.size
    have hWn := hn.lt
    have hWL := hL.lt
    obtain ⟨W2, hW2⟩ : ∃ W2, (W.alloc (Obj.cells #[Value.slice none 0 0] 70)).alloc (Obj.cells #[Value.nilFunc] 102) = W2 := ⟨_, rfl⟩
    have hz2 : W2.heap.size = W.heap.size + 2 := by rw [← hW2]; simp
    have hb2 : Below W.heap.size W W2 := by rw [← hW2]; exact below_al (below_al (Below.refl _ _) _) _
    have hT2 : Loc W2 W.heap.size #[.slice none 0 0] 70 := by rw [← hW2]; exact (Loc.new W rfl _ _).alloc _
    have hE2 : Loc W2 (W.heap.size + 1) #[.nilFunc] 102 := by rw [← hW2]; exact Loc.new _ (by simp) _ _
    have lE2 := hE2.one
    have hE3 := hE2.set 0 (Value.func (Fn.func 89) #[] #[bxP w.heap.size, bxP W.heap.size, bxP (w.heap.size + 1 + 1), bxP (w.heap.size + 1), bxP (W.heap.size + 1)])
    have lE3 := hE3.one
    obtain ⟨W3, hW3⟩ : ∃ W3, W2.setCell ⟨W.heap.size + 1, 0, none⟩ (Value.func (Fn.func 89) #[] #[bxP w.heap.size, bxP W.heap.size, bxP (w.heap.size + 1 + 1), bxP (w.heap.size + 1), bxP (W.heap.size + 1)]) = W3 := ⟨_, rfl⟩
    have hb3 : Below W.heap.size W W3 := by rw [← hW3]; exact hb2.setCell (by show W.heap.size ≤ W.heap.size + 1; omega) _
    have hz3 : W3.heap.size = W.heap.size + 2 := by rw [← hW3, size_set, hz2]
    have hT3 : Loc W3 W.heap.size #[.slice none 0 0] 70 := by rw [← hW3]; exact hT2.setne (by simp) _
    rw [hW3] at hE3 lE3
    have hX : ExtB W3 w.heap.size W.heap.size (w.heap.size + 1 + 1) (w.heap.size + 1) (W.heap.size + 1) N P c a gf lb := ⟨hn.below hb3 hn.lt, hL.below hb3 hL.lt, hf.below hb3 hf.lt, hE3, by omega, by omega, by omega, by omega⟩
    have hp3 := ho.below hb3
    have HPW : Hid (0 + P ^ N ≤ 1000000000) := Lib.hid (by
      have e1 : P ^ N ≤ 24 ^ N := Nat.pow_le_pow_left hP24.1 N
      have e2 : (24 : Nat) ^ N ≤ 24 ^ 4 := Nat.pow_le_pow_right (by omega) h4
      have e3 : (24 : Nat) ^ 4 ≤ 1000000 := by decide
      omega)
    have hK3 : W3.heap[W0.heap.size]? = some (.deferred (some [])) := (hb3.block _ (by omega)).trans hK
    rw [hs0] at hK3
    gi_wp2_with (refine ⟨trivial, ?_⟩; gi_at_call 89; refine (callsIn_wide.2 (extend_any N P (W.heap.size + 2) (W0.heap.size + 2) w.heap.size W.heap.size (w.heap.size + 1 + 1) (w.heap.size + 1) (W.heap.size + 1) gf lb fits (prmL N) a c vs h1 (by omega) HPP.out hfit (by omega) (by omega) (by omega) (by omega) (by omega) (fun g hg => by have := ho.uHi g hg; omega) N 0 [] none 0 [] none 0 0 [] [] W3 (by omega) (Hd.nil _ _) (RowsOf.nil _ _ _) hX hp3 hT3 (OwnTT.nil _ _) (fun g _ h => TTS.nil h) (fun g _ h => TTS.nil h) (by omega) HPW.out)).mono ?_; rintro e w4 ⟨⟨v4, rfl⟩, ta, tk, tc, tus, hT4, ht4, hM4, hsub4⟩; have lT4 := hT4.one)
    have hK4 : w4.heap[w.heap.size + 4]? = some (.deferred (some [])) := (hM4.block _ (by omega) (fun h => by rcases h with h | h; omega; exact TTS.nil h)).trans hK3
    have hB4 : Below w.heap.size w w4 := hB.trans ((hb3.mono hsz).trans (Marked.lowb hM4 (fun g h => by rcases h with h | h; omega; exact absurd h TTS.nil) (by omega)))
    refine ⟨by simp, .inl ⟨_, _, rfl, run_takeDeferred hK4, ?_⟩⟩
    refine ⟨_, results_tmp rfl _ _ _, ta, tk, tc, tus, rfl, ?_, ?_⟩
    · refine (ht4.mono (by omega)).keep fun g hg hlt => World.putObj_heap_other ?_
      have := ht4.uLo g hg
      omega
    · exact hB4.grown (grownBy_putObj' _ _ _) hB4.size (fun j e => by cases e; omega)
end Go.Proofs.YtaddclaadbjnlaaGreat

namespace Go.Proofs.YtaddclaadbjnlaaGreat
set_option maxRecDepth 100000
set_option linter.unusedVariables false
set_option linter.unusedSimpArgs false
open Go.RowKit
def rnV (t : List (List Int)) (p : List Int) (x y : Nat) : Int := p.getD (tv t ((backF p).getD x 0).toNat ((backF p).getD y 0).toNat) 0
def rnL (n : Nat) (t : List (List Int)) (p : List Int) : List (List Int) := tabF n (rnV t p)
set_option maxHeartbeats 4000000 in
theorem renamed1_any (n bp bt bq : Nat) (tp tt tq : TypeId) (at_ ap aq : Option Addr) (ct cp cq : Nat) (t : List (List Int)) (p : List Int) (w : World) (hp : Loc w bp #[.slice ap n cp] tp) (ht : Loc w bt #[.slice at_ n ct] tt) (hq : Loc w bq #[.slice aq n cq] tq)
    (h1 : Tbl w at_ n t) (h2 : Row w ap n p) (h3 : Row w aq n (backF p)) (hs : Sq n t) (hP : IsP n p) (hn : n ≤ 12) (x y : Nat) (hx : x < n) (hy : y < n) :
    Calls Tryz.prog 134 #[.int .i64 x, .int .i64 y, .pointer (some ⟨bp, 0, none⟩), .pointer (some ⟨bt, 0, none⟩), .pointer (some ⟨bq, 0, none⟩)] w fun e w' => e = .returned (.int .i64 (rnV t p x y)) ∧ ∃ m, w' = w.drewN m := by
  obtain ⟨b, off, A, O, C, rfl, G⟩ := h1.grid hs (by omega)
  obtain ⟨qx, hqx, hqxn⟩ := (back_isP hP).at hx
  obtain ⟨qy, hqy, hqyn⟩ := (back_isP hP).at hy
  obtain ⟨b2, o2, rfl, g2⟩ := h3.at x hx
  obtain ⟨b2', o2', e2, g3⟩ := h3.at y hy
  cases e2
  rw [hqx] at g2
  rw [hqy] at g3
  have g4 := G.look hqxn hqyn
  have hv := hs.lt hqxn hqyn
  obtain ⟨v, HV⟩ : ∃ v, Hid (tv t qx qy = v) := ⟨_, rfl⟩
  rw [HV.out] at g4 hv
  obtain ⟨b3, o3, rfl, g5⟩ := h2.at v hv
  obtain ⟨u, HU⟩ : ∃ u, Hid (p.getD v 0 = u) := ⟨_, rfl⟩
  rw [HU.out] at g5
  have hr : rnV t p x y = u := by unfold rnV; rw [hqx, hqy, Int.toNat_natCast, Int.toNat_natCast, HV.out, HU.out]
  rw [hr]
  have l1 := hp.one
  have l2 := ht.one
  have l3 := hq.one
  have i1 : (0 : Int) ≤ (x : Int) := by omega
  have i2 : (x : Int) < (n : Int) := by omega
  have i3 : (0 : Int) ≤ (y : Int) := by omega
  have i4 : (y : Int) < (n : Int) := by omega
  have i5 : (0 : Int) ≤ (qx : Int) := by omega
  have i6 : (qx : Int) < (n : Int) := by omega
  have i7 : (0 : Int) ≤ (qy : Int) := by omega
  have i8 : (qy : Int) < (n : Int) := by omega
  have i9 : (0 : Int) ≤ (v : Int) := by omega
  have i10 : (v : Int) < (n : Int) := by omega
  clear hqx hqy hr
  go_enter Tryz.func134, Tryz.ntmps134
  go_wp2
  go_quiet (fail)
  go_wp2
  go_ret
  exact ⟨rfl, _, rfl⟩
theorem ent_ren1 : Ent 134 := fun _ _ => rfl
set_option maxHeartbeats 4000000 in
theorem renamed_any (n : Nat) (at_ ap : Option Addr) (ct cp : Nat) (t : List (List Int)) (p : List Int) (w : World) (h1 : Tbl w at_ n t) (h2 : Row w ap n p) (hs : Sq n t) (hP : IsP n p) (hn : n ≤ 12) :
    Calls Tryz.prog 96 #[.slice at_ n ct, .slice ap n cp] w fun e w' => ∃ a c vs, e = .returned (.slice a n c) ∧ OwnT w' w.heap.size a n c vs (rnL n t p) ∧ Below w.heap.size w w' := by
  have HP := Lib.hid hP; have HS := Lib.hid hs
  have hm := hP.mem
  clear hP hs
  obtain ⟨w0, hw0⟩ : ∃ w0, (w.alloc (.cells #[.slice at_ n ct] 32)).alloc (.cells #[.slice ap n cp] 41) = w0 := ⟨_, rfl⟩
  have hz0 : w0.heap.size = w.heap.size + 2 := by rw [← hw0]; simp
  have hB0 : Below w.heap.size w w0 := by rw [← hw0]; exact below_al (below_al (Below.refl _ _) _) _
  have hT : Loc w0 w.heap.size #[.slice at_ n ct] 32 := by rw [← hw0]; exact (Loc.new w rfl _ _).alloc _
  have hQ : Loc w0 (w.heap.size + 1) #[.slice ap n cp] 41 := by rw [← hw0]; exact Loc.new _ (by simp) _ _
  have lT := hT.one
  have lQ := hQ.one
  go_enter Tryz.func96, Tryz.ntmps96
  go_wp2_with fail
  refine (inverse_any _ _ _ p _ (h2.below hB0) (by omega) hm).mono ?_
  rintro e w1 ⟨a1, c1, rfl, ho1, hb1⟩
  have hB1 := below_th hB0 hb1
  have hT1 := hT.below hb1 hT.lt
  have hQ1 := hQ.below hb1 hQ.lt
  have lT1 := hT1.one
  have lQ1 := hQ1.one
  have hz1 := hb1.size
  obtain ⟨w2, hw2⟩ : ∃ w2, (w1.alloc (.cells #[.slice none 0 0] 41)).setCell ⟨w1.heap.size, 0, none⟩ (.slice a1 n c1) = w2 := ⟨_, rfl⟩
  have hL2 : Loc w2 w1.heap.size #[.slice a1 n c1] 41 := by rw [← hw2]; exact (Loc.new w1 rfl _ _).set 0 _
  have hb2 : Below w1.heap.size w1 w2 := by rw [← hw2]; exact (below_al (Below.refl _ _) _).setCell (Nat.le_refl _) _
  have hB2 := below_th hB1 hb2
  have hT2 := hT1.below hb2 hT1.lt
  have hQ2 := hQ1.below hb2 hQ1.lt
  have lT2 := hT2.one
  have ho2 := ho1.below hb2
  have hcl : ∀ x y, x < n → y < n → ∀ w3, Below w2.heap.size w2 w3 → Calls Tryz.prog 134 (#[.int .i64 x, .int .i64 y] ++ #[.pointer (some ⟨w.heap.size + 1, 0, none⟩), .pointer (some ⟨w.heap.size, 0, none⟩), .pointer (some ⟨w1.heap.size, 0, none⟩)]) w3 fun e w' => e = .returned (.int .i64 (rnV t p x y)) ∧ Below w3.heap.size w3 w' := fun x y hx hy w3 hb3 => by
    have hB3 := below_th hB2 hb3
    refine (renamed1_any n _ _ _ _ _ _ at_ ap a1 ct cp c1 t p w3 (hQ2.below hb3 hQ2.lt) (hT2.below hb3 hT2.lt) (hL2.below hb3 hL2.lt) (h1.below hB3) (h2.below hB3) (ho2.below hb3).row HS.out HP.out hn x y hx hy).mono fun e w' ⟨he, k, hk⟩ => ⟨he, ?_⟩
    rw [hk]; exact below_drewN (Below.refl _ _) k
  have HCL := Lib.hid hcl; clear hcl
  go_wp2_with fail
  refine (tableBy_any _ _ (rnV t p) n _ (by omega) ent_ren1 HCL.out).mono ?_
  rintro e w3 ⟨a, c, vs, rfl, ho, hb3⟩
  go_wp2
  go_ret
  exact ⟨_, _, _, rfl, ho.mono hB2.size, below_th hB2 hb3⟩
end Go.Proofs.YtaddclaadbjnlaaGreat

namespace Go.Proofs.YtaddclaadbjnlaaGreat
set_option maxRecDepth 100000
set_option linter.unusedVariables false
set_option linter.unusedSimpArgs false
def cmpI (x y : Int) : Int := if x < y then -1 else if y < x then 1 else 0
def cmpG {α : Type} (c : α → α → Int) : List α → List α → Int
  | [], [] => 0
  | [], _ :: _ => -1
  | _ :: _, [] => 1
  | x :: xs, y :: ys => if c x y = 0 then cmpG c xs ys else c x y
def cmpL : List Int → List Int → Int := cmpG cmpI
def cmpT : List (List Int) → List (List Int) → Int := cmpG cmpL
theorem cmpG_bd {α : Type} {c : α → α → Int} (hc : ∀ x y, -1 ≤ c x y ∧ c x y ≤ 1) : ∀ xs ys, -1 ≤ cmpG c xs ys ∧ cmpG c xs ys ≤ 1 := by
  intro xs
  induction xs with
  | nil => intro ys; cases ys <;> simp [cmpG]
  | cons x xs ih =>
    intro ys
    cases ys with
    | nil => simp [cmpG]
    | cons y ys =>
      unfold cmpG
      split
      · exact ih ys
      · exact hc x y
theorem cmpI_bd (x y : Int) : -1 ≤ cmpI x y ∧ cmpI x y ≤ 1 := by
  unfold cmpI
  split
  · omega
  · split <;> omega
theorem cmpL_bd (xs ys : List Int) : -1 ≤ cmpL xs ys ∧ cmpL xs ys ≤ 1 := cmpG_bd cmpI_bd xs ys
theorem cmpT_bd (xs ys : List (List Int)) : -1 ≤ cmpT xs ys ∧ cmpT xs ys ≤ 1 := cmpG_bd cmpL_bd xs ys
theorem cmpG_step {α : Type} {c : α → α → Int} {xs ys : List α} {k : Nat} (d : α) (hx : k < xs.length) (hy : k < ys.length) : cmpG c (xs.drop k) (ys.drop k) = if c (xs.getD k d) (ys.getD k d) = 0 then cmpG c (xs.drop (k + 1)) (ys.drop (k + 1)) else c (xs.getD k d) (ys.getD k d) := by
  rw [List.drop_eq_getElem_cons hx, List.drop_eq_getElem_cons hy]
  simp [cmpG, List.getD_eq_getElem?_getD, List.getElem?_eq_getElem hx, List.getElem?_eq_getElem hy]
theorem cmpG_long {α : Type} {c : α → α → Int} {xs ys : List α} {k : Nat} (hx : k < xs.length) (hy : ys.length ≤ k) : cmpG c (xs.drop k) (ys.drop k) = 1 := by
  rw [List.drop_eq_getElem_cons hx, List.drop_of_length_le hy]; rfl
theorem cmpG_short {α : Type} {c : α → α → Int} {xs ys : List α} {k : Nat} (hx : k = xs.length) (hy : k < ys.length) : cmpG c (xs.drop k) (ys.drop k) = -1 := by
  rw [List.drop_of_length_le (by omega), List.drop_eq_getElem_cons hy]; rfl
theorem cmpG_even {α : Type} {c : α → α → Int} {xs ys : List α} {k : Nat} (hx : k = xs.length) (hy : ys.length ≤ k) : cmpG c (xs.drop k) (ys.drop k) = 0 := by
  rw [List.drop_of_length_le (by omega), List.drop_of_length_le hy]; rfl
theorem cmpI_eq {x y : Int} : cmpI x y = 0 ↔ x = y := by
  unfold cmpI
  split
  · constructor <;> intro h <;> omega
  · split
    · constructor <;> intro h <;> omega
    · constructor <;> intro h <;> omega
theorem cmpG_eq {α : Type} {c : α → α → Int} (hc : ∀ x y, c x y = 0 ↔ x = y) : ∀ xs ys, cmpG c xs ys = 0 ↔ xs = ys := by
  intro xs
  induction xs with
  | nil => intro ys; cases ys <;> simp [cmpG]
  | cons x xs ih =>
    intro ys
    cases ys with
    | nil => simp [cmpG]
    | cons y ys =>
      unfold cmpG
      split
      · rename_i h
        rw [ih, List.cons.injEq, (hc x y).1 h]; simp
      · rename_i h
        rw [List.cons.injEq, ← hc x y]
        constructor
        · intro e; exact absurd e h
        · intro e; exact e.1
theorem cmpL_eq (xs ys : List Int) : cmpL xs ys = 0 ↔ xs = ys := cmpG_eq (fun _ _ => cmpI_eq) xs ys
theorem cmpT_eq (xs ys : List (List Int)) : cmpT xs ys = 0 ↔ xs = ys := cmpG_eq cmpL_eq xs ys
end Go.Proofs.YtaddclaadbjnlaaGreat
