/-
  Walks and plain laws of this seat, some texts in one.
  No condition but bounds on lengths.
-/
import Derived.Test.YtaddclaadbjnlaaGreatPs38
import Derived.Test.YtaddclaadbjnlaaGreatPs41
import Derived.Test.YtaddclaadbjnlaaGreatPs33
import Derived.Test.YtaddclaadbjnlaaGreatPs4
import Derived.Test.YtaddclaadbjnlaaGreatPs49
import Derived.Test.YtaddclaadbjnlaaGreatPs40
import Derived.Test.YtaddclaadbjnlaaGreatPs47
import Derived.Test.YtaddclaadbjnlaaGreatPs18
import Derived.Test.YtaddclaadbjnlaaGreatPs34
import Derived.Test.YtaddclaadbjnlaaGreatPs20
import Derived.Test.YtaddclaadbjnlaaGreatPs45
import Derived.Deep.DeepCutAuto
namespace Go.Proofs.YtaddclaadbjnlaaGreat
set_option maxRecDepth 100000
set_option linter.unusedVariables false
set_option linter.unusedSimpArgs false
open Go.RowKit
attribute [local go_sem] Oper.semAt_some
attribute [local go_sem] run_store_fn
theorem isoL_isP {n : Nat} {ts us : List (List (List Int))} {p : List Int} : IsoL n ts us p → IsP n p := by
  rintro ⟨hl, q, hq, hpq⟩
  refine permOk_isP hl (permTo_ok ⟨fun i hi => ?_, fun i j hi hj e => ?_⟩)
  · have := hpq i (by omega)
    have h2 := hq.lt i (by omega)
    unfold Mp at this; rw [this]; omega
  · have a := hpq i (by omega)
    have b := hpq j (by omega)
    unfold Mp at a b
    exact hq.inj i j (by omega) (by omega) (by omega)
theorem nodup_sub_lenL : ∀ (r c : List (List Int)), r.Nodup → (∀ x ∈ r, x ∈ c) → r.length ≤ c.length := by
  intro r
  induction r with
  | nil => intro c _ _; simp
  | cons a r ih =>
    intro c h1 h2
    rw [List.nodup_cons] at h1
    have ha : a ∈ c := h2 a (by simp)
    have := ih (c.erase a) h1.2 (fun x hx => by
      have hne : x ≠ a := by rintro rfl; exact h1.1 hx
      exact (List.mem_erase_of_ne hne).2 (h2 x (by simp [hx])))
    rw [List.length_erase_of_mem ha] at this
    have := List.length_pos_of_mem ha
    simp; omega
theorem iso_cap {n : Nat} (h1 : 1 ≤ n) (h4 : n ≤ 4) {ts us : List (List (List Int))} {ys : List (List Int)} (hn : ys.Nodup) (hi : ∀ l ∈ ys, IsoL n ts us l) : ys.length ≤ 24 :=
  Nat.le_trans (nodup_sub_lenL ys (prmL n) hn fun l hl => isP_in h4 (isoL_isP (hi l hl))) (prm_bd h1 h4).1
def SauJ (N : Nat) (ts : List (List (List Int))) (w w5 : World) (al r4 r5 : Nat) (S : Nat → Prop) (ys : List (List Int)) (W : World) : Prop :=
  ∃ a c vs, Loc W al #[.slice a ys.length c] 32 ∧ OwnT W (w5.heap.size + 2) a ys.length c vs ys ∧ (∀ g, TblS a ys.length vs g → ¬ S g) ∧ Loc W r4 #[.slice none 0 0] 32 ∧ Loc W r5 #[.int .i64 0] 2 ∧ Below w.heap.size w W ∧ (∀ g, S g → w5.heap.size ≤ g) ∧ w5.heap.size ≤ W.heap.size ∧ ys.Nodup ∧ ∀ l ∈ ys, IsoL N ts ts l
set_option maxHeartbeats 16000000 in
theorem SolutionAutomorphisms_ok (N : Nat) (at_ at' : Option Addr) (ct ct' : Nat) (t t' : List (List Int)) (w : World) (hN : N ≤ 4) (hT : Tbl w at_ N t) (hT' : Tbl w at' N t') (hrk : isPm t t' = true) :
    Calls Tryz.prog 28 #[sAgg at_ N ct at' N ct'] w fun e w' => ∃ Y a c, YA N [t, t'] [t, t'] Y ∧ Y.length ≤ 24 ∧ e = .returned (.tuple #[.slice a Y.length c, .int .i64 0]) ∧ Below w.heap.size w w' := by
  have hdd : ∀ k : Nat, (Fence.wide.depth.isSome = true → 1 ≤ k) := fun k h => by cases h
  obtain ⟨h1, _, hs, hs'⟩ := isPm_sqN hrk hT.len
  have HS := Lib.hid hs; have HSb := Lib.hid hs'; have HR := Lib.hid hrk
  clear hs hs' hrk
  obtain ⟨wa, hwa⟩ : ∃ wa, ((w.alloc (.cells #[.slice at_ N ct, .slice at' N ct'] 53)).alloc (.cells #[.slice none 0 0] 32)).alloc (.cells #[.int .i64 0] 2) = wa := ⟨_, rfl⟩
  have hza : wa.heap.size = w.heap.size + 3 := by rw [← hwa]; simp
  have hBa : Below w.heap.size w wa := by rw [← hwa]; exact below_al (below_al (below_al (Below.refl _ _) _) _) _
  have hLr : Loc wa w.heap.size #[.slice at_ N ct, .slice at' N ct'] 53 := by rw [← hwa]; exact ((Loc.new w rfl _ _).alloc _).alloc _
  have hL4 : Loc wa (w.heap.size + 1) #[.slice none 0 0] 32 := by rw [← hwa]; exact (Loc.new _ (by simp) _ _).alloc _
  have hL5 : Loc wa (w.heap.size + 2) #[.int .i64 0] 2 := by rw [← hwa]; exact Loc.new _ (by simp) _ _
  have lr := hLr.two
  have hTa := hT.below hBa
  have hTa' := hT'.below hBa
  have HWA := Lib.hid hwa
  clear hwa
  refine (callsIn_wide (n := 3)).1 ?_
  refine callsIn_of_wp_marks Tryz.func28 rfl trivial ?_ rfl
  simp only [Tryz.ntmps28, List.size_toArray, List.length_cons, List.length_nil, Nat.reduceAdd, Nat.reduceSub, Array.replicate_succ, Array.replicate_zero, List.push_toArray, List.append_toArray, List.nil_append, List.cons_append]
  refine wpIn_wide.2 ?_
  go_upto_region 1 with fail
  try rw [HWA.out]
  go_wp2_with fail
  refine (isPairMap_any at_ N ct at' N ct' t t' _ hTa hTa' (by omega) (by omega)).mono ?_
  rintro e w1 ⟨rfl, hb1⟩
  rw [HR.out]
  have hB1 := below_th hBa hb1
  have hLr1 := hLr.below hb1 hLr.lt
  have lr1 := hLr1.two
  have h41 := hL4.below hb1 hL4.lt
  have h51 := hL5.below hb1 hL5.lt
  have hz1 : w.heap.size + 3 ≤ w1.heap.size := by have := hb1.size; omega
  clear lr
  go_wp2_with fail
  refine (isomorphisms_any _ _ 2 2 2 2 _).mono ?_
  rintro e w5 ⟨rfl, hb1', hb2', hb5⟩
  go_wp2
  obtain ⟨b, off, A, O, C, rfl, G1⟩ := hT.grid HS.out h1
  obtain ⟨b', off', A', O', C', rfl, G1'⟩ := hT'.grid HSb.out h1
  obtain ⟨w4, hw4⟩ : ∃ w4, (w1.alloc (.cells #[.slice (some ⟨b, off, none⟩) N ct, .slice (some ⟨b', off', none⟩) N ct'] 32)).alloc (.cells #[.slice none 0 0] 32) = w4 := ⟨_, rfl⟩
  have hz4 : w4.heap.size = w1.heap.size + 1 + 1 := by rw [← hw4]; simp
  have b4 : Below w1.heap.size w1 w4 := by rw [← hw4]; exact below_al (below_al (Below.refl _ _) _) _
  have Lf4 : Loc w4 w1.heap.size #[.slice (some ⟨b, off, none⟩) N ct, .slice (some ⟨b', off', none⟩) N ct'] 32 := by rw [← hw4]; exact (Loc.new _ rfl _ _).alloc _
  have Lt4 : Loc w4 (w1.heap.size + 1) #[.slice none 0 0] 32 := by rw [← hw4]; exact Loc.new _ (by simp) _ _
  rw [hw4] at hb5
  rw [show World.heap ((w1.alloc (.cells #[.slice (some ⟨b, off, none⟩) N ct, .slice (some ⟨b', off', none⟩) N ct'] 32)).alloc (.cells #[.slice none 0 0] 32)) = w4.heap by rw [hw4]] at hb1' hb2'
  rw [hz4] at hb1' hb2'
  have b5 : Below w1.heap.size w1 w5 := b4.trans (hb5.mono b4.size)
  have Lf5 := Lf4.below hb5 Lf4.lt
  have Lt5 := Lt4.below hb5 Lt4.lt
  have hz5 : w1.heap.size + 1 + 1 ≤ w5.heap.size := by have := hb5.size; omega
  have hBw5 : Below w.heap.size w w5 := hB1.trans (b5.mono hB1.size)
  have r4 : Loc w5 (w.heap.size + 1) #[.slice none 0 0] 32 := h41.below b5 h41.lt
  have r5 : Loc w5 (w.heap.size + 1 + 1) #[.int .i64 0] 2 := h51.below b5 h51.lt
  obtain ⟨S0, hS0⟩ : ∃ S0 : Nat → Prop, S0 = fun g => g = w1.heap.size + 1 := ⟨_, rfl⟩
  have s1 : ∀ q, S0 q → w.heap.size ≤ q := fun q h => by rw [hS0] at h; omega
  have s2 : ¬ S0 w1.heap.size := fun h => by rw [hS0] at h; omega
  have s4 : ∀ q, S0 q → q < w5.heap.size := fun q h => by rw [hS0] at h; omega
  have s5 : S0 (w1.heap.size + 1) := by rw [hS0]
  have tb1 := TB.two (S0 := S0) G1 G1' HS.out HSb.out Lf5 hBw5 s2 s1
  clear hS0 hw4 HWA hLr hL4 hL5 hTa hTa' hLr1 lr1 h41 h51 G1 G1' Lf4 Lt4 b4 hb5 hb1
  refine (wpIn_wide (n := 3)).1 ?_
  refine wpIn_rangeFunc_iso (n := N) (w1.heap.size + 1 + 1) (w1.heap.size + 1 + 1 + 1) rfl (enters_of Tryz.func94 (by kernel_rfl) rfl) (K := 2) (kf := 2) (kt := 2) _ _ _ _ _ _ _ _ _ _ _ _ tb1 tb1 h1 (by omega) (by omega) (by omega) s4 hb1' hb2' rfl
    (SauJ N [t, t'] w w5 (w1.heap.size + 1) (w.heap.size + 1) (w.heap.size + 1 + 1)) (fun _ _ _ => False) ?abide ?abide2 ?start
    (fun bb => { tmps := #[sAgg (some ⟨b, off, none⟩) N ct (some ⟨b', off', none⟩) N ct', .pointer (some ⟨w.heap.size, 0, none⟩), .pointer (some ⟨w.heap.size + 1, 0, none⟩), .pointer (some ⟨w.heap.size + 1 + 1, 0, none⟩), .slice (some ⟨w1.heap.size, 0, none⟩) 2 2, .pointer (some ⟨w1.heap.size + 1, 0, none⟩), .slice (some ⟨bb, 0, none⟩) N N, .agg #[.slice (some ⟨b, off, none⟩) N ct, .slice (some ⟨b', off', none⟩) N ct'], .bool true, .bool false,
      .pointer (some ⟨w.heap.size, 0, none⟩), .slice (some ⟨b, off, none⟩) N ct, .pointer (some ⟨w.heap.size, 1, none⟩), .slice (some ⟨b', off', none⟩) N ct', .slice (some ⟨w1.heap.size, 0, none⟩) 2 2, .slice (some ⟨w1.heap.size, 0, none⟩) 2 2, .slice (some ⟨w1.heap.size, 0, none⟩) 2 2,
      .func (.func 94) #[] #[.pointer (some ⟨w1.heap.size + 1 + 1, 0, none⟩), .pointer (some ⟨w1.heap.size + 1 + 1 + 1, 0, none⟩)], .slice (some ⟨bb, 0, none⟩) N N, undef, undef, undef, undef, undef, undef, undef, undef, undef], defers := [] })
    ?assign ?body ?done ?stop
  case abide =>
    rintro S S' ys A B ⟨a, c, vs, q1, q2, q3, q4, q5, q6, q7, q8, q9, q10⟩ hm hS'
    have hz := hm.size
    have hge : ∀ k, (S k ∨ k = w5.heap.size + 1) → w5.heap.size ≤ k := fun k e => by
      rcases e with e | e
      · have := q7 _ e; omega
      · omega
    refine ⟨a, c, vs, (hm.block _ q1.lt (fun e => by have := hge _ e; omega)).trans q1, OwnT.keep q2 fun g hg hl => hm.block g hl (fun e => ?_), fun g hg e => ?_, (hm.block _ q4.lt (fun e => by have := hge _ e; omega)).trans q4, (hm.block _ q5.lt (fun e => by have := hge _ e; omega)).trans q5, Marked.below q6 hm q6.size (fun k e => by have := hge _ e; omega), fun g hg => ?_, by omega, q9, q10⟩
    · rcases e with e | e
      · exact q3 g hg e
      · have := q2.uLo g hg; omega
    · rcases hS' g e with e | e
      · exact q3 g hg e
      · have := q2.uHi g hg; omega
    · rcases hS' g hg with e | e
      · exact q7 g e
      · omega
  case abide2 =>
    rintro S S' ys A B q
    exact q.elim
  case start =>
    intro S A hS hB
    refine ⟨none, 0, [], Lt5.below hB Lt5.lt, OwnT.nil _ _, ?_, r4.below hB r4.lt, r5.below hB r5.lt, hBw5.trans (hB.mono (by omega)), fun g hg => by have := (hS g hg).1; omega, hB.size, List.nodup_nil, fun l h => by cases h⟩
    rintro g (h | ⟨i, hi, _⟩)
    · cases h
    · simp at hi
  case assign =>
    intro l n' bb W K' hK
    gi_wp2
    simpa using hK
  case body =>
    rintro l n' bb S ys im W ⟨a, ca, vs, hL, ho, hdis, q4, q5, hB, q7, q8, hnd, hal⟩ ⟨hiso, hni⟩ hSb hown hSS hmW
    have hM24 := iso_cap h1 hN hnd hal
    obtain ⟨k, hk⟩ : ∃ k, ys.length = k := ⟨_, rfl⟩
    rw [hk] at hL ho hdis hM24
    obtain ⟨B0, HB0⟩ : ∃ B0, B0 = w5.heap.size + 2 := ⟨_, rfl⟩
    rw [← HB0] at ho hown
    have hx2 : w1.heap.size + 1 < B0 := by omega
    have hwB : w.heap.size ≤ B0 := by omega
    have hWB : B0 ≤ W.heap.size := by have := hSS bb hSb; omega
    have hl1 : (ys ++ [im]).length = k + 1 := by simp [hk]
    have hend : (∀ (a3 : Option Addr) (c3 : Nat) (w3 : World) (g' cc : Nat) (w8 : World) (act : Act), Own w3 W.heap.size a3 N c3 im → Below W.heap.size W w3 → OwnT w8 B0 (some ⟨g', 0, none⟩) (k + 1) cc (vs ++ [(a3, N, c3)]) (ys ++ [im]) → w3.grownBy w8 (Value.slice a k ca).ownBlock → ((Value.slice a k ca).ownBlock = some g' ∨ w3.heap.size ≤ g') → Below B0 w3 w8 → Loc w8 (w1.heap.size + 1) #[.slice a k ca] 32 →
        isoPost S0 w5.heap.size (SauJ N [t, t'] w w5 (w1.heap.size + 1) (w.heap.size + 1) (w.heap.size + 1 + 1)) (fun _ _ _ => False) S (ys ++ [im]) W .normal act (w8.setCell ⟨w1.heap.size + 1, 0, none⟩ (.slice (some ⟨g', 0, none⟩) (k + 1) cc))) := by
      intro a3 c3 w3 g' cc w8 act ho3 hb3 hO hg8 hat8 hb8 hL8
      have hz3 := hb3.size
      have hz8 := hb8.size
      have m2 : Marked (TblS a k vs) w3 w8 := ⟨hg8.os, hg8.tape, hg8.output, hg8.size, fun q hq hs => hg8.block q hq (fun e => hs (OwnT.ownBlk ho e.symm))⟩
      have hmk := mk_set ((Marked.ofB hb3 (S := fun g => S0 g ∨ (w5.heap.size + 2 ≤ g ∧ ¬ S g))).then m2 (fun g hg => .inl (.inr ⟨by have := ho.uLo g hg; omega, hdis g hg⟩))) (p := ⟨w1.heap.size + 1, 0, none⟩) (.inl s5) (.slice (some ⟨g', 0, none⟩) (k + 1) cc)
      have hlow : ∀ q, q < B0 → q < W.heap.size → w8.heap[q]? = W.heap[q]? := fun q h1 h2 => (m2.block q (by omega) (fun h => by have := ho.uLo q h; omega)).trans (hb3.block q h2)
      have k4 : Loc w8 (w.heap.size + 1) #[.slice none 0 0] 32 := (hlow _ (by omega) (by omega)).trans q4
      have k5 : Loc w8 (w.heap.size + 1 + 1) #[.int .i64 0] 2 := (hlow _ (by omega) (by omega)).trans q5
      have h8 : Below w.heap.size w w8 := hB.trans ((hb3.mono hB.size).trans (hb8.mono hwB))
      refine ⟨⟨some ⟨g', 0, none⟩, cc, vs ++ [(a3, N, c3)], ?_, ?_, ?_, k4.setne (by show w.heap.size + 1 ≠ w1.heap.size + 1; omega) _, k5.setne (by show w.heap.size + 1 + 1 ≠ w1.heap.size + 1; omega) _, below_setne h8 (by show w.heap.size ≤ w1.heap.size + 1; omega) _, q7, by rw [size_set]; omega, ?_, fun l hl => ?_⟩, hmk⟩
      · rw [hl1]; exact hL8.set 0 _
      · rw [hl1, ← HB0]; exact hO.setlo hx2 _
      · rw [hl1]
        intro g hg hSg
        have hgW := (hSS g hSg).2
        rcases TblS.snoc (a := a) ho.vlen hg with rfl | h' | h'
        · rcases hat8 with h2 | h2
          · exact hdis _ (OwnT.ownBlk ho h2) hSg
          · omega
        · have := ho3.lo _ h'; omega
        · exact hdis _ h' hSg
      · rw [List.nodup_append]
        exact ⟨hnd, by simp, fun x hx y hy e => by simp at hy; subst hy; subst e; exact hni hx⟩
      · rcases List.mem_append.1 hl with h | h
        · exact hal l h
        · simp at h; subst h; exact hiso
    have HEND := Lib.hid hend
    clear hend
    have lL := hL.one
    have hk1000 : ¬ (k : Int) = 1000 := by omega
    have hk1000' : ¬ k = 1000 := by omega
    have hk1000'' : ((k : Int) == 1000) = false := by simpa using hk1000
    gi_wp2
    refine wpIn_region_any (by kernel_rfl) ?_
    change wpAnyIn _ _ _ _ _ _ _ _ _ (World.drew _)
    refine wpAnyIn_ready (rs := [0, 1]) (by kernel_rfl) (by simp) ?_
    refine AllReadyIn.cons rfl (fun K hK => ?_) ?_
    · go_simp
      refine hK _ _ ?_
      clear hK K
      refine wpAnyIn_ready (rs := [1]) (by kernel_rfl) (by simp) ?_
      refine AllReadyIn.cons rfl (fun K hK => ?_) ?_
      · go_simp
        refine hK _ _ ?_
        clear hK K
        refine wpAnyIn_ready (rs := [2]) (by kernel_rfl) (by simp) ?_
        refine AllReadyIn.cons rfl (fun K hK => ?_) ?_
        · go_simp
          refine ⟨trivial, (fun h => by cases h), ?_⟩
          gi_at_call 61
          refine (CallsIn.inRound l (callsIn_wide.2 (clone_any _ _ _ _ _ (hown.row.drewN 1) (by omega)))).mono ?_
          rintro e w3 ⟨a3, c3, rfl, ho3, hb3⟩
          have lL3 := ((hL.drewN 1).below hb3 hL.lt).one
          have hz3 : W.heap.size ≤ w3.heap.size := hb3.size
          have lL4 := (((hL.drewN 1).below hb3 hL.lt).alloc (.cells #[.slice a3 N c3] 41)).one
          have hb4 : Below W.heap.size W w3 := (show Below W.heap.size W (W.drewN 1) from ⟨rfl, rfl, rfl, Nat.le_refl _, fun _ _ => rfl⟩).trans hb3
          try go_simp
          refine hK _ _ ?_
          clear hK K
          refine wpAnyIn_ready (rs := [3]) (by kernel_rfl) (by simp) ?_
          refine AllReadyIn.cons rfl (fun K hK => ?_) ?_
          · go_simp
            refine hK _ _ ?_
            clear hK K
            refine wpAnyIn_ready (rs := [4]) (by kernel_rfl) (by simp) ?_
            refine AllReadyIn.cons rfl (fun K hK => ?_) ?_
            · refine stepIn_of (E := True) rfl (fun c h => by cases h) (step_appT1n (lo := B0) rfl rfl ((ho.drewN 1).below hb3) rfl (ho3.mono (by show B0 ≤ W.heap.size; omega)) (fun g h e => by have := ho.high g h; have := ho3.lo g e; have : W.heap.size ≤ g := this; omega) (fun j hj g h e => by have := ho.uHi g (.inr ⟨j, hj, e⟩); have := ho3.lo g h; have : W.heap.size ≤ g := this; omega) rfl (by omega) (by omega) ?_)
              intro g' cc w8 hO hg8 hat8 hb8
              have hL8 := ((hL.drewN 1).below hb3 hL.lt).below hb8 (by omega)
              have lL8 := hL8.one
              refine hK _ _ ?_
              clear hK K
              refine wpAnyIn_ready (rs := [5]) (by kernel_rfl) (by simp) ?_
              refine AllReadyIn.cons rfl (fun K hK => ?_) ?_
              · go_simp
                refine hK _ _ ?_
                clear hK K
                refine wpAnyIn_done (by kernel_rfl) ?_ _
                exact HEND.out a3 c3 w3 g' cc w8 ⟨#[], []⟩ ho3 hb4 hO hg8 hat8 hb8 hL8
              exact AllReadyIn.nil
            exact AllReadyIn.nil
          exact AllReadyIn.nil
        exact AllReadyIn.nil
      exact AllReadyIn.nil
    refine AllReadyIn.cons rfl (fun K hK => ?_) ?_
    · go_simp
      refine hK _ _ ?_
      clear hK K
      refine wpAnyIn_ready (rs := [0, 2]) (by kernel_rfl) (by simp) ?_
      refine AllReadyIn.cons rfl (fun K hK => ?_) ?_
      · go_simp
        refine hK _ _ ?_
        clear hK K
        refine wpAnyIn_ready (rs := [2]) (by kernel_rfl) (by simp) ?_
        refine AllReadyIn.cons rfl (fun K hK => ?_) ?_
        · go_simp
          refine ⟨trivial, (fun h => by cases h), ?_⟩
          gi_at_call 61
          refine (CallsIn.inRound l (callsIn_wide.2 (clone_any _ _ _ _ _ (hown.row.drewN 1) (by omega)))).mono ?_
          rintro e w3 ⟨a3, c3, rfl, ho3, hb3⟩
          have lL3 := ((hL.drewN 1).below hb3 hL.lt).one
          have hz3 : W.heap.size ≤ w3.heap.size := hb3.size
          have lL4 := (((hL.drewN 1).below hb3 hL.lt).alloc (.cells #[.slice a3 N c3] 41)).one
          have hb4 : Below W.heap.size W w3 := (show Below W.heap.size W (W.drewN 1) from ⟨rfl, rfl, rfl, Nat.le_refl _, fun _ _ => rfl⟩).trans hb3
          try go_simp
          refine hK _ _ ?_
          clear hK K
          refine wpAnyIn_ready (rs := [3]) (by kernel_rfl) (by simp) ?_
          refine AllReadyIn.cons rfl (fun K hK => ?_) ?_
          · go_simp
            refine hK _ _ ?_
            clear hK K
            refine wpAnyIn_ready (rs := [4]) (by kernel_rfl) (by simp) ?_
            refine AllReadyIn.cons rfl (fun K hK => ?_) ?_
            · refine stepIn_of (E := True) rfl (fun c h => by cases h) (step_appT1n (lo := B0) rfl rfl ((ho.drewN 1).below hb3) rfl (ho3.mono (by show B0 ≤ W.heap.size; omega)) (fun g h e => by have := ho.high g h; have := ho3.lo g e; have : W.heap.size ≤ g := this; omega) (fun j hj g h e => by have := ho.uHi g (.inr ⟨j, hj, e⟩); have := ho3.lo g h; have : W.heap.size ≤ g := this; omega) rfl (by omega) (by omega) ?_)
              intro g' cc w8 hO hg8 hat8 hb8
              have hL8 := ((hL.drewN 1).below hb3 hL.lt).below hb8 (by omega)
              have lL8 := hL8.one
              refine hK _ _ ?_
              clear hK K
              refine wpAnyIn_ready (rs := [5]) (by kernel_rfl) (by simp) ?_
              refine AllReadyIn.cons rfl (fun K hK => ?_) ?_
              · go_simp
                refine hK _ _ ?_
                clear hK K
                refine wpAnyIn_done (by kernel_rfl) ?_ _
                exact HEND.out a3 c3 w3 g' cc w8 ⟨#[], []⟩ ho3 hb4 hO hg8 hat8 hb8 hL8
              exact AllReadyIn.nil
            exact AllReadyIn.nil
          exact AllReadyIn.nil
        exact AllReadyIn.nil
      refine AllReadyIn.cons rfl (fun K hK => ?_) ?_
      · go_simp
        refine ⟨trivial, (fun h => by cases h), ?_⟩
        gi_at_call 61
        refine (CallsIn.inRound l (callsIn_wide.2 (clone_any _ _ _ _ _ (hown.row.drewN 1) (by omega)))).mono ?_
        rintro e w3 ⟨a3, c3, rfl, ho3, hb3⟩
        have lL3 := ((hL.drewN 1).below hb3 hL.lt).one
        have hz3 : W.heap.size ≤ w3.heap.size := hb3.size
        have lL4 := (((hL.drewN 1).below hb3 hL.lt).alloc (.cells #[.slice a3 N c3] 41)).one
        have hb4 : Below W.heap.size W w3 := (show Below W.heap.size W (W.drewN 1) from ⟨rfl, rfl, rfl, Nat.le_refl _, fun _ _ => rfl⟩).trans hb3
        try go_simp
        refine hK _ _ ?_
        clear hK K
        refine wpAnyIn_ready (rs := [0, 3]) (by kernel_rfl) (by simp) ?_
        refine AllReadyIn.cons rfl (fun K hK => ?_) ?_
        · go_simp
          refine hK _ _ ?_
          clear hK K
          refine wpAnyIn_ready (rs := [3]) (by kernel_rfl) (by simp) ?_
          refine AllReadyIn.cons rfl (fun K hK => ?_) ?_
          · go_simp
            refine hK _ _ ?_
            clear hK K
            refine wpAnyIn_ready (rs := [4]) (by kernel_rfl) (by simp) ?_
            refine AllReadyIn.cons rfl (fun K hK => ?_) ?_
            · refine stepIn_of (E := True) rfl (fun c h => by cases h) (step_appT1n (lo := B0) rfl rfl ((ho.drewN 1).below hb3) rfl (ho3.mono (by show B0 ≤ W.heap.size; omega)) (fun g h e => by have := ho.high g h; have := ho3.lo g e; have : W.heap.size ≤ g := this; omega) (fun j hj g h e => by have := ho.uHi g (.inr ⟨j, hj, e⟩); have := ho3.lo g h; have : W.heap.size ≤ g := this; omega) rfl (by omega) (by omega) ?_)
              intro g' cc w8 hO hg8 hat8 hb8
              have hL8 := ((hL.drewN 1).below hb3 hL.lt).below hb8 (by omega)
              have lL8 := hL8.one
              refine hK _ _ ?_
              clear hK K
              refine wpAnyIn_ready (rs := [5]) (by kernel_rfl) (by simp) ?_
              refine AllReadyIn.cons rfl (fun K hK => ?_) ?_
              · go_simp
                refine hK _ _ ?_
                clear hK K
                refine wpAnyIn_done (by kernel_rfl) ?_ _
                exact HEND.out a3 c3 w3 g' cc w8 ⟨#[], []⟩ ho3 hb4 hO hg8 hat8 hb8 hL8
              exact AllReadyIn.nil
            exact AllReadyIn.nil
          exact AllReadyIn.nil
        refine AllReadyIn.cons rfl (fun K hK => ?_) ?_
        · go_simp
          refine hK _ _ ?_
          clear hK K
          refine wpAnyIn_ready (rs := [0]) (by kernel_rfl) (by simp) ?_
          refine AllReadyIn.cons rfl (fun K hK => ?_) ?_
          · go_simp
            refine hK _ _ ?_
            clear hK K
            refine wpAnyIn_ready (rs := [4]) (by kernel_rfl) (by simp) ?_
            refine AllReadyIn.cons rfl (fun K hK => ?_) ?_
            · refine stepIn_of (E := True) rfl (fun c h => by cases h) (step_appT1n (lo := B0) rfl rfl ((ho.drewN 1).below hb3) rfl (ho3.mono (by show B0 ≤ W.heap.size; omega)) (fun g h e => by have := ho.high g h; have := ho3.lo g e; have : W.heap.size ≤ g := this; omega) (fun j hj g h e => by have := ho.uHi g (.inr ⟨j, hj, e⟩); have := ho3.lo g h; have : W.heap.size ≤ g := this; omega) rfl (by omega) (by omega) ?_)
              intro g' cc w8 hO hg8 hat8 hb8
              have hL8 := ((hL.drewN 1).below hb3 hL.lt).below hb8 (by omega)
              have lL8 := hL8.one
              refine hK _ _ ?_
              clear hK K
              refine wpAnyIn_ready (rs := [5]) (by kernel_rfl) (by simp) ?_
              refine AllReadyIn.cons rfl (fun K hK => ?_) ?_
              · go_simp
                refine hK _ _ ?_
                clear hK K
                refine wpAnyIn_done (by kernel_rfl) ?_ _
                exact HEND.out a3 c3 w3 g' cc w8 ⟨#[], []⟩ ho3 hb4 hO hg8 hat8 hb8 hL8
              exact AllReadyIn.nil
            exact AllReadyIn.nil
          exact AllReadyIn.nil
        exact AllReadyIn.nil
      exact AllReadyIn.nil
    exact AllReadyIn.nil
  case done =>
    rintro S Y W hY ⟨a, c, vs, q1, q2, q3, q4, q5, q6, q7, q8, q9, q10⟩ hd
    have HC := Lib.hid (iso_cap h1 hN q9 q10)
    obtain ⟨k, hk⟩ : ∃ k, Y.length = k := ⟨_, rfl⟩
    have HK := Lib.hid hk
    rw [hk] at q1
    clear q2 q3 q9 q10 hk
    have HY := Lib.hid hY
    have l1 := q1.one
    have l4 := q4.one
    have hx5 := q5.setne (a := ⟨w.heap.size + 1, 0, none⟩) (by show w.heap.size + 1 + 1 ≠ w.heap.size + 1; omega) (.slice a k c)
    have l5 := hx5.one
    clear hY
    gi_wp2
    go_wp2
    have hz : w1.heap.size ≤ w5.heap.size := by omega
    have hdF : ((W.setCell ⟨w.heap.size + 1, 0, none⟩ (.slice a k c)).setCell ⟨w.heap.size + 1 + 1, 0, none⟩ (.int .i64 0)).heap[w5.heap.size]? = some (.deferred (some [])) := ((Below.heap_setCell _ _ _ _ (by show w5.heap.size ≠ w.heap.size + 1 + 1; omega)).trans (Below.heap_setCell _ _ _ _ (by show w5.heap.size ≠ w.heap.size + 1; omega))).trans hd
    have hx4 := (q4.set 0 (.slice a k c)).setne (a := ⟨w.heap.size + 1 + 1, 0, none⟩) (by show w.heap.size + 1 ≠ w.heap.size + 1 + 1; omega) (.int .i64 0)
    have hx6 := hx5.set 0 (.int .i64 0)
    have hBF := below_setne (a := ⟨w.heap.size + 1 + 1, 0, none⟩) (below_setne (a := ⟨w.heap.size + 1, 0, none⟩) q6 (by show w.heap.size ≤ w.heap.size + 1; omega) (.slice a k c)) (by show w.heap.size ≤ w.heap.size + 1 + 1; omega) (.int .i64 0)
    refine ⟨by simp, .inl ⟨_, _, rfl, run_takeDeferred hdF, ?_⟩⟩
    generalize (W.setCell ⟨w.heap.size + 1, 0, none⟩ (.slice a k c)).setCell ⟨w.heap.size + 1 + 1, 0, none⟩ (.int .i64 0) = V at *
    have hP4 : Loc (V.putObj w5.heap.size (Obj.deferred none)) (w.heap.size + 1) _ _ := (World.putObj_heap_other (by omega)).trans hx4
    have hP5 : Loc (V.putObj w5.heap.size (Obj.deferred none)) (w.heap.size + 1 + 1) _ _ := (World.putObj_heap_other (by omega)).trans hx6
    have p4 := hP4.one
    have p5 := hP5.one
    refine ⟨.tuple #[.slice a k c, .int .i64 0], by simp [results, Tryz.results28, go_sem, p4, p5], Y, a, c, HY.out, HC.out, by rw [HK.out], ?_⟩
    exact hBF.grown (grownBy_putObj' _ _ _) hBF.size (fun j e => by cases e; omega)
  case stop =>
    rintro S Z W q
    exact q.elim
theorem pos1_any (b : Nat) (tb : TypeId) (a a' m m' : Option Addr) (k n n' k' c c' cm cm' : Nat) (f g : List (List Int)) (M : T2) (w : World) (hL : Loc w b #[.slice m k cm, .slice m' k' cm'] tb) (h1 : Sol w a n f a' n' g) (h2 : Sol w m k M.1 m' k' M.2) (hn : n ≤ 9223372036854775807) (hn' : n' ≤ 9223372036854775807) :
    Calls Tryz.prog 77 #[sAgg a n c a' n' c', .pointer (some ⟨b, 0, none⟩)] w fun e w' => e = .returned (.bool (decide ((f, g) = M))) ∧ Below w.heap.size w w' := by
  have hA := Loc.new w rfl #[.slice a n c, .slice a' n' c'] 53
  have hB := below_al (Below.refl w.heap.size w) (.cells #[.slice a n c, .slice a' n' c'] 53)
  have lA := hA.two
  have lL := (hL.below hB hL.lt).two
  have HQ : Hid ((cmpS (f, g) (M.1, M.2) == 0) = decide ((f, g) = M)) := Lib.hid (by
    rw [Bool.eq_iff_iff, beq_iff_eq, decide_eq_true_iff]; exact cmpS_cmp.eq _ _)
  obtain ⟨C, HC⟩ : ∃ C, Hid (cmpS (f, g) (M.1, M.2) = C) := ⟨_, Lib.hid rfl⟩
  have HQ2 : Hid ((C == 0) = decide ((f, g) = M)) := Lib.hid (by rw [← HC.out]; exact HQ.out)
  clear HQ
  go_enter Tryz.func77, Tryz.ntmps77
  go_wp2_with fail
  refine (compareSolutions_any a a' m m' n n' k k' c c' cm cm' f g M.1 M.2 _ (h1.f.below hB) (h1.s.below hB) (h2.f.below hB) (h2.s.below hB) hn hn').mono ?_
  rintro e w1 ⟨rfl, q, os', hw1⟩
  have hb1 : Below (w.alloc (.cells #[.slice a n c, .slice a' n' c'] 53)).heap.size (w.alloc (.cells #[.slice a n c, .slice a' n' c'] 53)) w1 := by rw [hw1]; exact below_grow _ _ _
  clear hw1
  rw [HC.out]
  go_wp2
  go_ret
  exact ⟨ret_bool (by rw [HQ2.out]), below_th hB hb1⟩
theorem idxSo_nat {p : T2 → Bool} {ts : List T2} {r : Int} (h : IdxSo p ts r) (hs : ∃ k, k < ts.length ∧ p (ts.getD k t2O) = true) : ∃ k, k < ts.length ∧ r = (k : Int) ∧ p (ts.getD k t2O) = true ∧ ∀ j, j < k → p (ts.getD j t2O) = false := by
  rcases h with h | ⟨_, h⟩
  · exact h
  · obtain ⟨k, hk, e⟩ := hs
    rw [h k hk] at e; cases e
set_option maxHeartbeats 8000000 in
theorem impl_Pos_l (a : Option Addr) (n c : Nat) (f : List (List Int)) (a' : Option Addr) (n' c' : Nat) (g : List (List Int)) (w : World) (h1 : Sol w a n f a' n' g) (hm : n ≤ 9223372036854775807 ∧ n' ≤ 9223372036854775807) :
    Calls Tryz.prog 32 #[sAgg a n c a' n' c'] w (RetI w (posF f g).1 (posF f g).2) := by
  have hA := Loc.new w rfl #[.slice a n c, .slice a' n' c'] 53
  have hB := below_al (Below.refl w.heap.size w) (.cells #[.slice a n c, .slice a' n' c'] 53)
  have f1' := h1.f.alloc (.cells #[.slice a n c, .slice a' n' c'] 53)
  have g1' := h1.s.alloc (.cells #[.slice a n c, .slice a' n' c'] 53)
  obtain ⟨hm1, hm2⟩ := hm
  have HN := Lib.hid h1.f.len
  have hNG := h1.s.len
  have lA := hA.two
  cases hk : isSol f g with
  | false =>
    rw [posF_no hk]
    have HK := Lib.hid hk; clear hk hNG
    go_enter Tryz.func32, Tryz.ntmps32
    go_wp2_with fail
    refine (isSolution_any _ _ _ _ _ _ f g _ f1' g1' hm1 hm2).mono ?_
    rintro e w1 ⟨rfl, hb1⟩
    rw [HK.out]
    go_wp2
    go_ret2
    exact ⟨rfl, below_th hB hb1⟩
  | true =>
    obtain ⟨n1, n12, sf, sg⟩ := isSol_sq hk
    rw [← HN.out] at n1 n12 sf sg
    obtain rfl : n = n' := by have := sg.len; omega
    have HSF := Lib.hid sf; have HSG := Lib.hid sg
    have HK := Lib.hid hk
    clear hNG
    by_cases h3 : n ≤ 3
    · cases hd : ndF f g with
      | false =>
        rw [posF_deg hk (by rw [← HN.out]; exact h3) hd]
        have HD := Lib.hid hd
        clear hk sf sg hd
        have hgt : ¬ (3 : Int) < (n : Int) := by omega
        go_enter Tryz.func32, Tryz.ntmps32
        go_wp2_with fail
        refine (isSolution_any _ _ _ _ _ _ f g _ f1' g1' hm1 hm2).mono ?_
        rintro e w1 ⟨rfl, hb1⟩
        rw [HK.out]
        have lA1 := (hA.below hb1 hA.lt).two
        go_wp2_with fail
        refine (isNondegenerate_any n _ _ _ _ f g _ (f1'.below hb1) (g1'.below hb1) HSF.out HSG.out n12).mono ?_
        rintro e w2 ⟨rfl, hb2⟩
        rw [HD.out]
        go_wp2
        go_ret2
        exact ⟨rfl, below_th (below_th hB hb1) hb2⟩
      | true =>
        rw [posF_in hk (by rw [← HN.out]; exact h3) hd]
        obtain ⟨k0, hk0, ek0⟩ := pos_some hk (by rw [← HN.out]; exact h3) hd
        have HI := Lib.hid (fun k hk => posI_of (s := (f, g)) (k := k) hk)
        rw [← HN.out] at hk0 ek0
        obtain ⟨L, HL⟩ : ∃ L, Hid (slrL n = L) := ⟨_, Lib.hid rfl⟩
        obtain ⟨M, HM⟩ : ∃ M, Hid (lesL n (f, g) = M) := ⟨_, Lib.hid rfl⟩
        have HI2 : Hid (∀ k, k < L.length → L.getD k t2O = M → (∀ j, j < k → L.getD j t2O ≠ M) → posI (f, g) = k) := Lib.hid (by rw [← HL.out, ← HM.out, HN.out]; exact HI.out)
        clear HI
        rw [HL.out] at hk0 ek0
        rw [HM.out] at ek0
        have HLB : Hid (L.length ≤ 1000000) := Lib.hid (by rw [← HL.out]; exact slrL_bd n1 h3)
        have HD := Lib.hid hd
        have HK0 : Hid (∃ k, k < L.length ∧ decide (L.getD k t2O = M) = true) := Lib.hid ⟨k0, hk0, by rw [ek0]; simp⟩
        obtain ⟨R, HR⟩ : ∃ R : Nat, Hid (posI (f, g) = R) := ⟨_, Lib.hid rfl⟩
        rw [HR.out] at HI2
        rw [HR.out]
        clear hk sf sg hd hk0 ek0
        have hgt : ¬ (3 : Int) < (n : Int) := by omega
        go_enter Tryz.func32, Tryz.ntmps32
        go_wp2_with fail
        refine (isSolution_any _ _ _ _ _ _ f g _ f1' g1' hm1 hm2).mono ?_
        rintro e w0 ⟨rfl, hb0⟩
        rw [HK.out]
        have hA0 := hA.below hb0 hA.lt
        have lA0 := hA0.two
        have f0 := f1'.below hb0
        have g0 := g1'.below hb0
        have hB0 := below_th hB hb0
        clear hA hB f1' g1' lA
        go_wp2_with fail
        refine (isNondegenerate_any n _ _ _ _ f g _ f0 g0 HSF.out HSG.out n12).mono ?_
        rintro e w1 ⟨rfl, hb1⟩
        rw [HD.out]
        have hA1 := hA0.below hb1 hA0.lt
        have lA1 := hA1.two
        have hB1 := below_th hB0 hb1
        have ff1 := f0.below hb1
        have gg1 := g0.below hb1
        clear hA0 hB0 f0 g0 lA0 hb0 hb1
        go_wp2_with fail
        refine (leastSolution_any n a a' c c' f g w1 n1 (by omega) ff1 gg1 HSF.out HSG.out).mono ?_
        rintro e w2 ⟨b2, d2, vs2, b2', d2', vs2', rfl, ho2, hb2⟩
        rw [HM.out] at ho2
        have hB2 := below_th hB1 hb2
        obtain ⟨w3, hw3⟩ : ∃ w3, w2.alloc (.cells #[.slice b2 n d2, .slice b2' n d2'] 53) = w3 := ⟨_, rfl⟩
        have hL3 : Loc w3 w2.heap.size #[.slice b2 n d2, .slice b2' n d2'] 53 := by rw [← hw3]; exact Loc.new w2 rfl _ _
        have hb3 : Below w2.heap.size w2 w3 := by rw [← hw3]; exact below_al (Below.refl _ _) _
        have hB3 := below_th hB2 hb3
        have lL3 := hL3.two
        have tM : Sol w3 b2 n M.1 b2' n M.2 := ⟨ho2.f.tbl.below hb3, ho2.s.tbl.below hb3⟩
        go_wp2_with fail
        refine (allSolutions_any n _ n1 h3).mono ?_
        rintro e w4 ⟨a4, k4, c4, us4, ts4, rfl, ho4, hp4, hs4, hb4⟩
        have ht : ts4 = slrL n := slrL_eq (solL_lens n1 h3) hp4 hs4
        rw [ht, HL.out] at ho4
        clear ht hp4 hs4
        have hB4 := below_th hB3 hb4
        have hL4 := hL3.below hb4 hL3.lt
        have hk4 : k4 ≤ 1000000000 := by have := ho4.len; have := HLB.out; omega
        have HT : Hid (TstSo w4 77 #[.pointer (some ⟨w2.heap.size, 0, none⟩)] (fun s => decide (s = M)) L) := Lib.hid ⟨fun args w => rfl, fun i hi w' hb va vn vc va' vn' vc' ht => by
          have hmm : L.getD i t2O ∈ L := by rw [List.getD_eq_getElem?_getD, List.getElem?_eq_getElem hi]; exact List.getElem_mem hi
          have hl : (L.getD i t2O).1.length = n ∧ (L.getD i t2O).2.length = n := by
            rw [← HL.out] at hmm ⊢
            exact solL_lens n1 h3 _ (slrL_mem n1 h3 hmm)
          exact pos1_any w2.heap.size _ va va' b2 b2' n vn vn' n vc vc' d2 d2' _ _ M w' (hL4.below hb hL4.lt) ht ⟨(tM.f.below hb4).below hb, (tM.s.below hb4).below hb⟩ (by have := ht.f.len; omega) (by have := ht.s.len; omega)⟩
        go_wp2_with fail
        refine (indexSo_any _ _ _ a4 k4 c4 L w4 ho4.sbS hk4 HT.out).mono ?_
        rintro e w5 ⟨⟨r, rfl, hr⟩, hb5⟩
        obtain ⟨k, hk1, rfl, hk2, hk3⟩ := idxSo_nat hr HK0.out
        have HRK : Hid (R = k) := Lib.hid (HI2.out k hk1 (of_decide_eq_true hk2) fun j hj => of_decide_eq_false (hk3 j hj))
        have hkk : k ≤ 1000000 := by have := HLB.out; omega
        clear hk2 hk3 hr
        go_wp2
        go_ret2
        exact ⟨by rw [HRK.out]; rfl, below_th hB4 hb5⟩
    · rw [posF_big hk (by rw [← HN.out]; exact h3)]
      have hgt : (3 : Int) < (n : Int) := by omega
      clear hk sf sg
      go_enter Tryz.func32, Tryz.ntmps32
      go_wp2_with fail
      refine (isSolution_any _ _ _ _ _ _ f g _ f1' g1' hm1 hm2).mono ?_
      rintro e w1 ⟨rfl, hb1⟩
      rw [HK.out]
      have lA1 := (hA.below hb1 hA.lt).two
      go_wp2
      go_ret2
      exact ⟨rfl, below_th hB hb1⟩
end Go.Proofs.YtaddclaadbjnlaaGreat
