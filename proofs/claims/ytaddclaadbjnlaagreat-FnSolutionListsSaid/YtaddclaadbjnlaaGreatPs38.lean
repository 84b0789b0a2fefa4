/-
  Walks and plain laws of this seat, some texts in one.
  No condition but bounds on lengths.
-/
import Derived.Test.YtaddclaadbjnlaaGreatPs37
import Derived.Test.YtaddclaadbjnlaaGreatPs20
import Derived.Test.YtaddclaadbjnlaaGreatPs19
import Derived.Test.YtaddclaadbjnlaaGreatPs35
import Derived.Test.YtaddclaadbjnlaaGreatPs3
namespace Go.Proofs.YtaddclaadbjnlaaGreat
set_option maxRecDepth 100000
set_option linter.unusedVariables false
set_option linter.unusedSimpArgs false
open Go.RowKit
attribute [local go_sem] Oper.semAt_some
theorem TB.two {S0 : Nat → Prop} {w1 W : World} {g n c c' : Nat} {t t' : List (List Int)} {A O C A' O' C' : Nat → Nat} {b off b' off' : Nat} (hG : Grid w1 b off A O C n t) (hG' : Grid w1 b' off' A' O' C' n t') (hs : Sq n t) (hs' : Sq n t') (hL : Loc W g #[.slice (some ⟨b, off, none⟩) n c, .slice (some ⟨b', off', none⟩) n c'] 32) (hB : Below w1.heap.size w1 W) (hg : ¬ S0 g) (hS : ∀ q, S0 q → w1.heap.size ≤ q) :
    TB S0 W g 2 n (fun k => if k = 0 then b else b') (fun k => if k = 0 then off else off') (fun k => if k = 0 then c else c') (fun k => if k = 0 then A else A') (fun k => if k = 0 then O else O') (fun k => if k = 0 then C else C') [t, t'] := by
  refine ⟨rfl, fun w' hm k hk => ?_, fun w' hm k hk => ?_, fun k hk => ?_⟩
  · have : Loc w' g #[.slice (some ⟨b, off, none⟩) n c, .slice (some ⟨b', off', none⟩) n c'] 32 := (hm.block g hL.lt hg).trans hL
    rcases (show k = 0 ∨ k = 1 by omega) with rfl | rfl
    · exact this.two.1
    · exact this.two.2.1
  · rcases (show k = 0 ∨ k = 1 by omega) with rfl | rfl
    · exact hG.below (hB.trans (hm.lowb hS hB.size))
    · exact hG'.below (hB.trans (hm.lowb hS hB.size))
  · rcases (show k = 0 ∨ k = 1 by omega) with rfl | rfl
    · exact hs
    · exact hs'
theorem isPm_sqN {n : Nat} {t t' : List (List Int)} (h : isPm t t' = true) (hl : n = t.length) : 1 ≤ n ∧ n ≤ 12 ∧ Sq n t ∧ Sq n t' := by
  unfold isPm at h
  rw [Bool.and_eq_true, Bool.and_eq_true] at h
  obtain ⟨h1, h2, h3⟩ := h
  obtain ⟨q1, q2, q3⟩ := isTab_sq h1
  obtain ⟨_, _, q4⟩ := isTab_sq h2
  rw [← of_decide_eq_true h3, ← hl] at q4
  rw [← hl] at q1 q2 q3
  exact ⟨q1, q2, q3, q4⟩
def SisP (N : Nat) (t t' u u' : List (List Int)) (w : World) (e : Ending) (w' : World) : Prop :=
  ((∃ (a : Option Addr) (c : Nat) (p : List Int), IsoL N [t, t'] [u, u'] p ∧ e = .returned (.tuple #[.slice a N c, .int .i64 0]) ∧ Own w' w.heap.size a N c p) ∨ ((∀ p, ¬ IsoL N [t, t'] [u, u'] p) ∧ e = .returned (.tuple #[.slice none 0 0, .int .i64 4]))) ∧ Below w.heap.size w w'
set_option maxHeartbeats 16000000 in
theorem SolutionIsomorphism_ok (N : Nat) (at_ at' au au' : Option Addr) (ct ct' cu cu' : Nat) (t t' u u' : List (List Int)) (w : World) (hN : N ≤ 7) (hT : Tbl w at_ N t) (hT' : Tbl w at' N t') (hU : Tbl w au N u) (hU' : Tbl w au' N u') (hrk : isPm t t' = true) (hru : isPm u u' = true) :
    Calls Tryz.prog 34 #[sAgg at_ N ct at' N ct', sAgg au N cu au' N cu'] w (SisP N t t' u u' w) := by
  obtain ⟨h1, _, hs, hs'⟩ := isPm_sqN hrk hT.len
  obtain ⟨_, _, hs2, hs2'⟩ := isPm_sqN hru hU.len
  have HS := Lib.hid hs; have HS2 := Lib.hid hs2; have HSb := Lib.hid hs'; have HS2b := Lib.hid hs2'; have HR := Lib.hid hrk; have HR2 := Lib.hid hru
  clear hs hs2 hs' hs2' hrk hru
  obtain ⟨wa, hwa⟩ : ∃ wa, (((w.alloc (.cells #[.slice at_ N ct, .slice at' N ct'] 53)).alloc (.cells #[.slice au N cu, .slice au' N cu'] 53)).alloc (.cells #[.slice none 0 0] 41)).alloc (.cells #[.int .i64 0] 2) = wa := ⟨_, rfl⟩
  have hza : wa.heap.size = w.heap.size + 4 := by rw [← hwa]; simp
  have hBa : Below w.heap.size w wa := by rw [← hwa]; exact below_al (below_al (below_al (below_al (Below.refl _ _) _) _) _) _
  have hLr : Loc wa w.heap.size #[.slice at_ N ct, .slice at' N ct'] 53 := by rw [← hwa]; exact (((Loc.new w rfl _ _).alloc _).alloc _).alloc _
  have hLs : Loc wa (w.heap.size + 1) #[.slice au N cu, .slice au' N cu'] 53 := by rw [← hwa]; exact ((Loc.new _ (by simp) _ _).alloc _).alloc _
  have hL4 : Loc wa (w.heap.size + 2) #[.slice none 0 0] 41 := by rw [← hwa]; exact (Loc.new _ (by simp) _ _).alloc _
  have hL5 : Loc wa (w.heap.size + 3) #[.int .i64 0] 2 := by rw [← hwa]; exact Loc.new _ (by simp) _ _
  have lr := hLr.two
  have ls := hLs.two
  have hTa := hT.below hBa
  have hUa := hU.below hBa
  have hTa' := hT'.below hBa
  have hUa' := hU'.below hBa
  have HWA := Lib.hid hwa
  clear hwa
  refine (callsIn_wide (n := 3)).1 ?_
  refine callsIn_of_wp_marks Tryz.func34 rfl trivial ?_ rfl
  simp only [Tryz.ntmps34, List.size_toArray, List.length_cons, List.length_nil, Nat.reduceAdd, Nat.reduceSub, Array.replicate_succ, Array.replicate_zero, List.push_toArray, List.append_toArray, List.nil_append, List.cons_append]
  refine wpIn_wide.2 ?_
  go_upto_region 1 with fail
  try rw [HWA.out]
  go_wp2_with fail
  refine (isPairMap_any at_ N ct at' N ct' t t' _ hTa hTa' (by omega) (by omega)).mono ?_
  rintro e w0 ⟨rfl, hb0⟩
  rw [HR.out]
  have hLr0 := hLr.below hb0 hLr.lt
  have hLs0 := hLs.below hb0 hLs.lt
  have lr0 := hLr0.two
  have ls0 := hLs0.two
  have hU0 := hUa.below hb0
  have hU0' := hUa'.below hb0
  have hBb0 := below_th hBa hb0
  go_wp2_with fail
  refine (isPairMap_any au N cu au' N cu' u u' _ hU0 hU0' (by omega) (by omega)).mono ?_
  rintro e w1 ⟨rfl, hb1⟩
  rw [HR2.out]
  have hB1 := below_th hBb0 hb1
  have hLr1 := hLr0.below hb1 hLr0.lt
  have hLs1 := hLs0.below hb1 hLs0.lt
  have lr1 := hLr1.two
  have ls1 := hLs1.two
  have h41 := (hL4.below hb0 hL4.lt).below hb1 (by have := hb0.size; omega)
  have h51 := (hL5.below hb0 hL5.lt).below hb1 (by have := hb0.size; omega)
  have hz1 : w.heap.size + 4 ≤ w1.heap.size := by have := hb0.size; have := hb1.size; omega
  have lsx := (hLs1.alloc (.cells #[.slice at_ N ct, .slice at' N ct'] 32)).two
  clear lr ls lr0 ls0
  go_wp2_with fail
  refine (isomorphisms_any _ _ 2 2 2 2 _).mono ?_
  rintro e w5 ⟨rfl, hb1', hb2', hb5⟩
  go_wp2
  obtain ⟨b, off, A, O, C, rfl, G1⟩ := hT.grid HS.out h1
  obtain ⟨b2, off2, A2, O2, C2, rfl, G2⟩ := hU.grid HS2.out h1
  obtain ⟨b', off', A', O', C', rfl, G1'⟩ := hT'.grid HSb.out h1
  obtain ⟨b2', off2', A2', O2', C2', rfl, G2'⟩ := hU'.grid HS2b.out h1
  obtain ⟨w4, hw4⟩ : ∃ w4, (w1.alloc (.cells #[.slice (some ⟨b, off, none⟩) N ct, .slice (some ⟨b', off', none⟩) N ct'] 32)).alloc (.cells #[.slice (some ⟨b2, off2, none⟩) N cu, .slice (some ⟨b2', off2', none⟩) N cu'] 32) = w4 := ⟨_, rfl⟩
  have hz4 : w4.heap.size = w1.heap.size + 1 + 1 := by rw [← hw4]; simp
  have b4 : Below w1.heap.size w1 w4 := by rw [← hw4]; exact below_al (below_al (Below.refl _ _) _) _
  have Lf4 : Loc w4 w1.heap.size #[.slice (some ⟨b, off, none⟩) N ct, .slice (some ⟨b', off', none⟩) N ct'] 32 := by rw [← hw4]; exact (Loc.new _ rfl _ _).alloc _
  have Lt4 : Loc w4 (w1.heap.size + 1) #[.slice (some ⟨b2, off2, none⟩) N cu, .slice (some ⟨b2', off2', none⟩) N cu'] 32 := by rw [← hw4]; exact Loc.new _ (by simp) _ _
  rw [hw4] at hb5
  rw [show World.heap ((w1.alloc (.cells #[.slice (some ⟨b, off, none⟩) N ct, .slice (some ⟨b', off', none⟩) N ct'] 32)).alloc (.cells #[.slice (some ⟨b2, off2, none⟩) N cu, .slice (some ⟨b2', off2', none⟩) N cu'] 32)) = w4.heap by rw [hw4]] at hb1' hb2'
  rw [hz4] at hb1' hb2'
  have b5 : Below w1.heap.size w1 w5 := b4.trans (hb5.mono b4.size)
  have Lf5 := Lf4.below hb5 Lf4.lt
  have Lt5 := Lt4.below hb5 Lt4.lt
  have hz5 : w1.heap.size + 1 + 1 ≤ w5.heap.size := by have := hb5.size; omega
  have hBw5 : Below w.heap.size w w5 := hB1.trans (b5.mono hB1.size)
  have r4 : Loc w5 (w.heap.size + 1 + 1) #[.slice none 0 0] 41 := h41.below b5 h41.lt
  have r5 : Loc w5 (w.heap.size + 1 + 1 + 1) #[.int .i64 0] 2 := h51.below b5 h51.lt
  obtain ⟨S0, hS0⟩ : ∃ S0 : Nat → Prop, S0 = fun g => g = w.heap.size + 1 + 1 ∨ g = w.heap.size + 1 + 1 + 1 := ⟨_, rfl⟩
  have s1 : ∀ q, S0 q → w.heap.size ≤ q := fun q h => by rw [hS0] at h; omega
  have s2 : ¬ S0 w1.heap.size := fun h => by rw [hS0] at h; omega
  have s3 : ¬ S0 (w1.heap.size + 1) := fun h => by rw [hS0] at h; omega
  have s4 : ∀ q, S0 q → q < w5.heap.size := fun q h => by rw [hS0] at h; omega
  have s5 : S0 (w.heap.size + 1 + 1) := by rw [hS0]; exact .inl rfl
  have s6 : S0 (w.heap.size + 1 + 1 + 1) := by rw [hS0]; exact .inr rfl
  have tb1 := TB.two (S0 := S0) G1 G1' HS.out HSb.out Lf5 hBw5 s2 s1
  have tb2 := TB.two (S0 := S0) G2 G2' HS2.out HS2b.out Lt5 hBw5 s3 s1
  clear hS0 hw4 HWA hLr hLs hL4 hL5 hTa hUa hTa' hUa' hLr0 hLs0 hU0 hU0' hBb0 hLr1 hLs1 lr1 ls1 lsx h41 h51 G1 G2 G1' G2' Lf4 Lt4 b4 hb5 hb0 hb1
  refine (wpIn_wide (n := 3)).1 ?_
  refine wpIn_rangeFunc_iso (n := N) (w1.heap.size + 1 + 1) (w1.heap.size + 1 + 1 + 1) rfl (enters_of Tryz.func94 (by kernel_rfl) rfl) (K := 2) (kf := 2) (kt := 2) _ _ _ _ _ _ _ _ _ _ _ _ tb1 tb2 h1 (by omega) (by omega) (by omega) s4 hb1' hb2' rfl
    (fun S ys W => ys = [] ∧ Loc W (w.heap.size + 1 + 1) #[.slice none 0 0] 41 ∧ Loc W (w.heap.size + 1 + 1 + 1) #[.int .i64 0] 2 ∧ Below w.heap.size w W ∧ (∀ g, S g → w5.heap.size ≤ g) ∧ w5.heap.size ≤ W.heap.size)
    (fun S Z W => ∃ (a : Option Addr) (c : Nat) (p : List Int), IsoL N [t, t'] [u, u'] p ∧ Loc W (w.heap.size + 1 + 1) #[.slice a N c] 41 ∧ Loc W (w.heap.size + 1 + 1 + 1) #[.int .i64 0] 2 ∧ Own W w5.heap.size a N c p ∧ (∀ g, a = some ⟨g, 0, none⟩ → ¬ S g ∧ w5.heap.size + 2 ≤ g) ∧ Below w.heap.size w W ∧ (∀ g, S g → w5.heap.size ≤ g) ∧ w5.heap.size ≤ W.heap.size) ?abide ?abide2 ?start
    (fun bb => { tmps := #[sAgg (some ⟨b, off, none⟩) N ct (some ⟨b', off', none⟩) N ct', sAgg (some ⟨b2, off2, none⟩) N cu (some ⟨b2', off2', none⟩) N cu', .pointer (some ⟨w.heap.size, 0, none⟩), .pointer (some ⟨w.heap.size + 1, 0, none⟩), .pointer (some ⟨w.heap.size + 1 + 1, 0, none⟩), .pointer (some ⟨w.heap.size + 1 + 1 + 1, 0, none⟩), .slice (some ⟨bb, 0, none⟩) N N, .agg #[.slice (some ⟨b, off, none⟩) N ct, .slice (some ⟨b', off', none⟩) N ct'], .bool true, .bool false, .bool false, .agg #[.slice (some ⟨b2, off2, none⟩) N cu, .slice (some ⟨b2', off2', none⟩) N cu'], .bool true, .bool false, .bool false,
      .pointer (some ⟨w.heap.size, 0, none⟩), .slice (some ⟨b, off, none⟩) N ct, .pointer (some ⟨w.heap.size, 1, none⟩), .slice (some ⟨b', off', none⟩) N ct', .slice (some ⟨w1.heap.size, 0, none⟩) 2 2, .pointer (some ⟨w.heap.size + 1, 0, none⟩), .slice (some ⟨b2, off2, none⟩) N cu, .pointer (some ⟨w.heap.size + 1, 1, none⟩), .slice (some ⟨b2', off2', none⟩) N cu', .slice (some ⟨w1.heap.size + 1, 0, none⟩) 2 2,
      .func (.func 94) #[] #[.pointer (some ⟨w1.heap.size + 1 + 1, 0, none⟩), .pointer (some ⟨w1.heap.size + 1 + 1 + 1, 0, none⟩)], .slice (some ⟨bb, 0, none⟩) N N, undef, undef], defers := [] })
    ?assign ?body ?done ?stop
  case abide =>
    rintro S S' ys A B ⟨q0, q1, q1', q2, q3, q4⟩ hm hS'
    have hz := hm.size
    have hge : ∀ k, (S k ∨ k = w5.heap.size + 1) → w5.heap.size ≤ k := fun k e => by
      rcases e with e | e
      · exact q3 _ e
      · omega
    refine ⟨q0, (hm.block _ q1.lt (fun e => by have := hge _ e; omega)).trans q1, (hm.block _ q1'.lt (fun e => by have := hge _ e; omega)).trans q1', Marked.below q2 hm q2.size (fun k e => by have := hge _ e; omega), fun g hg => ?_, by omega⟩
    rcases hS' g hg with e | e
    · exact q3 g e
    · omega
  case abide2 =>
    rintro S S' ys A B ⟨a, c, p, hp, q1, q1', qo, qa, q2, q3, q4⟩ hm hS'
    have hz := hm.size
    have hge : ∀ k, (S k ∨ k = w5.heap.size + 1) → w5.heap.size ≤ k := fun k e => by
      rcases e with e | e
      · exact q3 _ e
      · omega
    refine ⟨a, c, p, hp, (hm.block _ q1.lt (fun e => by have := hge _ e; omega)).trans q1, (hm.block _ q1'.lt (fun e => by have := hge _ e; omega)).trans q1', qo.keep (fun g hg hl => hm.block g hl (fun e => ?_)), fun g hg => ⟨fun e => ?_, (qa g hg).2⟩, Marked.below q2 hm q2.size (fun k e => by have := hge _ e; omega), fun g hg => ?_, by omega⟩
    · have := qa g hg
      rcases e with e | e
      · exact this.1 e
      · omega
    · rcases hS' g e with e | e
      · exact (qa g hg).1 e
      · have := qo.hi g hg; omega
    · rcases hS' g hg with e | e
      · exact q3 g e
      · omega
  case start =>
    intro S A hS hB
    exact ⟨rfl, r4.below hB r4.lt, r5.below hB r5.lt, hBw5.trans (hB.mono (by omega)), fun g hg => by have := (hS g hg).1; omega, hB.size⟩
  case assign =>
    intro l n' bb W K' hK
    gi_wp2
    simpa using hK
  case body =>
    rintro l n' bb S ys im W ⟨q0, q1, q1', q2, q3, q4⟩ hiso hSb hown hSS hmW
    have HI := Lib.hid hiso.1
    have hlen := hiso.1.1
    have HLN := Lib.hid hlen
    have hwz : w5.heap.size + 2 ≤ W.heap.size := by have := hSS bb hSb; omega
    clear hlen
    gi_wp2
    refine ⟨trivial, (fun h => by cases h), ?_⟩
    refine (CallsIn.inRound l (callsIn_wide.2 (clone_any _ N N im W hown.row (by omega)))).mono ?_
    rintro e w6 ⟨a6, c6, rfl, ho6, hb6⟩
    have h4 := q1.below hb6 q1.lt
    have l4 := h4.one
    have h5 := (q1'.below hb6 q1'.lt)
    have h5x := h5.setne (a := ⟨w.heap.size + 1 + 1, 0, none⟩) (by show w.heap.size + 1 + 1 + 1 ≠ w.heap.size + 1 + 1; omega) (.slice a6 N c6)
    have l5 := h5x.one
    dsimp only
    gi_wp2
    have hz6 := hb6.size
    have hmk : Marked (fun g => S0 g ∨ (w5.heap.size + 2 ≤ g ∧ ¬ S g)) W ((w6.setCell ⟨w.heap.size + 1 + 1, 0, none⟩ (.slice a6 N c6)).setCell ⟨w.heap.size + 1 + 1 + 1, 0, none⟩ (.int .i64 0)) := mk_set (mk_set (Marked.ofB hb6) (.inl s5) _) (.inl s6) _
    refine ⟨⟨a6, c6, im, HI.out, (h4.set 0 (.slice a6 N c6)).setne (by show w.heap.size + 1 + 1 ≠ w.heap.size + 1 + 1 + 1; omega) _, h5x.set 0 _, ?_, fun g hg => ⟨fun e => ?_, ?_⟩, below_setne (below_setne (q2.trans (hb6.mono q2.size)) (by show w.heap.size ≤ w.heap.size + 1 + 1; omega) _) (by show w.heap.size ≤ w.heap.size + 1 + 1 + 1; omega) _, q3, by rw [size_set, size_set]; omega⟩, hmk⟩
    · exact ((ho6.setlo (by show w.heap.size + 1 + 1 < W.heap.size; omega) _).setlo (by show w.heap.size + 1 + 1 + 1 < W.heap.size; omega) _).mono (by omega)
    · have := (hSS g e).2; have := ho6.lo g hg; omega
    · have := ho6.lo g hg; omega
  case done =>
    rintro S Y W hY ⟨q0, q1, q1', q2, q3, q4⟩ hd
    subst q0
    have HNO : Hid (∀ p, ¬ IsoL N [t, t'] [u, u'] p) := Lib.hid fun p hp => by have := (hY.2 p).2 hp; cases this
    have l4 := q1.one
    have hx5 := q1'.setne (a := ⟨w.heap.size + 1 + 1, 0, none⟩) (by show w.heap.size + 1 + 1 + 1 ≠ w.heap.size + 1 + 1; omega) (.slice none 0 0)
    have l5 := hx5.one
    clear hY
    gi_wp2
    go_wp2
    have hz : w1.heap.size ≤ w5.heap.size := by omega
    have hdF : ((W.setCell ⟨w.heap.size + 1 + 1, 0, none⟩ (.slice none 0 0)).setCell ⟨w.heap.size + 1 + 1 + 1, 0, none⟩ (.int .i64 4)).heap[w5.heap.size]? = some (.deferred (some [])) := ((Below.heap_setCell _ _ _ _ (by show w5.heap.size ≠ w.heap.size + 1 + 1 + 1; omega)).trans (Below.heap_setCell _ _ _ _ (by show w5.heap.size ≠ w.heap.size + 1 + 1; omega))).trans hd
    have hx4 := (q1.set 0 (.slice none 0 0)).setne (a := ⟨w.heap.size + 1 + 1 + 1, 0, none⟩) (by show w.heap.size + 1 + 1 ≠ w.heap.size + 1 + 1 + 1; omega) (.int .i64 4)
    have hx6 := hx5.set 0 (.int .i64 4)
    have hBF := below_setne (a := ⟨w.heap.size + 1 + 1 + 1, 0, none⟩) (below_setne (a := ⟨w.heap.size + 1 + 1, 0, none⟩) q2 (by show w.heap.size ≤ w.heap.size + 1 + 1; omega) (.slice none 0 0)) (by show w.heap.size ≤ w.heap.size + 1 + 1 + 1; omega) (.int .i64 4)
    refine ⟨by simp, .inl ⟨_, _, rfl, run_takeDeferred hdF, ?_⟩⟩
    generalize (W.setCell ⟨w.heap.size + 1 + 1, 0, none⟩ (.slice none 0 0)).setCell ⟨w.heap.size + 1 + 1 + 1, 0, none⟩ (.int .i64 4) = V at *
    have hP4 : Loc (V.putObj w5.heap.size (Obj.deferred none)) (w.heap.size + 1 + 1) _ _ := (World.putObj_heap_other (by omega)).trans hx4
    have hP5 : Loc (V.putObj w5.heap.size (Obj.deferred none)) (w.heap.size + 1 + 1 + 1) _ _ := (World.putObj_heap_other (by omega)).trans hx6
    have p4 := hP4.one
    have p5 := hP5.one
    refine ⟨.tuple #[.slice none 0 0, .int .i64 4], by simp [results, Tryz.results34, go_sem, p4, p5], .inr ⟨HNO.out, rfl⟩, ?_⟩
    exact hBF.grown (grownBy_putObj' _ _ _) hBF.size (fun j e => by cases e; omega)
  case stop =>
    rintro S Z W ⟨a, c, p, hp, q1, q1', qo, qa, q2, q3, q4⟩ hd
    gi_wp2
    have hz : w1.heap.size ≤ w5.heap.size := by omega
    refine ⟨by simp, .inl ⟨_, _, rfl, run_takeDeferred hd, ?_⟩⟩
    have hP4 : Loc (W.putObj w5.heap.size (Obj.deferred none)) (w.heap.size + 1 + 1) _ _ := (World.putObj_heap_other (by omega)).trans q1
    have hP5 : Loc (W.putObj w5.heap.size (Obj.deferred none)) (w.heap.size + 1 + 1 + 1) _ _ := (World.putObj_heap_other (by omega)).trans q1'
    have p4 := hP4.one
    have p5 := hP5.one
    refine ⟨.tuple #[.slice a N c, .int .i64 0], by simp [results, Tryz.results34, go_sem, p4, p5], .inl ⟨a, c, p, hp, rfl, ?_⟩, ?_⟩
    · exact (qo.keep (fun g hg hl => World.putObj_heap_other (by have := (qa g hg).2; omega))).mono (by omega)
    · exact q2.grown (grownBy_putObj' _ _ _) q2.size (fun j e => by cases e; omega)
def ivlAt (f g : List (List Int)) (x y : Nat) : Bool := decide (tv f (tv f x y) (tv g x y) = x) && decide (tv g (tv f x y) (tv g x y) = y)
def ivlB (n : Nat) (f g : List (List Int)) : Bool := allN n fun x => allN n fun y => ivlAt f g x y
set_option maxHeartbeats 8000000 in
theorem isInvolutive_any (n : Nat) (a a' : Option Addr) (c c' : Nat) (f g : List (List Int)) (w : World) (h1 : Tbl w a n f) (h2 : Tbl w a' n g) (hf : Sq n f) (hg : Sq n g) (hn1 : 1 ≤ n) (hn : n ≤ 12) :
    Calls Tryz.prog 70 #[sAgg a n c a' n c'] w fun e w' => e = .returned (.bool (ivlB n f g)) ∧ Below w.heap.size w w' := by
  have hA := Loc.new w rfl #[.slice a n c, .slice a' n c'] 53
  have hB := below_al (Below.refl w.heap.size w) (.cells #[.slice a n c, .slice a' n c'] 53)
  obtain ⟨bf, of, A, O, C, rfl, gf⟩ := h1.grid hf hn1
  obtain ⟨bg, og, A', O', C', rfl, gg⟩ := h2.grid hg hn1
  have HF := Lib.hid hf; have HG := Lib.hid hg
  clear hf hg h1 h2
  have lA := hA.two
  have gf := gf.below hB
  have gg := gg.below hB
  go_enter Tryz.func70, Tryz.ntmps70
  generalize hw0 : w.alloc (.cells #[.slice (some ⟨bf, of, none⟩) n c, .slice (some ⟨bg, og, none⟩) n c'] 53) = w0 at *
  go_wp2
  go_loopw [3, 4, 5, 6, 7, 11, 18] (fun _ _ _ _ _ s _ wr => ∃ x : Nat, x ≤ n ∧ s = .int .i64 x ∧ Hid (allN x (fun x => allN n fun y => ivlAt f g x y) = true) ∧ w0 = wr) (fun _ _ _ _ _ s _ _ => n - (intOf s).toNat)
  case atStart => exact ⟨0, Nat.zero_le _, rfl, Lib.hid rfl, rfl⟩
  case round =>
    obtain ⟨x, hx, rfl, HX, rfl⟩ := hrel
    by_cases hlt : x < n
    · have gr := gf.row x hlt
      go_wp2
      go_loopw [5, 6, 7, 18] (fun _ _ _ s wr => ∃ y : Nat, y ≤ n ∧ s = .int .i64 y ∧ Hid (allN y (fun y => ivlAt f g x y) = true) ∧ w0 = wr) (fun _ _ _ s _ => n - (intOf s).toNat)
      case atStart => exact ⟨0, Nat.zero_le _, rfl, Lib.hid rfl, rfl⟩
      case round =>
        obtain ⟨y, hy, rfl, HY, rfl⟩ := hrel
        by_cases hlty : y < n
        · obtain ⟨r1, k1⟩ := gf.look hlt hlty
          obtain ⟨r2, k2⟩ := gg.look hlt hlty
          have lu := HF.out.lt hlt hlty
          have lv := HG.out.lt hlt hlty
          have HAT : Hid (ivlAt f g x y = (decide (tv f (tv f x y) (tv g x y) = x) && decide (tv g (tv f x y) (tv g x y) = y))) := Lib.hid rfl
          generalize tv f x y = u at *
          generalize tv g x y = v at *
          obtain ⟨r3, k3⟩ := gf.look lu lv
          obtain ⟨r4, k4⟩ := gg.look lu lv
          generalize tv f u v = p at *
          generalize tv g u v = q at *
          by_cases e1 : p = x
          · subst e1
            by_cases e2 : q = y
            · subst e2
              have HT : Hid (ivlAt f g p q = true) := Lib.hid (by rw [HAT.out]; simp)
              have u1 : ((p : Int) != (p : Int)) = false := by simp
              have u2 : ((q : Int) != (q : Int)) = false := by simp
              go_wp2
              go_roundw
              case rel => exact ⟨q + 1, by omega, by go_num, Lib.hid (allN_succ HY.out HT.out), trivial⟩
              case measure => simp [intOf]; omega
            · have HT : Hid (ivlAt f g p y = false) := Lib.hid (by rw [HAT.out]; simp [e2])
              have e3 : ¬ (q : Int) = (y : Int) := by omega
              have e4 : ((q : Int) != (y : Int)) = true := by simpa using e3
              have u1 : ((p : Int) != (p : Int)) = false := by simp
              go_wp2
              go_ret
              exact ⟨by rw [show ivlB n f g = false from allN_no hlt (allN_no hlty HT.out)]; rfl, hB⟩
          · have HT : Hid (ivlAt f g x y = false) := Lib.hid (by rw [HAT.out]; simp [e1])
            have e3 : ¬ (p : Int) = (x : Int) := by omega
            have e4 : ((p : Int) != (x : Int)) = true := by simpa using e3
            go_wp2
            go_ret
            exact ⟨by rw [show ivlB n f g = false from allN_no hlt (allN_no hlty HT.out)]; rfl, hB⟩
        · obtain rfl : y = n := by omega
          go_wp2
          go_roundw
          case rel => exact ⟨x + 1, by omega, by go_num, Lib.hid (allN_succ HX.out HY.out), trivial⟩
          case measure => simp [intOf]; omega
    · obtain rfl : x = n := by omega
      go_wp2
      go_ret
      exact ⟨by rw [show ivlB x f g = true from HX.out]; rfl, hB⟩
set_option maxHeartbeats 2000000 in
theorem IsInvolutive_ok (n : Nat) (a a' : Option Addr) (c c' : Nat) (f g : List (List Int)) (w : World) (h1 : Tbl w a n f) (h2 : Tbl w a' n g) (hpm : isPm f g = true) :
    Calls Tryz.prog 27 #[sAgg a n c a' n c'] w fun e w' => e = .returned (.tuple #[.bool (ivlB n f g), .int .i64 0]) ∧ Below w.heap.size w w' := by
  obtain ⟨hn1, hn, hf, hg⟩ := isPm_sqN hpm h1.len
  have HF := Lib.hid hf; have HG := Lib.hid hg; have HP := Lib.hid hpm
  clear hf hg hpm
  have hA := Loc.new w rfl #[.slice a n c, .slice a' n c'] 53
  have hB := below_al (Below.refl w.heap.size w) (.cells #[.slice a n c, .slice a' n c'] 53)
  have lA := hA.two
  go_enter Tryz.func27, Tryz.ntmps27
  generalize hw0 : w.alloc (.cells #[.slice a n c, .slice a' n c'] 53) = w0 at *
  go_wp2_with fail
  refine (isPairMap_any a n c a' n c' f g _ (h1.below hB) (h2.below hB) (by omega) (by omega)).mono ?_
  rintro e w1 ⟨rfl, hb1⟩
  rw [HP.out]
  have lA1 := (hA.below hb1 hA.lt).two
  have hB1 := below_th hB hb1
  go_wp2_with fail
  refine (isInvolutive_any n a a' c c' f g _ (h1.below hB1) (h2.below hB1) HF.out HG.out hn1 hn).mono ?_
  rintro e w2 ⟨rfl, hb2⟩
  go_wp2
  go_ret2
  exact ⟨rfl, below_th hB1 hb2⟩
def RetLSo (w : World) (L : List T2) (code : Int) (e : Ending) (w' : World) : Prop := ∃ a k c us, e = .returned (.tuple #[.slice a k c, .int .i64 code]) ∧ OwnSo w' w.heap.size a k c us L ∧ Below w.heap.size w w'
def SbS (w : World) (a : Option Addr) (n : Nat) (ts : List T2) : Prop :=
  n = ts.length ∧ ∀ i, i < n → ∃ b ai ni ci di mi ei, a = some ⟨b, 0, none⟩ ∧ b < w.heap.size ∧ w.cell? ⟨b, i * 2, none⟩ = some (.slice ai ni ci) ∧ w.cell? ⟨b, i * 2 + 1, none⟩ = some (.slice di mi ei) ∧ Sol w ai ni (ts.getD i t2O).1 di mi (ts.getD i t2O).2 ∧ ni ≤ 9223372036854775807 ∧ mi ≤ 9223372036854775807
theorem SbS.len {w : World} {a : Option Addr} {n : Nat} {ts : List T2} (h : SbS w a n ts) : n = ts.length := h.1
theorem SbS.below {w w' : World} {a : Option Addr} {n : Nat} {ts : List T2} (h : SbS w a n ts) (hb : Below w.heap.size w w') : SbS w' a n ts :=
  ⟨h.1, fun i hi => by obtain ⟨b, ai, ni, ci, di, mi, ei, h1, h3, h2, h2', h4, h5, h6⟩ := h.2 i hi; exact ⟨b, ai, ni, ci, di, mi, ei, h1, Nat.lt_of_lt_of_le h3 hb.size, (hb.cell (p := ⟨b, i * 2, none⟩) h3).trans h2, (hb.cell (p := ⟨b, i * 2 + 1, none⟩) h3).trans h2', h4.below hb, h5, h6⟩⟩
theorem SbS.drewN {w : World} {a : Option Addr} {n : Nat} {ts : List T2} (h : SbS w a n ts) (k : Nat) : SbS (w.drewN k) a n ts := ⟨h.1, fun i hi => by obtain ⟨b, ai, ni, ci, di, mi, ei, h1, h3, h2, h2', h4, h5, h6⟩ := h.2 i hi; exact ⟨b, ai, ni, ci, di, mi, ei, h1, h3, h2, h2', h4.drewN k, h5, h6⟩⟩
theorem OwnSo.sbS {w : World} {lo : Nat} {a : Option Addr} {n c : Nat} {us : List PV} {ts : List T2} (h : OwnSo w lo a n c us ts) : SbS w a n ts := by
  refine ⟨h.len, fun i hi => ?_⟩
  obtain ⟨g, h1, h2, h3, _⟩ := h.cells (by omega)
  have hv := h.tab i hi
  have hc := OwnS.cap hv
  exact ⟨g, _, _, _, _, _, _, h1, h2, (h3 i hi).1, (h3 i hi).2, OwnS.sol hv, by omega, by omega⟩
theorem OwnSo.mark {w w' : World} {lo : Nat} {a : Option Addr} {n c : Nat} {us : List PV} {ts : List T2} (h : OwnSo w lo a n c us ts) {i : Nat} (hi : i < n) {t : T2} (hv : OwnPV w' lo (us.getD i pvO) t) (hm : Marked (PvS (us.getD i pvO)) w w') : OwnSo w' lo a n c us (ts.set i t) := by
  have hgs : ∀ j, (ts.set i t).getD j t2O = if j = i then t else ts.getD j t2O := fun j => by
    have hil : i < ts.length := by have := h.len; omega
    rw [List.getD_eq_getElem?_getD, List.getD_eq_getElem?_getD, List.getElem?_set]
    by_cases e : i = j
    · subst e; simp [hil]
    · rw [if_neg e, if_neg (fun h => e h.symm)]
  refine ⟨by rw [List.length_set]; exact h.len, h.ulen, ?_, fun j hj => ?_, h.ap, h.pw⟩
  · rcases h.block with ⟨h1, h2, h3⟩ | ⟨g, cur, h1, h2, h3, h4, h5, h6, h7⟩
    · omega
    · subst h1
      exact ownsRowSo_mk h.ulen h2 ((hm.block g h3.lt (h.ap i hi g rfl)).trans h3) h4 h5 h6 h7
  · rw [hgs]
    by_cases e : j = i
    · subst e; rw [if_pos rfl]; exact hv
    · rw [if_neg e]
      exact OwnPV.keep (h.tab j hj) fun g hg hlt => hm.block g hlt (fun h1 => h.pw j i hj hi e g hg h1)
end Go.Proofs.YtaddclaadbjnlaaGreat
