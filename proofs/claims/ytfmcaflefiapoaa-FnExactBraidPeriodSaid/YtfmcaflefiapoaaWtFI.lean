/-
  Whether a matrix is a weight: what the program's functions compute.
  No condition but bounds.
-/
import Derived.Test.YtfmcaflefiapoaaWtI
import Derived.Test.YtfmcaflefiapoaaSolF
import Derived.Test.YtfmcaflefiapoaaBase
import Derived.Deep.DeepCutAuto
namespace Go.Proofs.Ytfmcaflefiapoaa
set_option maxRecDepth 100000
set_option linter.unusedVariables false
set_option linter.unusedSimpArgs false
open Go.RowKit

theorem Loc.heldA {w : World} {b : Nat} {x y z u : Value} {t : TypeId} (h : Loc w b #[x, y, z, u] t) : (w.cell? ⟨b, 0, none⟩ = some x ∧ w.cell? ⟨b, 1, none⟩ = some y) ∧ w.cell? ⟨b, 2, none⟩ = some z ∧ w.cell? ⟨b, 3, none⟩ = some u := ⟨⟨h.cell 0 rfl, h.cell 1 rfl⟩, h.cell 2 rfl, h.cell 3 rfl⟩
theorem Row.drew {w : World} {a : Option Addr} {n : Nat} {xs : List Int} (h : Row w a n xs) : Row w.drew a n xs := h
theorem tupleOf_3 (n N : Nat) (w : World) (hn1 : 1 ≤ n) (hn : n ≤ 1000000) (hN : N ≤ 1000000000000) :
    Calls Try.prog 74 #[.int .i64 n, .int .i64 3, .int .i64 N] w fun e w' => ∃ a c, e = .returned (.slice a 3 c) ∧ Own w' w.heap.size a 3 c (digL n 3 N) ∧ Below w.heap.size w w' :=
  tupleOf_any n 3 N w hn1 hn (by omega) hN

/-- nil, or a new list with an element -/
def WfR (L : List Int) (W : World) (e : Ending) (w' : World) : Prop := ((L = [] ∧ e = .returned (.slice none 0 0)) ∨ (L ≠ [] ∧ ∃ b c, e = .returned (.slice (some ⟨b, 0, none⟩) 3 c) ∧ Own w' W.heap.size (some ⟨b, 0, none⟩) 3 c L)) ∧ Below W.heap.size W w'
theorem wd3 {x y z : Int} (h1 : x ≠ 0 ∧ -2 ≤ x ∧ x ≤ 2) (h2 : y ≠ 0 ∧ -2 ≤ y ∧ y ≤ 2) (h3 : z ≠ 0 ∧ -2 ≤ z ∧ z ≤ 2) : IsWd 3 [x, y, z] := by
  refine ⟨by simp, fun q hq => ?_⟩
  simp only [List.mem_cons, List.not_mem_nil, or_false] at hq
  rcases hq with rfl | rfl | rfl <;> omega

set_option maxHeartbeats 8000000 in
theorem weightFault_any (a : Option Addr) (n c : Nat) (a' : Option Addr) (c' : Nat) (f g : List (List Int)) (m : Int) (am : Option Addr) (cm : Nat) (M : List (List Int)) (w : World) (h1 : Tbl w a n f) (h2 : Tbl w a' n g) (hs : isSol f g = true) (hmm : 1 ≤ m ∧ m ≤ 12) (hM : SqM n m.toNat M) (h5 : Tbl w am n M) :
    Calls Try.prog 64 #[sAgg a n c a' n c', .int .i64 m, .slice am n cm] w (WfR (wtFlt n f g M m) w) := by
  obtain ⟨hn1, hn12, sf, sg⟩ := isSol_sq hs
  have hcc := isSol_coll hs
  have hfl := h1.len
  rw [← hfl] at hn1 hn12 sf sg hcc
  obtain ⟨hm1, hm2⟩ := hmm
  obtain ⟨N2, hN2⟩ : ∃ N2, N2 = n * n := ⟨_, rfl⟩
  have hb2 : N2 ≤ 144 := by rw [hN2]; exact Nat.mul_le_mul hn12 hn12
  obtain ⟨N3, hN3⟩ : ∃ N3, N3 = n * n * n := ⟨_, rfl⟩
  have hb3 : N3 ≤ 1728 := by rw [hN3]; exact Nat.mul_le_mul (Nat.mul_le_mul hn12 hn12) hn12
  have e2 : (n : Int) * (n : Int) = (N2 : Int) := by rw [hN2]; simp
  have e3 : (N2 : Int) * (n : Int) = (N3 : Int) := by rw [hN3, hN2]; simp
  have HS := Lib.hid hs; have HSF := Lib.hid sf; have HSG := Lib.hid sg; have HC := Lib.hid hcc; have HM := Lib.hid hM; have HN3 := Lib.hid hN3
  have HW1 : Hid (IsWd 3 [1, 2, 1]) := Lib.hid (wd3 (by omega) (by omega) (by omega))
  have HW2 : Hid (IsWd 3 [2, 1, 2]) := Lib.hid (wd3 (by omega) (by omega) (by omega))
  clear hs sf sg hcc hfl hM hN2 hN3
  have hA := Loc.new w rfl #[.slice a n c, .slice a' n c'] 33
  have hB := below_al (Below.refl w.heap.size w) (.cells #[.slice a n c, .slice a' n c'] 33)
  go_enter Try.func64, Try.ntmps64
  go_wp2_with fail
  refine (newAction_any _ _ _ _ _ f g _ (h1.alloc _) (h2.alloc _) HS.out hn12).mono ?_
  rintro e w2 ⟨b, d, vs, b', d', vs', rfl, ho2, hb2'⟩
  have hX := Loc.new w2 rfl #[.slice a n c, .slice a' n c', .slice b n d, .slice b' n d'] 76
  have hBX := below_al (below_th hB hb2') (.cells #[.slice a n c, .slice a' n c', .slice b n d, .slice b' n d'] 76)
  have T1 := h1.below hBX; have T2 := h2.below hBX; have T5 := h5.below hBX
  have T3 := ho2.f.tbl.alloc (.cells #[.slice a n c, .slice a' n c', .slice b n d, .slice b' n d'] 76); have T4 := ho2.s.tbl.alloc (.cells #[.slice a n c, .slice a' n c', .slice b n d, .slice b' n d'] 76)
  clear hA hB h1 h2 h5 ho2 hb2'
  go_wp2
  generalize hwA : w2.alloc (.cells #[.slice a n c, .slice a' n c', .slice b n d, .slice b' n d'] 76) = wA at *
  have hsz : w2.heap.size < wA.heap.size := hX.lt
  clear hwA
  go_loopw [21] (fun i wr => ∃ k : Nat, k ≤ N3 ∧ i = .int .i64 k ∧ Hid (∀ M', M' < k → wtBad n f g M m (digL n 3 M') = false) ∧ Below wA.heap.size wA wr) (fun i _ => N3 - (intOf i).toNat)
  case atStart => exact ⟨0, Nat.zero_le _, rfl, Lib.hid fun M' h => absurd h (by omega), Below.refl _ _⟩
  case round =>
    obtain ⟨N, hk, rfl, hI, hq⟩ := hrel
    by_cases hlt : N < N3
    · go_wp2_with fail
      refine (tupleOf_3 n N _ hn1 (by omega) (by omega)).mono ?_
      rintro e w3 ⟨at3, c3, rfl, ho, hb3'⟩
      have hq3 := below_th hq hb3'
      have HLE : Hid (Less n (digL n 3 N)) := Lib.hid (digL_less n 3 N hn1)
      have hX3 := hX.below hq3 hX.lt
      have HBAD : Hid (wtBad n f g M m (digL n 3 N) = (wtF n f g M m [1, 2, 1] (digL n 3 N) != wtF n f g M m [2, 1, 2] (digL n 3 N))) := Lib.hid (by unfold wtBad; rw [Bool.eq_iff_iff]; simp)
      have hsza1 : Hid (w3.heap.size + 1 = (w3.alloc (.cells #[.int .i64 1, .int .i64 2, .int .i64 1] 2)).heap.size) := Lib.hid (by simp)
      have hsza2 : Hid (w3.heap.size + 1 = (w3.alloc (.cells #[.int .i64 2, .int .i64 1, .int .i64 2] 2)).heap.size) := Lib.hid (by simp)
      have own3 := ho.mono (lo' := w.heap.size) (by have := hq.size; have := hBX.size; omega)
      go_upto_region 7 with fail
      go_cut [39] (fun s39 wx => s39 = .bool (wtF n f g M m [1, 2, 1] (digL n 3 N) != wtF n f g M m [2, 1, 2] (digL n 3 N)) ∧ Below w3.heap.size w3 wx)
      case first =>
        have tok1 : True := trivial
        go_region_held3 (fun w' => (w'.cell? ⟨w2.heap.size, 0, none⟩ = some (.slice a n c) ∧ w'.cell? ⟨w2.heap.size, 1, none⟩ = some (.slice a' n c')) ∧ w'.cell? ⟨w2.heap.size, 2, none⟩ = some (.slice b n d) ∧ w'.cell? ⟨w2.heap.size, 3, none⟩ = some (.slice b' n d'))
          (first | exact (hX.below hq5 hX.lt).heldA | exact ((hX.below hq4 hX.lt).alloc _).heldA | exact (hX.below hq4 hX.lt).heldA | exact ((hX3.alloc _).alloc _).heldA | exact (hX3.alloc _).heldA | exact hX3.heldA)
          (first
            | (go_at_call 60; have _t := tok1; (with_reducible refine (weightOf_any _ _ _ _ _ _ _ _ _ f g m _ _ M 3 _ _ _ [1, 2, 1] _ _ (digL n 3 N) _ (T1.below ((below_al hq3 _).drew)) (T2.below ((below_al hq3 _).drew)) (T3.below ((below_al hq3 _).drew)) (T4.below ((below_al hq3 _).drew)) hn1 HSF.out HSG.out HC.out ⟨hm1, hm2⟩ HM.out (T5.below ((below_al hq3 _).drew)) (Row.lit3 (Loc.new (b := w3.heap.size) w3 rfl #[.int .i64 1, .int .i64 2, .int .i64 1] 2)).drew HW1.out (by omega) (by omega) (ho.row.alloc _).drew HLE.out).mono ?_); rintro e w4 ⟨rfl, hbw4⟩; clear _t tok1; have tok2 : True := trivial; have hq4 := below_th (below_al hq3 _).drew hbw4; have hs4 := below_th (below_al (Below.refl w3.heap.size w3) _).drew hbw4; have hr4 := ((ho.row.alloc (.cells #[.int .i64 1, .int .i64 2, .int .i64 1] 2)).drew).below hbw4)
            | (go_at_call 60; have _t := tok1; (with_reducible refine (weightOf_any _ _ _ _ _ _ _ _ _ f g m _ _ M 3 _ _ _ [1, 2, 1] _ _ (digL n 3 N) _ (T1.below ((below_al (below_al hq3 _) _).drew)) (T2.below ((below_al (below_al hq3 _) _).drew)) (T3.below ((below_al (below_al hq3 _) _).drew)) (T4.below ((below_al (below_al hq3 _) _).drew)) hn1 HSF.out HSG.out HC.out ⟨hm1, hm2⟩ HM.out (T5.below ((below_al (below_al hq3 _) _).drew)) ((Row.lit3 (Loc.new (b := w3.heap.size) w3 rfl #[.int .i64 1, .int .i64 2, .int .i64 1] 2)).alloc (.cells #[.int .i64 2, .int .i64 1, .int .i64 2] 2)).drew HW1.out (by omega) (by omega) ((ho.row.alloc _).alloc _).drew HLE.out).mono ?_); rintro e w4 ⟨rfl, hbw4⟩; clear _t tok1; have tok3 : True := trivial; have hq4 := below_th (below_al (below_al hq3 _) _).drew hbw4; have hs4 := below_th (below_al (below_al (Below.refl w3.heap.size w3) _) _).drew hbw4; have hr4 := (((ho.row.alloc (.cells #[.int .i64 1, .int .i64 2, .int .i64 1] 2)).alloc (.cells #[.int .i64 2, .int .i64 1, .int .i64 2] 2)).drew).below hbw4; have hR2 : Row w4 (some ⟨w3.heap.size + 1, 0, none⟩) 3 [2, 1, 2] := (Row.lit3 (Loc.new (w3.alloc (.cells #[.int .i64 1, .int .i64 2, .int .i64 1] 2)) hsza1.out #[.int .i64 2, .int .i64 1, .int .i64 2] 2)).drew.below hbw4)
            | (go_at_call 60; have _t := tok1; (with_reducible refine (weightOf_any _ _ _ _ _ _ _ _ _ f g m _ _ M 3 _ _ _ [1, 2, 1] _ _ (digL n 3 N) _ (T1.below ((below_al (below_al hq3 _) _).drew)) (T2.below ((below_al (below_al hq3 _) _).drew)) (T3.below ((below_al (below_al hq3 _) _).drew)) (T4.below ((below_al (below_al hq3 _) _).drew)) hn1 HSF.out HSG.out HC.out ⟨hm1, hm2⟩ HM.out (T5.below ((below_al (below_al hq3 _) _).drew)) (Row.lit3 (Loc.new (b := w3.heap.size + 1) (w3.alloc (.cells #[.int .i64 2, .int .i64 1, .int .i64 2] 2)) hsza2.out #[.int .i64 1, .int .i64 2, .int .i64 1] 2)).drew HW1.out (by omega) (by omega) ((ho.row.alloc _).alloc _).drew HLE.out).mono ?_); rintro e w4 ⟨rfl, hbw4⟩; clear _t tok1; have tok4 : True := trivial; have hq4 := below_th (below_al (below_al hq3 _) _).drew hbw4; have hs4 := below_th (below_al (below_al (Below.refl w3.heap.size w3) _) _).drew hbw4; have hr4 := (((ho.row.alloc (.cells #[.int .i64 2, .int .i64 1, .int .i64 2] 2)).alloc (.cells #[.int .i64 1, .int .i64 2, .int .i64 1] 2)).drew).below hbw4; have hR2 : Row w4 (some ⟨w3.heap.size, 0, none⟩) 3 [2, 1, 2] := ((Row.lit3 (Loc.new (b := w3.heap.size) w3 rfl #[.int .i64 2, .int .i64 1, .int .i64 2] 2)).alloc (.cells #[.int .i64 1, .int .i64 2, .int .i64 1] 2)).drew.below hbw4)
            | (go_at_call 60; have _t := tok2; (with_reducible refine (weightOf_any _ _ _ _ _ _ _ _ _ f g m _ _ M 3 _ _ _ [2, 1, 2] _ _ (digL n 3 N) _ (T1.below (below_al hq4 _)) (T2.below (below_al hq4 _)) (T3.below (below_al hq4 _)) (T4.below (below_al hq4 _)) hn1 HSF.out HSG.out HC.out ⟨hm1, hm2⟩ HM.out (T5.below (below_al hq4 _)) (Row.lit3 (Loc.new w4 rfl #[.int .i64 2, .int .i64 1, .int .i64 2] 2)) HW2.out (by omega) (by omega) (hr4.alloc _) HLE.out).mono ?_); rintro e w5 ⟨rfl, hbw5⟩; clear _t tok2; have hq5 := below_alth hq4 hbw5; have hs5 := below_alth hs4 hbw5)
            | (go_at_call 60; have _t := tok3; (with_reducible refine (weightOf_any _ _ _ _ _ _ _ _ _ f g m _ _ M 3 _ _ _ [2, 1, 2] _ _ (digL n 3 N) _ (T1.below hq4) (T2.below hq4) (T3.below hq4) (T4.below hq4) hn1 HSF.out HSG.out HC.out ⟨hm1, hm2⟩ HM.out (T5.below hq4) hR2 HW2.out (by omega) (by omega) hr4 HLE.out).mono ?_); rintro e w5 ⟨rfl, hbw5⟩; clear _t tok3; have hq5 := below_th hq4 hbw5; have hs5 := below_th hs4 hbw5)
            | (go_at_call 60; have _t := tok4; (with_reducible refine (weightOf_any _ _ _ _ _ _ _ _ _ f g m _ _ M 3 _ _ _ [2, 1, 2] _ _ (digL n 3 N) _ (T1.below hq4) (T2.below hq4) (T3.below hq4) (T4.below hq4) hn1 HSF.out HSG.out HC.out ⟨hm1, hm2⟩ HM.out (T5.below hq4) hR2 HW2.out (by omega) (by omega) hr4 HLE.out).mono ?_); rintro e w5 ⟨rfl, hbw5⟩; clear _t tok4; have hq5 := below_th hq4 hbw5; have hs5 := below_th hs4 hbw5))
        all_goals (go_wp2_with fail; go_meet; exact ⟨rfl, hs5⟩)
      case rest =>
        obtain ⟨rfl, hb5⟩ := hcut
        have own5 := own3.below hb5
        have hq5 := below_th hq3 hb5
        have hBf := hBX.trans (hq5.mono hBX.size)
        cases hv : (wtF n f g M m [1, 2, 1] (digL n 3 N) != wtF n f g M m [2, 1, 2] (digL n 3 N)) with
        | true =>
          rw [hv] at HBAD
          have HL : Hid (wtFlt n f g M m = digL n 3 N) := Lib.hid (fltL_hit (by rw [← HN3.out]; exact hlt) hI.out HBAD.out)
          clear hv
          obtain ⟨gt, ot, rfl, _⟩ := own5.row.at 0 (by omega)
          obtain ⟨rfl, _, _⟩ := own5.cells
          go_wp2
          go_ret
          refine ⟨.inr ⟨?_, _, _, rfl, by rw [HL.out]; exact own5⟩, hBf⟩
          rw [HL.out]
          intro h
          have := congrArg List.length h
          rw [digL_len] at this
          simp at this
        | false =>
          rw [hv] at HBAD
          clear hv
          go_wp2
          go_roundw
          case rel =>
            refine ⟨N + 1, by omega, by go_num, Lib.hid fun M' hM' => ?_, hq5⟩
            by_cases e : M' = N
            · subst e; exact HBAD.out
            · exact hI.out M' (by omega)
          case measure => simp [intOf]; omega
    · obtain rfl : N = N3 := by omega
      go_wp2
      go_ret
      exact ⟨.inl ⟨fltL_miss (by rw [← HN3.out]; exact hI.out), rfl⟩, hBX.trans (hq.mono hBX.size)⟩

set_option maxHeartbeats 1000000 in
theorem checkWeight_any (a : Option Addr) (n c : Nat) (a' : Option Addr) (n' c' : Nat) (f g : List (List Int)) (m : Int) (am : Option Addr) (nm cm : Nat) (M : List (List Int)) (w : World) (h1 : Tbl w a n f) (h2 : Tbl w a' n' g) (hm1 : n ≤ 9223372036854775807) (hm2 : n' ≤ 9223372036854775807) (h5 : Tbl w am nm M) (hnm : nm ≤ 9223372036854775807) (r : Int) (hr : (if isSol f g then (if isMx n m M then 0 else 2) else 1) = r) :
    Calls Try.prog 63 #[sAgg a n c a' n' c', .int .i64 m, .slice am nm cm] w fun e w' => e = .returned (.int .i64 r) ∧ Below w.heap.size w w' := by
  have hA := Loc.new w rfl #[.slice a n c, .slice a' n' c'] 33
  cases q1 : isSol f g with
  | false =>
    rw [q1] at hr
    simp only [Bool.false_eq_true, if_false] at hr
    subst hr
    have H1 := Lib.hid q1; clear q1
    go_enter Try.func63, Try.ntmps63
    go_wp2_with fail
    refine (isSolution_any _ _ _ _ _ _ _ _ _ (h1.alloc _) (h2.alloc _) hm1 hm2).mono ?_
    rintro e w1 ⟨rfl, hb1⟩
    rw [H1.out]
    go_wp2
    go_ret
    exact ⟨rfl, below_alth (Below.refl _ _) hb1⟩
  | true =>
    rw [q1] at hr
    simp only [if_true] at hr
    have H1 := Lib.hid q1; clear q1
    cases q2 : isMx n m M
    all_goals
      rw [q2] at hr
      simp only [if_true, Bool.false_eq_true, if_false] at hr
      subst hr
      have H2 := Lib.hid q2; clear q2
      go_enter Try.func63, Try.ntmps63
      go_wp2_with fail
      refine (isSolution_any _ _ _ _ _ _ _ _ _ (h1.alloc _) (h2.alloc _) hm1 hm2).mono ?_
      rintro e w1 ⟨rfl, hb1⟩
      rw [H1.out]
      have lA := (hA.below hb1 (by simp)).two
      go_wp2_with fail
      refine (isMatrix_any n m _ _ _ M _ ((h5.alloc _).below hb1) hnm).mono ?_
      rintro e w2 ⟨rfl, hb2⟩
      rw [H2.out]
      go_wp2
      go_ret
      exact ⟨rfl, below_th (below_alth (Below.refl _ _) hb1) hb2⟩

end Go.Proofs.Ytfmcaflefiapoaa
