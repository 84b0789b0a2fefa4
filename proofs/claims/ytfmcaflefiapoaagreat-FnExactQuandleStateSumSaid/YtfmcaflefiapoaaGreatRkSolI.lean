/-
  The solution of a rack, its kink, and whether a matrix is a quandle weight: what the program's functions compute.
  No condition but bounds on lengths.
-/
import Derived.Test.YtfmcaflefiapoaaGreatRkSolL
import Derived.Test.YtfmcaflefiapoaaGreatSolBy
import Derived.Test.YtfmcaflefiapoaaGreatRackI
import Derived.Test.YtfmcaflefiapoaaGreatUR
import Derived.Test.YtfmcaflefiapoaaGreatWtFI
namespace Go.Proofs.YtfmcaflefiapoaaGreat
set_option maxRecDepth 100000
set_option linter.unusedVariables false
set_option linter.unusedSimpArgs false
open Go.RowKit

set_option maxHeartbeats 400000 in
theorem rackSolution1_any (b : Nat) (t : TypeId) (bf of : Nat) (A O C : Nat → Nat) (n c : Nat) (f : List (List Int)) (x y : Nat) (w : World) (hL : Loc w b #[.slice (some ⟨bf, of, none⟩) n c] t) (gf : Grid w bf of A O C n f) (hx : x < n) (hy : y < n) :
    Calls Tryz.prog 59 #[.int .i64 x, .int .i64 y, .pointer (some ⟨b, 0, none⟩)] w fun e w' => e = .returned (.tuple #[.int .i64 ((tv f x y : Nat) : Int), .int .i64 x]) ∧ Below w.heap.size w w' := by
  have lL := hL.one
  obtain ⟨r1, k1⟩ := gf.look hx hy
  have i1 : (0 : Int) ≤ (x : Int) := by omega
  have i2 : (x : Int) < (n : Int) := by omega
  have i3 : (0 : Int) ≤ (y : Int) := by omega
  have i4 : (y : Int) < (n : Int) := by omega
  generalize tv f x y = V at *
  go_enter Tryz.func59, Tryz.ntmps59
  go_wp2
  go_ret2
  exact ⟨rfl, Below.refl _ _⟩
theorem ent_rks1 : Ent 59 := fun _ _ => rfl

set_option maxHeartbeats 1000000 in
theorem rackSolution_any (a : Option Addr) (n c : Nat) (f : List (List Int)) (w : World) (h : Tbl w a n f) (hf : Sq n f) (hn1 : 1 ≤ n) (hn : n ≤ 12) :
    Calls Tryz.prog 33 #[rAgg a n c] w fun e w' => ∃ a1 c1 vs a1' c1' vs', e = .returned (sAgg a1 n c1 a1' n c1') ∧ OwnS w' w.heap.size a1 n c1 vs f a1' n c1' vs' (cstL n) ∧ Below w.heap.size w w' := by
  have hA := (Loc.new w rfl #[.slice a n c] 33).alloc (.cells #[.slice none 0 0, .slice none 0 0] 52)
  have hR := Loc.new (w.alloc (.cells #[.slice a n c] 33)) rfl #[.slice none 0 0, .slice none 0 0] 52
  rw [size_alloc] at hR
  have hB := below_al (below_al (Below.refl w.heap.size w) (.cells #[.slice a n c] 33)) (.cells #[.slice none 0 0, .slice none 0 0] 52)
  have HE := Lib.hid hf.eq_tabF
  obtain ⟨bf, of, A, O, C, rfl, gf⟩ := h.grid hf (by omega)
  clear h hf
  go_enter Tryz.func33, Tryz.ntmps33
  have lA := hA.one
  go_wp2_with fail
  generalize (w.alloc (.cells #[.slice (some ⟨bf, of, none⟩) n c] 33)).alloc (.cells #[.slice none 0 0, .slice none 0 0] 52) = w0 at *
  have hp : PairAt 59 #[.pointer (some ⟨w.heap.size, 0, none⟩)] (fun x y => ((tv f x y : Nat) : Int)) (fun x _ => (x : Int)) n w0 := fun x y hx hy w1 hb1 =>
    rackSolution1_any _ _ bf of A O C n c f x y w1 (hA.below hb1 hA.lt) ((gf.below hB).below hb1) hx hy
  refine (solutionBy_any _ _ _ _ n _ (by omega) ent_rks1 hp).mono ?_
  rintro e w1 ⟨a1, c1, vs, a1', c1', vs', rfl, ho, hb1⟩
  rw [HE.out] at ho
  have hB1 := below_th hB hb1
  have hR1 := hR.below hb1 hR.lt
  have hz : w.heap.size + 1 < w0.heap.size := hR.lt
  have lR := hR1.two
  clear lA
  go_wp2
  refine bodyPost_ret (v := sAgg a1 n c1 a1' n c1') (by simp [results, Tryz.results33, go_sem, lR]) rfl ⟨a1, c1, vs, a1', c1', vs', rfl, ⟨?_, ?_, ho.ap⟩, ?_⟩
  · exact ((ho.f.setlo (by show w.heap.size + 1 < w0.heap.size; omega) _).setlo (by show w.heap.size + 1 < w0.heap.size; omega) _).mono (by have := hB.size; omega)
  · exact ((ho.s.setlo (by show w.heap.size + 1 < w0.heap.size; omega) _).setlo (by show w.heap.size + 1 < w0.heap.size; omega) _).mono (by have := hB.size; omega)
  · exact below_setne (below_setne hB1 (by show w.heap.size ≤ w.heap.size + 1; omega) _) (by show w.heap.size ≤ w.heap.size + 1; omega) _

set_option maxHeartbeats 1000000 in
theorem increasing_any (a : Option Addr) (n c : Nat) (xs : List Int) (w : World) (h : Row w a n xs) (hm : n ≤ 1000000) :
    Calls Tryz.prog 76 #[.slice a n c] w fun e w' => e = .returned (.bool (incOk xs)) ∧ ∃ k, w' = w.drewN k := by
  have HL := Lib.hid h.len
  go_enter Tryz.func76, Tryz.ntmps76
  go_wp2
  go_loopw [3] (fun i wr => ∃ k : Nat, i = .int .i64 ((k + 1 : Nat) : Int) ∧ Hid (∀ j, j < k → j + 1 < n → xs.getD j 0 < xs.getD (j + 1) 0) ∧ ∃ m, wr = w.drewN m) (fun i _ => n - (intOf i).toNat)
  case atStart => exact ⟨0, rfl, Lib.hid fun j hj => absurd hj (by omega), 0, rfl⟩
  case round =>
    obtain ⟨k, rfl, hI, m, rfl⟩ := hrel
    by_cases hlt : k + 1 < n
    · obtain ⟨b1, o1, rfl, g1⟩ := h.at k (by omega)
      obtain ⟨b2, o2, e2, g2⟩ := h.at (k + 1) hlt
      cases e2
      have i1 : IntKind.i64.wrap (((k + 1 : Nat) : Int) - 1) = (k : Int) := (IntWalk.i64_in _ (by omega)).trans (by omega)
      have i2 : (0 : Int) ≤ (k : Int) := by omega
      have i3 : (k : Int) < (n : Int) := by omega
      have i4 : (0 : Int) ≤ ((k + 1 : Nat) : Int) := by omega
      have i5 : ((k + 1 : Nat) : Int) < (n : Int) := by omega
      have i6 : (((k + 1 : Nat) : Int)).toNat = k + 1 := by omega
      clear h
      generalize hX : xs.getD k 0 = X at *
      generalize hY : xs.getD (k + 1) 0 = Y at *
      have HX := Lib.hid hX; have HY := Lib.hid hY
      clear hX hY
      have HI2 : Hid (((k + 1 : Nat) : Int) = ((k + 1 : Nat) : Int)) := Lib.hid rfl
      generalize hK : ((k + 1 : Nat) : Int) = K at *
      have HK := Lib.hid hK
      clear hK
      go_wp2
      go_quiet (fail)
      by_cases hge : X ≥ Y
      · go_wp2
        go_ret
        refine ⟨ret_bool ?_, m + nq, by rw [World.drewN_drewN]⟩
        rw [eq_comm]
        exact allN_no (k := k) (by have := HL.out; omega) (by rw [HX.out, HY.out]; simpa using hge)
      · go_wp2
        go_roundw
        case rel =>
          refine ⟨k + 1, by rw [← HK.out]; go_num, Lib.hid fun j hj hj2 => ?_, m + nq, rfl⟩
          by_cases e : j = k
          · subst e; rw [HX.out, HY.out]; omega
          · exact hI.out j (by omega) hj2
        case measure => rw [← HK.out] at *; simp [intOf]; omega
    · go_wp2
      go_ret
      refine ⟨ret_bool ?_, _, rfl⟩
      rw [eq_comm]
      exact allN_mk fun j hj => decide_eq_true (hI.out j (by have := HL.out; omega) (by have := HL.out; omega))

theorem isIdentity_any (a : Option Addr) (n c : Nat) (xs : List Int) (w : World) (h : Row w a n xs) (hm : n ≤ 1000000) :
    Calls Tryz.prog 53 #[.slice a n c] w fun e w' => e = .returned (.bool (incOk xs)) ∧ Below w.heap.size w w' := by
  go_enter Tryz.func53, Tryz.ntmps53
  go_wp2_with fail
  refine (increasing_any _ _ _ xs _ h hm).mono ?_
  rintro e w1 ⟨rfl, k, rfl⟩
  go_wp2
  go_ret
  exact ⟨rfl, below_drewN (Below.refl _ _) k⟩

theorem knk_step (n : Nat) (t : List (List Int)) (j : Nat) (h : j < n) : ((knkL n t).take j ++ List.replicate (n - j) 0).set j ((tv t j j : Nat) : Int) = (knkL n t).take (j + 1) ++ List.replicate (n - (j + 1)) 0 := rowP_step n (fun x => ((tv t x x : Nat) : Int)) j h
set_option maxHeartbeats 1000000 in
theorem kinkOf_any (a : Option Addr) (n c : Nat) (f : List (List Int)) (w : World) (h : Tbl w a n f) (hf : Sq n f) (hn1 : 1 ≤ n) (hn : n ≤ 12) :
    Calls Tryz.prog 54 #[rAgg a n c] w fun e w' => ∃ a' c', e = .returned (.slice a' n c') ∧ Own w' w.heap.size a' n c' (knkL n f) ∧ Below w.heap.size w w' := by
  have hA := Loc.new w rfl #[.slice a n c] 33
  have hB := below_al (Below.refl w.heap.size w) (.cells #[.slice a n c] 33)
  have hz := hA.lt
  obtain ⟨bf, of, A, O, C, rfl, gf⟩ := h.grid hf (by omega)
  clear h
  have HF := Lib.hid hf; clear hf
  have lA := hA.one
  go_enter Tryz.func54, Tryz.ntmps54
  generalize hw0 : w.alloc (.cells #[.slice (some ⟨bf, of, none⟩) n c] 33) = w0 at *
  go_wp2_with (at_make; refine make1 rfl rfl rfl rfl (by omega) ?_; intro w1 ho hs hb)
  have hA1 := hA.below hb hA.lt
  have hB1 := below_th hB hb
  go_loopw [11] (fun i wr => ∃ k : Nat, k ≤ n ∧ i = .int .i64 k ∧ Own wr w0.heap.size (some ⟨w0.heap.size, 0, none⟩) n n ((knkL n f).take k ++ List.replicate (n - k) 0) ∧ Loc wr w.heap.size #[.slice (some ⟨bf, of, none⟩) n c] 33 ∧ Below w.heap.size w wr) (fun i _ => n - (intOf i).toNat)
  case atStart => exact ⟨0, Nat.zero_le _, rfl, by simpa using ho, hA1, hB1⟩
  case round =>
    clear ho hb hA1 hB1 lA hA hs
    obtain ⟨k, hk, rfl, ho, hA, hB2⟩ := hrel
    by_cases hlt : k < n
    · obtain ⟨r1, k1⟩ := (gf.below hB2).look hlt hlt
      have lA := hA.one
      obtain ⟨_, hc, hfz⟩ := ho.cells
      have hc1 := hc k hlt
      have hf1 := hfz k
      have hset := Lib.hid (ho.set k ((tv f k k : Nat) : Int))
      have HST := Lib.hid (knk_step n f k hlt)
      clear hc hfz
      generalize tv f k k = V at *
      go_wp2
      go_roundw
      case rel => exact ⟨k + 1, by omega, by go_num, by rw [← HST.out]; exact hset.out, hA.setne (a := ⟨w0.heap.size, k, none⟩) (by show w.heap.size ≠ w0.heap.size; omega) _, below_setne hB2 (by show w.heap.size ≤ w0.heap.size; omega) _⟩
      case measure => simp [intOf]; omega
    · obtain rfl : k = n := by omega
      go_wp2
      go_ret
      refine ⟨_, _, rfl, ?_, hB2⟩
      rw [List.take_of_length_le (by rw [knk_len]; exact Nat.le_refl _), Nat.sub_self, List.replicate_zero, List.append_nil] at ho
      exact ho.mono (by omega)

set_option maxHeartbeats 4000000 in
theorem isQuandleWeight_any (a : Option Addr) (n c : Nat) (t : List (List Int)) (m : Int) (am : Option Addr) (cm : Nat) (M : List (List Int)) (w : World) (h : Tbl w a n t) (hrk : isRk t = true) (hmm : 1 ≤ m ∧ m ≤ 12) (hM : SqM n m.toNat M) (h5 : Tbl w am n M) :
    Calls Tryz.prog 31 #[rAgg a n c, .int .i64 m, .slice am n cm] w fun e w' => e = .returned (.bool (qwOk t m M)) ∧ Below w.heap.size w w' := by
  obtain ⟨hn1, hn12, hf⟩ := isTab_sq (isRk_parts hrk).1
  have hsol := rk_isSol hrk
  have htl := h.len
  have hinc := inc_knk hf
  have hqw : qwOk t m M = (diaOk n M && (qndOk n t && decide (wtFlt n t (cstL n) M m = []))) := by unfold qwOk; rw [← htl]
  rw [← htl] at hn1 hn12 hf hsol hinc
  have HF := Lib.hid hf; have HSOL := Lib.hid hsol; have HINC := Lib.hid hinc; have HQ := Lib.hid hqw; have HM := Lib.hid hM
  clear hf hsol hinc hqw htl hrk hM
  obtain ⟨bM, oM, AM, OM, CM, rfl, gM⟩ := h5.gridM HM.out (by omega)
  have hA := Loc.new w rfl #[.slice a n c] 33
  have hB := below_al (Below.refl w.heap.size w) (.cells #[.slice a n c] 33)
  go_enter Tryz.func31, Tryz.ntmps31
  go_wp2
  generalize w.alloc (.cells #[.slice a n c] 33) = w0 at *
  go_loop [11] (fun i => ∃ k : Nat, k ≤ n ∧ i = .int .i64 k ∧ Hid (∀ j, j < k → tv M j j = 0)) (fun i => n - (intOf i).toNat)
  case atStart => exact ⟨0, Nat.zero_le _, rfl, Lib.hid fun j hj => absurd hj (by omega)⟩
  case round =>
    obtain ⟨k, hk, rfl, hI⟩ := hrel
    by_cases hlt : k < n
    · obtain ⟨r1, k1⟩ := (gM.below hB).look hlt hlt
      have HD : Hid (∀ V, tv M k k = V → (V ≠ 0 → diaOk n M = false)) := Lib.hid fun V hV h0 => allN_no hlt (decide_eq_false (by rw [hV]; exact h0))
      generalize hV : tv M k k = V at *
      have HV := Lib.hid hV
      clear hV
      by_cases h0 : V = 0
      · subst h0
        have hb : ((((0 : Nat) : Int)) != 0) = false := by simp
        go_wp2
        go_round
        case rel =>
          refine ⟨k + 1, by omega, by go_num, Lib.hid fun j hj => ?_⟩
          by_cases e : j = k
          · subst e; exact HV.out
          · exact hI.out j (by omega)
        case measure => simp [intOf]; omega
      · have hb : (((V : Nat) : Int) != 0) = true := by simp; omega
        have HDF := Lib.hid (HD.out V rfl h0)
        go_wp2
        go_ret
        exact ⟨ret_bool (by rw [HQ.out, HDF.out]; rfl), hB⟩
    · obtain rfl : k = n := by omega
      have HDT : Hid (diaOk k M = true) := Lib.hid (allN_mk fun x hx => decide_eq_true (hI.out x hx))
      have lA := hA.one
      have nn := fun (w : World) (a : Option Addr) (n c : Nat) => Lib.run_eql_slice_nil (P := Tryz.prog) w 25 2 a n c 0 0 und_ints
      clear hI
      go_wp2_with fail
      refine (kinkOf_any _ _ _ t _ (h.below hB) HF.out hn1 hn12).mono ?_
      rintro e w1 ⟨a1, c1, rfl, ho1, hb1⟩
      have hB1 := below_th hB hb1
      have hA1 := hA.below hb1 hA.lt
      have lA1 := hA1.one
      go_wp2_with fail
      refine (isIdentity_any _ _ _ _ _ ho1.row (by omega)).mono ?_
      rintro e w2 ⟨rfl, hb2⟩
      rw [HINC.out]
      have hB2 := below_th hB1 hb2
      have hA2 := hA1.below hb2 hA1.lt
      have lA2 := hA2.one
      cases hq : qndOk k t with
      | false =>
        have HQN := Lib.hid hq
        clear hq
        go_wp2
        go_ret
        exact ⟨ret_bool (by rw [HQ.out, HDT.out, HQN.out]; rfl), hB2⟩
      | true =>
        have HQN := Lib.hid hq
        clear hq
        go_wp2_with fail
        refine (rackSolution_any _ _ _ t _ (h.below hB2) HF.out hn1 hn12).mono ?_
        rintro e w3 ⟨a3, c3, vs3, a3', c3', vs3', rfl, ho3, hb3⟩
        have hB3 := below_th hB2 hb3
        go_wp2_with fail
        refine (weightFault_any _ _ _ _ _ t (cstL k) m _ _ M _ ho3.f.tbl ho3.s.tbl HSOL.out hmm HM.out (h5.below hB3)).mono ?_
        rintro e w4 ⟨he, hb4⟩
        have hB4 := below_th hB3 hb4
        rcases he with ⟨hL, rfl⟩ | ⟨hL, b, k4, rfl, _⟩
        · have HL := Lib.hid (decide_eq_true hL)
          clear hL
          go_wp2
          go_ret
          exact ⟨ret_bool (by rw [HQ.out, HDT.out, HQN.out, HL.out]; rfl), hB4⟩
        · have HL := Lib.hid (decide_eq_false hL)
          clear hL
          go_wp2
          go_ret
          exact ⟨ret_bool (by rw [HQ.out, HDT.out, HQN.out, HL.out]; rfl), hB4⟩

end Go.Proofs.YtfmcaflefiapoaaGreat
