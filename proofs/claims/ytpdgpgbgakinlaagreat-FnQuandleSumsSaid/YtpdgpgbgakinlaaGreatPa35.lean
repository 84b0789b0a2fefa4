/-
  Walks and plain laws of this seat, some texts in one.
  No condition but bounds on lengths.
-/
import Derived.Test.YtpdgpgbgakinlaaGreatPa5
import Derived.Test.YtpdgpgbgakinlaaGreatPa9
import Derived.Test.YtpdgpgbgakinlaaGreatPa8
import Derived.Test.YtpdgpgbgakinlaaGreatPa34
import Derived.Test.YtpdgpgbgakinlaaGreatPa3
import Derived.Test.YtpdgpgbgakinlaaGreatPa6
import Derived.Test.YtpdgpgbgakinlaaGreatPa26
import Derived.Test.YtpdgpgbgakinlaaGreatPa2
import Derived.Test.YtpdgpgbgakinlaaGreatPa21
namespace Go.Proofs.YtpdgpgbgakinlaaGreat
set_option maxRecDepth 100000
set_option linter.unusedVariables false
set_option linter.unusedSimpArgs false
open Go.RowKit
def PairAt (f : FuncId) (caps : Array Value) (v1 v2 : Nat → Nat → Int) (n : Nat) (w : World) : Prop :=
  ∀ x y, x < n → y < n → ∀ w1, Below w.heap.size w w1 → Calls Tryz.prog f (#[.int .i64 x, .int .i64 y] ++ caps) w1 fun e w' => e = .returned (.tuple #[.int .i64 (v1 x y), .int .i64 (v2 x y)]) ∧ Below w1.heap.size w1 w'
theorem PairAt.below {f : FuncId} {caps : Array Value} {v1 v2 : Nat → Nat → Int} {n : Nat} {w w' : World} (h : PairAt f caps v1 v2 n w) (hb : Below w.heap.size w w') : PairAt f caps v1 v2 n w' :=
  fun x y hx hy w1 h1 => h x y hx hy w1 (below_th hb h1)
set_option maxHeartbeats 400000 in
theorem solutionBy1_any (f : FuncId) (caps : Array Value) (v1 v2 : Nat → Nat → Int) (n b : Nat) (t : TypeId) (x y : Nat) (w : World) (hL : Loc w b #[.func (.func f) #[] caps] t) (hcf : Ent f) (hf : PairAt f caps v1 v2 n w) (hx : x < n) (hy : y < n) :
    Calls Tryz.prog 150 #[.int .i64 x, .int .i64 y, .pointer (some ⟨b, 0, none⟩)] w fun e w' => e = .returned (.int .i64 (v1 x y)) ∧ Below w.heap.size w w' := by
  have hcf' : ∀ (args : Array Value) (w : World), (callFunc f args).run Tryz.prog w = .ok (.enter f args) w := hcf
  have HF := Lib.hid (hf x y hx hy w (Below.refl _ _))
  have lL := hL.one
  clear hf
  go_enter Tryz.func150, Tryz.ntmps150
  go_wp2_with fail
  refine HF.out.mono ?_
  rintro e w1 ⟨rfl, hb⟩
  go_wp2
  go_ret
  exact ⟨rfl, hb⟩
set_option maxHeartbeats 400000 in
theorem solutionBy2_any (f : FuncId) (caps : Array Value) (v1 v2 : Nat → Nat → Int) (n b : Nat) (t : TypeId) (x y : Nat) (w : World) (hL : Loc w b #[.func (.func f) #[] caps] t) (hcf : Ent f) (hf : PairAt f caps v1 v2 n w) (hx : x < n) (hy : y < n) :
    Calls Tryz.prog 151 #[.int .i64 x, .int .i64 y, .pointer (some ⟨b, 0, none⟩)] w fun e w' => e = .returned (.int .i64 (v2 x y)) ∧ Below w.heap.size w w' := by
  have hcf' : ∀ (args : Array Value) (w : World), (callFunc f args).run Tryz.prog w = .ok (.enter f args) w := hcf
  have HF := Lib.hid (hf x y hx hy w (Below.refl _ _))
  have lL := hL.one
  clear hf
  go_enter Tryz.func151, Tryz.ntmps151
  go_wp2_with fail
  refine HF.out.mono ?_
  rintro e w1 ⟨rfl, hb⟩
  go_wp2
  go_ret
  exact ⟨rfl, hb⟩
theorem ent_sb1 : Ent 150 := fun _ _ => rfl
theorem ent_sb2 : Ent 151 := fun _ _ => rfl
set_option maxHeartbeats 2000000 in
theorem solutionBy_any (f : FuncId) (caps : Array Value) (v1 v2 : Nat → Nat → Int) (n : Nat) (w : World) (hn : n ≤ 1000000) (hcf : Ent f) (hf : PairAt f caps v1 v2 n w) :
    Calls Tryz.prog 108 #[.int .i64 n, .func (.func f) #[] caps] w fun e w' => ∃ a c vs a' c' vs', e = .returned (sAgg a n c a' n c') ∧ OwnS w' w.heap.size a n c vs (tabF n v1) a' n c' vs' (tabF n v2) ∧ Below w.heap.size w w' := by
  have hA := (Loc.new w rfl #[.func (.func f) #[] caps] 126).alloc (.cells #[.slice none 0 0, .slice none 0 0] 26)
  have hR := Loc.new (w.alloc (.cells #[.func (.func f) #[] caps] 126)) rfl #[.slice none 0 0, .slice none 0 0] 26
  rw [size_alloc] at hR
  have hB := below_al (below_al (Below.refl w.heap.size w) (.cells #[.func (.func f) #[] caps] 126)) (.cells #[.slice none 0 0, .slice none 0 0] 26)
  have HF := Lib.hid hf; clear hf
  go_enter Tryz.func108, Tryz.ntmps108
  go_wp2_with fail
  generalize (w.alloc (.cells #[.func (.func f) #[] caps] 126)).alloc (.cells #[.slice none 0 0, .slice none 0 0] 26) = w0 at *
  have hc1 : Hid (∀ x y, x < n → y < n → ∀ w1, Below w0.heap.size w0 w1 → Calls Tryz.prog 150 (#[.int .i64 x, .int .i64 y] ++ #[.pointer (some ⟨w.heap.size, 0, none⟩)]) w1 fun e w' => e = .returned (.int .i64 (v1 x y)) ∧ Below w1.heap.size w1 w') := Lib.hid fun x y hx hy w1 hb1 =>
    solutionBy1_any f caps v1 v2 n _ _ x y w1 (hA.below hb1 hA.lt) hcf (HF.out.below (below_th hB hb1)) hx hy
  refine (tableBy_any _ _ v1 n _ hn ent_sb1 hc1.out).mono ?_
  rintro e w1 ⟨a, c, vs, rfl, ho1, hb1⟩
  have hB1 := below_th hB hb1
  have hA1 := hA.below hb1 hA.lt
  have hR1 := hR.below hb1 hR.lt
  have hc2 : Hid (∀ x y, x < n → y < n → ∀ w2, Below w1.heap.size w1 w2 → Calls Tryz.prog 151 (#[.int .i64 x, .int .i64 y] ++ #[.pointer (some ⟨w.heap.size, 0, none⟩)]) w2 fun e w' => e = .returned (.int .i64 (v2 x y)) ∧ Below w2.heap.size w2 w') := Lib.hid fun x y hx hy w2 hb2 =>
    solutionBy2_any f caps v1 v2 n _ _ x y w2 (hA1.below hb2 hA1.lt) hcf (HF.out.below (below_th hB1 hb2)) hx hy
  go_wp2_with fail
  refine (tableBy_any _ _ v2 n _ hn ent_sb2 hc2.out).mono ?_
  rintro e w2 ⟨a', c', vs', rfl, ho2, hb2⟩
  have hB2 := below_th hB1 hb2
  have hR2 := hR1.below hb2 hR1.lt
  have hz : w.heap.size + 1 < w0.heap.size := hR.lt
  have hz1 := hb1.size
  have ho1' := ho1.below hb2
  have lR := hR2.two
  have hap : ∀ g, TblS a n vs g → ¬ TblS a' n vs' g := fun g h1 h2 => by have e1 := ho1.uHi g h1; have e2 := ho2.uLo g h2; omega
  go_wp2
  refine bodyPost_ret (v := sAgg a n c a' n c') (by simp [results, Tryz.results108, go_sem, lR]) rfl ⟨a, c, vs, a', c', vs', rfl, ⟨?_, ?_, hap⟩, ?_⟩
  · exact ((ho1'.setlo (by show w.heap.size + 1 < w0.heap.size; omega) _).setlo (by show w.heap.size + 1 < w0.heap.size; omega) _).mono (by have := hB.size; omega)
  · exact ((ho2.setlo (by show w.heap.size + 1 < w1.heap.size; omega) _).setlo (by show w.heap.size + 1 < w1.heap.size; omega) _).mono (by have := hB1.size; omega)
  · exact below_setne (below_setne hB2 (by show w.heap.size ≤ w.heap.size + 1; omega) _) (by show w.heap.size ≤ w.heap.size + 1; omega) _
end Go.Proofs.YtpdgpgbgakinlaaGreat

namespace Go.Proofs.YtpdgpgbgakinlaaGreat
set_option maxRecDepth 100000
set_option linter.unusedVariables false
set_option linter.unusedSimpArgs false
open Go.RowKit
set_option maxHeartbeats 400000 in
theorem rackSolution1_any (b : Nat) (t : TypeId) (bf of : Nat) (A O C : Nat → Nat) (n c : Nat) (f : List (List Int)) (x y : Nat) (w : World) (hL : Loc w b #[.slice (some ⟨bf, of, none⟩) n c] t) (gf : Grid w bf of A O C n f) (hx : x < n) (hy : y < n) :
    Calls Tryz.prog 109 #[.int .i64 x, .int .i64 y, .pointer (some ⟨b, 0, none⟩)] w fun e w' => e = .returned (.tuple #[.int .i64 ((tv f x y : Nat) : Int), .int .i64 x]) ∧ Below w.heap.size w w' := by
  have lL := hL.one
  obtain ⟨r1, k1⟩ := gf.look hx hy
  have i1 : (0 : Int) ≤ (x : Int) := by omega
  have i2 : (x : Int) < (n : Int) := by omega
  have i3 : (0 : Int) ≤ (y : Int) := by omega
  have i4 : (y : Int) < (n : Int) := by omega
  generalize tv f x y = V at *
  go_enter Tryz.func109, Tryz.ntmps109
  go_wp2
  go_ret2
  exact ⟨rfl, Below.refl _ _⟩
theorem ent_rks1 : Ent 109 := fun _ _ => rfl
set_option maxHeartbeats 1000000 in
theorem rackSolution_any (a : Option Addr) (n c : Nat) (f : List (List Int)) (w : World) (h : Tbl w a n f) (hf : Sq n f) (hn1 : 1 ≤ n) (hn : n ≤ 12) :
    Calls Tryz.prog 62 #[rAgg a n c] w fun e w' => ∃ a1 c1 vs a1' c1' vs', e = .returned (sAgg a1 n c1 a1' n c1') ∧ OwnS w' w.heap.size a1 n c1 vs f a1' n c1' vs' (cstL n) ∧ Below w.heap.size w w' := by
  have hA := (Loc.new w rfl #[.slice a n c] 45).alloc (.cells #[.slice none 0 0, .slice none 0 0] 26)
  have hR := Loc.new (w.alloc (.cells #[.slice a n c] 45)) rfl #[.slice none 0 0, .slice none 0 0] 26
  rw [size_alloc] at hR
  have hB := below_al (below_al (Below.refl w.heap.size w) (.cells #[.slice a n c] 45)) (.cells #[.slice none 0 0, .slice none 0 0] 26)
  have HE := Lib.hid hf.eq_tabF
  obtain ⟨bf, of, A, O, C, rfl, gf⟩ := h.grid hf (by omega)
  clear h hf
  go_enter Tryz.func62, Tryz.ntmps62
  have lA := hA.one
  go_wp2_with fail
  generalize (w.alloc (.cells #[.slice (some ⟨bf, of, none⟩) n c] 45)).alloc (.cells #[.slice none 0 0, .slice none 0 0] 26) = w0 at *
  have hp : PairAt 109 #[.pointer (some ⟨w.heap.size, 0, none⟩)] (fun x y => ((tv f x y : Nat) : Int)) (fun x _ => (x : Int)) n w0 := fun x y hx hy w1 hb1 =>
    rackSolution1_any _ _ bf of A O C n c f x y w1 (hA.below hb1 hA.lt) ((gf.below hB).below hb1) hx hy
  refine (solutionBy_any _ _ _ _ n _ (by omega) ent_rks1 hp).mono ?_
  rintro e w1 ⟨a1, c1, vs, a1', c1', vs', rfl, ho, hb1⟩
  rw [HE.out] at ho
  have hB1 := below_th hB hb1
  have hR1 := hR.below hb1 hR.lt
  have hz : w.heap.size + 1 < w0.heap.size := hR.lt
  have lR := hR1.two
  clear lA
  go_wp2
  refine bodyPost_ret (v := sAgg a1 n c1 a1' n c1') (by simp [results, Tryz.results62, go_sem, lR]) rfl ⟨a1, c1, vs, a1', c1', vs', rfl, ⟨?_, ?_, ho.ap⟩, ?_⟩
  · exact ((ho.f.setlo (by show w.heap.size + 1 < w0.heap.size; omega) _).setlo (by show w.heap.size + 1 < w0.heap.size; omega) _).mono (by have := hB.size; omega)
  · exact ((ho.s.setlo (by show w.heap.size + 1 < w0.heap.size; omega) _).setlo (by show w.heap.size + 1 < w0.heap.size; omega) _).mono (by have := hB.size; omega)
  · exact below_setne (below_setne hB1 (by show w.heap.size ≤ w.heap.size + 1; omega) _) (by show w.heap.size ≤ w.heap.size + 1; omega) _
set_option maxHeartbeats 4000000 in
theorem isQuandleWeight_any (a : Option Addr) (n c : Nat) (t : List (List Int)) (m : Int) (am : Option Addr) (cm : Nat) (M : List (List Int)) (w : World) (h : Tbl w a n t) (hrk : isRk t = true) (hmm : 1 ≤ m ∧ m ≤ 12) (hM : SqM n m.toNat M) (h5 : Tbl w am n M) :
    Calls Tryz.prog 60 #[rAgg a n c, .int .i64 m, .slice am n cm] w fun e w' => e = .returned (.bool (qwOk t m M)) ∧ Below w.heap.size w w' := by
  obtain ⟨hn1, hn12, hf⟩ := isTab_sq (isRk_parts hrk).1
  have hsol := rk_isSol hrk
  have htl := h.len
  have hinc := inc_knk hf
  have hqw : qwOk t m M = (diaOk n M && (qndOk n t && decide (wtFlt n t (cstL n) M m = []))) := by unfold qwOk; rw [← htl]
  rw [← htl] at hn1 hn12 hf hsol hinc
  have HF := Lib.hid hf; have HSOL := Lib.hid hsol; have HINC := Lib.hid hinc; have HQ := Lib.hid hqw; have HM := Lib.hid hM
  clear hf hsol hinc hqw htl hrk hM
  obtain ⟨bM, oM, AM, OM, CM, rfl, gM⟩ := h5.gridM HM.out (by omega)
  have hA := Loc.new w rfl #[.slice a n c] 45
  have hB := below_al (Below.refl w.heap.size w) (.cells #[.slice a n c] 45)
  go_enter Tryz.func60, Tryz.ntmps60
  go_wp2
  generalize w.alloc (.cells #[.slice a n c] 45) = w0 at *
  go_loop [11] (fun i => ∃ k : Nat, k ≤ n ∧ i = .int .i64 k ∧ Hid (∀ j, j < k → tv M j j = 0)) (fun i => n - (intOf i).toNat)
  case atStart => exact ⟨0, Nat.zero_le _, rfl, Lib.hid fun j hj => absurd hj (by omega)⟩
  case round =>
    obtain ⟨k, hk, rfl, hI⟩ := hrel
    by_cases hlt : k < n
    · obtain ⟨r1, k1⟩ := (gM.below hB).look hlt hlt
      have HD : Hid (∀ V, tv M k k = V → (V ≠ 0 → diaOk n M = false)) := Lib.hid fun V hV h0 => allN_no hlt (decide_eq_false (by rw [hV]; exact h0))
      generalize hV : tv M k k = V at *
      have HV := Lib.hid hV
      clear hV
      by_cases h0 : V = 0
      · subst h0
        have hb : ((((0 : Nat) : Int)) != 0) = false := by simp
        go_wp2
        go_round
        case rel =>
          refine ⟨k + 1, by omega, by go_num, Lib.hid fun j hj => ?_⟩
          by_cases e : j = k
          · subst e; exact HV.out
          · exact hI.out j (by omega)
        case measure => simp [intOf]; omega
      · have hb : (((V : Nat) : Int) != 0) = true := by simp; omega
        have HDF := Lib.hid (HD.out V rfl h0)
        go_wp2
        go_ret
        exact ⟨ret_bool (by rw [HQ.out, HDF.out]; rfl), hB⟩
    · obtain rfl : k = n := by omega
      have HDT : Hid (diaOk k M = true) := Lib.hid (allN_mk fun x hx => decide_eq_true (hI.out x hx))
      have lA := hA.one
      have nn := fun (w : World) (a : Option Addr) (n c : Nat) => Lib.run_eql_slice_nil (P := Tryz.prog) w 27 2 a n c 0 0 und_ints
      clear hI
      go_wp2_with fail
      refine (kinkOf_any _ _ _ t _ (h.below hB) HF.out hn1 hn12).mono ?_
      rintro e w1 ⟨a1, c1, rfl, ho1, hb1⟩
      have hB1 := below_th hB hb1
      have hA1 := hA.below hb1 hA.lt
      have lA1 := hA1.one
      go_wp2_with fail
      refine (isIdentity_any _ _ _ _ _ ho1.row (by omega)).mono ?_
      rintro e w2 ⟨rfl, hb2⟩
      rw [HINC.out]
      have hB2 := below_th hB1 hb2
      have hA2 := hA1.below hb2 hA1.lt
      have lA2 := hA2.one
      cases hq : qndOk k t with
      | false =>
        have HQN := Lib.hid hq
        clear hq
        go_wp2
        go_ret
        exact ⟨ret_bool (by rw [HQ.out, HDT.out, HQN.out]; rfl), hB2⟩
      | true =>
        have HQN := Lib.hid hq
        clear hq
        go_wp2_with fail
        refine (rackSolution_any _ _ _ t _ (h.below hB2) HF.out hn1 hn12).mono ?_
        rintro e w3 ⟨a3, c3, vs3, a3', c3', vs3', rfl, ho3, hb3⟩
        have hB3 := below_th hB2 hb3
        go_wp2_with fail
        refine (weightFault_any _ _ _ _ _ t (cstL k) m _ _ M _ ho3.f.tbl ho3.s.tbl HSOL.out hmm HM.out (h5.below hB3)).mono ?_
        rintro e w4 ⟨he, hb4⟩
        have hB4 := below_th hB3 hb4
        rcases he with ⟨hL, rfl⟩ | ⟨hL, b, k4, rfl, _⟩
        · have HL := Lib.hid (decide_eq_true hL)
          clear hL
          go_wp2
          go_ret
          exact ⟨ret_bool (by rw [HQ.out, HDT.out, HQN.out, HL.out]; rfl), hB4⟩
        · have HL := Lib.hid (decide_eq_false hL)
          clear hL
          go_wp2
          go_ret
          exact ⟨ret_bool (by rw [HQ.out, HDT.out, HQN.out, HL.out]; rfl), hB4⟩
set_option maxHeartbeats 2000000 in
theorem impl_Iq_l (a : Option Addr) (n c : Nat) (t : List (List Int)) (m : Int) (am : Option Addr) (nm cm : Nat) (M : List (List Int)) (w : World) (h : Tbl w a n t) (hn : n ≤ 9223372036854775807) (hi : I64 m) (h5 : Tbl w am nm M) (hnm : nm ≤ 9223372036854775807) :
    Calls Tryz.prog 29 #[rAgg a n c, .int .i64 m, .slice am nm cm] w (RetO w (iqF t m M).1 (iqF t m M).2) := by
  have hA := Loc.new w rfl #[.slice a n c] 45
  have hB := below_al (Below.refl w.heap.size w) (.cells #[.slice a n c] 45)
  have HFL := Lib.hid h.len
  go_enter Tryz.func29, Tryz.ntmps29
  go_wp2_with fail
  generalize w.alloc (.cells #[.slice a n c] 45) = w0 at *
  have lA := hA.one
  refine (isRack_any _ _ _ t _ (h.below hB) hn).mono ?_
  rintro e w1 ⟨rfl, hb1⟩
  replace hB := below_th hB hb1; replace hA := hA.below hb1 hA.lt; replace lA := hA.one
  cases q0 : isRk t with
  | false =>
    have HQ : Hid (iqF t m M = (false, 1)) := Lib.hid (iqF_0 q0)
    clear q0
    go_wp2
    go_ret2
    exact ⟨by rw [HQ.out]; rfl, hB⟩
  | true =>
  have HR := Lib.hid q0
  clear q0
  go_wp2_with fail
  refine (isMatrix_any _ _ _ _ _ M _ (h5.below hB) hnm).mono ?_
  rintro e w2 ⟨rfl, hb2⟩
  replace hB := below_th hB hb2; replace hA := hA.below hb2 hA.lt; replace lA := hA.one
  cases q1 : isMx n m M with
  | false =>
    have HQ : Hid (iqF t m M = (false, 2)) := Lib.hid (iqF_1 HR.out (by rw [← HFL.out]; exact q1))
    clear q1
    go_wp2
    go_ret2
    exact ⟨by rw [HQ.out]; rfl, hB⟩
  | true =>
  have HQ : Hid (iqF t m M = (qwOk t m M, 0)) := Lib.hid (iqF_2 HR.out (by rw [← HFL.out]; exact q1))
  obtain ⟨hmm, hM⟩ := isMx_sq q1
  clear q1
  obtain rfl : nm = n := by rw [h5.len]; exact hM.1
  have HMM := Lib.hid hmm; have HM := Lib.hid hM
  clear hmm hM
  go_wp2_with fail
  refine (isQuandleWeight_any _ _ _ t m _ _ M _ (h.below hB) HR.out HMM.out HM.out (h5.below hB)).mono ?_
  rintro e w3 ⟨rfl, hb3⟩
  go_wp2
  go_ret2
  exact ⟨by rw [HQ.out]; rfl, below_th hB hb3⟩
end Go.Proofs.YtpdgpgbgakinlaaGreat

namespace Go.Proofs.YtpdgpgbgakinlaaGreat
set_option maxRecDepth 100000
set_option linter.unusedVariables false
set_option linter.unusedSimpArgs false
open Go.RowKit
set_option maxHeartbeats 16000000 in
theorem impl_Cw_l (a : Option Addr) (n c : Nat) (f : List (List Int)) (a' : Option Addr) (n' c' : Nat) (g : List (List Int)) (m : Int) (am : Option Addr) (nm cm : Nat) (M : List (List Int)) (s : Int) (ab : Option Addr) (nb cb : Nat) (xs : List Int) (w : World) (h1 : Sol w a n f a' n' g) (hm : n ≤ 9223372036854775807 ∧ n' ≤ 9223372036854775807) (hi : I64 m) (h5 : Tbl w am nm M) (hnm : nm ≤ 9223372036854775807) (hs : I64 s) (hr : Row w ab nb xs) (hnb : nb ≤ 9223372036854775807) (hx : I64s xs) (hcap : nb ≤ cb ∧ cb ≤ 9223372036854775807) :
    Calls Tryz.prog 106 #[sAgg a n c a' n' c', .int .i64 m, .slice am nm cm, bAgg s ab nb cb] w (RetR w (cwF f g m M s xs).1 (cwF f g m M s xs).2) := by
  obtain ⟨hm1, hm2⟩ := hm
  have HFL := Lib.hid h1.f.len
  have hA := (Loc.new w rfl #[.slice a n c, .slice a' n' c'] 26).alloc (.cells #[.int .i64 s, .slice ab nb cb] 29)
  have hE := Loc.new (w.alloc (.cells #[.slice a n c, .slice a' n' c'] 26)) rfl #[.int .i64 s, .slice ab nb cb] 29
  rw [size_alloc] at hE
  have hB := below_al (below_al (Below.refl w.heap.size w) (.cells #[.slice a n c, .slice a' n' c'] 26)) (.cells #[.int .i64 s, .slice ab nb cb] 29)
  go_enter Tryz.func106, Tryz.ntmps106
  go_wp2_with fail
  generalize (w.alloc (.cells #[.slice a n c, .slice a' n' c'] 26)).alloc (.cells #[.int .i64 s, .slice ab nb cb] 29) = w0 at *
  have lA := hA.two
  have lE := hE.two
  refine (isSolution_any _ _ _ _ _ _ _ _ _ (h1.f.below hB) (h1.s.below hB) hm1 hm2).mono ?_
  rintro e w1 ⟨rfl, hb1⟩
  replace hB := below_th hB hb1; replace hA := hA.below hb1 hA.lt; replace hE := hE.below hb1 hE.lt; replace lA := hA.two; replace lE := hE.two
  clear hb1
  cases q0 : isSol f g with
  | false =>
    have HQ : Hid (cwF f g m M s xs = ([], 1)) := Lib.hid (cwF_0 q0)
    clear q0
    go_wp2
    go_ret2
    exact ⟨none, 0, 0, by rw [HQ.out]; rfl, by rw [HQ.out]; exact Own.nil _ _, hB⟩
  | true =>
  have HS := Lib.hid q0
  clear q0
  go_wp2_with fail
  refine (isBraid_any _ _ _ _ xs _ (hr.below hB) hnb).mono ?_
  rintro e w2 ⟨rfl, hb2⟩
  replace hB := below_th hB hb2; replace hA := hA.below hb2 hA.lt; replace hE := hE.below hb2 hE.lt; replace lA := hA.two; replace lE := hE.two
  clear hb2
  cases q1 : isBr s xs with
  | false =>
    have HQ : Hid (cwF f g m M s xs = ([], 1)) := Lib.hid (cwF_1 HS.out q1)
    clear q1
    go_wp2
    go_ret2
    exact ⟨none, 0, 0, by rw [HQ.out]; rfl, by rw [HQ.out]; exact Own.nil _ _, hB⟩
  | true =>
  have HBR := Lib.hid q1
  have hs26 := (isBr_let q1).1
  clear q1
  obtain ⟨hn1, hn12, sf, sg⟩ := isSol_sq HS.out
  have hcc := isSol_coll HS.out
  obtain rfl : n' = n := by rw [h1.s.len, HFL.out]; have := sg.len; omega
  rw [← HFL.out] at hn1 hn12 sf sg hcc
  obtain ⟨S, rfl⟩ : ∃ S : Nat, s = S := ⟨s.toNat, by omega⟩
  have HSF := Lib.hid sf; have HSG := Lib.hid sg; have HC := Lib.hid hcc
  clear sf sg hcc
  have hs2 : 2 ≤ S := by omega
  have hs6 : S ≤ 6 := by omega
  go_wp2_with fail
  refine (isMatrix_any _ _ _ _ _ M _ (h5.below hB) hnm).mono ?_
  rintro e w3 ⟨rfl, hb3⟩
  replace hB := below_th hB hb3; replace hA := hA.below hb3 hA.lt; replace hE := hE.below hb3 hE.lt; replace lA := hA.two; replace lE := hE.two
  clear hb3
  cases q2 : isMx n' m M with
  | false =>
    have HQ : Hid (cwF f g m M S xs = ([], 2)) := Lib.hid (cwF_2 HS.out HBR.out (by rw [← HFL.out]; exact q2))
    clear q2
    go_wp2
    go_ret2
    exact ⟨none, 0, 0, by rw [HQ.out]; rfl, by rw [HQ.out]; exact Own.nil _ _, hB⟩
  | true =>
  have H2 := Lib.hid q2
  obtain ⟨hmm, hM⟩ := isMx_sq q2
  clear q2
  obtain rfl : nm = n' := by rw [h5.len]; exact hM.1
  have HMM := Lib.hid hmm; have HM := Lib.hid hM
  clear hmm hM
  have nn := fun (w : World) (a : Option Addr) (n c : Nat) => Lib.run_eql_slice_nil (P := Tryz.prog) w 27 2 a n c 0 0 und_ints
  go_wp2_with fail
  refine (weightFault_any _ _ _ _ _ f g m _ _ M _ (h1.f.below hB) (h1.s.below hB) HS.out HMM.out HM.out (h5.below hB)).mono ?_
  rintro e w4 ⟨he, hb4⟩
  replace hB := below_th hB hb4; replace hA := hA.below hb4 hA.lt; replace hE := hE.below hb4 hE.lt; replace lA := hA.two; replace lE := hE.two
  clear hb4
  rcases he with ⟨hL, rfl⟩ | ⟨hL, b, k, rfl, _⟩
  rotate_left
  · have HQ : Hid (cwF f g m M S xs = ([], 5)) := Lib.hid (cwF_3 HS.out HBR.out (by rw [← HFL.out]; exact H2.out) (by rw [← HFL.out]; exact hL))
    clear hL
    go_wp2
    go_ret2
    exact ⟨none, 0, 0, by rw [HQ.out]; rfl, by rw [HQ.out]; exact Own.nil _ _, hB⟩
  have HL := Lib.hid hL
  clear hL
  go_wp2_with fail
  refine (colouringsOf_any _ _ _ _ _ f g S _ _ _ xs _ (h1.f.below hB) (h1.s.below hB) HS.out (hr.below hB) HBR.out).mono ?_
  rintro e w5 ⟨az, L, cz, vz, rfl, hoz, hb5⟩
  have hwz := hB.size
  replace hB := below_th hB hb5; replace hA := hA.below hb5 hA.lt; replace hE := hE.below hb5 hE.lt; replace lA := hA.two; replace lE := hE.two
  clear hb5
  by_cases h5k : nm ^ S ≤ 5000
  rotate_left
  · have HQ : Hid (cwF f g m M S xs = ([], 3)) := Lib.hid (cwF_4 HS.out HBR.out (by rw [← HFL.out]; exact H2.out) (by rw [← HFL.out]; exact HL.out) (by rw [← HFL.out, Int.toNat_natCast]; exact h5k))
    have e : (colsC nm S f g xs) = ([], 3) := if_neg h5k
    rw [e] at hoz ⊢
    clear e h5k
    go_wp2
    go_ret2
    exact ⟨none, 0, 0, by rw [HQ.out]; rfl, by rw [HQ.out]; exact Own.nil _ _, hB⟩
  have HQ : Hid (cwF f g m M S xs = (wtsK nm f g M m xs (colsL nm S f g xs) (colsL nm S f g xs).length, 0)) := Lib.hid (by rw [wtsK_all, cwF_5 HS.out HBR.out (by rw [← HFL.out]; exact H2.out) (by rw [← HFL.out]; exact HL.out) (by rw [← HFL.out, Int.toNat_natCast]; exact h5k), ← HFL.out, Int.toNat_natCast])
  have e : (colsC nm S f g xs) = (colsL nm S f g xs, 0) := if_pos h5k
  have hmem : ∀ i, i < (colsL nm S f g xs).length → ∃ N, (colsL nm S f g xs).getD i [] = digL nm S N := fun i hi => by
    rw [Tbl.getD hi]
    obtain ⟨N, _, e⟩ := colsK_mem (List.getElem_mem hi)
    exact ⟨N, e⟩
  have hll : (colsL nm S f g xs).length ≤ 5000 := by have := colsK_len (n := nm) (s := S) (f := f) (g := g) (xs := xs) (k := nm ^ S); unfold colsL; omega
  rw [e] at hoz ⊢
  clear e h5k
  have hLl := hoz.len
  have HLn := Lib.hid hLl; have HMEM := Lib.hid hmem
  have hL5 : L ≤ 5000 := by simp only at hLl; omega
  clear hLl hmem hll
  have HTz := Lib.hid hoz.tbl
  have HWD : Hid (IsWd S xs) := Lib.hid ⟨(isBr_let HBR.out).2.1, (isBr_let HBR.out).2.2⟩
  clear hoz
  go_wp2_with fail
  refine (newAction_any _ _ _ _ _ f g _ (h1.f.below hB) (h1.s.below hB) HS.out hn12).mono ?_
  rintro e w6 ⟨b, d, vs, b', d', vs', rfl, ho2, hb6⟩
  have hX := Loc.new w6 rfl #[.slice a nm c, .slice a' nm c', .slice b nm d, .slice b' nm d'] 77
  have hq := below_al hb6 (.cells #[.slice a nm c, .slice a' nm c', .slice b nm d, .slice b' nm d'] 77)
  replace hE := (hE.below hb6 hE.lt).alloc (.cells #[.slice a nm c, .slice a' nm c', .slice b nm d, .slice b' nm d'] 77)
  have T3 := ho2.f.tbl.alloc (.cells #[.slice a nm c, .slice a' nm c', .slice b nm d, .slice b' nm d'] 77); have T4 := ho2.s.tbl.alloc (.cells #[.slice a nm c, .slice a' nm c', .slice b nm d, .slice b' nm d'] 77)
  replace hB := below_th hB hq
  have HTz2 := Lib.hid (HTz.out.below hq)
  have T1 := h1.f.below hB; have T2 := h1.s.below hB; have T5 := h5.below hB; have T6 := hr.below hB
  clear hA lA lE h1 h5 hr ho2 hb6 hq HTz
  go_wp2
  generalize hwA : w6.alloc (.cells #[.slice a nm c, .slice a' nm c', .slice b nm d, .slice b' nm d'] 77) = wA at *
  have hsz : w6.heap.size < wA.heap.size := hX.lt
  clear hwA
  go_loopw [13, 49] (fun z i wr => ∃ (k : Nat) (ay : Option Addr) (cy : Nat), k ≤ L ∧ i = .int .i64 k ∧ z = .slice ay k cy ∧ Own wr wA.heap.size ay k cy (wtsK nm f g M m xs (colsL nm S f g xs) k) ∧ Below wA.heap.size wA wr) (fun _ i _ => L - (intOf i).toNat)
  case atStart => exact ⟨0, none, 0, Nat.zero_le _, rfl, rfl, by rw [wtsK_zero]; exact Own.nil _ _, Below.refl _ _⟩
  case round =>
    obtain ⟨k, ay, cy, hk, rfl, rfl, hoy, hq⟩ := hrel
    by_cases hlt : k < L
    · obtain ⟨bz, oz, ai, ni, ci, rfl, g1, hri, hni⟩ := (HTz2.out.below hq).at k hlt
      obtain ⟨N, hN⟩ := HMEM.out k (by have := HLn.out; omega)
      have HN := Lib.hid hN
      have hni2 := hri.len
      rw [hN, digL_len] at hni2
      subst hni2
      have lX := (hX.below hq hX.lt).four
      have lE := (hE.below hq hE.lt).two
      have HLE : Hid (Less nm ((colsL nm ni f g xs).getD k [])) := Lib.hid (by rw [hN]; exact digL_less nm ni N hn1)
      have HY : Hid (wtsK nm f g M m xs (colsL nm ni f g xs) (k + 1) = wtsK nm f g M m xs (colsL nm ni f g xs) k ++ [wtF nm f g M m xs ((colsL nm ni f g xs).getD k [])]) := Lib.hid (wtsK_succ (by have := HLn.out; omega))
      clear hN
      go_wp2_with fail
      refine (weightOf_any _ _ _ _ _ _ _ _ _ f g m _ _ M ni _ _ _ xs _ _ ((colsL nm ni f g xs).getD k []) _ (T1.below hq) (T2.below hq) (T3.below hq) (T4.below hq) hn1 HSF.out HSG.out HC.out HMM.out HM.out (T5.below hq) (T6.below hq) HWD.out hs2 hs6 hri HLE.out).mono ?_
      rintro e w7 ⟨rfl, hb7⟩
      have hq7 := below_th hq hb7
      have hy7 := hoy.below hb7
      have hwq := hq7.size
      clear lX lE g1 hri
      go_wp2_with (at_builtin; refine app1 rfl rfl hy7 rfl rfl (by omega) hwq ?_; intro g' cc w8 hO hg8 hs8 hb8)
      go_roundw
      case rel => exact ⟨k + 1, _, _, by omega, by go_num, rfl, by rw [HY.out]; exact hO, hq7.trans hb8⟩
      case measure => simp [intOf]; omega
    · obtain rfl : k = L := by omega
      go_wp2
      go_ret2
      refine ⟨ay, k, cy, by rw [HQ.out]; rfl, ?_, hB.trans (hq.mono hB.size)⟩
      rw [HQ.out]
      have := HLn.out
      rw [← this]
      exact hoy.mono hB.size
set_option maxHeartbeats 1000000 in
theorem countWeights_any (m : Int) (a : Option Addr) (n c : Nat) (L : List Int) (w : World) (h : Row w a n L) (hm : 1 ≤ m ∧ m ≤ 12) (hn : n ≤ 1000000) (hL : ∀ x ∈ L, 0 ≤ x ∧ x < m) :
    Calls Tryz.prog 107 #[.int .i64 m, .slice a n c] w fun e w' => ∃ a' n' c', e = .returned (.slice a' n' c') ∧ Own w' w.heap.size a' n' c' (cntL m.toNat L) ∧ Below w.heap.size w w' := by
  obtain ⟨hm1, hm2⟩ := hm
  obtain ⟨K, rfl⟩ : ∃ K : Nat, m = K := ⟨m.toNat, by omega⟩
  have hl := Lib.hid h.len
  have HL := Lib.hid hL
  clear hL
  rw [Int.toNat_natCast]
  go_enter Tryz.func107, Tryz.ntmps107
  go_wp2_with (at_make; refine make1 rfl rfl rfl rfl (by omega) ?_; intro w1 ho hs hb)
  go_loopw [12] (fun i wr => ∃ k : Nat, k ≤ n ∧ i = .int .i64 k ∧ Own wr w.heap.size (some ⟨w.heap.size, 0, none⟩) K K (cntL K (L.take k)) ∧ Below w.heap.size w wr) (fun i _ => n - (intOf i).toNat)
  case atStart => exact ⟨0, Nat.zero_le _, rfl, by simpa [cntL] using ho, hb⟩
  case round =>
    clear ho hb
    obtain ⟨k, hk, rfl, ho, hb⟩ := hrel
    by_cases hlt : k < n
    · obtain ⟨b, off, rfl, g1⟩ := (h.below hb).at k hlt
      have hx : k < L.length := by have := hl.out; omega
      have hb2 := HL.out L[k] (List.getElem_mem hx)
      rw [getD_eq_at hx] at g1
      have HC := Lib.hid (cntL_take (m := K) hx)
      rw [getD_eq_at hx] at HC
      generalize L[k] = X at *
      obtain ⟨x, rfl⟩ : ∃ x : Nat, X = x := ⟨X.toNat, by omega⟩
      rw [Int.toNat_natCast] at HC
      have hbd := cntL_bd K (L.take k) x
      have hlk : (L.take k).length ≤ k := List.length_take_le _ _
      obtain ⟨_, hc, hf⟩ := ho.cells
      have hc1 := hc x (by omega)
      have hf1 := hf x
      clear hc hf
      have hset := Lib.hid (ho.set x ((cntL K (L.take k)).getD x 0 + 1))
      generalize (cntL K (L.take k)).getD x 0 = V at *
      go_wp2
      go_roundw
      case rel => exact ⟨k + 1, by omega, by go_num, by rw [HC.out]; exact hset.out, hb.setCell (by simp) _⟩
      case measure => simp [intOf]; omega
    · obtain rfl : k = n := by omega
      go_wp2
      go_ret
      refine ⟨_, _, _, rfl, ?_, hb⟩
      rw [List.take_of_length_le (by have := hl.out; omega)] at ho
      exact ho
set_option maxHeartbeats 2000000 in
theorem impl_St_l (a : Option Addr) (n c : Nat) (f : List (List Int)) (a' : Option Addr) (n' c' : Nat) (g : List (List Int)) (m : Int) (am : Option Addr) (nm cm : Nat) (M : List (List Int)) (s : Int) (ab : Option Addr) (nb cb : Nat) (xs : List Int) (w : World) (h1 : Sol w a n f a' n' g) (hm : n ≤ 9223372036854775807 ∧ n' ≤ 9223372036854775807) (hi : I64 m) (h5 : Tbl w am nm M) (hnm : nm ≤ 9223372036854775807) (hs : I64 s) (hr : Row w ab nb xs) (hnb : nb ≤ 9223372036854775807) (hx : I64s xs) (hcap : nb ≤ cb ∧ cb ≤ 9223372036854775807) :
    Calls Tryz.prog 61 #[sAgg a n c a' n' c', .int .i64 m, .slice am nm cm, bAgg s ab nb cb] w (RetR w (stF f g m M s xs).1 (stF f g m M s xs).2) := by
  have hA := (Loc.new w rfl #[.slice a n c, .slice a' n' c'] 26).alloc (.cells #[.int .i64 s, .slice ab nb cb] 29)
  have hE := Loc.new (w.alloc (.cells #[.slice a n c, .slice a' n' c'] 26)) rfl #[.int .i64 s, .slice ab nb cb] 29
  rw [size_alloc] at hE
  have hB := below_al (below_al (Below.refl w.heap.size w) (.cells #[.slice a n c, .slice a' n' c'] 26)) (.cells #[.int .i64 s, .slice ab nb cb] 29)
  go_enter Tryz.func61, Tryz.ntmps61
  go_wp2_with fail
  generalize (w.alloc (.cells #[.slice a n c, .slice a' n' c'] 26)).alloc (.cells #[.int .i64 s, .slice ab nb cb] 29) = w0 at *
  have lA := hA.two
  have lE := hE.two
  refine (impl_Cw_l _ _ _ f _ _ _ g m _ _ _ M s _ _ _ xs _ ⟨h1.f.below hB, h1.s.below hB⟩ hm hi (h5.below hB) hnm hs (hr.below hB) hnb hx hcap).mono ?_
  rintro e w1 ⟨a1, n1, c1, rfl, ho, hb1⟩
  by_cases hz : (cwF f g m M s xs).2 = 0
  · obtain ⟨hmm, hbd⟩ := cwF_bd hz
    have hln := Cw_len f g m M s xs
    have hol := ho.len
    have HQ : Hid (stF f g m M s xs = (cntL m.toNat (cwF f g m M s xs).1, 0)) := Lib.hid (if_pos hz)
    have HMM := Lib.hid hmm; have HBD := Lib.hid hbd
    have hn1 : n1 ≤ 1000000 := by omega
    rw [hz]
    clear hz hmm hbd hln hol
    go_wp2_with fail
    refine (countWeights_any m _ _ _ _ _ ho.row HMM.out hn1 HBD.out).mono ?_
    rintro e w2 ⟨a2, n2, c2, rfl, ho2, hb2⟩
    go_wp2
    go_ret2
    exact ⟨a2, n2, c2, by rw [HQ.out]; rfl, by rw [HQ.out]; exact ho2.mono (by have := hB.size; have := hb1.size; omega), below_th (below_th hB hb1) hb2⟩
  · have HQ : Hid (stF f g m M s xs = ([], (cwF f g m M s xs).2)) := Lib.hid (if_neg hz)
    have hb : ((cwF f g m M s xs).2 != 0) = true := by simpa using hz
    clear hz
    generalize (cwF f g m M s xs).2 = r at *
    go_wp2
    go_ret2
    exact ⟨none, 0, 0, by rw [HQ.out]; rfl, by rw [HQ.out]; exact Own.nil _ _, below_th hB hb1⟩
end Go.Proofs.YtpdgpgbgakinlaaGreat
