/-
  The program's least table of all renamed ones, for few elements.
  No condition but bounds.
-/
import Derived.Test.YtehomfbehhlhmaaRowI
import Derived.Test.YtehomfbehhlhmaaRen
import Derived.Test.YtehomfbehhlhmaaBase
import Derived.Test.YtehomfbehhlhmaaRkSolL
namespace Go.Proofs.Ytehomfbehhlhmaa
set_option maxRecDepth 100000
set_option linter.unusedVariables false
set_option linter.unusedSimpArgs false
open Go.RowKit
attribute [local go_sem] Oper.semAt_some

def lstF (n : Nat) (t best : List (List Int)) (p : List Int) : List (List Int) := if cmpT (rnL n t p) best < 0 then rnL n t p else best
def lstK (n : Nat) (t : List (List Int)) (k : Nat) : List (List Int) := ((prmL n).take k).foldl (lstF n t) t
def leastL (n : Nat) (t : List (List Int)) : List (List Int) := (prmL n).foldl (lstF n t) t
theorem lstK_succ (n : Nat) (t : List (List Int)) {k : Nat} (h : k < (prmL n).length) : lstK n t (k + 1) = lstF n t (lstK n t k) ((prmL n).getD k []) := by
  unfold lstK
  rw [List.take_succ_eq_append_getElem h, List.foldl_append]
  simp [List.getD_eq_getElem?_getD, List.getElem?_eq_getElem h]

set_option maxHeartbeats 16000000 in
theorem leastTable_any (N : Nat) (at_ : Option Addr) (ct : Nat) (t : List (List Int)) (w : World) (h1 : 1 ≤ N) (h4 : N ≤ 4) (hT : Tbl w at_ N t) (hs : Sq N t) :
    Calls Try.prog 133 #[.slice at_ N ct] w fun e w' => ∃ a c vs, e = .returned (.tuple #[.slice a N c, .int .i64 0]) ∧ OwnT w' w.heap.size a N c vs (leastL N t) ∧ Below w.heap.size w w' := by
  have HIT : Hid (isTab t = true) := Lib.hid (sq_isTab hs h1 (by omega))
  have HRW : Hid (∀ i, i < N → (t.getD i []).length ≤ 1000000) := Lib.hid fun i hi => by rw [hs.row hi]; omega
  have HS := Lib.hid hs
  clear hs
  obtain ⟨wa, hwa⟩ : ∃ wa, w.alloc (.cells #[.slice at_ N ct] 43) = wa := ⟨_, rfl⟩
  have hza : wa.heap.size = w.heap.size + 1 := by rw [← hwa]; simp
  have hBa : Below w.heap.size w wa := by rw [← hwa]; exact below_al (Below.refl _ _) _
  have hLa : Loc wa w.heap.size #[.slice at_ N ct] 43 := by rw [← hwa]; exact Loc.new w rfl _ _
  have lLa := hLa.one
  have hTa := hT.below hBa
  refine (callsIn_wide (n := 3)).1 ?_
  refine callsIn_of_wp_marks Try.func133 rfl trivial ?_ rfl
  simp only [Try.ntmps133, List.size_toArray, List.length_cons, List.length_nil, Nat.reduceAdd, Nat.reduceSub, Array.replicate_succ, Array.replicate_zero, List.push_toArray, List.append_toArray, List.nil_append, List.cons_append]
  gi_wp2_with (refine ⟨trivial, ?_⟩; gi_at_call 177; refine (callsIn_wide.2 (isTable_any at_ N ct t _ hTa (by omega))).mono ?_; rintro e w1 ⟨rfl, hb1⟩; rw [HIT.out]; have hL1 := hLa.below hb1 hLa.lt; have lL1 := hL1.one)
  have hB1 := below_th hBa hb1
  have hT1 := hTa.below hb1
  gi_wp2_with (refine ⟨trivial, ?_⟩; gi_at_call 150; refine (callsIn_wide.2 (cloneTable_any at_ N ct t _ hT1 (by omega) HRW.out)).mono ?_; rintro e w2 ⟨a2, c2, vs2, rfl, ho2, hb2⟩; have hL3 := (hL1.below hb2 hL1.lt).alloc (.cells #[.slice a2 N c2] 43); have lL3 := hL3.one)
  have hB2 := below_th hB1 hb2
  have hz2 := hb2.size
  have hz1 := hb1.size
  obtain ⟨w3, hw3⟩ : ∃ w3, w2.alloc (.cells #[.slice a2 N c2] 43) = w3 := ⟨_, rfl⟩
  rw [hw3] at hL3 lL3
  have hz3 : w3.heap.size = w2.heap.size + 1 := by rw [← hw3]; simp
  have hB3 : Below w.heap.size w w3 := by rw [← hw3]; exact below_al hB2 _
  have hM3 : Loc w3 w2.heap.size #[.slice a2 N c2] 43 := by rw [← hw3]; exact Loc.new w2 rfl _ _
  have ho3 : OwnT w3 w1.heap.size a2 N c2 vs2 t := by rw [← hw3]; exact ho2.alloc _
  have i7 : decide ((7 : Int) < (N : Int)) = false := by simp; omega
  rw [hw3]
  gi_wp2_with (refine ⟨trivial, ?_⟩; gi_at_call 148; refine (callsIn_wide.2 (perms_any N _)).mono ?_; rintro e w4 ⟨rfl, rfl⟩)
  obtain ⟨W0, hW0⟩ : ∃ W0, w3.alloc (.cells #[.int .i64 N] 3) = W0 := ⟨_, rfl⟩
  rw [hW0]
  have hs0 : W0.heap.size = w2.heap.size + 2 := by rw [← hW0]; simp; omega
  have hB0 : Below w.heap.size w W0 := by rw [← hW0]; exact below_al hB3 _
  have hLT : Loc W0 w.heap.size #[.slice at_ N ct] 43 := by rw [← hW0]; exact hL3.alloc _
  have hLM : Loc W0 w2.heap.size #[.slice a2 N c2] 43 := by rw [← hW0]; exact hM3.alloc _
  have hLN : Loc W0 (w2.heap.size + 1) #[.int .i64 N] 3 := by rw [← hW0]; exact Loc.new w3 (by omega) _ _
  have hoM : OwnT W0 w.heap.size a2 N c2 vs2 t := by rw [← hW0]; exact (ho3.alloc _).mono (by omega)
  have hhi : ∀ g, TblS a2 N vs2 g → g < w2.heap.size := fun g hg => ho2.uHi g hg
  have HM := Lib.hid (prm_bd h1 h4)
  have HPP := Lib.hid (prm_isP h1 h4)
  have HHI := Lib.hid hhi
  have HW3 := Lib.hid hw3
  clear hW0 hw3 hwa hhi
  refine wpIn_rangeFunc_it rfl (by omega) (gf := 189) (lb := #[.pointer (some ⟨w2.heap.size + 1, 0, none⟩)]) rfl trivial (enters_of Try.func189 (by kernel_rfl) rfl)
    (perms1_it _ N (w2.heap.size + 1) W0 (by omega) hLN.one.1 h1 h4) (Below.refl _ _) rfl
    (fun b k W => ∃ a c vs, Loc W w2.heap.size #[.slice a N c] 43 ∧ OwnT W w.heap.size a N c vs (lstK N t k) ∧ (∀ g, TblS a N vs g → g ≠ b ∧ g ≠ w2.heap.size ∧ g ≠ W0.heap.size ∧ g ≠ W0.heap.size + 1) ∧ b < W.heap.size ∧ Loc W w.heap.size #[.slice at_ N ct] 43 ∧ Below w.heap.size w W)
    ?start ?abide
    (fun b c => { tmps := #[.slice at_ N ct, .pointer (some ⟨w.heap.size, 0, none⟩), .slice none 0 0, .int .i64 0, .pointer (some ⟨w2.heap.size, 0, none⟩), .slice (some ⟨b, 0, none⟩) N c, undef, .slice at_ N ct, .bool true, .bool false, .slice at_ N ct, .int .i64 N,
      .bool false, .slice at_ N ct, .slice a2 N c2, .slice at_ N ct, .int .i64 N, .func (.func 189) #[] #[.pointer (some ⟨w2.heap.size + 1, 0, none⟩)], .slice (some ⟨b, 0, none⟩) N c, undef, undef, undef, undef, undef, undef, undef, undef, undef], defers := [] })
    ?assign ?body ?done
  case start =>
    intro b W' hb hlt hB
    exact ⟨a2, c2, vs2, hLM.below hB (by omega), OwnT.keep hoM fun g h1 h2 => hB.block g (by have := HHI.out g h1; omega), fun g hg => by have := HHI.out g hg; omega, hlt, hLT.below hB (by omega), hB0.trans (hB.mono (by omega))⟩
  case abide =>
    rintro b k A B r hr hb ⟨a, c, vs, q1, q2, q3, q4, q5, q6⟩ hg
    have hne : ∀ g, (g < W0.heap.size) → some g ≠ some r := fun g hg e => by cases e; omega
    refine ⟨a, c, vs, q1.grown hg (hne _ (by omega)), OwnT.keep q2 fun g h1 h2 => hg.block g h2 (fun e => ?_), q3, by have := hg.size; omega, q5.grown hg (hne _ (by omega)), q6.grown hg q6.size (fun j e => by cases e; omega)⟩
    have e' : g = r := by injection e
    have h3 := q3 g h1
    omega
  case assign =>
    intro l b c W K hK
    gi_wp2
    exact hK
  case body =>
    rintro l b c k W hb hkM ⟨a, ca, vs, hL, ho, hav, hbW, hLt, hB⟩ hs hown
    have hpk := HPP.out k hkM
    have lL := hL.one
    have lT := hLt.one
    have hTW := hT.below hB
    have HAV := Lib.hid hav
    have HKK := Lib.hid (lstK_succ N t hkM)
    obtain ⟨p, HP⟩ : ∃ p, Hid ((prmL N).getD k [] = p) := ⟨_, rfl⟩
    rw [HP.out] at hpk hown HKK
    have HPK := Lib.hid hpk
    clear hav hpk
    obtain ⟨C, HC⟩ : ∃ C, Hid (cmpT (rnL N t p) (lstK N t k) = C) := ⟨_, rfl⟩
    have hC64 : -1 ≤ C ∧ C ≤ 1 := by rw [← HC.out]; exact cmpT_bd _ _
    by_cases hC : C < 0
    · have HKN : Hid (lstK N t (k + 1) = rnL N t p) := Lib.hid (by rw [HKK.out]; unfold lstF; rw [HC.out, if_pos hC])
      gi_wp2_with (first
        | (refine ⟨trivial, ?_⟩; gi_at_call 180; refine (CallsIn.inRound l (callsIn_wide.2 (renamed_any N _ _ _ _ t p W hTW hown.row HS.out HPK.out (by omega)))).mono ?_; rintro e w5 ⟨a5, c5, vs5, rfl, ho5, hb5⟩; have hL5 := hL.below hb5 hL.lt; have lL5 := hL5.one)
        | (refine ⟨trivial, ?_⟩; gi_at_call 181; refine (CallsIn.inRound l (callsIn_wide.2 (compareTables_any _ _ _ _ _ _ _ _ w5 ho5.tbl (ho.below hb5).tbl (by omega)))).mono ?_; rintro e w6 ⟨rfl, rfl⟩; rw [HC.out]))
      have hz5 := hb5.size
      have hsc : ∀ q, q ≠ w2.heap.size → (w5.setCell ⟨w2.heap.size, 0, none⟩ (.slice a5 N c5)).heap[q]? = w5.heap[q]? := fun q hq => Below.heap_setCell _ _ _ _ hq
      refine ⟨⟨a5, c5, vs5, hL5.set 0 _, ?_, ?_, by rw [size_set]; omega, ?_, ?_⟩, ?_, by rw [size_set]; omega, ?_, ?_⟩
      · rw [HKN.out]
        exact (OwnT.keep ho5 fun g h1 h2 => hsc g (by have := ho5.uLo g h1; omega)).mono hB.size
      · intro g hg
        have := ho5.uLo g hg
        omega
      · exact ((hsc _ (by omega)).trans (hb5.block _ hLt.lt)).trans hLt
      · exact (hB.trans (hb5.mono hB.size)).setCell (by show w.heap.size ≤ w2.heap.size; omega) _
      · exact (hsc _ (by omega)).trans (hb5.block _ hbW)
      · exact (hsc _ (by omega)).trans (hb5.block _ (by omega))
      · exact (hsc _ (by omega)).trans (hb5.block _ (by omega))
    · have HKN : Hid (lstK N t (k + 1) = lstK N t k) := Lib.hid (by rw [HKK.out]; unfold lstF; rw [HC.out, if_neg hC])
      gi_wp2_with (first
        | (refine ⟨trivial, ?_⟩; gi_at_call 180; refine (CallsIn.inRound l (callsIn_wide.2 (renamed_any N _ _ _ _ t p W hTW hown.row HS.out HPK.out (by omega)))).mono ?_; rintro e w5 ⟨a5, c5, vs5, rfl, ho5, hb5⟩; have hL5 := hL.below hb5 hL.lt; have lL5 := hL5.one)
        | (refine ⟨trivial, ?_⟩; gi_at_call 181; refine (CallsIn.inRound l (callsIn_wide.2 (compareTables_any _ _ _ _ _ _ _ _ w5 ho5.tbl (ho.below hb5).tbl (by omega)))).mono ?_; rintro e w6 ⟨rfl, rfl⟩; rw [HC.out]))
      have hz5 := hb5.size
      refine ⟨⟨a, ca, vs, hL5, ?_, HAV.out, by omega, hLt.below hb5 hLt.lt, hB.trans (hb5.mono hB.size)⟩, hb5.block _ hbW, by omega, hb5.block _ (by omega), hb5.block _ (by omega)⟩
      rw [HKN.out]
      exact ho.below hb5
  case done =>
    rintro b W hb ⟨a, c, vs, hL, ho, hav, hbW, hLt, hB⟩ hK
    have lL := hL.one
    have HAV := Lib.hid hav
    have hE : lstK N t (prmL N).length = leastL N t := by unfold lstK leastL; rw [List.take_length]
    rw [hE] at ho
    clear hav hE
    gi_wp2
    refine ⟨by simp, .inl ⟨_, _, rfl, run_takeDeferred hK, ?_⟩⟩
    refine ⟨_, results_tmp2 rfl _ _ _, a, c, vs, rfl, ?_, ?_⟩
    · exact OwnT.keep ho fun g hg hlt => World.putObj_heap_other (HAV.out g hg).2.2.1
    · exact hB.grown (grownBy_putObj' _ _ _) hB.size (fun j e => by cases e; omega)
end Go.Proofs.Ytehomfbehhlhmaa
