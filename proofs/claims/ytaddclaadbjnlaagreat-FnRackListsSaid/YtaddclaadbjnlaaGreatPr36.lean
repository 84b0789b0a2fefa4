/-
  Walks and plain laws of this seat, some texts in one.
  No condition but bounds on lengths.
-/
import Derived.Test.YtaddclaadbjnlaaGreatPr35
import Derived.Test.YtaddclaadbjnlaaGreatPr23
import Derived.Test.YtaddclaadbjnlaaGreatPr15
import Derived.Test.YtaddclaadbjnlaaGreatPr12
import Derived.Deep.DeepCutAuto
import Derived.Test.YtaddclaadbjnlaaGreatPr34
import Derived.Test.YtaddclaadbjnlaaGreatPr31
import Derived.Test.YtaddclaadbjnlaaGreatPr30
import Derived.Test.YtaddclaadbjnlaaGreatPr24
import Derived.Test.YtaddclaadbjnlaaGreatPr6
import Derived.Test.YtaddclaadbjnlaaGreatPr7
import Derived.Test.YtaddclaadbjnlaaGreatPr3
import Derived.Deep.RegionHeld3
import Derived.Test.YtaddclaadbjnlaaGreatPr8
import Derived.IntWalk
import Derived.Test.YtaddclaadbjnlaaGreatPr4
import Derived.Test.YtaddclaadbjnlaaGreatPr25
import Derived.Test.YtaddclaadbjnlaaGreatPr2
import Derived.Test.YtaddclaadbjnlaaGreatPr1
namespace Go.Proofs.YtaddclaadbjnlaaGreat
set_option maxRecDepth 100000
set_option linter.unusedVariables false
set_option linter.unusedSimpArgs false
open Go.RowKit
theorem porF_no {t : List (List Int)} (h : isRk t = false) : porF t = (0, 1) := by unfold porF; rw [h]; rfl
theorem porF_big {t : List (List Int)} (h : isRk t = true) (h4 : ¬ t.length ≤ 4) : porF t = (0, 3) := by unfold porF; rw [h, if_pos rfl, if_neg h4]
theorem porF_in {t : List (List Int)} (h : isRk t = true) (h4 : t.length ≤ 4) : porF t = (((porI t : Nat) : Int), 0) := by unfold porF; rw [h, if_pos rfl, if_pos h4]
def PorMade (w w1 : World) (L : List (List (List Int))) (M : List (List Int)) (s4 s5 : Value) (wx : World) : Prop :=
  ∃ a1 k1 c1 a2 c2, s4 = .slice a1 k1 c1 ∧ s5 = .slice a2 1 c2 ∧ TbS wx a1 k1 L ∧ TbS wx a2 1 [M] ∧ k1 ≤ 1000000 ∧ Below w.heap.size w wx
set_option maxHeartbeats 8000000 in
theorem spec_Por_l (a : Option Addr) (n c : Nat) (t : List (List Int)) (w : World) (h1 : Tbl w a n t) (hm : n ≤ 9223372036854775807) :
    Calls Tryz.prog 18 #[rAgg a n c] w (RetI w (porF t).1 (porF t).2) := by
  have hA := Loc.new w rfl #[.slice a n c] 34
  have hB := below_al (Below.refl w.heap.size w) (.cells #[.slice a n c] 34)
  have h1' := h1.alloc (.cells #[.slice a n c] 34)
  have HN := Lib.hid h1.len
  have lA := hA.one
  cases hk : isRk t with
  | false =>
    rw [porF_no hk]
    have HK := Lib.hid hk; clear hk
    go_enter Tryz.func18, Tryz.ntmps18
    go_wp2_with fail
    refine (l03Is_any _ _ _ t _ h1' hm).mono ?_
    rintro e w1 ⟨rfl, hb1⟩
    rw [HK.out]
    go_wp2
    go_ret2
    exact ⟨rfl, below_th hB hb1⟩
  | true =>
    by_cases h4 : n ≤ 4
    · rw [porF_in hk (by rw [← HN.out]; exact h4)]
      obtain ⟨n1, _, sq⟩ := isTab_sq (isRk_parts hk).1
      obtain ⟨k0, hk0, ek0⟩ := por_some hk (by rw [← HN.out]; exact h4)
      have HI := Lib.hid (fun k hk => porI_of (t := t) (k := k) hk)
      rw [← HN.out] at n1 sq hk0 ek0
      obtain ⟨L, HL⟩ : ∃ L, Hid (rkLst n = L) := ⟨_, rfl⟩
      obtain ⟨M, HM⟩ : ∃ M, Hid (leastL n t = M) := ⟨_, rfl⟩
      have HI2 : Hid (∀ k, k < L.length → L.getD k [] = M → (∀ j, j < k → L.getD j [] ≠ M) → porI t = k) := Lib.hid (by rw [← HL.out, ← HM.out, HN.out]; exact HI.out)
      clear HI
      rw [HL.out] at hk0 ek0
      rw [HM.out] at ek0
      have HLS : Hid (leaS n [t] = [M]) := Lib.hid (by rw [leaS_one sq.1, HM.out])
      have HRL : Hid (srtL n (fun t => !false || qndOk n t) (rckN n) = L) := Lib.hid (by rw [ark_eq n1 h4]; exact HL.out)
      have HLB : Hid (L.length ≤ 1000000) := Lib.hid (by rw [← HL.out]; exact (lists_bd n1 h4 chkR (lstB n)).1)
      have HSQ := Lib.hid sq
      have HK := Lib.hid hk
      have HK0 := Lib.hid (And.intro hk0 ek0)
      obtain ⟨R, HR⟩ : ∃ R : Nat, Hid (porI t = R) := ⟨_, rfl⟩
      rw [HR.out] at HI2
      rw [HR.out]
      clear hk sq hk0 ek0
      go_enter Tryz.func18, Tryz.ntmps18
      go_wp2_with fail
      refine (l03Is_any _ _ _ t _ h1' hm).mono ?_
      rintro e w1 ⟨rfl, hb1⟩
      rw [HK.out]
      have hA1 := hA.below hb1 (by simp)
      have lA1 := hA1.one
      have hB1 := below_th hB hb1
      have hlt1 := hA1.lt
      have t1 := h1'.below hb1
      have hgt : ¬ (4 : Int) < (n : Int) := by omega
      clear hA hB h1' lA hb1
      go_upto_region 5 with fail
      go_cut [4, 5] (fun s4 s5 wx => PorMade w w1 L M s4 s5 wx)
      case first =>
        have tok1 : True := trivial
        have HSS : Hid (∀ k, k < 1 → Sq n (([t] : List (List (List Int))).getD k [])) := Lib.hid fun k hk => by
          obtain rfl : k = 0 := by omega
          exact HSQ.out
        go_region_held3 (fun w' => w'.cell? ⟨w.heap.size, 0, none⟩ = some (.slice a n c))
          (first | exact lD | exact lC | exact lB' | exact lB | exact lA1' | exact lA1.1 | go_keep)
          (first
            | (go_at_call 40; have _t := tok1; refine (l19List_any n false _ n1 h4).mono ?_; rintro e w2 ⟨a2, k2, c2, us2, rfl, ho2, hb2⟩; clear _t tok1; have tok2 : True := trivial; have hq2 : Below w1.heap.size w1 w2 := below_th (below_drewN (Below.refl _ _) 1) hb2; have hA2 := hA1.below hq2 hlt1; have lB := hA2.one.1; have lB' := (hA2.alloc (.cells #[.slice a n c] 32)).one.1)
            | (go_at_call 40; have _t := tok1; refine (l19List_any n false _ n1 h4).mono ?_; rintro e w2 ⟨a2, k2, c2, us2, rfl, ho2, hb2⟩; clear _t tok1; have tok3 : True := trivial; have hq2 : Below w1.heap.size w1 w2 := below_alth (below_drewN (Below.refl _ _) 1) hb2; have hL2 : TbS w2 (some ⟨w1.heap.size, 0, none⟩) 1 [t] := (TbS.one rfl (t1.drewN 1) hm _).below hb2; have hA2 := hA1.below hq2 hlt1; have lB := hA2.one.1)
            | (go_at_call 59; have _t := tok2; refine (l03Least_any n 1 (some ⟨w2.heap.size, 0, none⟩) 1 [t] _ (TbS.one rfl (t1.below hq2) hm _) n1 h4 (by omega) (by omega) HSS.out).mono ?_; rintro e w3 ⟨a3, c3, us3, rfl, ho3, hb3⟩; clear _t tok2; have hq3 : Below w2.heap.size w2 w3 := below_alth (Below.refl _ _) hb3; have lC := (hA2.below hq3 hA2.lt).one.1)
            | (go_at_call 59; have _t := tok3; refine (l03Least_any n 1 (some ⟨w1.heap.size, 0, none⟩) 1 [t] _ hL2 n1 h4 (by omega) (by omega) HSS.out).mono ?_; rintro e w3 ⟨a3, c3, us3, rfl, ho3, hb3⟩; clear _t tok3; have hq3 : Below w2.heap.size w2 w3 := hb3; have lC := (hA2.below hq3 hA2.lt).one.1))
        all_goals (rw [HRL.out] at ho2; rw [HLS.out] at ho3; go_wp2_with fail; go_meet; exact ⟨a2, k2, c2, a3, c3, rfl, rfl, ho2.tbS.below hq3, ho3.tbS, by have := ho2.len; have := HLB.out; omega, hB1.trans ((hq2.mono hB1.size).trans (hq3.mono (Nat.le_trans hB1.size hq2.size)))⟩)
      case rest =>
        obtain ⟨a1, N, c1, a2, c2, rfl, rfl, tL, tM, hN1, hB2⟩ := hcut
        have HNL := Lib.hid tL.len
        go_wp2
        go_loopw [6] (fun i wr => ∃ k : Nat, k ≤ N ∧ i = .int .i64 k ∧ Hid (∀ j, j < k → L.getD j [] ≠ M) ∧ Hid (∃ m, wr = wc.drewN m)) (fun i _ => N - (intOf i).toNat)
        case atStart => exact ⟨0, Nat.zero_le _, rfl, Lib.hid fun j hj => absurd hj (by omega), Lib.hid ⟨0, rfl⟩⟩
        case round =>
          obtain ⟨k, hk, rfl, HT, HW⟩ := hrel
          by_cases hlt : k < N
          · have tLr : TbS wr a1 N L := by obtain ⟨m, hm⟩ := HW.out; rw [hm]; exact tL.drewN m
            have tMr : TbS wr a2 1 [M] := by obtain ⟨m, hm⟩ := HW.out; rw [hm]; exact tM.drewN m
            obtain ⟨b3, o3, a3, n3, c3, rfl, g3, r3, l3⟩ := tLr.at k hlt
            obtain ⟨b4, o4, a4, n4, c4, rfl, g4, r4, l4⟩ := tMr.at 0 Nat.zero_lt_one
            rw [Nat.add_zero] at g4
            have r4 : Tbl wr a4 n4 M := r4
            obtain ⟨X, HX⟩ : ∃ X, Hid (L.getD k [] = X) := ⟨_, rfl⟩
            rw [HX.out] at r3
            have j1 : (0 : Int) ≤ (k : Int) := by omega
            have j2 : (k : Int) < (N : Int) := by omega
            clear tLr tMr
            obtain ⟨D, HD⟩ : ∃ D, Hid (decide (X = M) = D) := ⟨_, rfl⟩
            have HSA : Hid (∀ m, Calls Tryz.prog 60 #[.slice a3 n3 c3, .slice a4 n4 c4] (wr.drewN m) fun e w'' => e = .returned (.bool D) ∧ ∃ k, w'' = wr.drewN k) := Lib.hid fun m => (l01Same2_any a3 a4 n3 n4 c3 c4 X M (wr.drewN m) (r3.drewN m) (r4.drewN m) l3).mono fun e w'' ⟨he, k, hk⟩ => ⟨by rw [he, HD.out], m + k, by rw [hk, World.drewN_drewN]⟩
            cases D with
            | true =>
              have HRK : Hid (R = k) := Lib.hid (HI2.out k (by have := HNL.out; omega) (by rw [HX.out]; exact of_decide_eq_true HD.out) HT.out)
              go_wp2
              go_quiet ((go_at_call 60; exact HSA.out _))
              go_wp2
              go_ret2
              exact ⟨by rw [HRK.out]; rfl, by obtain ⟨m, hm⟩ := HW.out; rw [hm]; exact below_drewN (below_drewN hB2 _) _⟩
            | false =>
              go_wp2
              go_quiet ((go_at_call 60; exact HSA.out _))
              go_wp2
              go_roundw
              case rel => exact ⟨k + 1, by omega, by go_num, Lib.hid fun j hj => by
                by_cases e : j = k
                · subst e; rw [HX.out]; exact of_decide_eq_false HD.out
                · exact HT.out j (by omega), Lib.hid (by obtain ⟨m, hm⟩ := HW.out; exact ⟨m + nq, by rw [hm, World.drewN_drewN]⟩)⟩
              case measure => simp [intOf]; omega
          · exact absurd HK0.out.2 (HT.out k0 (by have := HK0.out.1; have := HNL.out; omega))
    · rw [porF_big hk (by rw [← HN.out]; exact h4)]
      have hgt : (4 : Int) < (n : Int) := by omega
      have HK := Lib.hid hk; clear hk
      go_enter Tryz.func18, Tryz.ntmps18
      go_wp2_with fail
      refine (l03Is_any _ _ _ t _ h1' hm).mono ?_
      rintro e w1 ⟨rfl, hb1⟩
      rw [HK.out]
      have lA1 := (hA.below hb1 (by simp)).one
      go_wp2
      go_ret2
      exact ⟨rfl, below_th hB hb1⟩
theorem por1_any (b : Nat) (tb : TypeId) (a m : Option Addr) (k n c cm : Nat) (t M : List (List Int)) (w : World) (hL : Loc w b #[.slice m k cm] tb) (h1 : Tbl w a n t) (h2 : Tbl w m k M) (hn : n ≤ 9223372036854775807) :
    Calls Tryz.prog 50 #[rAgg a n c, .pointer (some ⟨b, 0, none⟩)] w fun e w' => e = .returned (.bool (decide (t = M))) ∧ Below w.heap.size w w' := by
  have hA := Loc.new w rfl #[.slice a n c] 34
  have hB := below_al (Below.refl w.heap.size w) (.cells #[.slice a n c] 34)
  have lA := hA.one
  have lL := (hL.below hB hL.lt).one
  go_enter Tryz.func50, Tryz.ntmps50
  go_wp2_with fail
  refine (equalTables_any _ _ _ _ _ _ _ _ _ (h1.below hB) (h2.below hB) hn).mono ?_
  rintro e w1 ⟨rfl, rfl⟩
  go_wp2
  go_ret
  exact ⟨rfl, hB⟩
theorem idxR_nat {p : List (List Int) → Bool} {ts : List (List (List Int))} {r : Int} (h : IdxR p ts r) (hs : ∃ k, k < ts.length ∧ p (ts.getD k []) = true) : ∃ k, k < ts.length ∧ r = (k : Int) ∧ p (ts.getD k []) = true ∧ ∀ j, j < k → p (ts.getD j []) = false := by
  rcases h with h | ⟨_, h⟩
  · exact h
  · obtain ⟨k, hk, e⟩ := hs
    rw [h k hk] at e; cases e
set_option maxHeartbeats 8000000 in
theorem impl_Por_l (a : Option Addr) (n c : Nat) (t : List (List Int)) (w : World) (h1 : Tbl w a n t) (hm : n ≤ 9223372036854775807) :
    Calls Tryz.prog 12 #[rAgg a n c] w (RetI w (porF t).1 (porF t).2) := by
  have hA := Loc.new w rfl #[.slice a n c] 34
  have hB := below_al (Below.refl w.heap.size w) (.cells #[.slice a n c] 34)
  have h1' := h1.alloc (.cells #[.slice a n c] 34)
  have HN := Lib.hid h1.len
  have lA := hA.one
  cases hk : isRk t with
  | false =>
    rw [porF_no hk]
    have HK := Lib.hid hk; clear hk
    go_enter Tryz.func12, Tryz.ntmps12
    go_wp2_with fail
    refine (isRack_any _ _ _ t _ h1' hm).mono ?_
    rintro e w1 ⟨rfl, hb1⟩
    rw [HK.out]
    go_wp2
    go_ret2
    exact ⟨rfl, below_th hB hb1⟩
  | true =>
    by_cases h4 : n ≤ 4
    · rw [porF_in hk (by rw [← HN.out]; exact h4)]
      obtain ⟨n1, _, sq⟩ := isTab_sq (isRk_parts hk).1
      obtain ⟨k0, hk0, ek0⟩ := por_some hk (by rw [← HN.out]; exact h4)
      have HI := Lib.hid (fun k hk => porI_of (t := t) (k := k) hk)
      rw [← HN.out] at n1 sq hk0 ek0
      obtain ⟨L, HL⟩ : ∃ L, Hid (rkLst n = L) := ⟨_, rfl⟩
      obtain ⟨M, HM⟩ : ∃ M, Hid (leastL n t = M) := ⟨_, rfl⟩
      have HI2 : Hid (∀ k, k < L.length → L.getD k [] = M → (∀ j, j < k → L.getD j [] ≠ M) → porI t = k) := Lib.hid (by rw [← HL.out, ← HM.out, HN.out]; exact HI.out)
      clear HI
      rw [HL.out] at hk0 ek0
      rw [HM.out] at ek0
      have HRL : Hid ((rowL n chkR).filter (lstB n) = L) := Lib.hid HL.out
      have HLB : Hid (L.length ≤ 1000000) := Lib.hid (by rw [← HL.out]; exact (lists_bd n1 h4 chkR (lstB n)).1)
      have HSQ := Lib.hid sq
      have HK := Lib.hid hk
      have HK0 : Hid (∃ k, k < L.length ∧ decide (L.getD k [] = M) = true) := Lib.hid ⟨k0, hk0, by rw [ek0]; simp⟩
      have HML : Hid (M.length = n) := Lib.hid (by rw [← HM.out]; exact leastL_len sq.1)
      obtain ⟨R, HR⟩ : ∃ R : Nat, Hid (porI t = R) := ⟨_, rfl⟩
      rw [HR.out] at HI2
      rw [HR.out]
      clear hk sq hk0 ek0
      go_enter Tryz.func12, Tryz.ntmps12
      go_wp2_with fail
      refine (isRack_any _ _ _ t _ h1' hm).mono ?_
      rintro e w1 ⟨rfl, hb1⟩
      rw [HK.out]
      have hA1 := hA.below hb1 (by simp)
      have lA1 := hA1.one
      have hB1 := below_th hB hb1
      have t1 := h1'.below hb1
      have hgt : ¬ (4 : Int) < (n : Int) := by omega
      clear hA hB h1' lA hb1
      go_wp2_with fail
      refine (leastTable_any n a c t w1 n1 h4 t1 HSQ.out).mono ?_
      rintro e w2 ⟨a2, c2, vs2, rfl, ho2, hb2⟩
      rw [HM.out] at ho2
      have hB2 := below_th hB1 hb2
      obtain ⟨w3, hw3⟩ : ∃ w3, (w2.alloc (.cells #[.slice none 0 0] 32)).setCell ⟨w2.heap.size, 0, none⟩ (.slice a2 n c2) = w3 := ⟨_, rfl⟩
      have hL3 : Loc w3 w2.heap.size #[.slice a2 n c2] 32 := by rw [← hw3]; exact (Loc.new w2 rfl _ _).set 0 _
      have hb3 : Below w2.heap.size w2 w3 := by rw [← hw3]; exact (below_al (Below.refl _ _) _).setCell (Nat.le_refl _) _
      have hB3 := below_th hB2 hb3
      have lL3 := hL3.one
      have tM := ho2.tbl.below hb3
      go_wp2_with fail
      refine (allRacks_any n _ n1 h4).mono ?_
      rintro e w4 ⟨a4, k4, c4, us4, rfl, ho4, hb4⟩
      rw [HRL.out] at ho4
      have hB4 := below_th hB3 hb4
      have hL4 := hL3.below hb4 hL3.lt
      have hk4 : k4 ≤ 1000000000 := by have := ho4.len; have := HLB.out; omega
      have HT : Hid (TstR w4 50 #[.pointer (some ⟨w2.heap.size, 0, none⟩)] (fun s => decide (s = M)) L) := Lib.hid ⟨fun args w => rfl, fun i hi w' hb va vn vc ht => by
        have hl : (L.getD i []).length = n := by
          have hm : L.getD i [] ∈ L := by rw [List.getD_eq_getElem?_getD, List.getElem?_eq_getElem hi]; exact List.getElem_mem hi
          rw [← HRL.out] at hm ⊢
          exact rowL_len _ (List.mem_filter.1 hm).1
        refine por1_any w2.heap.size _ va a2 n vn vc c2 _ M w' (hL4.below hb hL4.lt) ht ((tM.below hb4).below hb) ?_
        have := ht.len
        omega⟩
      go_wp2_with fail
      refine (indexRk_any _ _ _ a4 k4 c4 L w4 ho4.tbS hk4 HT.out).mono ?_
      rintro e w5 ⟨⟨r, rfl, hr⟩, hb5⟩
      obtain ⟨k, hk1, rfl, hk2, hk3⟩ := idxR_nat hr HK0.out
      have HRK : Hid (R = k) := Lib.hid (HI2.out k hk1 (of_decide_eq_true hk2) fun j hj => of_decide_eq_false (hk3 j hj))
      have hkk : k ≤ 1000000 := by have := HLB.out; omega
      clear hk2 hk3 hr
      go_wp2
      go_ret2
      exact ⟨by rw [HRK.out]; rfl, below_th hB4 hb5⟩
    · rw [porF_big hk (by rw [← HN.out]; exact h4)]
      have hgt : (4 : Int) < (n : Int) := by omega
      have HK := Lib.hid hk; clear hk
      go_enter Tryz.func12, Tryz.ntmps12
      go_wp2_with fail
      refine (isRack_any _ _ _ t _ h1' hm).mono ?_
      rintro e w1 ⟨rfl, hb1⟩
      rw [HK.out]
      have lA1 := (hA.below hb1 (by simp)).one
      go_wp2
      go_ret2
      exact ⟨rfl, below_th hB hb1⟩
end Go.Proofs.YtaddclaadbjnlaaGreat

namespace Go.Proofs.YtaddclaadbjnlaaGreat
set_option maxRecDepth 100000
set_option linter.unusedVariables false
set_option linter.unusedSimpArgs false
theorem rkl_row {n : Nat} (h1 : 1 ≤ n) (h4 : n ≤ 4) {t : List (List Int)} (h : t ∈ rowL n chkR) : isRk t = true ∧ t.length = n := by
  have := List.all_eq_true.1 (rkl_rk ⟨n, by omega⟩ h1) t h
  rw [Bool.and_eq_true] at this
  exact ⟨this.1, of_decide_eq_true this.2⟩
theorem rkl_cl {n : Nat} (h1 : 1 ≤ n) (h4 : n ≤ 4) : ∀ t, t ∈ rowL n chkR → ∀ p, IsP n p → rnL n t p ∈ rowL n chkR := fun t ht p hp => by
  obtain ⟨q1, q2⟩ := rkl_row h1 h4 ht
  have h2 := rk_in (rk_rn (by omega) q1 q2 hp) (by rw [rnL_len]; exact h4)
  rw [rnL_len] at h2; exact h2
theorem rkl_sum {n : Nat} (h1 : 1 ≤ n) (h4 : n ≤ 4) : ((rkLst n).map (gfN n)).sum = (rowL n chkR).length := row_orbits h1 h4 (rkl_cl h1 h4)
theorem rkl_mem {n : Nat} (h1 : 1 ≤ n) (h4 : n ≤ 4) {t : List (List Int)} (h : t ∈ rkLst n) : isRk t = true ∧ t.length = n ∧ t = leastL n t := by
  obtain ⟨q1, q2⟩ := List.mem_filter.1 h
  obtain ⟨q3, q4⟩ := rkl_row h1 h4 q1
  exact ⟨q3, q4, of_decide_eq_true q2⟩
theorem rkl_nd {n : Nat} (h4 : n ≤ 4) : (rkLst n).Nodup := (rowL_nd h4 chkR).filter _
theorem rkl_at {n : Nat} (h1 : 1 ≤ n) (h4 : n ≤ 4) {k : Nat} (hk : k < (rkLst n).length) : porF ((rkLst n).getD k []) = ((k : Int), 0) := by
  have hm : (rkLst n).getD k [] ∈ rkLst n := by rw [List.getD_eq_getElem?_getD, List.getElem?_eq_getElem hk]; exact List.getElem_mem hk
  obtain ⟨q1, q2, q3⟩ := rkl_mem h1 h4 hm
  rw [porF_in q1 (by omega)]
  have : porI ((rkLst n).getD k []) = k := by
    refine porI_of (by rw [q2]; exact hk) (by rw [q2]; exact q3) (fun j hj e => ?_)
    rw [q2, ← q3] at e
    have hj2 : j < (rkLst n).length := by omega
    rw [List.getD_eq_getElem?_getD, List.getElem?_eq_getElem hj2, List.getD_eq_getElem?_getD, List.getElem?_eq_getElem hk] at e
    exact List.pairwise_iff_getElem.1 (rkl_nd h4) j k hj2 hk hj e
  rw [this]
theorem rkl_iso {r : List (List Int)} (h : isRk r = true) (h1 : 1 ≤ r.length) (h4 : r.length ≤ 4) (hs : Sq r.length r) : porI r < (rkLst r.length).length ∧ isRk ((rkLst r.length).getD (porI r) []) = true ∧ Sq r.length ((rkLst r.length).getD (porI r) []) ∧ ∃ p, IsoL r.length [r] [(rkLst r.length).getD (porI r) []] p := by
  obtain ⟨k, hk, e⟩ := por_some h h4
  have hex : ∃ x ∈ rkLst r.length, (decide (x = leastL r.length r)) = true := ⟨_, by rw [List.getD_eq_getElem?_getD, List.getElem?_eq_getElem hk] at e; exact (List.getElem_mem hk), by simpa [List.getD_eq_getElem?_getD, List.getElem?_eq_getElem hk] using e⟩
  have hlt : porI r < (rkLst r.length).length := List.findIdx_lt_length_of_exists hex
  have heq : (rkLst r.length).getD (porI r) [] = leastL r.length r := by
    have := List.findIdx_getElem (p := fun s => decide (s = leastL r.length r)) (xs := rkLst r.length) (w := hlt)
    rw [List.getD_eq_getElem?_getD, List.getElem?_eq_getElem hlt]
    exact of_decide_eq_true this
  have hm : (rkLst r.length).getD (porI r) [] ∈ rkLst r.length := by rw [List.getD_eq_getElem?_getD, List.getElem?_eq_getElem hlt]; exact List.getElem_mem hlt
  obtain ⟨q1, q2, q3⟩ := rkl_mem h1 h4 hm
  obtain ⟨p, hp, ep⟩ := lfm_at cmpT_cmp (rnL_wrk h1 h4) hs
  have hP : IsP r.length p := by
    obtain ⟨i, hi, e⟩ := List.getElem_of_mem hp
    have := prm_isP h1 h4 i hi
    rw [List.getD_eq_getElem?_getD, List.getElem?_eq_getElem hi, Option.getD_some, e] at this
    exact this
  have hsq : Sq r.length ((rkLst r.length).getD (porI r) []) := by
    rw [heq, least_lfm, ep]; exact rnL_sq hP hs
  refine ⟨hlt, q1, hsq, p, (isoL_rn hs hsq).2 ⟨hP, ?_⟩⟩
  rw [heq, least_lfm, ep]
theorem rfac_prm : ∀ n : Fin 5, 1 ≤ n.1 → (prmL n.1).length = facN n.1 := by decide +kernel
theorem rsum_take_le {α : Type} (f : α → Nat) (l : List α) (k : Nat) : ((l.take k).map f).sum ≤ (l.map f).sum := by
  have h : (l.map f).sum = ((l.take k ++ l.drop k).map f).sum := by rw [List.take_append_drop]
  rw [h, List.map_append, List.sum_append]; omega
theorem rsum_take_succ {α : Type} (f : α → Nat) (l : List α) (d : α) {k : Nat} (h : k < l.length) : ((l.take (k + 1)).map f).sum = ((l.take k).map f).sum + f (l.getD k d) := by
  rw [List.take_succ_eq_append_getElem h, List.map_append, List.sum_append]
  simp [List.getD_eq_getElem?_getD, List.getElem?_eq_getElem h]
structure RkLs (n : Nat) (L Q : List (List (List Int))) (T F : Nat) : Prop where
  ark : arkF n = (L, 0)
  aqd : aqdF n = (Q, 0)
  crk : crkF n = ((T : Int), 0)
  len : L.length = [0, 1, 2, 6, 19].getD n 0
  qen : Q.length = [0, 1, 1, 3, 7].getD n 0
  mem : ∀ k, k < L.length → isRk (L.getD k []) = true ∧ (L.getD k []).length = n ∧ porF (L.getD k []) = ((k : Int), 0)
  qem : ∀ k, k < Q.length → isRk (Q.getD k []) = true ∧ (Q.getD k []).length = n ∧ qdI n (Q.getD k []) = true
  sum : (L.map (gfN n)).sum = T
  bd : T ≤ 1000000
  fac : facN n = F ∧ F ≤ 24
  gf : ∀ t, isRk t = true → t.length = n → 1 ≤ kpN (fun p t => rnL n t p) (prmL n) t ∧ kpN (fun p t => rnL n t p) (prmL n) t ≤ F ∧ gfN n t = F / kpN (fun p t => rnL n t p) (prmL n) t
theorem isRk_sq {t : List (List Int)} (h : isRk t = true) : 1 ≤ t.length ∧ Sq t.length t := by
  obtain ⟨h1, _, hs⟩ := isTab_sq (show isTab t = true by unfold isRk at h; rw [Bool.and_eq_true] at h; exact h.1)
  exact ⟨h1, hs⟩
theorem rkLs_of {n : Nat} (h1 : 1 ≤ n) (h4 : n ≤ 4) : RkLs n (rkLst n) ((rkLst n).filter fun t => !!qdI n t) (rckN n).length (facN n) := by
  have hL := rkl_lens ⟨n, by omega⟩ h1
  have hv : (1 : Int) ≤ (n : Int) ∧ (n : Int) ≤ 4 := by omega
  have hM : ∀ k, k < (rkLst n).length → isRk ((rkLst n).getD k []) = true ∧ ((rkLst n).getD k []).length = n := fun k hk => by
    have hm : (rkLst n).getD k [] ∈ rkLst n := by rw [List.getD_eq_getElem?_getD, List.getElem?_eq_getElem hk]; exact List.getElem_mem hk
    obtain ⟨q1, q2, _⟩ := rkl_mem h1 h4 hm
    exact ⟨q1, q2⟩
  have hS : ((rkLst n).map (gfN n)).sum = (rckN n).length := by
    rw [← rck_eq ⟨n, by omega⟩ h1]; exact rkl_sum h1 h4
  have hpb := prm_bd h1 h4
  have hpf := rfac_prm ⟨n, by omega⟩ h1
  refine ⟨by unfold arkF; rw [if_pos hv]; rfl, by unfold aqdF; rw [if_pos hv]; rfl, by unfold crkF; rw [if_pos hv]; rfl, hL.1, hL.2, fun k hk => ⟨(hM k hk).1, (hM k hk).2, rkl_at h1 h4 hk⟩, fun k hk => ?_, hS, ?_, ⟨rfl, by rw [← hpf]; exact hpb.1⟩, fun t ht hl => ?_⟩
  · have hm : ((rkLst n).filter fun t => !!qdI n t).getD k [] ∈ (rkLst n).filter fun t => !!qdI n t := by rw [List.getD_eq_getElem?_getD, List.getElem?_eq_getElem hk]; exact List.getElem_mem hk
    obtain ⟨q1, q2⟩ := List.mem_filter.1 hm
    obtain ⟨q3, q4, _⟩ := rkl_mem h1 h4 q1
    exact ⟨q3, q4, by simpa using q2⟩
  · rw [← hS]
    have hb : ∀ (l : List (List (List Int))), (l.map (gfN n)).sum ≤ l.length * 24 := by
      intro l
      induction l with
      | nil => simp
      | cons t l ih =>
        have h1 : gfN n t ≤ 24 := by
          unfold gfN
          exact Nat.le_trans (Nat.div_le_self _ _) hpb.1
        rw [List.map_cons, List.sum_cons, List.length_cons, Nat.succ_mul]; omega
    have := hb (rkLst n)
    have h19 : (rkLst n).length ≤ 19 := by
      show ((rowL n chkR).filter (lstB n)).length ≤ 19
      rw [hL.1]
      have hq : n = 1 ∨ n = 2 ∨ n = 3 ∨ n = 4 := by omega
      rcases hq with rfl | rfl | rfl | rfl <;> simp
    omega
  · subst hl
    refine ⟨kp_pos (rnL_wrk h1 h4) (isRk_sq ht).2, ?_, ?_⟩
    · rw [← hpf]; exact List.length_filter_le _ _
    · unfold gfN; rw [hpf]
theorem rkl_isoN {n : Nat} {r : List (List Int)} (h : isRk r = true) (hl : r.length = n) (h4 : n ≤ 4) : 1 ≤ n ∧ Sq n r ∧ porI r < (rkLst n).length ∧ isRk ((rkLst n).getD (porI r) []) = true ∧ Sq n ((rkLst n).getD (porI r) []) ∧ ∃ p, IsoL n [r] [(rkLst n).getD (porI r) []] p := by
  subst hl
  obtain ⟨h1, hs⟩ := isRk_sq h
  exact ⟨h1, hs, rkl_iso h h1 h4 hs⟩
end Go.Proofs.YtaddclaadbjnlaaGreat

namespace Go.Proofs.YtaddclaadbjnlaaGreat
set_option maxRecDepth 100000
set_option linter.unusedVariables false
set_option linter.unusedSimpArgs false
open Go.RowKit
theorem nodupG_le {n : Nat} {ys : List Int} (h : ys.Nodup) (hx : Less n ys) : ys.length ≤ n := by
  by_cases c : ys.length ≤ n
  · exact c
  have hp := sub_perm (m := (List.range n).map fun k : Nat => (k : Int)) h (fun x hm => by
    obtain ⟨i, hi, rfl⟩ := List.getElem_of_mem hm
    obtain ⟨k, hk, e⟩ := hx i hi
    rw [List.getD_eq_getElem?_getD, List.getElem?_eq_getElem hi, Option.getD_some] at e
    rw [e]
    exact List.mem_map.2 ⟨k, List.mem_range.2 hk, rfl⟩) (by simp; omega)
  have := hp.length_eq
  simp at this; omega
theorem less_snocG {n : Nat} {l : List Int} (h : Less n l) {q : Nat} (hq : q < n) : Less n (l ++ [(q : Int)]) := fun i hi => by
  rw [List.length_append, List.length_singleton] at hi
  by_cases e : i < l.length
  · obtain ⟨k, hk, e2⟩ := h i e
    exact ⟨k, hk, by rw [List.getD_eq_getElem?_getD, List.getElem?_append_left e, ← List.getD_eq_getElem?_getD]; exact e2⟩
  · obtain rfl : i = l.length := by omega
    exact ⟨q, hq, by simp [List.getD_eq_getElem?_getD]⟩
def OrbG (n : Nat) (x : Nat) (ys : List Int) : Prop := ys.Nodup ∧ Less n ys ∧ (x : Int) ∈ ys
theorem OrbG.snoc {n x : Nat} {ys : List Int} (h : OrbG n x ys) {q : Nat} (hq : q < n) (hn : (q : Int) ∉ ys) : OrbG n x (ys ++ [(q : Int)]) :=
  ⟨List.nodup_append.2 ⟨h.1, by simp, fun a ha b hb e => by rw [List.mem_singleton] at hb; subst hb; subst e; exact hn ha⟩, less_snocG h.2.1 hq, List.mem_append_left _ h.2.2⟩
theorem OrbG.le {n x : Nat} {ys : List Int} (h : OrbG n x ys) : ys.length ≤ n := nodupG_le h.1 h.2.1
/-! ### the numbers of the orbits -/
def LabG (n s : Nat) (L : List Int) : Prop := L.length = n ∧ ∀ i, i < n → -1 ≤ L.getD i 0 ∧ L.getD i 0 < s ∧ (i < s → 0 ≤ L.getD i 0)
theorem LabG.zero (n : Nat) : LabG n 0 (List.replicate n (-1)) := ⟨by simp, fun i hi => by
  have : (List.replicate n (-1 : Int)).getD i 0 = -1 := by rw [List.getD_eq_getElem?_getD, List.getElem?_replicate, if_pos hi]; rfl
  rw [this]; omega⟩
end Go.Proofs.YtaddclaadbjnlaaGreat

namespace Go.Proofs.YtaddclaadbjnlaaGreat
set_option maxRecDepth 100000
set_option linter.unusedVariables false
set_option linter.unusedSimpArgs false
open Go.RowKit
/-! ### tables that are read, whose blocks lie from lo on -/
def TbR (w : World) (lo : Nat) (a : Option Addr) (n : Nat) (F : List (List Int)) : Prop :=
  Tbl w a n F ∧ ∀ w' : World, w.heap.size ≤ w'.heap.size → (∀ k, lo ≤ k → k < w.heap.size → w'.heap[k]? = w.heap[k]?) → Tbl w' a n F
theorem TbR.own {w : World} {lo : Nat} {a : Option Addr} {n c : Nat} {vs : List SV} {F : List (List Int)} (h : OwnT w lo a n c vs F) : TbR w lo a n F :=
  ⟨h.tbl, fun w' hs hk => (h.keep fun g hg hl => hk g (h.blo g hg) hl).tbl⟩
theorem TbR.keep {w w' : World} {lo : Nat} {a : Option Addr} {n : Nat} {F : List (List Int)} (h : TbR w lo a n F) (hs : w.heap.size ≤ w'.heap.size) (hk : ∀ k, lo ≤ k → k < w.heap.size → w'.heap[k]? = w.heap[k]?) : TbR w' lo a n F :=
  ⟨h.2 w' hs hk, fun w'' hs2 hk2 => h.2 w'' (Nat.le_trans hs hs2) fun k h1 h2 => (hk2 k h1 (Nat.lt_of_lt_of_le h2 hs)).trans (hk k h1 h2)⟩
theorem TbR.grown {w w' : World} {lo b : Nat} {a : Option Addr} {n : Nat} {F : List (List Int)} (h : TbR w lo a n F) (hg : w.grownBy w' (some b)) (hb : b < lo) : TbR w' lo a n F :=
  h.keep hg.size fun k h1 h2 => hg.block k h2 (fun e => by cases e; omega)
theorem TbR.below {w w' : World} {lo : Nat} {a : Option Addr} {n : Nat} {F : List (List Int)} (h : TbR w lo a n F) (hb : Below w.heap.size w w') : TbR w' lo a n F :=
  h.keep hb.size fun k _ h2 => hb.block k h2
theorem TbR.mono {w : World} {lo lo' : Nat} {a : Option Addr} {n : Nat} {F : List (List Int)} (h : TbR w lo a n F) (hl : lo' ≤ lo) : TbR w lo' a n F :=
  ⟨h.1, fun w' hs hk => h.2 w' hs fun k h1 h2 => hk k (by omega) h2⟩
theorem TbR.setlo {w : World} {lo : Nat} {a : Option Addr} {n : Nat} {F : List (List Int)} (h : TbR w lo a n F) {p : Addr} (hp : p.block < lo) (u : Value) : TbR (w.setCell p u) lo a n F :=
  h.keep (by rw [size_set]; exact Nat.le_refl _) fun k h1 _ => Below.heap_setCell _ _ _ _ (by omega)
theorem Tbl.tail {w : World} {g n : Nat} {F : List (List Int)} (h : Tbl w (some ⟨g, 0, none⟩) n F) (hn : 1 ≤ n) : Tbl w (some ⟨g, 1, none⟩) (n - 1) (F.drop 1) := by
  refine ⟨by rw [List.length_drop, ← h.1], fun i hi => ?_⟩
  obtain ⟨b, off, ai, ni, ci, e, h1, h2, h3, h4⟩ := h.2 (1 + i) (by omega)
  cases e
  refine ⟨g, 1, ai, ni, ci, rfl, h1, by rw [Nat.zero_add] at h2; exact h2, ?_, h4⟩
  have : (F.drop 1).getD i [] = F.getD (1 + i) [] := by rw [List.getD_eq_getElem?_getD, List.getElem?_drop, ← List.getD_eq_getElem?_getD]
  rw [this]; exact h3
theorem TbR.tail {w : World} {lo g n c : Nat} {vs : List SV} {F : List (List Int)} (h : OwnT w lo (some ⟨g, 0, none⟩) n c vs F) (hn : 1 ≤ n) : TbR w lo (some ⟨g, 1, none⟩) (n - 1) (F.drop 1) :=
  ⟨h.tbl.tail hn, fun w' hs hk => ((h.keep fun g hg hl => hk g (h.blo g hg) hl).tbl).tail hn⟩
/-! ### matrices -/
end Go.Proofs.YtaddclaadbjnlaaGreat
