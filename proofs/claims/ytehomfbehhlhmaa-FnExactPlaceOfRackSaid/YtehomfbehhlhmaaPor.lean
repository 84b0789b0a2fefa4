/-
  PlaceOfRack: what the reference's and the program's compute.
  No condition but bounds.
-/
import Derived.Test.YtehomfbehhlhmaaBase3
import Derived.Deep.DeepCutAuto
namespace Go.Proofs.Ytehomfbehhlhmaa
set_option maxRecDepth 100000
set_option linter.unusedVariables false
set_option linter.unusedSimpArgs false
open Go.RowKit

theorem porF_no {t : List (List Int)} (h : isRk t = false) : porF t = (0, 1) := by unfold porF; rw [h]; rfl
theorem porF_big {t : List (List Int)} (h : isRk t = true) (h4 : ¬ t.length ≤ 4) : porF t = (0, 3) := by unfold porF; rw [h, if_pos rfl, if_neg h4]
theorem porF_in {t : List (List Int)} (h : isRk t = true) (h4 : t.length ≤ 4) : porF t = (((porI t : Nat) : Int), 0) := by unfold porF; rw [h, if_pos rfl, if_pos h4]
/-- what the two calls leave -/
def PorMade (w w1 : World) (L : List (List (List Int))) (M : List (List Int)) (s4 s5 : Value) (wx : World) : Prop :=
  ∃ a1 k1 c1 a2 c2, s4 = .slice a1 k1 c1 ∧ s5 = .slice a2 1 c2 ∧ TbS wx a1 k1 L ∧ TbS wx a2 1 [M] ∧ k1 ≤ 1000000 ∧ Below w.heap.size w wx

set_option maxHeartbeats 8000000 in
theorem spec_Por_l (a : Option Addr) (n c : Nat) (t : List (List Int)) (w : World) (h1 : Tbl w a n t) (hm : n ≤ 9223372036854775807) :
    Calls Try.prog 61 #[rAgg a n c] w (RetI w (porF t).1 (porF t).2) := by
  have hA := Loc.new w rfl #[.slice a n c] 65
  have hB := below_al (Below.refl w.heap.size w) (.cells #[.slice a n c] 65)
  have h1' := h1.alloc (.cells #[.slice a n c] 65)
  have HN := Lib.hid h1.len
  have lA := hA.one
  cases hk : isRk t with
  | false =>
    rw [porF_no hk]
    have HK := Lib.hid hk; clear hk
    go_enter Try.func61, Try.ntmps61
    go_wp2_with fail
    refine (l03Is_any _ _ _ t _ h1' hm).mono ?_
    rintro e w1 ⟨rfl, hb1⟩
    rw [HK.out]
    go_wp2
    go_ret2
    exact ⟨rfl, below_th hB hb1⟩
  | true =>
    by_cases h4 : n ≤ 4
    · rw [porF_in hk (by rw [← HN.out]; exact h4)]
      obtain ⟨n1, _, sq⟩ := isTab_sq (isRk_parts hk).1
      obtain ⟨k0, hk0, ek0⟩ := por_some hk (by rw [← HN.out]; exact h4)
      have HI := Lib.hid (fun k hk => porI_of (t := t) (k := k) hk)
      rw [← HN.out] at n1 sq hk0 ek0
      obtain ⟨L, HL⟩ : ∃ L, Hid (rkLst n = L) := ⟨_, rfl⟩
      obtain ⟨M, HM⟩ : ∃ M, Hid (leastL n t = M) := ⟨_, rfl⟩
      have HI2 : Hid (∀ k, k < L.length → L.getD k [] = M → (∀ j, j < k → L.getD j [] ≠ M) → porI t = k) := Lib.hid (by rw [← HL.out, ← HM.out, HN.out]; exact HI.out)
      clear HI
      rw [HL.out] at hk0 ek0
      rw [HM.out] at ek0
      have HLS : Hid (leaS n [t] = [M]) := Lib.hid (by rw [leaS_one sq.1, HM.out])
      have HRL : Hid (srtL n (fun t => !false || qndOk n t) (rckN n) = L) := Lib.hid (by rw [ark_eq n1 h4]; exact HL.out)
      have HLB : Hid (L.length ≤ 1000000) := Lib.hid (by rw [← HL.out]; exact (lists_bd n1 h4 chkR (lstB n)).1)
      have HSQ := Lib.hid sq
      have HK := Lib.hid hk
      have HK0 := Lib.hid (And.intro hk0 ek0)
      obtain ⟨R, HR⟩ : ∃ R : Nat, Hid (porI t = R) := ⟨_, rfl⟩
      rw [HR.out] at HI2
      rw [HR.out]
      clear hk sq hk0 ek0
      go_enter Try.func61, Try.ntmps61
      go_wp2_with fail
      refine (l03Is_any _ _ _ t _ h1' hm).mono ?_
      rintro e w1 ⟨rfl, hb1⟩
      rw [HK.out]
      have hA1 := hA.below hb1 (by simp)
      have lA1 := hA1.one
      have hB1 := below_th hB hb1
      have hlt1 := hA1.lt
      have t1 := h1'.below hb1
      have hgt : ¬ (4 : Int) < (n : Int) := by omega
      clear hA hB h1' lA hb1
      go_upto_region 5 with fail
      go_cut [4, 5] (fun s4 s5 wx => PorMade w w1 L M s4 s5 wx)
      case first =>
        have tok1 : True := trivial
        have HSS : Hid (∀ k, k < 1 → Sq n (([t] : List (List (List Int))).getD k [])) := Lib.hid fun k hk => by
          obtain rfl : k = 0 := by omega
          exact HSQ.out
        go_region_held3 (fun w' => w'.cell? ⟨w.heap.size, 0, none⟩ = some (.slice a n c))
          (first | exact lD | exact lC | exact lB' | exact lB | exact lA1' | exact lA1.1 | go_keep)
          (first
            | (go_at_call 113; have _t := tok1; refine (l19List_any n false _ n1 h4).mono ?_; rintro e w2 ⟨a2, k2, c2, us2, rfl, ho2, hb2⟩; clear _t tok1; have tok2 : True := trivial; have hq2 : Below w1.heap.size w1 w2 := below_th (below_drewN (Below.refl _ _) 1) hb2; have hA2 := hA1.below hq2 hlt1; have lB := hA2.one.1; have lB' := (hA2.alloc (.cells #[.slice a n c] 43)).one.1)
            | (go_at_call 113; have _t := tok1; refine (l19List_any n false _ n1 h4).mono ?_; rintro e w2 ⟨a2, k2, c2, us2, rfl, ho2, hb2⟩; clear _t tok1; have tok3 : True := trivial; have hq2 : Below w1.heap.size w1 w2 := below_alth (below_drewN (Below.refl _ _) 1) hb2; have hL2 : TbS w2 (some ⟨w1.heap.size, 0, none⟩) 1 [t] := (TbS.one rfl (t1.drewN 1) hm _).below hb2; have hA2 := hA1.below hq2 hlt1; have lB := hA2.one.1)
            | (go_at_call 129; have _t := tok2; refine (l03Least_any n 1 (some ⟨w2.heap.size, 0, none⟩) 1 [t] _ (TbS.one rfl (t1.below hq2) hm _) n1 h4 (by omega) (by omega) HSS.out).mono ?_; rintro e w3 ⟨a3, c3, us3, rfl, ho3, hb3⟩; clear _t tok2; have hq3 : Below w2.heap.size w2 w3 := below_alth (Below.refl _ _) hb3; have lC := (hA2.below hq3 hA2.lt).one.1)
            | (go_at_call 129; have _t := tok3; refine (l03Least_any n 1 (some ⟨w1.heap.size, 0, none⟩) 1 [t] _ hL2 n1 h4 (by omega) (by omega) HSS.out).mono ?_; rintro e w3 ⟨a3, c3, us3, rfl, ho3, hb3⟩; clear _t tok3; have hq3 : Below w2.heap.size w2 w3 := hb3; have lC := (hA2.below hq3 hA2.lt).one.1))
        all_goals (rw [HRL.out] at ho2; rw [HLS.out] at ho3; go_wp2_with fail; go_meet; exact ⟨a2, k2, c2, a3, c3, rfl, rfl, ho2.tbS.below hq3, ho3.tbS, by have := ho2.len; have := HLB.out; omega, hB1.trans ((hq2.mono hB1.size).trans (hq3.mono (Nat.le_trans hB1.size hq2.size)))⟩)
      case rest =>
        obtain ⟨a1, N, c1, a2, c2, rfl, rfl, tL, tM, hN1, hB2⟩ := hcut
        have HNL := Lib.hid tL.len
        go_wp2
        go_loopw [6] (fun i wr => ∃ k : Nat, k ≤ N ∧ i = .int .i64 k ∧ Hid (∀ j, j < k → L.getD j [] ≠ M) ∧ Hid (∃ m, wr = wc.drewN m)) (fun i _ => N - (intOf i).toNat)
        case atStart => exact ⟨0, Nat.zero_le _, rfl, Lib.hid fun j hj => absurd hj (by omega), Lib.hid ⟨0, rfl⟩⟩
        case round =>
          obtain ⟨k, hk, rfl, HT, HW⟩ := hrel
          by_cases hlt : k < N
          · have tLr : TbS wr a1 N L := by obtain ⟨m, hm⟩ := HW.out; rw [hm]; exact tL.drewN m
            have tMr : TbS wr a2 1 [M] := by obtain ⟨m, hm⟩ := HW.out; rw [hm]; exact tM.drewN m
            obtain ⟨b3, o3, a3, n3, c3, rfl, g3, r3, l3⟩ := tLr.at k hlt
            obtain ⟨b4, o4, a4, n4, c4, rfl, g4, r4, l4⟩ := tMr.at 0 Nat.zero_lt_one
            rw [Nat.add_zero] at g4
            have r4 : Tbl wr a4 n4 M := r4
            obtain ⟨X, HX⟩ : ∃ X, Hid (L.getD k [] = X) := ⟨_, rfl⟩
            rw [HX.out] at r3
            have j1 : (0 : Int) ≤ (k : Int) := by omega
            have j2 : (k : Int) < (N : Int) := by omega
            clear tLr tMr
            obtain ⟨D, HD⟩ : ∃ D, Hid (decide (X = M) = D) := ⟨_, rfl⟩
            have HSA : Hid (∀ m, Calls Try.prog 130 #[.slice a3 n3 c3, .slice a4 n4 c4] (wr.drewN m) fun e w'' => e = .returned (.bool D) ∧ ∃ k, w'' = wr.drewN k) := Lib.hid fun m => (l01Same2_any a3 a4 n3 n4 c3 c4 X M (wr.drewN m) (r3.drewN m) (r4.drewN m) l3).mono fun e w'' ⟨he, k, hk⟩ => ⟨by rw [he, HD.out], m + k, by rw [hk, World.drewN_drewN]⟩
            cases D with
            | true =>
              have HRK : Hid (R = k) := Lib.hid (HI2.out k (by have := HNL.out; omega) (by rw [HX.out]; exact of_decide_eq_true HD.out) HT.out)
              go_wp2
              go_quiet ((go_at_call 130; exact HSA.out _))
              go_wp2
              go_ret2
              exact ⟨by rw [HRK.out]; rfl, by obtain ⟨m, hm⟩ := HW.out; rw [hm]; exact below_drewN (below_drewN hB2 _) _⟩
            | false =>
              go_wp2
              go_quiet ((go_at_call 130; exact HSA.out _))
              go_wp2
              go_roundw
              case rel => exact ⟨k + 1, by omega, by go_num, Lib.hid fun j hj => by
                by_cases e : j = k
                · subst e; rw [HX.out]; exact of_decide_eq_false HD.out
                · exact HT.out j (by omega), Lib.hid (by obtain ⟨m, hm⟩ := HW.out; exact ⟨m + nq, by rw [hm, World.drewN_drewN]⟩)⟩
              case measure => simp [intOf]; omega
          · exact absurd HK0.out.2 (HT.out k0 (by have := HK0.out.1; have := HNL.out; omega))
    · rw [porF_big hk (by rw [← HN.out]; exact h4)]
      have hgt : (4 : Int) < (n : Int) := by omega
      have HK := Lib.hid hk; clear hk
      go_enter Try.func61, Try.ntmps61
      go_wp2_with fail
      refine (l03Is_any _ _ _ t _ h1' hm).mono ?_
      rintro e w1 ⟨rfl, hb1⟩
      rw [HK.out]
      have lA1 := (hA.below hb1 (by simp)).one
      go_wp2
      go_ret2
      exact ⟨rfl, below_th hB hb1⟩

/-- the closure, as a test of the racks of the list -/
theorem por1_any (b : Nat) (tb : TypeId) (a m : Option Addr) (k n c cm : Nat) (t M : List (List Int)) (w : World) (hL : Loc w b #[.slice m k cm] tb) (h1 : Tbl w a n t) (h2 : Tbl w m k M) (hn : n ≤ 9223372036854775807) :
    Calls Try.prog 135 #[rAgg a n c, .pointer (some ⟨b, 0, none⟩)] w fun e w' => e = .returned (.bool (decide (t = M))) ∧ Below w.heap.size w w' := by
  have hA := Loc.new w rfl #[.slice a n c] 65
  have hB := below_al (Below.refl w.heap.size w) (.cells #[.slice a n c] 65)
  have lA := hA.one
  have lL := (hL.below hB hL.lt).one
  go_enter Try.func135, Try.ntmps135
  go_wp2_with fail
  refine (equalTables_any _ _ _ _ _ _ _ _ _ (h1.below hB) (h2.below hB) hn).mono ?_
  rintro e w1 ⟨rfl, rfl⟩
  go_wp2
  go_ret
  exact ⟨rfl, hB⟩
theorem idxR_nat {p : List (List Int) → Bool} {ts : List (List (List Int))} {r : Int} (h : IdxR p ts r) (hs : ∃ k, k < ts.length ∧ p (ts.getD k []) = true) : ∃ k, k < ts.length ∧ r = (k : Int) ∧ p (ts.getD k []) = true ∧ ∀ j, j < k → p (ts.getD j []) = false := by
  rcases h with h | ⟨_, h⟩
  · exact h
  · obtain ⟨k, hk, e⟩ := hs
    rw [h k hk] at e; cases e

set_option maxHeartbeats 8000000 in
theorem impl_Por_l (a : Option Addr) (n c : Nat) (t : List (List Int)) (w : World) (h1 : Tbl w a n t) (hm : n ≤ 9223372036854775807) :
    Calls Try.prog 63 #[rAgg a n c] w (RetI w (porF t).1 (porF t).2) := by
  have hA := Loc.new w rfl #[.slice a n c] 65
  have hB := below_al (Below.refl w.heap.size w) (.cells #[.slice a n c] 65)
  have h1' := h1.alloc (.cells #[.slice a n c] 65)
  have HN := Lib.hid h1.len
  have lA := hA.one
  cases hk : isRk t with
  | false =>
    rw [porF_no hk]
    have HK := Lib.hid hk; clear hk
    go_enter Try.func63, Try.ntmps63
    go_wp2_with fail
    refine (isRack_any _ _ _ t _ h1' hm).mono ?_
    rintro e w1 ⟨rfl, hb1⟩
    rw [HK.out]
    go_wp2
    go_ret2
    exact ⟨rfl, below_th hB hb1⟩
  | true =>
    by_cases h4 : n ≤ 4
    · rw [porF_in hk (by rw [← HN.out]; exact h4)]
      obtain ⟨n1, _, sq⟩ := isTab_sq (isRk_parts hk).1
      obtain ⟨k0, hk0, ek0⟩ := por_some hk (by rw [← HN.out]; exact h4)
      have HI := Lib.hid (fun k hk => porI_of (t := t) (k := k) hk)
      rw [← HN.out] at n1 sq hk0 ek0
      obtain ⟨L, HL⟩ : ∃ L, Hid (rkLst n = L) := ⟨_, rfl⟩
      obtain ⟨M, HM⟩ : ∃ M, Hid (leastL n t = M) := ⟨_, rfl⟩
      have HI2 : Hid (∀ k, k < L.length → L.getD k [] = M → (∀ j, j < k → L.getD j [] ≠ M) → porI t = k) := Lib.hid (by rw [← HL.out, ← HM.out, HN.out]; exact HI.out)
      clear HI
      rw [HL.out] at hk0 ek0
      rw [HM.out] at ek0
      have HRL : Hid ((rowL n chkR).filter (lstB n) = L) := Lib.hid HL.out
      have HLB : Hid (L.length ≤ 1000000) := Lib.hid (by rw [← HL.out]; exact (lists_bd n1 h4 chkR (lstB n)).1)
      have HSQ := Lib.hid sq
      have HK := Lib.hid hk
      have HK0 : Hid (∃ k, k < L.length ∧ decide (L.getD k [] = M) = true) := Lib.hid ⟨k0, hk0, by rw [ek0]; simp⟩
      have HML : Hid (M.length = n) := Lib.hid (by rw [← HM.out]; exact leastL_len sq.1)
      obtain ⟨R, HR⟩ : ∃ R : Nat, Hid (porI t = R) := ⟨_, rfl⟩
      rw [HR.out] at HI2
      rw [HR.out]
      clear hk sq hk0 ek0
      go_enter Try.func63, Try.ntmps63
      go_wp2_with fail
      refine (isRack_any _ _ _ t _ h1' hm).mono ?_
      rintro e w1 ⟨rfl, hb1⟩
      rw [HK.out]
      have hA1 := hA.below hb1 (by simp)
      have lA1 := hA1.one
      have hB1 := below_th hB hb1
      have t1 := h1'.below hb1
      have hgt : ¬ (4 : Int) < (n : Int) := by omega
      clear hA hB h1' lA hb1
      go_wp2_with fail
      refine (leastTable_any n a c t w1 n1 h4 t1 HSQ.out).mono ?_
      rintro e w2 ⟨a2, c2, vs2, rfl, ho2, hb2⟩
      rw [HM.out] at ho2
      have hB2 := below_th hB1 hb2
      obtain ⟨w3, hw3⟩ : ∃ w3, (w2.alloc (.cells #[.slice none 0 0] 43)).setCell ⟨w2.heap.size, 0, none⟩ (.slice a2 n c2) = w3 := ⟨_, rfl⟩
      have hL3 : Loc w3 w2.heap.size #[.slice a2 n c2] 43 := by rw [← hw3]; exact (Loc.new w2 rfl _ _).set 0 _
      have hb3 : Below w2.heap.size w2 w3 := by rw [← hw3]; exact (below_al (Below.refl _ _) _).setCell (Nat.le_refl _) _
      have hB3 := below_th hB2 hb3
      have lL3 := hL3.one
      have tM := ho2.tbl.below hb3
      go_wp2_with fail
      refine (allRacks_any n _ n1 h4).mono ?_
      rintro e w4 ⟨a4, k4, c4, us4, rfl, ho4, hb4⟩
      rw [HRL.out] at ho4
      have hB4 := below_th hB3 hb4
      have hL4 := hL3.below hb4 hL3.lt
      have hk4 : k4 ≤ 1000000000 := by have := ho4.len; have := HLB.out; omega
      have HT : Hid (TstR w4 135 #[.pointer (some ⟨w2.heap.size, 0, none⟩)] (fun s => decide (s = M)) L) := Lib.hid ⟨fun args w => rfl, fun i hi w' hb va vn vc ht => by
        have hl : (L.getD i []).length = n := by
          have hm : L.getD i [] ∈ L := by rw [List.getD_eq_getElem?_getD, List.getElem?_eq_getElem hi]; exact List.getElem_mem hi
          rw [← HRL.out] at hm ⊢
          exact rowL_len _ (List.mem_filter.1 hm).1
        refine por1_any w2.heap.size _ va a2 n vn vc c2 _ M w' (hL4.below hb hL4.lt) ht ((tM.below hb4).below hb) ?_
        have := ht.len
        omega⟩
      go_wp2_with fail
      refine (indexRk_any _ _ _ a4 k4 c4 L w4 ho4.tbS hk4 HT.out).mono ?_
      rintro e w5 ⟨⟨r, rfl, hr⟩, hb5⟩
      obtain ⟨k, hk1, rfl, hk2, hk3⟩ := idxR_nat hr HK0.out
      have HRK : Hid (R = k) := Lib.hid (HI2.out k hk1 (of_decide_eq_true hk2) fun j hj => of_decide_eq_false (hk3 j hj))
      have hkk : k ≤ 1000000 := by have := HLB.out; omega
      clear hk2 hk3 hr
      go_wp2
      go_ret2
      exact ⟨by rw [HRK.out]; rfl, below_th hB4 hb5⟩
    · rw [porF_big hk (by rw [← HN.out]; exact h4)]
      have hgt : (4 : Int) < (n : Int) := by omega
      have HK := Lib.hid hk; clear hk
      go_enter Try.func63, Try.ntmps63
      go_wp2_with fail
      refine (isRack_any _ _ _ t _ h1' hm).mono ?_
      rintro e w1 ⟨rfl, hb1⟩
      rw [HK.out]
      have lA1 := (hA.below hb1 (by simp)).one
      go_wp2
      go_ret2
      exact ⟨rfl, below_th hB hb1⟩
end Go.Proofs.Ytehomfbehhlhmaa
