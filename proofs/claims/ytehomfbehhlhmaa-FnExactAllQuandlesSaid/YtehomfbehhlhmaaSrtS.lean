/-
  The reference puts tables into a list in order.
  No condition but bounds.
-/
import Derived.Test.YtehomfbehhlhmaaHdQ
namespace Go.Proofs.Ytehomfbehhlhmaa
set_option maxRecDepth 100000
set_option linter.unusedVariables false
set_option linter.unusedSimpArgs false
open Go.RowKit

/-- m tables of n rows -/
def Shp (m n : Nat) (A : List (List (List Int))) : Prop := A.length = m ∧ ∀ k, k < m → (A.getD k []).length = n

theorem finQ {m N k lo c8 n8 : Nat} {a aa ad : Option Addr} {ca : Nat} {vs : List SV} {L : List (List (List (List Int)))} {A : List (List (List Int))} {w w8 : World} (h : LstQ w a N vs L) (hA : TbS w aa m A) (hb : Below w.heap.size w w8)
    (hO : Hq w8 lo ad n8 c8 ([] ++ vs.take k ++ ([(aa, m, ca)] ++ vs.drop k))) (hk : k ≤ N) (e : insQ A L = L.take k ++ A :: L.drop k) (hl : (insQ A L).length = N + 1) (hm : m ≤ 9223372036854775807) :
    ∃ g, ad = some ⟨g, 0, none⟩ ∧ N + 1 ≤ c8 ∧ c8 ≤ 9223372036854775807 ∧ LstQ w8 (some ⟨g, 0, none⟩) (N + 1) (vs.take k ++ (aa, m, ca) :: vs.drop k) (insQ A L) := by
  have hvl := h.hd.1
  have hLl := h.len
  have hn : n8 = N + 1 := by rw [← hO.1]; simp; omega
  subst hn
  rcases hO.block with ⟨h1, h2, _⟩ | ⟨g, cur, h1, h2, h3, h4, h5, h6, h7⟩
  · omega
  · subst h1
    refine ⟨g, rfl, h4, by unfold maxLen at h5; omega, ⟨by simpa using hO.read, hl.symm, fun i hi => ?_⟩⟩
    rw [e]
    have tk : (vs.take k).length = k := by rw [List.length_take]; omega
    have tL : (L.take k).length = k := by rw [List.length_take]; omega
    rcases Nat.lt_trichotomy i k with hik | hik | hik
    · have e1 : (vs.take k ++ (aa, m, ca) :: vs.drop k).getD i svO = vs.getD i svO := by
        rw [List.getD_eq_getElem?_getD, List.getElem?_append_left (by omega), List.getElem?_take, if_pos hik, List.getD_eq_getElem?_getD]
      have e2 : (L.take k ++ A :: L.drop k).getD i [] = L.getD i [] := by
        rw [List.getD_eq_getElem?_getD, List.getElem?_append_left (by omega), List.getElem?_take, if_pos hik, List.getD_eq_getElem?_getD]
      rw [e1, e2]
      exact ⟨(h.el i (by omega)).1.below hb, (h.el i (by omega)).2⟩
    · subst hik
      have e1 : (vs.take i ++ (aa, m, ca) :: vs.drop i).getD i svO = (aa, m, ca) := by
        rw [List.getD_eq_getElem?_getD, List.getElem?_append_right (by omega), tk, Nat.sub_self]; rfl
      have e2 : (L.take i ++ A :: L.drop i).getD i [] = A := by
        rw [List.getD_eq_getElem?_getD, List.getElem?_append_right (by omega), tL, Nat.sub_self]; rfl
      rw [e1, e2]
      exact ⟨hA.below hb, hm⟩
    · obtain ⟨j, rfl⟩ : ∃ j, i = k + 1 + j := ⟨i - k - 1, by omega⟩
      have e1 : (vs.take k ++ (aa, m, ca) :: vs.drop k).getD (k + 1 + j) svO = vs.getD (k + j) svO := by
        rw [List.getD_eq_getElem?_getD, List.getElem?_append_right (by omega), tk, show k + 1 + j - k = j + 1 by omega, List.getElem?_cons_succ, List.getElem?_drop, List.getD_eq_getElem?_getD]
      have e2 : (L.take k ++ A :: L.drop k).getD (k + 1 + j) [] = L.getD (k + j) [] := by
        rw [List.getD_eq_getElem?_getD, List.getElem?_append_right (by omega), tL, show k + 1 + j - k = j + 1 by omega, List.getElem?_cons_succ, List.getElem?_drop, List.getD_eq_getElem?_getD]
      rw [e1, e2]
      exact ⟨(h.el (k + j) (by omega)).1.below hb, (h.el (k + j) (by omega)).2⟩

set_option maxHeartbeats 8000000 in
theorem l19Sort_any (m n N c : Nat) (a aa : Option Addr) (ca : Nat) (vs : List SV) (L : List (List (List (List Int)))) (A : List (List (List Int))) (w : World) (h : LstQ w a N vs L) (hc : N ≤ c) (hc2 : c ≤ 9223372036854775807) (hsome : ∃ b off, a = some ⟨b, off, none⟩) (hA : TbS w aa m A) (hN : N ≤ 1000000) (hm : m ≤ 1000000) (hL : ∀ i, i < N → Shp m n (L.getD i [])) (hSA : Shp m n A) :
    Calls Try.prog 123 #[.slice a N c, .slice aa m ca] w fun e w' => ∃ g c' vs', e = .returned (.slice (some ⟨g, 0, none⟩) (N + 1) c') ∧ N + 1 ≤ c' ∧ c' ≤ 9223372036854775807 ∧ LstQ w' (some ⟨g, 0, none⟩) (N + 1) vs' (insQ A L) ∧ Below w.heap.size w w' := by
  obtain ⟨b, off, rfl⟩ := hsome
  have HLL := Lib.hid h.len; have HL := Lib.hid hL; have HSA := Lib.hid hSA
  clear hL hSA
  go_enter Try.func123, Try.ntmps123
  go_wp2
  go_loopw [5] (fun i wr => ∃ k : Nat, k ≤ N ∧ i = .int .i64 k ∧ Hid (∀ i, i < k → befS (L.getD i []) A = true) ∧ Below w.heap.size w wr) (fun i _ => N - (intOf i).toNat)
  case atStart => exact ⟨0, Nat.zero_le _, rfl, Lib.hid (fun i hi => absurd hi (by omega)), Below.refl _ _⟩
  case round =>
    obtain ⟨k, hk, rfl, HK, hq⟩ := hrel
    have hd := h.hd.below hq
    have hEnd : Hid ((k = N ∨ befS (L.getD k []) A = false) → insQ A L = L.take k ++ A :: L.drop k) := Lib.hid fun h2 => insQ_at (by have := HLL.out; omega) HK.out (by rcases h2 with h2 | h2; exact .inl (by have := HLL.out; omega); exact .inr h2)
    by_cases hlt : k < N
    · obtain ⟨b', off', e', _, g1⟩ := hd.2 k hlt
      cases e'
      obtain ⟨hel, hel2⟩ := h.el k hlt
      obtain ⟨⟨va, vn, vc⟩, HV⟩ : ∃ v, Hid (vs.getD k svO = v) := ⟨_, rfl⟩
      rw [HV.out] at g1 hel hel2
      change wr.cell? _ = some (.slice va vn vc) at g1
      have hshp := HL.out k hlt
      obtain ⟨T, HT⟩ : ∃ T, Hid (L.getD k [] = T) := ⟨_, rfl⟩
      rw [HT.out] at hel hshp
      obtain rfl : m = vn := by have := hel.len; rw [hshp.1] at this; exact this.symm
      have HLN : Hid (∀ k, k < m → (T.getD k []).length ≤ (A.getD k []).length) := Lib.hid fun k hk => by rw [hshp.2 k hk, HSA.out.2 k hk]; exact Nat.le_refl _
      have hTb := TbS.below hel hq
      have hAb := hA.below hq
      have i1 : (0 : Int) ≤ (k : Int) := by omega
      have i2 : (k : Int) < (N : Int) := by omega
      obtain ⟨B, HB⟩ : ∃ B, Hid (befS T A = B) := ⟨_, rfl⟩
      clear hshp hel
      cases B with
      | true =>
        have HKN : Hid (∀ i, i < k + 1 → befS (L.getD i []) A = true) := Lib.hid (step_lt HK.out (by rw [HT.out, HB.out]))
        go_wp2_with fail
        refine (l03Before_any _ _ _ _ _ _ _ _ _ hTb hAb (Nat.le_refl _) (by omega) HLN.out).mono ?_
        rintro e w5 ⟨rfl, hw5⟩
        rw [HB.out]
        have hq5 : Below w.heap.size w w5 := by obtain ⟨k, hk⟩ := hw5; rw [hk]; exact below_drewN hq k
        clear hw5
        go_wp2
        go_roundw
        case rel => exact ⟨k + 1, by omega, by go_num, HKN, hq5⟩
        case measure => simp [intOf]; omega
      | false =>
        have HIN : Hid (insQ A L = L.take k ++ A :: L.drop k) := Lib.hid (hEnd.out (.inr (by rw [HT.out, HB.out])))
        go_wp2_with fail
        refine (l03Before_any _ _ _ _ _ _ _ _ _ hTb hAb (Nat.le_refl _) (by omega) HLN.out).mono ?_
        rintro e w5 ⟨rfl, hw5⟩
        rw [HB.out]
        have hq5 : Below w.heap.size w w5 := by obtain ⟨k, hk⟩ := hw5; rw [hk]; exact below_drewN hq k
        clear hw5 g1 hTb hAb
        have hd5 := h.hd.below hq5
        have hlit := Hq.one w5 rfl (aa, m, ca)
        have hdr := (hd5.drop hk).alloc (.cells #[.slice aa m ca] 90)
        have hA5 := hA.below hq5
        go_wp2_with (at_builtin; first
          | (refine appQ rfl rfl hlit rfl hdr rfl (by omega) (by simp) ?_; intro ad1 cc1 w6 hO1 hg1 hb1; have hb15 : Below w5.heap.size w5 w6 := (below_al (Below.refl _ _) _).trans hb1; have hd6 := ((hd5.take hk).below hb15).alloc (.cells #[] 90); have hz6 := hb15.size)
          | (refine appQ rfl rfl (Hq.fresh w6 rfl) rfl hd6 rfl (by omega) (by simp) ?_; intro ad2 cc2 w7 hO2 hg2 hb2; rw [Nat.zero_add] at hO2 ⊢; have hb26 : Below w6.heap.size w6 w7 := (below_al (Below.refl _ _) _).trans hb2; have hO17 := (hO1.below hb26).read; have hz7 := hb26.size)
          | (refine appQ rfl rfl hO2 rfl hO17 rfl (by omega) hz7 ?_; intro ad3 cc3 w8 hO3 hg3 hb3))
        have hb57 : Below w5.heap.size w5 w8 := hb15.trans ((hb26.mono hz6).trans (hb3.mono hz6))
        have hfin := finQ (h.below hq5) (hA.below hq5) hb57 hO3 hk HIN.out (by rw [HIN.out]; simp; have := HLL.out; omega) (by omega)
        obtain ⟨g8, rfl, hn8, hc8, hl8⟩ := hfin
        go_ret
        exact ⟨g8, cc3, _, by show Ending.returned (.slice _ (k + (1 + (N - k))) _) = _; rw [show k + (1 + (N - k)) = N + 1 by omega], hn8, hc8, hl8, hq5.trans (hb57.mono hq5.size)⟩
    · obtain rfl : N = k := by omega
      have HIN : Hid (insQ A L = L.take N ++ A :: L.drop N) := Lib.hid (hEnd.out (.inl rfl))
      have hvd : vs.drop N = [] := by rw [List.drop_of_length_le (by have := h.hd.1; omega)]
      have hdX : ∀ X, HdR (wr.alloc (.cells #[.slice aa m ca] 90)) X 0 (vs.drop N) := fun X => by rw [hvd]; exact HdR.nil _
      have hlit := Hq.one wr rfl (aa, m, ca)
      have hkk : N ≤ N := Nat.le_refl _
      have hzr := hq.size
      have i3 : (N : Int) ≤ (N : Int) := by omega
      have i4 : (0 : Int) ≤ (N : Int) := by omega
      have hdL := h.hd.below hq
      have HHQ := Lib.hid h
      clear hvd h
      by_cases hcN : c = N
      · subst hcN
        go_wp2_with (at_builtin; first
          | (refine appQ rfl rfl hlit rfl (hdX _) rfl (by omega) (by simp) ?_; intro ad1 cc1 w6 hO1 hg1 hb1; have hb15 : Below wr.heap.size wr w6 := (below_al (Below.refl _ _) _).trans hb1; have hd6 := ((hdL.take hkk).below hb15).alloc (.cells #[] 90); have hz6 := hb15.size)
          | (refine appQ rfl rfl (Hq.fresh w6 rfl) rfl hd6 rfl (by omega) (by simp) ?_; intro ad2 cc2 w7 hO2 hg2 hb2; rw [Nat.zero_add] at hO2 ⊢; have hb26 : Below w6.heap.size w6 w7 := (below_al (Below.refl _ _) _).trans hb2; have hO17 := (hO1.below hb26).read; have hz7 := hb26.size)
          | (refine appQ rfl rfl hO2 rfl hO17 rfl (by omega) hz7 ?_; intro ad3 cc3 w8 hO3 hg3 hb3))
        have hb57 : Below wr.heap.size wr w8 := hb15.trans ((hb26.mono hz6).trans (hb3.mono hz6))
        have hfin := finQ (HHQ.out.below hq) (hA.below hq) hb57 hO3 hkk HIN.out (by rw [HIN.out]; simp; have := HLL.out; omega) (by omega)
        obtain ⟨g8, rfl, hn8, hc8, hl8⟩ := hfin
        go_ret
        exact ⟨g8, cc3, rfl, hn8, hc8, ⟨_, hl8⟩, hq.trans (hb57.mono hq.size)⟩
      · go_wp2_with (at_builtin; first
          | (refine appQ rfl rfl hlit rfl (hdX _) rfl (by omega) (by simp) ?_; intro ad1 cc1 w6 hO1 hg1 hb1; have hb15 : Below wr.heap.size wr w6 := (below_al (Below.refl _ _) _).trans hb1; have hd6 := ((hdL.take hkk).below hb15).alloc (.cells #[] 90); have hz6 := hb15.size)
          | (refine appQ rfl rfl (Hq.fresh w6 rfl) rfl hd6 rfl (by omega) (by simp) ?_; intro ad2 cc2 w7 hO2 hg2 hb2; rw [Nat.zero_add] at hO2 ⊢; have hb26 : Below w6.heap.size w6 w7 := (below_al (Below.refl _ _) _).trans hb2; have hO17 := (hO1.below hb26).read; have hz7 := hb26.size)
          | (refine appQ rfl rfl hO2 rfl hO17 rfl (by omega) hz7 ?_; intro ad3 cc3 w8 hO3 hg3 hb3))
        have hb57 : Below wr.heap.size wr w8 := hb15.trans ((hb26.mono hz6).trans (hb3.mono hz6))
        have hfin := finQ (HHQ.out.below hq) (hA.below hq) hb57 hO3 hkk HIN.out (by rw [HIN.out]; simp; have := HLL.out; omega) (by omega)
        obtain ⟨g8, rfl, hn8, hc8, hl8⟩ := hfin
        go_ret
        exact ⟨g8, cc3, rfl, hn8, hc8, ⟨_, hl8⟩, hq.trans (hb57.mono hq.size)⟩
end Go.Proofs.Ytehomfbehhlhmaa
