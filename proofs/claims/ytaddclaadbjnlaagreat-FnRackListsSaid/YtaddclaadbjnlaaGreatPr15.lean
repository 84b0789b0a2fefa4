/-
  Walks and plain laws of this seat, some texts in one.
  No condition but bounds on lengths.
-/
import Derived.Test.YtaddclaadbjnlaaGreatPr14
import Derived.Test.YtaddclaadbjnlaaGreatPr3
import Derived.Test.YtaddclaadbjnlaaGreatPr6
import Derived.Test.YtaddclaadbjnlaaGreatPr7
import Derived.Test.YtaddclaadbjnlaaGreatPr4
import Derived.Test.YtaddclaadbjnlaaGreatPr12
import Derived.Test.YtaddclaadbjnlaaGreatPr10
import Derived.Test.YtaddclaadbjnlaaGreatPr13
import Derived.Lib.SliceRun
namespace Go.Proofs.YtaddclaadbjnlaaGreat
set_option maxRecDepth 100000
set_option linter.unusedVariables false
set_option linter.unusedSimpArgs false
open Go.RowKit
def Shp (m n : Nat) (A : List (List (List Int))) : Prop := A.length = m ∧ ∀ k, k < m → (A.getD k []).length = n
theorem finQ {m N k lo c8 n8 : Nat} {a aa ad : Option Addr} {ca : Nat} {vs : List SV} {L : List (List (List (List Int)))} {A : List (List (List Int))} {w w8 : World} (h : LstQ w a N vs L) (hA : TbS w aa m A) (hb : Below w.heap.size w w8)
    (hO : Hq w8 lo ad n8 c8 ([] ++ vs.take k ++ ([(aa, m, ca)] ++ vs.drop k))) (hk : k ≤ N) (e : insQ A L = L.take k ++ A :: L.drop k) (hl : (insQ A L).length = N + 1) (hm : m ≤ 9223372036854775807) :
    ∃ g, ad = some ⟨g, 0, none⟩ ∧ N + 1 ≤ c8 ∧ c8 ≤ 9223372036854775807 ∧ LstQ w8 (some ⟨g, 0, none⟩) (N + 1) (vs.take k ++ (aa, m, ca) :: vs.drop k) (insQ A L) := by
  have hvl := h.hd.1
  have hLl := h.len
  have hn : n8 = N + 1 := by rw [← hO.1]; simp; omega
  subst hn
  rcases hO.block with ⟨h1, h2, _⟩ | ⟨g, cur, h1, h2, h3, h4, h5, h6, h7⟩
  · omega
  · subst h1
    refine ⟨g, rfl, h4, by unfold maxLen at h5; omega, ⟨by simpa using hO.read, hl.symm, fun i hi => ?_⟩⟩
    rw [e]
    have tk : (vs.take k).length = k := by rw [List.length_take]; omega
    have tL : (L.take k).length = k := by rw [List.length_take]; omega
    rcases Nat.lt_trichotomy i k with hik | hik | hik
    · have e1 : (vs.take k ++ (aa, m, ca) :: vs.drop k).getD i svO = vs.getD i svO := by
        rw [List.getD_eq_getElem?_getD, List.getElem?_append_left (by omega), List.getElem?_take, if_pos hik, List.getD_eq_getElem?_getD]
      have e2 : (L.take k ++ A :: L.drop k).getD i [] = L.getD i [] := by
        rw [List.getD_eq_getElem?_getD, List.getElem?_append_left (by omega), List.getElem?_take, if_pos hik, List.getD_eq_getElem?_getD]
      rw [e1, e2]
      exact ⟨(h.el i (by omega)).1.below hb, (h.el i (by omega)).2⟩
    · subst hik
      have e1 : (vs.take i ++ (aa, m, ca) :: vs.drop i).getD i svO = (aa, m, ca) := by
        rw [List.getD_eq_getElem?_getD, List.getElem?_append_right (by omega), tk, Nat.sub_self]; rfl
      have e2 : (L.take i ++ A :: L.drop i).getD i [] = A := by
        rw [List.getD_eq_getElem?_getD, List.getElem?_append_right (by omega), tL, Nat.sub_self]; rfl
      rw [e1, e2]
      exact ⟨hA.below hb, hm⟩
    · obtain ⟨j, rfl⟩ : ∃ j, i = k + 1 + j := ⟨i - k - 1, by omega⟩
      have e1 : (vs.take k ++ (aa, m, ca) :: vs.drop k).getD (k + 1 + j) svO = vs.getD (k + j) svO := by
        rw [List.getD_eq_getElem?_getD, List.getElem?_append_right (by omega), tk, show k + 1 + j - k = j + 1 by omega, List.getElem?_cons_succ, List.getElem?_drop, List.getD_eq_getElem?_getD]
      have e2 : (L.take k ++ A :: L.drop k).getD (k + 1 + j) [] = L.getD (k + j) [] := by
        rw [List.getD_eq_getElem?_getD, List.getElem?_append_right (by omega), tL, show k + 1 + j - k = j + 1 by omega, List.getElem?_cons_succ, List.getElem?_drop, List.getD_eq_getElem?_getD]
      rw [e1, e2]
      exact ⟨(h.el (k + j) (by omega)).1.below hb, (h.el (k + j) (by omega)).2⟩
set_option maxHeartbeats 8000000 in
theorem l19Sort_any (m n N c : Nat) (a aa : Option Addr) (ca : Nat) (vs : List SV) (L : List (List (List (List Int)))) (A : List (List (List Int))) (w : World) (h : LstQ w a N vs L) (hc : N ≤ c) (hc2 : c ≤ 9223372036854775807) (hsome : ∃ b off, a = some ⟨b, off, none⟩) (hA : TbS w aa m A) (hN : N ≤ 1000000) (hm : m ≤ 1000000) (hL : ∀ i, i < N → Shp m n (L.getD i [])) (hSA : Shp m n A) :
    Calls Tryz.prog 85 #[.slice a N c, .slice aa m ca] w fun e w' => ∃ g c' vs', e = .returned (.slice (some ⟨g, 0, none⟩) (N + 1) c') ∧ N + 1 ≤ c' ∧ c' ≤ 9223372036854775807 ∧ LstQ w' (some ⟨g, 0, none⟩) (N + 1) vs' (insQ A L) ∧ Below w.heap.size w w' := by
  obtain ⟨b, off, rfl⟩ := hsome
  have HLL := Lib.hid h.len; have HL := Lib.hid hL; have HSA := Lib.hid hSA
  clear hL hSA
  go_enter Tryz.func85, Tryz.ntmps85
  go_wp2
  go_loopw [5] (fun i wr => ∃ k : Nat, k ≤ N ∧ i = .int .i64 k ∧ Hid (∀ i, i < k → befS (L.getD i []) A = true) ∧ Below w.heap.size w wr) (fun i _ => N - (intOf i).toNat)
  case atStart => exact ⟨0, Nat.zero_le _, rfl, Lib.hid (fun i hi => absurd hi (by omega)), Below.refl _ _⟩
  case round =>
    obtain ⟨k, hk, rfl, HK, hq⟩ := hrel
    have hd := h.hd.below hq
    have hEnd : Hid ((k = N ∨ befS (L.getD k []) A = false) → insQ A L = L.take k ++ A :: L.drop k) := Lib.hid fun h2 => insQ_at (by have := HLL.out; omega) HK.out (by rcases h2 with h2 | h2; exact .inl (by have := HLL.out; omega); exact .inr h2)
    by_cases hlt : k < N
    · obtain ⟨b', off', e', _, g1⟩ := hd.2 k hlt
      cases e'
      obtain ⟨hel, hel2⟩ := h.el k hlt
      obtain ⟨⟨va, vn, vc⟩, HV⟩ : ∃ v, Hid (vs.getD k svO = v) := ⟨_, rfl⟩
      rw [HV.out] at g1 hel hel2
      change wr.cell? _ = some (.slice va vn vc) at g1
      have hshp := HL.out k hlt
      obtain ⟨T, HT⟩ : ∃ T, Hid (L.getD k [] = T) := ⟨_, rfl⟩
      rw [HT.out] at hel hshp
      obtain rfl : m = vn := by have := hel.len; rw [hshp.1] at this; exact this.symm
      have HLN : Hid (∀ k, k < m → (T.getD k []).length ≤ (A.getD k []).length) := Lib.hid fun k hk => by rw [hshp.2 k hk, HSA.out.2 k hk]; exact Nat.le_refl _
      have hTb := TbS.below hel hq
      have hAb := hA.below hq
      have i1 : (0 : Int) ≤ (k : Int) := by omega
      have i2 : (k : Int) < (N : Int) := by omega
      obtain ⟨B, HB⟩ : ∃ B, Hid (befS T A = B) := ⟨_, rfl⟩
      clear hshp hel
      cases B with
      | true =>
        have HKN : Hid (∀ i, i < k + 1 → befS (L.getD i []) A = true) := Lib.hid (step_lt HK.out (by rw [HT.out, HB.out]))
        go_wp2_with fail
        refine (l03Before_any _ _ _ _ _ _ _ _ _ hTb hAb (Nat.le_refl _) (by omega) HLN.out).mono ?_
        rintro e w5 ⟨rfl, hw5⟩
        rw [HB.out]
        have hq5 : Below w.heap.size w w5 := by obtain ⟨k, hk⟩ := hw5; rw [hk]; exact below_drewN hq k
        clear hw5
        go_wp2
        go_roundw
        case rel => exact ⟨k + 1, by omega, by go_num, HKN, hq5⟩
        case measure => simp [intOf]; omega
      | false =>
        have HIN : Hid (insQ A L = L.take k ++ A :: L.drop k) := Lib.hid (hEnd.out (.inr (by rw [HT.out, HB.out])))
        go_wp2_with fail
        refine (l03Before_any _ _ _ _ _ _ _ _ _ hTb hAb (Nat.le_refl _) (by omega) HLN.out).mono ?_
        rintro e w5 ⟨rfl, hw5⟩
        rw [HB.out]
        have hq5 : Below w.heap.size w w5 := by obtain ⟨k, hk⟩ := hw5; rw [hk]; exact below_drewN hq k
        clear hw5 g1 hTb hAb
        have hd5 := h.hd.below hq5
        have hlit := Hq.one w5 rfl (aa, m, ca)
        have hdr := (hd5.drop hk).alloc (.cells #[.slice aa m ca] 70)
        have hA5 := hA.below hq5
        go_wp2_with (at_builtin; first
          | (refine appQ rfl rfl hlit rfl hdr rfl (by omega) (by simp) ?_; intro ad1 cc1 w6 hO1 hg1 hb1; have hb15 : Below w5.heap.size w5 w6 := (below_al (Below.refl _ _) _).trans hb1; have hd6 := ((hd5.take hk).below hb15).alloc (.cells #[] 70); have hz6 := hb15.size)
          | (refine appQ rfl rfl (Hq.fresh w6 rfl) rfl hd6 rfl (by omega) (by simp) ?_; intro ad2 cc2 w7 hO2 hg2 hb2; rw [Nat.zero_add] at hO2 ⊢; have hb26 : Below w6.heap.size w6 w7 := (below_al (Below.refl _ _) _).trans hb2; have hO17 := (hO1.below hb26).read; have hz7 := hb26.size)
          | (refine appQ rfl rfl hO2 rfl hO17 rfl (by omega) hz7 ?_; intro ad3 cc3 w8 hO3 hg3 hb3))
        have hb57 : Below w5.heap.size w5 w8 := hb15.trans ((hb26.mono hz6).trans (hb3.mono hz6))
        have hfin := finQ (h.below hq5) (hA.below hq5) hb57 hO3 hk HIN.out (by rw [HIN.out]; simp; have := HLL.out; omega) (by omega)
        obtain ⟨g8, rfl, hn8, hc8, hl8⟩ := hfin
        go_ret
        exact ⟨g8, cc3, _, by show Ending.returned (.slice _ (k + (1 + (N - k))) _) = _; rw [show k + (1 + (N - k)) = N + 1 by omega], hn8, hc8, hl8, hq5.trans (hb57.mono hq5.size)⟩
    · obtain rfl : N = k := by omega
      have HIN : Hid (insQ A L = L.take N ++ A :: L.drop N) := Lib.hid (hEnd.out (.inl rfl))
      have hvd : vs.drop N = [] := by rw [List.drop_of_length_le (by have := h.hd.1; omega)]
      have hdX : ∀ X, HdR (wr.alloc (.cells #[.slice aa m ca] 70)) X 0 (vs.drop N) := fun X => by rw [hvd]; exact HdR.nil _
      have hlit := Hq.one wr rfl (aa, m, ca)
      have hkk : N ≤ N := Nat.le_refl _
      have hzr := hq.size
      have i3 : (N : Int) ≤ (N : Int) := by omega
      have i4 : (0 : Int) ≤ (N : Int) := by omega
      have hdL := h.hd.below hq
      have HHQ := Lib.hid h
      clear hvd h
      by_cases hcN : c = N
      · subst hcN
        go_wp2_with (at_builtin; first
          | (refine appQ rfl rfl hlit rfl (hdX _) rfl (by omega) (by simp) ?_; intro ad1 cc1 w6 hO1 hg1 hb1; have hb15 : Below wr.heap.size wr w6 := (below_al (Below.refl _ _) _).trans hb1; have hd6 := ((hdL.take hkk).below hb15).alloc (.cells #[] 70); have hz6 := hb15.size)
          | (refine appQ rfl rfl (Hq.fresh w6 rfl) rfl hd6 rfl (by omega) (by simp) ?_; intro ad2 cc2 w7 hO2 hg2 hb2; rw [Nat.zero_add] at hO2 ⊢; have hb26 : Below w6.heap.size w6 w7 := (below_al (Below.refl _ _) _).trans hb2; have hO17 := (hO1.below hb26).read; have hz7 := hb26.size)
          | (refine appQ rfl rfl hO2 rfl hO17 rfl (by omega) hz7 ?_; intro ad3 cc3 w8 hO3 hg3 hb3))
        have hb57 : Below wr.heap.size wr w8 := hb15.trans ((hb26.mono hz6).trans (hb3.mono hz6))
        have hfin := finQ (HHQ.out.below hq) (hA.below hq) hb57 hO3 hkk HIN.out (by rw [HIN.out]; simp; have := HLL.out; omega) (by omega)
        obtain ⟨g8, rfl, hn8, hc8, hl8⟩ := hfin
        go_ret
        exact ⟨g8, cc3, rfl, hn8, hc8, ⟨_, hl8⟩, hq.trans (hb57.mono hq.size)⟩
      · go_wp2_with (at_builtin; first
          | (refine appQ rfl rfl hlit rfl (hdX _) rfl (by omega) (by simp) ?_; intro ad1 cc1 w6 hO1 hg1 hb1; have hb15 : Below wr.heap.size wr w6 := (below_al (Below.refl _ _) _).trans hb1; have hd6 := ((hdL.take hkk).below hb15).alloc (.cells #[] 70); have hz6 := hb15.size)
          | (refine appQ rfl rfl (Hq.fresh w6 rfl) rfl hd6 rfl (by omega) (by simp) ?_; intro ad2 cc2 w7 hO2 hg2 hb2; rw [Nat.zero_add] at hO2 ⊢; have hb26 : Below w6.heap.size w6 w7 := (below_al (Below.refl _ _) _).trans hb2; have hO17 := (hO1.below hb26).read; have hz7 := hb26.size)
          | (refine appQ rfl rfl hO2 rfl hO17 rfl (by omega) hz7 ?_; intro ad3 cc3 w8 hO3 hg3 hb3))
        have hb57 : Below wr.heap.size wr w8 := hb15.trans ((hb26.mono hz6).trans (hb3.mono hz6))
        have hfin := finQ (HHQ.out.below hq) (hA.below hq) hb57 hO3 hkk HIN.out (by rw [HIN.out]; simp; have := HLL.out; omega) (by omega)
        obtain ⟨g8, rfl, hn8, hc8, hl8⟩ := hfin
        go_ret
        exact ⟨g8, cc3, rfl, hn8, hc8, ⟨_, hl8⟩, hq.trans (hb57.mono hq.size)⟩
end Go.Proofs.YtaddclaadbjnlaaGreat

namespace Go.Proofs.YtaddclaadbjnlaaGreat
set_option maxRecDepth 100000
set_option linter.unusedVariables false
set_option linter.unusedSimpArgs false
open Go.RowKit
structure Sol (w : World) (a : Option Addr) (n : Nat) (xss : List (List Int)) (a' : Option Addr) (n' : Nat) (yss : List (List Int)) : Prop where
  f : Tbl w a n xss
  s : Tbl w a' n' yss
def SolS (a : Option Addr) (n : Nat) (vs : List SV) (a' : Option Addr) (n' : Nat) (vs' : List SV) (g : Nat) : Prop := TblS a n vs g ∨ TblS a' n' vs' g
structure OwnS (w : World) (lo : Nat) (a : Option Addr) (n c : Nat) (vs : List SV) (xss : List (List Int)) (a' : Option Addr) (n' c' : Nat) (vs' : List SV) (yss : List (List Int)) : Prop where
  f : OwnT w lo a n c vs xss
  s : OwnT w lo a' n' c' vs' yss
  ap : ∀ g, TblS a n vs g → ¬ TblS a' n' vs' g
section
variable {w w' : World} {lo : Nat} {a a' a1 a1' a2 a2' : Option Addr} {n n' c c' n1 n1' n2 n2' c1 c1' c2 c2' : Nat} {vs vs' : List SV} {xss yss : List (List Int)}
theorem Sol.below (h : Sol w a n xss a' n' yss) (hb : Below w.heap.size w w') : Sol w' a n xss a' n' yss := ⟨h.f.below hb, h.s.below hb⟩
theorem Sol.alloc (h : Sol w a n xss a' n' yss) (o : Obj) : Sol (w.alloc o) a n xss a' n' yss := ⟨h.f.alloc o, h.s.alloc o⟩
theorem Sol.drewN (h : Sol w a n xss a' n' yss) (k : Nat) : Sol (w.drewN k) a n xss a' n' yss := ⟨h.f.drewN k, h.s.drewN k⟩
theorem OwnS.below (h : OwnS w lo a n c vs xss a' n' c' vs' yss) (hb : Below w.heap.size w w') : OwnS w' lo a n c vs xss a' n' c' vs' yss := ⟨h.f.below hb, h.s.below hb, h.ap⟩
theorem OwnS.alloc (h : OwnS w lo a n c vs xss a' n' c' vs' yss) (o : Obj) : OwnS (w.alloc o) lo a n c vs xss a' n' c' vs' yss := ⟨h.f.alloc o, h.s.alloc o, h.ap⟩
theorem OwnS.drewN (h : OwnS w lo a n c vs xss a' n' c' vs' yss) (k : Nat) : OwnS (w.drewN k) lo a n c vs xss a' n' c' vs' yss := ⟨h.f.drewN k, h.s.drewN k, h.ap⟩
theorem OwnS.mono {lo' : Nat} (h : OwnS w lo a n c vs xss a' n' c' vs' yss) (hl : lo' ≤ lo) : OwnS w lo' a n c vs xss a' n' c' vs' yss := ⟨h.f.mono hl, h.s.mono hl, h.ap⟩
theorem OwnS.cap (h : OwnS w lo a n c vs xss a' n' c' vs' yss) : (n ≤ c ∧ c ≤ 9223372036854775807) ∧ n' ≤ c' ∧ c' ≤ 9223372036854775807 := ⟨h.f.cap, h.s.cap⟩
theorem OwnS.uLo (h : OwnS w lo a n c vs xss a' n' c' vs' yss) : ∀ g, SolS a n vs a' n' vs' g → lo ≤ g := fun g hg => hg.elim (h.f.uLo g) (h.s.uLo g)
theorem OwnS.uHi (h : OwnS w lo a n c vs xss a' n' c' vs' yss) : ∀ g, SolS a n vs a' n' vs' g → g < w.heap.size := fun g hg => hg.elim (h.f.uHi g) (h.s.uHi g)
theorem OwnS.uKeep (h : OwnS w lo a n c vs xss a' n' c' vs' yss) {S : Nat → Prop} (hm : Marked S w w') (hS : ∀ g, SolS a n vs a' n' vs' g → ¬ S g) : OwnS w' lo a n c vs xss a' n' c' vs' yss :=
  ⟨h.f.uKeep hm fun g hg => hS g (.inl hg), h.s.uKeep hm fun g hg => hS g (.inr hg), h.ap⟩
end
end Go.Proofs.YtaddclaadbjnlaaGreat

namespace Go.Proofs.YtaddclaadbjnlaaGreat
set_option maxRecDepth 100000
set_option linter.unusedVariables false
set_option linter.unusedSimpArgs false
open Go.RowKit
set_option maxHeartbeats 1000000 in
theorem l03Quandle_any (a : Option Addr) (n c : Nat) (t : List (List Int)) (w : World) (h : Tbl w a n t) (hf : Sq n t) (hn1 : 1 ≤ n) (hn : n ≤ 12) :
    Calls Tryz.prog 83 #[rAgg a n c] w fun e w' => e = .returned (.bool (qndOk n t)) ∧ Below w.heap.size w w' := by
  have hA := Loc.new w rfl #[.slice a n c] 34
  have hB := below_al (Below.refl w.heap.size w) (.cells #[.slice a n c] 34)
  obtain ⟨bf, of, A, O, C, rfl, gf⟩ := h.grid hf (by omega)
  clear h hf
  go_enter Tryz.func83, Tryz.ntmps83
  go_wp2
  generalize w.alloc (.cells #[.slice (some ⟨bf, of, none⟩) n c] 34) = w0 at *
  have lA := hA.one
  go_loop [3] (fun i => ∃ k : Nat, k ≤ n ∧ i = .int .i64 k ∧ Hid (∀ j, j < k → tv t j j = j)) (fun i => n - (intOf i).toNat)
  case atStart => exact ⟨0, Nat.zero_le _, rfl, Lib.hid fun j hj => absurd hj (by omega)⟩
  case round =>
    obtain ⟨k, hk, rfl, hI⟩ := hrel
    by_cases hlt : k < n
    · obtain ⟨r1, k1⟩ := (gf.below hB).look hlt hlt
      have HD : Hid (∀ V, tv t k k = V → (V ≠ k → qndOk n t = false)) := Lib.hid fun V hV h0 => allN_no hlt (decide_eq_false (by rw [hV]; exact h0))
      generalize hV : tv t k k = V at *
      have HV := Lib.hid hV
      clear hV
      by_cases h0 : V = k
      · subst h0
        have hb : (((V : Nat) : Int) != ((V : Nat) : Int)) = false := by simp
        go_wp2
        go_round
        case rel =>
          refine ⟨V + 1, by omega, by go_num, Lib.hid fun j hj => ?_⟩
          by_cases e : j = V
          · subst e; exact HV.out
          · exact hI.out j (by omega)
        case measure => simp [intOf]; omega
      · have hb : (((V : Nat) : Int) != ((k : Nat) : Int)) = true := by simp; omega
        have HDF := Lib.hid (HD.out V rfl h0)
        go_wp2
        go_ret
        exact ⟨ret_bool (by rw [HDF.out]), hB⟩
    · obtain rfl : k = n := by omega
      have HDT : Hid (qndOk k t = true) := Lib.hid (allN_mk fun x hx => decide_eq_true (hI.out x hx))
      go_wp2
      go_ret
      exact ⟨ret_bool (by rw [HDT.out]), hB⟩
end Go.Proofs.YtaddclaadbjnlaaGreat

namespace Go.Proofs.YtaddclaadbjnlaaGreat
set_option maxRecDepth 100000
set_option linter.unusedVariables false
set_option linter.unusedSimpArgs false
structure Cmp {α : Type} (c : α → α → Int) : Prop where
  eq : ∀ x y, c x y = 0 ↔ x = y
  anti : ∀ x y, c y x = - c x y
  trans : ∀ x y z, c x y < 0 → c y z < 0 → c x z < 0
theorem cmpI_cmp : Cmp cmpI := by
  refine ⟨fun x y => cmpI_eq, fun x y => ?_, fun x y z h1 h2 => ?_⟩
  · unfold cmpI
    by_cases h1 : x < y
    · rw [if_pos h1, if_neg (by omega), if_pos h1]; rfl
    · by_cases h2 : y < x
      · simp [h1, h2]
      · simp [h1, h2]
  · unfold cmpI at *
    split at h1
    · split at h2
      · rw [if_pos (by omega)]; omega
      · split at h2 <;> omega
    · split at h1 <;> omega
theorem cmpG_cmp {α : Type} {c : α → α → Int} (h : Cmp c) : Cmp (cmpG c) := by
  refine ⟨cmpG_eq h.eq, ?_, ?_⟩
  · intro xs
    induction xs with
    | nil => intro ys; cases ys <;> simp [cmpG]
    | cons x xs ih =>
      intro ys
      cases ys with
      | nil => simp [cmpG]
      | cons y ys =>
        simp only [cmpG]
        have h1 := h.anti x y
        by_cases e : c x y = 0
        · rw [if_pos e, if_pos (by omega)]; exact ih ys
        · rw [if_neg e, if_neg (by omega)]; exact h1
  · intro xs
    induction xs with
    | nil =>
      intro ys zs h1 h2
      cases ys with
      | nil => exact h2
      | cons y ys => cases zs with
        | nil => simp [cmpG] at h2
        | cons z zs => simp [cmpG]
    | cons x xs ih =>
      intro ys zs h1 h2
      cases ys with
      | nil => simp [cmpG] at h1
      | cons y ys =>
        cases zs with
        | nil => simp [cmpG] at h2
        | cons z zs =>
          simp only [cmpG] at *
          by_cases e1 : c x y = 0
          · rw [if_pos e1] at h1
            have : x = y := (h.eq _ _).1 e1
            subst this
            by_cases e2 : c x z = 0
            · rw [if_pos e2] at h2 ⊢; exact ih _ _ h1 h2
            · rw [if_neg e2] at h2 ⊢; exact h2
          · rw [if_neg e1] at h1
            by_cases e2 : c y z = 0
            · have : y = z := (h.eq _ _).1 e2
              subst this
              rw [if_neg e1]; exact h1
            · rw [if_neg e2] at h2
              have h3 := h.trans x y z h1 h2
              rw [if_neg (by omega)]; exact h3
theorem cmpL_cmp : Cmp cmpL := cmpG_cmp cmpI_cmp
theorem Cmp.refl {α : Type} {c : α → α → Int} (h : Cmp c) (x : α) : c x x = 0 := (h.eq x x).2 rfl
end Go.Proofs.YtaddclaadbjnlaaGreat

namespace Go.Proofs.YtaddclaadbjnlaaGreat
set_option maxRecDepth 100000
set_option linter.unusedVariables false
set_option linter.unusedSimpArgs false
def totS (L : List (List (List Int))) : Nat := (L.map tot).sum
theorem totS_cons (x : List (List Int)) (r : List (List (List Int))) : totS (x :: r) = tot x + totS r := by
  simp only [totS, List.map_cons, List.sum_cons]
end Go.Proofs.YtaddclaadbjnlaaGreat

namespace Go.Proofs.YtaddclaadbjnlaaGreat
set_option maxRecDepth 100000
set_option linter.unusedVariables false
set_option linter.unusedSimpArgs false
open Go.RowKit
def RetLRk (w : World) (L : List (List (List Int))) (code : Int) (e : Ending) (w' : World) : Prop := ∃ a k c us, e = .returned (.tuple #[.slice a k c, .int .i64 code]) ∧ OwnRk w' w.heap.size a k c us L ∧ Below w.heap.size w w'
theorem OwnRk.tbS {w : World} {lo : Nat} {a : Option Addr} {n c : Nat} {us : List TV} {ts : List (List (List Int))} (h : OwnRk w lo a n c us ts) : TbS w a n ts := by
  refine ⟨h.len, fun i hi => ?_⟩
  obtain ⟨g, h1, h2, h3, _⟩ := h.cells (by omega)
  have hv := h.tab i hi
  exact ⟨g, 0, _, _, _, h1, h2, by rw [Nat.zero_add]; exact h3 i hi, OwnT.tbl hv, by have := OwnT.cap hv; omega⟩
theorem OwnRk.mark {w w' : World} {lo : Nat} {a : Option Addr} {n c : Nat} {us : List TV} {ts : List (List (List Int))} (h : OwnRk w lo a n c us ts) {i : Nat} (hi : i < n) {t : List (List Int)} (hv : OwnV w' lo (us.getD i tvO) t) (hm : Marked (TvS (us.getD i tvO)) w w') : OwnRk w' lo a n c us (ts.set i t) := by
  refine ⟨by rw [List.length_set]; exact h.len, h.ulen, ?_, fun j hj => ?_, h.ap, h.pw⟩
  · rcases h.block with ⟨h1, h2, h3⟩ | ⟨g, cur, h1, h2, h3, h4, h5, h6, h7⟩
    · omega
    · subst h1
      exact ownsRowRk_mk h.ulen h2 ((hm.block g h3.lt (h.ap i hi g rfl)).trans h3) h4 h5 h6 h7
  · rw [getD_set' _ _ _ _ _ (by have := h.len; omega)]
    by_cases e : j = i
    · subst e; rw [if_pos rfl]; exact hv
    · rw [if_neg e]
      exact OwnT.keep (h.tab j hj) fun g hg hlt => hm.block g hlt (fun h1 => h.pw j i hj hi e g hg h1)
end Go.Proofs.YtaddclaadbjnlaaGreat

namespace Go.Proofs.YtaddclaadbjnlaaGreat
set_option maxRecDepth 100000
set_option linter.unusedVariables false
set_option linter.unusedSimpArgs false
open Go.RowKit
def TstR (w : World) (F : FuncId) (lb : Array Value) (p : List (List Int) → Bool) (ts : List (List (List Int))) : Prop :=
  (∀ (args : Array Value) (w : World), (callFunc F args).run Tryz.prog w = .ok (.enter F args) w) ∧ ∀ i, i < ts.length → ∀ w', Below w.heap.size w w' → ∀ va vn vc, Tbl w' va vn (ts.getD i []) → Calls Tryz.prog F (#[.agg #[.slice va vn vc]] ++ lb) w' fun e w'' => e = .returned (.bool (p (ts.getD i []))) ∧ Below w'.heap.size w' w''
def IdxR (p : List (List Int) → Bool) (ts : List (List (List Int))) (r : Int) : Prop := (∃ k, k < ts.length ∧ r = (k : Int) ∧ p (ts.getD k []) = true ∧ ∀ j, j < k → p (ts.getD j []) = false) ∨ (r = -1 ∧ ∀ j, j < ts.length → p (ts.getD j []) = false)
set_option maxHeartbeats 4000000 in
theorem indexRk_any (F : FuncId) (lb : Array Value) (p : List (List Int) → Bool) (a : Option Addr) (n c : Nat) (ts : List (List (List Int))) (w : World) (h : TbS w a n ts) (hn : n ≤ 1000000000) (hf : TstR w F lb p ts) :
    Calls Tryz.prog 49 #[.slice a n c, .func (.func F) #[] lb] w fun e w' => (∃ r, e = .returned (.int .i64 r) ∧ IdxR p ts r) ∧ Below w.heap.size w w' := by
  have HL := Lib.hid h.len
  have EG := hf.1
  have HF := Lib.hid hf.2
  clear hf
  go_enter Tryz.func49, Tryz.ntmps49
  go_wp2
  go_loopw [5, 8] (fun _ i wr => ∃ k : Nat, k ≤ n ∧ i = .int .i64 k ∧ Below w.heap.size w wr ∧ Hid (∀ j, j < k → p (ts.getD j []) = false)) (fun _ i _ => n - (intOf i).toNat)
  case atStart => exact ⟨0, Nat.zero_le _, rfl, Below.refl _ _, Lib.hid fun j hj => absurd hj (by omega)⟩
  case round =>
    obtain ⟨k, hk, rfl, hq, HK⟩ := hrel
    by_cases hlt : k < n
    · obtain ⟨b, off, va, vn, vc, rfl, ck, tk, lk⟩ := (h.below hq).at k hlt
      have i1 : (0 : Int) ≤ (k : Int) := by omega
      have i2 : (k : Int) < (n : Int) := by omega
      obtain ⟨B, HB⟩ : ∃ B, Hid (p (ts.getD k []) = B) := ⟨_, rfl⟩
      have HC := Lib.hid (HF.out k (by have := HL.out; omega) wr hq va vn vc tk)
      cases B with
      | true =>
        go_wp2_with fail
        refine HC.out.mono ?_
        rintro e w3 ⟨rfl, hb3⟩
        rw [HB.out]
        go_wp2
        go_ret
        exact ⟨⟨_, rfl, .inl ⟨k, by have := HL.out; omega, rfl, HB.out, HK.out⟩⟩, below_th hq hb3⟩
      | false =>
        go_wp2_with fail
        refine HC.out.mono ?_
        rintro e w3 ⟨rfl, hb3⟩
        rw [HB.out]
        go_wp2
        go_roundw
        case rel => exact ⟨k + 1, by omega, by go_num, below_th hq hb3, Lib.hid fun j hj => by
          by_cases e : j = k
          · subst e; exact HB.out
          · exact HK.out j (by omega)⟩
        case measure => simp [intOf]; omega
    · obtain rfl : n = k := by omega
      go_wp2
      go_ret
      exact ⟨⟨_, rfl, .inr ⟨rfl, fun j hj => HK.out j (by have := HL.out; omega)⟩⟩, hq⟩
end Go.Proofs.YtaddclaadbjnlaaGreat

namespace Go.Proofs.YtaddclaadbjnlaaGreat
set_option maxRecDepth 100000
set_option linter.unusedVariables false
set_option linter.unusedSimpArgs false
open Go.RowKit
theorem run_clear_cells {P : Program} (w : World) (t e ty : TypeId) (z z0 : Value) (ht : P.underlying t = some (.slice e)) (hv : ∀ w, (zeroValue e).run P w = .ok z w) (hz : z.cells = #[z0]) (h1 : z0.oneCell' = true) (b o n c : Nat) (hn : 0 < n)
    (hc : ∀ j, j < n → (w.cell? ⟨b, o + j, none⟩).isSome = true) (hf : ∀ j, j < n → w.frozen? ⟨b, o + j, none⟩ = false) :
    (Builtin.clear_ #[t] ty #[.slice (some ⟨b, o, none⟩) n c]).run P w = .ok (.tuple #[]) (w.setCells b o (List.replicate n z0)) := by
  have hzc : (Builtin.zeroCells z.cells n).toList = List.replicate n z0 := by
    rw [hz]
    simp [Builtin.zeroCells]
    apply List.ext_getElem
    · simp
    · intro i h1 h2
      simp [Nat.mod_one]
  have hst := run_storeCells_cells (P := P) b o (List.replicate n z0) 0 w (by simpa using hc) (by simpa using hf) (by intro v hv'; rw [List.eq_of_mem_replicate hv']; exact h1)
  simp only [Nat.add_zero] at hst
  obtain ⟨m, rfl⟩ : ∃ m, n = m + 1 := ⟨n - 1, by omega⟩
  simp [Builtin.clear_, run_underlying ht, hv, hzc, hst]
def TstA (F : FuncId) (lb : Array Value) (p : List (List Int) → Bool) (ts : List (List (List Int))) : Prop :=
  (∀ (args : Array Value) (w : World), (callFunc F args).run Tryz.prog w = .ok (.enter F args) w) ∧ ∀ i, i < ts.length → ∀ w' va vn vc, Tbl w' va vn (ts.getD i []) → Calls Tryz.prog F (#[.agg #[.slice va vn vc]] ++ lb) w' fun e w'' => e = .returned (.bool (p (ts.getD i []))) ∧ Below w'.heap.size w' w''
theorem TstA.tstR {F : FuncId} {lb : Array Value} {p : List (List Int) → Bool} {ts : List (List (List Int))} (h : TstA F lb p ts) (w : World) : TstR w F lb p ts := ⟨h.1, fun i hi w' _ va vn vc ht => h.2 i hi w' va vn vc ht⟩
def HkR (w : World) (g n c : Nat) (hs : Nat → TV) : Prop := ∃ cur : Array Value, Loc w g cur 34 ∧ cur.size = c ∧ n ≤ c ∧ c ≤ maxLen ∧ ∀ x, x < n → cur[x]? = some (slT (hs x))
theorem HkR.below {w w' : World} {g n c : Nat} {hs : Nat → TV} (h : HkR w g n c hs) (hb : Below w.heap.size w w') : HkR w' g n c hs := by
  obtain ⟨cur, h1, h2⟩ := h; exact ⟨cur, h1.below hb h1.lt, h2⟩
theorem HkR.cell {w : World} {g n c : Nat} {hs : Nat → TV} (h : HkR w g n c hs) {x : Nat} (hx : x < n) : w.cell? ⟨g, x, none⟩ = some (slT (hs x)) := by
  obtain ⟨cur, h1, h2, h3, h4, h5⟩ := h; exact h1.cell x (h5 x hx)
theorem HkR.free {w : World} {g n c : Nat} {hs : Nat → TV} (h : HkR w g n c hs) (x : Nat) : w.frozen? ⟨g, x, none⟩ = false := by
  obtain ⟨cur, h1, h2⟩ := h; exact h1.free x
theorem HkR.set {w : World} {g n c : Nat} {hs : Nat → TV} (h : HkR w g n c hs) {i : Nat} (hi : i < n) (u : TV) : HkR (w.setCell ⟨g, i, none⟩ (slT u)) g n c (fun x => if x = i then u else hs x) := by
  obtain ⟨cur, h1, h2, h3, h4, h5⟩ := h
  refine ⟨cur.setIfInBounds i (slT u), h1.set i _, by simpa using h2, h3, h4, fun x hx => ?_⟩
  by_cases e : x = i
  · subst e
    show _ = some (slT (if x = x then u else hs x))
    rw [if_pos rfl, Array.getElem?_setIfInBounds_self_of_lt (by omega)]
  · show _ = some (slT (if x = i then u else hs x))
    rw [if_neg e, Array.getElem?_setIfInBounds_ne (fun h => e h.symm)]
    exact h5 x hx
theorem HkR.setCells {n c g : Nat} : ∀ (vs : List Value) (o : Nat) (w : World) (hs : Nat → TV), o ≤ n → HkR w g o c hs → HkR (w.setCells g o vs) g o c hs := by
  intro vs
  induction vs with
  | nil => intro o w hs _ h; exact h
  | cons v vs ih =>
    intro o w hs ho h
    have key : ∀ (vs : List Value) (q : Nat) (w : World), o ≤ q → HkR w g o c hs → HkR (w.setCells g q vs) g o c hs := by
      intro vs
      induction vs with
      | nil => intro q w _ h; exact h
      | cons v vs ih2 =>
        intro q w hq h
        refine ih2 (q + 1) _ (by omega) ?_
        obtain ⟨cur, h1, h2, h3, h4, h5⟩ := h
        refine ⟨cur.setIfInBounds q v, h1.set q _, by simpa using h2, h3, h4, fun x hx => ?_⟩
        rw [Array.getElem?_setIfInBounds_ne (by omega)]
        exact h5 x hx
    exact key (v :: vs) o w (Nat.le_refl _) h
theorem OwnRk.hk {w : World} {lo g n c : Nat} {us : List TV} {ts : List (List (List Int))} (h : OwnRk w lo (some ⟨g, 0, none⟩) n c us ts) : HkR w g n c (fun x => us.getD x tvO) := by
  rcases h.block with ⟨h1, _⟩ | ⟨g', cur, h1, h2, h3, h4, h5, h6, h7⟩
  · cases h1
  · cases h1
    refine ⟨cur, h3, h6, h4, h5, fun x hx => ?_⟩
    have hq : (cur.toList.take n)[x]? = (us.map slT)[x]? := by rw [h7]
    have hxi : x < us.length := by have := h.ulen; omega
    rw [List.getElem?_take, if_pos hx] at hq
    simp [List.getElem?_eq_getElem hxi] at hq
    simp [List.getD_eq_getElem?_getD, List.getElem?_eq_getElem hxi, hq]
theorem OwnRk.kept {w w' : World} {lo g n c i : Nat} {us : List TV} {ts : List (List (List Int))} (h : OwnRk w lo (some ⟨g, 0, none⟩) n c us ts) (js : List Nat) (hi : js.length = i) (hlt : js.Pairwise (· < ·)) (hn : ∀ x ∈ js, x < n) (hk : HkR w' g i c (fun x => us.getD (js.getD x 0) tvO)) (hv : ∀ x, x < n → OwnV w' lo (us.getD x tvO) (ts.getD x [])) :
    OwnRk w' lo (some ⟨g, 0, none⟩) i c (js.map fun x => us.getD x tvO) (js.map fun x => ts.getD x []) := by
  subst hi
  have hg : ∀ x, x < js.length → js.getD x 0 ∈ js := fun x hx => by
    rw [List.getD_eq_getElem?_getD, List.getElem?_eq_getElem hx]; exact List.getElem_mem hx
  have eu : ∀ x, x < js.length → (js.map fun x => us.getD x tvO).getD x tvO = us.getD (js.getD x 0) tvO := fun x hx => by
    simp [List.getD_eq_getElem?_getD, List.getElem?_eq_getElem hx]
  have et : ∀ x, x < js.length → (js.map fun x => ts.getD x []).getD x [] = ts.getD (js.getD x 0) [] := fun x hx => by
    simp [List.getD_eq_getElem?_getD, List.getElem?_eq_getElem hx]
  have hlo := h.low g rfl
  obtain ⟨cur, h1, h2, h3, h4, h5⟩ := hk
  refine ⟨by simp, by simp, ?_, fun x hx => ?_, fun x hx q hq => ?_, fun x y hx hy hxy q h6 => ?_⟩
  · refine ownsRowRk_mk (by simp) hlo h1 h3 h4 h2 ?_
    apply List.ext_getElem?
    intro x
    by_cases hx : x < js.length
    · rw [List.getElem?_take, if_pos hx, Array.getElem?_toList, h5 x hx]
      simp [List.getElem?_eq_getElem hx, List.getD_eq_getElem?_getD]
    · rw [List.getElem?_take, if_neg hx]
      exact (List.getElem?_eq_none (by simp; omega)).symm
  · rw [eu x hx, et x hx]; exact hv _ (hn _ (hg x hx))
  · cases hq; rw [eu x hx]; exact h.ap _ (hn _ (hg x hx)) _ rfl
  · rw [eu x hx] at h6
    rw [eu y hy]
    have hne : js.getD x 0 ≠ js.getD y 0 := by
      have hp := List.pairwise_iff_getElem.1 hlt
      rw [List.getD_eq_getElem?_getD, List.getElem?_eq_getElem hx, List.getD_eq_getElem?_getD, List.getElem?_eq_getElem hy]
      simp only [Option.getD_some]
      rcases Nat.lt_or_ge x y with e | e
      · have := hp x y hx hy e; omega
      · have := hp y x hy hx (by omega); omega
    exact h.pw _ _ (hn _ (hg x hx)) (hn _ (hg y hy)) hne q h6
end Go.Proofs.YtaddclaadbjnlaaGreat
