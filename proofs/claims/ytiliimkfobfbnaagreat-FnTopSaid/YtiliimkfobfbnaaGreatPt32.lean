/-
  Walks and plain laws of this seat, some texts in one.
  No condition but bounds on lengths.
-/
import Derived.Test.YtiliimkfobfbnaaGreatPt31
import Derived.Test.YtiliimkfobfbnaaGreatPt25
namespace Go.Proofs.YtiliimkfobfbnaaGreat
set_option maxRecDepth 100000
set_option linter.unusedVariables false
set_option linter.unusedSimpArgs false
open Go.RowKit
theorem ownsRowV_mk {w : World} {lo g n c : Nat} {vs : List SV} {cur : Array Value} (hn : vs.length = n) (h1 : lo ≤ g) (h2 : Loc w g cur 24) (h3 : n ≤ c) (h4 : c ≤ maxLen) (h5 : cur.size = c) (h6 : cur.toList.take n = vs.map sl) :
    w.ownsRow lo 24 1 (.slice (some ⟨g, 0, none⟩) n c) n (vs.map sl) :=
  ⟨by simp [hn], .inr ⟨g, c, cur, rfl, h1, h2, h3, h4, by simpa using h5, by simpa using h6⟩⟩
def Hv (w : World) (lo : Nat) (a : Option Addr) (n c : Nat) (vs : List SV) : Prop := vs.length = n ∧ w.ownsRow lo 24 1 (.slice a n c) n (vs.map sl)
section
variable {w w' : World} {lo : Nat} {a : Option Addr} {n c : Nat} {vs : List SV}
theorem Hv.nil (w : World) (lo : Nat) : Hv w lo none 0 0 [] := ⟨rfl, World.ownsRow_nil w lo _ 1⟩
theorem Hv.block (h : Hv w lo a n c vs) : (a = none ∧ n = 0 ∧ c = 0) ∨ ∃ g cur, a = some ⟨g, 0, none⟩ ∧ lo ≤ g ∧ Loc w g cur 24 ∧ n ≤ c ∧ c ≤ maxLen ∧ cur.size = c ∧ cur.toList.take n = vs.map sl := by
  rcases h.2.2 with ⟨h1, h2⟩ | ⟨g, cap, cur, h1, h2, h3, h4, h5, h6, h7⟩
  · cases h1; exact .inl ⟨rfl, rfl, rfl⟩
  · cases h1; exact .inr ⟨g, cur, rfl, h2, h3, h4, h5, by simpa using h6, by simpa using h7⟩
theorem Hv.hi (h : Hv w lo a n c vs) : ∀ g, a = some ⟨g, 0, none⟩ → g < w.heap.size := by
  intro g hg
  rcases h.block with ⟨h1, _⟩ | ⟨g', cur, h1, h2, h3, _⟩
  · rw [h1] at hg; cases hg
  · rw [h1] at hg; cases hg; exact h3.lt
theorem Hv.low (h : Hv w lo a n c vs) : ∀ g, a = some ⟨g, 0, none⟩ → lo ≤ g := by
  intro g hg
  rcases h.block with ⟨h1, _⟩ | ⟨g', cur, h1, h2, h3, _⟩
  · rw [h1] at hg; cases hg
  · rw [h1] at hg; cases hg; exact h2
theorem Hv.keep (h : Hv w lo a n c vs) (hk : ∀ g, a = some ⟨g, 0, none⟩ → g < w.heap.size → w'.heap[g]? = w.heap[g]?) : Hv w' lo a n c vs := by
  rcases h.block with ⟨h1, h2, h3⟩ | ⟨g, cur, h1, h2, h3, h4, h5, h6, h7⟩
  · subst h1 h2 h3
    have : vs = [] := List.eq_nil_of_length_eq_zero h.1
    subst this; exact Hv.nil _ _
  · subst h1
    exact ⟨h.1, ownsRowV_mk h.1 h2 ((hk g rfl h3.lt).trans h3) h4 h5 h6 h7⟩
theorem Hv.below (h : Hv w lo a n c vs) (hb : Below w.heap.size w w') : Hv w' lo a n c vs := h.keep fun g _ hlt => hb.block g hlt
theorem Hv.alloc (h : Hv w lo a n c vs) (o : Obj) : Hv (w.alloc o) lo a n c vs := h.below ((Below.refl _ _).alloc (Nat.le_refl _) o)
theorem Hv.drewN (h : Hv w lo a n c vs) (k : Nat) : Hv (w.drewN k) lo a n c vs := h.keep fun _ _ _ => rfl
theorem Hv.mono {lo' : Nat} (h : Hv w lo a n c vs) (hl : lo' ≤ lo) : Hv w lo' a n c vs := by
  rcases h.block with ⟨h1, h2, h3⟩ | ⟨g, cur, h1, h2, h3, h4, h5, h6, h7⟩
  · subst h1 h2 h3
    have : vs = [] := List.eq_nil_of_length_eq_zero h.1
    subst this; exact Hv.nil _ _
  · subst h1; exact ⟨h.1, ownsRowV_mk h.1 (Nat.le_trans hl h2) h3 h4 h5 h6 h7⟩
theorem Hv.read (h : Hv w lo a n c vs) : HdR w a n vs := by
  refine ⟨h.1, fun i hi => ?_⟩
  rcases h.block with ⟨h1, h2, h3⟩ | ⟨g, cur, h1, h2, h3, h4, h5, h6, h7⟩
  · omega
  · refine ⟨g, 0, h1, h3.lt, ?_⟩
    rw [Nat.zero_add]
    refine h3.cell i ?_
    have hx : (cur.toList.take n)[i]? = (vs.map sl)[i]? := by rw [h7]
    have hxi : i < vs.length := by have := h.1; omega
    rw [List.getElem?_take, if_pos hi] at hx
    simp [List.getElem?_eq_getElem hxi] at hx
    simp [List.getD_eq_getElem?_getD, List.getElem?_eq_getElem hxi, hx]
end
theorem Hv.fresh (w : World) {b : Nat} (hb : b = w.heap.size) : Hv (w.alloc (.cells #[] 24)) w.heap.size (some ⟨b, 0, none⟩) 0 0 [] :=
  ⟨rfl, ownsRowV_mk rfl (by omega) (Loc.new _ hb _ _) (Nat.le_refl _) (by unfold maxLen; omega) rfl rfl⟩
theorem wp_appV {o : Oper} {a : Act} {K : Act → World → Prop} {Q : Exit → Act → World → Prop} {w : World} {s x : Operand}
    (ho : o.op = .call { callee := .builtin .append, args := #[s, x], argTypes := #[125, 125] }) {lo : Nat} {ad : Option Addr} {n c : Nat} {vs : List SV} (hown : Hv w lo ad n c vs) (hs : a.eval s = .slice ad n c)
    {ad2 : Option Addr} {m c2 : Nat} {us : List SV} (hr : HdR w ad2 m us) (hx : a.eval x = .slice ad2 m c2) (hlen : n + m ≤ 1000000000000) (hlo : lo ≤ w.heap.size)
    (h : ∀ ad' c' w', Hv w' lo ad' (n + m) c' (vs ++ us) → w.grownBy w' (Value.slice ad n c).ownBlock → Below lo w w' → K (a.put o.dst (.slice ad' (n + m) c')) w') :
    o.wp Tryz.prog a w K Q := by
  obtain ⟨i0, hi, hz0, hz1, hz2⟩ := info_parts info_tabs
  obtain ⟨hn, hw⟩ := hown
  cases ad2 with
  | none =>
    obtain ⟨rfl, rfl⟩ := hr.none_nil
    have hrun := run_append_none_any (P := Tryz.prog) w lo 125 o.type 24 i0 1 und_tabs hi _ n c2 _ hw
    unfold Oper.wp
    simp [execOp, ho, resolve, invoke, builtin, hs, hx, hrun, Result.andThen]
    have hh := h ad c w ⟨by simpa using hn, by simpa using hw⟩ (World.grownBy.refl _ _) (Below.refl _ _)
    exact hh
  | some p =>
    refine wp_append_own _ s x 125 ho lo 24 i0 (.slice none 0 0) 1 24 und_tabs hi hz0 hz1 hz2 rfl (by decide) _ n (vs.map sl) hs hw p m c2 (us.map sl) hx (by simp [hr.1]) ?_ ?_ ?_ ?_ hlo ?_
    · intro j u hj
      have hjm : j < m := by
        have := (List.getElem?_eq_some_iff.1 hj).1
        rw [List.length_map] at this; have := hr.1; omega
      obtain ⟨b, off, h1, _, h2⟩ := hr.2 j hjm
      cases h1
      have e : (⟨b, off, none⟩ : Addr).add j = ⟨b, off + j, none⟩ := by unfold Addr.add; split <;> simp_all
      have hjy : j < us.length := by have := hr.1; omega
      rw [e, h2, ← hj]
      simp [List.getD_eq_getElem?_getD, List.getElem?_eq_getElem hjy]
    · intro u hu
      rw [List.mem_map] at hu
      obtain ⟨y, _, rfl⟩ := hu; rfl
    · unfold maxLen; omega
    · omega
    · intro v' w' ho' hg hv'
      have hb : Below lo w w' := (Below.refl _ _).grown hg hlo (fun k hk => (World.ownsRow.lt hw k hk).1)
      have ho2 := ho'
      obtain ⟨hl, h2⟩ := ho'
      rcases h2 with ⟨rfl, h2⟩ | ⟨g, cap, cur, rfl, h2⟩
      · have hn0 : n = 0 := by omega
        have hm0 : m = 0 := by omega
        subst hn0 hm0
        have hx0 : vs = [] := List.eq_nil_of_length_eq_zero hn
        have hy0 : us = [] := List.eq_nil_of_length_eq_zero hr.1
        subst hx0 hy0
        exact h none 0 w' (Hv.nil _ _) hg hb
      · exact h _ _ w' ⟨by simp [hn, hr.1], by simpa using ho2⟩ hg hb
theorem appV {ops : Array Oper} {rest : List Oper} {o : Oper} {a : Act} {Q : Exit → Act → World → Prop} {w : World} (hgd : o.guard = none) {s x : Operand}
    (ho : o.op = .call { callee := .builtin .append, args := #[s, x], argTypes := #[125, 125] }) {lo : Nat} {ad : Option Addr} {n c : Nat} {vs : List SV} (hown : Hv w lo ad n c vs) (hs : a.eval s = .slice ad n c)
    {ad2 : Option Addr} {m c2 : Nat} {us : List SV} (hr : HdR w ad2 m us) (hx : a.eval x = .slice ad2 m c2) (hlen : n + m ≤ 1000000000000) (hlo : lo ≤ w.heap.size)
    (h : ∀ ad' c' w', Hv w' lo ad' (n + m) c' (vs ++ us) → w.grownBy w' (Value.slice ad n c).ownBlock → Below lo w w' → wpList Tryz.prog ops Q rest (a.put o.dst (.slice ad' (n + m) c')) w') :
    wpList Tryz.prog ops Q (o :: rest) a w :=
  wpList_plain hgd fun _ hK => wp_appV ho hown hs hr hx hlen hlo fun _ _ _ h1 h2 h3 => hK _ _ (h _ _ _ h1 h2 h3)
theorem Hv.one (w : World) {b : Nat} (hb : b = w.heap.size) (v : SV) : Hv (w.alloc (.cells #[.slice v.1 v.2.1 v.2.2] 24)) w.heap.size (some ⟨b, 0, none⟩) 1 1 [v] :=
  ⟨rfl, ownsRowV_mk rfl (by omega) (Loc.new _ hb _ _) (Nat.le_refl _) (by unfold maxLen; omega) rfl rfl⟩
structure LstV (w : World) (a : Option Addr) (n : Nat) (vs : List SV) (L : List (List (List Int))) : Prop where
  hd : HdR w a n vs
  len : n = L.length
  el : ∀ i, i < n → Tbl w (vs.getD i svO).1 (vs.getD i svO).2.1 (L.getD i []) ∧ (vs.getD i svO).2.1 ≤ 9223372036854775807
theorem LstV.below {w w' : World} {a : Option Addr} {n : Nat} {vs : List SV} {L : List (List (List Int))} (h : LstV w a n vs L) (hb : Below w.heap.size w w') : LstV w' a n vs L :=
  ⟨h.hd.below hb, h.len, fun i hi => ⟨(h.el i hi).1.below hb, (h.el i hi).2⟩⟩
theorem LstV.nil (w : World) (a : Option Addr) : LstV w a 0 [] [] := ⟨HdR.nil _, rfl, fun i hi => absurd hi (by omega)⟩
theorem insC_at {A : List (List Int)} {L : List (List (List Int))} {k : Nat} (hk : k ≤ L.length) (h1 : ∀ i, i < k → befS [L.getD i []] [A] = true) (h2 : k = L.length ∨ befS [L.getD k []] [A] = false) : insC A L = L.take k ++ A :: L.drop k := by
  induction L generalizing k with
  | nil => simp at hk; subst hk; rfl
  | cons t L ih =>
    cases k with
    | zero =>
      rcases h2 with h2 | h2
      · simp at h2
      · have : befS [t] [A] = false := by simpa using h2
        simp [insC, this]
    | succ k =>
      have h0 : befS [t] [A] = true := by simpa using h1 0 (by omega)
      have := ih (k := k) (by simpa using hk) (fun i hi => by simpa using h1 (i + 1) (by omega)) (by rcases h2 with h2 | h2; exact .inl (by simpa using h2); exact .inr (by simpa using h2))
      simp [insC, h0, this]
theorem slice_toV (a : Option Addr) (n c q : Nat) (hq : q ≤ c) (v : World) : (Instr.slice 125 (.slice a n c) none (some (.int .i64 q)) none).run Tryz.prog v = .ok (.slice a q c) v := by
  have e1 : ((0 : Nat) : Int) ≤ (q : Int) := by omega
  have e2 : (q : Int) ≤ (c : Int) := by omega
  have e3 : q ≤ c := hq
  simp [go_sem, e2, e3]
theorem slice_fromV (a : Option Addr) (n c q : Nat) (hq : q ≤ n) : ∃ aT, (∀ v : World, (Instr.slice 125 (.slice a n c) (some (.int .i64 q)) none none).run Tryz.prog v = .ok (.slice aT (n - q) (c - q)) v) ∧ ∀ (w : World) (vs : List SV), n ≤ c → HdR w a n vs → HdR w aT (n - q) (vs.drop q) := by
  have e2 : (q : Int) ≤ (n : Int) := by omega
  refine ⟨if c = q then a else a.map (·.add q), fun v => ?_, fun w vs hc hr => ?_⟩
  · simp [go_sem, e2, hq]
  · by_cases h0 : n - q = 0
    · rw [h0, List.drop_eq_nil_of_le (by have := hr.1; omega)]
      exact HdR.nil _
    · obtain ⟨g, o, rfl, _, _⟩ := hr.2 0 (by omega)
      rw [if_neg (by omega)]
      by_cases q0 : q = 0
      · subst q0; simpa [Addr.add] using hr
      · simpa [Addr.add, q0] using hr.drop hq
theorem finV {m N k lo c8 n8 : Nat} {a aa ad : Option Addr} {ca : Nat} {vs : List SV} {L : List (List (List Int))} {A : List (List Int)} {w w8 : World} (h : LstV w a N vs L) (hA : Tbl w aa m A) (hb : Below w.heap.size w w8)
    (hO : Hv w8 lo ad n8 c8 ([] ++ vs.take k ++ ([(aa, m, ca)] ++ vs.drop k))) (hk : k ≤ N) (e : insC A L = L.take k ++ A :: L.drop k) (hl : (insC A L).length = N + 1) (hm : m ≤ 9223372036854775807) :
    ∃ g, ad = some ⟨g, 0, none⟩ ∧ N + 1 ≤ c8 ∧ c8 ≤ 9223372036854775807 ∧ LstV w8 (some ⟨g, 0, none⟩) (N + 1) (vs.take k ++ (aa, m, ca) :: vs.drop k) (insC A L) := by
  have hvl := h.hd.1
  have hLl := h.len
  have hn : n8 = N + 1 := by rw [← hO.1]; simp; omega
  subst hn
  rcases hO.block with ⟨h1, h2, _⟩ | ⟨g, cur, h1, h2, h3, h4, h5, h6, h7⟩
  · omega
  · subst h1
    refine ⟨g, rfl, h4, by unfold maxLen at h5; omega, ⟨by simpa using hO.read, hl.symm, fun i hi => ?_⟩⟩
    rw [e]
    have tk : (vs.take k).length = k := by rw [List.length_take]; omega
    have tL : (L.take k).length = k := by rw [List.length_take]; omega
    rcases Nat.lt_trichotomy i k with hik | hik | hik
    · have e1 : (vs.take k ++ (aa, m, ca) :: vs.drop k).getD i svO = vs.getD i svO := by
        rw [List.getD_eq_getElem?_getD, List.getElem?_append_left (by omega), List.getElem?_take, if_pos hik, List.getD_eq_getElem?_getD]
      have e2 : (L.take k ++ A :: L.drop k).getD i [] = L.getD i [] := by
        rw [List.getD_eq_getElem?_getD, List.getElem?_append_left (by omega), List.getElem?_take, if_pos hik, List.getD_eq_getElem?_getD]
      rw [e1, e2]
      exact ⟨(h.el i (by omega)).1.below hb, (h.el i (by omega)).2⟩
    · subst hik
      have e1 : (vs.take i ++ (aa, m, ca) :: vs.drop i).getD i svO = (aa, m, ca) := by
        rw [List.getD_eq_getElem?_getD, List.getElem?_append_right (by omega), tk, Nat.sub_self]; rfl
      have e2 : (L.take i ++ A :: L.drop i).getD i [] = A := by
        rw [List.getD_eq_getElem?_getD, List.getElem?_append_right (by omega), tL, Nat.sub_self]; rfl
      rw [e1, e2]
      exact ⟨hA.below hb, hm⟩
    · obtain ⟨j, rfl⟩ : ∃ j, i = k + 1 + j := ⟨i - k - 1, by omega⟩
      have e1 : (vs.take k ++ (aa, m, ca) :: vs.drop k).getD (k + 1 + j) svO = vs.getD (k + j) svO := by
        rw [List.getD_eq_getElem?_getD, List.getElem?_append_right (by omega), tk, show k + 1 + j - k = j + 1 by omega, List.getElem?_cons_succ, List.getElem?_drop, List.getD_eq_getElem?_getD]
      have e2 : (L.take k ++ A :: L.drop k).getD (k + 1 + j) [] = L.getD (k + j) [] := by
        rw [List.getD_eq_getElem?_getD, List.getElem?_append_right (by omega), tL, show k + 1 + j - k = j + 1 by omega, List.getElem?_cons_succ, List.getElem?_drop, List.getD_eq_getElem?_getD]
      rw [e1, e2]
      exact ⟨(h.el (k + j) (by omega)).1.below hb, (h.el (k + j) (by omega)).2⟩
theorem finW {m N k lo c8 n8 : Nat} {a aa ad : Option Addr} {ca : Nat} {vs : List SV} {L : List (List (List Int))} {A : List (List Int)} {w8 : World} (h : LstV w8 a N vs L) (hA : Tbl w8 aa m A)
    (hO : Hv w8 lo ad n8 c8 ([] ++ vs.take k ++ ([(aa, m, ca)] ++ vs.drop k))) (hk : k ≤ N) (e : insC A L = L.take k ++ A :: L.drop k) (hl : (insC A L).length = N + 1) (hm : m ≤ 9223372036854775807) :
    ∃ g, ad = some ⟨g, 0, none⟩ ∧ N + 1 ≤ c8 ∧ c8 ≤ 9223372036854775807 ∧ LstV w8 (some ⟨g, 0, none⟩) (N + 1) (vs.take k ++ (aa, m, ca) :: vs.drop k) (insC A L) := by
  have hvl := h.hd.1
  have hLl := h.len
  have hn : n8 = N + 1 := by rw [← hO.1]; simp; omega
  subst hn
  rcases hO.block with ⟨h1, h2, _⟩ | ⟨g, cur, h1, h2, h3, h4, h5, h6, h7⟩
  · omega
  · subst h1
    refine ⟨g, rfl, h4, by unfold maxLen at h5; omega, ⟨by simpa using hO.read, hl.symm, fun i hi => ?_⟩⟩
    rw [e]
    have tk : (vs.take k).length = k := by rw [List.length_take]; omega
    have tL : (L.take k).length = k := by rw [List.length_take]; omega
    rcases Nat.lt_trichotomy i k with hik | hik | hik
    · have e1 : (vs.take k ++ (aa, m, ca) :: vs.drop k).getD i svO = vs.getD i svO := by
        rw [List.getD_eq_getElem?_getD, List.getElem?_append_left (by omega), List.getElem?_take, if_pos hik, List.getD_eq_getElem?_getD]
      have e2 : (L.take k ++ A :: L.drop k).getD i [] = L.getD i [] := by
        rw [List.getD_eq_getElem?_getD, List.getElem?_append_left (by omega), List.getElem?_take, if_pos hik, List.getD_eq_getElem?_getD]
      rw [e1, e2]
      exact h.el i (by omega)
    · subst hik
      have e1 : (vs.take i ++ (aa, m, ca) :: vs.drop i).getD i svO = (aa, m, ca) := by
        rw [List.getD_eq_getElem?_getD, List.getElem?_append_right (by omega), tk, Nat.sub_self]; rfl
      have e2 : (L.take i ++ A :: L.drop i).getD i [] = A := by
        rw [List.getD_eq_getElem?_getD, List.getElem?_append_right (by omega), tL, Nat.sub_self]; rfl
      rw [e1, e2]
      exact ⟨hA, hm⟩
    · obtain ⟨j, rfl⟩ : ∃ j, i = k + 1 + j := ⟨i - k - 1, by omega⟩
      have e1 : (vs.take k ++ (aa, m, ca) :: vs.drop k).getD (k + 1 + j) svO = vs.getD (k + j) svO := by
        rw [List.getD_eq_getElem?_getD, List.getElem?_append_right (by omega), tk, show k + 1 + j - k = j + 1 by omega, List.getElem?_cons_succ, List.getElem?_drop, List.getD_eq_getElem?_getD]
      have e2 : (L.take k ++ A :: L.drop k).getD (k + 1 + j) [] = L.getD (k + j) [] := by
        rw [List.getD_eq_getElem?_getD, List.getElem?_append_right (by omega), tL, show k + 1 + j - k = j + 1 by omega, List.getElem?_cons_succ, List.getElem?_drop, List.getD_eq_getElem?_getD]
      rw [e1, e2]
      exact h.el (k + j) (by omega)
def LstN (lo : Nat) (w : World) (a : Option Addr) (n : Nat) (vs : List SV) (L : List (List (List Int))) : Prop := ∀ w'' : World, (∀ g, lo ≤ g → g < w.heap.size → w''.heap[g]? = w.heap[g]?) → LstV w'' a n vs L
theorem LstN.now {lo : Nat} {w : World} {a : Option Addr} {n : Nat} {vs : List SV} {L : List (List (List Int))} (h : LstN lo w a n vs L) : LstV w a n vs L := h w fun _ _ _ => rfl
theorem LstN.below {lo : Nat} {w w' : World} {a : Option Addr} {n : Nat} {vs : List SV} {L : List (List (List Int))} (h : LstN lo w a n vs L) (hb : Below w.heap.size w w') : LstN lo w' a n vs L := fun w'' hk => h w'' fun g h1 h2 => (hk g h1 (Nat.lt_of_lt_of_le h2 hb.size)).trans (hb.block g h2)
theorem LstN.nil (lo : Nat) (w : World) (a : Option Addr) : LstN lo w a 0 [] [] := fun w'' _ => LstV.nil w'' a
theorem LstN.len {lo : Nat} {w : World} {a : Option Addr} {n : Nat} {vs : List SV} {L : List (List (List Int))} (h : LstN lo w a n vs L) : n = L.length := h.now.len
def srC (T A : List (List Int)) (n : Nat) : Nat → List Int → List (List (List Int)) → Option (List (List (List Int)))
  | 0, known, out => if negF known = n then some (insC (cirV T A n known) out) else none
  | k + 1, known, out => if negF known = n then some (insC (cirV T A n known) out)
    else foldO (fun o (i : Nat) => match tpF T A n (n + 2) (known.set (negF known) (i : Int)) with
        | none => none
        | some none => some o
        | some (some all) => srC T A n k all o) A.length out
def srS (T A : List (List Int)) (n k : Nat) (known : List Int) (o : List (List (List Int))) (i : Nat) : Option (List (List (List Int))) :=
  match tpF T A n (n + 2) (known.set (negF known) (i : Int)) with
    | none => none
    | some none => some o
    | some (some all) => srC T A n k all o
theorem srC_all {T A : List (List Int)} {n k : Nat} {known : List Int} {o r : List (List (List Int))} (h : srC T A n k known o = some r) (e : negF known = n) : r = insC (cirV T A n known) o := by
  cases k with
  | zero => unfold srC at h; rw [if_pos e] at h; exact (Option.some.inj h).symm
  | succ k => unfold srC at h; rw [if_pos e] at h; exact (Option.some.inj h).symm
theorem srC_go {T A : List (List Int)} {n k : Nat} {known : List Int} {o r : List (List (List Int))} (h : srC T A n k known o = some r) (e : ¬ negF known = n) : ∃ j, k = j + 1 ∧ foldO (srS T A n j known) A.length o = some r := by
  cases k with
  | zero => unfold srC at h; rw [if_neg e] at h; cases h
  | succ k => unfold srC at h; rw [if_neg e] at h; exact ⟨k, rfl, h⟩
theorem insC_len (A : List (List Int)) (L : List (List (List Int))) : (insC A L).length = L.length + 1 := by
  induction L with
  | nil => rfl
  | cons t L ih => unfold insC; split <;> simp [ih]
theorem foldO_mono {g : List (List (List Int)) → Nat → Option (List (List (List Int)))} (hg : ∀ o i r, g o i = some r → o.length ≤ r.length) : ∀ {n : Nat} {a r : List (List (List Int))}, foldO g n a = some r → ∀ {k : Nat} {s : List (List (List Int))}, k ≤ n → foldO g k a = some s → s.length ≤ r.length := by
  intro n
  induction n with
  | zero => intro a r h k s hk hs
            obtain rfl : k = 0 := by omega
            rw [h] at hs; cases hs; exact Nat.le_refl _
  | succ n ih =>
    intro a r h k s hk hs
    obtain ⟨t, ht⟩ := foldO_le h (Nat.le_succ n)
    have h2 := h
    rw [foldO_succ ht] at h2
    have h3 := hg _ _ _ h2
    rcases Nat.lt_or_ge k (n + 1) with h4 | h4
    · have := ih ht (k := k) (by omega) hs; omega
    · obtain rfl : k = n + 1 := by omega
      rw [h] at hs; cases hs; exact Nat.le_refl _
theorem srC_len {T A : List (List Int)} {n : Nat} : ∀ {k : Nat} {known : List Int} {o r : List (List (List Int))}, srC T A n k known o = some r → o.length ≤ r.length := by
  intro k
  induction k with
  | zero =>
    intro known o r h
    by_cases e : negF known = n
    · rw [srC_all h e, insC_len]; omega
    · obtain ⟨j, hj, _⟩ := srC_go h e; omega
  | succ k ih =>
    intro known o r h
    by_cases e : negF known = n
    · rw [srC_all h e, insC_len]; omega
    · obtain ⟨j, hj, hf⟩ := srC_go h e
      obtain rfl : j = k := by omega
      refine foldO_mono (fun o i r hg => ?_) hf (Nat.zero_le _) rfl
      unfold srS at hg
      split at hg
      · cases hg
      · cases hg; exact Nat.le_refl _
      · exact ih hg
theorem srS_len {T A : List (List Int)} {n k : Nat} {known : List Int} (o : List (List (List Int))) (i : Nat) (r : List (List (List Int))) (h : srS T A n k known o i = some r) : o.length ≤ r.length := by
  unfold srS at h
  split at h
  · cases h
  · cases h; exact Nat.le_refl _
  · exact srC_len h
theorem negF_pos : ∀ {L : List Int}, negF L = L.length → ∀ i, i < L.length → 0 ≤ L.getD i 0 := by
  intro L
  induction L with
  | nil => intro _ i hi; simp at hi
  | cons v L ih =>
    intro h i hi
    unfold negF at h
    split at h
    · simp at h
    · cases i with
      | zero => simp; omega
      | succ i => simpa using ih (by simpa using h) i (by simpa using hi)
theorem negF_lt : ∀ {L : List Int}, ¬ negF L = L.length → negF L < L.length ∧ (∀ i, i < negF L → 0 ≤ L.getD i 0) ∧ L.getD (negF L) 0 < 0 := by
  intro L
  induction L with
  | nil => intro h; exact absurd rfl h
  | cons v L ih =>
    intro h
    unfold negF at h ⊢
    split at h
    · rename_i hv
      rw [if_pos hv]
      exact ⟨by simp, fun i hi => by omega, by simpa using hv⟩
    · rename_i hv
      rw [if_neg hv]
      obtain ⟨h1, h2, h3⟩ := ih (by simp at h; exact h)
      refine ⟨by simp; omega, fun i hi => ?_, by simpa using h3⟩
      cases i with
      | zero => simp; omega
      | succ i => simpa using h2 i (by omega)
theorem cirV_len (T A : List (List Int)) (n : Nat) (known : List Int) : (cirV T A n known).length = n := by simp [cirV]
theorem cirV_succ (T A : List (List Int)) {n y : Nat} (known : List Int) (h : y < n) : (cirV T A n known).take (y + 1) = (cirV T A n known).take y ++ [thL (A.getD (known.getD y 0).toNat []) (T.getD y [])] := by
  have e : (cirV T A n known)[y]? = some (thL (A.getD (known.getD y 0).toNat []) (T.getD y [])) := by simp [cirV, h]
  rw [List.take_add_one, e]; rfl
def AllN (n : Nat) (L : List (List (List Int))) : Prop := ∀ i, i < L.length → (L.getD i []).length = n
theorem AllN.ins {n : Nat} {L : List (List (List Int))} {A : List (List Int)} (h : AllN n L) (hA : A.length = n) : AllN n (insC A L) := by
  induction L with
  | nil => intro i hi; simp [insC] at hi ⊢; subst hi; simpa using hA
  | cons t L ih =>
    have ht : t.length = n := by simpa using h 0 (by simp)
    have hL : AllN n L := fun i hi => by simpa using h (i + 1) (by simp; omega)
    intro i hi
    unfold insC at hi ⊢
    split at hi
    · rename_i hb
      rw [if_pos hb]
      cases i with
      | zero => simpa using ht
      | succ i => simpa using ih hL i (by simpa using hi)
    · rename_i hb
      rw [if_neg hb]
      cases i with
      | zero => simpa using hA
      | succ i => simpa using h i (by simpa using hi)
theorem srC_shape {T A : List (List Int)} {n : Nat} : ∀ {k : Nat} {known : List Int} {o r : List (List (List Int))}, srC T A n k known o = some r → AllN n o → AllN n r := by
  intro k
  induction k with
  | zero =>
    intro known o r h ho
    by_cases e : negF known = n
    · rw [srC_all h e]; exact ho.ins (cirV_len T A n known)
    · obtain ⟨j, hj, _⟩ := srC_go h e; omega
  | succ k ih =>
    intro known o r h ho
    by_cases e : negF known = n
    · rw [srC_all h e]; exact ho.ins (cirV_len T A n known)
    · obtain ⟨j, hj, hf⟩ := srC_go h e
      obtain rfl : j = k := by omega
      have key : ∀ i s, foldO (srS T A n j known) i o = some s → AllN n s := by
        intro i
        induction i with
        | zero => intro s hs; cases hs; exact ho
        | succ i ihi =>
          intro s hs
          obtain ⟨t, ht⟩ := foldO_le hs (Nat.le_succ i)
          rw [foldO_succ ht] at hs
          have h5 := ihi t ht
          unfold srS at hs
          split at hs
          · cases hs
          · cases hs; exact h5
          · exact ih hs h5
      exact key _ _ hf
end Go.Proofs.YtiliimkfobfbnaaGreat
