/-
  Slices of slices whose header alone the call owns: a copy of the header, append of one row.
  No condition but bounds.
-/
import Derived.Test.YtehomfbehhlhmaaTabTT
import Derived.Test.YtehomfbehhlhmaaBase
namespace Go.Proofs.Ytehomfbehhlhmaa
set_option maxRecDepth 100000
set_option linter.unusedVariables false
set_option linter.unusedSimpArgs false
open Go.RowKit

/-- the header of a slice of slices, read -/
def HdR (w : World) (a : Option Addr) (n : Nat) (vs : List SV) : Prop := vs.length = n ∧ ∀ i, i < n → ∃ b off, a = some ⟨b, off, none⟩ ∧ b < w.heap.size ∧ w.cell? ⟨b, off + i, none⟩ = some (sl (vs.getD i svO))
/-- the header, owned -/
def Hd (w : World) (lo : Nat) (a : Option Addr) (n c : Nat) (vs : List SV) : Prop := vs.length = n ∧ w.ownsRow lo 22 1 (.slice a n c) n (vs.map sl)
section
variable {w w' : World} {lo : Nat} {a : Option Addr} {n c : Nat} {vs : List SV}
theorem Hd.nil (w : World) (lo : Nat) : Hd w lo none 0 0 [] := ⟨rfl, World.ownsRow_nil w lo _ 1⟩
theorem Hd.block (h : Hd w lo a n c vs) : (a = none ∧ n = 0 ∧ c = 0) ∨ ∃ g cur, a = some ⟨g, 0, none⟩ ∧ lo ≤ g ∧ Loc w g cur 22 ∧ n ≤ c ∧ c ≤ maxLen ∧ cur.size = c ∧ cur.toList.take n = vs.map sl := by
  rcases h.2.2 with ⟨h1, h2⟩ | ⟨g, cap, cur, h1, h2, h3, h4, h5, h6, h7⟩
  · cases h1; exact .inl ⟨rfl, rfl, rfl⟩
  · cases h1; exact .inr ⟨g, cur, rfl, h2, h3, h4, h5, by simpa using h6, by simpa using h7⟩
theorem Hd.hi (h : Hd w lo a n c vs) : ∀ g, a = some ⟨g, 0, none⟩ → g < w.heap.size := by
  intro g hg
  rcases h.block with ⟨h1, _⟩ | ⟨g', cur, h1, h2, h3, _⟩
  · rw [h1] at hg; cases hg
  · rw [h1] at hg; cases hg; exact h3.lt
theorem Hd.low (h : Hd w lo a n c vs) : ∀ g, a = some ⟨g, 0, none⟩ → lo ≤ g := by
  intro g hg
  rcases h.block with ⟨h1, _⟩ | ⟨g', cur, h1, h2, h3, _⟩
  · rw [h1] at hg; cases hg
  · rw [h1] at hg; cases hg; exact h2
theorem Hd.keep (h : Hd w lo a n c vs) (hk : ∀ g, a = some ⟨g, 0, none⟩ → g < w.heap.size → w'.heap[g]? = w.heap[g]?) : Hd w' lo a n c vs := by
  rcases h.block with ⟨h1, h2, h3⟩ | ⟨g, cur, h1, h2, h3, h4, h5, h6, h7⟩
  · subst h1 h2 h3
    have : vs = [] := List.eq_nil_of_length_eq_zero h.1
    subst this; exact Hd.nil _ _
  · subst h1
    exact ⟨h.1, ownsRow_mk h.1 h2 ((hk g rfl h3.lt).trans h3) h4 h5 h6 h7⟩
theorem Hd.below (h : Hd w lo a n c vs) (hb : Below w.heap.size w w') : Hd w' lo a n c vs := h.keep fun g _ hlt => hb.block g hlt
theorem Hd.alloc (h : Hd w lo a n c vs) (o : Obj) : Hd (w.alloc o) lo a n c vs := h.below ((Below.refl _ _).alloc (Nat.le_refl _) o)
theorem Hd.drewN (h : Hd w lo a n c vs) (k : Nat) : Hd (w.drewN k) lo a n c vs := h.keep fun _ _ _ => rfl
theorem Hd.mono {lo' : Nat} (h : Hd w lo a n c vs) (hl : lo' ≤ lo) : Hd w lo' a n c vs := by
  rcases h.block with ⟨h1, h2, h3⟩ | ⟨g, cur, h1, h2, h3, h4, h5, h6, h7⟩
  · subst h1 h2 h3
    have : vs = [] := List.eq_nil_of_length_eq_zero h.1
    subst this; exact Hd.nil _ _
  · subst h1; exact ⟨h.1, ownsRow_mk h.1 (Nat.le_trans hl h2) h3 h4 h5 h6 h7⟩
theorem Hd.marked (h : Hd w lo a n c vs) {S : Nat → Prop} (hm : Marked S w w') (hS : ∀ g, a = some ⟨g, 0, none⟩ → ¬ S g) : Hd w' lo a n c vs := h.keep fun g hg hlt => hm.block g hlt (hS g hg)
theorem Hd.read (h : Hd w lo a n c vs) : HdR w a n vs := by
  refine ⟨h.1, fun i hi => ?_⟩
  rcases h.block with ⟨h1, h2, h3⟩ | ⟨g, cur, h1, h2, h3, h4, h5, h6, h7⟩
  · omega
  · refine ⟨g, 0, h1, h3.lt, ?_⟩
    rw [Nat.zero_add]
    refine h3.cell i ?_
    have hx : (cur.toList.take n)[i]? = (vs.map sl)[i]? := by rw [h7]
    have hxi : i < vs.length := by have := h.1; omega
    rw [List.getElem?_take, if_pos hi] at hx
    simp [List.getElem?_eq_getElem hxi] at hx
    simp [List.getD_eq_getElem?_getD, List.getElem?_eq_getElem hxi, hx]
theorem HdR.below (h : HdR w a n vs) (hb : Below w.heap.size w w') : HdR w' a n vs :=
  ⟨h.1, fun i hi => by obtain ⟨b, off, h1, h3, h2⟩ := h.2 i hi; exact ⟨b, off, h1, Nat.lt_of_lt_of_le h3 hb.size, (hb.cell (p := ⟨b, off + i, none⟩) h3).trans h2⟩⟩
theorem HdR.alloc (h : HdR w a n vs) (o : Obj) : HdR (w.alloc o) a n vs := h.below ((Below.refl _ _).alloc (Nat.le_refl _) o)
theorem HdR.none_nil (h : HdR w none n vs) : n = 0 ∧ vs = [] := by
  have h1 : n = 0 := by
    rcases Nat.eq_zero_or_pos n with e | e
    · exact e
    · obtain ⟨b, off, e', _⟩ := h.2 0 e; cases e'
  exact ⟨h1, List.eq_nil_of_length_eq_zero (by have := h.1; omega)⟩
/-- a header and what its rows read as -/
theorem HdR.tbl {xss : List (List Int)} (h : HdR w a n vs) (hl : n = xss.length) (hr : ∀ i, i < n → Row w (vs.getD i svO).1 (vs.getD i svO).2.1 (xss.getD i []) ∧ (vs.getD i svO).2.1 ≤ 9223372036854775807) : Tbl w a n xss :=
  ⟨hl, fun i hi => by obtain ⟨b, off, h1, h2, h3⟩ := h.2 i hi; exact ⟨b, off, _, _, _, h1, h2, h3, (hr i hi).1, (hr i hi).2⟩⟩
end
theorem Hd.fresh (w : World) {b : Nat} (hb : b = w.heap.size) : Hd (w.alloc (.cells #[] 22)) w.heap.size (some ⟨b, 0, none⟩) 0 0 [] :=
  ⟨rfl, ownsRow_mk rfl (by omega) (Loc.new _ hb _ _) (Nat.le_refl _) (by unfold maxLen; omega) rfl rfl⟩

/-- append of all rows of another slice -/
theorem wp_appH {o : Oper} {a : Act} {K : Act → World → Prop} {Q : Exit → Act → World → Prop} {w : World} {s x : Operand}
    (ho : o.op = .call { callee := .builtin .append, args := #[s, x], argTypes := #[43, 43] }) {lo : Nat} {ad : Option Addr} {n c : Nat} {vs : List SV} (hown : Hd w lo ad n c vs) (hs : a.eval s = .slice ad n c)
    {ad2 : Option Addr} {m c2 : Nat} {us : List SV} (hr : HdR w ad2 m us) (hx : a.eval x = .slice ad2 m c2) (hlen : n + m ≤ 1000000000000) (hlo : lo ≤ w.heap.size)
    (h : ∀ ad' c' w', Hd w' lo ad' (n + m) c' (vs ++ us) → w.grownBy w' (Value.slice ad n c).ownBlock → Below lo w w' → K (a.put o.dst (.slice ad' (n + m) c')) w') :
    o.wp Try.prog a w K Q := by
  obtain ⟨i0, hi, hz0, hz1, hz2⟩ := info_parts info_rows
  obtain ⟨hn, hw⟩ := hown
  cases ad2 with
  | none =>
    obtain ⟨rfl, rfl⟩ := hr.none_nil
    have hrun := run_append_none_any (P := Try.prog) w lo 43 o.type 22 i0 1 und_rows hi _ n c2 _ hw
    unfold Oper.wp
    simp [execOp, ho, resolve, invoke, builtin, hs, hx, hrun, Result.andThen]
    have hh := h ad c w ⟨by simpa using hn, by simpa using hw⟩ (World.grownBy.refl _ _) (Below.refl _ _)
    exact hh
  | some p =>
    refine wp_append_own _ s x 43 ho lo 22 i0 (.slice none 0 0) 1 24 und_rows hi hz0 hz1 hz2 rfl (by decide) _ n (vs.map sl) hs hw p m c2 (us.map sl) hx (by simp [hr.1]) ?_ ?_ ?_ ?_ hlo ?_
    · intro j u hj
      have hjm : j < m := by
        have := (List.getElem?_eq_some_iff.1 hj).1
        rw [List.length_map] at this; have := hr.1; omega
      obtain ⟨b, off, h1, _, h2⟩ := hr.2 j hjm
      cases h1
      have e : (⟨b, off, none⟩ : Addr).add j = ⟨b, off + j, none⟩ := by unfold Addr.add; split <;> simp_all
      have hjy : j < us.length := by have := hr.1; omega
      rw [e, h2, ← hj]
      simp [List.getD_eq_getElem?_getD, List.getElem?_eq_getElem hjy]
    · intro u hu
      rw [List.mem_map] at hu
      obtain ⟨y, _, rfl⟩ := hu; rfl
    · unfold maxLen; omega
    · omega
    · intro v' w' ho' hg hv'
      have hb : Below lo w w' := (Below.refl _ _).grown hg hlo (fun k hk => (World.ownsRow.lt hw k hk).1)
      have ho2 := ho'
      obtain ⟨hl, h2⟩ := ho'
      rcases h2 with ⟨rfl, h2⟩ | ⟨g, cap, cur, rfl, h2⟩
      · have hn0 : n = 0 := by omega
        have hm0 : m = 0 := by omega
        subst hn0 hm0
        have hx0 : vs = [] := List.eq_nil_of_length_eq_zero hn
        have hy0 : us = [] := List.eq_nil_of_length_eq_zero hr.1
        subst hx0 hy0
        exact h none 0 w' (Hd.nil _ _) hg hb
      · exact h _ _ w' ⟨by simp [hn, hr.1], by simpa using ho2⟩ hg hb
theorem appH {ops : Array Oper} {rest : List Oper} {o : Oper} {a : Act} {Q : Exit → Act → World → Prop} {w : World} (hgd : o.guard = none) {s x : Operand}
    (ho : o.op = .call { callee := .builtin .append, args := #[s, x], argTypes := #[43, 43] }) {lo : Nat} {ad : Option Addr} {n c : Nat} {vs : List SV} (hown : Hd w lo ad n c vs) (hs : a.eval s = .slice ad n c)
    {ad2 : Option Addr} {m c2 : Nat} {us : List SV} (hr : HdR w ad2 m us) (hx : a.eval x = .slice ad2 m c2) (hlen : n + m ≤ 1000000000000) (hlo : lo ≤ w.heap.size)
    (h : ∀ ad' c' w', Hd w' lo ad' (n + m) c' (vs ++ us) → w.grownBy w' (Value.slice ad n c).ownBlock → Below lo w w' → wpList Try.prog ops Q rest (a.put o.dst (.slice ad' (n + m) c')) w') :
    wpList Try.prog ops Q (o :: rest) a w :=
  wpList_plain hgd fun _ hK => wp_appH ho hown hs hr hx hlen hlo fun _ _ _ h1 h2 h3 => hK _ _ (h _ _ _ h1 h2 h3)
/-- append of one row -/
theorem wp_appH1 {o : Oper} {a : Act} {K : Act → World → Prop} {Q : Exit → Act → World → Prop} {w : World} {s x : Operand}
    (ho : o.op = .call { callee := .builtin .append, args := #[s, x], argTypes := #[43, 43] }) {lo : Nat} {ad : Option Addr} {n c : Nat} {vs : List SV} (hown : Hd w lo ad n c vs) (hs : a.eval s = .slice ad n c)
    {va : Option Addr} {vn vc : Nat} {t : TypeId} (hx : a.eval x = .slice (some ⟨w.heap.size, 0, none⟩) 1 1) (hlen : n + 1 ≤ 1000000000000) (hlo : lo ≤ w.heap.size)
    (h : ∀ g c' w', Hd w' lo (some ⟨g, 0, none⟩) (n + 1) c' (vs ++ [(va, vn, vc)]) → w.grownBy w' (Value.slice ad n c).ownBlock → ((Value.slice ad n c).ownBlock = some g ∨ w.heap.size ≤ g) → Below lo w w' → K (a.put o.dst (.slice (some ⟨g, 0, none⟩) (n + 1) c')) w') :
    Oper.wp Try.prog o a (w.alloc (.cells #[.slice va vn vc] t)) K Q := by
  obtain ⟨i0, hi, hz0, hz1, hz2⟩ := info_parts info_rows
  refine wp_append_lies _ s x 43 ho lo 22 i0 (.slice none 0 0) 1 24 und_rows hi hz0 hz1 hz2 rfl (by decide) _ n (vs.map sl) hs (hown.2.alloc _) ⟨w.heap.size, 0, none⟩ 1 1 [.slice va vn vc] hx rfl (cell_one_new _ _ _) ?_ (by omega) ?_ ?_ ?_ (w.heap.size + 1) (by simp) ?_
  · intro u hu; simp at hu; subst hu; rfl
  · unfold maxLen; omega
  · omega
  · simp; omega
  · intro g cap w' ho' hg hat hlt
    have hg' : w.grownBy w' (Value.slice ad n c).ownBlock := by
      have h1 := World.grownBy_alloc w (.cells #[.slice va vn vc] t) (Value.slice ad n c).ownBlock
      exact ⟨hg.os.trans h1.os, hg.tape.trans h1.tape, hg.output.trans h1.output, Nat.le_trans h1.size hg.size, fun k hk hn => (hg.block k (Nat.lt_of_lt_of_le hk h1.size) hn).trans (h1.block k hk hn)⟩
    have hat' : (Value.slice ad n c).ownBlock = some g ∨ w.heap.size ≤ g := by
      rcases hat with hat | hat
      · exact .inl hat
      · exact .inr (by omega)
    exact h g cap w' ⟨by simp [hown.1], by simpa [sl] using ho'⟩ hg' hat' ((Below.refl _ _).grown hg' hlo (fun k hk => (World.ownsRow.lt hown.2 k hk).1))
theorem appH1 {ops : Array Oper} {rest : List Oper} {o : Oper} {a : Act} {Q : Exit → Act → World → Prop} {w : World} (hgd : o.guard = none) {s x : Operand}
    (ho : o.op = .call { callee := .builtin .append, args := #[s, x], argTypes := #[43, 43] }) {lo : Nat} {ad : Option Addr} {n c : Nat} {vs : List SV} (hown : Hd w lo ad n c vs) (hs : a.eval s = .slice ad n c)
    {va : Option Addr} {vn vc : Nat} {t : TypeId} (hx : a.eval x = .slice (some ⟨w.heap.size, 0, none⟩) 1 1) (hlen : n + 1 ≤ 1000000000000) (hlo : lo ≤ w.heap.size)
    (h : ∀ g c' w', Hd w' lo (some ⟨g, 0, none⟩) (n + 1) c' (vs ++ [(va, vn, vc)]) → w.grownBy w' (Value.slice ad n c).ownBlock → ((Value.slice ad n c).ownBlock = some g ∨ w.heap.size ≤ g) → Below lo w w' → wpList Try.prog ops Q rest (a.put o.dst (.slice (some ⟨g, 0, none⟩) (n + 1) c')) w') :
    wpList Try.prog ops Q (o :: rest) a (w.alloc (.cells #[.slice va vn vc] t)) :=
  wpList_plain hgd fun _ hK => wp_appH1 ho hown hs hx hlen hlo fun g c' w' a b c d => hK _ _ (h g c' w' a b c d)

set_option maxHeartbeats 400000 in
theorem cloneRows_any (a : Option Addr) (n c : Nat) (vs : List SV) (w : World) (h1 : HdR w a n vs) (hm : n ≤ 1000000000000) :
    Calls Try.prog 151 #[.slice a n c] w fun e w' => ∃ a' c', e = .returned (.slice a' n c') ∧ Hd w' w.heap.size a' n c' vs ∧ Below w.heap.size w w' := by
  have hnil := Lib.run_eql_slice_nil (P := Try.prog) w 43 22 a n c 0 0 und_rows
  cases a with
  | none =>
    obtain ⟨rfl, rfl⟩ := h1.none_nil
    go_enter Try.func151, Try.ntmps151
    go_wp2
    go_ret
    exact ⟨none, 0, rfl, Hd.nil _ _, Below.refl _ _⟩
  | some p =>
    have hr := h1.alloc (.cells #[] 22)
    go_enter Try.func151, Try.ntmps151
    go_wp2_with (at_builtin; refine appH rfl rfl (Hd.fresh w rfl) rfl hr rfl (by omega) (by simp) ?_; intro ad' c' w' hO hg hb; rw [Nat.zero_add] at hO ⊢)
    go_ret
    exact ⟨ad', c', rfl, by simpa using hO, ((Below.refl _ _).alloc (Nat.le_refl _) _).trans hb⟩
end Go.Proofs.Ytehomfbehhlhmaa
