/-
  Walks and plain laws of this seat, some texts in one.
  No condition but bounds on lengths.
-/
import Derived.Test.YtiliimkfobfbnaaGreatPt25
import Derived.Test.YtiliimkfobfbnaaGreatPt18
import Derived.Test.YtiliimkfobfbnaaGreatPt27
import Derived.Test.YtiliimkfobfbnaaGreatPt6
namespace Go.Proofs.YtiliimkfobfbnaaGreat
set_option maxRecDepth 100000
set_option linter.unusedVariables false
set_option linter.unusedSimpArgs false
open Go.RowKit
structure KnR (w : World) (a : Option Addr) (n : Nat) (vs : List SV) (L : List (List Int)) : Prop where
  hd : HdR w a n vs
  len : n = L.length
  el : ∀ i, i < n → Row w (vs.getD i svO).1 (vs.getD i svO).2.1 (L.getD i []) ∧ (vs.getD i svO).2.1 ≤ 9223372036854775807
theorem KnR.below {w w' : World} {a : Option Addr} {n : Nat} {vs : List SV} {L : List (List Int)} (h : KnR w a n vs L) (hb : Below w.heap.size w w') : KnR w' a n vs L :=
  ⟨h.hd.below hb, h.len, fun i hi => ⟨(h.el i hi).1.below hb, (h.el i hi).2⟩⟩
theorem KnR.cast {w : World} {a : Option Addr} {n : Nat} {vs : List SV} {L M : List (List Int)} (h : KnR w a n vs L) (e : M = L) : KnR w a n vs M := by rw [e]; exact h
theorem KnR.tbl {w : World} {a : Option Addr} {n : Nat} {vs : List SV} {L : List (List Int)} (h : KnR w a n vs L) : Tbl w a n L := h.hd.tbl h.len h.el
def RowN (lo : Nat) (w : World) (a : Option Addr) (n : Nat) (xs : List Int) : Prop := ∀ w'' : World, (∀ g, lo ≤ g → g < w.heap.size → w''.heap[g]? = w.heap[g]?) → Row w'' a n xs
theorem RowN.row {lo : Nat} {w : World} {a : Option Addr} {n : Nat} {xs : List Int} (h : RowN lo w a n xs) : Row w a n xs := h w fun _ _ _ => rfl
def Kp (S : Nat → Prop) (w : World) (P : World → Prop) : Prop := ∀ w', Marked S w w' → P w'
theorem Kp.now {S : Nat → Prop} {w : World} {P : World → Prop} (h : Kp S w P) : P w := h w (Marked.refl S w)
theorem Kp.step {S S' : Nat → Prop} {w wr : World} {P : World → Prop} (h : Kp S w P) (hm : Marked S w wr) (hs : ∀ g, S' g → S g ∨ w.heap.size ≤ g) : Kp S' wr P := fun w' hm' => h w' (hm.then hm' hs)
theorem RowN.kp {lo : Nat} {w : World} {a : Option Addr} {n : Nat} {xs : List Int} {S : Nat → Prop} (h : RowN lo w a n xs) (hs : ∀ g, S g → g < lo) : Kp S w (fun w => Row w a n xs) := fun w' hm => h w' fun g h1 h2 => hm.block g h2 (fun e => by have := hs g e; omega)
theorem Own.kp {lo : Nat} {w : World} {a : Option Addr} {n c : Nat} {xs : List Int} {S : Nat → Prop} (h : Own w lo a n c xs) (hs : ∀ g, S g → g < lo) : Kp S w (fun w => Row w a n xs) := fun w' hm => (Marked.own h hm fun g hg e => by have := hs g e; have := h.lo g hg; omega).row
theorem Hd.one (w : World) {b : Nat} (hb : b = w.heap.size) (v : SV) : Hd (w.alloc (.cells #[.slice v.1 v.2.1 v.2.2] 50)) w.heap.size (some ⟨b, 0, none⟩) 1 1 [v] :=
  ⟨rfl, ownsRow_mk rfl (by omega) (Loc.new _ hb _ _) (Nat.le_refl _) (by unfold maxLen; omega) rfl rfl⟩
theorem slice_toR (a : Option Addr) (n c q : Nat) (hq : q ≤ c) (v : World) : (Instr.slice 24 (.slice a n c) none (some (.int .i64 q)) none).run Tryz.prog v = .ok (.slice a q c) v := by
  have e1 : ((0 : Nat) : Int) ≤ (q : Int) := by omega
  have e2 : (q : Int) ≤ (c : Int) := by omega
  have e3 : q ≤ c := hq
  simp [go_sem, e2, e3]
theorem slice_fromR (a : Option Addr) (n c q : Nat) (hq : q ≤ n) : ∃ aT, (∀ v : World, (Instr.slice 24 (.slice a n c) (some (.int .i64 q)) none none).run Tryz.prog v = .ok (.slice aT (n - q) (c - q)) v) ∧ ∀ (w : World) (vs : List SV), n ≤ c → HdR w a n vs → HdR w aT (n - q) (vs.drop q) := by
  have e2 : (q : Int) ≤ (n : Int) := by omega
  refine ⟨if c = q then a else a.map (·.add q), fun v => ?_, fun w vs hc hr => ?_⟩
  · simp [go_sem, e2, hq]
  · by_cases h0 : n - q = 0
    · rw [h0, List.drop_eq_nil_of_le (by have := hr.1; omega)]
      exact HdR.nil _
    · obtain ⟨g, o, rfl, _, _⟩ := hr.2 0 (by omega)
      rw [if_neg (by omega)]
      by_cases q0 : q = 0
      · subst q0; simpa [Addr.add] using hr
      · simpa [Addr.add, q0] using hr.drop hq
theorem step_appHw {ops : Array Oper} {o : Oper} {a : Act} {K : Act → World → Prop} {Q : Exit → Act → World → Prop} {E : Prop} {w : World} (hgd : o.guard = none) {s x : Operand}
    (ho : o.op = .call { callee := .builtin .append, args := #[s, x], argTypes := #[24, 24] }) {lo : Nat} {ad : Option Addr} {n c : Nat} {vs : List SV} (hown : Hd w lo ad n c vs) (hs : a.eval s = .slice ad n c)
    {ad2 : Option Addr} {m c2 : Nat} {us : List SV} (hr : HdR w ad2 m us) (hx : a.eval x = .slice ad2 m c2) (hlen : n + m ≤ 1000000000000) (hlo : lo ≤ w.heap.size)
    (h : ∀ ad' c' w', Hd w' lo ad' (n + m) c' (vs ++ us) → w.grownBy w' (Value.slice ad n c).ownBlock → Below lo w w' → K (a.put o.dst (.slice ad' (n + m) c')) w') :
    if Region.wanted o (yielded ops a.tmps) = true then Oper.wp Tryz.prog o a w K Q else E := by
  have hw : Region.wanted o (yielded ops a.tmps) = true := by simp [Region.wanted, hgd]
  rw [if_pos hw]
  exact wp_appH ho hown hs hr hx hlen hlo h
theorem insK_at {m : List Int} : ∀ {L : List (List Int)} {k : Nat}, k ≤ L.length → (∀ i, i < k → cmpL (L.getD i []) m < 0) → (k = L.length ∨ (¬ cmpL (L.getD k []) m < 0 ∧ L.getD k [] ≠ m)) → insK m L = L.take k ++ m :: L.drop k := by
  intro L
  induction L with
  | nil => intro k hk h1 h2; simp at hk; subst hk; rfl
  | cons t L ih =>
    intro k hk h1 h2
    cases k with
    | zero =>
      rcases h2 with h2 | h2
      · simp at h2
      · have h3 : ¬ cmpL t m < 0 := by simpa using h2.1
        have h4 : ¬ t = m := by simpa using h2.2
        simp [insK, h3, h4]
    | succ k =>
      have h0 : cmpL t m < 0 := by simpa using h1 0 (by omega)
      have := ih (k := k) (by simpa using hk) (fun i hi => by simpa using h1 (i + 1) (by omega)) (by rcases h2 with h2 | h2; exact .inl (by simpa using h2); exact .inr (by simpa using h2))
      simp [insK, h0, this]
theorem insK_in {m : List Int} : ∀ {L : List (List Int)} {k : Nat}, k < L.length → (∀ i, i < k → cmpL (L.getD i []) m < 0) → ¬ cmpL (L.getD k []) m < 0 → L.getD k [] = m → insK m L = L := by
  intro L
  induction L with
  | nil => intro k hk; simp at hk
  | cons t L ih =>
    intro k hk h1 h2 h3
    cases k with
    | zero =>
      have h2 : ¬ cmpL t m < 0 := by simpa using h2
      have h3 : t = m := by simpa using h3
      subst h3
      simp [insK, h2]
    | succ k =>
      have h0 : cmpL t m < 0 := by simpa using h1 0 (by omega)
      have := ih (k := k) (by simpa using hk) (fun i hi => by simpa using h1 (i + 1) (by omega)) (by simpa using h2) (by simpa using h3)
      simp [insK, h0, this]
theorem kndF_snoc : ∀ (l s : List (List Int)) (x : List Int), kndF s (l ++ [x]) = insK x (kndF s l) := by
  intro l; induction l with
  | nil => intro s x; rfl
  | cons y l ih => intro s x; simp only [List.cons_append, kndF]; exact ih _ _
theorem insK_mem {m x : List Int} : ∀ {L : List (List Int)}, x = m ∨ x ∈ L → x ∈ insK m L := by
  intro L; induction L with
  | nil => intro h; simpa [insK] using h
  | cons y L ih =>
    intro h
    unfold insK
    split
    · rcases h with h | h
      · exact List.mem_cons_of_mem _ (ih (.inl h))
      · rcases List.mem_cons.1 h with h | h
        · rw [h]; exact List.mem_cons_self
        · exact List.mem_cons_of_mem _ (ih (.inr h))
    · split
      · rename_i h2
        rcases h with h | h
        · rw [h, ← h2]; exact List.mem_cons_self
        · exact h
      · rcases h with h | h
        · rw [h]; exact List.mem_cons_self
        · exact List.mem_cons_of_mem _ h
theorem kndF_mem {x : List Int} : ∀ (l s : List (List Int)), x ∈ s ∨ x ∈ l → x ∈ kndF s l := by
  intro l; induction l with
  | nil => intro s h; simpa [kndF] using h
  | cons y l ih =>
    intro s h
    unfold kndF
    refine ih _ ?_
    rcases h with h | h
    · exact .inl (insK_mem (.inr h))
    · rcases List.mem_cons.1 h with h | h
      · exact .inl (insK_mem (.inl h))
      · exact .inr h
theorem insK_len (m : List Int) (L : List (List Int)) : (insK m L).length ≤ L.length + 1 := by
  induction L with
  | nil => simp [insK]
  | cons y L ih => unfold insK; split <;> (try split) <;> simp <;> omega
theorem kndF_len : ∀ (l s : List (List Int)), (kndF s l).length ≤ s.length + l.length := by
  intro l; induction l with
  | nil => intro s; exact Nat.le_refl _
  | cons y l ih => intro s; unfold kndF; have h1 := ih (insK y s); have h2 := insK_len y s; simp; omega
theorem idxF_lt {m : List Int} : ∀ {L : List (List Int)}, m ∈ L → idxF m L < L.length ∧ L.getD (idxF m L) [] = m := by
  intro L; induction L with
  | nil => intro h; cases h
  | cons y L ih =>
    intro h
    unfold idxF
    by_cases e : y = m
    · rw [if_pos e]; exact ⟨by simp, by simpa using e⟩
    · rw [if_neg e]
      have h := ih (by rcases List.mem_cons.1 h with h | h; exact absurd h.symm e; exact h)
      exact ⟨by simp; omega, by simpa using h.2⟩
theorem idxF_ne {m : List Int} : ∀ {L : List (List Int)} {i : Nat}, i < idxF m L → L.getD i [] ≠ m := by
  intro L; induction L with
  | nil => intro i h; simp [idxF] at h
  | cons y L ih =>
    intro i h
    unfold idxF at h
    by_cases e : y = m
    · rw [if_pos e] at h; omega
    · rw [if_neg e] at h
      cases i with
      | zero => simpa using e
      | succ i => simpa using ih (by omega)
def balI (n : Nat) (cs : List Int) (i q : Nat) : Int := cntI (q : Int) ((cs.take n).take i) - cntI (q : Int) ((cs.drop n).take (i - n))
theorem cntI_snoc (v x : Int) : ∀ l : List Int, cntI v (l ++ [x]) = cntI v l + if x = v then 1 else 0 := by
  intro l; induction l with
  | nil => simp only [List.nil_append, cntI]; split <;> simp
  | cons y l ih => simp only [List.cons_append, cntI, ih]; split <;> omega
theorem cntI_bd (v : Int) : ∀ l : List Int, 0 ≤ cntI v l ∧ cntI v l ≤ l.length := by
  intro l; induction l with
  | nil => simp [cntI]
  | cons y l ih => unfold cntI; split <;> simp <;> omega
theorem map_set_rng {K j : Nat} (hj : j < K) (f g : Nat → Int) (v : Int) (hv : g j = v) (h : ∀ q, q ≠ j → g q = f q) : ((List.range K).map f).set j v = (List.range K).map g := by
  apply List.ext_getElem
  · simp
  · intro i h1 h2
    simp only [List.length_map, List.length_range] at h2
    rw [List.getElem_set]
    split
    · rename_i e; subst e; simp [hv]
    · rename_i e; simp [h i (fun e' => e e'.symm)]
theorem balI_up {n K i j : Nat} {cs : List Int} (hi : i < n) (hn : n ≤ cs.length) (hj : j < K) (h : cs.getD i 0 = (j : Int)) : ((List.range K).map fun q => balI n cs i q).set j (balI n cs i j + 1) = (List.range K).map fun q => balI n cs (i + 1) q := by
  have e1 : i + 1 - n = 0 := by omega
  have e2 : i - n = 0 := by omega
  have hl : i < (cs.take n).length := by rw [List.length_take]; omega
  have e3 : (cs.take n).take (i + 1) = (cs.take n).take i ++ [(j : Int)] := by
    rw [List.take_succ_eq_append_getElem hl]
    congr 1
    rw [List.getElem_take, ← h]
    simp [List.getD_eq_getElem?_getD, List.getElem?_eq_getElem (show i < cs.length by omega)]
  refine map_set_rng hj _ _ _ ?_ fun q hq => ?_
  · unfold balI; rw [e1, e2, e3, cntI_snoc, if_pos rfl]; omega
  · unfold balI; rw [e1, e2, e3, cntI_snoc, if_neg (by omega)]; omega
theorem balI_dn {n K i j : Nat} {cs : List Int} (hi : n ≤ i) (hn : i < cs.length) (hj : j < K) (h : cs.getD i 0 = (j : Int)) : ((List.range K).map fun q => balI n cs i q).set j (balI n cs i j - 1) = (List.range K).map fun q => balI n cs (i + 1) q := by
  obtain ⟨r, rfl⟩ : ∃ r, i = n + r := ⟨i - n, by omega⟩
  have e1 : n + r + 1 - n = r + 1 := by omega
  have e2 : n + r - n = r := by omega
  have hl : r < (cs.drop n).length := by rw [List.length_drop]; omega
  have e3 : (cs.drop n).take (r + 1) = (cs.drop n).take r ++ [(j : Int)] := by
    rw [List.take_succ_eq_append_getElem hl]
    congr 1
    rw [List.getElem_drop, ← h]
    simp [List.getD_eq_getElem?_getD, List.getElem?_eq_getElem hn]
  have e4 : (cs.take n).take (n + r + 1) = (cs.take n).take (n + r) := by
    rw [List.take_take, List.take_take]; congr 1; omega
  refine map_set_rng hj _ _ _ ?_ fun q hq => ?_
  · unfold balI; rw [e1, e2, e3, e4, cntI_snoc, if_pos rfl]; omega
  · unfold balI; rw [e1, e2, e3, e4, cntI_snoc, if_neg (by omega)]; omega
theorem balI_bd (n : Nat) (cs : List Int) (i q : Nat) : -(cs.length : Int) ≤ balI n cs i q ∧ balI n cs i q ≤ cs.length := by
  have h1 := cntI_bd (q : Int) ((cs.take n).take i)
  have h2 := cntI_bd (q : Int) ((cs.drop n).take (i - n))
  simp only [List.length_take, List.length_drop] at h1 h2
  unfold balI
  omega
theorem balI_end {n K : Nat} {cs : List Int} (h : cs.length = n + n) : ((List.range K).map fun q => balI n cs (n + n) q) = (List.range K).map fun q : Nat => (cntI (q : Int) (cs.take n) - cntI (q : Int) (cs.drop n)) := by
  apply List.map_congr_left
  intro q _
  unfold balI
  have e1 : (cs.take n).take (n + n) = cs.take n := List.take_of_length_le (by rw [List.length_take]; omega)
  have e2 : (cs.drop n).take (n + n - n) = cs.drop n := List.take_of_length_le (by rw [List.length_drop]; omega)
  rw [e1, e2]
theorem mrks_len (T : List (List Int)) (n : Nat) (c d : List Int) : (mrks T n c d).length = n + n := by simp [mrks]
theorem mrks_a (T : List (List Int)) (n : Nat) (c d : List Int) {x : Nat} (hx : x < n) : (mrks T n c d).take (x + 1) = (mrks T n c d).take x ++ [mrkF T n c x] := by
  have h : (mrks T n c d)[x]? = some (mrkF T n c x) := by simp [mrks, List.getElem?_append, hx]
  rw [List.take_add_one, h]; rfl
theorem mrks_b (T : List (List Int)) (n : Nat) (c d : List Int) {x : Nat} (hx : x < n) : (mrks T n c d).take (n + x + 1) = (mrks T n c d).take (n + x) ++ [mrkF T n d x] := by
  have h : (mrks T n c d)[n + x]? = some (mrkF T n d x) := by simp [mrks, List.getElem?_append, hx]
  rw [List.take_add_one, h]; rfl
theorem nmk_at {ms : List (List Int)} {i : Nat} (hi : i < ms.length) : (nmkL ms).getD i 0 = ((idxF (ms.getD i []) (kndF [] ms) : Nat) : Int) := by
  simp [nmkL, List.getD_eq_getElem?_getD, List.getElem?_eq_getElem hi]
theorem nmk_less {ms : List (List Int)} (h : ms.length ≤ 60) : Less 61 (nmkL ms) := fun i hi => by
  have hi' : i < ms.length := by simpa [nmkL] using hi
  refine ⟨_, ?_, nmk_at hi'⟩
  have h1 : ms.getD i [] ∈ kndF [] ms := kndF_mem ms [] (.inr (by simp [List.getD_eq_getElem?_getD, List.getElem?_eq_getElem hi']))
  have h2 := (idxF_lt h1).1
  have h3 := kndF_len ms []
  simp at h3; omega
theorem Less.take {N : Nat} {l : List Int} (h : Less N l) (k : Nat) : Less N (l.take k) := fun i hi => by
  rw [List.length_take] at hi
  obtain ⟨v, h1, h2⟩ := h i (by omega)
  refine ⟨v, h1, ?_⟩
  rw [← h2]; simp [List.getD_eq_getElem?_getD, List.getElem?_take, show i < k by omega]
theorem Less.drop {N : Nat} {l : List Int} (h : Less N l) (k : Nat) : Less N (l.drop k) := fun i hi => by
  rw [List.length_drop] at hi
  obtain ⟨v, h1, h2⟩ := h (k + i) (by omega)
  refine ⟨v, h1, ?_⟩
  rw [← h2]; simp [List.getD_eq_getElem?_getD, List.getElem?_drop]
theorem finH {m N k lo c8 n8 : Nat} {a aa ad : Option Addr} {ca : Nat} {vs : List SV} {L : List (List Int)} {A : List Int} {w w8 : World} (h : KnR w a N vs L) (hA : Row w aa m A) (hb : Below w.heap.size w w8)
    (hO : Hd w8 lo ad n8 c8 ([] ++ vs.take k ++ ([(aa, m, ca)] ++ vs.drop k))) (hk : k ≤ N) (e : insK A L = L.take k ++ A :: L.drop k) (hl : (insK A L).length = N + 1) (hm : m ≤ 9223372036854775807) :
    ∃ g, ad = some ⟨g, 0, none⟩ ∧ N + 1 ≤ c8 ∧ c8 ≤ 9223372036854775807 ∧ KnR w8 (some ⟨g, 0, none⟩) (N + 1) (vs.take k ++ (aa, m, ca) :: vs.drop k) (insK A L) := by
  have hvl := h.hd.1
  have hLl := h.len
  have hn : n8 = N + 1 := by rw [← hO.1]; simp; omega
  subst hn
  rcases hO.block with ⟨h1, h2, _⟩ | ⟨g, cur, h1, h2, h3, h4, h5, h6, h7⟩
  · omega
  · subst h1
    refine ⟨g, rfl, h4, by unfold maxLen at h5; omega, ⟨by simpa using hO.read, hl.symm, fun i hi => ?_⟩⟩
    rw [e]
    have tk : (vs.take k).length = k := by rw [List.length_take]; omega
    have tL : (L.take k).length = k := by rw [List.length_take]; omega
    rcases Nat.lt_trichotomy i k with hik | hik | hik
    · have e1 : (vs.take k ++ (aa, m, ca) :: vs.drop k).getD i svO = vs.getD i svO := by
        rw [List.getD_eq_getElem?_getD, List.getElem?_append_left (by omega), List.getElem?_take, if_pos hik, List.getD_eq_getElem?_getD]
      have e2 : (L.take k ++ A :: L.drop k).getD i [] = L.getD i [] := by
        rw [List.getD_eq_getElem?_getD, List.getElem?_append_left (by omega), List.getElem?_take, if_pos hik, List.getD_eq_getElem?_getD]
      rw [e1, e2]
      exact ⟨(h.el i (by omega)).1.below hb, (h.el i (by omega)).2⟩
    · subst hik
      have e1 : (vs.take i ++ (aa, m, ca) :: vs.drop i).getD i svO = (aa, m, ca) := by
        rw [List.getD_eq_getElem?_getD, List.getElem?_append_right (by omega), tk, Nat.sub_self]; rfl
      have e2 : (L.take i ++ A :: L.drop i).getD i [] = A := by
        rw [List.getD_eq_getElem?_getD, List.getElem?_append_right (by omega), tL, Nat.sub_self]; rfl
      rw [e1, e2]
      exact ⟨hA.below hb, hm⟩
    · obtain ⟨j, rfl⟩ : ∃ j, i = k + 1 + j := ⟨i - k - 1, by omega⟩
      have e1 : (vs.take k ++ (aa, m, ca) :: vs.drop k).getD (k + 1 + j) svO = vs.getD (k + j) svO := by
        rw [List.getD_eq_getElem?_getD, List.getElem?_append_right (by omega), tk, show k + 1 + j - k = j + 1 by omega, List.getElem?_cons_succ, List.getElem?_drop, List.getD_eq_getElem?_getD]
      have e2 : (L.take k ++ A :: L.drop k).getD (k + 1 + j) [] = L.getD (k + j) [] := by
        rw [List.getD_eq_getElem?_getD, List.getElem?_append_right (by omega), tL, show k + 1 + j - k = j + 1 by omega, List.getElem?_cons_succ, List.getElem?_drop, List.getD_eq_getElem?_getD]
      rw [e1, e2]
      exact ⟨(h.el (k + j) (by omega)).1.below hb, (h.el (k + j) (by omega)).2⟩
end Go.Proofs.YtiliimkfobfbnaaGreat
