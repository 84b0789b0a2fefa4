/-
  Walks and plain laws of this seat, some texts in one.
  No condition but bounds on lengths.
-/
import Derived.Test.YtiliimkfobfbnaaGreatPt2
namespace Go.Proofs.YtiliimkfobfbnaaGreat
set_option linter.unusedVariables false
set_option linter.unusedSimpArgs false
def Mp (im : List Int) (a v : Nat) : Prop := im.getD a 0 = ((v : Nat) : Int)
theorem Mp.one {im : List Int} {a u v : Nat} (h : Mp im a u) (k : Mp im a v) : u = v := by unfold Mp at h k; omega
structure MapSt (n : Nat) (im : List Int) (ud : List Bool) (st : List Int) : Prop where
  li : im.length = n
  lu : ud.length = n
  val : ∀ a, a < n → im.getD a 0 = -1 ∨ ∃ v, v < n ∧ Mp im a v
  inj : ∀ a b v, a < n → b < n → Mp im a v → Mp im b v → a = b
  used : ∀ v, v < n → (ud.getD v false = true ↔ ∃ a, a < n ∧ Mp im a v)
  mem : ∀ x ∈ st, ∃ a, a < n ∧ x = ((a : Nat) : Int)
  dom : ∀ a, a < n → (((a : Nat) : Int) ∈ st ↔ ∃ v, Mp im a v)
  nd : st.Nodup
def Ext (n : Nat) (im st im' st' : List Int) : Prop := (∃ more, st' = st ++ more) ∧ ∀ a v, a < n → Mp im a v → Mp im' a v
theorem Ext.refl (n : Nat) (im st : List Int) : Ext n im st im st := ⟨⟨[], by simp⟩, fun _ _ _ h => h⟩
theorem Ext.trans {n : Nat} {a b c d e f : List Int} (h : Ext n a b c d) (k : Ext n c d e f) : Ext n a b e f := by
  obtain ⟨⟨m, rfl⟩, h2⟩ := h
  obtain ⟨⟨m', rfl⟩, k2⟩ := k
  exact ⟨⟨m ++ m', by simp⟩, fun a v ha q => k2 a v ha (h2 a v ha q)⟩
structure Iso (n : Nat) (ts us : List (List (List Int))) (p : Nat → Nat) : Prop where
  lt : ∀ a, a < n → p a < n
  inj : ∀ a b, a < n → b < n → p a = p b → a = b
  hom : ∀ k, k < ts.length → ∀ a b, a < n → b < n → p (tv (ts.getD k []) a b) = tv (us.getD k []) (p a) (p b)
def Pex (n : Nat) (p : Nat → Nat) (im : List Int) : Prop := ∀ a v, a < n → Mp im a v → p a = v
def goodK (ts us : List (List (List Int))) (im : List Int) (k a b : Nat) : Prop := ∀ u v, Mp im a u → Mp im b v → Mp im (tv (ts.getD k []) a b) (tv (us.getD k []) u v)
def good (ts us : List (List (List Int))) (im : List Int) (a b : Nat) : Prop := ∀ k, k < ts.length → goodK ts us im k a b
section
variable {n : Nat} {ts us : List (List (List Int))}
theorem goodK.ext {im st im' st' : List Int} {k a b : Nat} (hs : Sq n (ts.getD k [])) (h : goodK ts us im k a b) (he : Ext n im st im' st') (ha : a < n) (hb : b < n) (ma : ∃ u, Mp im a u) (mb : ∃ u, Mp im b u) : goodK ts us im' k a b := fun u v q1 q2 => by
  obtain ⟨u', ma⟩ := ma
  obtain ⟨v', mb⟩ := mb
  obtain rfl := (he.2 a u' ha ma).one q1
  obtain rfl := (he.2 b v' hb mb).one q2
  exact he.2 _ _ (hs.lt ha hb) (h _ _ ma mb)
structure AssR (n : Nat) (ts us : List (List (List Int))) (x v : Nat) (im : List Int) (st : List Int) (r : Bool) (im' : List Int) (ud' : List Bool) (st' : List Int) : Prop where
  ms : MapSt n im' ud' st'
  ex : Ext n im st im' st'
  at_ : r = true → Mp im' x v
  px : r = true → ∀ p, Iso n ts us p → Pex n p im → p x = v → Pex n p im'
  gd : r = true → ∀ a b, a < n → b < n → (¬ ∃ u, Mp im a u) → (∃ u, Mp im' a u) → (∃ u, Mp im' b u) → good ts us im' a b ∧ good ts us im' b a
  no : r = false → ∀ p, Iso n ts us p → Pex n p im → p x ≠ v
theorem AssR.taken {x v : Nat} {im : List Int} {ud : List Bool} {st : List Int} (h : MapSt n im ud st) (hx : x < n) (hv : v < n) (h1 : im.getD x 0 = -1) (h2 : ud.getD v false = true) : AssR n ts us x v im st false im ud st := by
  refine ⟨h, Ext.refl _ _ _, (fun e => by cases e), (fun e => by cases e), (fun e => by cases e), fun _ p hp q e2 => ?_⟩
  obtain ⟨a, ha, hm⟩ := (h.used v hv).1 h2
  have e3 := q a v ha hm
  have := hp.inj a x ha hx (by omega)
  subst this
  unfold Mp at hm; omega
theorem getD_setI {l : List Int} {i j : Nat} (z : Int) (h : i < l.length) : (l.set i z).getD j 0 = if i = j then z else l.getD j 0 := by
  by_cases e : i = j
  · subst e; simp [List.getD_eq_getElem?_getD, List.getElem?_set, h]
  · simp [List.getD_eq_getElem?_getD, List.getElem?_set, e]
theorem getD_setB {l : List Bool} {i j : Nat} (z : Bool) (h : i < l.length) : (l.set i z).getD j false = if i = j then z else l.getD j false := by
  by_cases e : i = j
  · subst e; simp [List.getD_eq_getElem?_getD, List.getElem?_set, h]
  · simp [List.getD_eq_getElem?_getD, List.getElem?_set, e]
theorem MapSt.put {x v : Nat} {im : List Int} {ud : List Bool} {st : List Int} (h : MapSt n im ud st) (hx : x < n) (hv : v < n) (h1 : im.getD x 0 = -1) (h2 : ud.getD v false = false) :
    MapSt n (im.set x v) (ud.set v true) (st ++ [((x : Nat) : Int)]) ∧ Ext n im st (im.set x v) (st ++ [((x : Nat) : Int)]) ∧ Mp (im.set x v) x v ∧ ∀ a u, a < n → Mp (im.set x v) a u → a = x ∨ Mp im a u := by
  have hli : x < im.length := by rw [h.li]; exact hx
  have hlu : v < ud.length := by rw [h.lu]; exact hv
  have gi := fun j => getD_setI (l := im) (i := x) (j := j) ((v : Nat) : Int) hli
  have gu := fun j => getD_setB (l := ud) (i := v) (j := j) true hlu
  have nv : ∀ a, a < n → ¬ Mp im a v := fun a ha q => by
    have := (h.used v hv).2 ⟨a, ha, q⟩; rw [h2] at this; cases this
  have hxx : Mp (im.set x v) x v := by unfold Mp; rw [gi, if_pos rfl]
  have hne : ∀ a u, a ≠ x → (Mp (im.set x v) a u ↔ Mp im a u) := fun a u e => by unfold Mp; rw [gi, if_neg (Ne.symm e)]
  refine ⟨⟨by rw [List.length_set]; exact h.li, by rw [List.length_set]; exact h.lu, fun a ha => ?_, fun a b u ha hb q1 q2 => ?_, fun u hu => ?_, fun y hy => ?_, fun a ha => ?_, ?_⟩, ⟨⟨_, rfl⟩, fun a u ha q => ?_⟩, hxx, fun a u ha q => ?_⟩
  · by_cases e : a = x
    · subst e; exact .inr ⟨v, hv, hxx⟩
    · rcases h.val a ha with q | ⟨u, hu, q⟩
      · left; rw [gi, if_neg (Ne.symm e)]; exact q
      · exact .inr ⟨u, hu, (hne a u e).2 q⟩
  · by_cases e : a = x
    · by_cases e' : b = x
      · omega
      · subst e
        obtain rfl := hxx.one q1
        exact absurd ((hne b v e').1 q2) (nv b hb)
    · by_cases e' : b = x
      · subst e'
        obtain rfl := hxx.one q2
        exact absurd ((hne a v e).1 q1) (nv a ha)
      · exact h.inj a b u ha hb ((hne a u e).1 q1) ((hne b u e').1 q2)
  · rw [gu]
    by_cases e : v = u
    · subst e; rw [if_pos rfl]; exact ⟨fun _ => ⟨x, hx, hxx⟩, fun _ => rfl⟩
    · rw [if_neg e, h.used u hu]
      constructor
      · rintro ⟨a, ha, q⟩
        have e2 : a ≠ x := by rintro rfl; unfold Mp at q; omega
        exact ⟨a, ha, (hne a u e2).2 q⟩
      · rintro ⟨a, ha, q⟩
        have e2 : a ≠ x := by rintro rfl; exact e (hxx.one q)
        exact ⟨a, ha, (hne a u e2).1 q⟩
  · rcases List.mem_append.1 hy with hy | hy
    · exact h.mem y hy
    · simp at hy; exact ⟨x, hx, hy⟩
  · rw [List.mem_append]
    by_cases e : a = x
    · subst e; exact ⟨fun _ => ⟨v, hxx⟩, fun _ => .inr (by simp)⟩
    · constructor
      · rintro (q | q)
        · obtain ⟨u, q⟩ := (h.dom a ha).1 q; exact ⟨u, (hne a u e).2 q⟩
        · simp at q; omega
      · rintro ⟨u, q⟩
        exact .inl ((h.dom a ha).2 ⟨u, (hne a u e).1 q⟩)
  · rw [List.nodup_append]
    refine ⟨h.nd, by simp, fun y hy z hz => ?_⟩
    simp at hz; subst hz
    rintro rfl
    obtain ⟨u, q⟩ := (h.dom x hx).1 hy
    unfold Mp at q; omega
  · by_cases e : a = x
    · subst e; unfold Mp at q; omega
    · exact (hne a u e).2 q
  · by_cases e : a = x
    · exact .inl e
    · exact .inr ((hne a u e).1 q)
structure AssL (n : Nat) (ts us : List (List (List Int))) (x v : Nat) (im0 st0 : List Int) (i k : Nat) (im : List Int) (ud : List Bool) (st : List Int) : Prop where
  ms : MapSt n im ud st
  ex : Ext n im0 st0 im st
  xx : Mp im x v
  px : ∀ p, Iso n ts us p → Pex n p im0 → p x = v → Pex n p im
  gd : ∀ a b, a < n → b < n → a ≠ x → (¬ ∃ u, Mp im0 a u) → (∃ u, Mp im a u) → (∃ u, Mp im b u) → good ts us im a b ∧ good ts us im b a
  dn : ∀ j, j < i → ∀ y, y < n → st.getD j 0 = ((y : Nat) : Int) → good ts us im x y ∧ good ts us im y x
  kk : ∀ k', k' < k → ∀ y, y < n → st.getD i 0 = ((y : Nat) : Int) → goodK ts us im k' x y ∧ goodK ts us im k' y x
  il : i ≤ st.length
theorem AssL.start {x v : Nat} {im : List Int} {ud : List Bool} {st : List Int} (h : MapSt n im ud st) (hx : x < n) (hv : v < n) (h1 : im.getD x 0 = -1) (h2 : ud.getD v false = false) :
    AssL n ts us x v im st 0 0 (im.set x v) (ud.set v true) (st ++ [((x : Nat) : Int)]) := by
  obtain ⟨q1, q2, q3, q4⟩ := h.put hx hv h1 h2
  refine ⟨q1, q2, q3, fun p hp he e a u ha hm => ?_, fun a b ha hb hne hn hm hm2 => ?_, fun j hj => absurd hj (by omega), fun k hk => absurd hk (by omega), Nat.zero_le _⟩
  · rcases q4 a u ha hm with rfl | hm'
    · obtain rfl := q3.one hm; exact e
    · exact he a u ha hm'
  · obtain ⟨u, hm⟩ := hm
    rcases q4 a u ha hm with rfl | hm'
    · exact absurd rfl hne
    · exact absurd ⟨u, hm'⟩ hn
variable {x v : Nat} {im0 st0 : List Int} {i k : Nat} {im : List Int} {ud : List Bool} {st : List Int}
theorem MapSt.get (h : MapSt n im ud st) {j : Nat} (hj : j < st.length) : ∃ y, y < n ∧ st.getD j 0 = ((y : Nat) : Int) ∧ ∃ u, u < n ∧ Mp im y u := by
  have hm : st[j] ∈ st := List.getElem_mem hj
  obtain ⟨y, hy, e⟩ := h.mem _ hm
  rw [e] at hm
  obtain ⟨u, hu⟩ := (h.dom y hy).1 hm
  refine ⟨y, hy, by rw [List.getD_eq_getElem?_getD, List.getElem?_eq_getElem hj, Option.getD_some, e], ?_⟩
  rcases h.val y hy with q | ⟨w, hw, q⟩
  · unfold Mp at hu; omega
  · exact ⟨w, hw, q⟩
theorem ext_getD {im st im' st' : List Int} (h : Ext n im st im' st') {j : Nat} (hj : j < st.length) : st'.getD j 0 = st.getD j 0 := by
  obtain ⟨m, rfl⟩ := h.1
  rw [List.getD_eq_getElem?_getD, List.getElem?_append_left hj, ← List.getD_eq_getElem?_getD]
theorem AssL.step {y w : Nat} {im1 im' : List Int} {ud1 ud' : List Bool} {st1 st' : List Int} (hT : ∀ k, k < ts.length → Sq n (ts.getD k [])) (hk : k < ts.length) (hx : x < n) (hy : y < n) (hi : i < st.length) (hiy : st.getD i 0 = ((y : Nat) : Int))
    (h : AssL n ts us x v im0 st0 i k im ud st) (hm : Mp im y w) (a : AssR n ts us (tv (ts.getD k []) x y) (tv (us.getD k []) v w) im st true im1 ud1 st1) (b : AssR n ts us (tv (ts.getD k []) y x) (tv (us.getD k []) w v) im1 st1 true im' ud' st') : AssL n ts us x v im0 st0 i (k + 1) im' ud' st' := by
  have hex := a.ex.trans b.ex
  have hxx := hex.2 x v hx h.xx
  have hlen : st.length ≤ st'.length := by obtain ⟨m, rfl⟩ := hex.1; simp
  have gx : ∀ {c d : Nat}, c < n → d < n → (∃ u, Mp im c u) → (∃ u, Mp im d u) → good ts us im c d → good ts us im' c d := fun hc hd mc md g k' hk' => (g k' hk').ext (hT k' hk') hex hc hd mc md
  have mst : ∀ j z, j < st.length → z < n → st.getD j 0 = ((z : Nat) : Int) → ∃ u, Mp im z u := fun j z hj hz e => by
    obtain ⟨z', hz', e', u, hu, q⟩ := h.ms.get hj
    obtain rfl : z' = z := by omega
    exact ⟨u, q⟩
  refine ⟨b.ms, h.ex.trans hex, hxx, fun p hp q e2 => ?_, fun c d hc hd hne hn mc md => ?_, fun j hj z hz e => ?_, fun k' hk' z hz e => ?_, by have := h.il; omega⟩
  · have h1 := h.px p hp q e2
    have h2 := a.px rfl p hp h1 (by rw [hp.hom k hk x y hx hy, e2, h1 y w hy hm])
    exact b.px rfl p hp h2 (by rw [hp.hom k hk y x hy hx, e2, h1 y w hy hm])
  · by_cases c1 : ∃ u, Mp im1 c u
    · by_cases c0 : ∃ u, Mp im c u
      · by_cases d1 : ∃ u, Mp im1 d u
        · by_cases d0 : ∃ u, Mp im d u
          · obtain ⟨g1, g2⟩ := h.gd c d hc hd hne hn c0 d0
            exact ⟨gx hc hd c0 d0 g1, gx hd hc d0 c0 g2⟩
          · obtain ⟨g1, g2⟩ := a.gd rfl d c hd hc d0 d1 c1
            exact ⟨fun k' hk' => (g2 k' hk').ext (hT k' hk') b.ex hc hd c1 d1, fun k' hk' => (g1 k' hk').ext (hT k' hk') b.ex hd hc d1 c1⟩
        · obtain ⟨g1, g2⟩ := b.gd rfl d c hd hc d1 md mc
          exact ⟨g2, g1⟩
      · by_cases d1 : ∃ u, Mp im1 d u
        · obtain ⟨g1, g2⟩ := a.gd rfl c d hc hd c0 c1 d1
          exact ⟨fun k' hk' => (g1 k' hk').ext (hT k' hk') b.ex hc hd c1 d1, fun k' hk' => (g2 k' hk').ext (hT k' hk') b.ex hd hc d1 c1⟩
        · obtain ⟨g1, g2⟩ := b.gd rfl d c hd hc d1 md mc
          exact ⟨g2, g1⟩
    · exact b.gd rfl c d hc hd c1 mc md
  · rw [ext_getD hex (by have := h.il; omega)] at e
    obtain ⟨g1, g2⟩ := h.dn j hj z hz e
    have mz := mst j z (by have := h.il; omega) hz e
    exact ⟨gx hx hz ⟨v, h.xx⟩ mz g1, gx hz hx mz ⟨v, h.xx⟩ g2⟩
  · rw [ext_getD hex hi] at e
    have mz := mst i z hi hz e
    rcases Nat.lt_or_ge k' k with q | q
    · obtain ⟨g1, g2⟩ := h.kk k' q z hz e
      exact ⟨g1.ext (hT k' (by omega)) hex hx hz ⟨v, h.xx⟩ mz, g2.ext (hT k' (by omega)) hex hz hx mz ⟨v, h.xx⟩⟩
    · obtain rfl : k' = k := by omega
      obtain rfl : z = y := by omega
      have hm' := hex.2 z w hz hm
      refine ⟨fun u' v' q1 q2 => ?_, fun u' v' q1 q2 => ?_⟩
      · obtain rfl := hxx.one q1
        obtain rfl := hm'.one q2
        exact b.ex.2 _ _ ((hT k' hk).lt hx hz) (a.at_ rfl)
      · obtain rfl := hm'.one q1
        obtain rfl := hxx.one q2
        exact b.at_ rfl
theorem AssL.next (h : AssL n ts us x v im0 st0 i ts.length im ud st) (hi : i < st.length) : AssL n ts us x v im0 st0 (i + 1) 0 im ud st := by
  refine ⟨h.ms, h.ex, h.xx, h.px, h.gd, fun j hj y hy e => ?_, fun k hk => absurd hk (by omega), by omega⟩
  rcases Nat.lt_or_ge j i with q | q
  · exact h.dn j q y hy e
  · obtain rfl : j = i := by omega
    exact ⟨fun k' hk' => (h.kk k' hk' y hy e).1, fun k' hk' => (h.kk k' hk' y hy e).2⟩
theorem AssL.done (hx : x < n) (h : AssL n ts us x v im0 st0 st.length 0 im ud st) : AssR n ts us x v im0 st0 true im ud st := by
  refine ⟨h.ms, h.ex, fun _ => h.xx, fun _ => h.px, fun _ a b ha hb hn ma mb => ?_, fun e => by cases e⟩
  have inS : ∀ y, y < n → (∃ u, Mp im y u) → ∃ j, j < st.length ∧ st.getD j 0 = ((y : Nat) : Int) := fun y hy q => by
    have hm := (h.ms.dom y hy).2 q
    obtain ⟨j, hj, e⟩ := List.getElem_of_mem hm
    exact ⟨j, hj, by rw [List.getD_eq_getElem?_getD, List.getElem?_eq_getElem hj, Option.getD_some, e]⟩
  by_cases e : a = x
  · subst e
    obtain ⟨j, hj, e2⟩ := inS b hb mb
    exact h.dn j hj b hb e2
  · exact h.gd a b ha hb e hn ma mb
end
end Go.Proofs.YtiliimkfobfbnaaGreat
