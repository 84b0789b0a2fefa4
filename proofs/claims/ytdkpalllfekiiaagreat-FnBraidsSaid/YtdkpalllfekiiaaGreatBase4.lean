/-
  Walks and plain laws of this seat, some texts in one.
  No condition but bounds on lengths.
-/
import Derived.Test.YtdkpalllfekiiaaGreatBase2
import Derived.Test.YtdkpalllfekiiaaGreatBase
import Derived.Deep.AppendSrc
import Derived.Deep.RegionLaw
import Derived.Deep.RegionHeld3
namespace Go.Proofs.YtdkpalllfekiiaaGreat
set_option maxRecDepth 100000
set_option linter.unusedVariables false
set_option linter.unusedSimpArgs false
open Go.RowKit

/-- follow f until an element comes again -/
def orbN (f : Nat → Nat) : Nat → List Nat → Nat → List Nat
  | 0, c, _ => c
  | m + 1, c, y => if y ∈ c then c else orbN f m (c ++ [y]) (f y)
def orbF (f : Nat → Nat) (n x : Nat) : List Nat := orbN f n [x] (f x)
def setAll (L : List Int) (c : List Nat) (v : Int) : List Int := c.foldl (fun L y => L.set y v) L
theorem setAll_app (L : List Int) (c d : List Nat) (v : Int) : setAll L (c ++ d) v = setAll (setAll L c v) d v := by simp [setAll]
theorem setAll_snoc (L : List Int) (c : List Nat) (y : Nat) (v : Int) : setAll L (c ++ [y]) v = (setAll L c v).set y v := by simp [setAll]
theorem setAll_len (c : List Nat) (v : Int) : ∀ (L : List Int), (setAll L c v).length = L.length := by
  induction c with
  | nil => intro L; rfl
  | cons x c ih =>
    intro L
    show (setAll (L.set x v) c v).length = _
    rw [ih, List.length_set]
theorem setAll_get (c : List Nat) (v : Int) (i : Nat) : ∀ (L : List Int), i < L.length → (setAll L c v).getD i 0 = if i ∈ c then v else L.getD i 0 := by
  induction c with
  | nil => intro L _; simp [setAll]
  | cons x c ih =>
    intro L hi
    show (setAll (L.set x v) c v).getD i 0 = _
    rw [ih _ (by rw [List.length_set]; exact hi), getD_setz _ _ _ _ hi]
    by_cases h1 : i ∈ c
    · rw [if_pos h1, if_pos (List.mem_cons_of_mem _ h1)]
    · rw [if_neg h1]
      by_cases h2 : i = x
      · subst h2; rw [if_pos rfl, if_pos List.mem_cons_self]
      · rw [if_neg h2, if_neg (by simp [h1, h2])]

theorem nodup_le : ∀ (n : Nat) (c : List Nat), c.Nodup → (∀ x ∈ c, x < n) → c.length ≤ n := by
  intro n
  induction n with
  | zero =>
    intro c _ h
    cases c with
    | nil => exact Nat.le_refl _
    | cons x c => exact absurd (h x List.mem_cons_self) (by omega)
  | succ n ih =>
    intro c hd h
    have h1 := ih (c.erase n) (hd.erase n) (fun x hx => by
      have h2 := (List.Nodup.mem_erase_iff hd).1 hx
      have := h x h2.2
      have := h2.1
      omega)
    by_cases hm : n ∈ c
    · rw [List.length_erase_of_mem hm] at h1; omega
    · rw [List.erase_of_not_mem hm] at h1; omega

/-- under way: c holds the elements so far, l the last of them -/
structure OrbI (f : Nat → Nat) (n x : Nat) (c : List Nat) (l rem : Nat) : Prop where
  nd : c.Nodup
  lt : ∀ u ∈ c, u < n
  xm : x ∈ c
  lm : l ∈ c
  rm : rem + c.length = n + 1
  pre : ∀ z ∈ c, z ≠ x → ∃ u ∈ c, u ≠ l ∧ f u = z
  eq : orbF f n x = orbN f rem c (f l)
theorem OrbI.start (f : Nat → Nat) {n x : Nat} (h : x < n) : OrbI f n x [x] x n :=
  ⟨by simp, by simpa using h, by simp, by simp, by simp, fun z hz hne => absurd (by simpa using hz) hne, rfl⟩
theorem OrbI.le {f : Nat → Nat} {n x : Nat} {c : List Nat} {l rem : Nat} (h : OrbI f n x c l rem) : c.length ≤ n := nodup_le n c h.nd h.lt
theorem OrbI.step {f : Nat → Nat} {n x : Nat} {c : List Nat} {l rem : Nat} (h : OrbI f n x c l rem) (hm : f l ∉ c) (hl : f l < n) : OrbI f n x (c ++ [f l]) (f l) (rem - 1) := by
  have hle := h.le
  obtain ⟨m, rfl⟩ : ∃ m, rem = m + 1 := ⟨rem - 1, by have := h.rm; omega⟩
  refine ⟨?_, ?_, by simp [h.xm], by simp, by have := h.rm; simp; omega, ?_, ?_⟩
  · rw [List.nodup_append]
    refine ⟨h.nd, by simp, fun a ha b hb => ?_⟩
    simp at hb; subst hb
    exact fun e => hm (e ▸ ha)
  · intro u hu
    rcases List.mem_append.1 hu with hu | hu
    · exact h.lt u hu
    · simp at hu; subst hu; exact hl
  · intro z hz hne
    rcases List.mem_append.1 hz with hz | hz
    · obtain ⟨u, hu, _, he⟩ := h.pre z hz hne
      exact ⟨u, by simp [hu], fun e => hm (e ▸ hu), he⟩
    · simp at hz; subst hz
      exact ⟨l, by simp [h.lm], fun e => hm (e ▸ h.lm), rfl⟩
  · rw [h.eq]
    show (if f l ∈ c then c else orbN f m (c ++ [f l]) (f (f l))) = _
    rw [if_neg hm]; rfl
theorem OrbI.stop {f : Nat → Nat} {n x : Nat} {c : List Nat} {l rem : Nat} (h : OrbI f n x c l rem) (hm : f l ∈ c) : orbF f n x = c := by
  have hle := h.le
  obtain ⟨m, rfl⟩ : ∃ m, rem = m + 1 := ⟨rem - 1, by have := h.rm; omega⟩
  rw [h.eq]
  show (if f l ∈ c then c else _) = _
  rw [if_pos hm]
theorem OrbI.closed {f : Nat → Nat} {n x : Nat} {c : List Nat} {l rem : Nat} (h : OrbI f n x c l rem) (hm : f l ∈ c) (hinj : ∀ i j, i < n → j < n → f i = f j → i = j) : ∀ i, i < n → f i ∈ c → i ∈ c := by
  have hll := h.lt l h.lm
  have hx : f l = x := by
    by_cases e : f l = x
    · exact e
    · obtain ⟨u, hu, hne, he⟩ := h.pre _ hm e
      exact absurd (hinj u l (h.lt u hu) hll he) hne
  intro i hi hic
  by_cases e : f i = x
  · rw [hinj i l hi hll (e.trans hx.symm)]; exact h.lm
  · obtain ⟨u, hu, _, he⟩ := h.pre _ hic e
    rw [← hinj u i (h.lt u hu) hi he]; exact hu

/-- labels and the next label, after the first s starts -/
def labS (f : Nat → Nat) (n : Nat) : Nat → List Int × Nat
  | 0 => (List.replicate n (-1), 0)
  | s + 1 => if 0 ≤ (labS f n s).1.getD s 0 then labS f n s else (setAll (labS f n s).1 (orbF f n s) (labS f n s).2, (labS f n s).2 + 1)
def labF (f : Nat → Nat) (n : Nat) : List Int := (labS f n n).1
theorem labS_len (f : Nat → Nat) (n s : Nat) : (labS f n s).1.length = n := by
  induction s with
  | zero => simp [labS]
  | succ s ih =>
    unfold labS; split
    · exact ih
    · rw [setAll_len]; exact ih
theorem labS_num (f : Nat → Nat) (n s : Nat) : (labS f n s).2 ≤ s := by
  induction s with
  | zero => simp [labS]
  | succ s ih =>
    unfold labS; split
    · omega
    · show _ + 1 ≤ _; omega
/-- what is not labelled is led to what is not labelled -/
def Clo (f : Nat → Nat) (n : Nat) (L : List Int) : Prop := ∀ i, i < n → L.getD i 0 < 0 → L.getD (f i) 0 < 0
theorem clo_zero (f : Nat → Nat) (n : Nat) (hf : ∀ i, i < n → f i < n) : Clo f n (List.replicate n (-1)) := by
  intro i hi _
  simp [List.getD_eq_getElem?_getD, List.getElem?_replicate, hf i hi]
theorem clo_step {f : Nat → Nat} {n : Nat} {L : List Int} (h : Clo f n L) (hL : L.length = n) (hf : ∀ i, i < n → f i < n) {c : List Nat} (hc : ∀ i, i < n → f i ∈ c → i ∈ c) (v : Nat) : Clo f n (setAll L c v) := by
  intro i hi hlt
  rw [setAll_get c v i L (by omega)] at hlt
  rw [setAll_get c v (f i) L (by have := hf i hi; omega)]
  by_cases h1 : i ∈ c
  · rw [if_pos h1] at hlt; omega
  · rw [if_neg h1] at hlt
    rw [if_neg (fun h2 => h1 (hc i hi h2))]
    exact h i hi hlt

end Go.Proofs.YtdkpalllfekiiaaGreat

namespace Go.Proofs.YtdkpalllfekiiaaGreat
set_option maxRecDepth 100000
set_option linter.unusedVariables false
set_option linter.unusedSimpArgs false
open Go.RowKit

def Que (w : World) (lo g off n c : Nat) (xs : List Int) : Prop :=
  n = xs.length ∧ lo ≤ g ∧ n ≤ c ∧ c ≤ 9223372036854775807 ∧ ∃ cur, Loc w g cur 2 ∧ off + c ≤ cur.size ∧ ∀ i, i < n → cur[off + i]? = some (.int .i64 (xs.getD i 0))
theorem Que.len {w : World} {lo g off n c : Nat} {xs : List Int} (h : Que w lo g off n c xs) : n = xs.length := h.1
theorem Que.cap {w : World} {lo g off n c : Nat} {xs : List Int} (h : Que w lo g off n c xs) : n ≤ c ∧ c ≤ 9223372036854775807 := ⟨h.2.2.1, h.2.2.2.1⟩
theorem Que.lt {w : World} {lo g off n c : Nat} {xs : List Int} (h : Que w lo g off n c xs) : lo ≤ g ∧ g < w.heap.size := by
  obtain ⟨_, h1, _, _, cur, h2, _⟩ := h; exact ⟨h1, h2.lt⟩
theorem Que.cells {w : World} {lo g off n c : Nat} {xs : List Int} (h : Que w lo g off n c xs) : ∀ i, i < n → w.cell? ⟨g, off + i, none⟩ = some (.int .i64 (xs.getD i 0)) := by
  obtain ⟨_, _, _, _, cur, h2, _, h3⟩ := h
  intro i hi
  exact h2.cell _ (h3 i hi)
theorem Que.tail {w : World} {lo g off n c : Nat} {x : Int} {xs : List Int} (h : Que w lo g off n c (x :: xs)) : Que w lo g (off + 1) (n - 1) (c - 1) xs := by
  obtain ⟨h0, h1, h2, h2', cur, h3, h4, h5⟩ := h
  simp at h0
  refine ⟨by omega, h1, by omega, by omega, cur, h3, by omega, fun i hi => ?_⟩
  have := h5 (i + 1) (by omega)
  rw [show off + 1 + i = off + (i + 1) by omega, this]
  simp [List.getD_eq_getElem?_getD]
theorem Que.cut {w : World} {lo g off c : Nat} {x : Int} (h : Que w lo g off 1 c [x]) : ∃ off', (if c = 1 then some (⟨g, off, none⟩ : Addr) else some ⟨g, off + 1, none⟩) = some ⟨g, off', none⟩ ∧ Que w lo g off' 0 (c - 1) [] := by
  by_cases hc : c = 1
  · subst hc
    obtain ⟨h0, h1, h2, h2', cur, h3, h4, h5⟩ := h
    exact ⟨off, rfl, rfl, h1, by omega, by omega, cur, h3, by omega, fun i hi => absurd hi (by omega)⟩
  · exact ⟨off + 1, if_neg hc, h.tail⟩
theorem Que.below {w w' : World} {lo g off n c : Nat} {xs : List Int} (h : Que w lo g off n c xs) (hb : Below w.heap.size w w') : Que w' lo g off n c xs := by
  obtain ⟨h0, h1, h2, h2', cur, h3, h4⟩ := h
  exact ⟨h0, h1, h2, h2', cur, h3.below hb h3.lt, h4⟩
theorem Que.setne {w : World} {lo g off n c : Nat} {xs : List Int} (h : Que w lo g off n c xs) {a : Addr} (hne : g ≠ a.block) (u : Value) : Que (w.setCell a u) lo g off n c xs := by
  obtain ⟨h0, h1, h2, h2', cur, h3, h4⟩ := h
  exact ⟨h0, h1, h2, h2', cur, h3.setne hne u, h4⟩
theorem Que.one {w : World} {lo b : Nat} {x : Int} (hb : b = w.heap.size) (hlo : lo ≤ b) : Que (w.alloc (.cells #[.int .i64 x] 2)) lo b 0 1 1 [x] :=
  ⟨rfl, hlo, Nat.le_refl _, by decide, _, Loc.new w hb _ _, by simp, fun i (hi : i < 1) => by
    have e : i = 0 := by omega
    subst e
    rfl⟩

/-- append of one number to a queue -/
theorem appQu {ops : Array Oper} {rest : List Oper} {o : Oper} {a : Act} {Q : Exit → Act → World → Prop} {w : World} (hgd : o.guard = none) {s x : Operand}
    (ho : o.op = .call { callee := .builtin .append, args := #[s, x], argTypes := #[24, 24] }) {lo g off n c : Nat} {xs : List Int} (hown : Que w lo g off n c xs) (hs : a.eval s = .slice (some ⟨g, off, none⟩) n c)
    {y : Int} {H : Nat} (hH : w.heap.size = H) (hx : a.eval x = .slice (some ⟨H, 0, none⟩) 1 1) (hlen : n + 1 ≤ 1000000000000) (hlo : lo ≤ w.heap.size)
    (h : ∀ g' off' c' w', Que w' lo g' off' (n + 1) c' (xs ++ [y]) → (g' = g ∨ w.heap.size < g') → (∀ k, k < w.heap.size → k ≠ g → w'.heap[k]? = w.heap[k]?) → Below lo w w' → wpList Tryz.prog ops Q rest (a.put o.dst (.slice (some ⟨g', off', none⟩) (n + 1) c')) w') :
    wpList Tryz.prog ops Q (o :: rest) a (w.alloc (.cells #[.int .i64 y] 2)) := by
  subst hH
  obtain ⟨i0, hi, hz0, hz1, hz2⟩ := info_parts info_int
  refine wpList_plain hgd fun _ hK => ?_
  have hlt := hown.lt
  obtain ⟨h0, h1, h2, h2', cur, h3, h4, h5⟩ := hown
  have h3a := h3.alloc (.cells #[.int .i64 y] 2)
  have hsrc : Go.Src Tryz.prog i0.size 24 (.slice (some ⟨w.heap.size, 0, none⟩) 1 1) 1 [.int .i64 y] (w.alloc (.cells #[.int .i64 y] 2)) :=
    Go.Src.ofSlice _ und_ints _ 1 1 _ (by rw [hz1]; rfl) (cell_one_new _ _ _) (fun u hu => by simp at hu; subst hu; rfl)
  have hb1 : Below lo w (w.alloc (.cells #[.int .i64 y] 2)) := (Below.refl _ _).alloc hlo _
  by_cases hr : n + 1 ≤ c
  · have hin : off + n < cur.size := by omega
    have hrun := run_append_room_src (P := Tryz.prog) (w.alloc (.cells #[.int .i64 y] 2)) 24 24 o.type 2 i0 und_ints hi g off n c _ 1 _ hsrc hr
      (fun j hj => by
        obtain rfl : j = 0 := by simp at hj; omega
        rw [hz1, Nat.mul_one, Nat.add_zero, h3a.cell (v := cur[off + n]) (off + n) (by simp [hin])]; rfl)
      (fun j hj => h3a.free _)
    rw [hz1, Nat.mul_one] at hrun
    unfold Oper.wp execOp
    simp only [ho, resolve, invoke, builtin, Sem.run_bind, Sem.run_pure, Result.andThen_ok, List.map_toArray, List.map_cons, List.map_nil, hs, hx, hrun]
    refine hK _ _ (h g off c _ ⟨by simp [h0], h1, hr, h2', _, (h3a.set (off + n) (.int .i64 y)), by simp; omega, fun i hin' => ?_⟩ (.inl rfl) (fun k hk hne => ?_) (hb1.setCell (by show lo ≤ g; exact h1) _))
    · rw [Array.getElem?_setIfInBounds]
      by_cases e : i = n
      · subst e
        rw [if_pos rfl, if_pos hin, h0]
        simp [List.getD_eq_getElem?_getD]
      · rw [if_neg (by omega), h5 i (by omega)]
        have : i < xs.length := by omega
        simp [List.getD_eq_getElem?_getD, List.getElem?_append_left this]
    · have e1 : ((w.alloc (.cells #[.int .i64 y] 2)).setCells g (off + n) [Value.int .i64 y]).heap[k]? = (w.alloc (.cells #[.int .i64 y] 2)).heap[k]? := Below.heap_setCell _ ⟨g, off + n, none⟩ (.int .i64 y) k hne
      exact e1.trans (heap_alloc_old w _ hk)
  · have hold : (Builtin.firstCells i0.size n (.slice (some ⟨g, off, none⟩) n c)).run Tryz.prog (w.alloc (.cells #[.int .i64 y] 2)).drew = .ok (xs.map (Value.int .i64)).toArray (w.alloc (.cells #[.int .i64 y] 2)).drew := by
      refine run_firstCells_some _ _ n ⟨g, off, none⟩ n c _ (by rw [hz1]; simp [h0]) (fun j u hu => ?_)
      have hj : j < n := by
        have := (List.getElem?_eq_some_iff.1 hu).1
        simp at this; omega
      rw [Addr.add_lit]
      have hc := h3a.cell _ (h5 j hj)
      have hjx : j < xs.length := by omega
      refine hc.trans ?_
      rw [← hu]
      simp [List.getD_eq_getElem?_getD, hjx]
    have hrun := run_append_grow_src (P := Tryz.prog) (w.alloc (.cells #[.int .i64 y] 2)) 24 24 o.type 2 i0 (.int .i64 0) und_ints hi hz0 (some ⟨g, off, none⟩) n c _ hold _ 1 _ hsrc (by omega) (by omega)
      (by rw [hz2]; exact growslice_fits (by omega) (by omega))
    have hge := grownCap_ge (w.alloc (.cells #[.int .i64 y] 2)) (n + 1) c 2
    have hcm : grownCap (w.alloc (.cells #[.int .i64 y] 2)) (n + 1) c 2 ≤ maxLen := grownCap_le_maxLen _ (n + 1) c 2 (by unfold maxLen; omega)
    unfold Oper.wp execOp
    simp only [ho, resolve, invoke, builtin, Sem.run_bind, Sem.run_pure, Result.andThen_ok, List.map_toArray, List.map_cons, List.map_nil, hs, hx, hrun]
    generalize hC : grownCap (w.alloc (.cells #[.int .i64 y] 2)) (n + 1) c 2 = C at hge hcm ⊢
    refine hK _ _ (h _ 0 C _ ⟨by simp [h0], by simp; omega, hge, by unfold maxLen at hcm; omega, _, Loc.new _ rfl _ _, ?_, fun i hin' => ?_⟩ (.inr (by simp)) (fun k hk hne => ?_) ?_)
    · have hzs : (Value.int .i64 0).cells.size = 1 := rfl
      simp [size_zeroCells, hzs]; omega
    · rw [Nat.zero_add, Array.getElem?_append_left (by simp; omega)]
      have e : xs.map (Value.int .i64) ++ [Value.int .i64 y] = (xs ++ [y]).map (Value.int .i64) := by simp
      rw [e]
      have hix : i < (xs ++ [y]).length := by simp; omega
      simp only [List.getElem?_toArray, List.getElem?_map]
      rw [List.getElem?_eq_getElem hix, List.getD_eq_getElem?_getD, List.getElem?_eq_getElem hix]; rfl
    · exact (heap_alloc_old _ _ (by simp; omega)).trans (heap_alloc_old w _ hk)
    · exact (hb1.drew).alloc (by simp; omega) _

end Go.Proofs.YtdkpalllfekiiaaGreat

namespace Go.Proofs.YtdkpalllfekiiaaGreat
set_option maxRecDepth 100000
set_option linter.unusedVariables false
set_option linter.unusedSimpArgs false
open Go.RowKit

theorem least_ex (P : Nat → Prop) (h : ∃ m, P m) : ∃ m, P m ∧ ∀ k, P k → m ≤ k := by
  obtain ⟨m, hm⟩ := h
  induction m using Nat.strongRecOn with
  | ind m ih =>
    by_cases hk : ∃ k, k < m ∧ P k
    · obtain ⟨k, hlt, hp⟩ := hk
      exact ih k hlt hp
    · exact ⟨m, hm, fun k hp => by
        by_cases h : m ≤ k
        · exact h
        · exact absurd ⟨k, by omega, hp⟩ hk⟩
/-- the least number with P: the measure of a loop whose invariant counts -/
noncomputable def least (P : Nat → Prop) : Nat := open Classical in if h : ∃ m, P m then Classical.choose (least_ex P h) else 0
theorem least_at {P : Nat → Prop} (h : ∃ m, P m) : P (least P) := by
  unfold least; rw [dif_pos h]; exact (Classical.choose_spec (least_ex P h)).1
theorem least_le {P : Nat → Prop} {m : Nat} (h : P m) : least P ≤ m := by
  unfold least; rw [dif_pos ⟨m, h⟩]; exact (Classical.choose_spec (least_ex P ⟨m, h⟩)).2 m h

def OrbQ (f : Nat → Nat) (n s : Nat) (L0 : List Int) (v : Nat) (w : World) (q : Value) (wr : World) (m : Nat) : Prop :=
  ∃ (g off qn qc : Nat) (xs : List Int) (c : List Nat) (l rem : Nat), m = rem + qn ∧ q = .slice (some ⟨g, off, none⟩) qn qc ∧ Que wr (w.heap.size + 1) g off qn qc xs ∧
    ((xs = [(l : Int)] ∧ qn = 1) ∨ (xs = [] ∧ qn = 0 ∧ f l ∈ c)) ∧ OrbI f n s c l rem ∧ (∀ u ∈ c, L0.getD u 0 < 0) ∧
    Own wr w.heap.size (some ⟨w.heap.size, 0, none⟩) n n (setAll L0 c v) ∧ Below w.heap.size w wr

/-- after the one permutation of the list -/
def OrbN (f : Nat → Nat) (n s : Nat) (L0 : List Int) (v : Nat) (w : World) (c : List Nat) (l : Nat) (q : Value) (wr : World) : Prop :=
  ∃ (g off qc : Nat), (f l ∈ c ∧ q = .slice (some ⟨g, off, none⟩) 1 qc ∧ Que wr (w.heap.size + 1) g off 1 qc [(l : Int)] ∧
    Own wr w.heap.size (some ⟨w.heap.size, 0, none⟩) n n (setAll L0 c v) ∧ Below w.heap.size w wr) ∨
   (f l ∉ c ∧ q = .slice (some ⟨g, off, none⟩) 2 qc ∧ Que wr (w.heap.size + 1) g off 2 qc [(l : Int), (f l : Int)] ∧
    Own wr w.heap.size (some ⟨w.heap.size, 0, none⟩) n n (setAll L0 (c ++ [f l]) v) ∧ Below w.heap.size w wr)

end Go.Proofs.YtdkpalllfekiiaaGreat

namespace Go.Proofs.YtdkpalllfekiiaaGreat
set_option maxRecDepth 100000
set_option linter.unusedVariables false
set_option linter.unusedSimpArgs false
open Go.RowKit

def natL (c : List Nat) : List Int := c.map fun x : Nat => (x : Int)
theorem natL_mem (c : List Nat) (x : Nat) : ((x : Int) ∈ natL c) = (x ∈ c) := by
  simp only [natL, List.mem_map, eq_iff_iff]
  exact ⟨fun ⟨a, h, e⟩ => by
    have : a = x := by omega
    exact this ▸ h, fun h => ⟨x, h, rfl⟩⟩
theorem natL_snoc (c : List Nat) (x : Nat) : natL (c ++ [x]) = natL c ++ [(x : Int)] := by simp [natL]
theorem natL_get (c : List Nat) (i : Nat) (h : i < c.length) : (natL c).getD i 0 = (c[i] : Int) := by
  simp [natL, List.getD_eq_getElem?_getD, List.getElem?_map, h]

def OrbR (f : Nat → Nat) (n x : Nat) (w : World) (q i : Value) (wr : World) (m : Nat) : Prop :=
  ∃ (a : Option Addr) (on qc : Nat) (c : List Nat) (l rem b : Nat), m = rem + b ∧ on = c.length ∧ q = .slice a on qc ∧ i = .int .i64 ((on - b : Nat) : Int) ∧ Own wr w.heap.size a on qc (natL c) ∧
    OrbI f n x c l rem ∧ ((b = 1 ∧ (natL c).getD (on - 1) 0 = (l : Int)) ∨ (b = 0 ∧ f l ∈ c)) ∧ Below w.heap.size w wr
/-- after the one permutation -/
def OrbT (f : Nat → Nat) (w : World) (a : Option Addr) (on qc : Nat) (c : List Nat) (l : Nat) (q : Value) (wr : World) : Prop :=
  (f l ∈ c ∧ q = .slice a on qc ∧ Own wr w.heap.size a on qc (natL c) ∧ Below w.heap.size w wr) ∨
  (f l ∉ c ∧ ∃ a' c', q = .slice a' (on + 1) c' ∧ Own wr w.heap.size a' (on + 1) c' (natL (c ++ [f l])) ∧ Below w.heap.size w wr)

end Go.Proofs.YtdkpalllfekiiaaGreat

namespace Go.Proofs.YtdkpalllfekiiaaGreat
set_option maxRecDepth 100000
set_option linter.unusedVariables false
set_option linter.unusedSimpArgs false
open Go.RowKit

end Go.Proofs.YtdkpalllfekiiaaGreat

namespace Go.Proofs.YtdkpalllfekiiaaGreat
set_option maxRecDepth 100000
set_option linter.unusedVariables false
set_option linter.unusedSimpArgs false
open Go.RowKit

theorem IsP.own {n : Nat} {p : List Int} (h : IsP n p) : ∃ g, IsPf n p (fun i => (p.getD i 0).toNat) g := by
  obtain ⟨f, g, hl, h1, h2⟩ := h
  have e : ∀ i, i < n → (p.getD i 0).toNat = f i := fun i hi => by rw [h2 i hi]; simp
  refine ⟨g, hl, fun i hi => ?_, fun i hi => ?_⟩
  · have hh := h1 i hi
    refine ⟨by show (p.getD i 0).toNat < n; rw [e i hi]; exact hh.1, hh.2.1, ?_, ?_⟩
    · show (p.getD (g i) 0).toNat = i
      rw [e _ hh.2.1]; exact hh.2.2.1
    · show g ((p.getD i 0).toNat) = i
      rw [e i hi]; exact hh.2.2.2
  · show _ = (((p.getD i 0).toNat : Nat) : Int)
    rw [e i hi]; exact h2 i hi
def compL (s : Nat) (xs : List Int) : List Int := labF (fun i => ((brP s xs).getD i 0).toNat) s
theorem compL_len (s : Nat) (xs : List Int) : (compL s xs).length = s := labS_len _ _ _
theorem Tbl.single {w : World} {a : Option Addr} {n c b : Nat} {xs : List Int} {t : TypeId} (h : Row w a n xs) (hn : n ≤ 9223372036854775807) (hb : b = w.heap.size) : Tbl (w.alloc (.cells #[.slice a n c] t)) (some ⟨b, 0, none⟩) 1 [xs] :=
by
  refine ⟨rfl, fun i hi => ?_⟩
  have e : i = 0 := by omega
  subst e
  have hL := Loc.new w hb #[.slice a n c] t
  exact ⟨b, 0, a, n, c, rfl, hL.lt, hL.one.1, h.alloc _, hn⟩

end Go.Proofs.YtdkpalllfekiiaaGreat

namespace Go.Proofs.YtdkpalllfekiiaaGreat
set_option linter.unusedVariables false
set_option linter.unusedSimpArgs false

/-! ### tables by a function, one value of which turns -/
def updF (v : Nat → Nat → Int) (a b : Nat) (z : Int) : Nat → Nat → Int := fun x y => if x = a ∧ y = b then z else v x y
theorem tabF_row {n : Nat} {v : Nat → Nat → Int} {x : Nat} (h : x < n) : (tabF n v).getD x [] = (List.range n).map fun y => v x y := tabF_get n v x h
theorem tabF_val {n : Nat} {v : Nat → Nat → Int} {x y : Nat} (hx : x < n) (hy : y < n) : ((tabF n v).getD x []).getD y 0 = v x y := by
  rw [tabF_row hx]; simp [List.getD_eq_getElem?_getD, List.getElem?_map, hy]
theorem tabF_congr {n : Nat} {u v : Nat → Nat → Int} (h : ∀ x y, x < n → y < n → u x y = v x y) : tabF n u = tabF n v := by
  unfold tabF
  apply List.map_congr_left
  intro x hx
  apply List.map_congr_left
  intro y hy
  exact h x y (List.mem_range.1 hx) (List.mem_range.1 hy)
theorem tabF_upd {n : Nat} {v : Nat → Nat → Int} {a b : Nat} (ha : a < n) (hb : b < n) (z : Int) : (tabF n v).set a (((tabF n v).getD a []).set b z) = tabF n (updF v a b z) := by
  apply List.ext_getElem
  · simp [tabF]
  · intro i h1 h2
    have hi : i < n := by simpa [tabF] using h2
    have e2 : (tabF n (updF v a b z))[i] = (List.range n).map fun y => updF v a b z i y := by simp [tabF]
    rw [e2, List.getElem_set]
    by_cases e : a = i
    · subst e
      rw [if_pos rfl, tabF_row ha]
      apply List.ext_getElem
      · simp
      · intro j g1 g2
        have hj : j < n := by simpa using g2
        rw [List.getElem_set]
        by_cases e : b = j
        · subst e; simp [updF]
        · rw [if_neg e]; simp [updF, fun h => e (Eq.symm h)]
          intro h; exact absurd h.symm e
    · rw [if_neg e]
      have : (tabF n v)[i]'(by simpa [tabF] using hi) = (List.range n).map fun y => v i y := by simp [tabF]
      rw [this]
      apply List.map_congr_left
      intro y hy
      simp [updF, fun h => e (Eq.symm h)]
      intro h; exact absurd h.symm e

/-! ### labels are numbers of at least 0, and the greatest of them -/
theorem orbN_sub (f : Nat → Nat) (m : Nat) : ∀ (c : List Nat) (y x : Nat), x ∈ c → x ∈ orbN f m c y := by
  induction m with
  | zero => intro c y x h; exact h
  | succ m ih =>
    intro c y x h
    unfold orbN
    split
    · exact h
    · exact ih _ _ _ (List.mem_append_left _ h)
theorem orbF_mem (f : Nat → Nat) (n x : Nat) : x ∈ orbF f n x := orbN_sub f n _ _ _ (List.mem_singleton.2 rfl)
theorem labS_all (f : Nat → Nat) (n : Nat) : ∀ s, s ≤ n → ∀ i, i < n → (i < s → 0 ≤ (labS f n s).1.getD i 0) ∧ (labS f n s).1.getD i 0 < (labS f n s).2 ∧ -1 ≤ (labS f n s).1.getD i 0 := by
  intro s
  induction s with
  | zero =>
    intro _ i hi
    refine ⟨fun h => absurd h (by omega), ?_, ?_⟩ <;> simp [labS, List.getD_eq_getElem?_getD, List.getElem?_replicate, hi]
  | succ s ih =>
    intro hs i hi
    have h := ih (by omega) i hi
    have hl := labS_len f n s
    unfold labS
    split
    · rename_i h0
      refine ⟨fun hlt => ?_, h.2⟩
      by_cases e : i = s
      · subst e; exact h0
      · exact h.1 (by omega)
    · simp only
      rw [setAll_get _ _ i _ (by omega)]
      by_cases hm : i ∈ orbF f n s
      · rw [if_pos hm]
        refine ⟨fun _ => by omega, by omega, by omega⟩
      · rw [if_neg hm]
        refine ⟨fun hlt => ?_, by have := h.2.1; omega, h.2.2⟩
        by_cases e : i = s
        · subst e; exact absurd (orbF_mem f n i) hm
        · exact h.1 (by omega)
theorem compL_get (s : Nat) (xs : List Int) (i : Nat) (h : i < s) : 0 ≤ (compL s xs).getD i 0 ∧ (compL s xs).getD i 0 < s := by
  have h1 := labS_all (fun i => ((brP s xs).getD i 0).toNat) s s (Nat.le_refl _) i h
  have h2 := labS_num (fun i => ((brP s xs).getD i 0).toNat) s s
  exact ⟨h1.1 h, by have := h1.2.1; unfold compL labF; omega⟩
/-- one more than the greatest of some numbers of at least 0 -/
def grtL (L : List Int) : Int := L.foldl (fun m x => if m ≤ x then x + 1 else m) 0
theorem grtL_take {L : List Int} {k : Nat} (h : k < L.length) : grtL (L.take (k + 1)) = if grtL (L.take k) ≤ L.getD k 0 then L.getD k 0 + 1 else grtL (L.take k) := by
  unfold grtL
  rw [List.take_succ_eq_append_getElem h, List.foldl_append]
  simp [List.getD_eq_getElem?_getD, List.getElem?_eq_getElem h]
theorem grtL_spec (L : List Int) (h0 : ∀ x ∈ L, 0 ≤ x) : 0 ≤ grtL L ∧ (∀ x ∈ L, x < grtL L) ∧ (grtL L = 0 ∨ grtL L - 1 ∈ L) := by
  have : ∀ (L : List Int) (m : Int), 0 ≤ m → (∀ x ∈ L, 0 ≤ x) → m ≤ L.foldl (fun m x => if m ≤ x then x + 1 else m) m ∧ (∀ x ∈ L, x < L.foldl (fun m x => if m ≤ x then x + 1 else m) m) ∧ (L.foldl (fun m x => if m ≤ x then x + 1 else m) m = m ∨ L.foldl (fun m x => if m ≤ x then x + 1 else m) m - 1 ∈ L) := by
    intro L
    induction L with
    | nil => intro m hm _; exact ⟨Int.le_refl _, fun x hx => absurd hx (by simp), .inl rfl⟩
    | cons y r ih =>
      intro m hm hx
      rw [List.foldl_cons]
      have hy := hx y (List.mem_cons_self ..)
      by_cases e : m ≤ y
      · rw [if_pos e]
        obtain ⟨h1, h2, h3⟩ := ih (y + 1) (by omega) (fun x hxr => hx x (List.mem_cons_of_mem _ hxr))
        refine ⟨by omega, fun x hxx => ?_, ?_⟩
        · rcases List.mem_cons.1 hxx with rfl | hxx
          · omega
          · exact h2 x hxx
        · rcases h3 with h3 | h3
          · right; rw [h3]; simp
          · right; exact List.mem_cons_of_mem _ h3
      · rw [if_neg e]
        obtain ⟨h1, h2, h3⟩ := ih m hm (fun x hxr => hx x (List.mem_cons_of_mem _ hxr))
        refine ⟨h1, fun x hxx => ?_, ?_⟩
        · rcases List.mem_cons.1 hxx with rfl | hxx
          · omega
          · exact h2 x hxx
        · rcases h3 with h3 | h3
          · left; exact h3
          · right; exact List.mem_cons_of_mem _ h3
  exact this L 0 (by omega) h0
theorem grtL_max {L : List Int} {M : Int} (h0 : ∀ x ∈ L, 0 ≤ x) (hM : M ∈ L) (h1 : ∀ x ∈ L, x ≤ M) : M + 1 = grtL L := by
  obtain ⟨a, b, c⟩ := grtL_spec L h0
  have h2 := b M hM
  rcases c with c | c
  · have := h0 M hM; omega
  · have := h1 _ c; omega
/-- how many components there are -/
def ncL (s : Nat) (xs : List Int) : Nat := (grtL (compL s xs)).toNat
theorem compL_nn (s : Nat) (xs : List Int) : ∀ x ∈ compL s xs, 0 ≤ x := fun x hx => by
  obtain ⟨i, hi, rfl⟩ := List.getElem_of_mem hx
  have := compL_get s xs i (by rw [compL_len] at hi; exact hi)
  rw [getD_at hi] at this
  exact this.1
theorem ncL_cast (s : Nat) (xs : List Int) : ((ncL s xs : Nat) : Int) = grtL (compL s xs) := by
  have := (grtL_spec _ (compL_nn s xs)).1
  unfold ncL; omega
theorem ncL_le (s : Nat) (xs : List Int) : ncL s xs ≤ s := by
  obtain ⟨a, b, c⟩ := grtL_spec _ (compL_nn s xs)
  rcases c with c | c
  · unfold ncL; omega
  · obtain ⟨i, hi, e⟩ := List.getElem_of_mem c
    have := compL_get s xs i (by rw [compL_len] at hi; exact hi)
    rw [getD_at hi, e] at this
    unfold ncL; omega
theorem compL_lab (s : Nat) (xs : List Int) (i : Nat) (h : i < s) : ∃ a, a < ncL s xs ∧ (compL s xs).getD i 0 = ((a : Nat) : Int) := by
  have h1 := compL_get s xs i h
  have hi : i < (compL s xs).length := by rw [compL_len]; exact h
  have h2 := (grtL_spec _ (compL_nn s xs)).2.1 _ (List.getElem_mem hi)
  rw [← getD_at hi, ← ncL_cast] at h2
  exact ⟨((compL s xs).getD i 0).toNat, by omega, by omega⟩

/-! ### the numbers -/
def labN (s : Nat) (xs : List Int) (i : Nat) : Nat := ((compL s xs).getD i 0).toNat
theorem labN_lt (s : Nat) (xs : List Int) (i : Nat) (h : i < s) : labN s xs i < ncL s xs ∧ (compL s xs).getD i 0 = ((labN s xs i : Nat) : Int) := by
  obtain ⟨a, h1, h2⟩ := compL_lab s xs i h
  unfold labN
  rw [h2]; simp; exact h1
/-- the strand at a place, after the first k letters -/
def atK (s : Nat) (xs : List Int) (k j : Nat) : Nat := ((strd s (xs.take k)).getD j 0).toNat
def addV (v : Nat → Nat → Int) (a b : Nat) (z : Int) : Nat → Nat → Int := if a = b then updF v a b (v a b + z) else updF (updF v a b (v a b + z)) b a (v b a + z)
/-- the sums of signs, after the first k letters -/
def lnkV (s : Nat) (xs : List Int) : Nat → Nat → Nat → Int
  | 0 => fun _ _ => 0
  | k + 1 => addV (lnkV s xs k) (labN s xs (atK s xs k (plc (xs.getD k 0)).toNat)) (labN s xs (atK s xs k ((plc (xs.getD k 0)).toNat + 1))) (sgn (xs.getD k 0))
theorem sgn_bd (x : Int) : -1 ≤ sgn x ∧ sgn x ≤ 1 := by unfold sgn; split <;> omega
theorem addV_bd {v : Nat → Nat → Int} {a b : Nat} {z : Int} {K : Nat} (h : ∀ x y, -(K : Int) ≤ v x y ∧ v x y ≤ K) (hz : -1 ≤ z ∧ z ≤ 1) (x y : Nat) : -((K + 1 : Nat) : Int) ≤ addV v a b z x y ∧ addV v a b z x y ≤ ((K + 1 : Nat) : Int) := by
  have h1 := h x y
  have h2 := h a b
  have h3 := h b a
  unfold addV updF
  split
  · simp only; split <;> omega
  · simp only; split
    · omega
    · split <;> omega
theorem lnkV_bd (s : Nat) (xs : List Int) (k : Nat) : ∀ x y, -(k : Int) ≤ lnkV s xs k x y ∧ lnkV s xs k x y ≤ k := by
  induction k with
  | zero => intro x y; simp [lnkV]
  | succ k ih => intro x y; exact addV_bd ih (sgn_bd _) x y
/-- halved where two components meet -/
def halV (v : Nat → Nat → Int) : Nat → Nat → Int := fun x y => if x = y then v x y else (v x y).tdiv 2
/-- halved before the place (p, q) -/
def halP (v : Nat → Nat → Int) (p q : Nat) : Nat → Nat → Int := fun x y => if x < p ∨ (x = p ∧ y < q) then halV v x y else v x y
theorem halP_zero (v : Nat → Nat → Int) : halP v 0 0 = v := by funext x y; unfold halP; rw [if_neg (by omega)]
theorem halP_step {v : Nat → Nat → Int} {p q : Nat} (h : p ≠ q) : updF (halP v p q) p q ((v p q).tdiv 2) = halP v p (q + 1) := by
  funext x y
  unfold updF halP
  by_cases e : x = p ∧ y = q
  · obtain ⟨rfl, rfl⟩ := e
    rw [if_pos ⟨rfl, rfl⟩, if_pos (.inr ⟨rfl, by omega⟩)]
    unfold halV
    rw [if_neg h]
  · rw [if_neg e]
    by_cases g : x < p ∨ (x = p ∧ y < q)
    · rw [if_pos g, if_pos (by omega)]
    · rw [if_neg g, if_neg (by omega)]
theorem halP_same {v : Nat → Nat → Int} {p : Nat} : halP v p p = halP v p (p + 1) := by
  funext x y
  unfold halP
  by_cases e : x = p ∧ y = p
  · obtain ⟨rfl, rfl⟩ := e
    rw [if_neg (by omega), if_pos (.inr ⟨rfl, by omega⟩)]
    unfold halV
    rw [if_pos rfl]
  · by_cases g : x < p ∨ (x = p ∧ y < p)
    · rw [if_pos g, if_pos (by omega)]
    · rw [if_neg g, if_neg (by omega)]
theorem halP_at {v : Nat → Nat → Int} {p q : Nat} : halP v p q p q = v p q := by unfold halP; rw [if_neg (by omega)]
theorem halP_next {n : Nat} {v : Nat → Nat → Int} {p : Nat} : tabF n (halP v p n) = tabF n (halP v (p + 1) 0) := tabF_congr fun x y hx hy => by
  unfold halP
  by_cases g : x < p ∨ (x = p ∧ y < n)
  · rw [if_pos g, if_pos (by omega)]
  · rw [if_neg g, if_neg (by omega)]
theorem halP_all {n : Nat} {v : Nat → Nat → Int} : tabF n (halP v n 0) = tabF n (halV v) := tabF_congr fun x y hx hy => by unfold halP; rw [if_pos (.inl hx)]
/-- what LinkingNumbers hands back -/
def lnkF (s : Int) (xs : List Int) : List (List Int) × Int := if isBr s xs then (tabF (ncL s.toNat xs) (halV (lnkV s.toNat xs xs.length)), 0) else ([], 1)
theorem tot_tabN (n : Nat) (v : Nat → Nat → Int) : tot (tabF n v) = n * n := by
  have : (tabF n v).map List.length = List.replicate n n := by
    unfold tabF
    rw [List.map_map]
    apply List.ext_getElem
    · simp
    · intro i h1 h2; simp
  unfold tot
  rw [this]; simp
theorem Lnk_len (s : Int) (xs : List Int) : tot (lnkF s xs).1 ≤ 1000000 := by
  unfold lnkF
  split
  · rename_i h
    have h1 := (isBr_let h).1
    have h2 := ncL_le s.toNat xs
    show tot (tabF _ _) ≤ _
    rw [tot_tabN]
    have : ncL s.toNat xs * ncL s.toNat xs ≤ 6 * 6 := Nat.mul_le_mul (by omega) (by omega)
    omega
  · simp [tot]
end Go.Proofs.YtdkpalllfekiiaaGreat

namespace Go.Proofs.YtdkpalllfekiiaaGreat
set_option maxRecDepth 100000
set_option linter.unusedVariables false
set_option linter.unusedSimpArgs false
open Go.RowKit

set_option maxHeartbeats 400000 in
theorem likeInts_any (a1 a2 : Option Addr) (n1 n2 c1 c2 : Nat) (xs ys : List Int) (w : World) (h1 : Row w a1 n1 xs) (h2 : Row w a2 n2 ys) (hm : n1 ≤ 9223372036854775807) :
    Calls Tryz.prog 14 #[.slice a1 n1 c1, .slice a2 n2 c2] w fun e w' => e = .returned (.bool (decide (xs = ys))) ∧ ∃ n, w' = w.drewN n := by
  have hl1 := h1.len
  have hl2 := h2.len
  by_cases hl : n1 = n2
  · subst hl
    have HL := Lib.hid hl1; have HL2 := Lib.hid hl2; clear hl1 hl2
    have hb : ((n1 : Int) != (n1 : Int)) = false := by simp
    go_enter Tryz.func14, Tryz.ntmps14
    go_wp2
    clear hb
    go_loopw [5] (fun i wr => ∃ k : Nat, k ≤ n1 ∧ i = .int .i64 k ∧ xs.take k = ys.take k ∧ ∃ n, wr = w.drewN n) (fun i _ => n1 - (intOf i).toNat)
    case atStart => exact ⟨0, Nat.zero_le _, rfl, by simp, 0, rfl⟩
    case round =>
      obtain ⟨k, hk, rfl, ht, n, rfl⟩ := hrel
      have HT := Lib.hid ht; clear ht
      by_cases hlt : k < n1
      · obtain ⟨b1, o1, rfl, g1⟩ := h1.at k hlt
        obtain ⟨b2, o2, rfl, g2⟩ := h2.at k hlt
        have hx : k < xs.length := by have := HL.out; omega
        have hy : k < ys.length := by have := HL2.out; omega
        clear h1 h2
        go_wp2
        go_quiet (fail)
        go_wp2
        · go_ret
          refine ⟨ret_bool ?_, n + nq, by rw [World.drewN_drewN]⟩
          rename_i hne
          simp only [Bool.false_eq, decide_eq_false_iff_not]
          rintro rfl
          simp at hne
        · go_roundw
          case rel =>
            rename_i hne
            refine ⟨k + 1, by omega, by go_num, take_eq_succ hx hy HT.out (by simpa using hne), n + nq, rfl⟩
          case measure => simp [intOf]; omega
      · obtain rfl : k = n1 := by omega
        go_wp2
        go_ret
        refine ⟨ret_bool ?_, _, rfl⟩
        have := HT.out
        rw [List.take_of_length_le (by have := HL.out; omega), List.take_of_length_le (by have := HL2.out; omega)] at this
        simp [this]
  · have hb : ((n1 : Int) != (n2 : Int)) = true := by simp; omega
    have hne : ¬ xs = ys := by rintro rfl; omega
    clear hl1 hl2
    go_enter Tryz.func14, Tryz.ntmps14
    go_wp2
    go_ret
    exact ⟨ret_bool (by simp [hne]), 0, rfl⟩

set_option maxHeartbeats 1000000 in
theorem same9_any (a1 a2 : Option Addr) (n1 n2 c1 c2 : Nat) (xs ys : List (List Int)) (w : World) (h1 : Tbl w a1 n1 xs) (h2 : Tbl w a2 n2 ys) (hm : n1 ≤ 9223372036854775807) :
    Calls Tryz.prog 13 #[.slice a1 n1 c1, .slice a2 n2 c2] w fun e w' => e = .returned (.bool (decide (xs = ys))) ∧ ∃ n, w' = w.drewN n := by
  have hl1 := h1.len
  have hl2 := h2.len
  by_cases hl : n1 = n2
  · subst hl
    have HL := Lib.hid hl1; have HL2 := Lib.hid hl2; clear hl1 hl2
    have hb : ((n1 : Int) != (n1 : Int)) = false := by simp
    go_enter Tryz.func13, Tryz.ntmps13
    go_wp2
    clear hb
    go_loopw [5] (fun i wr => ∃ k : Nat, k ≤ n1 ∧ i = .int .i64 k ∧ Hid (xs.take k = ys.take k) ∧ Hid (∃ n, wr = w.drewN n)) (fun i _ => n1 - (intOf i).toNat)
    case atStart => exact ⟨0, Nat.zero_le _, rfl, by simp [Hid], ⟨0, rfl⟩⟩
    case round =>
      obtain ⟨k, hk, rfl, HT, HW⟩ := hrel
      obtain ⟨m, hm'⟩ := HW.out
      have h1' : Tbl wr a1 n1 xs := by rw [hm']; exact h1.drewN m
      have h2' : Tbl wr a2 n1 ys := by rw [hm']; exact h2.drewN m
      clear hm'
      by_cases hlt : k < n1
      · obtain ⟨b1, o1, a1', m1, c1', rfl, g1, r1, lm1⟩ := h1'.at k hlt
        obtain ⟨b2, o2, a2', m2, c2', rfl, g2, r2, lm2⟩ := h2'.at k hlt
        have hx : k < xs.length := by have := HL.out; omega
        have hy : k < ys.length := by have := HL2.out; omega
        rw [Tbl.getD hx] at r1
        rw [Tbl.getD hy] at r2
        clear h1' h2' h1 h2
        by_cases he : xs[k] = ys[k]
        · have hq : ∀ q, Calls Tryz.prog 14 #[.slice a1' m1 c1', .slice a2' m2 c2'] (wr.drewN q) fun e w' => e = .returned (.bool true) ∧ ∃ m, w' = (wr.drewN q).drewN m := fun q =>
            (likeInts_any _ _ _ _ _ _ _ _ _ (r1.drewN q) (r2.drewN q) lm1).mono fun e w' ⟨h, h'⟩ => ⟨h.trans (ret_bool (by simpa using he)), h'⟩
          have HQ := Lib.hid hq; have HE := Lib.hid he; clear hq he
          go_wp2
          go_quiet ((go_at_call 14; exact Calls.quiet_of (HQ.out _)))
          go_wp2
          go_roundw
          case rel =>
            refine ⟨k + 1, by omega, by go_num, ?_, ?_⟩
            · show xs.take (k + 1) = ys.take (k + 1)
              rw [List.take_succ_eq_append_getElem hx, List.take_succ_eq_append_getElem hy, HT.out, HE.out]
            · obtain ⟨m, hm⟩ := HW.out
              exact ⟨m + nq, by rw [hm, World.drewN_drewN]⟩
          case measure => simp [intOf]; omega
        · have hq : ∀ q, Calls Tryz.prog 14 #[.slice a1' m1 c1', .slice a2' m2 c2'] (wr.drewN q) fun e w' => e = .returned (.bool false) ∧ ∃ m, w' = (wr.drewN q).drewN m := fun q =>
            (likeInts_any _ _ _ _ _ _ _ _ _ (r1.drewN q) (r2.drewN q) lm1).mono fun e w' ⟨h, h'⟩ => ⟨h.trans (ret_bool (by simpa using he)), h'⟩
          have hne : ¬ xs = ys := by rintro rfl; exact he rfl
          have HQ := Lib.hid hq; have HE := Lib.hid hne; clear hq he hne
          go_wp2
          go_quiet ((go_at_call 14; exact Calls.quiet_of (HQ.out _)))
          go_wp2
          go_ret
          obtain ⟨m, hm⟩ := HW.out
          exact ⟨ret_bool (by simp [HE.out]), m + nq, by rw [hm, World.drewN_drewN]⟩
      · obtain rfl : k = n1 := by omega
        clear h1' h2' h1 h2
        go_wp2
        go_ret
        refine ⟨ret_bool ?_, HW.out⟩
        have := HT.out
        rw [List.take_of_length_le (by have := HL.out; omega), List.take_of_length_le (by have := HL2.out; omega)] at this
        simp [this]
  · have hb : ((n1 : Int) != (n2 : Int)) = true := by simp; omega
    have hne : ¬ xs = ys := by rintro rfl; omega
    clear hl1 hl2
    go_enter Tryz.func13, Tryz.ntmps13
    go_wp2
    go_ret
    exact ⟨ret_bool (by simp [hne]), 0, rfl⟩

theorem same9_same (a1 a2 : Option Addr) (n1 n2 c1 c2 : Nat) (xs : List (List Int)) (w : World) (h1 : Tbl w a1 n1 xs) (h2 : Tbl w a2 n2 xs) (hm : n1 ≤ 9223372036854775807) :
    Calls Tryz.prog 13 #[.slice a1 n1 c1, .slice a2 n2 c2] w fun e w' => e = .returned (.bool true) ∧ Below w.heap.size w w' :=
  (same9_any a1 a2 n1 n2 c1 c2 xs xs w h1 h2 hm).mono fun e w' ⟨he, m, hw⟩ => ⟨he.trans (ret_bool (by simp)), by rw [hw]; exact below_drewN (Below.refl _ _) m⟩
theorem likeInts_same (a1 a2 : Option Addr) (n1 n2 c1 c2 : Nat) (xs : List Int) (w : World) (h1 : Row w a1 n1 xs) (h2 : Row w a2 n2 xs) (hm : n1 ≤ 9223372036854775807) :
    Calls Tryz.prog 14 #[.slice a1 n1 c1, .slice a2 n2 c2] w fun e w' => e = .returned (.bool true) ∧ Below w.heap.size w w' :=
  (likeInts_any a1 a2 n1 n2 c1 c2 xs xs w h1 h2 hm).mono fun e w' ⟨he, m, hw⟩ => ⟨he.trans (ret_bool (by simp)), by rw [hw]; exact below_drewN (Below.refl _ _) m⟩
theorem big_any (a : Option Addr) (n c : Nat) (w : World) (hm : n ≤ 9223372036854775807) :
    Calls Tryz.prog 4 #[.slice a n c] w fun e w' => e = .returned (.bool (decide (4096 < n))) ∧ w = w' := by
  go_enter Tryz.func4, Tryz.ntmps4
  go_wp2
  go_ret
  refine ⟨ret_bool (by rw [Bool.eq_iff_iff]; simp; try omega), rfl⟩
end Go.Proofs.YtdkpalllfekiiaaGreat

namespace Go.Proofs.YtdkpalllfekiiaaGreat
set_option linter.unusedVariables false
set_option linter.unusedSimpArgs false
set_option maxRecDepth 100000
open Go.RowKit

/-- what a function that draws a braid out of a code leaves -/
def DrT (w : World) (e : Ending) (w' : World) : Prop :=
  ∃ (S : Int) (a : Option Addr) (n c : Nat) (xs : List Int), e = .returned (bAgg S a n c) ∧ 0 ≤ S ∧ S ≤ 10 ∧ n ≤ 31 ∧ Sml xs ∧ Own w' w.heap.size a n c xs ∧ Below w.heap.size w w'
def DrTI (w : World) (e : Ending) (w' : World) : Prop :=
  ∃ (S : Int) (a : Option Addr) (n c : Nat) (xs : List Int) (k : Int), e = .returned (.tuple #[bAgg S a n c, .int .i64 k]) ∧ 0 ≤ S ∧ S ≤ 10 ∧ n ≤ 31 ∧ Sml xs ∧ I64 k ∧ Own w' w.heap.size a n c xs ∧ Below w.heap.size w w'

theorem below_grown {w0 w w' : World} {b : Nat} (h : Below w0.heap.size w0 w) (hg : w.grownBy w' (some b)) (hb : w0.heap.size ≤ b) : Below w0.heap.size w0 w' := h.grown hg h.size (fun k hk => by cases hk; exact hb)

theorem DrawStab_lit : ([1, -1, 1, -1, 0, 2] : List Int).length = 6 := rfl
end Go.Proofs.YtdkpalllfekiiaaGreat

namespace Go.Proofs.YtdkpalllfekiiaaGreat
set_option linter.unusedVariables false
set_option linter.unusedSimpArgs false
set_option maxRecDepth 100000
open Go.RowKit

/-- the dice in block b -/
def Dic (w : World) (b : Nat) : Prop := ∃ (a : Option Addr) (n c : Nat) (xs : List Int) (i : Nat) (h : Int), n ≤ 9223372036854775807 ∧ i ≤ n ∧ 0 ≤ h ∧ h < 18446744073709551616 ∧ Bts w a n xs ∧ (0 < n → ∀ g o, a = some ⟨g, o, none⟩ → g < b) ∧
  Loc w b #[.slice a n c, .int .i64 i, .int .u64 h] 69
theorem Dic.lt {w : World} {b : Nat} (h : Dic w b) : b < w.heap.size := by obtain ⟨a, n, c, xs, i, h, _, _, _, _, _, _, hL⟩ := h; exact hL.lt
theorem Dic.below {w w' : World} {b : Nat} (h : Dic w b) (hb : Below w.heap.size w w') : Dic w' b := by
  obtain ⟨a, n, c, xs, i, h, h1, h2, h3, h4, hB, hg, hL⟩ := h
  exact ⟨a, n, c, xs, i, h, h1, h2, h3, h4, hB.below hb, hg, hL.below hb hL.lt⟩

set_option maxHeartbeats 2000000 in
theorem below_ok (b : Nat) (n : Int) (w : World) (h : Dic w b) (hn : I64 n) :
    Calls Tryz.prog 19 #[.pointer (some ⟨b, 0, none⟩), .int .i64 n] w fun e w' => ∃ x, e = .returned (.int .i64 x) ∧ (n < 1 → x = 0) ∧ (1 ≤ n → 0 ≤ x ∧ x < n) ∧ Dic w' b ∧ w.grownBy w' (some b) := by
  obtain ⟨a, m, c, xs, i, g, h1, h2, h3, h4, hB, hg, hL⟩ := h
  by_cases hn1 : n < 1
  · go_enter Tryz.func19, Tryz.ntmps19
    go_wp2
    go_ret
    exact ⟨_, rfl, fun _ => rfl, fun h => absurd h (by omega), ⟨a, m, c, xs, i, g, h1, h2, h3, h4, hB, hg, hL⟩, grown_refl _ _⟩
  · have lL := hL.three
    obtain ⟨hn2, hn3⟩ := hn
    have hn4 : 1 ≤ n := by omega
    clear hn1
    go_enter Tryz.func19, Tryz.ntmps19
    go_wp2
    obtain ⟨G, HG⟩ : ∃ G, Hid (IntKind.u64.wrap (IntKind.u64.wrap (g * 6364136223846793005) + 1442695040888963407) = G) := ⟨_, rfl⟩
    have hG := u64_rng (IntKind.u64.wrap (g * 6364136223846793005) + 1442695040888963407)
    rw [HG.out] at hG
    rw [HG.out]
    obtain ⟨hG1, hG2⟩ := hG
    obtain ⟨hX1, hX2⟩ := mask24 G hG1 hG2
    obtain ⟨X, HX⟩ : ∃ X, Hid (wrap64 (bits BinOp.and IntKind.u64 (G / 8589934592) 16777215) = X) := ⟨_, rfl⟩
    rw [HX.out] at hX1 hX2
    rw [HX.out]
    have hL2 := hL.set 2 (.int .u64 G)
    have lL2 := hL2.three
    have hg2 := grown_set (grown_refl w (some b)) (p := ⟨b, 2, none⟩) (.inl rfl) (.int .u64 G)
    have hB2 : Bts (w.setCell ⟨b, 2, none⟩ (.int .u64 G)) a m xs := ⟨hB.1, fun j hj => by
      obtain ⟨q, off, e1, e2, e3⟩ := hB.2.1 j hj
      exact ⟨q, off, e1, by rw [size_set]; exact e2, cell_setne e3 (by have := hg (by omega) q off e1; simp; omega) _⟩, hB.2.2⟩
    generalize w.setCell ⟨b, 2, none⟩ (.int .u64 G) = w2 at *
    by_cases hi : i < m
    · obtain ⟨q, off, rfl, hc⟩ := hB2.at i hi
      have hxr := hB2.2.2 i
      obtain ⟨V, HV⟩ : ∃ V, Hid (xs.getD i 0 = V) := ⟨_, rfl⟩
      rw [HV.out] at hc hxr
      obtain ⟨v1, v2⟩ := hxr
      have s1 : (0 : Int) ≤ (i : Int) := by omega
      have s2 : (i : Int) < (m : Int) := by omega
      go_quiet (fail)
      go_wp2
      have s3 : IntKind.i64.wrap (X + V) = X + V := IntWalk.i64_in _ ⟨by omega, by omega⟩
      have s4 : IntKind.i64.wrap V = V := IntWalk.i64_in _ ⟨by omega, by omega⟩
      go_quiet (fail)
      clear s3 s4
      go_wp2
      go_ret
      rename_i nq0
      have hL3 := (hL2.drewN (nq0 + nq)).set 1 (.int .i64 (i + 1))
      refine ⟨_, rfl, fun h => absurd h (by omega), fun _ => ⟨Int.emod_nonneg _ (by omega), Int.emod_lt_of_pos _ (by omega)⟩, ?_, grown_set (grown_drewN hg2 _) (.inl rfl) _⟩
      refine ⟨some ⟨q, off, none⟩, m, c, xs, i + 1, G, h1, by omega, hG1, hG2, ?_, hg, hL3⟩
      exact ⟨hB2.1, fun j hj => by
        obtain ⟨q', off', e1, e2, e3⟩ := hB2.2.1 j hj
        exact ⟨q', off', e1, by rw [size_set]; exact e2, cell_setne (w := w2.drewN _) e3 (by have := hg (by omega) q' off' e1; simp; omega) _⟩, hB2.2.2⟩
    · go_quiet (fail)
      go_wp2
      go_ret
      refine ⟨_, rfl, fun h => absurd h (by omega), fun _ => ⟨Int.emod_nonneg _ (by omega), Int.emod_lt_of_pos _ (by omega)⟩, ?_, grown_drewN hg2 _⟩
      exact ⟨a, m, c, xs, i, G, h1, h2, hG1, hG2, hB2.below (below_drewN (Below.refl _ _) _), hg, hL2.drewN _⟩

set_option maxHeartbeats 2000000 in
theorem roll_ok (a : Option Addr) (n c : Nat) (xs : List Int) (s : Int) (w : World) (h : Bts w a n xs) (hn : n ≤ 9223372036854775807) :
    Calls Tryz.prog 16 #[.slice a n c, .int .u64 s] w fun e w' => ∃ b, e = .returned (.pointer (some ⟨b, 0, none⟩)) ∧ w.heap.size ≤ b ∧ Dic w' b ∧ Below w.heap.size w w' := by
  go_enter Tryz.func16, Tryz.ntmps16
  go_wp2
  go_loopw [6] (fun i wr => ∃ (k : Nat) (g : Int), k ≤ n ∧ i = .int .i64 k ∧ 0 ≤ g ∧ g < 18446744073709551616 ∧ Loc wr w.heap.size #[.slice a n c, .int .i64 0, .int .u64 g] 69 ∧ Below w.heap.size w wr) (fun i _ => n - (intOf i).toNat)
  case atStart => exact ⟨0, _, by omega, rfl, (u64_rng _).1, (u64_rng _).2, Loc.new w rfl _ _, below_al (Below.refl _ _) _⟩
  case round =>
    obtain ⟨k, g, hk, rfl, hg1, hg2, hL, hq⟩ := hrel
    by_cases hlt : k < n
    · obtain ⟨q, off, rfl, hc⟩ := (h.below hq).at k hlt
      obtain ⟨V, HV⟩ : ∃ V, Hid (xs.getD k 0 = V) := ⟨_, rfl⟩
      have hxr := h.2.2 k
      rw [HV.out] at hc hxr
      obtain ⟨v1, v2⟩ := hxr
      have s1 : (0 : Int) ≤ (k : Int) := by omega
      have s2 : (k : Int) < (n : Int) := by omega
      have lL := hL.three
      go_wp2
      refine wp_region_still_tail 15 (by kernel_rfl) (by kernel_rfl) ?_
      change wpStill _ _ wr.drew (fun a' => wpList _ _ _ _ a' wr.drew) _ _
      replace hL := hL.drew
      replace lL := hL.three
      replace hc : wr.drew.cell? ⟨q, off + k, none⟩ = some (.int .u8 V) := hc
      replace hq : Below w.heap.size w wr.drew := hq.drew
      generalize wr.drew = w2 at *
      simp only [List.take_succ_cons, List.take_zero, List.drop_succ_cons, List.drop_zero]
      repeat still_step
      refine wpStill_nil ?_
      go_wp2
      go_roundw
      case rel =>
        have hu := u64_rng (IntKind.u64.wrap (IntKind.u64.wrap (g * 1099511628211) + V) + 5)
        exact ⟨k + 1, _, by omega, by go_num, hu.1, hu.2, hL.set 2 _, hq.setCell (Nat.le_refl _) _⟩
      case measure => simp [intOf]; omega
    · go_wp2
      go_ret
      exact ⟨_, rfl, Nat.le_refl _, ⟨a, n, c, xs, 0, g, hn, by omega, hg1, hg2, h.below hq, fun hn q o e => by obtain ⟨b', o', e1, e2, _⟩ := h.2.1 0 hn; rw [e1] at e; cases e; exact e2, hL⟩, hq⟩

end Go.Proofs.YtdkpalllfekiiaaGreat
