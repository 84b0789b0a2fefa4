/-
  A queue of numbers that the call owns: a slice that may begin behind its block's first cell; append of one number, the slice without its first.
  No condition but bounds on lengths.
-/
import Derived.Test.YthgafpeblpnolaaBase
import Derived.Deep.AppendSrc
namespace Go.Proofs.Ythgafpeblpnolaa
set_option maxRecDepth 100000
set_option linter.unusedVariables false
set_option linter.unusedSimpArgs false
open Go.RowKit

def Que (w : World) (lo g off n c : Nat) (xs : List Int) : Prop :=
  n = xs.length ∧ lo ≤ g ∧ n ≤ c ∧ c ≤ 9223372036854775807 ∧ ∃ cur, Loc w g cur 2 ∧ off + c ≤ cur.size ∧ ∀ i, i < n → cur[off + i]? = some (.int .i64 (xs.getD i 0))
theorem Que.len {w : World} {lo g off n c : Nat} {xs : List Int} (h : Que w lo g off n c xs) : n = xs.length := h.1
theorem Que.cap {w : World} {lo g off n c : Nat} {xs : List Int} (h : Que w lo g off n c xs) : n ≤ c ∧ c ≤ 9223372036854775807 := ⟨h.2.2.1, h.2.2.2.1⟩
theorem Que.lt {w : World} {lo g off n c : Nat} {xs : List Int} (h : Que w lo g off n c xs) : lo ≤ g ∧ g < w.heap.size := by
  obtain ⟨_, h1, _, _, cur, h2, _⟩ := h; exact ⟨h1, h2.lt⟩
theorem Que.cells {w : World} {lo g off n c : Nat} {xs : List Int} (h : Que w lo g off n c xs) : ∀ i, i < n → w.cell? ⟨g, off + i, none⟩ = some (.int .i64 (xs.getD i 0)) := by
  obtain ⟨_, _, _, _, cur, h2, _, h3⟩ := h
  intro i hi
  exact h2.cell _ (h3 i hi)
theorem Que.tail {w : World} {lo g off n c : Nat} {x : Int} {xs : List Int} (h : Que w lo g off n c (x :: xs)) : Que w lo g (off + 1) (n - 1) (c - 1) xs := by
  obtain ⟨h0, h1, h2, h2', cur, h3, h4, h5⟩ := h
  simp at h0
  refine ⟨by omega, h1, by omega, by omega, cur, h3, by omega, fun i hi => ?_⟩
  have := h5 (i + 1) (by omega)
  rw [show off + 1 + i = off + (i + 1) by omega, this]
  simp [List.getD_eq_getElem?_getD]
theorem Que.cut {w : World} {lo g off c : Nat} {x : Int} (h : Que w lo g off 1 c [x]) : ∃ off', (if c = 1 then some (⟨g, off, none⟩ : Addr) else some ⟨g, off + 1, none⟩) = some ⟨g, off', none⟩ ∧ Que w lo g off' 0 (c - 1) [] := by
  by_cases hc : c = 1
  · subst hc
    obtain ⟨h0, h1, h2, h2', cur, h3, h4, h5⟩ := h
    exact ⟨off, rfl, rfl, h1, by omega, by omega, cur, h3, by omega, fun i hi => absurd hi (by omega)⟩
  · exact ⟨off + 1, if_neg hc, h.tail⟩
theorem Que.below {w w' : World} {lo g off n c : Nat} {xs : List Int} (h : Que w lo g off n c xs) (hb : Below w.heap.size w w') : Que w' lo g off n c xs := by
  obtain ⟨h0, h1, h2, h2', cur, h3, h4⟩ := h
  exact ⟨h0, h1, h2, h2', cur, h3.below hb h3.lt, h4⟩
theorem Que.setne {w : World} {lo g off n c : Nat} {xs : List Int} (h : Que w lo g off n c xs) {a : Addr} (hne : g ≠ a.block) (u : Value) : Que (w.setCell a u) lo g off n c xs := by
  obtain ⟨h0, h1, h2, h2', cur, h3, h4⟩ := h
  exact ⟨h0, h1, h2, h2', cur, h3.setne hne u, h4⟩
theorem Que.one {w : World} {lo b : Nat} {x : Int} (hb : b = w.heap.size) (hlo : lo ≤ b) : Que (w.alloc (.cells #[.int .i64 x] 2)) lo b 0 1 1 [x] :=
  ⟨rfl, hlo, Nat.le_refl _, by decide, _, Loc.new w hb _ _, by simp, fun i (hi : i < 1) => by
    have e : i = 0 := by omega
    subst e
    rfl⟩

/-- append of one number to a queue -/
theorem appQu {ops : Array Oper} {rest : List Oper} {o : Oper} {a : Act} {Q : Exit → Act → World → Prop} {w : World} (hgd : o.guard = none) {s x : Operand}
    (ho : o.op = .call { callee := .builtin .append, args := #[s, x], argTypes := #[46, 46] }) {lo g off n c : Nat} {xs : List Int} (hown : Que w lo g off n c xs) (hs : a.eval s = .slice (some ⟨g, off, none⟩) n c)
    {y : Int} {H : Nat} (hH : w.heap.size = H) (hx : a.eval x = .slice (some ⟨H, 0, none⟩) 1 1) (hlen : n + 1 ≤ 1000000000000) (hlo : lo ≤ w.heap.size)
    (h : ∀ g' off' c' w', Que w' lo g' off' (n + 1) c' (xs ++ [y]) → (g' = g ∨ w.heap.size < g') → (∀ k, k < w.heap.size → k ≠ g → w'.heap[k]? = w.heap[k]?) → Below lo w w' → wpList Try.prog ops Q rest (a.put o.dst (.slice (some ⟨g', off', none⟩) (n + 1) c')) w') :
    wpList Try.prog ops Q (o :: rest) a (w.alloc (.cells #[.int .i64 y] 2)) := by
  subst hH
  obtain ⟨i0, hi, hz0, hz1, hz2⟩ := info_parts info_int
  refine wpList_plain hgd fun _ hK => ?_
  have hlt := hown.lt
  obtain ⟨h0, h1, h2, h2', cur, h3, h4, h5⟩ := hown
  have h3a := h3.alloc (.cells #[.int .i64 y] 2)
  have hsrc : Src Try.prog i0.size 46 (.slice (some ⟨w.heap.size, 0, none⟩) 1 1) 1 [.int .i64 y] (w.alloc (.cells #[.int .i64 y] 2)) :=
    Src.ofSlice _ und_ints _ 1 1 _ (by rw [hz1]; rfl) (cell_one_new _ _ _) (fun u hu => by simp at hu; subst hu; rfl)
  have hb1 : Below lo w (w.alloc (.cells #[.int .i64 y] 2)) := (Below.refl _ _).alloc hlo _
  by_cases hr : n + 1 ≤ c
  · have hin : off + n < cur.size := by omega
    have hrun := run_append_room_src (P := Try.prog) (w.alloc (.cells #[.int .i64 y] 2)) 46 46 o.type 2 i0 und_ints hi g off n c _ 1 _ hsrc hr
      (fun j hj => by
        obtain rfl : j = 0 := by simp at hj; omega
        rw [hz1, Nat.mul_one, Nat.add_zero, h3a.cell (v := cur[off + n]) (off + n) (by simp [hin])]; rfl)
      (fun j hj => h3a.free _)
    rw [hz1, Nat.mul_one] at hrun
    unfold Oper.wp execOp
    simp only [ho, resolve, invoke, builtin, Sem.run_bind, Sem.run_pure, Result.andThen_ok, List.map_toArray, List.map_cons, List.map_nil, hs, hx, hrun]
    refine hK _ _ (h g off c _ ⟨by simp [h0], h1, hr, h2', _, (h3a.set (off + n) (.int .i64 y)), by simp; omega, fun i hin' => ?_⟩ (.inl rfl) (fun k hk hne => ?_) (hb1.setCell (by show lo ≤ g; exact h1) _))
    · rw [Array.getElem?_setIfInBounds]
      by_cases e : i = n
      · subst e
        rw [if_pos rfl, if_pos hin, h0]
        simp [List.getD_eq_getElem?_getD]
      · rw [if_neg (by omega), h5 i (by omega)]
        have : i < xs.length := by omega
        simp [List.getD_eq_getElem?_getD, List.getElem?_append_left this]
    · have e1 : ((w.alloc (.cells #[.int .i64 y] 2)).setCells g (off + n) [Value.int .i64 y]).heap[k]? = (w.alloc (.cells #[.int .i64 y] 2)).heap[k]? := Below.heap_setCell _ ⟨g, off + n, none⟩ (.int .i64 y) k hne
      exact e1.trans (heap_alloc_old w _ hk)
  · have hold : (Builtin.firstCells i0.size n (.slice (some ⟨g, off, none⟩) n c)).run Try.prog (w.alloc (.cells #[.int .i64 y] 2)).drew = .ok (xs.map (Value.int .i64)).toArray (w.alloc (.cells #[.int .i64 y] 2)).drew := by
      refine run_firstCells_some _ _ n ⟨g, off, none⟩ n c _ (by rw [hz1]; simp [h0]) (fun j u hu => ?_)
      have hj : j < n := by
        have := (List.getElem?_eq_some_iff.1 hu).1
        simp at this; omega
      rw [Addr.add_lit]
      have hc := h3a.cell _ (h5 j hj)
      have hjx : j < xs.length := by omega
      refine hc.trans ?_
      rw [← hu]
      simp [List.getD_eq_getElem?_getD, hjx]
    have hrun := run_append_grow_src (P := Try.prog) (w.alloc (.cells #[.int .i64 y] 2)) 46 46 o.type 2 i0 (.int .i64 0) und_ints hi hz0 (some ⟨g, off, none⟩) n c _ hold _ 1 _ hsrc (by omega) (by omega)
      (by rw [hz2]; exact growslice_fits (by omega) (by omega))
    have hge := grownCap_ge (w.alloc (.cells #[.int .i64 y] 2)) (n + 1) c 2
    have hcm : grownCap (w.alloc (.cells #[.int .i64 y] 2)) (n + 1) c 2 ≤ maxLen := grownCap_le_maxLen _ (n + 1) c 2 (by unfold maxLen; omega)
    unfold Oper.wp execOp
    simp only [ho, resolve, invoke, builtin, Sem.run_bind, Sem.run_pure, Result.andThen_ok, List.map_toArray, List.map_cons, List.map_nil, hs, hx, hrun]
    generalize hC : grownCap (w.alloc (.cells #[.int .i64 y] 2)) (n + 1) c 2 = C at hge hcm ⊢
    refine hK _ _ (h _ 0 C _ ⟨by simp [h0], by simp; omega, hge, by unfold maxLen at hcm; omega, _, Loc.new _ rfl _ _, ?_, fun i hin' => ?_⟩ (.inr (by simp)) (fun k hk hne => ?_) ?_)
    · have hzs : (Value.int .i64 0).cells.size = 1 := rfl
      simp [size_zeroCells, hzs]; omega
    · rw [Nat.zero_add, Array.getElem?_append_left (by simp; omega)]
      have e : xs.map (Value.int .i64) ++ [Value.int .i64 y] = (xs ++ [y]).map (Value.int .i64) := by simp
      rw [e]
      have hix : i < (xs ++ [y]).length := by simp; omega
      simp only [List.getElem?_toArray, List.getElem?_map]
      rw [List.getElem?_eq_getElem hix, List.getD_eq_getElem?_getD, List.getElem?_eq_getElem hix]; rfl
    · exact (heap_alloc_old _ _ (by simp; omega)).trans (heap_alloc_old w _ hk)
    · exact (hb1.drew).alloc (by simp; omega) _

end Go.Proofs.Ythgafpeblpnolaa
