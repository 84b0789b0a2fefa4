/-
  Walks and plain laws of this seat, some texts in one.
  No condition but bounds on lengths.
-/
import Derived.Test.YtkjpkdmnjbjjaaaGreatPk1
import Derived.Lib.SliceRun
import Derived.Deep.RegionLaw
import Derived.Test.YtkjpkdmnjbjjaaaGreatPk2
import Derived.IntWalk
import Derived.RegionTactic
import Derived.Deep.RegionHeld3
namespace Go.Proofs.YtkjpkdmnjbjjaaaGreat
set_option maxRecDepth 100000
set_option linter.unusedVariables false
set_option linter.unusedSimpArgs false
open Go.RowKit
theorem run_append_none_any {P : Program} (w : World) (base : Nat) (t ty e : TypeId) (i : TypeInfo) (size : Nat) (ht : P.underlying t = some (.slice e)) (hi : P.info? e = some i)
    (v : Value) (n c : Nat) (xs : List Value) (hown : w.ownsRow base e size v n xs) : (Builtin.append_ #[t, t] ty #[v, .slice none 0 c]).run P w = .ok v w := by
  rcases hown.2 with ⟨rfl, rfl⟩ | ⟨g, cap, cur, rfl, hb, hg, hnc, hcm, hcs, htake⟩
  · simp [Builtin.append_, run_underlying ht, sizeOf, typeInfo, hi, Builtin.lenOf, Builtin.firstCells, loadCells, loadCellsFrom]
  · simp [Builtin.append_, run_underlying ht, sizeOf, typeInfo, hi, Builtin.lenOf, Builtin.firstCells, hnc, storeCells]
theorem wp_appL {o : Oper} {a : Act} {K : Act → World → Prop} {Q : Exit → Act → World → Prop} {w : World} {s x : Operand}
    (ho : o.op = .call { callee := .builtin .append, args := #[s, x], argTypes := #[35, 35] }) {lo : Nat} {ad : Option Addr} {n c : Nat} {xs : List Int} (hown : Own w lo ad n c xs) (hs : a.eval s = .slice ad n c)
    {ad2 : Option Addr} {m c2 : Nat} {ys : List Int} (hr : Row w ad2 m ys) (hx : a.eval x = .slice ad2 m c2) (hlen : n + m ≤ 1000000000000) (hlo : lo ≤ w.heap.size)
    (h : ∀ ad' c' w', Own w' lo ad' (n + m) c' (xs ++ ys) → w.grownBy w' (Value.slice ad n c).ownBlock → Below lo w w' → K (a.put o.dst (.slice ad' (n + m) c')) w') :
    o.wp Tryz.prog a w K Q := by
  obtain ⟨i0, hi, hz0, hz1, hz2⟩ := info_parts info_int
  obtain ⟨hn, hw⟩ := hown
  cases ad2 with
  | none =>
    have hm : m = 0 := by
      rcases Nat.eq_zero_or_pos m with h | h
      · exact h
      · obtain ⟨b, off, h1, _⟩ := hr.at 0 h; cases h1
    subst hm
    have hy : ys = [] := List.eq_nil_of_length_eq_zero hr.len.symm
    subst hy
    have hrun := run_append_none_any (P := Tryz.prog) w lo 35 o.type 2 i0 1 und_ints hi _ n c2 _ hw
    unfold Oper.wp
    simp [execOp, ho, resolve, invoke, builtin, hs, hx, hrun, Result.andThen]
    have hh := h ad c w ⟨by simpa using hn, by simpa using hw⟩ (World.grownBy.refl _ _) (Below.refl _ _)
    exact hh
  | some p =>
    refine wp_append_own _ s x 35 ho lo 2 i0 (.int .i64 0) 1 8 und_ints hi hz0 hz1 hz2 rfl (by decide) _ n (xs.map (.int .i64)) hs hw p m c2 (ys.map (.int .i64)) hx (by simp [hr.len]) ?_ ?_ ?_ ?_ hlo ?_
    · intro j u hj
      have hjm : j < m := by
        have := (List.getElem?_eq_some_iff.1 hj).1
        rw [List.length_map] at this; have := hr.len; omega
      obtain ⟨b, off, h1, h2⟩ := hr.at j hjm
      cases h1
      have e : (⟨b, off, none⟩ : Addr).add j = ⟨b, off + j, none⟩ := by unfold Addr.add; split <;> simp_all
      have hjy : j < ys.length := by have := hr.len; omega
      rw [e, h2, ← hj]
      simp [List.getD_eq_getElem?_getD, List.getElem?_eq_getElem hjy]
    · intro u hu
      rw [List.mem_map] at hu
      obtain ⟨y, _, rfl⟩ := hu; rfl
    · unfold maxLen; omega
    · omega
    · intro v' w' ho' hg hv'
      obtain ⟨hl, h2⟩ := ho'
      have hb : Below lo w w' := (Below.refl _ _).grown hg hlo (fun k hk => (World.ownsRow.lt hw k hk).1)
      rcases h2 with ⟨rfl, h2⟩ | ⟨g, cap, cur, rfl, h2⟩
      · have hn0 : n = 0 := by omega
        have hm0 : m = 0 := by omega
        subst hn0 hm0
        have hx0 : xs = [] := List.eq_nil_of_length_eq_zero hn.symm
        have hy0 : ys = [] := List.eq_nil_of_length_eq_zero hr.len.symm
        subst hx0 hy0
        exact h none 0 w' (Own.nil _ _) hg hb
      · refine h _ _ w' ⟨by simp [hn, hr.len], by simpa using hl, .inr ⟨g, cap, cur, rfl, ?_⟩⟩ hg hb
        simpa using h2
theorem appL {ops : Array Oper} {rest : List Oper} {o : Oper} {a : Act} {Q : Exit → Act → World → Prop} {w : World} (hgd : o.guard = none) {s x : Operand}
    (ho : o.op = .call { callee := .builtin .append, args := #[s, x], argTypes := #[35, 35] }) {lo : Nat} {ad : Option Addr} {n c : Nat} {xs : List Int} (hown : Own w lo ad n c xs) (hs : a.eval s = .slice ad n c)
    {ad2 : Option Addr} {m c2 : Nat} {ys : List Int} (hr : Row w ad2 m ys) (hx : a.eval x = .slice ad2 m c2) (hlen : n + m ≤ 1000000000000) (hlo : lo ≤ w.heap.size)
    (h : ∀ ad' c' w', Own w' lo ad' (n + m) c' (xs ++ ys) → w.grownBy w' (Value.slice ad n c).ownBlock → Below lo w w' → wpList Tryz.prog ops Q rest (a.put o.dst (.slice ad' (n + m) c')) w') :
    wpList Tryz.prog ops Q (o :: rest) a w :=
  wpList_plain hgd fun _ hK => wp_appL ho hown hs hr hx hlen hlo fun _ _ _ h1 h2 h3 => hK _ _ (h _ _ _ h1 h2 h3)
theorem step_appL {ops : Array Oper} {o : Oper} {a : Act} {K : Act → World → Prop} {Q : Exit → Act → World → Prop} {E : Prop} {w : World} (hgd : o.guard = none) {s x : Operand}
    (ho : o.op = .call { callee := .builtin .append, args := #[s, x], argTypes := #[35, 35] }) {lo : Nat} {ad : Option Addr} {n c : Nat} {xs : List Int} (hown : Own w lo ad n c xs) (hs : a.eval s = .slice ad n c)
    {ad2 : Option Addr} {m c2 : Nat} {ys : List Int} (hr : Row w ad2 m ys) (hx : a.eval x = .slice ad2 m c2) (hlen : n + m ≤ 1000000000000) (hlo : lo ≤ w.heap.size)
    (h : ∀ ad' c' w', Own w' lo ad' (n + m) c' (xs ++ ys) → w.grownBy w' (Value.slice ad n c).ownBlock → Below lo w w' → K (a.put o.dst (.slice ad' (n + m) c')) w') :
    if Region.wanted o (yielded ops a.tmps) = true then Oper.wp Tryz.prog o a w K Q else E := by
  have hw : Region.wanted o (yielded ops a.tmps) = true := by simp [Region.wanted, hgd]
  rw [if_pos hw]
  exact wp_appL ho hown hs hr hx hlen hlo h
theorem Row.one (w : World) {b : Nat} (hb : b = w.heap.size) (y : Int) (t : TypeId) : Row (w.alloc (.cells #[.int .i64 y] t)) (some ⟨b, 0, none⟩) 1 [y] := by
  refine ⟨rfl, fun i hi => ⟨b, 0, rfl, by rw [size_alloc]; omega, ?_⟩⟩
  have : i = 0 := by omega
  subst this
  exact (Loc.new w hb #[.int .i64 y] t).cell 0 rfl
theorem Own.fresh (w : World) {b : Nat} (hb : b = w.heap.size) : Own (w.alloc (.cells #[] 2)) w.heap.size (some ⟨b, 0, none⟩) 0 0 [] :=
  Own.mk rfl (by omega) (Loc.new _ hb _ _) (Nat.le_refl _) (by unfold maxLen; omega) rfl rfl
theorem step_app1 {ops : Array Oper} {o : Oper} {a : Act} {K : Act → World → Prop} {Q : Exit → Act → World → Prop} {E : Prop} {w : World} (hgd : o.guard = none) {s x : Operand}
    (ho : o.op = .call { callee := .builtin .append, args := #[s, x], argTypes := #[35, 35] }) {lo : Nat} {ad : Option Addr} {n c : Nat} {xs : List Int} (hown : Own w lo ad n c xs) (hs : a.eval s = .slice ad n c)
    {y : Int} {t : TypeId} (hx : a.eval x = .slice (some ⟨w.heap.size, 0, none⟩) 1 1) (hlen : n + 1 ≤ 1000000000000) (hlo : lo ≤ w.heap.size)
    (h : ∀ g c' w', Own w' lo (some ⟨g, 0, none⟩) (n + 1) c' (xs ++ [y]) → w.grownBy w' (Value.slice ad n c).ownBlock → w.heap.size < w'.heap.size → Below lo w w' → K (a.put o.dst (.slice (some ⟨g, 0, none⟩) (n + 1) c')) w') :
    if Region.wanted o (yielded ops a.tmps) = true then Oper.wp Tryz.prog o a (w.alloc (.cells #[.int .i64 y] t)).drew K Q else E := by
  have hw : Region.wanted o (yielded ops a.tmps) = true := by simp [Region.wanted, hgd]
  rw [if_pos hw]
  obtain ⟨i0, hi, hz0, hz1, hz2⟩ := info_parts info_int
  obtain ⟨hn, hown⟩ := hown
  refine wp_append_own _ s x 35 ho lo 2 i0 (.int .i64 0) 1 8 und_ints hi hz0 hz1 hz2 rfl (by decide) _ n (xs.map (.int .i64)) hs ((hown.alloc _).drew) ⟨w.heap.size, 0, none⟩ 1 1 [.int .i64 y] hx rfl (cell_one_new _ _ _) ?_ ?_ ?_ ?_ ?_
  · intro u hu; simp at hu; subst hu; rfl
  · unfold maxLen; omega
  · omega
  · simp; omega
  · intro v' w' ho' hg hv'
    have hg' : w.grownBy w' (Value.slice ad n c).ownBlock := by
      have h1 := World.grownBy_alloc w (.cells #[.int .i64 y] t) (Value.slice ad n c).ownBlock
      exact ⟨hg.os.trans h1.os, hg.tape.trans h1.tape, hg.output.trans h1.output, Nat.le_trans h1.size hg.size, fun k hk hn => (hg.block k (Nat.lt_of_lt_of_le hk h1.size) hn).trans (h1.block k hk hn)⟩
    obtain ⟨hl, h2⟩ := ho'
    rcases h2 with ⟨rfl, h2⟩ | ⟨g, cap, cur, rfl, h2⟩
    · simp at h2
    · refine h g cap w' ⟨by simp [hn], by simpa using hl, .inr ⟨g, cap, cur, rfl, ?_⟩⟩ hg' ?_ ?_
      · simpa using h2
      · have := hg.size; simp at this; omega
      · exact (Below.refl _ _).grown hg' hlo (fun k hk => (World.ownsRow.lt hown k hk).1)
theorem Own.single (w : World) {b : Nat} (hb : b = w.heap.size) (y : Int) : Own (w.alloc (.cells #[.int .i64 y] 2)) w.heap.size (some ⟨b, 0, none⟩) 1 1 [y] :=
  Own.mk rfl (by omega) (Loc.new _ hb _ _) (Nat.le_refl _) (by unfold maxLen; omega) rfl rfl
theorem step_app1n {ops : Array Oper} {o : Oper} {a : Act} {K : Act → World → Prop} {Q : Exit → Act → World → Prop} {E : Prop} {w : World} (hgd : o.guard = none) {s x : Operand}
    (ho : o.op = .call { callee := .builtin .append, args := #[s, x], argTypes := #[35, 35] }) {lo : Nat} {ad : Option Addr} {n c : Nat} {xs : List Int} (hown : Own w lo ad n c xs) (hs : a.eval s = .slice ad n c)
    {y : Int} {t : TypeId} (hx : a.eval x = .slice (some ⟨w.heap.size, 0, none⟩) 1 1) (hlen : n + 1 ≤ 1000000000000) (hlo : lo ≤ w.heap.size)
    (h : ∀ g c' w', Own w' lo (some ⟨g, 0, none⟩) (n + 1) c' (xs ++ [y]) → w.grownBy w' (Value.slice ad n c).ownBlock → w.heap.size < w'.heap.size → Below lo w w' → K (a.put o.dst (.slice (some ⟨g, 0, none⟩) (n + 1) c')) w') :
    if Region.wanted o (yielded ops a.tmps) = true then Oper.wp Tryz.prog o a (w.alloc (.cells #[.int .i64 y] t)) K Q else E := by
  have hw : Region.wanted o (yielded ops a.tmps) = true := by simp [Region.wanted, hgd]
  rw [if_pos hw]
  obtain ⟨i0, hi, hz0, hz1, hz2⟩ := info_parts info_int
  obtain ⟨hn, hown⟩ := hown
  refine wp_append_own _ s x 35 ho lo 2 i0 (.int .i64 0) 1 8 und_ints hi hz0 hz1 hz2 rfl (by decide) _ n (xs.map (.int .i64)) hs (hown.alloc _) ⟨w.heap.size, 0, none⟩ 1 1 [.int .i64 y] hx rfl (cell_one_new _ _ _) ?_ ?_ ?_ ?_ ?_
  · intro u hu; simp at hu; subst hu; rfl
  · unfold maxLen; omega
  · omega
  · simp; omega
  · intro v' w' ho' hg hv'
    have hg' : w.grownBy w' (Value.slice ad n c).ownBlock := by
      have h1 := World.grownBy_alloc w (.cells #[.int .i64 y] t) (Value.slice ad n c).ownBlock
      exact ⟨hg.os.trans h1.os, hg.tape.trans h1.tape, hg.output.trans h1.output, Nat.le_trans h1.size hg.size, fun k hk hn => (hg.block k (Nat.lt_of_lt_of_le hk h1.size) hn).trans (h1.block k hk hn)⟩
    obtain ⟨hl, h2⟩ := ho'
    rcases h2 with ⟨rfl, h2⟩ | ⟨g, cap, cur, rfl, h2⟩
    · simp at h2
    · refine h g cap w' ⟨by simp [hn], by simpa using hl, .inr ⟨g, cap, cur, rfl, ?_⟩⟩ hg' ?_ ?_
      · simpa using h2
      · have := hg.size; simp at this; omega
      · exact (Below.refl _ _).grown hg' hlo (fun k hk => (World.ownsRow.lt hown k hk).1)
end Go.Proofs.YtkjpkdmnjbjjaaaGreat

namespace Go.Proofs.YtkjpkdmnjbjjaaaGreat
set_option maxRecDepth 100000
set_option linter.unusedVariables false
set_option linter.unusedSimpArgs false
open Go.RowKit
set_option maxHeartbeats 400000 in
theorem l01Own_any (a : Option Addr) (n c : Nat) (xs : List Int) (w : World) (h1 : Row w a n xs) (hm : n ≤ 1000000000000) :
    Calls Tryz.prog 149 #[.slice a n c] w fun e w' => ∃ a' c', e = .returned (.slice a' n c') ∧ Own w' w.heap.size a' n c' xs ∧ Below w.heap.size w w' := by
  have hr := h1.alloc (.cells #[] 2)
  go_enter Tryz.func149, Tryz.ntmps149
  go_wp2_with (at_builtin; refine appL rfl rfl (Own.fresh w rfl) rfl hr rfl (by omega) (by simp) ?_; intro ad' c' w' hO hg hb; rw [Nat.zero_add] at hO ⊢)
  go_ret
  exact ⟨ad', c', rfl, by simpa using hO, ((Below.refl _ _).alloc (Nat.le_refl _) _).trans hb⟩
end Go.Proofs.YtkjpkdmnjbjjaaaGreat

namespace Go.Proofs.YtkjpkdmnjbjjaaaGreat
set_option maxRecDepth 100000
set_option linter.unusedVariables false
set_option linter.unusedSimpArgs false
open Go.RowKit
def doF (f g : List (List Int)) (i : Nat) (l : List Int) : List Int :=
  (l.set i ((tv f (l.getD i 0).toNat (l.getD (i + 1) 0).toNat : Nat) : Int)).set (i + 1) ((tv g (l.getD i 0).toNat (l.getD (i + 1) 0).toNat : Nat) : Int)
theorem doF_len (f g : List (List Int)) (i : Nat) (l : List Int) : (doF f g i l).length = l.length := by simp [doF]
def Less (n : Nat) (l : List Int) : Prop := ∀ i, i < l.length → ∃ k : Nat, k < n ∧ l.getD i 0 = (k : Int)
theorem Less.set {n : Nat} {l : List Int} (h : Less n l) (i k : Nat) (hk : k < n) : Less n (l.set i (k : Int)) := by
  intro j hj
  rw [List.length_set] at hj
  rw [getD_set' _ _ _ _ _ hj]
  by_cases e : j = i
  · rw [if_pos e]; exact ⟨k, hk, rfl⟩
  · rw [if_neg e]; exact h j hj
theorem Less.do_ {n : Nat} {f g : List (List Int)} {l : List Int} (h : Less n l) (hf : Sq n f) (hg : Sq n g) (i : Nat) (hi : i + 1 < l.length) : Less n (doF f g i l) := by
  obtain ⟨x, hx, ex⟩ := h i (by omega)
  obtain ⟨y, hy, ey⟩ := h (i + 1) hi
  unfold doF
  rw [ex, ey]
  exact (h.set i _ (hf.lt (by simpa using hx) (by simpa using hy))).set (i + 1) _ (hg.lt (by simpa using hx) (by simpa using hy))
set_option maxHeartbeats 2000000 in
theorem l02Do_any (a : Option Addr) (n c : Nat) (a' : Option Addr) (c' : Nat) (f g : List (List Int)) (al : Option Addr) (m cl : Nat) (l : List Int) (i : Nat) (w : World) (h1 : Tbl w a n f) (h2 : Tbl w a' n g) (hn1 : 1 ≤ n) (hf : Sq n f) (hg : Sq n g)
    (hl : Row w al m l) (hm : m ≤ 1000000) (hi : i + 1 < m) (hle : Less n l) :
    Calls Tryz.prog 72 #[sAgg a n c a' n c', .slice al m cl, .int .i64 i] w fun e w' => ∃ ao co, e = .returned (.slice ao m co) ∧ Own w' w.heap.size ao m co (doF f g i l) ∧ Below w.heap.size w w' := by
  obtain ⟨bf, of, A, O, C, rfl, Gf⟩ := h1.grid hf hn1
  obtain ⟨bg, og, A', O', C', rfl, Gg⟩ := h2.grid hg hn1
  clear h1 h2
  have hll := hl.len
  obtain ⟨x, hx, ex⟩ := hle i (by omega)
  obtain ⟨y, hy, ey⟩ := hle (i + 1) (by omega)
  have HDO : Hid (doF f g i l = (l.set i ((tv f x y : Nat) : Int)).set (i + 1) ((tv g x y : Nat) : Int)) := Lib.hid (by unfold doF; rw [ex, ey]; simp)
  have HX := Lib.hid ex; have HY := Lib.hid ey
  clear ex ey hll hle
  have hA := Loc.new w rfl #[.slice (some ⟨bf, of, none⟩) n c, .slice (some ⟨bg, og, none⟩) n c'] 26
  have gf := Gf.alloc (.cells #[.slice (some ⟨bf, of, none⟩) n c, .slice (some ⟨bg, og, none⟩) n c'] 26)
  have gg := Gg.alloc (.cells #[.slice (some ⟨bf, of, none⟩) n c, .slice (some ⟨bg, og, none⟩) n c'] 26)
  have hl0 := hl.alloc (.cells #[.slice (some ⟨bf, of, none⟩) n c, .slice (some ⟨bg, og, none⟩) n c'] 26)
  have hB := below_al (Below.refl w.heap.size w) (.cells #[.slice (some ⟨bf, of, none⟩) n c, .slice (some ⟨bg, og, none⟩) n c'] 26)
  clear Gf Gg hl
  have hwi : IntKind.i64.wrap ((i : Int) + 1) = ((i + 1 : Nat) : Int) := (IntWalk.i64_in _ (by omega)).trans (by simp)
  go_enter Tryz.func72, Tryz.ntmps72
  go_wp2_with fail
  refine (l01Own_any _ _ _ l _ hl0 (by omega)).mono ?_
  rintro e w1 ⟨ao, co, rfl, ho, hb1⟩
  have ho1 : Own w1 (w.heap.size + 1) ao m co l := ho.mono (by simp)
  clear ho
  obtain ⟨go, oo, rfl, _⟩ := ho1.row.at i (by omega)
  obtain ⟨rfl, hc, hfr⟩ := ho1.cells
  have hgo := ho1.lt
  obtain ⟨bl, ol, e1, hbl, hall⟩ := hl0.all (by omega)
  subst e1
  have hbB := hb1
  have hA1 := hA.below hb1 (by simp)
  have lA1 := hA1.two
  obtain ⟨r1, k1⟩ := (gf.below hb1).look hx hy
  have hl1 := hl0.below hb1
  have kx := (hb1.cell (p := ⟨bl, ol + i, none⟩) hbl).trans (hall i (by omega))
  have ky := (hb1.cell (p := ⟨bl, ol + (i + 1), none⟩) hbl).trans (hall (i + 1) (by omega))
  rw [HX.out] at kx; rw [HY.out] at ky
  have hci := hc i (by omega)
  have hfi := hfr i
  generalize hF : tv f x y = F at *
  generalize hG : tv g x y = G at *
  clear hc hfr hl1 hb1
  have HALL := Lib.hid hall; clear hall
  go_wp2
  go_region
  have hb2 := (below_setne (a := ⟨go, i, none⟩) hbB (by simpa using hgo.1) (.int .i64 F)).drew
  have ho2 : Own (w1.setCell ⟨go, i, none⟩ (.int .i64 F)).drew (w.heap.size + 1) (some ⟨go, 0, none⟩) m co (l.set i (F : Int)) := (ho1.set i _).drew
  clear hbB ho1 kx ky r1 k1 hci hfi hA1 lA1
  generalize (w1.setCell ⟨go, i, none⟩ (.int .i64 F)).drew = w2 at *
  obtain ⟨_, hc, hfr⟩ := ho2.cells
  have hA1 := hA.below hb2 (by simp)
  have lA1 := hA1.two
  obtain ⟨r2, k2⟩ := (gg.below hb2).look hx hy
  have kx := (hb2.cell (p := ⟨bl, ol + i, none⟩) hbl).trans (HALL.out i (by omega))
  have ky := (hb2.cell (p := ⟨bl, ol + (i + 1), none⟩) hbl).trans (HALL.out (i + 1) (by omega))
  rw [HX.out] at kx; rw [HY.out] at ky
  rw [hG] at k2
  have hci := hc (i + 1) (by omega)
  have hfi := hfr (i + 1)
  have HF := Lib.hid hF; have HG := Lib.hid hG; clear hF hG
  clear hc hfr
  go_wp2
  go_region
  go_wp2
  go_ret
  refine ⟨_, _, rfl, ?_, ?_⟩
  · rw [HDO.out]
    exact ((ho2.set (i + 1) _).drew).mono (by omega)
  · exact (below_setne (a := ⟨go, i + 1, none⟩) (hB.trans (hb2.mono (by simp))) (by have := hgo.1; show w.heap.size ≤ go; omega) _).drew
end Go.Proofs.YtkjpkdmnjbjjaaaGreat

namespace Go.Proofs.YtkjpkdmnjbjjaaaGreat
set_option maxRecDepth 100000
set_option linter.unusedVariables false
set_option linter.unusedSimpArgs false
open Go.RowKit
def tabF (n : Nat) (v : Nat → Nat → Int) : List (List Int) := (List.range n).map fun x => (List.range n).map fun y => v x y
theorem tabF_len (n : Nat) (v : Nat → Nat → Int) : (tabF n v).length = n := by simp [tabF]
theorem tabF_get (n : Nat) (v : Nat → Nat → Int) (x : Nat) (h : x < n) : (tabF n v).getD x [] = (List.range n).map fun y => v x y := by
  simp [tabF, List.getD_eq_getElem?_getD, List.getElem?_map, h]
theorem rowP_step (n : Nat) (f : Nat → Int) (j : Nat) (h : j < n) : (((List.range n).map f).take j ++ List.replicate (n - j) 0).set j (f j) = ((List.range n).map f).take (j + 1) ++ List.replicate (n - (j + 1)) 0 := by
  have hx : j < ((List.range n).map f).length := by simpa using h
  have e : (((List.range n).map f).take j).length = j := by rw [List.length_take]; omega
  rw [List.set_append_right _ _ (by omega), e, Nat.sub_self, List.take_succ_eq_append_getElem hx, List.append_assoc]
  congr 1
  obtain ⟨m, hm⟩ : ∃ m, n - j = m + 1 := ⟨n - j - 1, by omega⟩
  have hm' : n - (j + 1) = m := by omega
  rw [hm, hm', List.replicate_succ]
  simp
theorem tabP_get (n : Nat) (v : Nat → Nat → Int) (k : Nat) (hk : k < n) (y : List Int) (r : List (List Int)) : ((tabF n v).take k ++ y :: r).getD k [] = y := by
  have e : ((tabF n v).take k).length = k := by rw [List.length_take, tabF_len]; omega
  rw [List.getD_eq_getElem?_getD, List.getElem?_append_right (by omega), e, Nat.sub_self]; rfl
theorem tabP_set (n : Nat) (v : Nat → Nat → Int) (k : Nat) (hk : k < n) (y z : List Int) (r : List (List Int)) : ((tabF n v).take k ++ y :: r).set k z = (tabF n v).take k ++ z :: r := by
  have e : ((tabF n v).take k).length = k := by rw [List.length_take, tabF_len]; omega
  rw [List.set_append_right _ _ (by omega), e, Nat.sub_self]; rfl
theorem tabP_next (n : Nat) (v : Nat → Nat → Int) (k : Nat) (hk : k < n) (r : List (List Int)) : (tabF n v).take k ++ ((List.range n).map fun y => v k y) :: r = (tabF n v).take (k + 1) ++ r := by
  have hx : k < (tabF n v).length := by rw [tabF_len]; exact hk
  have hg := tabF_get n v k hk
  rw [Tbl.getD hx] at hg
  rw [List.take_succ_eq_append_getElem hx, hg, List.append_assoc]; rfl
theorem rep_cons (n k : Nat) (hk : k < n) : List.replicate (n - k) ([] : List Int) = [] :: List.replicate (n - (k + 1)) [] := by
  have : n - k = (n - (k + 1)) + 1 := by omega
  rw [this, List.replicate_succ]
set_option maxHeartbeats 2000000 in
theorem tableBy_any (f : FuncId) (caps : Array Value) (v : Nat → Nat → Int) (n : Nat) (w : World) (hn : n ≤ 1000000) (hcf : Ent f)
    (hf : ∀ x y, x < n → y < n → ∀ w1, Below w.heap.size w w1 → Calls Tryz.prog f (#[.int .i64 x, .int .i64 y] ++ caps) w1 fun e w' => e = .returned (.int .i64 (v x y)) ∧ Below w1.heap.size w1 w') :
    Calls Tryz.prog 90 #[.int .i64 n, .func (.func f) #[] caps] w fun e w' => ∃ a c vs, e = .returned (.slice a n c) ∧ OwnT w' w.heap.size a n c vs (tabF n v) ∧ Below w.heap.size w w' := by
  have hcf' : ∀ (args : Array Value) (w : World), (callFunc f args).run Tryz.prog w = .ok (.enter f args) w := hcf
  have HF := Lib.hid hf; clear hf
  go_enter Tryz.func90, Tryz.ntmps90
  go_wp2_with (at_make; refine makeT rfl rfl rfl rfl (by omega) ?_; intro w1 ho hs hb)
  go_loopw [12] (fun i wr => ∃ (k : Nat) (vs : List SV), k ≤ n ∧ i = .int .i64 k ∧ OwnT wr w.heap.size (some ⟨w.heap.size, 0, none⟩) n n vs ((tabF n v).take k ++ List.replicate (n - k) []) ∧ Below w.heap.size w wr) (fun i _ => n - (intOf i).toNat)
  case atStart => exact ⟨0, _, Nat.zero_le _, rfl, by simpa using ho, hb⟩
  case round =>
    clear ho hb
    obtain ⟨k, vs, hk, rfl, ho, hb⟩ := hrel
    by_cases hlt : k < n
    · have hszw : w.heap.size < wr.heap.size := ho.high _ rfl
      go_wp2_with (at_make; refine make1 rfl rfl rfl rfl (by omega) ?_; intro w2 ho2 hs2 hb2; have hot := ho.below hb2; obtain ⟨g', hg', hgl', hc', hf'⟩ := hot.cells (by omega); cases hg'; have hc1 := hc' k hlt; have hf1 := hf' k; clear hc' hf')
      have hp := hot.put k hlt (v := (some ⟨wr.heap.size, 0, none⟩, n, n)) (ho2.mono (Nat.le_of_lt hszw)) (fun e => by have h1 := ho.high _ rfl; simp only [Option.some.injEq, Addr.mk.injEq] at e; omega) (fun j hj _ g1 h1 h2 => by have h3 := ho2.lo _ h1; have h4 := (ho.row j hj).hi _ h2; omega)
      rw [rep_cons n k hlt, tabP_set n v k hlt] at hp
      have hb3 : Below w.heap.size w (w2.setCell ⟨w.heap.size, k, none⟩ (.slice (some ⟨wr.heap.size, 0, none⟩) n n)) := (hb.trans (hb2.mono (Nat.le_of_lt hszw))).setCell (Nat.le_refl _) _
      generalize hW3 : w2.setCell ⟨w.heap.size, k, none⟩ (.slice (some ⟨wr.heap.size, 0, none⟩) n n) = w3 at hp hb3 ⊢
      clear hW3 hc1 hf1 hot ho2 hb2 hs2
      obtain ⟨g', hg', hgl', hc', hf'⟩ := hp.cells (by omega)
      cases hg'
      have hc1 := hc' k hlt
      have hvs : (vs.set k (some ⟨wr.heap.size, 0, none⟩, n, n)).getD k svO = (some ⟨wr.heap.size, 0, none⟩, n, n) := by
        rw [getD_set' _ _ _ _ _ (by have := ho.vlen; omega), if_pos rfl]
      rw [hvs] at hc1
      have HVS := Lib.hid hvs
      clear hc' hf' hvs ho hb
      generalize hV : vs.set k (some ⟨wr.heap.size, 0, none⟩, n, n) = vs' at hp HVS
      clear hV
      go_wp2
      have hszw3 : wr.heap.size < w3.heap.size := by
        have := (hp.row k hlt).hi wr.heap.size (by rw [HVS.out])
        exact this
      generalize wr.heap.size = rb at *
      go_loopw [25] (fun i w4 => ∃ j : Nat, j ≤ n ∧ i = .int .i64 j ∧ OwnT w4 w.heap.size (some ⟨w.heap.size, 0, none⟩) n n vs' ((tabF n v).take k ++ (((List.range n).map fun y => v k y).take j ++ List.replicate (n - j) 0) :: List.replicate (n - (k + 1)) []) ∧ Below w.heap.size w w4) (fun i _ => n - (intOf i).toNat)
      case atStart => exact ⟨0, Nat.zero_le _, rfl, by simpa using hp, hb3⟩
      case round =>
        clear hp hb3 hc1 hszw3
        obtain ⟨j, hj, rfl, ho, hb⟩ := hrel
        obtain ⟨g', hg', hgl', hc', hf'⟩ := ho.cells (by omega)
        cases hg'
        have hc1 := hc' k hlt
        rw [HVS.out] at hc1
        clear hc' hf'
        have hne5 : (⟨w.heap.size, k, none⟩ : Addr).block ≠ (⟨rb, j, none⟩ : Addr).block := by show w.heap.size ≠ rb; omega
        by_cases hjt : j < n
        · go_wp2
          go_region_held3 (fun w' => w'.cell? ⟨w.heap.size, k, none⟩ = some (.slice (some ⟨rb, 0, none⟩) n n))
            (first | exact hc5 | exact cell_setne hc5 hne5 _ | exact hc1 | go_keep)
            (first
            | (refine (HF.out k j hlt hjt _ (below_drewN hb 1)).mono ?_; rintro e w5 ⟨rfl, hb5⟩; have ho5 := (ho.drewN 1).below hb5; have hB5 := below_th (below_drewN hb 1) hb5; have hc5 := (ho5.cells (by omega)).elim (fun g' h => by obtain ⟨h1, h2, h3, h4⟩ := h; have h5 := h3 k hlt; rw [HVS.out] at h5; cases h1; exact h5); have hr5 := ho5.row k hlt; rw [HVS.out, tabP_get n v k hlt] at hr5; have hcr := hr5.cells.2.1 j hjt; have hfr := hr5.cells.2.2 j; clear hr5))
          all_goals
            go_wp2
            go_roundw
            case rel =>
              refine ⟨j + 1, by omega, by go_num, ?_, hB5.setCell (by show _ ≤ rb; omega) _⟩
              have hq := ho5.setrow k hlt (g := rb) (by rw [HVS.out]) j (v k j)
              rw [tabP_get n v k hlt, tabP_set n v k hlt, rowP_step n (fun y => v k y) j hjt] at hq
              exact hq
            case measure => simp [intOf]; omega
        · obtain rfl : j = n := by omega
          go_wp2
          go_roundw
          case rel =>
            refine ⟨k + 1, vs', by omega, by go_num, ?_, hb⟩
            rw [List.take_of_length_le (l := (List.range j).map fun y => v k y) (by simp), Nat.sub_self, List.replicate_zero, List.append_nil, tabP_next _ v k hlt] at ho
            exact ho
          case measure => simp [intOf]; omega
    · obtain rfl : k = n := by omega
      go_wp2
      go_ret
      have e1 : (tabF k v).take k ++ List.replicate (k - k) [] = tabF k v := by
        rw [List.take_of_length_le (by rw [tabF_len]; omega), Nat.sub_self, List.replicate_zero, List.append_nil]
      rw [e1] at ho
      exact ⟨_, _, _, rfl, ho, hb⟩
end Go.Proofs.YtkjpkdmnjbjjaaaGreat

namespace Go.Proofs.YtkjpkdmnjbjjaaaGreat
set_option maxRecDepth 100000
set_option linter.unusedVariables false
set_option linter.unusedSimpArgs false
open Go.RowKit
def plc (x : Int) : Int := if x < 0 then -x - 1 else x - 1
def sgn (x : Int) : Int := if x < 0 then -1 else 1
theorem l16Place_any (x : Int) (w : World) (h1 : -1000 ≤ x) (h2 : x ≤ 1000) :
    Calls Tryz.prog 205 #[.int .i64 x] w fun e w' => e = .returned (.int .i64 (plc x)) ∧ w' = w := by
  by_cases h : x < 0
  · have HE := Lib.hid (show plc x = -x - 1 from if_pos h)
    go_enter Tryz.func205, Tryz.ntmps205
    go_wp2
    go_ret
    exact ⟨ret_int HE.out.symm, rfl⟩
  · have HE := Lib.hid (show plc x = x - 1 from if_neg h)
    go_enter Tryz.func205, Tryz.ntmps205
    go_wp2
    go_ret
    exact ⟨ret_int HE.out.symm, rfl⟩
theorem signOf_any (x : Int) (w : World) :
    Calls Tryz.prog 95 #[.int .i64 x] w fun e w' => e = .returned (.int .i64 (sgn x)) ∧ w' = w := by
  by_cases h : x < 0
  · have HE := Lib.hid (show sgn x = -1 from if_pos h)
    go_enter Tryz.func95, Tryz.ntmps95
    go_wp2
    go_ret
    exact ⟨ret_int HE.out.symm, rfl⟩
  · have HE := Lib.hid (show sgn x = 1 from if_neg h)
    go_enter Tryz.func95, Tryz.ntmps95
    go_wp2
    go_ret
    exact ⟨ret_int HE.out.symm, rfl⟩
theorem placeOf_any (x : Int) (w : World) (h1 : -1000 ≤ x) (h2 : x ≤ 1000) :
    Calls Tryz.prog 94 #[.int .i64 x] w fun e w' => e = .returned (.int .i64 (plc x)) ∧ w' = w := by
  have hp : plc x = x * sgn x - 1 := by unfold plc sgn; split <;> omega
  have hb : -1000 ≤ x * sgn x ∧ x * sgn x ≤ 1000 := by unfold sgn; split <;> omega
  have HP := Lib.hid hp; clear hp
  go_enter Tryz.func94, Tryz.ntmps94
  go_wp2_with fail
  refine (signOf_any _ _).mono ?_
  rintro e w' ⟨rfl, hw⟩
  subst hw
  go_wp2
  go_ret
  exact ⟨ret_int HP.out.symm, rfl⟩
end Go.Proofs.YtkjpkdmnjbjjaaaGreat
