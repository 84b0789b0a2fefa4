/-
  Walks and plain laws of this seat, some texts in one.
  No condition but bounds on lengths.
-/
import Derived.Test.YtpdgpgbgakinlaaGreatPb1
import Derived.Lib.SliceRun
import Derived.Deep.RegionLaw
import Derived.Test.YtpdgpgbgakinlaaGreatPb2
import Derived.IntWalk
import Derived.RegionTactic
import Derived.Deep.RegionHeld3
namespace Go.Proofs.YtpdgpgbgakinlaaGreat
set_option maxRecDepth 100000
set_option linter.unusedVariables false
set_option linter.unusedSimpArgs false
open Go.RowKit
theorem run_append_none_any {P : Program} (w : World) (base : Nat) (t ty e : TypeId) (i : TypeInfo) (size : Nat) (ht : P.underlying t = some (.slice e)) (hi : P.info? e = some i)
    (v : Value) (n c : Nat) (xs : List Value) (hown : w.ownsRow base e size v n xs) : (Builtin.append_ #[t, t] ty #[v, .slice none 0 c]).run P w = .ok v w := by
  rcases hown.2 with ⟨rfl, rfl⟩ | ⟨g, cap, cur, rfl, hb, hg, hnc, hcm, hcs, htake⟩
  · simp [Builtin.append_, run_underlying ht, sizeOf, typeInfo, hi, Builtin.lenOf, Builtin.firstCells, loadCells, loadCellsFrom]
  · simp [Builtin.append_, run_underlying ht, sizeOf, typeInfo, hi, Builtin.lenOf, Builtin.firstCells, hnc, storeCells]
theorem wp_appL {o : Oper} {a : Act} {K : Act → World → Prop} {Q : Exit → Act → World → Prop} {w : World} {s x : Operand}
    (ho : o.op = .call { callee := .builtin .append, args := #[s, x], argTypes := #[27, 27] }) {lo : Nat} {ad : Option Addr} {n c : Nat} {xs : List Int} (hown : Own w lo ad n c xs) (hs : a.eval s = .slice ad n c)
    {ad2 : Option Addr} {m c2 : Nat} {ys : List Int} (hr : Row w ad2 m ys) (hx : a.eval x = .slice ad2 m c2) (hlen : n + m ≤ 1000000000000) (hlo : lo ≤ w.heap.size)
    (h : ∀ ad' c' w', Own w' lo ad' (n + m) c' (xs ++ ys) → w.grownBy w' (Value.slice ad n c).ownBlock → Below lo w w' → K (a.put o.dst (.slice ad' (n + m) c')) w') :
    o.wp Tryz.prog a w K Q := by
  obtain ⟨i0, hi, hz0, hz1, hz2⟩ := info_parts info_int
  obtain ⟨hn, hw⟩ := hown
  cases ad2 with
  | none =>
    have hm : m = 0 := by
      rcases Nat.eq_zero_or_pos m with h | h
      · exact h
      · obtain ⟨b, off, h1, _⟩ := hr.at 0 h; cases h1
    subst hm
    have hy : ys = [] := List.eq_nil_of_length_eq_zero hr.len.symm
    subst hy
    have hrun := run_append_none_any (P := Tryz.prog) w lo 27 o.type 2 i0 1 und_ints hi _ n c2 _ hw
    unfold Oper.wp
    simp [execOp, ho, resolve, invoke, builtin, hs, hx, hrun, Result.andThen]
    have hh := h ad c w ⟨by simpa using hn, by simpa using hw⟩ (World.grownBy.refl _ _) (Below.refl _ _)
    exact hh
  | some p =>
    refine wp_append_own _ s x 27 ho lo 2 i0 (.int .i64 0) 1 8 und_ints hi hz0 hz1 hz2 rfl (by decide) _ n (xs.map (.int .i64)) hs hw p m c2 (ys.map (.int .i64)) hx (by simp [hr.len]) ?_ ?_ ?_ ?_ hlo ?_
    · intro j u hj
      have hjm : j < m := by
        have := (List.getElem?_eq_some_iff.1 hj).1
        rw [List.length_map] at this; have := hr.len; omega
      obtain ⟨b, off, h1, h2⟩ := hr.at j hjm
      cases h1
      have e : (⟨b, off, none⟩ : Addr).add j = ⟨b, off + j, none⟩ := by unfold Addr.add; split <;> simp_all
      have hjy : j < ys.length := by have := hr.len; omega
      rw [e, h2, ← hj]
      simp [List.getD_eq_getElem?_getD, List.getElem?_eq_getElem hjy]
    · intro u hu
      rw [List.mem_map] at hu
      obtain ⟨y, _, rfl⟩ := hu; rfl
    · unfold maxLen; omega
    · omega
    · intro v' w' ho' hg hv'
      obtain ⟨hl, h2⟩ := ho'
      have hb : Below lo w w' := (Below.refl _ _).grown hg hlo (fun k hk => (World.ownsRow.lt hw k hk).1)
      rcases h2 with ⟨rfl, h2⟩ | ⟨g, cap, cur, rfl, h2⟩
      · have hn0 : n = 0 := by omega
        have hm0 : m = 0 := by omega
        subst hn0 hm0
        have hx0 : xs = [] := List.eq_nil_of_length_eq_zero hn.symm
        have hy0 : ys = [] := List.eq_nil_of_length_eq_zero hr.len.symm
        subst hx0 hy0
        exact h none 0 w' (Own.nil _ _) hg hb
      · refine h _ _ w' ⟨by simp [hn, hr.len], by simpa using hl, .inr ⟨g, cap, cur, rfl, ?_⟩⟩ hg hb
        simpa using h2
theorem appL {ops : Array Oper} {rest : List Oper} {o : Oper} {a : Act} {Q : Exit → Act → World → Prop} {w : World} (hgd : o.guard = none) {s x : Operand}
    (ho : o.op = .call { callee := .builtin .append, args := #[s, x], argTypes := #[27, 27] }) {lo : Nat} {ad : Option Addr} {n c : Nat} {xs : List Int} (hown : Own w lo ad n c xs) (hs : a.eval s = .slice ad n c)
    {ad2 : Option Addr} {m c2 : Nat} {ys : List Int} (hr : Row w ad2 m ys) (hx : a.eval x = .slice ad2 m c2) (hlen : n + m ≤ 1000000000000) (hlo : lo ≤ w.heap.size)
    (h : ∀ ad' c' w', Own w' lo ad' (n + m) c' (xs ++ ys) → w.grownBy w' (Value.slice ad n c).ownBlock → Below lo w w' → wpList Tryz.prog ops Q rest (a.put o.dst (.slice ad' (n + m) c')) w') :
    wpList Tryz.prog ops Q (o :: rest) a w :=
  wpList_plain hgd fun _ hK => wp_appL ho hown hs hr hx hlen hlo fun _ _ _ h1 h2 h3 => hK _ _ (h _ _ _ h1 h2 h3)
theorem step_appL {ops : Array Oper} {o : Oper} {a : Act} {K : Act → World → Prop} {Q : Exit → Act → World → Prop} {E : Prop} {w : World} (hgd : o.guard = none) {s x : Operand}
    (ho : o.op = .call { callee := .builtin .append, args := #[s, x], argTypes := #[27, 27] }) {lo : Nat} {ad : Option Addr} {n c : Nat} {xs : List Int} (hown : Own w lo ad n c xs) (hs : a.eval s = .slice ad n c)
    {ad2 : Option Addr} {m c2 : Nat} {ys : List Int} (hr : Row w ad2 m ys) (hx : a.eval x = .slice ad2 m c2) (hlen : n + m ≤ 1000000000000) (hlo : lo ≤ w.heap.size)
    (h : ∀ ad' c' w', Own w' lo ad' (n + m) c' (xs ++ ys) → w.grownBy w' (Value.slice ad n c).ownBlock → Below lo w w' → K (a.put o.dst (.slice ad' (n + m) c')) w') :
    if Region.wanted o (yielded ops a.tmps) = true then Oper.wp Tryz.prog o a w K Q else E := by
  have hw : Region.wanted o (yielded ops a.tmps) = true := by simp [Region.wanted, hgd]
  rw [if_pos hw]
  exact wp_appL ho hown hs hr hx hlen hlo h
theorem Row.one (w : World) {b : Nat} (hb : b = w.heap.size) (y : Int) (t : TypeId) : Row (w.alloc (.cells #[.int .i64 y] t)) (some ⟨b, 0, none⟩) 1 [y] := by
  refine ⟨rfl, fun i hi => ⟨b, 0, rfl, by rw [size_alloc]; omega, ?_⟩⟩
  have : i = 0 := by omega
  subst this
  exact (Loc.new w hb #[.int .i64 y] t).cell 0 rfl
theorem Own.fresh (w : World) {b : Nat} (hb : b = w.heap.size) : Own (w.alloc (.cells #[] 2)) w.heap.size (some ⟨b, 0, none⟩) 0 0 [] :=
  Own.mk rfl (by omega) (Loc.new _ hb _ _) (Nat.le_refl _) (by unfold maxLen; omega) rfl rfl
theorem step_app1 {ops : Array Oper} {o : Oper} {a : Act} {K : Act → World → Prop} {Q : Exit → Act → World → Prop} {E : Prop} {w : World} (hgd : o.guard = none) {s x : Operand}
    (ho : o.op = .call { callee := .builtin .append, args := #[s, x], argTypes := #[27, 27] }) {lo : Nat} {ad : Option Addr} {n c : Nat} {xs : List Int} (hown : Own w lo ad n c xs) (hs : a.eval s = .slice ad n c)
    {y : Int} {t : TypeId} (hx : a.eval x = .slice (some ⟨w.heap.size, 0, none⟩) 1 1) (hlen : n + 1 ≤ 1000000000000) (hlo : lo ≤ w.heap.size)
    (h : ∀ g c' w', Own w' lo (some ⟨g, 0, none⟩) (n + 1) c' (xs ++ [y]) → w.grownBy w' (Value.slice ad n c).ownBlock → w.heap.size < w'.heap.size → Below lo w w' → K (a.put o.dst (.slice (some ⟨g, 0, none⟩) (n + 1) c')) w') :
    if Region.wanted o (yielded ops a.tmps) = true then Oper.wp Tryz.prog o a (w.alloc (.cells #[.int .i64 y] t)).drew K Q else E := by
  have hw : Region.wanted o (yielded ops a.tmps) = true := by simp [Region.wanted, hgd]
  rw [if_pos hw]
  obtain ⟨i0, hi, hz0, hz1, hz2⟩ := info_parts info_int
  obtain ⟨hn, hown⟩ := hown
  refine wp_append_own _ s x 27 ho lo 2 i0 (.int .i64 0) 1 8 und_ints hi hz0 hz1 hz2 rfl (by decide) _ n (xs.map (.int .i64)) hs ((hown.alloc _).drew) ⟨w.heap.size, 0, none⟩ 1 1 [.int .i64 y] hx rfl (cell_one_new _ _ _) ?_ ?_ ?_ ?_ ?_
  · intro u hu; simp at hu; subst hu; rfl
  · unfold maxLen; omega
  · omega
  · simp; omega
  · intro v' w' ho' hg hv'
    have hg' : w.grownBy w' (Value.slice ad n c).ownBlock := by
      have h1 := World.grownBy_alloc w (.cells #[.int .i64 y] t) (Value.slice ad n c).ownBlock
      exact ⟨hg.os.trans h1.os, hg.tape.trans h1.tape, hg.output.trans h1.output, Nat.le_trans h1.size hg.size, fun k hk hn => (hg.block k (Nat.lt_of_lt_of_le hk h1.size) hn).trans (h1.block k hk hn)⟩
    obtain ⟨hl, h2⟩ := ho'
    rcases h2 with ⟨rfl, h2⟩ | ⟨g, cap, cur, rfl, h2⟩
    · simp at h2
    · refine h g cap w' ⟨by simp [hn], by simpa using hl, .inr ⟨g, cap, cur, rfl, ?_⟩⟩ hg' ?_ ?_
      · simpa using h2
      · have := hg.size; simp at this; omega
      · exact (Below.refl _ _).grown hg' hlo (fun k hk => (World.ownsRow.lt hown k hk).1)
theorem Own.single (w : World) {b : Nat} (hb : b = w.heap.size) (y : Int) : Own (w.alloc (.cells #[.int .i64 y] 2)) w.heap.size (some ⟨b, 0, none⟩) 1 1 [y] :=
  Own.mk rfl (by omega) (Loc.new _ hb _ _) (Nat.le_refl _) (by unfold maxLen; omega) rfl rfl
theorem step_app1n {ops : Array Oper} {o : Oper} {a : Act} {K : Act → World → Prop} {Q : Exit → Act → World → Prop} {E : Prop} {w : World} (hgd : o.guard = none) {s x : Operand}
    (ho : o.op = .call { callee := .builtin .append, args := #[s, x], argTypes := #[27, 27] }) {lo : Nat} {ad : Option Addr} {n c : Nat} {xs : List Int} (hown : Own w lo ad n c xs) (hs : a.eval s = .slice ad n c)
    {y : Int} {t : TypeId} (hx : a.eval x = .slice (some ⟨w.heap.size, 0, none⟩) 1 1) (hlen : n + 1 ≤ 1000000000000) (hlo : lo ≤ w.heap.size)
    (h : ∀ g c' w', Own w' lo (some ⟨g, 0, none⟩) (n + 1) c' (xs ++ [y]) → w.grownBy w' (Value.slice ad n c).ownBlock → w.heap.size < w'.heap.size → Below lo w w' → K (a.put o.dst (.slice (some ⟨g, 0, none⟩) (n + 1) c')) w') :
    if Region.wanted o (yielded ops a.tmps) = true then Oper.wp Tryz.prog o a (w.alloc (.cells #[.int .i64 y] t)) K Q else E := by
  have hw : Region.wanted o (yielded ops a.tmps) = true := by simp [Region.wanted, hgd]
  rw [if_pos hw]
  obtain ⟨i0, hi, hz0, hz1, hz2⟩ := info_parts info_int
  obtain ⟨hn, hown⟩ := hown
  refine wp_append_own _ s x 27 ho lo 2 i0 (.int .i64 0) 1 8 und_ints hi hz0 hz1 hz2 rfl (by decide) _ n (xs.map (.int .i64)) hs (hown.alloc _) ⟨w.heap.size, 0, none⟩ 1 1 [.int .i64 y] hx rfl (cell_one_new _ _ _) ?_ ?_ ?_ ?_ ?_
  · intro u hu; simp at hu; subst hu; rfl
  · unfold maxLen; omega
  · omega
  · simp; omega
  · intro v' w' ho' hg hv'
    have hg' : w.grownBy w' (Value.slice ad n c).ownBlock := by
      have h1 := World.grownBy_alloc w (.cells #[.int .i64 y] t) (Value.slice ad n c).ownBlock
      exact ⟨hg.os.trans h1.os, hg.tape.trans h1.tape, hg.output.trans h1.output, Nat.le_trans h1.size hg.size, fun k hk hn => (hg.block k (Nat.lt_of_lt_of_le hk h1.size) hn).trans (h1.block k hk hn)⟩
    obtain ⟨hl, h2⟩ := ho'
    rcases h2 with ⟨rfl, h2⟩ | ⟨g, cap, cur, rfl, h2⟩
    · simp at h2
    · refine h g cap w' ⟨by simp [hn], by simpa using hl, .inr ⟨g, cap, cur, rfl, ?_⟩⟩ hg' ?_ ?_
      · simpa using h2
      · have := hg.size; simp at this; omega
      · exact (Below.refl _ _).grown hg' hlo (fun k hk => (World.ownsRow.lt hown k hk).1)
end Go.Proofs.YtpdgpgbgakinlaaGreat

namespace Go.Proofs.YtpdgpgbgakinlaaGreat
set_option maxRecDepth 100000
set_option linter.unusedVariables false
set_option linter.unusedSimpArgs false
open Go.RowKit
set_option maxHeartbeats 400000 in
theorem l01Own_any (a : Option Addr) (n c : Nat) (xs : List Int) (w : World) (h1 : Row w a n xs) (hm : n ≤ 1000000000000) :
    Calls Tryz.prog 130 #[.slice a n c] w fun e w' => ∃ a' c', e = .returned (.slice a' n c') ∧ Own w' w.heap.size a' n c' xs ∧ Below w.heap.size w w' := by
  have hr := h1.alloc (.cells #[] 2)
  go_enter Tryz.func130, Tryz.ntmps130
  go_wp2_with (at_builtin; refine appL rfl rfl (Own.fresh w rfl) rfl hr rfl (by omega) (by simp) ?_; intro ad' c' w' hO hg hb; rw [Nat.zero_add] at hO ⊢)
  go_ret
  exact ⟨ad', c', rfl, by simpa using hO, ((Below.refl _ _).alloc (Nat.le_refl _) _).trans hb⟩
end Go.Proofs.YtpdgpgbgakinlaaGreat

namespace Go.Proofs.YtpdgpgbgakinlaaGreat
set_option maxRecDepth 100000
set_option linter.unusedVariables false
set_option linter.unusedSimpArgs false
open Go.RowKit
def doF (f g : List (List Int)) (i : Nat) (l : List Int) : List Int :=
  (l.set i ((tv f (l.getD i 0).toNat (l.getD (i + 1) 0).toNat : Nat) : Int)).set (i + 1) ((tv g (l.getD i 0).toNat (l.getD (i + 1) 0).toNat : Nat) : Int)
theorem doF_len (f g : List (List Int)) (i : Nat) (l : List Int) : (doF f g i l).length = l.length := by simp [doF]
def Less (n : Nat) (l : List Int) : Prop := ∀ i, i < l.length → ∃ k : Nat, k < n ∧ l.getD i 0 = (k : Int)
theorem Less.set {n : Nat} {l : List Int} (h : Less n l) (i k : Nat) (hk : k < n) : Less n (l.set i (k : Int)) := by
  intro j hj
  rw [List.length_set] at hj
  rw [getD_set' _ _ _ _ _ hj]
  by_cases e : j = i
  · rw [if_pos e]; exact ⟨k, hk, rfl⟩
  · rw [if_neg e]; exact h j hj
theorem Less.do_ {n : Nat} {f g : List (List Int)} {l : List Int} (h : Less n l) (hf : Sq n f) (hg : Sq n g) (i : Nat) (hi : i + 1 < l.length) : Less n (doF f g i l) := by
  obtain ⟨x, hx, ex⟩ := h i (by omega)
  obtain ⟨y, hy, ey⟩ := h (i + 1) hi
  unfold doF
  rw [ex, ey]
  exact (h.set i _ (hf.lt (by simpa using hx) (by simpa using hy))).set (i + 1) _ (hg.lt (by simpa using hx) (by simpa using hy))
set_option maxHeartbeats 2000000 in
theorem l02Do_any (a : Option Addr) (n c : Nat) (a' : Option Addr) (c' : Nat) (f g : List (List Int)) (al : Option Addr) (m cl : Nat) (l : List Int) (i : Nat) (w : World) (h1 : Tbl w a n f) (h2 : Tbl w a' n g) (hn1 : 1 ≤ n) (hf : Sq n f) (hg : Sq n g)
    (hl : Row w al m l) (hm : m ≤ 1000000) (hi : i + 1 < m) (hle : Less n l) :
    Calls Tryz.prog 138 #[sAgg a n c a' n c', .slice al m cl, .int .i64 i] w fun e w' => ∃ ao co, e = .returned (.slice ao m co) ∧ Own w' w.heap.size ao m co (doF f g i l) ∧ Below w.heap.size w w' := by
  obtain ⟨bf, of, A, O, C, rfl, Gf⟩ := h1.grid hf hn1
  obtain ⟨bg, og, A', O', C', rfl, Gg⟩ := h2.grid hg hn1
  clear h1 h2
  have hll := hl.len
  obtain ⟨x, hx, ex⟩ := hle i (by omega)
  obtain ⟨y, hy, ey⟩ := hle (i + 1) (by omega)
  have HDO : Hid (doF f g i l = (l.set i ((tv f x y : Nat) : Int)).set (i + 1) ((tv g x y : Nat) : Int)) := Lib.hid (by unfold doF; rw [ex, ey]; simp)
  have HX := Lib.hid ex; have HY := Lib.hid ey
  clear ex ey hll hle
  have hA := Loc.new w rfl #[.slice (some ⟨bf, of, none⟩) n c, .slice (some ⟨bg, og, none⟩) n c'] 26
  have gf := Gf.alloc (.cells #[.slice (some ⟨bf, of, none⟩) n c, .slice (some ⟨bg, og, none⟩) n c'] 26)
  have gg := Gg.alloc (.cells #[.slice (some ⟨bf, of, none⟩) n c, .slice (some ⟨bg, og, none⟩) n c'] 26)
  have hl0 := hl.alloc (.cells #[.slice (some ⟨bf, of, none⟩) n c, .slice (some ⟨bg, og, none⟩) n c'] 26)
  have hB := below_al (Below.refl w.heap.size w) (.cells #[.slice (some ⟨bf, of, none⟩) n c, .slice (some ⟨bg, og, none⟩) n c'] 26)
  clear Gf Gg hl
  have hwi : IntKind.i64.wrap ((i : Int) + 1) = ((i + 1 : Nat) : Int) := (IntWalk.i64_in _ (by omega)).trans (by simp)
  go_enter Tryz.func138, Tryz.ntmps138
  go_wp2_with fail
  refine (l01Own_any _ _ _ l _ hl0 (by omega)).mono ?_
  rintro e w1 ⟨ao, co, rfl, ho, hb1⟩
  have ho1 : Own w1 (w.heap.size + 1) ao m co l := ho.mono (by simp)
  clear ho
  obtain ⟨go, oo, rfl, _⟩ := ho1.row.at i (by omega)
  obtain ⟨rfl, hc, hfr⟩ := ho1.cells
  have hgo := ho1.lt
  obtain ⟨bl, ol, e1, hbl, hall⟩ := hl0.all (by omega)
  subst e1
  have hbB := hb1
  have hA1 := hA.below hb1 (by simp)
  have lA1 := hA1.two
  obtain ⟨r1, k1⟩ := (gf.below hb1).look hx hy
  have hl1 := hl0.below hb1
  have kx := (hb1.cell (p := ⟨bl, ol + i, none⟩) hbl).trans (hall i (by omega))
  have ky := (hb1.cell (p := ⟨bl, ol + (i + 1), none⟩) hbl).trans (hall (i + 1) (by omega))
  rw [HX.out] at kx; rw [HY.out] at ky
  have hci := hc i (by omega)
  have hfi := hfr i
  generalize hF : tv f x y = F at *
  generalize hG : tv g x y = G at *
  clear hc hfr hl1 hb1
  have HALL := Lib.hid hall; clear hall
  go_wp2
  go_region
  have hb2 := (below_setne (a := ⟨go, i, none⟩) hbB (by simpa using hgo.1) (.int .i64 F)).drew
  have ho2 : Own (w1.setCell ⟨go, i, none⟩ (.int .i64 F)).drew (w.heap.size + 1) (some ⟨go, 0, none⟩) m co (l.set i (F : Int)) := (ho1.set i _).drew
  clear hbB ho1 kx ky r1 k1 hci hfi hA1 lA1
  generalize (w1.setCell ⟨go, i, none⟩ (.int .i64 F)).drew = w2 at *
  obtain ⟨_, hc, hfr⟩ := ho2.cells
  have hA1 := hA.below hb2 (by simp)
  have lA1 := hA1.two
  obtain ⟨r2, k2⟩ := (gg.below hb2).look hx hy
  have kx := (hb2.cell (p := ⟨bl, ol + i, none⟩) hbl).trans (HALL.out i (by omega))
  have ky := (hb2.cell (p := ⟨bl, ol + (i + 1), none⟩) hbl).trans (HALL.out (i + 1) (by omega))
  rw [HX.out] at kx; rw [HY.out] at ky
  rw [hG] at k2
  have hci := hc (i + 1) (by omega)
  have hfi := hfr (i + 1)
  have HF := Lib.hid hF; have HG := Lib.hid hG; clear hF hG
  clear hc hfr
  go_wp2
  go_region
  go_wp2
  go_ret
  refine ⟨_, _, rfl, ?_, ?_⟩
  · rw [HDO.out]
    exact ((ho2.set (i + 1) _).drew).mono (by omega)
  · exact (below_setne (a := ⟨go, i + 1, none⟩) (hB.trans (hb2.mono (by simp))) (by have := hgo.1; show w.heap.size ≤ go; omega) _).drew
end Go.Proofs.YtpdgpgbgakinlaaGreat

namespace Go.Proofs.YtpdgpgbgakinlaaGreat
set_option maxRecDepth 100000
set_option linter.unusedVariables false
set_option linter.unusedSimpArgs false
open Go.RowKit
def tabF (n : Nat) (v : Nat → Nat → Int) : List (List Int) := (List.range n).map fun x => (List.range n).map fun y => v x y
theorem tabF_len (n : Nat) (v : Nat → Nat → Int) : (tabF n v).length = n := by simp [tabF]
theorem tabF_get (n : Nat) (v : Nat → Nat → Int) (x : Nat) (h : x < n) : (tabF n v).getD x [] = (List.range n).map fun y => v x y := by
  simp [tabF, List.getD_eq_getElem?_getD, List.getElem?_map, h]
theorem tabP_next (n : Nat) (v : Nat → Nat → Int) (k : Nat) (hk : k < n) (r : List (List Int)) : (tabF n v).take k ++ ((List.range n).map fun y => v k y) :: r = (tabF n v).take (k + 1) ++ r := by
  have hx : k < (tabF n v).length := by rw [tabF_len]; exact hk
  have hg := tabF_get n v k hk
  rw [Tbl.getD hx] at hg
  rw [List.take_succ_eq_append_getElem hx, hg, List.append_assoc]; rfl
end Go.Proofs.YtpdgpgbgakinlaaGreat

namespace Go.Proofs.YtpdgpgbgakinlaaGreat
set_option maxRecDepth 100000
set_option linter.unusedVariables false
set_option linter.unusedSimpArgs false
open Go.RowKit
def plc (x : Int) : Int := if x < 0 then -x - 1 else x - 1
def sgn (x : Int) : Int := if x < 0 then -1 else 1
theorem l16Place_any (x : Int) (w : World) (h1 : -1000 ≤ x) (h2 : x ≤ 1000) :
    Calls Tryz.prog 139 #[.int .i64 x] w fun e w' => e = .returned (.int .i64 (plc x)) ∧ w' = w := by
  by_cases h : x < 0
  · have HE := Lib.hid (show plc x = -x - 1 from if_pos h)
    go_enter Tryz.func139, Tryz.ntmps139
    go_wp2
    go_ret
    exact ⟨ret_int HE.out.symm, rfl⟩
  · have HE := Lib.hid (show plc x = x - 1 from if_neg h)
    go_enter Tryz.func139, Tryz.ntmps139
    go_wp2
    go_ret
    exact ⟨ret_int HE.out.symm, rfl⟩
theorem signOf_any (x : Int) (w : World) :
    Calls Tryz.prog 135 #[.int .i64 x] w fun e w' => e = .returned (.int .i64 (sgn x)) ∧ w' = w := by
  by_cases h : x < 0
  · have HE := Lib.hid (show sgn x = -1 from if_pos h)
    go_enter Tryz.func135, Tryz.ntmps135
    go_wp2
    go_ret
    exact ⟨ret_int HE.out.symm, rfl⟩
  · have HE := Lib.hid (show sgn x = 1 from if_neg h)
    go_enter Tryz.func135, Tryz.ntmps135
    go_wp2
    go_ret
    exact ⟨ret_int HE.out.symm, rfl⟩
theorem placeOf_any (x : Int) (w : World) (h1 : -1000 ≤ x) (h2 : x ≤ 1000) :
    Calls Tryz.prog 91 #[.int .i64 x] w fun e w' => e = .returned (.int .i64 (plc x)) ∧ w' = w := by
  have hp : plc x = x * sgn x - 1 := by unfold plc sgn; split <;> omega
  have hb : -1000 ≤ x * sgn x ∧ x * sgn x ≤ 1000 := by unfold sgn; split <;> omega
  have HP := Lib.hid hp; clear hp
  go_enter Tryz.func91, Tryz.ntmps91
  go_wp2_with fail
  refine (signOf_any _ _).mono ?_
  rintro e w' ⟨rfl, hw⟩
  subst hw
  go_wp2
  go_ret
  exact ⟨ret_int HP.out.symm, rfl⟩
end Go.Proofs.YtpdgpgbgakinlaaGreat

namespace Go.Proofs.YtpdgpgbgakinlaaGreat
set_option linter.unusedVariables false
set_option linter.unusedSimpArgs false
theorem inj_surj (N : Nat) : ∀ (f : Nat → Nat), (∀ i, i < N → f i < N) → (∀ i j, i < N → j < N → f i = f j → i = j) → ∀ j, j < N → ∃ i, i < N ∧ f i = j := by
  induction N with
  | zero => intro f _ _ j hj; omega
  | succ N ih =>
    intro f hlt hinj j hj
    by_cases hm : f N = j
    · exact ⟨N, by omega, hm⟩
    · have hne : ∀ i, i < N → f i ≠ f N := fun i hi e => by have := hinj i N (by omega) (by omega) e; omega
      have hNlt := hlt N (by omega)
      obtain ⟨F, hF⟩ : ∃ F : Nat → Nat, ∀ i, F i = if f i = N then f N else f i := ⟨_, fun _ => rfl⟩
      have h1 : ∀ i, i < N → F i < N := by
        intro i hi
        have a := hlt i (by omega)
        have b := hne i hi
        rw [hF]
        by_cases e : f i = N
        · rw [if_pos e]; omega
        · rw [if_neg e]; omega
      have h2 : ∀ i k, i < N → k < N → F i = F k → i = k := by
        intro i k hi hk e
        rw [hF, hF] at e
        have b1 := hne i hi
        have b2 := hne k hk
        by_cases e1 : f i = N
        · by_cases e2 : f k = N
          · exact hinj i k (by omega) (by omega) (by omega)
          · rw [if_pos e1, if_neg e2] at e; omega
        · by_cases e2 : f k = N
          · rw [if_neg e1, if_pos e2] at e; omega
          · rw [if_neg e1, if_neg e2] at e; exact hinj i k (by omega) (by omega) e
      by_cases hjN : j = N
      · subst hjN
        obtain ⟨i, hi, e⟩ := ih F h1 h2 (f j) (by omega)
        rw [hF] at e
        by_cases e1 : f i = j
        · exact ⟨i, by omega, e1⟩
        · rw [if_neg e1] at e; exact absurd e (hne i hi)
      · obtain ⟨i, hi, e⟩ := ih F h1 h2 j (by omega)
        rw [hF] at e
        by_cases e1 : f i = N
        · rw [if_pos e1] at e; exact absurd e hm
        · rw [if_neg e1] at e; exact ⟨i, by omega, e⟩
theorem pair_div {n x y : Nat} (hn : 1 ≤ n) (hy : y < n) : (x * n + y) / n = x := by
  rw [Nat.mul_comm, Nat.mul_add_div (by omega), Nat.div_eq_of_lt hy, Nat.add_zero]
theorem pair_mod {n x y : Nat} (hy : y < n) : (x * n + y) % n = y := by
  rw [Nat.mul_comm, Nat.mul_add_mod, Nat.mod_eq_of_lt hy]
theorem pair_lt {n x y : Nat} (hx : x < n) (hy : y < n) : x * n + y < n * n := by
  have : (x + 1) * n ≤ n * n := Nat.mul_le_mul_right n hx
  have e : (x + 1) * n = x * n + n := by rw [Nat.add_mul]; simp
  omega
def prN (n : Nat) (f g : List (List Int)) (u v : Nat) : Nat := ((List.range (n * n)).find? fun p => decide (tv f (p / n) (p % n) = u) && decide (tv g (p / n) (p % n) = v)).getD 0
theorem coll_inj {n : Nat} {f g : List (List Int)} (hc : collOk n f g = true) {p q : Nat} (hp : p < n * n) (hq : q < n * n) (h1 : tv f (p / n) (p % n) = tv f (q / n) (q % n)) (h2 : tv g (p / n) (p % n) = tv g (q / n) (q % n)) : p = q := by
  have := allN_get (allN_get hc hp) hq
  unfold collAt at this
  by_cases e : p = q
  · exact e
  · simp [e, h1, h2] at this
theorem prN_eq {n : Nat} {f g : List (List Int)} (hn : 1 ≤ n) (hc : collOk n f g = true) {x y u v : Nat} (hx : x < n) (hy : y < n) (h1 : tv f x y = u) (h2 : tv g x y = v) : prN n f g u v = x * n + y := by
  unfold prN
  have hlt := pair_lt hx hy
  have hP : (fun p => decide (tv f (p / n) (p % n) = u) && decide (tv g (p / n) (p % n) = v)) (x * n + y) = true := by
    show (decide (tv f ((x * n + y) / n) ((x * n + y) % n) = u) && decide (tv g ((x * n + y) / n) ((x * n + y) % n) = v)) = true
    rw [pair_div hn hy, pair_mod hy]; simp [h1, h2]
  cases hq : (List.range (n * n)).find? (fun p => decide (tv f (p / n) (p % n) = u) && decide (tv g (p / n) (p % n) = v)) with
  | none => rw [List.find?_eq_none] at hq; exact absurd hP (hq _ (List.mem_range.2 hlt))
  | some q =>
    have h3 := List.find?_some hq
    have h4 := List.mem_range.1 (List.mem_of_find?_eq_some hq)
    rw [Bool.and_eq_true, decide_eq_true_iff, decide_eq_true_iff] at h3
    show q = _
    refine coll_inj hc h4 hlt ?_ ?_
    · rw [pair_div hn hy, pair_mod hy, h1]; exact h3.1
    · rw [pair_div hn hy, pair_mod hy, h2]; exact h3.2
theorem pr_ex {n : Nat} {f g : List (List Int)} (hn : 1 ≤ n) (hf : Sq n f) (hg : Sq n g) (hc : collOk n f g = true) {u v : Nat} (hu : u < n) (hv : v < n) : ∃ x y, x < n ∧ y < n ∧ tv f x y = u ∧ tv g x y = v := by
  obtain ⟨p, hp, e⟩ := inj_surj (n * n) (fun p => tv f (p / n) (p % n) * n + tv g (p / n) (p % n))
    (fun p hp => pair_lt (hf.lt (div_lt_sq hp) (Nat.mod_lt _ hn)) (hg.lt (div_lt_sq hp) (Nat.mod_lt _ hn)))
    (fun p q hp hq e => by
      have bp := hg.lt (div_lt_sq hp) (Nat.mod_lt p hn)
      have bq := hg.lt (div_lt_sq hq) (Nat.mod_lt q hn)
      have e1 := congrArg (· / n) e
      have e2 := congrArg (· % n) e
      simp only [pair_div hn bp, pair_div hn bq, pair_mod bp, pair_mod bq] at e1 e2
      exact coll_inj hc hp hq e1 e2)
    (u * n + v) (pair_lt hu hv)
  have bp := hg.lt (div_lt_sq hp) (Nat.mod_lt p hn)
  have e1 := congrArg (· / n) e
  have e2 := congrArg (· % n) e
  simp only [pair_div hn bp, pair_mod bp, pair_div hn hv, pair_mod hv] at e1 e2
  exact ⟨p / n, p % n, div_lt_sq hp, Nat.mod_lt _ hn, e1, e2⟩
def bfT (n : Nat) (f g : List (List Int)) : List (List Int) := tabF n fun u v => ((prN n f g u v / n : Nat) : Int)
def bgT (n : Nat) (f g : List (List Int)) : List (List Int) := tabF n fun u v => ((prN n f g u v % n : Nat) : Int)
theorem tv_tabF (n : Nat) (V : Nat → Nat → Int) {x y : Nat} (hx : x < n) (hy : y < n) : ((tabF n V).getD x []).getD y 0 = V x y := by
  rw [tabF_get n V x hx]
  simp [List.getD_eq_getElem?_getD, List.getElem?_map, hy]
theorem Sq.tab {n : Nat} {V : Nat → Nat → Nat} (h : ∀ x y, x < n → y < n → V x y < n) : Sq n (tabF n fun x y => ((V x y : Nat) : Int)) := by
  refine ⟨tabF_len _ _, fun x hx => ⟨by rw [tabF_get _ _ x hx]; simp, fun y hy => ?_⟩⟩
  unfold tv
  rw [tv_tabF n _ hx hy]
  simp [h x y hx hy]
theorem tv_tab {n : Nat} {V : Nat → Nat → Nat} {x y : Nat} (hx : x < n) (hy : y < n) : tv (tabF n fun x y => ((V x y : Nat) : Int)) x y = V x y := by
  unfold tv; rw [tv_tabF n _ hx hy]; simp
theorem prN_lt {n : Nat} {f g : List (List Int)} (hn : 1 ≤ n) (hf : Sq n f) (hg : Sq n g) (hc : collOk n f g = true) {u v : Nat} (hu : u < n) (hv : v < n) : prN n f g u v < n * n := by
  obtain ⟨x, y, hx, hy, h1, h2⟩ := pr_ex hn hf hg hc hu hv
  rw [prN_eq hn hc hx hy h1 h2]; exact pair_lt hx hy
theorem bf_sq {n : Nat} {f g : List (List Int)} (hn : 1 ≤ n) (hf : Sq n f) (hg : Sq n g) (hc : collOk n f g = true) : Sq n (bfT n f g) := Sq.tab fun u v hu hv => div_lt_sq (prN_lt hn hf hg hc hu hv)
theorem bg_sq {n : Nat} {f g : List (List Int)} (hn : 1 ≤ n) : Sq n (bgT n f g) := Sq.tab fun u v hu hv => Nat.mod_lt _ hn
theorem bf_tv {n : Nat} {f g : List (List Int)} (hn : 1 ≤ n) (hc : collOk n f g = true) {x y u v : Nat} (hx : x < n) (hy : y < n) (hu : u < n) (hv : v < n) (h1 : tv f x y = u) (h2 : tv g x y = v) : tv (bfT n f g) u v = x := by
  unfold bfT; rw [tv_tab hu hv, prN_eq hn hc hx hy h1 h2, pair_div hn hy]
theorem bg_tv {n : Nat} {f g : List (List Int)} (hn : 1 ≤ n) (hc : collOk n f g = true) {x y u v : Nat} (hx : x < n) (hy : y < n) (hu : u < n) (hv : v < n) (h1 : tv f x y = u) (h2 : tv g x y = v) : tv (bgT n f g) u v = y := by
  unfold bgT; rw [tv_tab hu hv, prN_eq hn hc hx hy h1 h2, pair_mod hy]
theorem isSol_coll {f g : List (List Int)} (h : isSol f g = true) : collOk f.length f g = true := by
  unfold isSol at h; rw [Bool.and_eq_true, Bool.and_eq_true] at h; exact h.2.1
def stepL (n : Nat) (f g : List (List Int)) (x : Int) (l : List Int) : List Int := if 0 < x then doF f g (plc x).toNat l else doF (bfT n f g) (bgT n f g) (plc x).toNat l
def actL (n : Nat) (f g : List (List Int)) (xs : List Int) (l : List Int) : List Int := xs.foldl (fun l x => stepL n f g x l) l
theorem stepL_len (n : Nat) (f g : List (List Int)) (x : Int) (l : List Int) : (stepL n f g x l).length = l.length := by
  unfold stepL; split <;> exact doF_len _ _ _ _
theorem actL_take (n : Nat) (f g : List (List Int)) (xs : List Int) (l : List Int) (k : Nat) (h : k < xs.length) : actL n f g (xs.take (k + 1)) l = stepL n f g xs[k] (actL n f g (xs.take k) l) := by
  unfold actL; rw [List.take_succ_eq_append_getElem h, List.foldl_append]; rfl
theorem actL_len (n : Nat) (f g : List (List Int)) (xs : List Int) (l : List Int) : (actL n f g xs l).length = l.length := by
  unfold actL
  induction xs generalizing l with
  | nil => rfl
  | cons x r ih => rw [List.foldl_cons, ih, stepL_len]
theorem Less.step {n : Nat} {f g : List (List Int)} {l : List Int} (hn : 1 ≤ n) (hf : Sq n f) (hg : Sq n g) (hc : collOk n f g = true) (h : Less n l) (x : Int) (hx : (plc x).toNat + 1 < l.length) : Less n (stepL n f g x l) := by
  unfold stepL
  split
  · exact h.do_ hf hg _ hx
  · exact h.do_ (bf_sq hn hf hg hc) (bg_sq hn) _ hx
theorem Less.act {n : Nat} {f g : List (List Int)} {l : List Int} (hn : 1 ≤ n) (hf : Sq n f) (hg : Sq n g) (hc : collOk n f g = true) (h : Less n l) (xs : List Int) (hx : ∀ x ∈ xs, (plc x).toNat + 1 < l.length) : Less n (actL n f g xs l) := by
  unfold actL
  induction xs generalizing l with
  | nil => exact h
  | cons x r ih =>
    rw [List.foldl_cons]
    exact ih (h.step hn hf hg hc x (hx x (by simp))) (fun y hy => by rw [stepL_len]; exact hx y (by simp [hy]))
end Go.Proofs.YtpdgpgbgakinlaaGreat

namespace Go.Proofs.YtpdgpgbgakinlaaGreat
set_option linter.unusedVariables false
set_option linter.unusedSimpArgs false
def digL (n k N : Nat) : List Int := (List.range k).map fun i => ((N / n ^ (k - 1 - i) % n : Nat) : Int)
def digP (n k N j : Nat) : List Int := (List.range k).map fun i => if k ≤ i + j then ((N / n ^ (k - 1 - i) % n : Nat) : Int) else 0
theorem digL_len (n k N : Nat) : (digL n k N).length = k := by simp [digL]
theorem digP_zero (n k N : Nat) : digP n k N 0 = List.replicate k 0 := by
  apply List.ext_getElem
  · simp [digP]
  · intro i h1 h2
    have hi : i < k := by simpa [digP] using h1
    simp [digP]; omega
theorem digP_full (n k N : Nat) : digP n k N k = digL n k N := by
  unfold digP digL
  apply List.map_congr_left
  intro i hi
  rw [if_pos (by omega)]
theorem digP_step (n k N j : Nat) (hj : j < k) : (digP n k N j).set (k - 1 - j) ((N / n ^ j % n : Nat) : Int) = digP n k N (j + 1) := by
  apply List.ext_getElem
  · simp [digP]
  · intro i h1 h2
    have hi : i < k := by simpa [digP] using h2
    rw [List.getElem_set]
    by_cases e : k - 1 - j = i
    · rw [if_pos e]
      simp only [digP, List.getElem_map, List.getElem_range]
      rw [if_pos (by omega)]
      have : k - 1 - i = j := by omega
      rw [this]
    · rw [if_neg e]
      simp only [digP, List.getElem_map, List.getElem_range]
      by_cases e2 : k ≤ i + j
      · rw [if_pos e2, if_pos (by omega)]
      · rw [if_neg e2, if_neg (by omega)]
theorem digL_less (n k N : Nat) (hn : 1 ≤ n) : Less n (digL n k N) := by
  intro i hi
  have hi' : i < k := by rw [digL_len] at hi; exact hi
  refine ⟨N / n ^ (k - 1 - i) % n, Nat.mod_lt _ hn, ?_⟩
  rw [List.getD_eq_getElem?_getD, List.getElem?_eq_getElem hi]
  simp [digL]
theorem div_pow_succ (n j N : Nat) : N / n ^ j / n = N / n ^ (j + 1) := by rw [Nat.div_div_eq_div_mul, Nat.pow_succ]
def fltL (n : Nat) (P : List Int → Bool) : List Int := match (List.range (n * n * n)).find? (fun N => P (digL n 3 N)) with | some N => digL n 3 N | none => []
theorem fltL_hit {n N : Nat} {P : List Int → Bool} (hN : N < n * n * n) (h1 : ∀ M, M < N → P (digL n 3 M) = false) (h2 : P (digL n 3 N) = true) : fltL n P = digL n 3 N := by
  have : (List.range (n * n * n)).find? (fun N => P (digL n 3 N)) = some N := by
    rw [List.find?_range_eq_some]
    exact ⟨h2, List.mem_range.2 hN, fun j hj => by simp [h1 j hj]⟩
  unfold fltL; rw [this]
theorem fltL_miss {n : Nat} {P : List Int → Bool} (h1 : ∀ M, M < n * n * n → P (digL n 3 M) = false) : fltL n P = [] := by
  have : (List.range (n * n * n)).find? (fun N => P (digL n 3 N)) = none := by
    rw [List.find?_eq_none]
    intro N hN
    rw [h1 N (List.mem_range.1 hN)]; simp
  unfold fltL; rw [this]
end Go.Proofs.YtpdgpgbgakinlaaGreat
