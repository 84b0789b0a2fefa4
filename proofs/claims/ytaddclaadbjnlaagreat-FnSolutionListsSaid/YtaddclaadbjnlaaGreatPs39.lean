/-
  Walks and plain laws of this seat, some texts in one.
  No condition but bounds on lengths.
-/
import Derived.Test.YtaddclaadbjnlaaGreatPs6
import Derived.Test.YtaddclaadbjnlaaGreatPs29
import Derived.Test.YtaddclaadbjnlaaGreatPs3
import Derived.Test.YtaddclaadbjnlaaGreatPs31
import Derived.Test.YtaddclaadbjnlaaGreatPs14
import Derived.Test.YtaddclaadbjnlaaGreatPs34
import Derived.Test.YtaddclaadbjnlaaGreatPs33
import Derived.Test.YtaddclaadbjnlaaGreatPs12
import Derived.Test.YtaddclaadbjnlaaGreatPs36
import Derived.Test.YtaddclaadbjnlaaGreatPs13
import Derived.Test.YtaddclaadbjnlaaGreatPs37
import Derived.Test.YtaddclaadbjnlaaGreatPs2
import Derived.Deep.AppendSrc
import Derived.Test.YtaddclaadbjnlaaGreatPs5
import Derived.Deep.RegionLaw
namespace Go.Proofs.YtaddclaadbjnlaaGreat
set_option maxRecDepth 100000
set_option linter.unusedVariables false
set_option linter.unusedSimpArgs false
open Go.RowKit
theorem info_Cy : (Tryz.prog.info? 86).map (fun i => (i.zero, i.size, i.bytes)) = some (some (.agg #[.slice none 0 0]), 1, 24) := by kernel_rfl
theorem und_Cy : Tryz.prog.underlying 48 = some (.slice 86) := by kernel_rfl
structure OwnCy (w : World) (lo : Nat) (a : Option Addr) (n c : Nat) (us : List TV) (ts : List (List (List Int))) : Prop where
  len : n = ts.length
  ulen : us.length = n
  hdr : w.ownsRow lo 86 1 (.slice a n c) n (us.map slT)
  tab : ∀ i, i < n → OwnV w lo (us.getD i tvO) (ts.getD i [])
  ap : ∀ i, i < n → ∀ g, a = some ⟨g, 0, none⟩ → ¬ TvS (us.getD i tvO) g
  pw : ∀ i j, i < n → j < n → i ≠ j → ∀ g, TvS (us.getD i tvO) g → ¬ TvS (us.getD j tvO) g
section
variable {w w' : World} {lo : Nat} {a : Option Addr} {n c : Nat} {us : List TV} {ts : List (List (List Int))}
theorem OwnCy.nil (w : World) (lo : Nat) : OwnCy w lo none 0 0 [] [] :=
  ⟨rfl, rfl, World.ownsRow_nil w lo _ 1, fun i h => absurd h (by omega), fun i h => absurd h (by omega), fun i j h => absurd h (by omega)⟩
theorem OwnCy.block (h : OwnCy w lo a n c us ts) : (a = none ∧ n = 0 ∧ c = 0) ∨ ∃ g cur, a = some ⟨g, 0, none⟩ ∧ lo ≤ g ∧ Loc w g cur 86 ∧ n ≤ c ∧ c ≤ maxLen ∧ cur.size = c ∧ cur.toList.take n = us.map slT := by
  rcases h.hdr.2 with ⟨h1, h2⟩ | ⟨g, cap, cur, h1, h2, h3, h4, h5, h6, h7⟩
  · cases h1; exact .inl ⟨rfl, rfl, rfl⟩
  · cases h1; exact .inr ⟨g, cur, rfl, h2, h3, h4, h5, by simpa using h6, by simpa using h7⟩
theorem ownsRowCy_mk {w : World} {lo g n c : Nat} {us : List TV} {cur : Array Value} (hn : us.length = n) (h1 : lo ≤ g) (h2 : Loc w g cur 86) (h3 : n ≤ c) (h4 : c ≤ maxLen) (h5 : cur.size = c) (h6 : cur.toList.take n = us.map slT) :
    w.ownsRow lo 86 1 (.slice (some ⟨g, 0, none⟩) n c) n (us.map slT) :=
  ⟨by simp [hn], .inr ⟨g, c, cur, rfl, h1, h2, h3, h4, by simpa using h5, by simpa using h6⟩⟩
theorem OwnCy.high (h : OwnCy w lo a n c us ts) : ∀ g, a = some ⟨g, 0, none⟩ → g < w.heap.size := by
  intro g hg
  rcases h.block with ⟨h1, _⟩ | ⟨g', cur, h1, h2, h3, _⟩
  · rw [h1] at hg; cases hg
  · rw [h1] at hg; cases hg; exact h3.lt
theorem OwnCy.low (h : OwnCy w lo a n c us ts) : ∀ g, a = some ⟨g, 0, none⟩ → lo ≤ g := by
  intro g hg
  rcases h.block with ⟨h1, _⟩ | ⟨g', cur, h1, h2, h3, _⟩
  · rw [h1] at hg; cases hg
  · rw [h1] at hg; cases hg; exact h2
theorem OwnCy.uLo (h : OwnCy w lo a n c us ts) : ∀ g, TTS a n us g → lo ≤ g := fun g hg => by
  rcases hg with hg | ⟨i, hi, hg⟩
  · exact h.low g hg
  · exact (h.tab i hi).uLo g hg
theorem OwnCy.uHi (h : OwnCy w lo a n c us ts) : ∀ g, TTS a n us g → g < w.heap.size := fun g hg => by
  rcases hg with hg | ⟨i, hi, hg⟩
  · exact h.high g hg
  · exact (h.tab i hi).uHi g hg
theorem OwnCy.keep (h : OwnCy w lo a n c us ts) (hk : ∀ g, TTS a n us g → g < w.heap.size → w'.heap[g]? = w.heap[g]?) : OwnCy w' lo a n c us ts := by
  refine ⟨h.len, h.ulen, ?_, fun i hi => OwnT.keep (h.tab i hi) fun g hg hlt => hk g (.inr ⟨i, hi, hg⟩) hlt, h.ap, h.pw⟩
  rcases h.block with ⟨h1, h2, h3⟩ | ⟨g, cur, h1, h2, h3, h4, h5, h6, h7⟩
  · subst h1 h2 h3
    have : us = [] := List.eq_nil_of_length_eq_zero h.ulen
    subst this; exact World.ownsRow_nil _ _ _ _
  · subst h1
    exact ownsRowCy_mk h.ulen h2 ((hk g (.inl rfl) h3.lt).trans h3) h4 h5 h6 h7
theorem OwnCy.below (h : OwnCy w lo a n c us ts) (hb : Below w.heap.size w w') : OwnCy w' lo a n c us ts := h.keep fun g _ hlt => hb.block g hlt
theorem OwnCy.alloc (h : OwnCy w lo a n c us ts) (o : Obj) : OwnCy (w.alloc o) lo a n c us ts := h.below ((Below.refl _ _).alloc (Nat.le_refl _) o)
theorem OwnCy.drewN (h : OwnCy w lo a n c us ts) (k : Nat) : OwnCy (w.drewN k) lo a n c us ts := h.keep fun _ _ _ => rfl
theorem OwnCy.mono {lo' : Nat} (h : OwnCy w lo a n c us ts) (hl : lo' ≤ lo) : OwnCy w lo' a n c us ts := by
  refine ⟨h.len, h.ulen, ?_, fun i hi => (h.tab i hi).mono hl, h.ap, h.pw⟩
  rcases h.block with ⟨h1, h2, h3⟩ | ⟨g, cur, h1, h2, h3, h4, h5, h6, h7⟩
  · subst h1 h2 h3
    have : us = [] := List.eq_nil_of_length_eq_zero h.ulen
    subst this; exact World.ownsRow_nil _ _ _ _
  · subst h1; exact ownsRowCy_mk h.ulen (Nat.le_trans hl h2) h3 h4 h5 h6 h7
theorem OwnCy.setlo (h : OwnCy w lo a n c us ts) {p : Addr} (hp : p.block < lo) (u : Value) : OwnCy (w.setCell p u) lo a n c us ts :=
  h.keep fun g hg _ => Below.heap_setCell _ _ _ _ (by have := h.uLo g hg; omega)
theorem OwnCy.marked (h : OwnCy w lo a n c us ts) {S : Nat → Prop} (hm : Marked S w w') (hS : ∀ g, TTS a n us g → ¬ S g) : OwnCy w' lo a n c us ts := h.keep fun g hg hlt => hm.block g hlt (hS g hg)
theorem OwnCy.cap (h : OwnCy w lo a n c us ts) : n ≤ c ∧ c ≤ 9223372036854775807 := by
  rcases h.block with ⟨_, h1, h2⟩ | ⟨g', cur, h1, h2, h3, h4, h5, _⟩
  · omega
  · unfold maxLen at h5; omega
theorem OwnCy.cells (h : OwnCy w lo a n c us ts) (hn : 0 < n) : ∃ g, a = some ⟨g, 0, none⟩ ∧ g < w.heap.size ∧ (∀ i, i < n → w.cell? ⟨g, i, none⟩ = some (slT (us.getD i tvO))) ∧ ∀ i, w.frozen? ⟨g, i, none⟩ = false := by
  rcases h.block with ⟨h1, h2, h3⟩ | ⟨g, cur, h1, h2, h3, h4, h5, h6, h7⟩
  · omega
  · refine ⟨g, h1, h3.lt, fun i hi => h3.cell i ?_, fun i => h3.free i⟩
    have hx : (cur.toList.take n)[i]? = (us.map slT)[i]? := by rw [h7]
    have hxi : i < us.length := by have := h.ulen; omega
    rw [List.getElem?_take, if_pos hi] at hx
    simp [List.getElem?_eq_getElem hxi] at hx
    simp [List.getD_eq_getElem?_getD, List.getElem?_eq_getElem hxi, hx]
theorem OwnCy.ownBlk (h : OwnCy w lo a n c us ts) {g : Nat} (e : (Value.slice a n c).ownBlock = some g) : a = some ⟨g, 0, none⟩ := by
  rcases h.block with ⟨r1, _⟩ | ⟨g2, cur, r1, _⟩
  · subst r1; simp [Value.ownBlock] at e
  · subst r1; simp [Value.ownBlock] at e; subst e; rfl
theorem OwnCy.snoc {o : Obj} {g cap : Nat} {u : TV} {t : List (List Int)} (h : OwnCy w lo a n c us ts) (hv : OwnV w lo u t) (h1 : ∀ q, TvS u q → ¬ TTS a n us q)
    (ho : w'.ownsRow lo 86 1 (.slice (some ⟨g, 0, none⟩) (n + 1) cap) (n + 1) (us.map slT ++ [slT u]))
    (hg : w.grownBy w' (Value.slice a n c).ownBlock) (hat : (Value.slice a n c).ownBlock = some g ∨ w.heap.size ≤ g) : OwnCy w' lo (some ⟨g, 0, none⟩) (n + 1) cap (us ++ [u]) (ts ++ [t]) := by
  have hl := h.len
  have hul := h.ulen
  have gl : ∀ i, i < n → (us ++ [u]).getD i tvO = us.getD i tvO := fun i hi => by simp [List.getD_eq_getElem?_getD, List.getElem?_append_left (show i < us.length by omega)]
  have gn : (us ++ [u]).getD n tvO = u := by rw [← hul]; simp [List.getD_eq_getElem?_getD]
  have xl : ∀ i, i < n → (ts ++ [t]).getD i [] = ts.getD i [] := fun i hi => by simp [List.getD_eq_getElem?_getD, List.getElem?_append_left (show i < ts.length by omega)]
  have xn : (ts ++ [t]).getD n [] = t := by rw [hl]; simp [List.getD_eq_getElem?_getD]
  have keepR : ∀ i, i < n → OwnV w' lo (us.getD i tvO) (ts.getD i []) := fun i hi => OwnT.keep (h.tab i hi) fun q hq hlt => hg.block q hlt fun e => h.ap i hi q (h.ownBlk e.symm) hq
  have keepV : OwnV w' lo u t := OwnT.keep hv fun q hq hlt => hg.block q hlt fun e => h1 q hq (.inl (h.ownBlk e.symm))
  refine ⟨by simp [hl], by simp [hul], by simpa using ho, fun i hi => ?_, fun i hi q hq hs => ?_, fun i j hi hj hij q h3 h4 => ?_⟩
  · by_cases e : i < n
    · rw [gl i e, xl i e]; exact keepR i e
    · obtain rfl : i = n := by omega
      rw [gn, xn]; exact keepV
  · cases hq
    by_cases e : i < n
    · rw [gl i e] at hs
      rcases hat with hat | hat
      · exact h.ap i e g (h.ownBlk hat) hs
      · have := (h.tab i e).uHi g hs; omega
    · obtain rfl : i = n := by omega
      rw [gn] at hs
      rcases hat with hat | hat
      · exact h1 g hs (.inl (h.ownBlk hat))
      · have := OwnT.uHi hv g hs; omega
  · by_cases e : i < n
    · rw [gl i e] at h3
      by_cases e' : j < n
      · rw [gl j e'] at h4; exact h.pw i j e e' hij q h3 h4
      · obtain rfl : j = n := by omega
        rw [gn] at h4; exact h1 q h4 (.inr ⟨i, e, h3⟩)
    · obtain rfl : i = n := by omega
      rw [gn] at h3
      have e' : j < i := by omega
      rw [gl j e'] at h4; exact h1 q h3 (.inr ⟨j, e', h4⟩)
end
theorem wp_appCy {o : Oper} {a : Act} {K : Act → World → Prop} {Q : Exit → Act → World → Prop} {w : World} {s x : Operand}
    (ho : o.op = .call { callee := .builtin .append, args := #[s, x], argTypes := #[48, 48] }) {lo : Nat} {ad : Option Addr} {n c : Nat} {us : List TV} {ts : List (List (List Int))} (hown : OwnCy w lo ad n c us ts) (hs : a.eval s = .slice ad n c)
    {va : Option Addr} {vn vc : Nat} {vv : List SV} {t : List (List Int)} {ty : TypeId} (hv : OwnT w lo va vn vc vv t) (h1 : ∀ q, TblS va vn vv q → ¬ TTS ad n us q) (hx : a.eval x = .slice (some ⟨w.heap.size, 0, none⟩) 1 1) (hlen : n + 1 ≤ 1000000000000) (hlo : lo ≤ w.heap.size)
    (h : ∀ g c' w', OwnCy w' lo (some ⟨g, 0, none⟩) (n + 1) c' (us ++ [((va, vn, vc), vv)]) (ts ++ [t]) → w.grownBy w' (Value.slice ad n c).ownBlock → ((Value.slice ad n c).ownBlock = some g ∨ w.heap.size ≤ g) → Below lo w w' → K (a.put o.dst (.slice (some ⟨g, 0, none⟩) (n + 1) c')) w') :
    Oper.wp Tryz.prog o a (w.alloc (.cells #[.slice va vn vc] ty)) K Q := by
  obtain ⟨i0, hi, hz0, hz1, hz2⟩ := info_parts info_Cy
  refine wp_append_lies _ s x 48 ho lo 86 i0 (.agg #[.slice none 0 0]) 1 24 und_Cy hi hz0 hz1 hz2 rfl (by decide) _ n (us.map slT) hs (hown.hdr.alloc _) ⟨w.heap.size, 0, none⟩ 1 1 [.slice va vn vc] hx rfl (cell_one_new _ _ _) ?_ (by omega) ?_ ?_ ?_ (w.heap.size + 1) (by simp) ?_
  · intro u hu; simp at hu; subst hu; rfl
  · unfold maxLen; omega
  · omega
  · simp; omega
  · intro g cap w' ho' hg hat hlt
    have hg' : w.grownBy w' (Value.slice ad n c).ownBlock := by
      have h1 := World.grownBy_alloc w (.cells #[.slice va vn vc] ty) (Value.slice ad n c).ownBlock
      exact ⟨hg.os.trans h1.os, hg.tape.trans h1.tape, hg.output.trans h1.output, Nat.le_trans h1.size hg.size, fun k hk hn => (hg.block k (Nat.lt_of_lt_of_le hk h1.size) hn).trans (h1.block k hk hn)⟩
    have hat' : (Value.slice ad n c).ownBlock = some g ∨ w.heap.size ≤ g := by
      rcases hat with hat | hat
      · exact .inl hat
      · exact .inr (by omega)
    exact h g cap w' (hown.snoc (o := .cells #[] ty) (u := ((va, vn, vc), vv)) hv h1 ho' hg' hat') hg' hat' ((Below.refl _ _).grown hg' hlo (fun k hk => (World.ownsRow.lt hown.hdr k hk).1))
theorem appCy {ops : Array Oper} {rest : List Oper} {o : Oper} {a : Act} {Q : Exit → Act → World → Prop} {w : World} (hgd : o.guard = none) {s x : Operand}
    (ho : o.op = .call { callee := .builtin .append, args := #[s, x], argTypes := #[48, 48] }) {lo : Nat} {ad : Option Addr} {n c : Nat} {us : List TV} {ts : List (List (List Int))} (hown : OwnCy w lo ad n c us ts) (hs : a.eval s = .slice ad n c)
    {va : Option Addr} {vn vc : Nat} {vv : List SV} {t : List (List Int)} {ty : TypeId} (hv : OwnT w lo va vn vc vv t) (h1 : ∀ q, TblS va vn vv q → ¬ TTS ad n us q) (hx : a.eval x = .slice (some ⟨w.heap.size, 0, none⟩) 1 1) (hlen : n + 1 ≤ 1000000000000) (hlo : lo ≤ w.heap.size)
    (h : ∀ g c' w', OwnCy w' lo (some ⟨g, 0, none⟩) (n + 1) c' (us ++ [((va, vn, vc), vv)]) (ts ++ [t]) → w.grownBy w' (Value.slice ad n c).ownBlock → ((Value.slice ad n c).ownBlock = some g ∨ w.heap.size ≤ g) → Below lo w w' → wpList Tryz.prog ops Q rest (a.put o.dst (.slice (some ⟨g, 0, none⟩) (n + 1) c')) w') :
    wpList Tryz.prog ops Q (o :: rest) a (w.alloc (.cells #[.slice va vn vc] ty)) :=
  wpList_plain hgd fun _ hK => wp_appCy ho hown hs hv h1 hx hlen hlo fun g c' w' a b c d => hK _ _ (h g c' w' a b c d)
def RetLCy (w : World) (L : List (List (List Int))) (code : Int) (e : Ending) (w' : World) : Prop := ∃ a k c us, e = .returned (.tuple #[.slice a k c, .int .i64 code]) ∧ OwnCy w' w.heap.size a k c us L ∧ Below w.heap.size w w'
theorem OwnCy.tbS {w : World} {lo : Nat} {a : Option Addr} {n c : Nat} {us : List TV} {ts : List (List (List Int))} (h : OwnCy w lo a n c us ts) : TbS w a n ts := by
  refine ⟨h.len, fun i hi => ?_⟩
  obtain ⟨g, h1, h2, h3, _⟩ := h.cells (by omega)
  have hv := h.tab i hi
  exact ⟨g, 0, _, _, _, h1, h2, by rw [Nat.zero_add]; exact h3 i hi, OwnT.tbl hv, by have := OwnT.cap hv; omega⟩
theorem OwnCy.mark {w w' : World} {lo : Nat} {a : Option Addr} {n c : Nat} {us : List TV} {ts : List (List (List Int))} (h : OwnCy w lo a n c us ts) {i : Nat} (hi : i < n) {t : List (List Int)} (hv : OwnV w' lo (us.getD i tvO) t) (hm : Marked (TvS (us.getD i tvO)) w w') : OwnCy w' lo a n c us (ts.set i t) := by
  refine ⟨by rw [List.length_set]; exact h.len, h.ulen, ?_, fun j hj => ?_, h.ap, h.pw⟩
  · rcases h.block with ⟨h1, h2, h3⟩ | ⟨g, cur, h1, h2, h3, h4, h5, h6, h7⟩
    · omega
    · subst h1
      exact ownsRowCy_mk h.ulen h2 ((hm.block g h3.lt (h.ap i hi g rfl)).trans h3) h4 h5 h6 h7
  · rw [getD_set' _ _ _ _ _ (by have := h.len; omega)]
    by_cases e : j = i
    · subst e; rw [if_pos rfl]; exact hv
    · rw [if_neg e]
      exact OwnT.keep (h.tab j hj) fun g hg hlt => hm.block g hlt (fun h1 => h.pw j i hj hi e g hg h1)
theorem RwsOk.full {n : Nat} {o : List (List Int)} (h : RwsOk n o) (hx : ∀ i, i < n → o.getD i [] ≠ []) : RwsP n o := ⟨h.1, fun i hi => (h.2 i hi).resolve_left (hx i hi)⟩
theorem GrTT.from {E : Nat → Prop} {w w1 : World} {lo : Nat} {a : Option Addr} {n : Nat} {us : List TV} {ts : List (List (List Int))} {e : Ending} {w' : World} (h : GrTT E w1 lo a n us ts e w') (hb : Below w.heap.size w w1) : GrTT E w lo a n us ts e w' := by
  obtain ⟨a', n', c', us', h1, h2, h3, h4⟩ := h
  refine ⟨a', n', c', us', h1, h2, (Marked.ofB (S := TTS a n us) hb).then h3 (fun g hg => .inl hg), fun g hg => ?_⟩
  rcases h4 g hg with h | h | h
  · exact .inl h
  · exact .inr (.inl h)
  · exact .inr (.inr (Nat.le_trans hb.size h))
end Go.Proofs.YtaddclaadbjnlaaGreat
namespace Go.Proofs.YtaddclaadbjnlaaGreat
set_option maxRecDepth 100000
set_option linter.unusedVariables false
set_option linter.unusedSimpArgs false
theorem rng_iff {k : Nat} {p : Nat → Bool} : (List.range k).all p = true ↔ ∀ y, y < k → p y = true :=
  ⟨fun h y hy => List.all_eq_true.1 h y (List.mem_range.2 hy), rng_of⟩
theorem cyV_pre {o r : List (List Int)} {x : Nat} (h : x < o.length) (z : Nat) : cyV (o ++ r) x z = cyV o x z := by
  unfold cyV
  rw [show (o ++ r).getD x [] = o.getD x [] by simp [List.getD_eq_getElem?_getD, List.getElem?_append_left h]]
theorem cycR_pre (n : Nat) (o r : List (List Int)) (h : cycR n (o ++ r) = true) : cycR n o = true := by
  unfold cycR at *
  rw [rng_iff] at *
  intro x hx
  have hx' : x < (o ++ r).length := by rw [List.length_append]; omega
  have h1 := h x hx'
  unfold cyX at *
  rw [Bool.and_eq_true] at *
  refine ⟨?_, ?_⟩
  · have h2 := h1.1
    unfold cyS at *
    rw [rng_iff] at *
    intro x' h'
    have := h2 x' h'
    rwa [cyV_pre (by omega), cyV_pre hx] at this
  · have h2 := h1.2
    rw [rng_iff] at *
    intro y hy
    have h3 := h2 y (by rw [List.length_append]; omega)
    unfold cyZ at *
    rw [cyV_pre hx, cyV_pre hy] at h3
    by_cases hu : o.length ≤ (cyV o x y).toNat
    · rw [decide_eq_true hu]; rfl
    · by_cases hv : o.length ≤ (cyV o y x).toNat
      · rw [decide_eq_true hv]; simp
      · rw [decide_eq_false hu, decide_eq_false hv]
        have hu' : ¬ (o ++ r).length ≤ (cyV o x y).toNat := by rw [List.length_append]; omega
        have hv' : ¬ (o ++ r).length ≤ (cyV o y x).toNat := by rw [List.length_append]; omega
        rw [decide_eq_false hu', decide_eq_false hv', Bool.false_or, Bool.false_or] at h3
        rw [Bool.false_or, Bool.false_or]
        unfold cyE at *
        rw [rng_iff] at *
        intro z hz
        have h4 := h3 z hz
        rw [cyV_pre (x := (cyV o x y).toNat) (by omega), cyV_pre (x := (cyV o y x).toNat) (by omega), cyV_pre (x := x) hx, cyV_pre (x := y) hy] at h4
        exact h4
theorem cyS_perm {n : Nat} {t : List (List Int)} (hp : RwsP n t) : permOk (sqrL n t) = (List.range n).all fun x => cyS t x := by
  have hg : ∀ x, x < n → (sqrL n t).getD x 0 = cyV t x x := fun x hx => by simp [sqrL, List.getD_eq_getElem?_getD, List.getElem?_map, hx]
  have hr : ∀ x, x < n → 0 ≤ cyV t x x ∧ cyV t x x < n := fun x hx => by
    obtain ⟨z, hz, hzn⟩ := (hp.2 x hx).at hx
    have : cyV t x x = (z : Int) := hz
    omega
  rw [Bool.eq_iff_iff, rng_iff]
  constructor
  · intro h x hx
    have h1 := permOk_to h
    rw [sqrL_len] at h1
    unfold cyS
    rw [rng_iff]
    intro x' h'
    have : ¬ cyV t x' x' = cyV t x x := fun e => by
      have := h1.2 x' x (by omega) hx (by rw [hg _ (by omega), hg _ hx]; exact e)
      omega
    simp [this]
  · intro h
    refine permTo_ok ?_
    rw [sqrL_len]
    refine ⟨fun i hi => by rw [hg i hi, sqrL_len]; exact hr i hi, fun i j hi hj e => ?_⟩
    rw [hg i hi, hg j hj] at e
    rcases Nat.lt_trichotomy i j with hl | hl | hl
    · have h1 := h j hj
      unfold cyS at h1
      rw [rng_iff] at h1
      have h2 := h1 i hl
      simp [e] at h2
    · exact hl
    · have h1 := h i hi
      unfold cyS at h1
      rw [rng_iff] at h1
      have h2 := h1 j hl
      simp [e] at h2
theorem cycR_full {n : Nat} {t : List (List Int)} (hp : RwsP n t) : cycR n t = isCyc n t := by
  unfold isCyc
  rw [cyS_perm hp]
  have hu : ∀ x y, x < n → y < n → ¬ n ≤ (cyV t x y).toNat := fun x y hx hy => by
    obtain ⟨z, hz, hzn⟩ := (hp.2 x hx).at hy
    have : cyV t x y = (z : Int) := hz
    rw [this, Int.toNat_natCast]; omega
  have hz : ∀ x y, x < n → y < n → cyZ n t x y = cyfY n t x y := fun x y hx hy => by
    unfold cyZ
    rw [hp.1, decide_eq_false (hu x y hx hy), decide_eq_false (hu y x hy hx)]
    rfl
  unfold cycR cyfOk
  rw [hp.1, Bool.eq_iff_iff, Bool.and_eq_true, rng_iff, rng_iff, rng_iff]
  constructor
  · intro h
    refine ⟨fun x hx => ?_, fun x hx => ?_⟩
    · have := h x hx
      unfold cyX at this
      rw [Bool.and_eq_true] at this
      exact this.1
    · have := h x hx
      unfold cyX at this
      rw [Bool.and_eq_true, hp.1, rng_iff] at this
      unfold cyfX
      rw [rng_iff]
      intro y hy
      rw [← hz x y hx hy]; exact this.2 y hy
  · rintro ⟨h1, h2⟩ x hx
    unfold cyX
    rw [Bool.and_eq_true, hp.1, rng_iff]
    refine ⟨h1 x hx, fun y hy => ?_⟩
    have := h2 x hx
    unfold cyfX at this
    rw [rng_iff] at this
    rw [hz x y hx hy]; exact this y hy
theorem allT_rwsP {n : Nat} (h1 : 1 ≤ n) (h4 : n ≤ 4) {t : List (List Int)} (ht : t ∈ allT (prmL n) n []) : RwsP n t := by
  obtain ⟨r, e, hl, hm⟩ := allT_mem _ _ _ ht
  rw [List.nil_append] at e
  subst e
  refine ⟨hl, fun i hi => ?_⟩
  have := hm t[i] (List.getElem_mem (by omega))
  obtain ⟨j, hj, ej⟩ := List.getElem_of_mem this
  have h := prm_isP h1 h4 j hj
  rw [List.getD_eq_getElem?_getD, List.getElem?_eq_getElem hj, Option.getD_some, ej] at h
  rw [List.getD_eq_getElem?_getD, List.getElem?_eq_getElem (by omega), Option.getD_some]
  exact h
end Go.Proofs.YtaddclaadbjnlaaGreat
namespace Go.Proofs.YtaddclaadbjnlaaGreat
set_option maxRecDepth 100000
set_option linter.unusedVariables false
set_option linter.unusedSimpArgs false
open Go.RowKit
theorem cycleRows_fit {N : Nat} (h4 : N ≤ 4) : FitH 66 #[] (cycR N) N :=
  ⟨enters_of Tryz.func66 (by kernel_rfl) rfl, fun w a k c rows h hk hp => cycleRows_any N a k c rows w h hk (by omega) hp⟩
set_option maxHeartbeats 4000000 in
theorem isNondegenerate_any (n : Nat) (a a' : Option Addr) (c c' : Nat) (f g : List (List Int)) (w : World) (h1 : Tbl w a n f) (h2 : Tbl w a' n g) (hf : Sq n f) (hg : Sq n g) (hn : n ≤ 12) :
    Calls Tryz.prog 69 #[sAgg a n c a' n c'] w fun e w' => e = .returned (.bool (ndF f g)) ∧ Below w.heap.size w w' := by
  have hA := Loc.new w rfl #[.slice a n c, .slice a' n c'] 53
  have hB := below_al (Below.refl w.heap.size w) (.cells #[.slice a n c, .slice a' n c'] 53)
  have lA := hA.two
  have hR : ∀ (t : List (List Int)), Sq n t → ∀ x ∈ t, x.length ≤ 1000000 := fun t ht x hx => by
    obtain ⟨i, hi, rfl⟩ := List.getElem_of_mem hx
    have := ht.row (x := i) (by rw [← ht.len]; exact hi)
    rw [List.getD_eq_getElem?_getD, List.getElem?_eq_getElem hi, Option.getD_some] at this
    omega
  have HR1 := Lib.hid (hR f hf)
  have HR2 := Lib.hid (hR _ (trnL_sq hg))
  have HG := Lib.hid hg
  have HN : Hid (ndF f g = (f.all permOk && (trnL n g).all permOk)) := Lib.hid (by unfold ndF; rw [hf.len])
  clear hR hf hg
  rw [HN.out]
  cases hp : f.all permOk with
  | false =>
    have HP := Lib.hid hp; clear hp
    go_enter Tryz.func69, Tryz.ntmps69
    go_wp2_with fail
    refine (permutationRows_any _ _ _ f _ (h1.below hB) (by omega) HR1.out).mono ?_
    rintro e w1 ⟨rfl, hb1⟩
    rw [HP.out]
    go_wp2
    go_ret
    exact ⟨rfl, below_th hB hb1⟩
  | true =>
    have HP := Lib.hid hp; clear hp
    go_enter Tryz.func69, Tryz.ntmps69
    go_wp2_with fail
    refine (permutationRows_any _ _ _ f _ (h1.below hB) (by omega) HR1.out).mono ?_
    rintro e w1 ⟨rfl, hb1⟩
    rw [HP.out]
    have lA1 := (hA.below hb1 hA.lt).two
    have hB1 := below_th hB hb1
    go_wp2_with fail
    refine (transposed_any n _ _ g _ (h2.below hB1) HG.out hn).mono ?_
    rintro e w2 ⟨a2, c2, vs2, rfl, ho2, hb2⟩
    have hB2 := below_th hB1 hb2
    go_wp2_with fail
    refine (permutationRows_any _ _ _ _ _ ho2.tbl (by omega) HR2.out).mono ?_
    rintro e w3 ⟨rfl, hb3⟩
    go_wp2
    go_ret
    exact ⟨ret_bool rfl, below_th hB2 hb3⟩
def ndK (n : Nat) (f g : List (List Int)) (k : Nat) : Bool := allN k fun x => permOk (f.getD x []) && permOk (colL n g x)
theorem ndK_all {n : Nat} {f g : List (List Int)} (hf : Sq n f) : ndF f g = ndK n f g n := by
  unfold ndF ndK
  rw [hf.len, Bool.eq_iff_iff, Bool.and_eq_true, List.all_eq_true, List.all_eq_true]
  constructor
  · rintro ⟨h1, h2⟩
    refine List.all_eq_true.2 fun x hx => ?_
    replace hx := List.mem_range.1 hx
    rw [Bool.and_eq_true]
    refine ⟨h1 _ ?_, h2 _ ?_⟩
    · have := hf.len
      rw [List.getD_eq_getElem?_getD, List.getElem?_eq_getElem (by omega)]; exact List.getElem_mem _
    · rw [trnL_col]; exact List.mem_map.2 ⟨x, List.mem_range.2 hx, rfl⟩
  · intro h
    refine ⟨fun p hp => ?_, fun p hp => ?_⟩
    · obtain ⟨i, hi, rfl⟩ := List.getElem_of_mem hp
      have := allN_get h (k := i) (by rw [← hf.len]; exact hi)
      rw [Bool.and_eq_true, List.getD_eq_getElem?_getD, List.getElem?_eq_getElem hi] at this
      exact this.1
    · rw [trnL_col] at hp
      obtain ⟨x, hx, rfl⟩ := List.mem_map.1 hp
      have := allN_get h (List.mem_range.1 hx)
      rw [Bool.and_eq_true] at this
      exact this.2
set_option maxHeartbeats 4000000 in
theorem l06Plain_any (n : Nat) (a a' : Option Addr) (c c' : Nat) (f g : List (List Int)) (w : World) (h1 : Tbl w a n f) (h2 : Tbl w a' n g) (hf : Sq n f) (hg : Sq n g) (hn1 : 1 ≤ n) (hn : n ≤ 12) :
    Calls Tryz.prog 80 #[sAgg a n c a' n c'] w fun e w' => e = .returned (.bool (ndF f g)) ∧ Below w.heap.size w w' := by
  have hA := Loc.new w rfl #[.slice a n c, .slice a' n c'] 53
  have hB := below_al (Below.refl w.heap.size w) (.cells #[.slice a n c, .slice a' n c'] 53)
  obtain ⟨w0, hw0⟩ : ∃ w0, w.alloc (.cells #[.slice a n c, .slice a' n c'] 53) = w0 := ⟨_, rfl⟩
  rw [hw0] at hA hB
  obtain ⟨bA, hbA⟩ : ∃ b, b = w.heap.size := ⟨_, rfl⟩
  have HG := Lib.hid hg
  have HF := Lib.hid hf
  have HL := Lib.hid h1.len
  have HRG : Hid (rngB 1 12 n = true) := Lib.hid (by unfold rngB; simp; omega)
  rw [ndK_all hf]
  clear hf hg
  go_enter Tryz.func80, Tryz.ntmps80
  go_wp2
  try rw [hw0]
  go_loopw [3] (fun i wr => ∃ k : Nat, k ≤ n ∧ i = .int .i64 k ∧ Below w.heap.size w wr ∧ Below w0.heap.size w0 wr ∧ Hid (ndK n f g k = true)) (fun i _ => n - (intOf i).toNat)
  case atStart => exact ⟨0, Nat.zero_le _, rfl, hB, Below.refl _ _, Lib.hid rfl⟩
  case round =>
    obtain ⟨k, hk, rfl, hq, hq0, HK⟩ := hrel
    have lA := (hA.below hq0 hA.lt).two
    by_cases hlt : k < n
    · obtain ⟨b1, o1, ai, ni, ci, e1, ck, rk, lk⟩ := (h1.below hq).at k hlt
      cases e1
      obtain ⟨p, HP⟩ : ∃ p, Hid (f.getD k [] = p) := ⟨_, rfl⟩
      rw [HP.out] at rk
      obtain rfl : n = ni := by have := rk.len; rw [← HP.out, HF.out.row hlt] at this; exact this.symm
      have i1 : (0 : Int) ≤ (k : Int) := by omega
      have i2 : (k : Int) < (n : Int) := by omega
      have HKN : Hid (ndK n f g (k + 1) = (permOk p && permOk (colL n g k))) := Lib.hid (by
        unfold ndK allN at *
        rw [List.range_succ, List.all_append, HK.out, ← HP.out]; simp)
      cases hp : permOk p with
      | false =>
        have HPP := Lib.hid hp; clear hp
        have HN : Hid (ndK n f g n = false) := Lib.hid (allN_no hlt (by rw [HP.out, HPP.out]; rfl))
        go_wp2_with fail
        refine (l01Perm_any _ _ _ p _ rk (by omega)).mono ?_
        rintro e w2 ⟨rfl, rfl⟩
        rw [HRG.out, HPP.out]
        go_wp2
        go_ret
        exact ⟨ret_bool (by rw [HN.out]), hq⟩
      | true =>
        have HPP := Lib.hid hp; clear hp
        go_wp2_with fail
        refine (l01Perm_any _ _ _ p _ rk (by omega)).mono ?_
        rintro e w2 ⟨rfl, rfl⟩
        rw [HRG.out, HPP.out]
        go_wp2_with fail
        refine (l01Column_any n k _ _ g _ (h2.below hq) HG.out hn1 hn hlt).mono ?_
        rintro e w3 ⟨a3, c3, rfl, ho3, hb3⟩
        obtain ⟨B, HB⟩ : ∃ B, Hid (permOk (colL n g k) = B) := ⟨_, rfl⟩
        go_wp2_with fail
        refine (l01Perm_any _ _ _ _ _ ho3.row (by omega)).mono ?_
        rintro e w4 ⟨rfl, rfl⟩
        rw [HRG.out, HB.out]
        cases B with
        | false =>
          have HN : Hid (ndK n f g n = false) := Lib.hid (allN_no hlt (by rw [HP.out, HPP.out, HB.out]; rfl))
          go_wp2
          go_ret
          exact ⟨ret_bool (by rw [HN.out]), below_th hq hb3⟩
        | true =>
          go_wp2
          go_roundw
          case rel => exact ⟨k + 1, by omega, by go_num, below_th hq hb3, below_th hq0 hb3, Lib.hid (by rw [HKN.out, HPP.out, HB.out]; rfl)⟩
          case measure => simp [intOf]; omega
    · obtain rfl : k = n := by omega
      go_wp2
      go_ret
      exact ⟨ret_bool HK.out.symm, hq⟩
def orbN (f : Nat → Nat) : Nat → List Nat → Nat → List Nat
  | 0, c, _ => c
  | m + 1, c, y => if y ∈ c then c else orbN f m (c ++ [y]) (f y)
def orbF (f : Nat → Nat) (n x : Nat) : List Nat := orbN f n [x] (f x)
theorem nodup_le : ∀ (n : Nat) (c : List Nat), c.Nodup → (∀ x ∈ c, x < n) → c.length ≤ n := by
  intro n
  induction n with
  | zero =>
    intro c _ h
    cases c with
    | nil => exact Nat.le_refl _
    | cons x c => exact absurd (h x List.mem_cons_self) (by omega)
  | succ n ih =>
    intro c hd h
    have h1 := ih (c.erase n) (hd.erase n) (fun x hx => by
      have h2 := (List.Nodup.mem_erase_iff hd).1 hx
      have := h x h2.2
      have := h2.1
      omega)
    by_cases hm : n ∈ c
    · rw [List.length_erase_of_mem hm] at h1; omega
    · rw [List.erase_of_not_mem hm] at h1; omega
structure OrbI (f : Nat → Nat) (n x : Nat) (c : List Nat) (l rem : Nat) : Prop where
  nd : c.Nodup
  lt : ∀ u ∈ c, u < n
  xm : x ∈ c
  lm : l ∈ c
  rm : rem + c.length = n + 1
  pre : ∀ z ∈ c, z ≠ x → ∃ u ∈ c, u ≠ l ∧ f u = z
  eq : orbF f n x = orbN f rem c (f l)
theorem OrbI.start (f : Nat → Nat) {n x : Nat} (h : x < n) : OrbI f n x [x] x n :=
  ⟨by simp, by simpa using h, by simp, by simp, by simp, fun z hz hne => absurd (by simpa using hz) hne, rfl⟩
theorem OrbI.le {f : Nat → Nat} {n x : Nat} {c : List Nat} {l rem : Nat} (h : OrbI f n x c l rem) : c.length ≤ n := nodup_le n c h.nd h.lt
theorem OrbI.step {f : Nat → Nat} {n x : Nat} {c : List Nat} {l rem : Nat} (h : OrbI f n x c l rem) (hm : f l ∉ c) (hl : f l < n) : OrbI f n x (c ++ [f l]) (f l) (rem - 1) := by
  have hle := h.le
  obtain ⟨m, rfl⟩ : ∃ m, rem = m + 1 := ⟨rem - 1, by have := h.rm; omega⟩
  refine ⟨?_, ?_, by simp [h.xm], by simp, by have := h.rm; simp; omega, ?_, ?_⟩
  · rw [List.nodup_append]
    refine ⟨h.nd, by simp, fun a ha b hb => ?_⟩
    simp at hb; subst hb
    exact fun e => hm (e ▸ ha)
  · intro u hu
    rcases List.mem_append.1 hu with hu | hu
    · exact h.lt u hu
    · simp at hu; subst hu; exact hl
  · intro z hz hne
    rcases List.mem_append.1 hz with hz | hz
    · obtain ⟨u, hu, _, he⟩ := h.pre z hz hne
      exact ⟨u, by simp [hu], fun e => hm (e ▸ hu), he⟩
    · simp at hz; subst hz
      exact ⟨l, by simp [h.lm], fun e => hm (e ▸ h.lm), rfl⟩
  · rw [h.eq]
    show (if f l ∈ c then c else orbN f m (c ++ [f l]) (f (f l))) = _
    rw [if_neg hm]; rfl
theorem OrbI.stop {f : Nat → Nat} {n x : Nat} {c : List Nat} {l rem : Nat} (h : OrbI f n x c l rem) (hm : f l ∈ c) : orbF f n x = c := by
  have hle := h.le
  obtain ⟨m, rfl⟩ : ∃ m, rem = m + 1 := ⟨rem - 1, by have := h.rm; omega⟩
  rw [h.eq]
  show (if f l ∈ c then c else _) = _
  rw [if_pos hm]
theorem OrbI.closed {f : Nat → Nat} {n x : Nat} {c : List Nat} {l rem : Nat} (h : OrbI f n x c l rem) (hm : f l ∈ c) (hinj : ∀ i j, i < n → j < n → f i = f j → i = j) : ∀ i, i < n → f i ∈ c → i ∈ c := by
  have hll := h.lt l h.lm
  have hx : f l = x := by
    by_cases e : f l = x
    · exact e
    · obtain ⟨u, hu, hne, he⟩ := h.pre _ hm e
      exact absurd (hinj u l (h.lt u hu) hll he) hne
  intro i hi hic
  by_cases e : f i = x
  · rw [hinj i l hi hll (e.trans hx.symm)]; exact h.lm
  · obtain ⟨u, hu, _, he⟩ := h.pre _ hic e
    rw [← hinj u i (h.lt u hu) hi he]; exact hu
def Que (w : World) (lo g off n c : Nat) (xs : List Int) : Prop :=
  n = xs.length ∧ lo ≤ g ∧ n ≤ c ∧ c ≤ 9223372036854775807 ∧ ∃ cur, Loc w g cur 2 ∧ off + c ≤ cur.size ∧ ∀ i, i < n → cur[off + i]? = some (.int .i64 (xs.getD i 0))
theorem Que.len {w : World} {lo g off n c : Nat} {xs : List Int} (h : Que w lo g off n c xs) : n = xs.length := h.1
theorem Que.cap {w : World} {lo g off n c : Nat} {xs : List Int} (h : Que w lo g off n c xs) : n ≤ c ∧ c ≤ 9223372036854775807 := ⟨h.2.2.1, h.2.2.2.1⟩
theorem Que.lt {w : World} {lo g off n c : Nat} {xs : List Int} (h : Que w lo g off n c xs) : lo ≤ g ∧ g < w.heap.size := by
  obtain ⟨_, h1, _, _, cur, h2, _⟩ := h; exact ⟨h1, h2.lt⟩
theorem Que.cells {w : World} {lo g off n c : Nat} {xs : List Int} (h : Que w lo g off n c xs) : ∀ i, i < n → w.cell? ⟨g, off + i, none⟩ = some (.int .i64 (xs.getD i 0)) := by
  obtain ⟨_, _, _, _, cur, h2, _, h3⟩ := h
  intro i hi
  exact h2.cell _ (h3 i hi)
theorem Que.tail {w : World} {lo g off n c : Nat} {x : Int} {xs : List Int} (h : Que w lo g off n c (x :: xs)) : Que w lo g (off + 1) (n - 1) (c - 1) xs := by
  obtain ⟨h0, h1, h2, h2', cur, h3, h4, h5⟩ := h
  simp at h0
  refine ⟨by omega, h1, by omega, by omega, cur, h3, by omega, fun i hi => ?_⟩
  have := h5 (i + 1) (by omega)
  rw [show off + 1 + i = off + (i + 1) by omega, this]
  simp [List.getD_eq_getElem?_getD]
theorem Que.cut {w : World} {lo g off c : Nat} {x : Int} (h : Que w lo g off 1 c [x]) : ∃ off', (if c = 1 then some (⟨g, off, none⟩ : Addr) else some ⟨g, off + 1, none⟩) = some ⟨g, off', none⟩ ∧ Que w lo g off' 0 (c - 1) [] := by
  by_cases hc : c = 1
  · subst hc
    obtain ⟨h0, h1, h2, h2', cur, h3, h4, h5⟩ := h
    exact ⟨off, rfl, rfl, h1, by omega, by omega, cur, h3, by omega, fun i hi => absurd hi (by omega)⟩
  · exact ⟨off + 1, if_neg hc, h.tail⟩
theorem Que.below {w w' : World} {lo g off n c : Nat} {xs : List Int} (h : Que w lo g off n c xs) (hb : Below w.heap.size w w') : Que w' lo g off n c xs := by
  obtain ⟨h0, h1, h2, h2', cur, h3, h4⟩ := h
  exact ⟨h0, h1, h2, h2', cur, h3.below hb h3.lt, h4⟩
theorem Que.setne {w : World} {lo g off n c : Nat} {xs : List Int} (h : Que w lo g off n c xs) {a : Addr} (hne : g ≠ a.block) (u : Value) : Que (w.setCell a u) lo g off n c xs := by
  obtain ⟨h0, h1, h2, h2', cur, h3, h4⟩ := h
  exact ⟨h0, h1, h2, h2', cur, h3.setne hne u, h4⟩
theorem Que.one {w : World} {lo b : Nat} {x : Int} (hb : b = w.heap.size) (hlo : lo ≤ b) : Que (w.alloc (.cells #[.int .i64 x] 2)) lo b 0 1 1 [x] :=
  ⟨rfl, hlo, Nat.le_refl _, by decide, _, Loc.new w hb _ _, by simp, fun i (hi : i < 1) => by
    have e : i = 0 := by omega
    subst e
    rfl⟩
theorem least_ex (P : Nat → Prop) (h : ∃ m, P m) : ∃ m, P m ∧ ∀ k, P k → m ≤ k := by
  obtain ⟨m, hm⟩ := h
  induction m using Nat.strongRecOn with
  | ind m ih =>
    by_cases hk : ∃ k, k < m ∧ P k
    · obtain ⟨k, hlt, hp⟩ := hk
      exact ih k hlt hp
    · exact ⟨m, hm, fun k hp => by
        by_cases h : m ≤ k
        · exact h
        · exact absurd ⟨k, by omega, hp⟩ hk⟩
noncomputable def least (P : Nat → Prop) : Nat := open Classical in if h : ∃ m, P m then Classical.choose (least_ex P h) else 0
def natL (c : List Nat) : List Int := c.map fun x : Nat => (x : Int)
end Go.Proofs.YtaddclaadbjnlaaGreat
