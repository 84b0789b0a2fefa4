/-
  Walks and plain laws of this seat, some texts in one.
  No condition but bounds on lengths.
-/
import Derived.Test.YtaddclaadbjnlaaGreatPr5
import Derived.Test.YtaddclaadbjnlaaGreatPr11
import Derived.Test.YtaddclaadbjnlaaGreatPr3
import Derived.Test.YtaddclaadbjnlaaGreatPr7
import Derived.StillTailTactics
namespace Go.Proofs.YtaddclaadbjnlaaGreat
set_option maxRecDepth 100000
set_option linter.unusedVariables false
set_option linter.unusedSimpArgs false
open Go.RowKit
theorem info_Rk : (Tryz.prog.info? 34).map (fun i => (i.zero, i.size, i.bytes)) = some (some (.agg #[.slice none 0 0]), 1, 24) := by kernel_rfl
theorem und_Rk : Tryz.prog.underlying 25 = some (.slice 34) := by kernel_rfl
structure OwnRk (w : World) (lo : Nat) (a : Option Addr) (n c : Nat) (us : List TV) (ts : List (List (List Int))) : Prop where
  len : n = ts.length
  ulen : us.length = n
  hdr : w.ownsRow lo 34 1 (.slice a n c) n (us.map slT)
  tab : ∀ i, i < n → OwnV w lo (us.getD i tvO) (ts.getD i [])
  ap : ∀ i, i < n → ∀ g, a = some ⟨g, 0, none⟩ → ¬ TvS (us.getD i tvO) g
  pw : ∀ i j, i < n → j < n → i ≠ j → ∀ g, TvS (us.getD i tvO) g → ¬ TvS (us.getD j tvO) g
section
variable {w w' : World} {lo : Nat} {a : Option Addr} {n c : Nat} {us : List TV} {ts : List (List (List Int))}
theorem OwnRk.nil (w : World) (lo : Nat) : OwnRk w lo none 0 0 [] [] :=
  ⟨rfl, rfl, World.ownsRow_nil w lo _ 1, fun i h => absurd h (by omega), fun i h => absurd h (by omega), fun i j h => absurd h (by omega)⟩
theorem OwnRk.block (h : OwnRk w lo a n c us ts) : (a = none ∧ n = 0 ∧ c = 0) ∨ ∃ g cur, a = some ⟨g, 0, none⟩ ∧ lo ≤ g ∧ Loc w g cur 34 ∧ n ≤ c ∧ c ≤ maxLen ∧ cur.size = c ∧ cur.toList.take n = us.map slT := by
  rcases h.hdr.2 with ⟨h1, h2⟩ | ⟨g, cap, cur, h1, h2, h3, h4, h5, h6, h7⟩
  · cases h1; exact .inl ⟨rfl, rfl, rfl⟩
  · cases h1; exact .inr ⟨g, cur, rfl, h2, h3, h4, h5, by simpa using h6, by simpa using h7⟩
theorem ownsRowRk_mk {w : World} {lo g n c : Nat} {us : List TV} {cur : Array Value} (hn : us.length = n) (h1 : lo ≤ g) (h2 : Loc w g cur 34) (h3 : n ≤ c) (h4 : c ≤ maxLen) (h5 : cur.size = c) (h6 : cur.toList.take n = us.map slT) :
    w.ownsRow lo 34 1 (.slice (some ⟨g, 0, none⟩) n c) n (us.map slT) :=
  ⟨by simp [hn], .inr ⟨g, c, cur, rfl, h1, h2, h3, h4, by simpa using h5, by simpa using h6⟩⟩
theorem OwnRk.high (h : OwnRk w lo a n c us ts) : ∀ g, a = some ⟨g, 0, none⟩ → g < w.heap.size := by
  intro g hg
  rcases h.block with ⟨h1, _⟩ | ⟨g', cur, h1, h2, h3, _⟩
  · rw [h1] at hg; cases hg
  · rw [h1] at hg; cases hg; exact h3.lt
theorem OwnRk.low (h : OwnRk w lo a n c us ts) : ∀ g, a = some ⟨g, 0, none⟩ → lo ≤ g := by
  intro g hg
  rcases h.block with ⟨h1, _⟩ | ⟨g', cur, h1, h2, h3, _⟩
  · rw [h1] at hg; cases hg
  · rw [h1] at hg; cases hg; exact h2
theorem OwnRk.uLo (h : OwnRk w lo a n c us ts) : ∀ g, TTS a n us g → lo ≤ g := fun g hg => by
  rcases hg with hg | ⟨i, hi, hg⟩
  · exact h.low g hg
  · exact (h.tab i hi).uLo g hg
theorem OwnRk.uHi (h : OwnRk w lo a n c us ts) : ∀ g, TTS a n us g → g < w.heap.size := fun g hg => by
  rcases hg with hg | ⟨i, hi, hg⟩
  · exact h.high g hg
  · exact (h.tab i hi).uHi g hg
theorem OwnRk.keep (h : OwnRk w lo a n c us ts) (hk : ∀ g, TTS a n us g → g < w.heap.size → w'.heap[g]? = w.heap[g]?) : OwnRk w' lo a n c us ts := by
  refine ⟨h.len, h.ulen, ?_, fun i hi => OwnT.keep (h.tab i hi) fun g hg hlt => hk g (.inr ⟨i, hi, hg⟩) hlt, h.ap, h.pw⟩
  rcases h.block with ⟨h1, h2, h3⟩ | ⟨g, cur, h1, h2, h3, h4, h5, h6, h7⟩
  · subst h1 h2 h3
    have : us = [] := List.eq_nil_of_length_eq_zero h.ulen
    subst this; exact World.ownsRow_nil _ _ _ _
  · subst h1
    exact ownsRowRk_mk h.ulen h2 ((hk g (.inl rfl) h3.lt).trans h3) h4 h5 h6 h7
theorem OwnRk.below (h : OwnRk w lo a n c us ts) (hb : Below w.heap.size w w') : OwnRk w' lo a n c us ts := h.keep fun g _ hlt => hb.block g hlt
theorem OwnRk.alloc (h : OwnRk w lo a n c us ts) (o : Obj) : OwnRk (w.alloc o) lo a n c us ts := h.below ((Below.refl _ _).alloc (Nat.le_refl _) o)
theorem OwnRk.drewN (h : OwnRk w lo a n c us ts) (k : Nat) : OwnRk (w.drewN k) lo a n c us ts := h.keep fun _ _ _ => rfl
theorem OwnRk.mono {lo' : Nat} (h : OwnRk w lo a n c us ts) (hl : lo' ≤ lo) : OwnRk w lo' a n c us ts := by
  refine ⟨h.len, h.ulen, ?_, fun i hi => (h.tab i hi).mono hl, h.ap, h.pw⟩
  rcases h.block with ⟨h1, h2, h3⟩ | ⟨g, cur, h1, h2, h3, h4, h5, h6, h7⟩
  · subst h1 h2 h3
    have : us = [] := List.eq_nil_of_length_eq_zero h.ulen
    subst this; exact World.ownsRow_nil _ _ _ _
  · subst h1; exact ownsRowRk_mk h.ulen (Nat.le_trans hl h2) h3 h4 h5 h6 h7
theorem OwnRk.setlo (h : OwnRk w lo a n c us ts) {p : Addr} (hp : p.block < lo) (u : Value) : OwnRk (w.setCell p u) lo a n c us ts :=
  h.keep fun g hg _ => Below.heap_setCell _ _ _ _ (by have := h.uLo g hg; omega)
theorem OwnRk.marked (h : OwnRk w lo a n c us ts) {S : Nat → Prop} (hm : Marked S w w') (hS : ∀ g, TTS a n us g → ¬ S g) : OwnRk w' lo a n c us ts := h.keep fun g hg hlt => hm.block g hlt (hS g hg)
theorem OwnRk.cap (h : OwnRk w lo a n c us ts) : n ≤ c ∧ c ≤ 9223372036854775807 := by
  rcases h.block with ⟨_, h1, h2⟩ | ⟨g', cur, h1, h2, h3, h4, h5, _⟩
  · omega
  · unfold maxLen at h5; omega
theorem OwnRk.cells (h : OwnRk w lo a n c us ts) (hn : 0 < n) : ∃ g, a = some ⟨g, 0, none⟩ ∧ g < w.heap.size ∧ (∀ i, i < n → w.cell? ⟨g, i, none⟩ = some (slT (us.getD i tvO))) ∧ ∀ i, w.frozen? ⟨g, i, none⟩ = false := by
  rcases h.block with ⟨h1, h2, h3⟩ | ⟨g, cur, h1, h2, h3, h4, h5, h6, h7⟩
  · omega
  · refine ⟨g, h1, h3.lt, fun i hi => h3.cell i ?_, fun i => h3.free i⟩
    have hx : (cur.toList.take n)[i]? = (us.map slT)[i]? := by rw [h7]
    have hxi : i < us.length := by have := h.ulen; omega
    rw [List.getElem?_take, if_pos hi] at hx
    simp [List.getElem?_eq_getElem hxi] at hx
    simp [List.getD_eq_getElem?_getD, List.getElem?_eq_getElem hxi, hx]
theorem OwnRk.ownBlk (h : OwnRk w lo a n c us ts) {g : Nat} (e : (Value.slice a n c).ownBlock = some g) : a = some ⟨g, 0, none⟩ := by
  rcases h.block with ⟨r1, _⟩ | ⟨g2, cur, r1, _⟩
  · subst r1; simp [Value.ownBlock] at e
  · subst r1; simp [Value.ownBlock] at e; subst e; rfl
theorem OwnRk.snoc {o : Obj} {g cap : Nat} {u : TV} {t : List (List Int)} (h : OwnRk w lo a n c us ts) (hv : OwnV w lo u t) (h1 : ∀ q, TvS u q → ¬ TTS a n us q)
    (ho : w'.ownsRow lo 34 1 (.slice (some ⟨g, 0, none⟩) (n + 1) cap) (n + 1) (us.map slT ++ [slT u]))
    (hg : w.grownBy w' (Value.slice a n c).ownBlock) (hat : (Value.slice a n c).ownBlock = some g ∨ w.heap.size ≤ g) : OwnRk w' lo (some ⟨g, 0, none⟩) (n + 1) cap (us ++ [u]) (ts ++ [t]) := by
  have hl := h.len
  have hul := h.ulen
  have gl : ∀ i, i < n → (us ++ [u]).getD i tvO = us.getD i tvO := fun i hi => by simp [List.getD_eq_getElem?_getD, List.getElem?_append_left (show i < us.length by omega)]
  have gn : (us ++ [u]).getD n tvO = u := by rw [← hul]; simp [List.getD_eq_getElem?_getD]
  have xl : ∀ i, i < n → (ts ++ [t]).getD i [] = ts.getD i [] := fun i hi => by simp [List.getD_eq_getElem?_getD, List.getElem?_append_left (show i < ts.length by omega)]
  have xn : (ts ++ [t]).getD n [] = t := by rw [hl]; simp [List.getD_eq_getElem?_getD]
  have keepR : ∀ i, i < n → OwnV w' lo (us.getD i tvO) (ts.getD i []) := fun i hi => OwnT.keep (h.tab i hi) fun q hq hlt => hg.block q hlt fun e => h.ap i hi q (h.ownBlk e.symm) hq
  have keepV : OwnV w' lo u t := OwnT.keep hv fun q hq hlt => hg.block q hlt fun e => h1 q hq (.inl (h.ownBlk e.symm))
  refine ⟨by simp [hl], by simp [hul], by simpa using ho, fun i hi => ?_, fun i hi q hq hs => ?_, fun i j hi hj hij q h3 h4 => ?_⟩
  · by_cases e : i < n
    · rw [gl i e, xl i e]; exact keepR i e
    · obtain rfl : i = n := by omega
      rw [gn, xn]; exact keepV
  · cases hq
    by_cases e : i < n
    · rw [gl i e] at hs
      rcases hat with hat | hat
      · exact h.ap i e g (h.ownBlk hat) hs
      · have := (h.tab i e).uHi g hs; omega
    · obtain rfl : i = n := by omega
      rw [gn] at hs
      rcases hat with hat | hat
      · exact h1 g hs (.inl (h.ownBlk hat))
      · have := OwnT.uHi hv g hs; omega
  · by_cases e : i < n
    · rw [gl i e] at h3
      by_cases e' : j < n
      · rw [gl j e'] at h4; exact h.pw i j e e' hij q h3 h4
      · obtain rfl : j = n := by omega
        rw [gn] at h4; exact h1 q h4 (.inr ⟨i, e, h3⟩)
    · obtain rfl : i = n := by omega
      rw [gn] at h3
      have e' : j < i := by omega
      rw [gl j e'] at h4; exact h1 q h3 (.inr ⟨j, e', h4⟩)
end
theorem wp_appRk {o : Oper} {a : Act} {K : Act → World → Prop} {Q : Exit → Act → World → Prop} {w : World} {s x : Operand}
    (ho : o.op = .call { callee := .builtin .append, args := #[s, x], argTypes := #[25, 25] }) {lo : Nat} {ad : Option Addr} {n c : Nat} {us : List TV} {ts : List (List (List Int))} (hown : OwnRk w lo ad n c us ts) (hs : a.eval s = .slice ad n c)
    {va : Option Addr} {vn vc : Nat} {vv : List SV} {t : List (List Int)} {ty : TypeId} (hv : OwnT w lo va vn vc vv t) (h1 : ∀ q, TblS va vn vv q → ¬ TTS ad n us q) (hx : a.eval x = .slice (some ⟨w.heap.size, 0, none⟩) 1 1) (hlen : n + 1 ≤ 1000000000000) (hlo : lo ≤ w.heap.size)
    (h : ∀ g c' w', OwnRk w' lo (some ⟨g, 0, none⟩) (n + 1) c' (us ++ [((va, vn, vc), vv)]) (ts ++ [t]) → w.grownBy w' (Value.slice ad n c).ownBlock → ((Value.slice ad n c).ownBlock = some g ∨ w.heap.size ≤ g) → Below lo w w' → K (a.put o.dst (.slice (some ⟨g, 0, none⟩) (n + 1) c')) w') :
    Oper.wp Tryz.prog o a (w.alloc (.cells #[.slice va vn vc] ty)) K Q := by
  obtain ⟨i0, hi, hz0, hz1, hz2⟩ := info_parts info_Rk
  refine wp_append_lies _ s x 25 ho lo 34 i0 (.agg #[.slice none 0 0]) 1 24 und_Rk hi hz0 hz1 hz2 rfl (by decide) _ n (us.map slT) hs (hown.hdr.alloc _) ⟨w.heap.size, 0, none⟩ 1 1 [.slice va vn vc] hx rfl (cell_one_new _ _ _) ?_ (by omega) ?_ ?_ ?_ (w.heap.size + 1) (by simp) ?_
  · intro u hu; simp at hu; subst hu; rfl
  · unfold maxLen; omega
  · omega
  · simp; omega
  · intro g cap w' ho' hg hat hlt
    have hg' : w.grownBy w' (Value.slice ad n c).ownBlock := by
      have h1 := World.grownBy_alloc w (.cells #[.slice va vn vc] ty) (Value.slice ad n c).ownBlock
      exact ⟨hg.os.trans h1.os, hg.tape.trans h1.tape, hg.output.trans h1.output, Nat.le_trans h1.size hg.size, fun k hk hn => (hg.block k (Nat.lt_of_lt_of_le hk h1.size) hn).trans (h1.block k hk hn)⟩
    have hat' : (Value.slice ad n c).ownBlock = some g ∨ w.heap.size ≤ g := by
      rcases hat with hat | hat
      · exact .inl hat
      · exact .inr (by omega)
    exact h g cap w' (hown.snoc (o := .cells #[] ty) (u := ((va, vn, vc), vv)) hv h1 ho' hg' hat') hg' hat' ((Below.refl _ _).grown hg' hlo (fun k hk => (World.ownsRow.lt hown.hdr k hk).1))
theorem appRk {ops : Array Oper} {rest : List Oper} {o : Oper} {a : Act} {Q : Exit → Act → World → Prop} {w : World} (hgd : o.guard = none) {s x : Operand}
    (ho : o.op = .call { callee := .builtin .append, args := #[s, x], argTypes := #[25, 25] }) {lo : Nat} {ad : Option Addr} {n c : Nat} {us : List TV} {ts : List (List (List Int))} (hown : OwnRk w lo ad n c us ts) (hs : a.eval s = .slice ad n c)
    {va : Option Addr} {vn vc : Nat} {vv : List SV} {t : List (List Int)} {ty : TypeId} (hv : OwnT w lo va vn vc vv t) (h1 : ∀ q, TblS va vn vv q → ¬ TTS ad n us q) (hx : a.eval x = .slice (some ⟨w.heap.size, 0, none⟩) 1 1) (hlen : n + 1 ≤ 1000000000000) (hlo : lo ≤ w.heap.size)
    (h : ∀ g c' w', OwnRk w' lo (some ⟨g, 0, none⟩) (n + 1) c' (us ++ [((va, vn, vc), vv)]) (ts ++ [t]) → w.grownBy w' (Value.slice ad n c).ownBlock → ((Value.slice ad n c).ownBlock = some g ∨ w.heap.size ≤ g) → Below lo w w' → wpList Tryz.prog ops Q rest (a.put o.dst (.slice (some ⟨g, 0, none⟩) (n + 1) c')) w') :
    wpList Tryz.prog ops Q (o :: rest) a (w.alloc (.cells #[.slice va vn vc] ty)) :=
  wpList_plain hgd fun _ hK => wp_appRk ho hown hs hv h1 hx hlen hlo fun g c' w' a b c d => hK _ _ (h g c' w' a b c d)
end Go.Proofs.YtaddclaadbjnlaaGreat

namespace Go.Proofs.YtaddclaadbjnlaaGreat
set_option maxRecDepth 100000
set_option linter.unusedVariables false
set_option linter.unusedSimpArgs false
open Go.RowKit
def TbS (w : World) (a : Option Addr) (n : Nat) (ts : List (List (List Int))) : Prop :=
  n = ts.length ∧ ∀ i, i < n → ∃ b off ai ni ci, a = some ⟨b, off, none⟩ ∧ b < w.heap.size ∧ w.cell? ⟨b, off + i, none⟩ = some (.slice ai ni ci) ∧ Tbl w ai ni (ts.getD i []) ∧ ni ≤ 9223372036854775807
theorem TbS.len {w : World} {a : Option Addr} {n : Nat} {ts : List (List (List Int))} (h : TbS w a n ts) : n = ts.length := h.1
theorem TbS.at {w : World} {a : Option Addr} {n : Nat} {ts : List (List (List Int))} (h : TbS w a n ts) (i : Nat) (hi : i < n) : ∃ b off ai ni ci, a = some ⟨b, off, none⟩ ∧ w.cell? ⟨b, off + i, none⟩ = some (.slice ai ni ci) ∧ Tbl w ai ni (ts.getD i []) ∧ ni ≤ 9223372036854775807 := by
  obtain ⟨b, off, ai, ni, ci, h1, _, h2⟩ := h.2 i hi; exact ⟨b, off, ai, ni, ci, h1, h2⟩
theorem TbS.below {w w' : World} {a : Option Addr} {n : Nat} {ts : List (List (List Int))} (h : TbS w a n ts) (hb : Below w.heap.size w w') : TbS w' a n ts :=
  ⟨h.1, fun i hi => by obtain ⟨b, off, ai, ni, ci, h1, h3, h2, h4, h5⟩ := h.2 i hi; exact ⟨b, off, ai, ni, ci, h1, Nat.lt_of_lt_of_le h3 hb.size, (hb.cell (p := ⟨b, off + i, none⟩) h3).trans h2, h4.below hb, h5⟩⟩
theorem TbS.drewN {w : World} {a : Option Addr} {n : Nat} {ts : List (List (List Int))} (h : TbS w a n ts) (k : Nat) : TbS (w.drewN k) a n ts := h
theorem TbS.alloc {w : World} {a : Option Addr} {n : Nat} {ts : List (List (List Int))} (h : TbS w a n ts) (o : Obj) : TbS (w.alloc o) a n ts := h.below ((Below.refl _ _).alloc (Nat.le_refl _) o)
def befT (r : Bool) : List (List Int) → List (List Int) → Bool
  | [], _ => r
  | _ :: _, [] => r
  | x :: t, y :: s => if cmpL x y = 0 then befT r t s else decide (cmpL x y < 0)
def befS : List (List (List Int)) → List (List (List Int)) → Bool
  | [], _ => false
  | _ :: _, [] => false
  | t :: us, s :: bs => befT (befS us bs) t s
theorem befT_step {r : Bool} {t s : List (List Int)} {k : Nat} (hx : k < t.length) (hy : k < s.length) : befT r (t.drop k) (s.drop k) = if cmpL (t.getD k []) (s.getD k []) = 0 then befT r (t.drop (k + 1)) (s.drop (k + 1)) else decide (cmpL (t.getD k []) (s.getD k []) < 0) := by
  rw [List.drop_eq_getElem_cons hx, List.drop_eq_getElem_cons hy]
  simp [befT, List.getD_eq_getElem?_getD, List.getElem?_eq_getElem hx, List.getElem?_eq_getElem hy]
theorem befT_end {r : Bool} {t s : List (List Int)} {k : Nat} (hx : t.length ≤ k) : befT r (t.drop k) (s.drop k) = r := by
  rw [List.drop_of_length_le hx]; cases s.drop k <;> rfl
theorem befS_step {us bs : List (List (List Int))} {k : Nat} (hx : k < us.length) (hy : k < bs.length) : befS (us.drop k) (bs.drop k) = befT (befS (us.drop (k + 1)) (bs.drop (k + 1))) (us.getD k []) (bs.getD k []) := by
  rw [List.drop_eq_getElem_cons hx, List.drop_eq_getElem_cons hy]
  simp [befS, List.getD_eq_getElem?_getD, List.getElem?_eq_getElem hx, List.getElem?_eq_getElem hy]
theorem befS_end {us bs : List (List (List Int))} {k : Nat} (hx : us.length ≤ k) : befS (us.drop k) (bs.drop k) = false := by
  rw [List.drop_of_length_le hx]; cases bs.drop k <;> rfl
set_option maxHeartbeats 4000000 in
theorem l01Less_any (a1 a2 : Option Addr) (n1 n2 c1 c2 : Nat) (xs ys : List Int) (w : World) (h1 : Row w a1 n1 xs) (h2 : Row w a2 n2 ys) (hm : n1 ≤ 9223372036854775807) :
    Calls Tryz.prog 141 #[.slice a1 n1 c1, .slice a2 n2 c2] w fun e w' => e = .returned (.bool (decide (cmpL xs ys < 0))) ∧ ∃ m, w' = w.drewN m := by
  have HL1 := Lib.hid h1.len; have HL2 := Lib.hid h2.len
  go_enter Tryz.func141, Tryz.ntmps141
  go_wp2
  go_loopw [5] (fun i wr => ∃ k : Nat, k ≤ n1 ∧ i = .int .i64 k ∧ (k ≤ n2) ∧ Hid (cmpL xs ys = cmpG cmpI (xs.drop k) (ys.drop k)) ∧ Hid (∃ m, wr = w.drewN m)) (fun i _ => n1 - (intOf i).toNat)
  case atStart => exact ⟨0, Nat.zero_le _, rfl, Nat.zero_le _, Lib.hid rfl, Lib.hid ⟨0, rfl⟩⟩
  case round =>
    obtain ⟨k, hk, rfl, hk2, HK, HW⟩ := hrel
    by_cases hlt : k < n1
    · have i2 : (k : Int) < (n1 : Int) := by omega
      by_cases hlt2 : k < n2
      · have h1r : Row wr a1 n1 xs := by obtain ⟨m, hm⟩ := HW.out; rw [hm]; exact h1.drewN m
        have h2r : Row wr a2 n2 ys := by obtain ⟨m, hm⟩ := HW.out; rw [hm]; exact h2.drewN m
        obtain ⟨b1, o1, rfl, g1⟩ := h1r.at k hlt
        obtain ⟨X, HX⟩ : ∃ X, Hid (xs.getD k 0 = X) := ⟨_, rfl⟩
        rw [HX.out] at g1
        have i1 : (0 : Int) ≤ (k : Int) := by omega
        obtain ⟨b2, o2, rfl, g2⟩ := h2r.at k hlt2
        obtain ⟨Y, HY⟩ : ∃ Y, Hid (ys.getD k 0 = Y) := ⟨_, rfl⟩
        rw [HY.out] at g2
        have i3 : (k : Int) < (n2 : Int) := by omega
        have hst := cmpG_step (c := cmpI) (xs := xs) (ys := ys) (k := k) 0 (by have := HL1.out; omega) (by have := HL2.out; omega)
        rw [HX.out, HY.out] at hst
        clear h1r h2r
        by_cases hc : X = Y
        · subst hc
          rw [if_pos (cmpI_eq.2 rfl)] at hst
          have HST := Lib.hid hst
          have t1 : (X != X) = false := by simp
          clear hst
          go_wp2
          go_quiet (fail)
          go_wp2
          go_roundw
          case rel => exact ⟨k + 1, by omega, by go_num, by omega, Lib.hid (by rw [HK.out, HST.out]), Lib.hid (by obtain ⟨m, hm⟩ := HW.out; exact ⟨m + nq, by rw [hm, World.drewN_drewN]⟩)⟩
          case measure => simp [intOf]; omega
        · have hne : ¬ cmpI X Y = 0 := fun e => hc (cmpI_eq.1 e)
          rw [if_neg hne] at hst
          have HR : Hid (decide (X < Y) = decide (cmpL xs ys < 0)) := Lib.hid (by
            rw [HK.out, hst]
            unfold cmpI
            by_cases hl : X < Y
            · rw [if_pos hl]; simp [hl]
            · rw [if_neg hl, if_pos (by omega)]; simp [hl])
          have t1 : (X != Y) = true := by simp [hc]
          clear hst hne
          go_wp2
          go_quiet (fail)
          go_wp2
          go_quiet (fail)
          go_wp2
          go_ret
          exact ⟨ret_bool HR.out, by obtain ⟨m, hm⟩ := HW.out; exact ⟨_, by rw [hm, World.drewN_drewN, World.drewN_drewN]⟩⟩
      · have i4 : ¬ (k : Int) < (n2 : Int) := by omega
        obtain rfl : k = n2 := by omega
        have HR : Hid (decide (n1 < k) = decide (cmpL xs ys < 0)) := Lib.hid (by
          rw [HK.out, cmpG_long (by have := HL1.out; omega) (by have := HL2.out; omega)]; simp; omega)
        go_wp2
        go_ret
        exact ⟨ret_bool HR.out, HW.out⟩
    · obtain rfl : n1 = k := by omega
      have HR : Hid (decide (n1 < n2) = decide (cmpL xs ys < 0)) := Lib.hid (by
        rw [HK.out]
        by_cases hl : n1 < n2
        · rw [cmpG_short HL1.out (by have := HL2.out; omega)]; simp; omega
        · rw [cmpG_even HL1.out (by have := HL2.out; omega)]; simp; omega)
      go_wp2
      go_ret
      exact ⟨ret_bool HR.out, HW.out⟩
set_option maxHeartbeats 8000000 in
theorem l03Before_any (a1 a2 : Option Addr) (m1 m2 c1 c2 : Nat) (us bs : List (List (List Int))) (w : World) (h1 : TbS w a1 m1 us) (h2 : TbS w a2 m2 bs) (hm : m1 ≤ m2) (hm2 : m2 ≤ 1000000000) (hl : ∀ k, k < m1 → (us.getD k []).length ≤ (bs.getD k []).length) :
    Calls Tryz.prog 109 #[.slice a1 m1 c1, .slice a2 m2 c2] w fun e w' => e = .returned (.bool (befS us bs)) ∧ ∃ m, w' = w.drewN m := by
  have HL1 := Lib.hid h1.len; have HL2 := Lib.hid h2.len; have HL := Lib.hid hl
  clear hl
  go_enter Tryz.func109, Tryz.ntmps109
  go_wp2
  go_loopw [5, 6] (fun i _ wr => ∃ k : Nat, k ≤ m1 ∧ i = .int .i64 k ∧ Hid (befS us bs = befS (us.drop k) (bs.drop k)) ∧ Hid (∃ m, wr = w.drewN m)) (fun i _ _ => m1 - (intOf i).toNat)
  case atStart => exact ⟨0, Nat.zero_le _, rfl, Lib.hid rfl, Lib.hid ⟨0, rfl⟩⟩
  case round =>
    obtain ⟨k, hk, rfl, HK, HW⟩ := hrel
    by_cases hlt : k < m1
    · have hstep := befS_step (us := us) (bs := bs) (k := k) (by have := HL1.out; omega) (by have := HL2.out; omega)
      obtain ⟨r, HR⟩ : ∃ r, Hid (befS (us.drop (k + 1)) (bs.drop (k + 1)) = r) := ⟨_, rfl⟩
      rw [HR.out] at hstep
      have HKT : Hid (befS us bs = befT r (us.getD k []) (bs.getD k [])) := Lib.hid (by rw [HK.out, hstep])
      have hll := HL.out k hlt
      obtain ⟨t, HT⟩ : ∃ t, Hid (us.getD k [] = t) := ⟨_, rfl⟩
      obtain ⟨s, HS⟩ : ∃ s, Hid (bs.getD k [] = s) := ⟨_, rfl⟩
      rw [HT.out, HS.out] at HKT hll
      have HLL := Lib.hid hll
      have i1 : (0 : Int) ≤ (k : Int) := by omega
      have i2 : (k : Int) < (m1 : Int) := by omega
      have i3 : (k : Int) < (m2 : Int) := by omega
      clear hstep hll
      go_wp2
      go_loopw [6] (fun i wr2 => ∃ x : Nat, x ≤ t.length ∧ i = .int .i64 x ∧ Hid (befS us bs = befT r (t.drop x) (s.drop x)) ∧ Hid (∃ m, wr2 = w.drewN m)) (fun i _ => t.length - (intOf i).toNat)
      case atStart => exact ⟨0, Nat.zero_le _, rfl, HKT, HW⟩
      case round =>
        obtain ⟨x, hx, rfl, HX, HW2⟩ := hrel
        have h1r : TbS wr a1 m1 us := by obtain ⟨m, hm⟩ := HW2.out; rw [hm]; exact h1.drewN m
        have h2r : TbS wr a2 m2 bs := by obtain ⟨m, hm⟩ := HW2.out; rw [hm]; exact h2.drewN m
        obtain ⟨b1, o1, ax, nx, cx, rfl, g1, t1, l1⟩ := h1r.at k hlt
        obtain ⟨b2, o2, ay, ny, cy, rfl, g2, t2, l2⟩ := h2r.at k (by omega)
        rw [HT.out] at t1
        rw [HS.out] at t2
        have hnx := t1.len
        have hny := t2.len
        by_cases hlx : x < t.length
        · obtain ⟨b3, o3, a3, n3, c3, rfl, g3, r3, l3⟩ := t1.at x (by omega)
          obtain ⟨b4, o4, a4, n4, c4, rfl, g4, r4, l4⟩ := t2.at x (by have := HLL.out; omega)
          have j1 : (0 : Int) ≤ (x : Int) := by omega
          have j2 : (x : Int) < (nx : Int) := by omega
          have j3 : (x : Int) < (ny : Int) := by have := HLL.out; omega
          have hst := befT_step (r := r) (t := t) (s := s) (k := x) hlx (by have := HLL.out; omega)
          obtain ⟨X, HXX⟩ : ∃ X, Hid (t.getD x [] = X) := ⟨_, rfl⟩
          obtain ⟨Y, HYY⟩ : ∃ Y, Hid (s.getD x [] = Y) := ⟨_, rfl⟩
          rw [HXX.out, HYY.out] at hst
          rw [HXX.out] at r3
          rw [HYY.out] at r4
          have HNX := Lib.hid hnx
          clear h1r h2r t1 t2 hny hnx
          by_cases hc : X = Y
          · subst hc
            rw [if_pos ((cmpL_eq X X).2 rfl)] at hst
            have HST := Lib.hid hst
            have HD : Hid (decide (X = X) = true) := Lib.hid (by simp)
            clear hst
            have HSA : Hid (∀ m, Calls Tryz.prog 110 #[.slice a3 n3 c3, .slice a4 n4 c4] (wr.drewN m) fun e w'' => e = .returned (.bool true) ∧ ∃ k, w'' = wr.drewN k) := Lib.hid fun m => (l01Same_any a3 a4 n3 n4 c3 c4 X X (wr.drewN m) (r3.drewN m) (r4.drewN m) l3).mono fun e w'' ⟨he, k, hk⟩ => ⟨by rw [he, HD.out], m + k, by rw [hk, World.drewN_drewN]⟩
            go_wp2
            go_quiet ((go_at_call 110; exact HSA.out _))
            go_wp2
            go_roundw
            case rel => exact ⟨x + 1, by omega, by go_num, Lib.hid (by rw [HX.out, HST.out]), Lib.hid (by obtain ⟨m, hm⟩ := HW2.out; exact ⟨m + nq, by rw [hm, World.drewN_drewN]⟩)⟩
            case measure => simp [intOf]; omega
          · have hne : ¬ cmpL X Y = 0 := fun e => hc ((cmpL_eq _ _).1 e)
            rw [if_neg hne] at hst
            have HR2 : Hid (decide (cmpL X Y < 0) = befS us bs) := Lib.hid (by rw [HX.out, hst])
            obtain ⟨D, HDD⟩ : ∃ D, Hid (decide (cmpL X Y < 0) = D) := ⟨_, rfl⟩
            have HD : Hid (decide (X = Y) = false) := Lib.hid (by simp [hc])
            clear hst hne
            have HSA : Hid (∀ m, Calls Tryz.prog 110 #[.slice a3 n3 c3, .slice a4 n4 c4] (wr.drewN m) fun e w'' => e = .returned (.bool false) ∧ ∃ k, w'' = wr.drewN k) := Lib.hid fun m => (l01Same_any a3 a4 n3 n4 c3 c4 X Y (wr.drewN m) (r3.drewN m) (r4.drewN m) l3).mono fun e w'' ⟨he, k, hk⟩ => ⟨by rw [he, HD.out], m + k, by rw [hk, World.drewN_drewN]⟩
            go_wp2
            go_quiet ((go_at_call 110; exact HSA.out _))
            obtain ⟨wq, hwq⟩ : ∃ wq, wr.drewN nq = wq := ⟨_, rfl⟩
            have HSB : Hid (∀ m, Calls Tryz.prog 141 #[.slice a3 n3 c3, .slice a4 n4 c4] (wq.drewN m) fun e w'' => e = .returned (.bool D) ∧ ∃ k, w'' = wq.drewN k) := Lib.hid fun m => (l01Less_any a3 a4 n3 n4 c3 c4 X Y (wq.drewN m) (by rw [← hwq]; exact (r3.drewN nq).drewN m) (by rw [← hwq]; exact (r4.drewN nq).drewN m) l3).mono fun e w'' ⟨he, k, hk⟩ => ⟨by rw [he, HDD.out], m + k, by rw [hk, World.drewN_drewN]⟩
            have q1 : (wr.drewN nq).cell? _ = _ := g1
            have q2 : (wr.drewN nq).cell? _ = _ := g2
            have q3 : (wr.drewN nq).cell? _ = _ := g3
            have q4 : (wr.drewN nq).cell? _ = _ := g4
            have HWQ := Lib.hid hwq
            rw [hwq] at q1 q2 q3 q4
            rw [hwq]
            clear hwq g1 g2 g3 g4
            go_wp2
            go_quiet ((go_at_call 141; exact HSB.out _))
            go_wp2
            go_ret
            exact ⟨ret_bool (by rw [← HDD.out, HR2.out]), by obtain ⟨m, hm⟩ := HW2.out; exact ⟨_, by rw [← HWQ.out, hm, World.drewN_drewN, World.drewN_drewN]⟩⟩
        · obtain rfl : t.length = x := by omega
          have HE : Hid (befS us bs = r) := Lib.hid (by rw [HX.out, befT_end (Nat.le_refl _)])
          have j2 : ¬ (t.length : Int) < (nx : Int) := by omega
          clear h1r h2r t1 t2 hny
          go_wp2
          go_roundw
          case rel => exact ⟨k + 1, by omega, by go_num, Lib.hid (by rw [HE.out, HR.out]), HW2⟩
          case measure => simp [intOf]; omega
    · obtain rfl : m1 = k := by omega
      have HE : Hid (befS us bs = false) := Lib.hid (by rw [HK.out, befS_end (by have := HL1.out; omega)])
      go_wp2
      go_ret
      exact ⟨ret_bool HE.out.symm, HW.out⟩
end Go.Proofs.YtaddclaadbjnlaaGreat

namespace Go.Proofs.YtaddclaadbjnlaaGreat
set_option maxRecDepth 100000
set_option linter.unusedVariables false
set_option linter.unusedSimpArgs false
open Go.RowKit
def updQ (v : Nat → Nat → Int) (a b : Nat) (z : Int) : Nat → Nat → Int := fun x y => if x = a ∧ y = b then z else v x y
theorem tabQ_row {n : Nat} {v : Nat → Nat → Int} {x : Nat} (h : x < n) : (tabF n v).getD x [] = (List.range n).map fun y => v x y := tabF_get n v x h
theorem tabQ_val {n : Nat} {v : Nat → Nat → Int} {x y : Nat} (hx : x < n) (hy : y < n) : ((tabF n v).getD x []).getD y 0 = v x y := by
  rw [tabQ_row hx]; simp [List.getD_eq_getElem?_getD, List.getElem?_map, hy]
theorem tabQ_congr {n : Nat} {u v : Nat → Nat → Int} (h : ∀ x y, x < n → y < n → u x y = v x y) : tabF n u = tabF n v := by
  unfold tabF
  apply List.map_congr_left
  intro x hx
  apply List.map_congr_left
  intro y hy
  exact h x y (List.mem_range.1 hx) (List.mem_range.1 hy)
theorem tabQ_upd {n : Nat} {v : Nat → Nat → Int} {a b : Nat} (ha : a < n) (hb : b < n) (z : Int) : (tabF n v).set a (((tabF n v).getD a []).set b z) = tabF n (updQ v a b z) := by
  apply List.ext_getElem
  · simp [tabF]
  · intro i h1 h2
    have hi : i < n := by simpa [tabF] using h2
    have e2 : (tabF n (updQ v a b z))[i] = (List.range n).map fun y => updQ v a b z i y := by simp [tabF]
    rw [e2, List.getElem_set]
    by_cases e : a = i
    · subst e
      rw [if_pos rfl, tabQ_row ha]
      apply List.ext_getElem
      · simp
      · intro j g1 g2
        have hj : j < n := by simpa using g2
        rw [List.getElem_set]
        by_cases e : b = j
        · subst e; simp [updQ]
        · rw [if_neg e]; simp [updQ, fun h => e (Eq.symm h)]
          intro h; exact absurd h.symm e
    · rw [if_neg e]
      have : (tabF n v)[i]'(by simpa [tabF] using hi) = (List.range n).map fun y => v i y := by simp [tabF]
      rw [this]
      apply List.map_congr_left
      intro y hy
      simp [updQ, fun h => e (Eq.symm h)]
      intro h; exact absurd h.symm e
theorem OwnT.spotQ {w : World} {lo : Nat} {b : Option Addr} {n d : Nat} {vs : List SV} {v : Nat → Nat → Int} (h : OwnT w lo b n d vs (tabF n v)) {x : Nat} (hx : x < n) :
    ∃ gb g1 c1, b = some ⟨gb, 0, none⟩ ∧ vs.getD x svO = (some ⟨g1, 0, none⟩, n, c1) ∧ w.cell? ⟨gb, x, none⟩ = some (.slice (some ⟨g1, 0, none⟩) n c1) ∧ (∀ y, y < n → w.cell? ⟨g1, y, none⟩ = some (.int .i64 (v x y)) ∧ w.frozen? ⟨g1, y, none⟩ = false) ∧ TblS b n vs g1 := by
  obtain ⟨gb, hb, _, hc, _⟩ := h.cells (by omega)
  have hr := h.row x hx
  have hl := hr.len
  rw [tabQ_row hx] at hl
  have hk : (vs.getD x svO).2.1 = n := by simpa using hl
  obtain ⟨g1, o1, e1, _⟩ := hr.row.at x (by omega)
  rw [e1] at hr
  obtain ⟨rfl, h2, h3⟩ := hr.cells
  have hcx := hc x hx
  rw [e1, hk] at hcx
  refine ⟨gb, g1, _, hb, Prod.ext e1 (Prod.ext hk rfl), hcx, fun y hy => ⟨?_, h3 y⟩, .inr ⟨x, hx, e1⟩⟩
  have := h2 y (by omega)
  rw [this, tabQ_val hx hy]
theorem OwnT.putQ {w : World} {lo : Nat} {b : Option Addr} {n d : Nat} {vs : List SV} {v : Nat → Nat → Int} (h : OwnT w lo b n d vs (tabF n v)) {x y g1 c1 : Nat} (hx : x < n) (hy : y < n) (e : vs.getD x svO = (some ⟨g1, 0, none⟩, n, c1)) (z : Int) :
    OwnT (w.setCell ⟨g1, y, none⟩ (.int .i64 z)) lo b n d vs (tabF n (updQ v x y z)) := by
  have := h.setrow x hx (g := g1) (by rw [e]) y z
  rw [tabQ_upd hx hy] at this
  exact this
theorem OwnT.asetQ {w : World} {lo : Nat} {b : Option Addr} {n d : Nat} {vs : List SV} {F : List (List Int)} (h : OwnT w lo b n d vs F) {p : Addr} (hp : ∀ q, TblS b n vs q → q ≠ p.block) (u : Value) : OwnT (w.setCell p u) lo b n d vs F :=
  h.keep fun g hg _ => Below.heap_setCell _ _ _ _ (hp g hg)
end Go.Proofs.YtaddclaadbjnlaaGreat
