/-
  Walks and plain laws of this seat, some texts in one.
  No condition but bounds on lengths.
-/
import Derived.Test.YtaddclaadbjnlaaGreatPs6
import Derived.Test.YtaddclaadbjnlaaGreatPs29
import Derived.Test.YtaddclaadbjnlaaGreatPs31
import Derived.Test.YtaddclaadbjnlaaGreatPs30
import Derived.Test.YtaddclaadbjnlaaGreatPs7
import Derived.Test.YtaddclaadbjnlaaGreatPs1
import Derived.Shelf.SlSortCmp.WholeK
namespace Go.Proofs.YtaddclaadbjnlaaGreat
set_option maxRecDepth 100000
set_option linter.unusedVariables false
set_option linter.unusedSimpArgs false
open Go.RowKit
structure OwnRk (w : World) (lo : Nat) (a : Option Addr) (n c : Nat) (us : List TV) (ts : List (List (List Int))) : Prop where
  len : n = ts.length
  ulen : us.length = n
  hdr : w.ownsRow lo 34 1 (.slice a n c) n (us.map slT)
  tab : ∀ i, i < n → OwnV w lo (us.getD i tvO) (ts.getD i [])
  ap : ∀ i, i < n → ∀ g, a = some ⟨g, 0, none⟩ → ¬ TvS (us.getD i tvO) g
  pw : ∀ i j, i < n → j < n → i ≠ j → ∀ g, TvS (us.getD i tvO) g → ¬ TvS (us.getD j tvO) g
section
variable {w w' : World} {lo : Nat} {a : Option Addr} {n c : Nat} {us : List TV} {ts : List (List (List Int))}
theorem OwnRk.nil (w : World) (lo : Nat) : OwnRk w lo none 0 0 [] [] :=
  ⟨rfl, rfl, World.ownsRow_nil w lo _ 1, fun i h => absurd h (by omega), fun i h => absurd h (by omega), fun i j h => absurd h (by omega)⟩
theorem OwnRk.block (h : OwnRk w lo a n c us ts) : (a = none ∧ n = 0 ∧ c = 0) ∨ ∃ g cur, a = some ⟨g, 0, none⟩ ∧ lo ≤ g ∧ Loc w g cur 34 ∧ n ≤ c ∧ c ≤ maxLen ∧ cur.size = c ∧ cur.toList.take n = us.map slT := by
  rcases h.hdr.2 with ⟨h1, h2⟩ | ⟨g, cap, cur, h1, h2, h3, h4, h5, h6, h7⟩
  · cases h1; exact .inl ⟨rfl, rfl, rfl⟩
  · cases h1; exact .inr ⟨g, cur, rfl, h2, h3, h4, h5, by simpa using h6, by simpa using h7⟩
theorem ownsRowRk_mk {w : World} {lo g n c : Nat} {us : List TV} {cur : Array Value} (hn : us.length = n) (h1 : lo ≤ g) (h2 : Loc w g cur 34) (h3 : n ≤ c) (h4 : c ≤ maxLen) (h5 : cur.size = c) (h6 : cur.toList.take n = us.map slT) :
    w.ownsRow lo 34 1 (.slice (some ⟨g, 0, none⟩) n c) n (us.map slT) :=
  ⟨by simp [hn], .inr ⟨g, c, cur, rfl, h1, h2, h3, h4, by simpa using h5, by simpa using h6⟩⟩
theorem OwnRk.high (h : OwnRk w lo a n c us ts) : ∀ g, a = some ⟨g, 0, none⟩ → g < w.heap.size := by
  intro g hg
  rcases h.block with ⟨h1, _⟩ | ⟨g', cur, h1, h2, h3, _⟩
  · rw [h1] at hg; cases hg
  · rw [h1] at hg; cases hg; exact h3.lt
theorem OwnRk.low (h : OwnRk w lo a n c us ts) : ∀ g, a = some ⟨g, 0, none⟩ → lo ≤ g := by
  intro g hg
  rcases h.block with ⟨h1, _⟩ | ⟨g', cur, h1, h2, h3, _⟩
  · rw [h1] at hg; cases hg
  · rw [h1] at hg; cases hg; exact h2
theorem OwnRk.uLo (h : OwnRk w lo a n c us ts) : ∀ g, TTS a n us g → lo ≤ g := fun g hg => by
  rcases hg with hg | ⟨i, hi, hg⟩
  · exact h.low g hg
  · exact (h.tab i hi).uLo g hg
theorem OwnRk.uHi (h : OwnRk w lo a n c us ts) : ∀ g, TTS a n us g → g < w.heap.size := fun g hg => by
  rcases hg with hg | ⟨i, hi, hg⟩
  · exact h.high g hg
  · exact (h.tab i hi).uHi g hg
theorem OwnRk.keep (h : OwnRk w lo a n c us ts) (hk : ∀ g, TTS a n us g → g < w.heap.size → w'.heap[g]? = w.heap[g]?) : OwnRk w' lo a n c us ts := by
  refine ⟨h.len, h.ulen, ?_, fun i hi => OwnT.keep (h.tab i hi) fun g hg hlt => hk g (.inr ⟨i, hi, hg⟩) hlt, h.ap, h.pw⟩
  rcases h.block with ⟨h1, h2, h3⟩ | ⟨g, cur, h1, h2, h3, h4, h5, h6, h7⟩
  · subst h1 h2 h3
    have : us = [] := List.eq_nil_of_length_eq_zero h.ulen
    subst this; exact World.ownsRow_nil _ _ _ _
  · subst h1
    exact ownsRowRk_mk h.ulen h2 ((hk g (.inl rfl) h3.lt).trans h3) h4 h5 h6 h7
theorem OwnRk.below (h : OwnRk w lo a n c us ts) (hb : Below w.heap.size w w') : OwnRk w' lo a n c us ts := h.keep fun g _ hlt => hb.block g hlt
theorem OwnRk.alloc (h : OwnRk w lo a n c us ts) (o : Obj) : OwnRk (w.alloc o) lo a n c us ts := h.below ((Below.refl _ _).alloc (Nat.le_refl _) o)
theorem OwnRk.drewN (h : OwnRk w lo a n c us ts) (k : Nat) : OwnRk (w.drewN k) lo a n c us ts := h.keep fun _ _ _ => rfl
theorem OwnRk.mono {lo' : Nat} (h : OwnRk w lo a n c us ts) (hl : lo' ≤ lo) : OwnRk w lo' a n c us ts := by
  refine ⟨h.len, h.ulen, ?_, fun i hi => (h.tab i hi).mono hl, h.ap, h.pw⟩
  rcases h.block with ⟨h1, h2, h3⟩ | ⟨g, cur, h1, h2, h3, h4, h5, h6, h7⟩
  · subst h1 h2 h3
    have : us = [] := List.eq_nil_of_length_eq_zero h.ulen
    subst this; exact World.ownsRow_nil _ _ _ _
  · subst h1; exact ownsRowRk_mk h.ulen (Nat.le_trans hl h2) h3 h4 h5 h6 h7
theorem OwnRk.setlo (h : OwnRk w lo a n c us ts) {p : Addr} (hp : p.block < lo) (u : Value) : OwnRk (w.setCell p u) lo a n c us ts :=
  h.keep fun g hg _ => Below.heap_setCell _ _ _ _ (by have := h.uLo g hg; omega)
theorem OwnRk.marked (h : OwnRk w lo a n c us ts) {S : Nat → Prop} (hm : Marked S w w') (hS : ∀ g, TTS a n us g → ¬ S g) : OwnRk w' lo a n c us ts := h.keep fun g hg hlt => hm.block g hlt (hS g hg)
theorem OwnRk.cap (h : OwnRk w lo a n c us ts) : n ≤ c ∧ c ≤ 9223372036854775807 := by
  rcases h.block with ⟨_, h1, h2⟩ | ⟨g', cur, h1, h2, h3, h4, h5, _⟩
  · omega
  · unfold maxLen at h5; omega
theorem OwnRk.cells (h : OwnRk w lo a n c us ts) (hn : 0 < n) : ∃ g, a = some ⟨g, 0, none⟩ ∧ g < w.heap.size ∧ (∀ i, i < n → w.cell? ⟨g, i, none⟩ = some (slT (us.getD i tvO))) ∧ ∀ i, w.frozen? ⟨g, i, none⟩ = false := by
  rcases h.block with ⟨h1, h2, h3⟩ | ⟨g, cur, h1, h2, h3, h4, h5, h6, h7⟩
  · omega
  · refine ⟨g, h1, h3.lt, fun i hi => h3.cell i ?_, fun i => h3.free i⟩
    have hx : (cur.toList.take n)[i]? = (us.map slT)[i]? := by rw [h7]
    have hxi : i < us.length := by have := h.ulen; omega
    rw [List.getElem?_take, if_pos hi] at hx
    simp [List.getElem?_eq_getElem hxi] at hx
    simp [List.getD_eq_getElem?_getD, List.getElem?_eq_getElem hxi, hx]
theorem OwnRk.ownBlk (h : OwnRk w lo a n c us ts) {g : Nat} (e : (Value.slice a n c).ownBlock = some g) : a = some ⟨g, 0, none⟩ := by
  rcases h.block with ⟨r1, _⟩ | ⟨g2, cur, r1, _⟩
  · subst r1; simp [Value.ownBlock] at e
  · subst r1; simp [Value.ownBlock] at e; subst e; rfl
theorem OwnRk.snoc {o : Obj} {g cap : Nat} {u : TV} {t : List (List Int)} (h : OwnRk w lo a n c us ts) (hv : OwnV w lo u t) (h1 : ∀ q, TvS u q → ¬ TTS a n us q)
    (ho : w'.ownsRow lo 34 1 (.slice (some ⟨g, 0, none⟩) (n + 1) cap) (n + 1) (us.map slT ++ [slT u]))
    (hg : w.grownBy w' (Value.slice a n c).ownBlock) (hat : (Value.slice a n c).ownBlock = some g ∨ w.heap.size ≤ g) : OwnRk w' lo (some ⟨g, 0, none⟩) (n + 1) cap (us ++ [u]) (ts ++ [t]) := by
  have hl := h.len
  have hul := h.ulen
  have gl : ∀ i, i < n → (us ++ [u]).getD i tvO = us.getD i tvO := fun i hi => by simp [List.getD_eq_getElem?_getD, List.getElem?_append_left (show i < us.length by omega)]
  have gn : (us ++ [u]).getD n tvO = u := by rw [← hul]; simp [List.getD_eq_getElem?_getD]
  have xl : ∀ i, i < n → (ts ++ [t]).getD i [] = ts.getD i [] := fun i hi => by simp [List.getD_eq_getElem?_getD, List.getElem?_append_left (show i < ts.length by omega)]
  have xn : (ts ++ [t]).getD n [] = t := by rw [hl]; simp [List.getD_eq_getElem?_getD]
  have keepR : ∀ i, i < n → OwnV w' lo (us.getD i tvO) (ts.getD i []) := fun i hi => OwnT.keep (h.tab i hi) fun q hq hlt => hg.block q hlt fun e => h.ap i hi q (h.ownBlk e.symm) hq
  have keepV : OwnV w' lo u t := OwnT.keep hv fun q hq hlt => hg.block q hlt fun e => h1 q hq (.inl (h.ownBlk e.symm))
  refine ⟨by simp [hl], by simp [hul], by simpa using ho, fun i hi => ?_, fun i hi q hq hs => ?_, fun i j hi hj hij q h3 h4 => ?_⟩
  · by_cases e : i < n
    · rw [gl i e, xl i e]; exact keepR i e
    · obtain rfl : i = n := by omega
      rw [gn, xn]; exact keepV
  · cases hq
    by_cases e : i < n
    · rw [gl i e] at hs
      rcases hat with hat | hat
      · exact h.ap i e g (h.ownBlk hat) hs
      · have := (h.tab i e).uHi g hs; omega
    · obtain rfl : i = n := by omega
      rw [gn] at hs
      rcases hat with hat | hat
      · exact h1 g hs (.inl (h.ownBlk hat))
      · have := OwnT.uHi hv g hs; omega
  · by_cases e : i < n
    · rw [gl i e] at h3
      by_cases e' : j < n
      · rw [gl j e'] at h4; exact h.pw i j e e' hij q h3 h4
      · obtain rfl : j = n := by omega
        rw [gn] at h4; exact h1 q h4 (.inr ⟨i, e, h3⟩)
    · obtain rfl : i = n := by omega
      rw [gn] at h3
      have e' : j < i := by omega
      rw [gl j e'] at h4; exact h1 q h3 (.inr ⟨j, e', h4⟩)
end
end Go.Proofs.YtaddclaadbjnlaaGreat
namespace Go.Proofs.YtaddclaadbjnlaaGreat
set_option maxRecDepth 100000
set_option linter.unusedVariables false
set_option linter.unusedSimpArgs false
structure Cmp {α : Type} (c : α → α → Int) : Prop where
  eq : ∀ x y, c x y = 0 ↔ x = y
  anti : ∀ x y, c y x = - c x y
  trans : ∀ x y z, c x y < 0 → c y z < 0 → c x z < 0
theorem cmpI_cmp : Cmp cmpI := by
  refine ⟨fun x y => cmpI_eq, fun x y => ?_, fun x y z h1 h2 => ?_⟩
  · unfold cmpI
    by_cases h1 : x < y
    · rw [if_pos h1, if_neg (by omega), if_pos h1]; rfl
    · by_cases h2 : y < x
      · simp [h1, h2]
      · simp [h1, h2]
  · unfold cmpI at *
    split at h1
    · split at h2
      · rw [if_pos (by omega)]; omega
      · split at h2 <;> omega
    · split at h1 <;> omega
theorem cmpG_cmp {α : Type} {c : α → α → Int} (h : Cmp c) : Cmp (cmpG c) := by
  refine ⟨cmpG_eq h.eq, ?_, ?_⟩
  · intro xs
    induction xs with
    | nil => intro ys; cases ys <;> simp [cmpG]
    | cons x xs ih =>
      intro ys
      cases ys with
      | nil => simp [cmpG]
      | cons y ys =>
        simp only [cmpG]
        have h1 := h.anti x y
        by_cases e : c x y = 0
        · rw [if_pos e, if_pos (by omega)]; exact ih ys
        · rw [if_neg e, if_neg (by omega)]; exact h1
  · intro xs
    induction xs with
    | nil =>
      intro ys zs h1 h2
      cases ys with
      | nil => exact h2
      | cons y ys => cases zs with
        | nil => simp [cmpG] at h2
        | cons z zs => simp [cmpG]
    | cons x xs ih =>
      intro ys zs h1 h2
      cases ys with
      | nil => simp [cmpG] at h1
      | cons y ys =>
        cases zs with
        | nil => simp [cmpG] at h2
        | cons z zs =>
          simp only [cmpG] at *
          by_cases e1 : c x y = 0
          · rw [if_pos e1] at h1
            have : x = y := (h.eq _ _).1 e1
            subst this
            by_cases e2 : c x z = 0
            · rw [if_pos e2] at h2 ⊢; exact ih _ _ h1 h2
            · rw [if_neg e2] at h2 ⊢; exact h2
          · rw [if_neg e1] at h1
            by_cases e2 : c y z = 0
            · have : y = z := (h.eq _ _).1 e2
              subst this
              rw [if_neg e1]; exact h1
            · rw [if_neg e2] at h2
              have h3 := h.trans x y z h1 h2
              rw [if_neg (by omega)]; exact h3
theorem cmpL_cmp : Cmp cmpL := cmpG_cmp cmpI_cmp
theorem Cmp.refl {α : Type} {c : α → α → Int} (h : Cmp c) (x : α) : c x x = 0 := (h.eq x x).2 rfl
def allT (ps : List (List Int)) : Nat → List (List Int) → List (List (List Int))
  | 0, o => [o]
  | m + 1, o => ps.flatMap fun p => allT ps m (o ++ [p])
theorem allT_mem {ps : List (List Int)} : ∀ (m : Nat) (o t : List (List Int)), t ∈ allT ps m o → ∃ r, t = o ++ r ∧ r.length = m ∧ ∀ p ∈ r, p ∈ ps := by
  intro m
  induction m with
  | zero => intro o t h; simp [allT] at h; exact ⟨[], by simp [h], rfl, by simp⟩
  | succ m ih =>
    intro o t h
    simp only [allT, List.mem_flatMap] at h
    obtain ⟨p, hp, ht⟩ := h
    obtain ⟨r, h1, h2, h3⟩ := ih _ _ ht
    exact ⟨p :: r, by rw [h1]; simp, by simp [h2], fun q hq => by
      rcases List.mem_cons.1 hq with e | e
      · rw [e]; exact hp
      · exact h3 q e⟩
theorem filter_flatMap' {α β : Type} (l : List α) (f : α → List β) (p : β → Bool) : (l.flatMap f).filter p = l.flatMap fun a => (f a).filter p := by
  induction l with
  | nil => rfl
  | cons a l ih => simp [List.flatMap_cons, List.filter_append, ih]
theorem flatMap_congr' {α β : Type} {l : List α} {f g : α → List β} (h : ∀ a ∈ l, f a = g a) : l.flatMap f = l.flatMap g := by
  induction l with
  | nil => rfl
  | cons a l ih => rw [List.flatMap_cons, List.flatMap_cons, h a (by simp), ih fun b hb => h b (by simp [hb])]
theorem filter_none {α : Type} {l : List α} {p : α → Bool} (h : ∀ a ∈ l, p a = false) : l.filter p = [] := by
  rw [List.filter_eq_nil_iff]; intro a ha; rw [h a ha]; simp
theorem rowG_filter {ps : List (List Int)} {fits : List (List Int) → Bool} (hm : ∀ o r, fits (o ++ r) = true → fits o = true) : ∀ (m : Nat) (o : List (List Int)), rowG ps fits (m + 1) o = (allT ps (m + 1) o).filter fits := by
  intro m
  induction m with
  | zero =>
    intro o
    unfold rowG allT
    rw [filter_flatMap']
    refine flatMap_congr' fun p _ => ?_
    unfold rowG allT
    cases h : fits (o ++ [p]) <;> simp [h]
  | succ m ih =>
    intro o
    have e1 : rowG ps fits (m + 1 + 1) o = ps.flatMap fun p => if fits (o ++ [p]) then rowG ps fits (m + 1) (o ++ [p]) else [] := rfl
    have e2 : allT ps (m + 1 + 1) o = ps.flatMap fun p => allT ps (m + 1) (o ++ [p]) := rfl
    rw [e1, e2, filter_flatMap']
    refine flatMap_congr' fun p _ => ?_
    cases h : fits (o ++ [p]) with
    | true => rw [if_pos rfl, ih]
    | false =>
      rw [if_neg (by simp)]
      symm
      refine filter_none fun t ht => ?_
      obtain ⟨r, h1, _, _⟩ := allT_mem _ _ _ ht
      cases e : fits t with
      | false => rfl
      | true => rw [h1] at e; rw [hm _ _ e] at h; cases h
theorem rowL_filter {n : Nat} (h1 : 1 ≤ n) {fits : List (List Int) → Bool} (hm : ∀ o r, fits (o ++ r) = true → fits o = true) : rowL n fits = (allT (prmL n) n []).filter fits := by
  obtain ⟨m, rfl⟩ : ∃ m, n = m + 1 := ⟨n - 1, by omega⟩
  exact rowG_filter hm m []
end Go.Proofs.YtaddclaadbjnlaaGreat
namespace Go.Proofs.YtaddclaadbjnlaaGreat
set_option maxRecDepth 100000
set_option linter.unusedVariables false
set_option linter.unusedSimpArgs false
open Go.RowKit
def leaF (n : Nat) (us best : List (List (List Int))) (p : List Int) : List (List (List Int)) := if befS (imgL n p us) best then imgL n p us else best
def leaK (n : Nat) (us : List (List (List Int))) (k : Nat) : List (List (List Int)) := ((prmL n).take k).foldl (leaF n us) us
def leaS (n : Nat) (us : List (List (List Int))) : List (List (List Int)) := (prmL n).foldl (leaF n us) us
theorem leaK_succ (n : Nat) (us : List (List (List Int))) {k : Nat} (h : k < (prmL n).length) : leaK n us (k + 1) = leaF n us (leaK n us k) ((prmL n).getD k []) := by
  unfold leaK
  rw [List.take_succ_eq_append_getElem h, List.foldl_append]
  simp [List.getD_eq_getElem?_getD, List.getElem?_eq_getElem h]
theorem leaK_all (n : Nat) (us : List (List (List Int))) {k : Nat} (h : (prmL n).length ≤ k) : leaK n us k = leaS n us := by
  unfold leaK leaS; rw [List.take_of_length_le h]
def ShQ (m n : Nat) (A : List (List (List Int))) : Prop := ∀ k, k < m → (A.getD k []).length = n ∧ ∀ y ∈ A.getD k [], y.length = n
theorem ShQ.of {m n : Nat} {A : List (List (List Int))} (h : ∀ k, k < m → Sq n (A.getD k [])) : ShQ m n A := fun k hk => ⟨(h k hk).1, fun y hy => by
  obtain ⟨i, hi, rfl⟩ := List.getElem_of_mem hy
  have := ((h k hk).2 i (by rw [(h k hk).1] at hi; exact hi)).1
  rwa [List.getD_eq_getElem?_getD (l := A.getD k []), List.getElem?_eq_getElem hi] at this⟩
theorem ShQ.img {m n : Nat} {us : List (List (List Int))} (h : m = us.length) (p : List Int) : ShQ m n (imgL n p us) := fun k hk => by
  have e : (imgL n p us).getD k [] = rnL n (us.getD k []) p := by
    unfold imgL
    simp [List.getD_eq_getElem?_getD, List.getElem?_eq_getElem (show k < us.length by omega)]
  rw [e]
  refine ⟨rnL_len _ _ _, fun y hy => ?_⟩
  unfold rnL tabF at hy
  obtain ⟨x, _, rfl⟩ := List.mem_map.1 hy
  simp
set_option maxHeartbeats 8000000 in
theorem l03Least_any (n m : Nat) (a1 : Option Addr) (c1 : Nat) (us : List (List (List Int))) (w : World) (h1 : TbS w a1 m us) (hn0 : 1 ≤ n) (hn : n ≤ 4) (hm0 : 0 < m) (hm : m ≤ 1000000) (hs : ∀ k, k < m → Sq n (us.getD k [])) :
    Calls Tryz.prog 59 #[.slice a1 m c1, .bool false] w fun e w' => ∃ a c vs, e = .returned (.slice a m c) ∧ OwnTT w' w.heap.size a m c vs (leaS n us) ∧ Below w.heap.size w w' := by
  have HL1 := Lib.hid h1.len; have HS := Lib.hid hs
  obtain ⟨A, HA⟩ : ∃ A, Hid (leaS n us = A) := ⟨_, rfl⟩
  rw [HA.out]
  obtain ⟨b0, o0, at0, nt0, ct0, e0, g0, t0, l0⟩ := h1.at 0 hm0
  obtain rfl : n = nt0 := by have := t0.len; rw [(hs 0 hm0).1] at this; exact this.symm
  subst e0
  have hm00 : (0 : Int) < (m : Int) := by omega
  rw [Nat.add_zero] at g0
  clear hs t0
  go_enter Tryz.func59, Tryz.ntmps59
  go_wp2_with fail
  refine (l01Perms_any n _ (by omega)).mono ?_
  rintro e w0 ⟨ap, P, cp, vp, rfl, hp0, hbp⟩
  have h10 := h1.below hbp
  have h20 := hp0.tbl
  have HPS : Hid (∀ i, i < P → IsP n ((prmL n).getD i [])) := Lib.hid fun i hi => prm_isP hn0 hn i (by have := h20.len; omega)
  have HP2 := Lib.hid h20.len
  have hPb : P ≤ 1000000 := by have := h20.len; have := prm_bd hn0 hn; omega
  have HZ := Lib.hid hbp.size
  clear hp0 h1 g0
  go_wp2
  go_loopw [6, 7, 8, 9] (fun vb i _ _ wr => ∃ (x : Nat) (ab : Option Addr) (cb : Nat), x ≤ P ∧ i = .int .i64 x ∧ vb = .slice ab m cb ∧ TbS wr ab m (leaK n us x) ∧ Below w.heap.size w wr ∧ Below w0.heap.size w0 wr ∧ Hid (ShQ m n (leaK n us x))) (fun _ i _ _ _ => P - (intOf i).toNat)
  case atStart => exact ⟨0, _, _, Nat.zero_le _, rfl, rfl, by simpa [leaK] using h10, hbp, Below.refl _ _, Lib.hid (by simpa [leaK] using ShQ.of HS.out)⟩
  case round =>
    obtain ⟨x, ab, cb, hx, rfl, rfl, hB, hq0, hq2, HBL⟩ := hrel
    by_cases hlt : x < P
    · have hwq := hq0.size
      have hpx := HPS.out x hlt
      obtain ⟨p, HPP⟩ : ∃ p, Hid ((prmL n).getD x [] = p) := ⟨_, rfl⟩
      rw [HPP.out] at hpx
      have HPX := Lib.hid hpx
      have i1 : (0 : Int) ≤ (x : Int) := by omega
      have i2 : (x : Int) < (P : Int) := by omega
      obtain ⟨w1, hw1⟩ : ∃ w1, wr.alloc (.cells #[] 32) = w1 := ⟨_, rfl⟩
      have hz1 : w1.heap.size = wr.heap.size + 1 := by rw [← hw1]; simp
      have hB1 : Below w.heap.size w w1 := by rw [← hw1]; exact below_al hq0 _
      have hq9 : Below wr.heap.size wr w1 := by rw [← hw1]; exact below_al (Below.refl _ _) _
      obtain ⟨B0, hB0⟩ : ∃ B0, B0 = wr.heap.size := ⟨_, rfl⟩
      have hwB : w.heap.size ≤ B0 := by omega
      have hO1 : OwnTT w1 B0 (some ⟨wr.heap.size, 0, none⟩) 0 0 [] [] := by
        rw [← hw1, hB0]
        exact ⟨rfl, rfl, ownsRowT_mk rfl (Nat.le_refl _) (Loc.new wr rfl _ _) (Nat.le_refl _) (by unfold maxLen; omega) rfl rfl, fun i h => absurd h (by omega), fun i h => absurd h (by omega), fun i j h => absurd h (by omega)⟩
      clear hpx
      go_wp2
      go_loopw [8, 9] (fun s i wr2 => ∃ (k : Nat) (a' : Option Addr) (c' : Nat) (vs : List TV), k ≤ m ∧ i = .int .i64 k ∧ s = .slice a' k c' ∧ OwnTT wr2 B0 a' k c' vs (imgL n p (us.take k)) ∧ Below w.heap.size w wr2 ∧ B0 ≤ wr2.heap.size ∧ Below wr.heap.size wr wr2) (fun _ i _ => m - (intOf i).toNat)
      case atStart => exact ⟨0, _, 0, [], Nat.zero_le _, rfl, rfl, by simpa [imgL] using hO1, hB1, by omega, hq9⟩
      case round =>
        clear hO1 hB1 hz1 hw1 hq0 hq9
        obtain ⟨k, a', c', vs, hk, rfl, rfl, hO, hq, hwz, hqB⟩ := hrel
        have hq3 := below_th hq2 hqB
        by_cases hlk : k < m
        · have h1r := h10.below hq3
          have h2r := h20.below hq3
          obtain ⟨b1, o1, at_, nt, ct, e1, g1, t1, l1⟩ := h1r.at k hlk
          cases e1
          obtain ⟨b2, o2, ap, np, cp, rfl, g2, r2, l2⟩ := h2r.at x hlt
          rw [HPP.out] at r2
          obtain ⟨t, HT⟩ : ∃ t, Hid (us.getD k [] = t) := ⟨_, rfl⟩
          rw [HT.out] at t1
          have hsq : Sq n t := by rw [← HT.out]; exact HS.out k hlk
          obtain rfl : n = nt := by have := t1.len; rw [hsq.1] at this; exact this.symm
          obtain rfl : n = np := by have := r2.len; rw [HPX.out.len] at this; exact this.symm
          have HSQ := Lib.hid hsq
          have HIT : Hid (imgL n p (us.take (k + 1)) = imgL n p (us.take k) ++ [rnL n t p]) := Lib.hid (by rw [imgL_take (by have := HL1.out; omega), HT.out])
          have HOU := Lib.hid hO.uHi
          have HOB := Lib.hid (fun g (e : (Value.slice a' k c').ownBlock = some g) => hO.ownBlk e)
          have j1 : (0 : Int) ≤ (k : Int) := by omega
          have j2 : (k : Int) < (m : Int) := by omega
          have hO1 := hO.drewN 1
          have t1d := t1.drewN 1
          have r2d := r2.drewN 1
          clear hsq h1r h2r
          go_wp2
          go_region_law (first
            | (refine step_appTTn rfl rfl hO3 rfl ho3 HQ3.out rfl ?_ ?_ ?_; (omega); (omega); intro g' cc w8 hO8 hg8 hat8 hb8)
            | (go_simp; go_at_call 108; refine (l03Image_any n at_ ap ct cp t p _ t1d r2d HSQ.out HPX.out hn0 (by omega)).mono ?_; rintro e w3 ⟨a3, c3, vs3, rfl, ho3', hb3⟩; have hz3 : B0 ≤ w3.heap.size := Nat.le_trans hwz hb3.size; have ho3 : OwnT w3 B0 a3 n c3 vs3 (rnL n t p) := ho3'.mono hwz; have hO3 := hO1.below hb3; have HQ3 : Hid (∀ q, TblS a3 n vs3 q → ¬ TTS a' k vs q) := Lib.hid (fun q h1 h2 => by have := ho3'.uLo q h1; have h4 := HOU.out q h2; have : wr.heap.size ≤ q := this; omega)))
          all_goals
            go_wp2
            go_roundw
            case rel => exact ⟨k + 1, _, cc, _, by omega, by go_num, rfl, by rw [HIT.out]; exact hO8, (below_drewN hq 1).trans ((hb3.mono (show w.heap.size ≤ (wr.drewN 1).heap.size by exact Nat.le_trans hwB hwz)).trans (hb8.mono hwB)), Nat.le_trans hz3 hb8.size, (below_drewN hqB 1).trans ((hb3.mono (by rw [← hB0]; exact hwz)).trans (hb8.mono (by omega)))⟩
            case measure => simp [intOf]; omega
        · obtain rfl : m = k := by omega
          have hE : us.take m = us := by rw [List.take_of_length_le (by have := HL1.out; omega)]
          rw [hE] at hO
          have hB8 := hB.below hqB
          have hIL : ShQ m n (imgL n p us) := ShQ.img HL1.out p
          have HLN : Hid (∀ k, k < m → ((imgL n p us).getD k []).length ≤ ((leaK n us x).getD k []).length) := Lib.hid fun k hk => by rw [(hIL k hk).1, (HBL.out k hk).1]; exact Nat.le_refl _
          have HIL := Lib.hid hIL
          have HKS : Hid (leaK n us (x + 1) = leaF n us (leaK n us x) p) := Lib.hid (by rw [leaK_succ n us (by have := HP2.out; omega), HPP.out])
          obtain ⟨B, HBB⟩ : ∃ B, Hid (befS (imgL n p us) (leaK n us x) = B) := ⟨_, rfl⟩
          clear hE hIL
          cases B with
          | true =>
            have HK2 : Hid (leaK n us (x + 1) = imgL n p us) := Lib.hid (by rw [HKS.out]; unfold leaF; rw [HBB.out, if_pos rfl])
            go_wp2_with fail
            refine (l03Before_any _ _ _ _ _ _ _ _ _ hO.tbS hB8 (Nat.le_refl _) (by omega) HLN.out).mono ?_
            rintro e w5 ⟨rfl, hw5⟩
            rw [HBB.out]
            obtain ⟨q, hw5⟩ := hw5
            have t5 : TbS w5 a' m (imgL n p us) := by rw [hw5]; exact hO.tbS.drewN q
            have hq5 : Below w.heap.size w w5 := by rw [hw5]; exact below_drewN hq q
            have hq6 : Below w0.heap.size w0 w5 := by rw [hw5]; exact below_drewN (below_th hq2 hqB) q
            clear hw5
            go_wp2
            go_roundw
            case rel => exact ⟨x + 1, _, _, by omega, by go_num, rfl, by rw [HK2.out]; exact t5, hq5, hq6, Lib.hid (by rw [HK2.out]; exact HIL.out)⟩
            case measure => simp [intOf]; omega
          | false =>
            have HK2 : Hid (leaK n us (x + 1) = leaK n us x) := Lib.hid (by rw [HKS.out]; unfold leaF; rw [HBB.out]; rfl)
            go_wp2_with fail
            refine (l03Before_any _ _ _ _ _ _ _ _ _ hO.tbS hB8 (Nat.le_refl _) (by omega) HLN.out).mono ?_
            rintro e w5 ⟨rfl, hw5⟩
            rw [HBB.out]
            obtain ⟨q, hw5⟩ := hw5
            have t5 : TbS w5 ab m (leaK n us x) := by rw [hw5]; exact hB8.drewN q
            have hq5 : Below w.heap.size w w5 := by rw [hw5]; exact below_drewN hq q
            have hq6 : Below w0.heap.size w0 w5 := by rw [hw5]; exact below_drewN (below_th hq2 hqB) q
            clear hw5
            go_wp2
            go_roundw
            case rel => exact ⟨x + 1, _, _, by omega, by go_num, rfl, by rw [HK2.out]; exact t5, hq5, hq6, Lib.hid (by rw [HK2.out]; exact HBL.out)⟩
            case measure => simp [intOf]; omega
    · obtain rfl : P = x := by omega
      have hE : leaK n us P = leaS n us := leaK_all n us (by have := HP2.out; omega)
      rw [hE] at hB HBL
      have HLB := Lib.hid hB.len
      rw [HA.out] at hB HBL HLB
      clear hE
      obtain ⟨w1, hw1⟩ : ∃ w1, wr.alloc (.cells #[] 32) = w1 := ⟨_, rfl⟩
      have hwz := hq0.size
      have hO1 : OwnTT w1 wr.heap.size (some ⟨wr.heap.size, 0, none⟩) 0 0 [] [] := by
        rw [← hw1]
        exact ⟨rfl, rfl, ownsRowT_mk rfl (Nat.le_refl _) (Loc.new wr rfl _ _) (Nat.le_refl _) (by unfold maxLen; omega) rfl rfl, fun i h => absurd h (by omega), fun i h => absurd h (by omega), fun i j h => absurd h (by omega)⟩
      have hq1 : Below wr.heap.size wr w1 := by rw [← hw1]; exact below_al (Below.refl _ _) _
      obtain ⟨B0, hB0⟩ : ∃ B0, B0 = wr.heap.size := ⟨_, rfl⟩
      go_wp2
      clear hwz hB0
      go_loopw [10, 11] (fun z i wr2 => ∃ (k : Nat) (az : Option Addr) (cz : Nat) (vz : List TV), k ≤ m ∧ i = .int .i64 k ∧ z = .slice az k cz ∧ OwnTT wr2 wr.heap.size az k cz vz (A.take k) ∧ Below wr.heap.size wr wr2) (fun _ i _ => m - (intOf i).toNat)
      case atStart => exact ⟨0, _, 0, [], Nat.zero_le _, rfl, rfl, by simpa using hO1, hq1⟩
      case round =>
        clear hO1 hq1 hw1
        obtain ⟨k, az, cz, vz, hk, rfl, rfl, ho, hb⟩ := hrel
        by_cases hlk : k < m
        · have hq := hq0.trans (hb.mono hq0.size)
          obtain ⟨b, off, ai, ni, ci, rfl, g1, hr, hni⟩ := (hB.below hb).at k hlk
          obtain ⟨t, HT⟩ : ∃ t, Hid (A.getD k [] = t) := ⟨_, rfl⟩
          have hsh := HBL.out k hlk
          rw [HT.out] at hr hsh
          obtain rfl : n = ni := by rw [hr.len]; exact hsh.1.symm
          have HSH := Lib.hid hsh.2
          have hkA : k < A.length := by have := HLB.out; omega
          have HTK : Hid (A.take (k + 1) = A.take k ++ [t]) := Lib.hid (by rw [← HT.out, List.take_succ_eq_append_getElem hkA]; simp [List.getD_eq_getElem?_getD, List.getElem?_eq_getElem hkA])
          have j1 : (0 : Int) ≤ (k : Int) := by omega
          have j2 : (k : Int) < (m : Int) := by omega
          clear hsh
          go_wp2_with fail
          refine (l01Own2_any _ _ _ t _ hr (by omega) (fun x hx => by rw [HSH.out x hx]; omega)).mono ?_
          rintro e w2 ⟨a2, c2, v2, rfl, ho2, hb2⟩
          have hqs := hb.size
          have hz2 := ho.below hb2
          have hq3 := below_th hb hb2
          have hs2 := hb2.size
          have HHI := Lib.hid ho.uHi
          have HLO := Lib.hid ho2.uLo
          go_wp2_with (at_builtin; refine appTT rfl rfl hz2 rfl (ho2.mono hb.size) (fun q h1 h2 => by have h3 := HLO.out q h1; have h4 := HHI.out q h2; omega) rfl (by omega) (by omega) ?_; intro g' cc w8 hO8 hg8 hat8 hb8)
          go_roundw
          case rel => exact ⟨k + 1, _, cc, _, by omega, by go_num, rfl, by rw [HTK.out]; exact hO8, hq3.trans hb8⟩
          case measure => simp [intOf]; omega
        · obtain rfl : m = k := by omega
          go_wp2
          go_ret
          refine ⟨az, cz, vz, rfl, ?_, hq0.trans (hb.mono hq0.size)⟩
          rw [List.take_of_length_le (by have := HLB.out; omega)] at ho
          exact ho.mono hq0.size
end Go.Proofs.YtaddclaadbjnlaaGreat
namespace Go.Proofs.YtaddclaadbjnlaaGreat
set_option maxRecDepth 100000
open Go.Shelf
def sortSo_ren : Go.Shelf.Ren := ⟨fun | 6 => 111 | 15 => 143 | 14 => 142 | 28 => 168 | 29 => 169 | 20 => 160 | 21 => 161 | 22 => 162 | 23 => 163 | 24 => 164 | 25 => 165 | 26 => 166 | 27 => 167 | 46 => 181 | 47 => 182 | 48 => 183 | 49 => 184 | 50 => 185 | 57 => 188 | n => n, fun | 22 => 45 | 24 => 53 | 25 => 91 | 3 => 3 | 39 => 112 | 0 => 0 | 53 => 155 | 55 => 92 | 4 => 4 | 46 => 148 | 45 => 147 | 50 => 152 | 5 => 5 | 9 => 9 | 66 => 161 | 70 => 165 | 76 => 168 | 77 => 169 | n => n, fun | n => n⟩
theorem sortSo : Go.Proofs.SlLaysF0.n6 Tryz.prog sortSo_ren := {
  mixed := by kernel_rfl
  f6 := ⟨Tryz.f111.name, by decide, Tryz.func111.trans (congrArg some (by kernel_rfl))⟩
  f14 := ⟨Tryz.f142.name, by decide, Tryz.func142.trans (congrArg some (by kernel_rfl))⟩
  f15 := Tryz.func143.trans (congrArg some (by kernel_rfl))
  f20 := ⟨Tryz.f160.name, by decide, Tryz.func160.trans (congrArg some (by kernel_rfl))⟩
  f21 := ⟨Tryz.f161.name, by decide, Tryz.func161.trans (congrArg some (by kernel_rfl))⟩
  f22 := ⟨Tryz.f162.name, by decide, Tryz.func162.trans (congrArg some (by kernel_rfl))⟩
  f23 := ⟨Tryz.f163.name, by decide, Tryz.func163.trans (congrArg some (by kernel_rfl))⟩
  f24 := ⟨Tryz.f164.name, by decide, Tryz.func164.trans (congrArg some (by kernel_rfl))⟩
  f25 := ⟨Tryz.f165.name, by decide, Tryz.func165.trans (congrArg some (by kernel_rfl))⟩
  f26 := ⟨Tryz.f166.name, by decide, Tryz.func166.trans (congrArg some (by kernel_rfl))⟩
  f27 := ⟨Tryz.f167.name, by decide, Tryz.func167.trans (congrArg some (by kernel_rfl))⟩
  f28 := Tryz.func168.trans (congrArg some (by kernel_rfl))
  f29 := Tryz.func169.trans (congrArg some (by kernel_rfl))
  f46 := ⟨Tryz.f181.name, by decide, Tryz.func181.trans (congrArg some (by kernel_rfl))⟩
  f47 := Tryz.func182.trans (congrArg some (by kernel_rfl))
  f48 := Tryz.func183.trans (congrArg some (by kernel_rfl))
  f49 := ⟨Tryz.f184.name, by decide, Tryz.func184.trans (congrArg some (by kernel_rfl))⟩
  f50 := ⟨Tryz.f185.name, by decide, Tryz.func185.trans (congrArg some (by kernel_rfl))⟩
  f57 := ⟨Tryz.f188.name, by decide, Tryz.func188.trans (congrArg some (by kernel_rfl))⟩
  t0 := Tryz.underlying0
  a0 := Tryz.isAgg0
  z0 := Tryz.sizeOf0
  v0 := Tryz.zeroValue0
  t3 := Tryz.underlying3
  a3 := Tryz.isAgg3
  z3 := Tryz.sizeOf3
  v3 := Tryz.zeroValue3
  t4 := Tryz.underlying4
  a4 := Tryz.isAgg4
  z4 := Tryz.sizeOf4
  v4 := Tryz.zeroValue4
  t5 := Tryz.underlying5
  a5 := Tryz.isAgg5
  z5 := Tryz.sizeOf5
  v5 := Tryz.zeroValue5
  t9 := Tryz.underlying9
  a9 := Tryz.isAgg9
  z9 := Tryz.sizeOf9
  v9 := Tryz.zeroValue9
  t22 := Tryz.underlying45
  a22 := Tryz.isAgg45
  z22 := Tryz.sizeOf45
  v22 := Tryz.zeroValue45
  t25 := Tryz.underlying91
  a25 := Tryz.isAgg91
  z25 := Tryz.sizeOf91
  v25 := Tryz.zeroValue91
  t39 := Tryz.underlying112
  a39 := Tryz.isAgg112
  z39 := Tryz.sizeOf112
  v39 := Tryz.zeroValue112
  t45 := Tryz.underlying147
  a45 := Tryz.isAgg147
  z45 := Tryz.sizeOf147
  v45 := Tryz.zeroValue147
  t46 := Tryz.underlying148
  a46 := Tryz.isAgg148
  z46 := Tryz.sizeOf148
  v46 := Tryz.zeroValue148
  t50 := Tryz.underlying152
  a50 := Tryz.isAgg152
  z50 := Tryz.sizeOf152
  v50 := Tryz.zeroValue152
  t53 := Tryz.underlying155
  a53 := Tryz.isAgg155
  z53 := Tryz.sizeOf155
  v53 := Tryz.zeroValue155
  t55 := Tryz.underlying92
  a55 := Tryz.isAgg92
  z55 := Tryz.sizeOf92
  v55 := Tryz.zeroValue92
  t66 := Tryz.underlying161
  a66 := Tryz.isAgg161
  z66 := Tryz.sizeOf161
  v66 := Tryz.zeroValue161
  t70 := Tryz.underlying165
  a70 := Tryz.isAgg165
  z70 := Tryz.sizeOf165
  v70 := Tryz.zeroValue165
  t76 := Tryz.underlying168
  a76 := Tryz.isAgg168
  z76 := Tryz.sizeOf168
  v76 := Tryz.zeroValue168
  t77 := Tryz.underlying169
  a77 := Tryz.isAgg169
  z77 := Tryz.sizeOf169
  v77 := Tryz.zeroValue169 }
end Go.Proofs.YtaddclaadbjnlaaGreat
