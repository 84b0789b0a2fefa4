/-
  Walks and plain laws of this seat, some texts in one.
  No condition but bounds on lengths.
-/
import Derived.Test.YtpdgpgbgakinlaaGreatPb9
import Derived.Test.YtpdgpgbgakinlaaGreatPb3
import Derived.Test.YtpdgpgbgakinlaaGreatPb4
import Derived.Test.YtpdgpgbgakinlaaGreatPb1
import Derived.Test.YtpdgpgbgakinlaaGreatPb2
import Derived.Laws.IdiomCopy
import Derived.Lib.SliceRun
import Derived.Test.YtpdgpgbgakinlaaGreatPb7
import Derived.Deep.AppendSrc
import Derived.Test.YtpdgpgbgakinlaaGreatPb8
import Derived.Deep.RegionLaw
import Derived.Deep.RegionHeld3
import Derived.IntWalk
namespace Go.Proofs.YtpdgpgbgakinlaaGreat
set_option linter.unusedVariables false
set_option linter.unusedSimpArgs false
def cstL (n : Nat) : List (List Int) := tabF n fun x _ => (x : Int)
section
variable {t M : List (List Int)} {m : Int}
end
end Go.Proofs.YtpdgpgbgakinlaaGreat

namespace Go.Proofs.YtpdgpgbgakinlaaGreat
set_option maxRecDepth 100000
set_option linter.unusedVariables false
set_option linter.unusedSimpArgs false
open Go.RowKit
/-! ### A slice of truths that the call owns (its block lies from 'lo' on) -/
def OwnBo (w : World) (lo : Nat) (a : Option Addr) (n c : Nat) (xs : List Bool) : Prop := n = xs.length ∧ w.ownsRow lo 4 1 (.slice a n c) n (xs.map Value.bool)
theorem OwnBo.nil (w : World) (lo : Nat) : OwnBo w lo none 0 0 [] := ⟨rfl, World.ownsRow_nil w lo _ 1⟩
theorem OwnBo.len {w : World} {lo : Nat} {a : Option Addr} {n c : Nat} {xs : List Bool} (h : OwnBo w lo a n c xs) : n = xs.length := h.1
theorem OwnBo.alloc {w : World} {lo : Nat} {a : Option Addr} {n c : Nat} {xs : List Bool} (h : OwnBo w lo a n c xs) (o : Obj) : OwnBo (w.alloc o) lo a n c xs := ⟨h.1, h.2.alloc o⟩
theorem OwnBo.drew {w : World} {lo : Nat} {a : Option Addr} {n c : Nat} {xs : List Bool} (h : OwnBo w lo a n c xs) : OwnBo w.drew lo a n c xs := h
theorem OwnBo.drewN {w : World} {lo : Nat} {a : Option Addr} {n c : Nat} {xs : List Bool} (h : OwnBo w lo a n c xs) (k : Nat) : OwnBo (w.drewN k) lo a n c xs := h
theorem OwnBo.block {w : World} {lo : Nat} {a : Option Addr} {n c : Nat} {xs : List Bool} (h : OwnBo w lo a n c xs) : (a = none ∧ n = 0 ∧ c = 0) ∨ ∃ g cur, a = some ⟨g, 0, none⟩ ∧ lo ≤ g ∧ Loc w g cur 4 ∧ n ≤ c ∧ c ≤ maxLen ∧ cur.size = c ∧ cur.toList.take n = xs.map Value.bool := by
  rcases h.2.2 with ⟨h1, h2⟩ | ⟨g, cap, cur, h1, h2, h3, h4, h5, h6, h7⟩
  · cases h1; exact .inl ⟨rfl, rfl, rfl⟩
  · cases h1; exact .inr ⟨g, cur, rfl, h2, h3, h4, h5, by simpa using h6, by simpa using h7⟩
theorem OwnBo.mk {w : World} {lo : Nat} {g n c : Nat} {xs : List Bool} {cur : Array Value} (hn : n = xs.length) (h1 : lo ≤ g) (h2 : Loc w g cur 4) (h3 : n ≤ c) (h4 : c ≤ maxLen) (h5 : cur.size = c) (h6 : cur.toList.take n = xs.map Value.bool) : OwnBo w lo (some ⟨g, 0, none⟩) n c xs :=
  ⟨hn, by simp [hn], .inr ⟨g, c, cur, rfl, h1, h2, h3, h4, by simpa using h5, by simpa using h6⟩⟩
theorem OwnBo.lt {w : World} {lo : Nat} {g o n c : Nat} {xs : List Bool} (h : OwnBo w lo (some ⟨g, o, none⟩) n c xs) : lo ≤ g ∧ g < w.heap.size := by
  rcases h.block with ⟨h1, _⟩ | ⟨g', cur, h1, h2, h3, _⟩
  · cases h1
  · cases h1; exact ⟨h2, h3.lt⟩
theorem OwnBo.mono {w : World} {lo lo' : Nat} {a : Option Addr} {n c : Nat} {xs : List Bool} (h : OwnBo w lo a n c xs) (hl : lo' ≤ lo) : OwnBo w lo' a n c xs := by
  rcases h.block with ⟨rfl, rfl, rfl⟩ | ⟨g, cur, rfl, h2, h3, h4, h5, h6, h7⟩
  · have : xs = [] := List.eq_nil_of_length_eq_zero h.1.symm
    subst this; exact OwnBo.nil _ _
  · exact OwnBo.mk h.1 (by omega) h3 h4 h5 h6 h7
theorem OwnBo.keep {w w' : World} {lo : Nat} {a : Option Addr} {n c : Nat} {xs : List Bool} (h : OwnBo w lo a n c xs) (hk : ∀ g, a = some ⟨g, 0, none⟩ → g < w.heap.size → w'.heap[g]? = w.heap[g]?) : OwnBo w' lo a n c xs := by
  rcases h.block with ⟨rfl, rfl, rfl⟩ | ⟨g, cur, rfl, h2, h3, h4, h5, h6, h7⟩
  · have : xs = [] := List.eq_nil_of_length_eq_zero h.1.symm
    subst this; exact OwnBo.nil _ _
  · exact OwnBo.mk h.1 h2 ((hk g rfl h3.lt).trans h3) h4 h5 h6 h7
theorem OwnBo.below {w w' : World} {lo : Nat} {a : Option Addr} {n c : Nat} {xs : List Bool} (h : OwnBo w lo a n c xs) (hb : Below w.heap.size w w') : OwnBo w' lo a n c xs := h.keep fun g _ hlt => hb.block g hlt
theorem OwnBo.setne {w : World} {lo : Nat} {a : Option Addr} {n c : Nat} {xs : List Bool} (h : OwnBo w lo a n c xs) {p : Addr} (hp : ∀ g, a = some ⟨g, 0, none⟩ → g ≠ p.block) (u : Value) : OwnBo (w.setCell p u) lo a n c xs := h.keep fun g hg _ => Below.heap_setCell _ _ _ _ (hp g hg)
theorem OwnBo.setlo {w : World} {lo : Nat} {a : Option Addr} {n c : Nat} {xs : List Bool} (h : OwnBo w lo a n c xs) {p : Addr} (hp : p.block < lo) (u : Value) : OwnBo (w.setCell p u) lo a n c xs := by
  refine h.setne (fun g hg => ?_) u
  subst hg; have := h.lt; omega
theorem OwnBo.grown {w w' : World} {lo : Nat} {a : Option Addr} {n c : Nat} {xs : List Bool} {row : Option Nat} (h : OwnBo w lo a n c xs) (hg : w.grownBy w' row) (hne : ∀ g, a = some ⟨g, 0, none⟩ → some g ≠ row) : OwnBo w' lo a n c xs := h.keep fun g hg' hlt => hg.block g hlt (hne g hg')
theorem OwnBo.cap {w : World} {lo : Nat} {a : Option Addr} {n c : Nat} {xs : List Bool} (h : OwnBo w lo a n c xs) : n ≤ c ∧ c ≤ 9223372036854775807 := by
  rcases h.block with ⟨rfl, rfl, rfl⟩ | ⟨g, cur, rfl, h2, h3, h4, h5, h6, h7⟩
  · omega
  · unfold maxLen at h5; omega
theorem OwnBo.cells {w : World} {lo : Nat} {g o n c : Nat} {xs : List Bool} (h : OwnBo w lo (some ⟨g, o, none⟩) n c xs) : o = 0 ∧ (∀ i, i < n → w.cell? ⟨g, i, none⟩ = some (.bool (xs.getD i false))) ∧ (∀ i, w.frozen? ⟨g, i, none⟩ = false) := by
  rcases h.block with ⟨h1, _⟩ | ⟨g', cur, h1, h2, h3, h4, h5, h6, h7⟩
  · cases h1
  · cases h1
    refine ⟨rfl, fun i hi => h3.cell i ?_, fun i => h3.free i⟩
    have hx : (cur.toList.take n)[i]? = (xs.map Value.bool)[i]? := by rw [h7]
    have hxi : i < xs.length := by have := h.1; omega
    rw [List.getElem?_take, if_pos hi] at hx
    simp [List.getElem?_eq_getElem hxi] at hx
    simp [List.getD_eq_getElem?_getD, List.getElem?_eq_getElem hxi, hx]
theorem OwnBo.set {w : World} {lo : Nat} {g n c : Nat} {xs : List Bool} (h : OwnBo w lo (some ⟨g, 0, none⟩) n c xs) (i : Nat) (x : Bool) : OwnBo (w.setCell ⟨g, i, none⟩ (.bool x)) lo (some ⟨g, 0, none⟩) n c (xs.set i x) := by
  rcases h.block with ⟨h1, _⟩ | ⟨g', cur, h1, h2, h3, h4, h5, h6, h7⟩
  · cases h1
  · cases h1
    refine OwnBo.mk (by simp [h.1]) h2 (h3.set i _) h4 h5 (by simpa using h6) ?_
    rw [Array.toList_setIfInBounds, List.take_set, h7, List.map_set]
theorem OwnBo.hi {w : World} {lo : Nat} {a : Option Addr} {n c : Nat} {xs : List Bool} (h : OwnBo w lo a n c xs) : ∀ g, a = some ⟨g, 0, none⟩ → g < w.heap.size := fun g hg => by subst hg; exact h.lt.2
theorem OwnBo.lo {w : World} {lo : Nat} {a : Option Addr} {n c : Nat} {xs : List Bool} (h : OwnBo w lo a n c xs) : ∀ g, a = some ⟨g, 0, none⟩ → lo ≤ g := fun g hg => by subst hg; exact h.lt.1
end Go.Proofs.YtpdgpgbgakinlaaGreat

namespace Go.Proofs.YtpdgpgbgakinlaaGreat
set_option maxRecDepth 100000
set_option linter.unusedVariables false
set_option linter.unusedSimpArgs false
open Go.RowKit
theorem FRow.set {n : Nat} {w : World} {u : SV} {q : Pm} {g i : Nat} {x : Value} (hu : FRow n w u q) (hne : u.1 ≠ some ⟨g, 0, none⟩) : FRow n (w.setCell ⟨g, i, none⟩ x) u q :=
  ⟨hu.own.keep fun b hb hlt => Below.heap_setCell _ _ _ _ (fun e => hne (by rw [hb, e])), hu.len, hu.fx⟩
theorem Nw.ne {w : World} {a a' : Option Addr} {g : Nat} (h : Nw w a a') (hg : g < w.heap.size) (hne : a ≠ some ⟨g, 0, none⟩) : a' ≠ some ⟨g, 0, none⟩ := fun e => by
  rcases h with h | h
  · rw [h] at e; exact hne e
  · have := h g e; omega
end Go.Proofs.YtpdgpgbgakinlaaGreat

namespace Go.Proofs.YtpdgpgbgakinlaaGreat
set_option maxRecDepth 100000
set_option linter.unusedVariables false
set_option linter.unusedSimpArgs false
open Go.RowKit
theorem br_ltr {n : Nat} {xs : List Int} (hb : isBr n xs = true) : 2 ≤ n ∧ n ≤ 6 ∧ xs.length ≤ 30 ∧ ∀ x ∈ xs, Ltr n x := by
  obtain ⟨h26, h30, hlet⟩ := isBr_let hb
  exact ⟨by omega, by omega, h30, fun x hx => ltr_of rfl (hlet x hx)⟩
end Go.Proofs.YtpdgpgbgakinlaaGreat

namespace Go.Proofs.YtpdgpgbgakinlaaGreat
set_option maxRecDepth 100000
set_option linter.unusedVariables false
set_option linter.unusedSimpArgs false
open Go.RowKit
def orbN (f : Nat → Nat) : Nat → List Nat → Nat → List Nat
  | 0, c, _ => c
  | m + 1, c, y => if y ∈ c then c else orbN f m (c ++ [y]) (f y)
def orbF (f : Nat → Nat) (n x : Nat) : List Nat := orbN f n [x] (f x)
theorem nodup_le : ∀ (n : Nat) (c : List Nat), c.Nodup → (∀ x ∈ c, x < n) → c.length ≤ n := by
  intro n
  induction n with
  | zero =>
    intro c _ h
    cases c with
    | nil => exact Nat.le_refl _
    | cons x c => exact absurd (h x List.mem_cons_self) (by omega)
  | succ n ih =>
    intro c hd h
    have h1 := ih (c.erase n) (hd.erase n) (fun x hx => by
      have h2 := (List.Nodup.mem_erase_iff hd).1 hx
      have := h x h2.2
      have := h2.1
      omega)
    by_cases hm : n ∈ c
    · rw [List.length_erase_of_mem hm] at h1; omega
    · rw [List.erase_of_not_mem hm] at h1; omega
structure OrbI (f : Nat → Nat) (n x : Nat) (c : List Nat) (l rem : Nat) : Prop where
  nd : c.Nodup
  lt : ∀ u ∈ c, u < n
  xm : x ∈ c
  lm : l ∈ c
  rm : rem + c.length = n + 1
  pre : ∀ z ∈ c, z ≠ x → ∃ u ∈ c, u ≠ l ∧ f u = z
  eq : orbF f n x = orbN f rem c (f l)
theorem OrbI.start (f : Nat → Nat) {n x : Nat} (h : x < n) : OrbI f n x [x] x n :=
  ⟨by simp, by simpa using h, by simp, by simp, by simp, fun z hz hne => absurd (by simpa using hz) hne, rfl⟩
theorem OrbI.le {f : Nat → Nat} {n x : Nat} {c : List Nat} {l rem : Nat} (h : OrbI f n x c l rem) : c.length ≤ n := nodup_le n c h.nd h.lt
theorem OrbI.step {f : Nat → Nat} {n x : Nat} {c : List Nat} {l rem : Nat} (h : OrbI f n x c l rem) (hm : f l ∉ c) (hl : f l < n) : OrbI f n x (c ++ [f l]) (f l) (rem - 1) := by
  have hle := h.le
  obtain ⟨m, rfl⟩ : ∃ m, rem = m + 1 := ⟨rem - 1, by have := h.rm; omega⟩
  refine ⟨?_, ?_, by simp [h.xm], by simp, by have := h.rm; simp; omega, ?_, ?_⟩
  · rw [List.nodup_append]
    refine ⟨h.nd, by simp, fun a ha b hb => ?_⟩
    simp at hb; subst hb
    exact fun e => hm (e ▸ ha)
  · intro u hu
    rcases List.mem_append.1 hu with hu | hu
    · exact h.lt u hu
    · simp at hu; subst hu; exact hl
  · intro z hz hne
    rcases List.mem_append.1 hz with hz | hz
    · obtain ⟨u, hu, _, he⟩ := h.pre z hz hne
      exact ⟨u, by simp [hu], fun e => hm (e ▸ hu), he⟩
    · simp at hz; subst hz
      exact ⟨l, by simp [h.lm], fun e => hm (e ▸ h.lm), rfl⟩
  · rw [h.eq]
    show (if f l ∈ c then c else orbN f m (c ++ [f l]) (f (f l))) = _
    rw [if_neg hm]; rfl
theorem OrbI.closed {f : Nat → Nat} {n x : Nat} {c : List Nat} {l rem : Nat} (h : OrbI f n x c l rem) (hm : f l ∈ c) (hinj : ∀ i j, i < n → j < n → f i = f j → i = j) : ∀ i, i < n → f i ∈ c → i ∈ c := by
  have hll := h.lt l h.lm
  have hx : f l = x := by
    by_cases e : f l = x
    · exact e
    · obtain ⟨u, hu, hne, he⟩ := h.pre _ hm e
      exact absurd (hinj u l (h.lt u hu) hll he) hne
  intro i hi hic
  by_cases e : f i = x
  · rw [hinj i l hi hll (e.trans hx.symm)]; exact h.lm
  · obtain ⟨u, hu, _, he⟩ := h.pre _ hic e
    rw [← hinj u i (h.lt u hu) hi he]; exact hu
end Go.Proofs.YtpdgpgbgakinlaaGreat

namespace Go.Proofs.YtpdgpgbgakinlaaGreat
set_option maxRecDepth 100000
set_option linter.unusedVariables false
set_option linter.unusedSimpArgs false
open Go.RowKit
def Que (w : World) (lo g off n c : Nat) (xs : List Int) : Prop :=
  n = xs.length ∧ lo ≤ g ∧ n ≤ c ∧ c ≤ 9223372036854775807 ∧ ∃ cur, Loc w g cur 2 ∧ off + c ≤ cur.size ∧ ∀ i, i < n → cur[off + i]? = some (.int .i64 (xs.getD i 0))
theorem Que.len {w : World} {lo g off n c : Nat} {xs : List Int} (h : Que w lo g off n c xs) : n = xs.length := h.1
theorem Que.cap {w : World} {lo g off n c : Nat} {xs : List Int} (h : Que w lo g off n c xs) : n ≤ c ∧ c ≤ 9223372036854775807 := ⟨h.2.2.1, h.2.2.2.1⟩
theorem Que.lt {w : World} {lo g off n c : Nat} {xs : List Int} (h : Que w lo g off n c xs) : lo ≤ g ∧ g < w.heap.size := by
  obtain ⟨_, h1, _, _, cur, h2, _⟩ := h; exact ⟨h1, h2.lt⟩
theorem Que.cells {w : World} {lo g off n c : Nat} {xs : List Int} (h : Que w lo g off n c xs) : ∀ i, i < n → w.cell? ⟨g, off + i, none⟩ = some (.int .i64 (xs.getD i 0)) := by
  obtain ⟨_, _, _, _, cur, h2, _, h3⟩ := h
  intro i hi
  exact h2.cell _ (h3 i hi)
theorem Que.tail {w : World} {lo g off n c : Nat} {x : Int} {xs : List Int} (h : Que w lo g off n c (x :: xs)) : Que w lo g (off + 1) (n - 1) (c - 1) xs := by
  obtain ⟨h0, h1, h2, h2', cur, h3, h4, h5⟩ := h
  simp at h0
  refine ⟨by omega, h1, by omega, by omega, cur, h3, by omega, fun i hi => ?_⟩
  have := h5 (i + 1) (by omega)
  rw [show off + 1 + i = off + (i + 1) by omega, this]
  simp [List.getD_eq_getElem?_getD]
theorem Que.cut {w : World} {lo g off c : Nat} {x : Int} (h : Que w lo g off 1 c [x]) : ∃ off', (if c = 1 then some (⟨g, off, none⟩ : Addr) else some ⟨g, off + 1, none⟩) = some ⟨g, off', none⟩ ∧ Que w lo g off' 0 (c - 1) [] := by
  by_cases hc : c = 1
  · subst hc
    obtain ⟨h0, h1, h2, h2', cur, h3, h4, h5⟩ := h
    exact ⟨off, rfl, rfl, h1, by omega, by omega, cur, h3, by omega, fun i hi => absurd hi (by omega)⟩
  · exact ⟨off + 1, if_neg hc, h.tail⟩
theorem Que.below {w w' : World} {lo g off n c : Nat} {xs : List Int} (h : Que w lo g off n c xs) (hb : Below w.heap.size w w') : Que w' lo g off n c xs := by
  obtain ⟨h0, h1, h2, h2', cur, h3, h4⟩ := h
  exact ⟨h0, h1, h2, h2', cur, h3.below hb h3.lt, h4⟩
theorem Que.setne {w : World} {lo g off n c : Nat} {xs : List Int} (h : Que w lo g off n c xs) {a : Addr} (hne : g ≠ a.block) (u : Value) : Que (w.setCell a u) lo g off n c xs := by
  obtain ⟨h0, h1, h2, h2', cur, h3, h4⟩ := h
  exact ⟨h0, h1, h2, h2', cur, h3.setne hne u, h4⟩
theorem Que.one {w : World} {lo b : Nat} {x : Int} (hb : b = w.heap.size) (hlo : lo ≤ b) : Que (w.alloc (.cells #[.int .i64 x] 2)) lo b 0 1 1 [x] :=
  ⟨rfl, hlo, Nat.le_refl _, by decide, _, Loc.new w hb _ _, by simp, fun i (hi : i < 1) => by
    have e : i = 0 := by omega
    subst e
    rfl⟩
end Go.Proofs.YtpdgpgbgakinlaaGreat

namespace Go.Proofs.YtpdgpgbgakinlaaGreat
set_option maxRecDepth 100000
set_option linter.unusedVariables false
set_option linter.unusedSimpArgs false
open Go.RowKit
theorem least_ex (P : Nat → Prop) (h : ∃ m, P m) : ∃ m, P m ∧ ∀ k, P k → m ≤ k := by
  obtain ⟨m, hm⟩ := h
  induction m using Nat.strongRecOn with
  | ind m ih =>
    by_cases hk : ∃ k, k < m ∧ P k
    · obtain ⟨k, hlt, hp⟩ := hk
      exact ih k hlt hp
    · exact ⟨m, hm, fun k hp => by
        by_cases h : m ≤ k
        · exact h
        · exact absurd ⟨k, by omega, hp⟩ hk⟩
noncomputable def least (P : Nat → Prop) : Nat := open Classical in if h : ∃ m, P m then Classical.choose (least_ex P h) else 0
end Go.Proofs.YtpdgpgbgakinlaaGreat

namespace Go.Proofs.YtpdgpgbgakinlaaGreat
set_option maxRecDepth 100000
set_option linter.unusedVariables false
set_option linter.unusedSimpArgs false
open Go.RowKit
theorem IsP.own {n : Nat} {p : List Int} (h : IsP n p) : ∃ g, IsPf n p (fun i => (p.getD i 0).toNat) g := by
  obtain ⟨f, g, hl, h1, h2⟩ := h
  have e : ∀ i, i < n → (p.getD i 0).toNat = f i := fun i hi => by rw [h2 i hi]; simp
  refine ⟨g, hl, fun i hi => ?_, fun i hi => ?_⟩
  · have hh := h1 i hi
    refine ⟨by show (p.getD i 0).toNat < n; rw [e i hi]; exact hh.1, hh.2.1, ?_, ?_⟩
    · show (p.getD (g i) 0).toNat = i
      rw [e _ hh.2.1]; exact hh.2.2.1
    · show g ((p.getD i 0).toNat) = i
      rw [e i hi]; exact hh.2.2.2
  · show _ = (((p.getD i 0).toNat : Nat) : Int)
    rw [e i hi]; exact h2 i hi
theorem Tbl.single {w : World} {a : Option Addr} {n c b : Nat} {xs : List Int} {t : TypeId} (h : Row w a n xs) (hn : n ≤ 9223372036854775807) (hb : b = w.heap.size) : Tbl (w.alloc (.cells #[.slice a n c] t)) (some ⟨b, 0, none⟩) 1 [xs] :=
by
  refine ⟨rfl, fun i hi => ?_⟩
  have e : i = 0 := by omega
  subst e
  have hL := Loc.new w hb #[.slice a n c] t
  exact ⟨b, 0, a, n, c, rfl, hL.lt, hL.one.1, h.alloc _, hn⟩
end Go.Proofs.YtpdgpgbgakinlaaGreat

namespace Go.Proofs.YtpdgpgbgakinlaaGreat
set_option linter.unusedVariables false
set_option linter.unusedSimpArgs false
/-! ### tables by a function, one value of which turns -/
/-! ### labels are numbers of at least 0, and the greatest of them -/
/-! ### the numbers -/
end Go.Proofs.YtpdgpgbgakinlaaGreat

namespace Go.Proofs.YtpdgpgbgakinlaaGreat
set_option maxRecDepth 100000
set_option linter.unusedVariables false
set_option linter.unusedSimpArgs false
open Go.RowKit
def negL (xs : List Int) : List Int := xs.map fun x => -x
theorem negL_succ {xs : List Int} {k : Nat} (h : k < xs.length) : negL (xs.take (k + 1)) = negL (xs.take k) ++ [-xs[k]] := by
  simp only [negL, List.take_succ_eq_append_getElem h, List.map_append, List.map_cons, List.map_nil]
theorem negL_len (xs : List Int) : (negL xs).length = xs.length := by simp [negL]
theorem neg_step (xs : List Int) (n j : Nat) (hl : n = xs.length) (h : j < n) (hx : j < xs.length) : (negL (xs.take j) ++ List.replicate (n - j) 0).set j (-xs[j]) = negL (xs.take (j + 1)) ++ List.replicate (n - (j + 1)) 0 := by
  have e : (negL (xs.take j)).length = j := by rw [negL_len, List.length_take]; omega
  rw [List.set_append_right _ _ (by omega), e, Nat.sub_self, negL_succ hx, List.append_assoc]
  congr 1
  obtain ⟨m, hm⟩ : ∃ m, n - j = m + 1 := ⟨n - j - 1, by omega⟩
  have hm' : n - (j + 1) = m := by omega
  rw [hm, hm', List.replicate_succ]
  simp
set_option maxHeartbeats 400000 in
theorem opposites_any (a : Option Addr) (n c : Nat) (xs : List Int) (w : World) (h1 : Row w a n xs) (hm : n ≤ 1048576) (hb : ∀ x ∈ xs, -1000 ≤ x ∧ x ≤ 1000) :
    Calls Tryz.prog 51 #[.slice a n c] w fun e w' => ∃ a' c', e = .returned (.slice a' n c') ∧ Own w' w.heap.size a' n c' (negL xs) ∧ Below w.heap.size w w' := by
  have hl := h1.len
  have HL := Lib.hid hl; clear hl
  have HX := Lib.hid hb; clear hb
  go_enter Tryz.func51, Tryz.ntmps51
  go_wp2_with (at_make; refine make1 rfl rfl rfl rfl (by omega) ?_; intro w1 ho hs hb)
  have hw1 := hb.size
  go_loopw [11] (fun i wr => ∃ j : Nat, j ≤ n ∧ i = .int .i64 j ∧ Own wr w.heap.size (some ⟨w.heap.size, 0, none⟩) n n (negL (xs.take j) ++ List.replicate (n - j) 0) ∧ Below w.heap.size w wr) (fun i _ => n - (intOf i).toNat)
  case atStart => exact ⟨0, Nat.zero_le _, rfl, by simpa [negL] using ho, hb⟩
  case round =>
    clear ho hb
    obtain ⟨j, hj, rfl, ho, hb⟩ := hrel
    by_cases hlt : j < n
    · have hr := h1.below hb
      obtain ⟨b, off, rfl, g1⟩ := hr.at j hlt
      obtain ⟨_, hc, hf⟩ := ho.cells
      have hc1 := hc j hlt
      have hf1 := hf j
      have hx : j < xs.length := by have := HL.out; omega
      have hxb := HX.out xs[j] (List.getElem_mem hx)
      clear hc hf hr h1
      go_wp2
      go_roundw
      case rel =>
        refine ⟨j + 1, by omega, by go_num, ?_, hb.setCell (by simp) _⟩
        rw [← neg_step xs n j HL.out hlt hx]
        exact ho.set j _
      case measure => simp [intOf]; omega
    · obtain rfl : j = n := by omega
      go_wp2
      go_ret
      refine ⟨_, _, rfl, ?_, hb⟩
      rw [List.take_of_length_le (by have := HL.out; omega), Nat.sub_self, List.replicate_zero, List.append_nil] at ho
      exact ho
end Go.Proofs.YtpdgpgbgakinlaaGreat

namespace Go.Proofs.YtpdgpgbgakinlaaGreat
set_option maxRecDepth 100000
set_option linter.unusedVariables false
set_option linter.unusedSimpArgs false
section
variable {n : Nat} {f g : List (List Int)}
/-! ### one more strand -/
theorem doF_snoc (f g : List (List Int)) {i : Nat} {l : List Int} {z : Int} (hi : i + 1 < l.length) : doF f g i (l ++ [z]) = doF f g i l ++ [z] := by
  unfold doF
  have e1 : (l ++ [z]).getD i 0 = l.getD i 0 := by simp [List.getD_eq_getElem?_getD, List.getElem?_append_left (show i < l.length by omega)]
  have e2 : (l ++ [z]).getD (i + 1) 0 = l.getD (i + 1) 0 := by simp [List.getD_eq_getElem?_getD, List.getElem?_append_left hi]
  rw [e1, e2, List.set_append_left _ _ (by omega), List.set_append_left _ _ (by rw [List.length_set]; omega)]
theorem step_snoc (n : Nat) (f g : List (List Int)) {x : Int} {l : List Int} {z : Int} (hi : (plc x).toNat + 1 < l.length) : stepL n f g x (l ++ [z]) = stepL n f g x l ++ [z] := by
  unfold stepL; split <;> exact doF_snoc _ _ hi
theorem act_snoc (n : Nat) (f g : List (List Int)) (z : Int) : ∀ (xs l : List Int), (∀ x ∈ xs, (plc x).toNat + 1 < l.length) → actL n f g xs (l ++ [z]) = actL n f g xs l ++ [z] := by
  intro xs
  induction xs with
  | nil => intro l _; rfl
  | cons x xs ih =>
    intro l hx
    have e1 : ∀ m, actL n f g (x :: xs) m = actL n f g xs (stepL n f g x m) := fun m => rfl
    rw [e1, e1, step_snoc n f g (hx x (by simp)), ih _ (fun y hy => by rw [stepL_len]; exact hx y (by simp [hy]))]
end
end Go.Proofs.YtpdgpgbgakinlaaGreat

namespace Go.Proofs.YtpdgpgbgakinlaaGreat
set_option maxRecDepth 100000
set_option linter.unusedVariables false
set_option linter.unusedSimpArgs false
open Go.RowKit
set_option maxHeartbeats 1000000 in
theorem tupleOf_any (n k N : Nat) (w : World) (hn1 : 1 ≤ n) (hn : n ≤ 1000000) (hk : k ≤ 1000000) (hN : N ≤ 1000000000000) :
    Calls Tryz.prog 98 #[.int .i64 n, .int .i64 k, .int .i64 N] w fun e w' => ∃ a c, e = .returned (.slice a k c) ∧ Own w' w.heap.size a k c (digL n k N) ∧ Below w.heap.size w w' := by
  go_enter Tryz.func98, Tryz.ntmps98
  go_wp2_with (at_make; refine make1 rfl rfl rfl rfl (by omega) ?_; intro w1 ho hs hb)
  have hn0 : (n : Int) ≠ 0 := by omega
  go_loopw [2, 8] (fun q i wr => ∃ j : Nat, j ≤ k ∧ i = .int .i64 ((k : Int) - 1 - j) ∧ q = .int .i64 ((N / n ^ j : Nat) : Int) ∧ Own wr w.heap.size (some ⟨w.heap.size, 0, none⟩) k k (digP n k N j) ∧ Below w.heap.size w wr) (fun _ i _ => (intOf i + 1).toNat)
  case atStart => exact ⟨0, Nat.zero_le _, by go_num, by simp, by rw [digP_zero]; exact ho, hb⟩
  case round =>
    clear ho hb
    obtain ⟨j, hj, rfl, rfl, ho, hb⟩ := hrel
    by_cases hlt : j < k
    · have hq : N / n ^ j ≤ N := Nat.div_le_self _ _
      have hst := digP_step n k N j hlt
      have hdv := div_pow_succ n j N
      obtain ⟨Q, hQ⟩ : ∃ Q, Q = N / n ^ j := ⟨_, rfl⟩
      rw [← hQ] at hq hst hdv ⊢
      have Qr : ((Q : Int)).tmod (n : Int) = ((Q % n : Nat) : Int) := by rw [Int.tmod_eq_emod_of_nonneg (by omega)]; simp
      have Qd : ((Q : Int)).tdiv (n : Int) = ((Q / n : Nat) : Int) := by rw [Int.tdiv_eq_ediv_of_nonneg (by omega)]; simp
      have b1 : Q % n ≤ Q := Nat.mod_le _ _
      have b2 : Q / n ≤ Q := Nat.div_le_self _ _
      have HST := Lib.hid hst; have HDV := Lib.hid hdv
      clear hst hdv hQ
      obtain ⟨i, hi⟩ : ∃ i : Nat, i = k - 1 - j := ⟨_, rfl⟩
      have hii : (k : Int) - 1 - (j : Int) = (i : Int) := by omega
      have hik : i < k := by omega
      rw [hii]
      have HI := Lib.hid hi; have HII := Lib.hid hii
      clear hi hii
      generalize hR : Q % n = R at *
      generalize hD : Q / n = D at *
      have HR := Lib.hid hR; have HD := Lib.hid hD; clear hR hD
      have Wr : IntKind.i64.wrap (R : Int) = (R : Int) := IntWalk.i64_in _ (by omega)
      have Wd : IntKind.i64.wrap (D : Int) = (D : Int) := IntWalk.i64_in _ (by omega)
      have Wi : IntKind.i64.wrap ((i : Int) - 1) = (i : Int) - 1 := IntWalk.i64_in _ (by omega)
      obtain ⟨_, hc, hf⟩ := ho.cells
      have hc1 := hc i hik
      have hf1 := hf i
      clear hc hf
      go_wp2
      go_roundw
      case rel =>
        refine ⟨j + 1, by omega, ?_, by rw [← HDV.out], ?_, hb.setCell (by simp) _⟩
        · have := HII.out
          congr 1
          omega
        · rw [← HST.out, ← HI.out]
          exact ho.set i _
      case measure => first | (simp [intOf]; done) | (simp [intOf]; omega)
    · obtain rfl : j = k := by omega
      have e1 : (j : Int) - 1 - (j : Int) = -1 := by omega
      rw [e1]
      rw [digP_full] at ho
      go_wp2
      go_ret
      exact ⟨_, _, rfl, ho, hb⟩
end Go.Proofs.YtpdgpgbgakinlaaGreat

namespace Go.Proofs.YtpdgpgbgakinlaaGreat
set_option linter.unusedVariables false
set_option linter.unusedSimpArgs false
def Shape (n : Nat) (F : List (List Int)) : Prop := F.length = n ∧ ∀ x, x < n → (F.getD x []).length = n
theorem Sq.shape {n : Nat} {t : List (List Int)} (h : Sq n t) : Shape n t := ⟨h.len, fun x hx => h.row hx⟩
theorem Shape.set {n : Nat} {F : List (List Int)} (h : Shape n F) (u v : Nat) (x : Int) : Shape n (F.set u ((F.getD u []).set v x)) := by
  refine ⟨by simp [h.1], fun i hi => ?_⟩
  rw [getD_set' _ _ _ _ _ (by rw [h.1]; exact hi)]
  by_cases e : i = u
  · rw [if_pos e, List.length_set, ← e]; exact h.2 i hi
  · rw [if_neg e]; exact h.2 i hi
theorem Shape.at_ {n : Nat} {F : List (List Int)} (h : Shape n F) (u v : Nat) (x : Int) {i j : Nat} (hi : i < n) (hj : j < n) : ((F.set u ((F.getD u []).set v x)).getD i []).getD j 0 = if i = u ∧ j = v then x else (F.getD i []).getD j 0 := by
  rw [getD_set' _ _ _ _ _ (by rw [h.1]; exact hi)]
  by_cases e : i = u
  · subst e
    rw [if_pos rfl, getD_set' _ _ _ _ _ (by rw [h.2 i hi]; exact hj)]
    by_cases e' : j = v <;> simp [e']
  · rw [if_neg e, if_neg (fun h => e h.1)]
theorem Shape.ext {n : Nat} {F : List (List Int)} {V : Nat → Nat → Int} (h : Shape n F) (hv : ∀ x y, x < n → y < n → (F.getD x []).getD y 0 = V x y) : F = tabF n V := by
  apply List.ext_getElem
  · rw [h.1, tabF_len]
  · intro x h1 h2
    have hx : x < n := by rw [h.1] at h1; exact h1
    have e1 : F.getD x [] = F[x] := by simp [List.getD_eq_getElem?_getD, List.getElem?_eq_getElem h1]
    have e2 : (tabF n V).getD x [] = (tabF n V)[x] := by simp [List.getD_eq_getElem?_getD, List.getElem?_eq_getElem h2]
    have e3 := tabF_get n V x hx
    rw [← e1, ← e2, e3]
    apply List.ext_getElem
    · rw [h.2 x hx]; simp
    · intro y h3 h4
      have hy : y < n := by rw [h.2 x hx] at h3; exact h3
      have := hv x y hx hy
      rw [List.getD_eq_getElem?_getD, List.getElem?_eq_getElem h3] at this
      simpa using this
def InvAt (n : Nat) (f g : List (List Int)) (done : Nat → Nat → Prop) (F G : List (List Int)) : Prop :=
  Shape n F ∧ Shape n G ∧ ∀ x y, x < n → y < n → done x y → (F.getD (tv f x y) []).getD (tv g x y) 0 = (x : Int) ∧ (G.getD (tv f x y) []).getD (tv g x y) 0 = (y : Int)
section
variable {n : Nat} {f g F G : List (List Int)}
theorem InvAt.start (hf : Shape n F) (hg : Shape n G) : InvAt n f g (fun x _ => x < 0) F G := ⟨hf, hg, fun x y _ _ h => absurd h (by omega)⟩
theorem InvAt.begin {k : Nat} (h : InvAt n f g (fun x _ => x < k) F G) : InvAt n f g (fun x y => x < k ∨ (x = k ∧ y < 0)) F G := ⟨h.1, h.2.1, fun x y hx hy hd => h.2.2 x y hx hy (by show x < k; omega)⟩
theorem InvAt.finish {k : Nat} (h : InvAt n f g (fun x y => x < k ∨ (x = k ∧ y < n)) F G) : InvAt n f g (fun x _ => x < k + 1) F G := ⟨h.1, h.2.1, fun x y hx hy hd => h.2.2 x y hx hy (by show x < k ∨ (x = k ∧ y < n); have : x < k + 1 := hd; omega)⟩
theorem InvAt.step (hn : 1 ≤ n) (hf : Sq n f) (hg : Sq n g) (hc : collOk n f g = true) {k j : Nat} (hk : k < n) (hj : j < n) (h : InvAt n f g (fun x y => x < k ∨ (x = k ∧ y < j)) F G) :
    InvAt n f g (fun x y => x < k ∨ (x = k ∧ y < j + 1)) (F.set (tv f k j) ((F.getD (tv f k j) []).set (tv g k j) (k : Int))) (G.set (tv f k j) ((G.getD (tv f k j) []).set (tv g k j) (j : Int))) := by
  refine ⟨h.1.set _ _ _, h.2.1.set _ _ _, fun x y hx hy hd => ?_⟩
  rw [h.1.at_ _ _ _ (hf.lt hx hy) (hg.lt hx hy), h.2.1.at_ _ _ _ (hf.lt hx hy) (hg.lt hx hy)]
  by_cases e : tv f x y = tv f k j ∧ tv g x y = tv g k j
  · rw [if_pos e, if_pos e]
    have e2 := prN_eq hn hc hx hy e.1 e.2
    rw [prN_eq hn hc hk hj rfl rfl] at e2
    have e3 := congrArg (· / n) e2
    have e4 := congrArg (· % n) e2
    simp only [pair_div hn hy, pair_div hn hj, pair_mod hy, pair_mod hj] at e3 e4
    exact ⟨by rw [e3], by rw [e4]⟩
  · rw [if_neg e, if_neg e]
    have hne : ¬ (x = k ∧ y = j) := by rintro ⟨rfl, rfl⟩; exact e ⟨rfl, rfl⟩
    refine h.2.2 x y hx hy ?_
    show x < k ∨ (x = k ∧ y < j)
    have : x < k ∨ (x = k ∧ y < j + 1) := hd
    omega
theorem InvAt.done_ (hn : 1 ≤ n) (hf : Sq n f) (hg : Sq n g) (hc : collOk n f g = true) (h : InvAt n f g (fun x _ => x < n) F G) : F = bfT n f g ∧ G = bgT n f g := by
  constructor
  · refine h.1.ext fun u v hu hv => ?_
    obtain ⟨x, y, hx, hy, h1, h2⟩ := pr_ex hn hf hg hc hu hv
    have := (h.2.2 x y hx hy hx).1
    rw [h1, h2] at this
    rw [this, prN_eq hn hc hx hy h1 h2, pair_div hn hy]
  · refine h.2.1.ext fun u v hu hv => ?_
    obtain ⟨x, y, hx, hy, h1, h2⟩ := pr_ex hn hf hg hc hu hv
    have := (h.2.2 x y hx hy hx).2
    rw [h1, h2] at this
    rw [this, prN_eq hn hc hx hy h1 h2, pair_mod hy]
end
end Go.Proofs.YtpdgpgbgakinlaaGreat

namespace Go.Proofs.YtpdgpgbgakinlaaGreat
set_option maxRecDepth 100000
set_option linter.unusedVariables false
set_option linter.unusedSimpArgs false
open Go.RowKit
set_option maxHeartbeats 400000 in
theorem clone_any (a : Option Addr) (n c : Nat) (xs : List Int) (w : World) (h1 : Row w a n xs) (hm : n ≤ 1000000000000) :
    Calls Tryz.prog 66 #[.slice a n c] w fun e w' => ∃ a' c', e = .returned (.slice a' n c') ∧ Own w' w.heap.size a' n c' xs ∧ Below w.heap.size w w' := by
  have hnil := Lib.run_eql_slice_nil (P := Tryz.prog) w 27 2 a n c 0 0 und_ints
  cases a with
  | none =>
    have hn : n = 0 := by
      rcases Nat.eq_zero_or_pos n with h | h
      · exact h
      · obtain ⟨b, off, h2, _⟩ := h1.at 0 h; cases h2
    subst hn
    have hx : xs = [] := List.eq_nil_of_length_eq_zero h1.len.symm
    subst hx
    go_enter Tryz.func66, Tryz.ntmps66
    go_wp2
    go_ret
    exact ⟨none, 0, rfl, Own.nil _ _, Below.refl _ _⟩
  | some p =>
    have hr := h1.alloc (.cells #[] 2)
    go_enter Tryz.func66, Tryz.ntmps66
    go_wp2_with (at_builtin; refine appL rfl rfl (Own.fresh w rfl) rfl hr rfl (by omega) (by simp) ?_; intro ad' c' w' hO hg hb; rw [Nat.zero_add] at hO ⊢)
    go_ret
    exact ⟨ad', c', rfl, by simpa using hO, ((Below.refl _ _).alloc (Nat.le_refl _) _).trans hb⟩
end Go.Proofs.YtpdgpgbgakinlaaGreat

namespace Go.Proofs.YtpdgpgbgakinlaaGreat
set_option maxRecDepth 100000
set_option linter.unusedVariables false
set_option linter.unusedSimpArgs false
open Go.RowKit
set_option maxHeartbeats 1000000 in
theorem cloneTable_any (a : Option Addr) (n c : Nat) (xss : List (List Int)) (w : World) (h1 : Tbl w a n xss) (hm : n ≤ 1000000) (hx1 : ∀ i, i < n → (xss.getD i []).length ≤ 1000000) :
    Calls Tryz.prog 136 #[.slice a n c] w fun e w' => ∃ a' c' vs, e = .returned (.slice a' n c') ∧ OwnT w' w.heap.size a' n c' vs xss ∧ Below w.heap.size w w' := by
  have hl := h1.len
  have HL := Lib.hid hl; clear hl
  have HX := Lib.hid hx1; clear hx1
  go_enter Tryz.func136, Tryz.ntmps136
  go_wp2_with (at_make; refine makeT rfl rfl rfl rfl (by omega) ?_; intro w1 ho hs hb)
  go_loopw [11] (fun i wr => ∃ (k : Nat) (vs : List SV), k ≤ n ∧ i = .int .i64 k ∧ OwnT wr w.heap.size (some ⟨w.heap.size, 0, none⟩) n n vs (xss.take k ++ List.replicate (n - k) []) ∧ Below w.heap.size w wr) (fun i _ => n - (intOf i).toNat)
  case atStart => exact ⟨0, _, Nat.zero_le _, rfl, by simpa using ho, hb⟩
  case round =>
    clear ho hb
    obtain ⟨k, vs, hk, rfl, ho, hb⟩ := hrel
    by_cases hlt : k < n
    · have hr := h1.below hb
      obtain ⟨b, off, ai, ni, ci, rfl, g1, hri, hni⟩ := hr.at k hlt
      have hx : k < xss.length := by have := HL.out; omega
      have hle : ni ≤ 1000000 := by have := HX.out k hlt; have := hri.len; omega
      rw [Tbl.getD hx] at hri
      obtain ⟨g, hg, hgl, hc, hf⟩ := ho.cells (by omega)
      cases hg
      clear h1 hr hc
      go_wp2_with fail
      refine (clone_any _ _ _ _ _ hri (by omega)).mono ?_
      rintro e w2 ⟨a2, c2, rfl, ho2, hb2⟩
      have hot := ho.below hb2
      obtain ⟨g', hg', hgl', hc', hf'⟩ := hot.cells (by omega)
      cases hg'
      have hc1 := hc' k hlt
      have hf1 := hf' k
      clear hc' hf' hf
      go_wp2
      go_roundw
      case rel =>
        have hlo : w.heap.size ≤ wr.heap.size := hb.size
        refine ⟨k + 1, vs.set k (a2, ni, c2), by omega, by go_num, ?_, ?_⟩
        · have hp := hot.put k hlt (v := (a2, ni, c2)) (ho2.mono hlo) (fun e => by have := ho2.lo _ e; omega) (fun j hj _ g1 h1 h2 => by have h3 := ho2.lo _ h1; have h4 := (ho.row j hj).hi _ h2; omega)
          rw [copyT_step xss n k HL.out hx] at hp
          exact hp
        · exact (hb.trans (hb2.mono hlo)).setCell (Nat.le_refl _) _
      case measure => simp [intOf]; omega
    · obtain rfl : k = n := by omega
      go_wp2
      go_ret
      have e1 : xss.take k ++ List.replicate (k - k) [] = xss := by
        rw [List.take_of_length_le (by have := HL.out; omega), Nat.sub_self, List.replicate_zero, List.append_nil]
      rw [e1] at ho
      exact ⟨_, _, _, rfl, ho, hb⟩
end Go.Proofs.YtpdgpgbgakinlaaGreat
