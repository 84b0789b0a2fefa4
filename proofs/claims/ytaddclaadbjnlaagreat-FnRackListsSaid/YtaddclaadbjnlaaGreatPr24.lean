/-
  Walks and plain laws of this seat, some texts in one.
  No condition but bounds on lengths.
-/
import Derived.Test.YtaddclaadbjnlaaGreatPr2
import Derived.Test.YtaddclaadbjnlaaGreatPr1
import Derived.Deep.AppendSrc
import Derived.Test.YtaddclaadbjnlaaGreatPr3
import Derived.Deep.RegionLaw
import Derived.ChangeMaps5
import Derived.Deep.RegionHeld3
import Derived.StillTailTactics
import Derived.Laws.BitsLemmas
import Derived.Laws.Bits64
import Derived.Deep.LoopGhost
import Derived.Test.YtaddclaadbjnlaaGreatPr15
import Derived.Test.YtaddclaadbjnlaaGreatPr6
import Derived.Test.YtaddclaadbjnlaaGreatPr18
import Derived.Test.YtaddclaadbjnlaaGreatPr23
import Derived.Deep.DeepCutAuto
import Derived.Deep.RegionHeldLaw
import Derived.Test.YtaddclaadbjnlaaGreatPr4
import Derived.Test.YtaddclaadbjnlaaGreatPr8
import Derived.Test.YtaddclaadbjnlaaGreatPr13
import Derived.Test.YtaddclaadbjnlaaGreatPr12
namespace Go.Proofs.YtaddclaadbjnlaaGreat
set_option maxRecDepth 100000
set_option linter.unusedVariables false
set_option linter.unusedSimpArgs false
open Go.RowKit
def orbN (f : Nat → Nat) : Nat → List Nat → Nat → List Nat
  | 0, c, _ => c
  | m + 1, c, y => if y ∈ c then c else orbN f m (c ++ [y]) (f y)
def orbF (f : Nat → Nat) (n x : Nat) : List Nat := orbN f n [x] (f x)
theorem nodup_le : ∀ (n : Nat) (c : List Nat), c.Nodup → (∀ x ∈ c, x < n) → c.length ≤ n := by
  intro n
  induction n with
  | zero =>
    intro c _ h
    cases c with
    | nil => exact Nat.le_refl _
    | cons x c => exact absurd (h x List.mem_cons_self) (by omega)
  | succ n ih =>
    intro c hd h
    have h1 := ih (c.erase n) (hd.erase n) (fun x hx => by
      have h2 := (List.Nodup.mem_erase_iff hd).1 hx
      have := h x h2.2
      have := h2.1
      omega)
    by_cases hm : n ∈ c
    · rw [List.length_erase_of_mem hm] at h1; omega
    · rw [List.erase_of_not_mem hm] at h1; omega
structure OrbI (f : Nat → Nat) (n x : Nat) (c : List Nat) (l rem : Nat) : Prop where
  nd : c.Nodup
  lt : ∀ u ∈ c, u < n
  xm : x ∈ c
  lm : l ∈ c
  rm : rem + c.length = n + 1
  pre : ∀ z ∈ c, z ≠ x → ∃ u ∈ c, u ≠ l ∧ f u = z
  eq : orbF f n x = orbN f rem c (f l)
theorem OrbI.start (f : Nat → Nat) {n x : Nat} (h : x < n) : OrbI f n x [x] x n :=
  ⟨by simp, by simpa using h, by simp, by simp, by simp, fun z hz hne => absurd (by simpa using hz) hne, rfl⟩
theorem OrbI.le {f : Nat → Nat} {n x : Nat} {c : List Nat} {l rem : Nat} (h : OrbI f n x c l rem) : c.length ≤ n := nodup_le n c h.nd h.lt
theorem OrbI.step {f : Nat → Nat} {n x : Nat} {c : List Nat} {l rem : Nat} (h : OrbI f n x c l rem) (hm : f l ∉ c) (hl : f l < n) : OrbI f n x (c ++ [f l]) (f l) (rem - 1) := by
  have hle := h.le
  obtain ⟨m, rfl⟩ : ∃ m, rem = m + 1 := ⟨rem - 1, by have := h.rm; omega⟩
  refine ⟨?_, ?_, by simp [h.xm], by simp, by have := h.rm; simp; omega, ?_, ?_⟩
  · rw [List.nodup_append]
    refine ⟨h.nd, by simp, fun a ha b hb => ?_⟩
    simp at hb; subst hb
    exact fun e => hm (e ▸ ha)
  · intro u hu
    rcases List.mem_append.1 hu with hu | hu
    · exact h.lt u hu
    · simp at hu; subst hu; exact hl
  · intro z hz hne
    rcases List.mem_append.1 hz with hz | hz
    · obtain ⟨u, hu, _, he⟩ := h.pre z hz hne
      exact ⟨u, by simp [hu], fun e => hm (e ▸ hu), he⟩
    · simp at hz; subst hz
      exact ⟨l, by simp [h.lm], fun e => hm (e ▸ h.lm), rfl⟩
  · rw [h.eq]
    show (if f l ∈ c then c else orbN f m (c ++ [f l]) (f (f l))) = _
    rw [if_neg hm]; rfl
theorem OrbI.stop {f : Nat → Nat} {n x : Nat} {c : List Nat} {l rem : Nat} (h : OrbI f n x c l rem) (hm : f l ∈ c) : orbF f n x = c := by
  have hle := h.le
  obtain ⟨m, rfl⟩ : ∃ m, rem = m + 1 := ⟨rem - 1, by have := h.rm; omega⟩
  rw [h.eq]
  show (if f l ∈ c then c else _) = _
  rw [if_pos hm]
theorem OrbI.closed {f : Nat → Nat} {n x : Nat} {c : List Nat} {l rem : Nat} (h : OrbI f n x c l rem) (hm : f l ∈ c) (hinj : ∀ i j, i < n → j < n → f i = f j → i = j) : ∀ i, i < n → f i ∈ c → i ∈ c := by
  have hll := h.lt l h.lm
  have hx : f l = x := by
    by_cases e : f l = x
    · exact e
    · obtain ⟨u, hu, hne, he⟩ := h.pre _ hm e
      exact absurd (hinj u l (h.lt u hu) hll he) hne
  intro i hi hic
  by_cases e : f i = x
  · rw [hinj i l hi hll (e.trans hx.symm)]; exact h.lm
  · obtain ⟨u, hu, _, he⟩ := h.pre _ hic e
    rw [← hinj u i (h.lt u hu) hi he]; exact hu
end Go.Proofs.YtaddclaadbjnlaaGreat

namespace Go.Proofs.YtaddclaadbjnlaaGreat
set_option maxRecDepth 100000
set_option linter.unusedVariables false
set_option linter.unusedSimpArgs false
open Go.RowKit
def Que (w : World) (lo g off n c : Nat) (xs : List Int) : Prop :=
  n = xs.length ∧ lo ≤ g ∧ n ≤ c ∧ c ≤ 9223372036854775807 ∧ ∃ cur, Loc w g cur 2 ∧ off + c ≤ cur.size ∧ ∀ i, i < n → cur[off + i]? = some (.int .i64 (xs.getD i 0))
theorem Que.len {w : World} {lo g off n c : Nat} {xs : List Int} (h : Que w lo g off n c xs) : n = xs.length := h.1
theorem Que.cap {w : World} {lo g off n c : Nat} {xs : List Int} (h : Que w lo g off n c xs) : n ≤ c ∧ c ≤ 9223372036854775807 := ⟨h.2.2.1, h.2.2.2.1⟩
theorem Que.lt {w : World} {lo g off n c : Nat} {xs : List Int} (h : Que w lo g off n c xs) : lo ≤ g ∧ g < w.heap.size := by
  obtain ⟨_, h1, _, _, cur, h2, _⟩ := h; exact ⟨h1, h2.lt⟩
theorem Que.cells {w : World} {lo g off n c : Nat} {xs : List Int} (h : Que w lo g off n c xs) : ∀ i, i < n → w.cell? ⟨g, off + i, none⟩ = some (.int .i64 (xs.getD i 0)) := by
  obtain ⟨_, _, _, _, cur, h2, _, h3⟩ := h
  intro i hi
  exact h2.cell _ (h3 i hi)
theorem Que.tail {w : World} {lo g off n c : Nat} {x : Int} {xs : List Int} (h : Que w lo g off n c (x :: xs)) : Que w lo g (off + 1) (n - 1) (c - 1) xs := by
  obtain ⟨h0, h1, h2, h2', cur, h3, h4, h5⟩ := h
  simp at h0
  refine ⟨by omega, h1, by omega, by omega, cur, h3, by omega, fun i hi => ?_⟩
  have := h5 (i + 1) (by omega)
  rw [show off + 1 + i = off + (i + 1) by omega, this]
  simp [List.getD_eq_getElem?_getD]
theorem Que.cut {w : World} {lo g off c : Nat} {x : Int} (h : Que w lo g off 1 c [x]) : ∃ off', (if c = 1 then some (⟨g, off, none⟩ : Addr) else some ⟨g, off + 1, none⟩) = some ⟨g, off', none⟩ ∧ Que w lo g off' 0 (c - 1) [] := by
  by_cases hc : c = 1
  · subst hc
    obtain ⟨h0, h1, h2, h2', cur, h3, h4, h5⟩ := h
    exact ⟨off, rfl, rfl, h1, by omega, by omega, cur, h3, by omega, fun i hi => absurd hi (by omega)⟩
  · exact ⟨off + 1, if_neg hc, h.tail⟩
theorem Que.below {w w' : World} {lo g off n c : Nat} {xs : List Int} (h : Que w lo g off n c xs) (hb : Below w.heap.size w w') : Que w' lo g off n c xs := by
  obtain ⟨h0, h1, h2, h2', cur, h3, h4⟩ := h
  exact ⟨h0, h1, h2, h2', cur, h3.below hb h3.lt, h4⟩
theorem Que.setne {w : World} {lo g off n c : Nat} {xs : List Int} (h : Que w lo g off n c xs) {a : Addr} (hne : g ≠ a.block) (u : Value) : Que (w.setCell a u) lo g off n c xs := by
  obtain ⟨h0, h1, h2, h2', cur, h3, h4⟩ := h
  exact ⟨h0, h1, h2, h2', cur, h3.setne hne u, h4⟩
theorem Que.one {w : World} {lo b : Nat} {x : Int} (hb : b = w.heap.size) (hlo : lo ≤ b) : Que (w.alloc (.cells #[.int .i64 x] 2)) lo b 0 1 1 [x] :=
  ⟨rfl, hlo, Nat.le_refl _, by decide, _, Loc.new w hb _ _, by simp, fun i (hi : i < 1) => by
    have e : i = 0 := by omega
    subst e
    rfl⟩
end Go.Proofs.YtaddclaadbjnlaaGreat

namespace Go.Proofs.YtaddclaadbjnlaaGreat
set_option maxRecDepth 100000
set_option linter.unusedVariables false
set_option linter.unusedSimpArgs false
open Go.RowKit
theorem least_ex (P : Nat → Prop) (h : ∃ m, P m) : ∃ m, P m ∧ ∀ k, P k → m ≤ k := by
  obtain ⟨m, hm⟩ := h
  induction m using Nat.strongRecOn with
  | ind m ih =>
    by_cases hk : ∃ k, k < m ∧ P k
    · obtain ⟨k, hlt, hp⟩ := hk
      exact ih k hlt hp
    · exact ⟨m, hm, fun k hp => by
        by_cases h : m ≤ k
        · exact h
        · exact absurd ⟨k, by omega, hp⟩ hk⟩
noncomputable def least (P : Nat → Prop) : Nat := open Classical in if h : ∃ m, P m then Classical.choose (least_ex P h) else 0
end Go.Proofs.YtaddclaadbjnlaaGreat

namespace Go.Proofs.YtaddclaadbjnlaaGreat
set_option maxRecDepth 100000
set_option linter.unusedVariables false
set_option linter.unusedSimpArgs false
open Go.RowKit
def natL (c : List Nat) : List Int := c.map fun x : Nat => (x : Int)
end Go.Proofs.YtaddclaadbjnlaaGreat

namespace Go.Proofs.YtaddclaadbjnlaaGreat
set_option linter.unusedVariables false
set_option linter.unusedSimpArgs false
set_option maxRecDepth 100000
open Go.ChangeShapes Go.WideShapes Go.ChangeAt Go.RowKit Go.Joins
theorem und_bytesO : Tryz.prog.underlying 22 = some (.slice 5) := by kernel_rfl
theorem und_u8O : Tryz.prog.underlying 5 = some (.int .u8) := by kernel_rfl
theorem cells_u8 : Tryz.prog.cellsOf 5 = 1 := by kernel_rfl
def Bts (w : World) (a : Option Addr) (n : Nat) (xs : List Int) : Prop :=
  n = xs.length ∧ (∀ i, i < n → ∃ b off, a = some ⟨b, off, none⟩ ∧ b < w.heap.size ∧ w.cell? ⟨b, off + i, none⟩ = some (.int .u8 (xs.getD i 0))) ∧ ∀ i, 0 ≤ xs.getD i 0 ∧ xs.getD i 0 ≤ 255
theorem Bts.below {w w' : World} {a : Option Addr} {n : Nat} {xs : List Int} (h : Bts w a n xs) (hb : Below w.heap.size w w') : Bts w' a n xs :=
  ⟨h.1, fun i hi => by obtain ⟨b, off, h1, h3, h2⟩ := h.2.1 i hi; exact ⟨b, off, h1, Nat.lt_of_lt_of_le h3 hb.size, (hb.cell (p := ⟨b, off + i, none⟩) h3).trans h2⟩, h.2.2⟩
theorem Bts.len {w : World} {a : Option Addr} {n : Nat} {xs : List Int} (h : Bts w a n xs) : n = xs.length := h.1
theorem Bts.at {w : World} {a : Option Addr} {n : Nat} {xs : List Int} (h : Bts w a n xs) (i : Nat) (hi : i < n) : ∃ b off, a = some ⟨b, off, none⟩ ∧ w.cell? ⟨b, off + i, none⟩ = some (.int .u8 (xs.getD i 0)) := by
  obtain ⟨b, off, h1, _, h2⟩ := h.2.1 i hi; exact ⟨b, off, h1, h2⟩
theorem open_bytes {H : Type} {enc : TypeId × Value → H} {W : World} {b0 : Nat} {v : Value} {d : DataW H} {p : List MemPlace} {sp : Nat → Bool} (hsp : ∀ b, sp b = true) (hv : Value.okWide Tryz.prog W .any b0 22 v)
    (h : DataW.Trod enc Tryz.prog W 0 sp true 22 v d p) : ∃ a n c xs, v = .slice a n c ∧ Bts W a n xs ∧ n ≤ 9223372036854775807 := by
  obtain ⟨a, n, c, rfl⟩ := okWide_slice und_bytesO hv
  obtain ⟨fuel, hf⟩ := h
  rcases open_ints und_bytesO und_u8O cells_u8 hf with ⟨hcs, _⟩ | ⟨⟨b, off, spot⟩, l, c', zs, hcs, _, hl, hm, hz, _, hcell, hwz⟩
  · simp [Value.cells] at hcs
    obtain ⟨rfl, rfl, rfl⟩ := hcs
    exact ⟨_, _, _, [], rfl, ⟨rfl, fun i hi => absurd hi (by omega), fun i => by simp⟩, by omega⟩
  · simp [Value.cells] at hcs
    obtain ⟨rfl, rfl, rfl⟩ := hcs
    rw [if_pos (hsp _)] at hz
    refine ⟨_, _, _, zs.take n, rfl, ⟨by rw [List.length_take]; omega, fun i hi => ?_, fun i => ?_⟩, by unfold maxLen at hm; omega⟩
    · have h0 := hcell 0 (by omega)
      have hi' := hcell i (by omega)
      have hspot : spot = none := by simpa [Addr.add] using World.cell?_spot h0
      subst hspot
      have e : (⟨b, off, none⟩ : Addr).add i = ⟨b, off + i, none⟩ := by unfold Addr.add; split <;> simp_all
      rw [e] at hi'
      refine ⟨b, off, rfl, World.block_lt_of_cell? W ⟨b, off + i, none⟩ hi', hi'.trans ?_⟩
      simp [List.getD_eq_getElem?_getD, List.getElem?_take, hi]
    · have hb := range_u8 hwz i
      rw [List.getD_eq_getElem?_getD, List.getElem?_take]
      split
      · exact hb
      · simp
end Go.Proofs.YtaddclaadbjnlaaGreat

namespace Go.Proofs.YtaddclaadbjnlaaGreat
set_option linter.unusedVariables false
set_option linter.unusedSimpArgs false
set_option maxRecDepth 100000
open Go.RowKit
theorem grown_trans {a b c : World} {r : Option Nat} (h : a.grownBy b r) (k : b.grownBy c r) : a.grownBy c r :=
  ⟨k.os.trans h.os, k.tape.trans h.tape, k.output.trans h.output, Nat.le_trans h.size k.size, fun i hi hn => (k.block i (Nat.lt_of_lt_of_le hi h.size) hn).trans (h.block i hi hn)⟩
theorem grown_refl (w : World) (r : Option Nat) : w.grownBy w r := ⟨rfl, rfl, rfl, Nat.le_refl _, fun _ _ _ => rfl⟩
theorem grown_of_below {w w' : World} (h : Below w.heap.size w w') (r : Option Nat) : w.grownBy w' r := ⟨h.os, h.tape, h.output, h.size, fun k hk _ => h.block k hk⟩
theorem grown_drewN {a w : World} {r : Option Nat} (h : a.grownBy w r) (n : Nat) : a.grownBy (w.drewN n) r := ⟨h.os, h.tape, h.output, h.size, h.block⟩
theorem grown_set {a w : World} {b : Nat} (h : a.grownBy w (some b)) {p : Addr} (hp : p.block = b ∨ a.heap.size ≤ p.block) (u : Value) : a.grownBy (w.setCell p u) (some b) :=
  ⟨h.os, h.tape, h.output, by rw [size_set]; exact h.size, fun k hk hn => (Below.heap_setCell _ _ _ k (fun e => by rcases hp with hp | hp; exact hn (by rw [e, hp]); omega)).trans (h.block k hk hn)⟩
def Src (w : World) (b : Nat) : Prop := ∃ (a : Option Addr) (n c : Nat) (xs : List Int) (i : Nat) (h : Int), n ≤ 9223372036854775807 ∧ i ≤ n ∧ 0 ≤ h ∧ h < 18446744073709551616 ∧ Bts w a n xs ∧ (0 < n → ∀ g o, a = some ⟨g, o, none⟩ → g < b) ∧
  Loc w b #[.slice a n c, .int .i64 i, .int .u64 h] 94
theorem Src.lt {w : World} {b : Nat} (h : Src w b) : b < w.heap.size := by obtain ⟨a, n, c, xs, i, h, _, _, _, _, _, _, hL⟩ := h; exact hL.lt
theorem Src.below {w w' : World} {b : Nat} (h : Src w b) (hb : Below w.heap.size w w') : Src w' b := by
  obtain ⟨a, n, c, xs, i, h, h1, h2, h3, h4, hB, hg, hL⟩ := h
  exact ⟨a, n, c, xs, i, h, h1, h2, h3, h4, hB.below hb, hg, hL.below hb hL.lt⟩
theorem wrapsU (n : Int) (h₀ : 0 ≤ n) (h₁ : n < 2 ^ 63) : IntKind.u64.wrap n = n := by rw [IntKind.wrap_u64]; omega
theorem u64_rng (z : Int) : 0 ≤ IntKind.u64.wrap z ∧ IntKind.u64.wrap z < 18446744073709551616 := by rw [IntKind.wrap_u64]; omega
theorem mask24 (g : Int) (h1 : 0 ≤ g) (h2 : g < 18446744073709551616) : 0 ≤ wrap64 (bits BinOp.and IntKind.u64 (g / 8589934592) 16777215) ∧ wrap64 (bits BinOp.and IntKind.u64 (g / 8589934592) 16777215) ≤ 16777215 := by
  have h := bits_mask .u64 63 (by decide) wrapsU 24 (by decide) (g / 8589934592) (by omega) (by omega)
  have e : ((2 : Int) ^ 24 - 1) = 16777215 := by decide
  have e2 : ((2 : Int) ^ 24) = 16777216 := by decide
  rw [e, e2] at h
  rw [h, IntWalk.wrap64_in _ ⟨by omega, by omega⟩]
  omega
set_option maxHeartbeats 2000000 in
theorem l01Next_ok (b : Nat) (n : Int) (w : World) (h : Src w b) (hn : I64 n) :
    Calls Tryz.prog 57 #[.pointer (some ⟨b, 0, none⟩), .int .i64 n] w fun e w' => ∃ x, e = .returned (.int .i64 x) ∧ (n < 1 → x = 0) ∧ (1 ≤ n → 0 ≤ x ∧ x < n) ∧ Src w' b ∧ w.grownBy w' (some b) := by
  obtain ⟨a, m, c, xs, i, g, h1, h2, h3, h4, hB, hg, hL⟩ := h
  by_cases hn1 : n < 1
  · go_enter Tryz.func57, Tryz.ntmps57
    go_wp2
    go_ret
    exact ⟨_, rfl, fun _ => rfl, fun h => absurd h (by omega), ⟨a, m, c, xs, i, g, h1, h2, h3, h4, hB, hg, hL⟩, grown_refl _ _⟩
  · have lL := hL.three
    obtain ⟨hn2, hn3⟩ := hn
    have hn4 : 1 ≤ n := by omega
    clear hn1
    go_enter Tryz.func57, Tryz.ntmps57
    go_wp2
    obtain ⟨G, HG⟩ : ∃ G, Hid (IntKind.u64.wrap (IntKind.u64.wrap (g * 6364136223846793005) + 1442695040888963407) = G) := ⟨_, rfl⟩
    have hG := u64_rng (IntKind.u64.wrap (g * 6364136223846793005) + 1442695040888963407)
    rw [HG.out] at hG
    rw [HG.out]
    obtain ⟨hG1, hG2⟩ := hG
    obtain ⟨hX1, hX2⟩ := mask24 G hG1 hG2
    obtain ⟨X, HX⟩ : ∃ X, Hid (wrap64 (bits BinOp.and IntKind.u64 (G / 8589934592) 16777215) = X) := ⟨_, rfl⟩
    rw [HX.out] at hX1 hX2
    rw [HX.out]
    have hL2 := hL.set 2 (.int .u64 G)
    have lL2 := hL2.three
    have hg2 := grown_set (grown_refl w (some b)) (p := ⟨b, 2, none⟩) (.inl rfl) (.int .u64 G)
    have hB2 : Bts (w.setCell ⟨b, 2, none⟩ (.int .u64 G)) a m xs := ⟨hB.1, fun j hj => by
      obtain ⟨q, off, e1, e2, e3⟩ := hB.2.1 j hj
      exact ⟨q, off, e1, by rw [size_set]; exact e2, cell_setne e3 (by have := hg (by omega) q off e1; simp; omega) _⟩, hB.2.2⟩
    generalize w.setCell ⟨b, 2, none⟩ (.int .u64 G) = w2 at *
    by_cases hi : i < m
    · obtain ⟨q, off, rfl, hc⟩ := hB2.at i hi
      have hxr := hB2.2.2 i
      obtain ⟨V, HV⟩ : ∃ V, Hid (xs.getD i 0 = V) := ⟨_, rfl⟩
      rw [HV.out] at hc hxr
      obtain ⟨v1, v2⟩ := hxr
      have s1 : (0 : Int) ≤ (i : Int) := by omega
      have s2 : (i : Int) < (m : Int) := by omega
      go_quiet (fail)
      go_wp2
      have s3 : IntKind.i64.wrap (X + V) = X + V := IntWalk.i64_in _ ⟨by omega, by omega⟩
      have s4 : IntKind.i64.wrap V = V := IntWalk.i64_in _ ⟨by omega, by omega⟩
      go_quiet (fail)
      clear s3 s4
      go_wp2
      go_ret
      rename_i nq0
      have hL3 := (hL2.drewN (nq0 + nq)).set 1 (.int .i64 (i + 1))
      refine ⟨_, rfl, fun h => absurd h (by omega), fun _ => ⟨Int.emod_nonneg _ (by omega), Int.emod_lt_of_pos _ (by omega)⟩, ?_, grown_set (grown_drewN hg2 _) (.inl rfl) _⟩
      refine ⟨some ⟨q, off, none⟩, m, c, xs, i + 1, G, h1, by omega, hG1, hG2, ?_, hg, hL3⟩
      exact ⟨hB2.1, fun j hj => by
        obtain ⟨q', off', e1, e2, e3⟩ := hB2.2.1 j hj
        exact ⟨q', off', e1, by rw [size_set]; exact e2, cell_setne (w := w2.drewN _) e3 (by have := hg (by omega) q' off' e1; simp; omega) _⟩, hB2.2.2⟩
    · go_quiet (fail)
      go_wp2
      go_ret
      refine ⟨_, rfl, fun h => absurd h (by omega), fun _ => ⟨Int.emod_nonneg _ (by omega), Int.emod_lt_of_pos _ (by omega)⟩, ?_, grown_drewN hg2 _⟩
      exact ⟨a, m, c, xs, i, G, h1, h2, hG1, hG2, hB2.below (below_drewN (Below.refl _ _) _), hg, hL2.drewN _⟩
set_option maxHeartbeats 2000000 in
theorem l01From_ok (a : Option Addr) (n c : Nat) (xs : List Int) (w : World) (h : Bts w a n xs) (hn : n ≤ 9223372036854775807) :
    Calls Tryz.prog 36 #[.slice a n c] w fun e w' => ∃ b, e = .returned (.pointer (some ⟨b, 0, none⟩)) ∧ w.heap.size ≤ b ∧ Src w' b ∧ Below w.heap.size w w' := by
  go_enter Tryz.func36, Tryz.ntmps36
  go_wp2
  go_loopw [4] (fun i wr => ∃ (k : Nat) (g : Int), k ≤ 4096 ∧ i = .int .i64 k ∧ 0 ≤ g ∧ g < 18446744073709551616 ∧ Loc wr w.heap.size #[.slice a n c, .int .i64 0, .int .u64 g] 94 ∧ Below w.heap.size w wr) (fun i _ => 4096 - (intOf i).toNat)
  case atStart => exact ⟨0, _, by omega, rfl, by omega, by omega, Loc.new w rfl _ _, below_al (Below.refl _ _) _⟩
  case round =>
    obtain ⟨k, g, hk, rfl, hg1, hg2, hL, hq⟩ := hrel
    by_cases hlt : k < n
    · by_cases hlt2 : k < 4096
      · obtain ⟨q, off, rfl, hc⟩ := (h.below hq).at k hlt
        obtain ⟨V, HV⟩ : ∃ V, Hid (xs.getD k 0 = V) := ⟨_, rfl⟩
        have hxr := h.2.2 k
        rw [HV.out] at hc hxr
        obtain ⟨v1, v2⟩ := hxr
        have s1 : (0 : Int) ≤ (k : Int) := by omega
        have s2 : (k : Int) < (n : Int) := by omega
        have lL := hL.three
        go_wp2
        refine wp_region_still_tail 15 (by kernel_rfl) (by kernel_rfl) ?_
        change wpStill _ _ wr.drew (fun a' => wpList _ _ _ _ a' wr.drew) _ _
        replace hL := hL.drew
        replace lL := hL.three
        replace hc : wr.drew.cell? ⟨q, off + k, none⟩ = some (.int .u8 V) := hc
        replace hq : Below w.heap.size w wr.drew := hq.drew
        generalize wr.drew = w2 at *
        simp only [List.take_succ_cons, List.take_zero, List.drop_succ_cons, List.drop_zero]
        repeat still_step
        refine wpStill_nil ?_
        go_wp2
        go_roundw
        case rel =>
          have hu := u64_rng (IntKind.u64.wrap (IntKind.u64.wrap (g * 1099511628211) + V) + 11)
          exact ⟨k + 1, _, by omega, by go_num, hu.1, hu.2, hL.set 2 _, hq.setCell (Nat.le_refl _) _⟩
        case measure => simp [intOf]; omega
      · have hk2 : k = 4096 := by omega
        subst hk2
        go_wp2
        go_ret
        exact ⟨_, rfl, Nat.le_refl _, ⟨a, n, c, xs, 0, g, hn, by omega, hg1, hg2, h.below hq, fun hn q o e => by obtain ⟨b', o', e1, e2, _⟩ := h.2.1 0 hn; rw [e1] at e; cases e; exact e2, hL⟩, hq⟩
    · go_wp2
      go_ret
      exact ⟨_, rfl, Nat.le_refl _, ⟨a, n, c, xs, 0, g, hn, by omega, hg1, hg2, h.below hq, fun hn q o e => by obtain ⟨b', o', e1, e2, _⟩ := h.2.1 0 hn; rw [e1] at e; cases e; exact e2, hL⟩, hq⟩
theorem Row.grown {w w' : World} {a : Option Addr} {n : Nat} {xs : List Int} {r : Option Nat} (h : Row w a n xs) (hg : w.grownBy w' r) (hne : ∀ g o, 0 < n → a = some ⟨g, o, none⟩ → some g ≠ r) : Row w' a n xs :=
  ⟨h.1, fun i hi => by
    obtain ⟨b, off, h1, h3, h2⟩ := h.2 i hi
    exact ⟨b, off, h1, Nat.lt_of_lt_of_le h3 hg.size, hg.cell (a := ⟨b, off + i, none⟩) h2 (hne b off (by omega) h1)⟩⟩
set_option maxHeartbeats 2000000 in
theorem l01Pick_ok (b : Nat) (a : Option Addr) (n c : Nat) (xs : List Int) (w : World) (h : Src w b) (hr : Row w a n xs) (h1 : 1 ≤ n) (h2 : n ≤ 1000) (hne : ∀ g o, a = some ⟨g, o, none⟩ → g ≠ b) :
    Calls Tryz.prog 35 #[.pointer (some ⟨b, 0, none⟩), .slice a n c] w fun e w' => ∃ x, e = .returned (.int .i64 x) ∧ x ∈ xs ∧ Src w' b ∧ w.grownBy w' (some b) := by
  go_enter Tryz.func35, Tryz.ntmps35
  go_wp2_with fail
  refine (l01Next_ok b (n : Int) w h ⟨by omega, by omega⟩).mono ?_
  rintro e w1 ⟨x, rfl, _, hx, hs1, hg1⟩
  obtain ⟨hx1, hx2⟩ := hx (by omega)
  obtain ⟨k, rfl⟩ : ∃ k : Nat, x = k := ⟨x.toNat, by omega⟩
  have hk : k < n := by omega
  obtain ⟨q, off, rfl, hc⟩ := (hr.grown hg1 (fun g o _ e => by have := hne g o e; simp; omega)).at k hk
  have hm : xs.getD k 0 ∈ xs := by
    have := hr.len
    rw [List.getD_eq_getElem?_getD, List.getElem?_eq_getElem (by omega)]; exact List.getElem_mem _
  obtain ⟨V, HV⟩ : ∃ V, Hid (xs.getD k 0 = V) := ⟨_, rfl⟩
  rw [HV.out] at hc hm
  have hx3 : (k : Int) < (n : Int) := by omega
  go_wp2
  go_ret
  exact ⟨_, rfl, hm, hs1, hg1⟩
theorem row_lit (w : World) (cs : Array Value) (t : TypeId) (xs : List Int) (h : cs.toList = xs.map (Value.int .i64)) : Row (w.alloc (.cells cs t)) (some ⟨w.heap.size, 0, none⟩) xs.length xs := by
  refine ⟨rfl, fun i hi => ⟨w.heap.size, 0, rfl, by simp, (Loc.new w rfl cs t).cell _ ?_⟩⟩
  rw [Nat.zero_add, ← Array.getElem?_toList, h, List.getElem?_map, List.getElem?_eq_getElem hi]
  simp [List.getD_eq_getElem?_getD, List.getElem?_eq_getElem hi]
end Go.Proofs.YtaddclaadbjnlaaGreat

namespace Go.Proofs.YtaddclaadbjnlaaGreat
set_option linter.unusedVariables false
set_option linter.unusedSimpArgs false
set_option maxRecDepth 100000
open Go.RowKit
theorem Src.setne {w : World} {b : Nat} (h : Src w b) {p : Addr} (hp : b < p.block) (u : Value) : Src (w.setCell p u) b := by
  obtain ⟨a, n, c, xs, i, g, h1, h2, h3, h4, hB, hg, hL⟩ := h
  refine ⟨a, n, c, xs, i, g, h1, h2, h3, h4, ⟨hB.1, fun j hj => ?_, hB.2.2⟩, hg, hL.setne (by omega) u⟩
  obtain ⟨q, off, e1, e2, e3⟩ := hB.2.1 j hj
  exact ⟨q, off, e1, by rw [size_set]; exact e2, cell_setne e3 (by have := hg (by omega) q off e1; simp; omega) _⟩
theorem Src.keepB {w w' : World} {b B : Nat} (h : Src w b) (hb : Below B w w') (hlt : b < B) : Src w' b := by
  obtain ⟨a, n, c, xs, i, g, h1, h2, h3, h4, hB, hg, hL⟩ := h
  refine ⟨a, n, c, xs, i, g, h1, h2, h3, h4, ⟨hB.1, fun j hj => ?_, hB.2.2⟩, hg, hL.below hb hlt⟩
  obtain ⟨q, off, e1, e2, e3⟩ := hB.2.1 j hj
  exact ⟨q, off, e1, Nat.lt_of_lt_of_le e2 hb.size, (hb.cell (p := ⟨q, off + j, none⟩) (by have := hg (by omega) q off e1; show q < B; omega)).trans e3⟩
theorem grown_below {a w w' : World} {r : Option Nat} {B : Nat} (h : a.grownBy w r) (hb : Below B w w') (hB : a.heap.size ≤ B) : a.grownBy w' r :=
  ⟨hb.os.trans h.os, hb.tape.trans h.tape, hb.output.trans h.output, Nat.le_trans h.size hb.size, fun k hk hn => (hb.block k (by omega)).trans (h.block k hk hn)⟩
def Sml (xs : List Int) : Prop := ∀ x ∈ xs, -100 ≤ x ∧ x ≤ 100
theorem Sml.snoc {xs : List Int} (h : Sml xs) {x : Int} (h1 : -100 ≤ x) (h2 : x ≤ 100) : Sml (xs ++ [x]) := fun y hy => by
  rcases List.mem_append.1 hy with hy | hy
  · exact h y hy
  · simp at hy; subst hy; exact ⟨h1, h2⟩
end Go.Proofs.YtaddclaadbjnlaaGreat

namespace Go.Proofs.YtaddclaadbjnlaaGreat
set_option linter.unusedVariables false
set_option linter.unusedSimpArgs false
set_option maxRecDepth 100000
open Go.RowKit
def PrD (b : Nat) (w : World) (n : Nat) (e : Ending) (w' : World) : Prop :=
  ∃ (a : Option Addr) (c : Nat) (p : List Int), e = .returned (.slice a n c) ∧ IsP n p ∧ Own w' w.heap.size a n c p ∧ Src w' b ∧ w.grownBy w' (some b)
end Go.Proofs.YtaddclaadbjnlaaGreat

namespace Go.Proofs.YtaddclaadbjnlaaGreat
set_option maxRecDepth 100000
set_option linter.unusedVariables false
set_option linter.unusedSimpArgs false
open Go.RowKit
structure Dsk (w : World) (a : Option Addr) (n : Nat) (xss : List (List Int)) (a' : Option Addr) (n' : Nat) (yss : List (List Int)) (p : Option Addr) (m : Nat) (zss : List (List Int)) (q : Option Addr) (l : Nat) (ws : List Int) : Prop where
  s : Sol w a n xss a' n' yss
  r : Tbl w p m zss
  b : Row w q l ws
section
variable {w w' : World} {lo : Nat} {s : Int} {a a' p q a1 a1' p1 q1 a2 a2' p2 q2 : Option Addr} {n n' m l c c' d e n1 n1' m1 l1 c1 c1' d1 e1 n2 n2' m2 l2 c2 c2' d2 e2 : Nat} {xss yss zss : List (List Int)} {ws : List Int}
theorem Dsk.below (h : Dsk w a n xss a' n' yss p m zss q l ws) (hb : Below w.heap.size w w') : Dsk w' a n xss a' n' yss p m zss q l ws := ⟨h.s.below hb, h.r.below hb, h.b.below hb⟩
theorem Dsk.alloc (h : Dsk w a n xss a' n' yss p m zss q l ws) (o : Obj) : Dsk (w.alloc o) a n xss a' n' yss p m zss q l ws := ⟨h.s.alloc o, h.r.alloc o, h.b.alloc o⟩
structure OwnD (w : World) (lo : Nat) (a : Option Addr) (n c : Nat) (vs : List SV) (xss : List (List Int)) (a' : Option Addr) (n' c' : Nat) (vs' : List SV) (yss : List (List Int)) (p : Option Addr) (m d : Nat) (ps : List SV) (zss : List (List Int)) (q : Option Addr) (l e : Nat) (ws : List Int) : Prop where
  s : OwnS w lo a n c vs xss a' n' c' vs' yss
  r : OwnT w lo p m d ps zss
  b : Own w lo q l e ws
theorem OwnS.setlo {vs vs' : List SV} (h : OwnS w lo a n c vs xss a' n' c' vs' yss) {x : Addr} (hp : x.block < lo) (u : Value) : OwnS (w.setCell x u) lo a n c vs xss a' n' c' vs' yss := ⟨h.f.setlo hp u, h.s.setlo hp u, h.ap⟩
theorem OwnD.below {vs vs' ps : List SV} (h : OwnD w lo a n c vs xss a' n' c' vs' yss p m d ps zss q l e ws) (hb : Below w.heap.size w w') : OwnD w' lo a n c vs xss a' n' c' vs' yss p m d ps zss q l e ws := ⟨h.s.below hb, h.r.below hb, h.b.below hb⟩
end
end Go.Proofs.YtaddclaadbjnlaaGreat

namespace Go.Proofs.YtaddclaadbjnlaaGreat
set_option maxRecDepth 100000
set_option linter.unusedVariables false
set_option linter.unusedSimpArgs false
open Go.RowKit
def DskS (a : Option Addr) (n : Nat) (vs : List SV) (a' : Option Addr) (n' : Nat) (vs' : List SV) (p : Option Addr) (m : Nat) (ps : List SV) (q : Option Addr) (g : Nat) : Prop := SolS a n vs a' n' vs' g ∨ TblS p m ps g ∨ RowS q g
structure OwnDD (w : World) (lo : Nat) (a : Option Addr) (n c : Nat) (vs : List SV) (xss : List (List Int)) (a' : Option Addr) (n' c' : Nat) (vs' : List SV) (yss : List (List Int)) (p : Option Addr) (m d : Nat) (ps : List SV) (zss : List (List Int)) (q : Option Addr) (l e : Nat) (ws : List Int) : Prop where
  o : OwnD w lo a n c vs xss a' n' c' vs' yss p m d ps zss q l e ws
  ap1 : ∀ g, SolS a n vs a' n' vs' g → ¬ TblS p m ps g
  ap2 : ∀ g, SolS a n vs a' n' vs' g → ¬ RowS q g
  ap3 : ∀ g, TblS p m ps g → ¬ RowS q g
section
variable {w w' : World} {lo : Nat} {s : Int} {a a' p q a1 a1' p1 q1 a2 a2' p2 q2 : Option Addr} {n n' m l c c' d e n1 n1' m1 l1 c1 c1' d1 e1 n2 n2' m2 l2 c2 c2' d2 e2 : Nat} {xss yss zss : List (List Int)} {ws : List Int} {vs vs' ps : List SV}
theorem Dsk.drewN (h : Dsk w a n xss a' n' yss p m zss q l ws) (k : Nat) : Dsk (w.drewN k) a n xss a' n' yss p m zss q l ws := ⟨h.s.drewN k, h.r.drewN k, h.b.drewN k⟩
theorem OwnD.alloc (h : OwnD w lo a n c vs xss a' n' c' vs' yss p m d ps zss q l e ws) (o : Obj) : OwnD (w.alloc o) lo a n c vs xss a' n' c' vs' yss p m d ps zss q l e ws := ⟨h.s.alloc o, h.r.alloc o, h.b.alloc o⟩
theorem OwnD.drewN (h : OwnD w lo a n c vs xss a' n' c' vs' yss p m d ps zss q l e ws) (k : Nat) : OwnD (w.drewN k) lo a n c vs xss a' n' c' vs' yss p m d ps zss q l e ws := ⟨h.s.drewN k, h.r.drewN k, h.b.drewN k⟩
theorem OwnD.mono {lo' : Nat} (h : OwnD w lo a n c vs xss a' n' c' vs' yss p m d ps zss q l e ws) (hl : lo' ≤ lo) : OwnD w lo' a n c vs xss a' n' c' vs' yss p m d ps zss q l e ws := ⟨h.s.mono hl, h.r.mono hl, h.b.mono hl⟩
theorem OwnD.cap (h : OwnD w lo a n c vs xss a' n' c' vs' yss p m d ps zss q l e ws) : ((n ≤ c ∧ c ≤ 9223372036854775807) ∧ n' ≤ c' ∧ c' ≤ 9223372036854775807) ∧ (m ≤ d ∧ d ≤ 9223372036854775807) ∧ l ≤ e ∧ e ≤ 9223372036854775807 := ⟨h.s.cap, h.r.cap, h.b.cap⟩
theorem OwnD.uLo (h : OwnD w lo a n c vs xss a' n' c' vs' yss p m d ps zss q l e ws) : ∀ g, DskS a n vs a' n' vs' p m ps q g → lo ≤ g := fun g hg => hg.elim (h.s.uLo g) fun hg => hg.elim (h.r.uLo g) (h.b.uLo g)
theorem OwnD.uHi (h : OwnD w lo a n c vs xss a' n' c' vs' yss p m d ps zss q l e ws) : ∀ g, DskS a n vs a' n' vs' p m ps q g → g < w.heap.size := fun g hg => hg.elim (h.s.uHi g) fun hg => hg.elim (h.r.uHi g) (h.b.uHi g)
theorem OwnD.uKeep (h : OwnD w lo a n c vs xss a' n' c' vs' yss p m d ps zss q l e ws) {S : Nat → Prop} (hm : Marked S w w') (hS : ∀ g, DskS a n vs a' n' vs' p m ps q g → ¬ S g) : OwnD w' lo a n c vs xss a' n' c' vs' yss p m d ps zss q l e ws :=
  ⟨h.s.uKeep hm fun g hg => hS g (.inl hg), h.r.uKeep hm fun g hg => hS g (.inr (.inl hg)), h.b.uKeep hm fun g hg => hS g (.inr (.inr hg))⟩
theorem OwnDD.below (h : OwnDD w lo a n c vs xss a' n' c' vs' yss p m d ps zss q l e ws) (hb : Below w.heap.size w w') : OwnDD w' lo a n c vs xss a' n' c' vs' yss p m d ps zss q l e ws := ⟨h.o.below hb, h.ap1, h.ap2, h.ap3⟩
theorem OwnDD.alloc (h : OwnDD w lo a n c vs xss a' n' c' vs' yss p m d ps zss q l e ws) (o : Obj) : OwnDD (w.alloc o) lo a n c vs xss a' n' c' vs' yss p m d ps zss q l e ws := ⟨h.o.alloc o, h.ap1, h.ap2, h.ap3⟩
theorem OwnDD.drewN (h : OwnDD w lo a n c vs xss a' n' c' vs' yss p m d ps zss q l e ws) (k : Nat) : OwnDD (w.drewN k) lo a n c vs xss a' n' c' vs' yss p m d ps zss q l e ws := ⟨h.o.drewN k, h.ap1, h.ap2, h.ap3⟩
theorem OwnDD.mono {lo' : Nat} (h : OwnDD w lo a n c vs xss a' n' c' vs' yss p m d ps zss q l e ws) (hl : lo' ≤ lo) : OwnDD w lo' a n c vs xss a' n' c' vs' yss p m d ps zss q l e ws := ⟨h.o.mono hl, h.ap1, h.ap2, h.ap3⟩
theorem OwnDD.cap (h : OwnDD w lo a n c vs xss a' n' c' vs' yss p m d ps zss q l e ws) : ((n ≤ c ∧ c ≤ 9223372036854775807) ∧ n' ≤ c' ∧ c' ≤ 9223372036854775807) ∧ (m ≤ d ∧ d ≤ 9223372036854775807) ∧ l ≤ e ∧ e ≤ 9223372036854775807 := h.o.cap
theorem OwnDD.uLo (h : OwnDD w lo a n c vs xss a' n' c' vs' yss p m d ps zss q l e ws) : ∀ g, DskS a n vs a' n' vs' p m ps q g → lo ≤ g := h.o.uLo
theorem OwnDD.uHi (h : OwnDD w lo a n c vs xss a' n' c' vs' yss p m d ps zss q l e ws) : ∀ g, DskS a n vs a' n' vs' p m ps q g → g < w.heap.size := h.o.uHi
theorem OwnDD.uKeep (h : OwnDD w lo a n c vs xss a' n' c' vs' yss p m d ps zss q l e ws) {S : Nat → Prop} (hm : Marked S w w') (hS : ∀ g, DskS a n vs a' n' vs' p m ps q g → ¬ S g) : OwnDD w' lo a n c vs xss a' n' c' vs' yss p m d ps zss q l e ws := ⟨h.o.uKeep hm hS, h.ap1, h.ap2, h.ap3⟩
end
end Go.Proofs.YtaddclaadbjnlaaGreat

namespace Go.Proofs.YtaddclaadbjnlaaGreat
set_option maxRecDepth 100000
set_option linter.unusedVariables false
set_option linter.unusedSimpArgs false
open Go.RowKit
def repT (n : Nat) (p : List Int) : List (List Int) := List.replicate n p
theorem repT_succ {n k : Nat} (p : List Int) (h : k < n) : (repT n p).take (k + 1) = (repT n p).take k ++ [p] := by
  rw [List.take_succ_eq_append_getElem (by simp [repT]; exact h)]; simp [repT]
end Go.Proofs.YtaddclaadbjnlaaGreat

namespace Go.Proofs.YtaddclaadbjnlaaGreat
set_option linter.unusedVariables false
set_option linter.unusedSimpArgs false
set_option maxRecDepth 100000
open Go.RowKit
theorem tabF_succ {n k : Nat} (V : Nat → Nat → Int) (h : k < n) : (tabF n V).take (k + 1) = (tabF n V).take k ++ [(List.range n).map fun y => V k y] := by
  have hl : k < (tabF n V).length := by rw [tabF_len]; exact h
  rw [List.take_succ_eq_append_getElem hl]
  simp [tabF]
end Go.Proofs.YtaddclaadbjnlaaGreat

namespace Go.Proofs.YtaddclaadbjnlaaGreat
set_option linter.unusedVariables false
set_option linter.unusedSimpArgs false
set_option maxRecDepth 100000
open Go.RowKit
theorem wrap_n6 {P : Nat} (h : P ≤ 1000000) : wrap64 (P : Int) = (P : Int) := IntWalk.wrap64_in _ (by omega)
end Go.Proofs.YtaddclaadbjnlaaGreat

namespace Go.Proofs.YtaddclaadbjnlaaGreat
set_option linter.unusedVariables false
set_option linter.unusedSimpArgs false
set_option maxRecDepth 100000
open Go.RowKit
theorem sq_of {n : Nat} {t : List (List Int)} (hl : t.length = n) (h : ∀ x, x < n → (t.getD x []).length = n ∧ ∀ y, y < n → ∃ z : Nat, z < n ∧ (t.getD x []).getD y 0 = (z : Int)) : Sq n t :=
  ⟨hl, fun x hx => ⟨(h x hx).1, fun y hy => by
    obtain ⟨z, hz, e⟩ := (h x hx).2 y hy
    have : tv t x y = z := by unfold tv; rw [e, Int.toNat_natCast]
    rw [this]; exact ⟨hz, e⟩⟩⟩
theorem rep_sq {n : Nat} {p : List Int} (hp : IsP n p) : Sq n (repT n p) := by
  refine sq_of (by simp [repT]) fun x hx => ?_
  have e : (repT n p).getD x [] = p := by simp [repT, List.getD_eq_getElem?_getD, hx]
  rw [e]
  exact ⟨hp.len, fun y hy => by obtain ⟨z, h1, h2⟩ := hp.at hy; exact ⟨z, h2, h1⟩⟩
end Go.Proofs.YtaddclaadbjnlaaGreat

namespace Go.Proofs.YtaddclaadbjnlaaGreat
set_option linter.unusedVariables false
set_option linter.unusedSimpArgs false
set_option maxRecDepth 100000
open Go.RowKit
theorem OwnS.grownb {w w' : World} {lo b : Nat} {a a' : Option Addr} {n c n' c' : Nat} {vs vs' : List SV} {f g : List (List Int)} (h : OwnS w lo a n c vs f a' n' c' vs' g) (hg : w.grownBy w' (some b)) (hb : b < lo) : OwnS w' lo a n c vs f a' n' c' vs' g :=
  ⟨h.f.keep fun q hq hl => hg.block q hl (fun e => by have := h.f.uLo q hq; cases e; omega), h.s.keep fun q hq hl => hg.block q hl (fun e => by have := h.s.uLo q hq; cases e; omega), h.ap⟩
theorem row_loc {w : World} {b n : Nat} {cs : Array Value} {t : TypeId} {xs : List Int} (h : Loc w b cs t) (hn : n = xs.length) (e : cs.toList = xs.map (Value.int .i64)) : Row w (some ⟨b, 0, none⟩) n xs := by
  subst hn
  refine ⟨rfl, fun i hi => ⟨b, 0, rfl, h.lt, h.cell _ ?_⟩⟩
  rw [Nat.zero_add, ← Array.getElem?_toList, e, List.getElem?_map, List.getElem?_eq_getElem hi]
  simp [List.getD_eq_getElem?_getD, List.getElem?_eq_getElem hi]
end Go.Proofs.YtaddclaadbjnlaaGreat

namespace Go.Proofs.YtaddclaadbjnlaaGreat
set_option maxRecDepth 100000
set_option linter.unusedVariables false
set_option linter.unusedSimpArgs false
open Go.RowKit
theorem OwnT.grownS {w w' : World} {lo b : Nat} {a : Option Addr} {n c : Nat} {vs : List SV} {t : List (List Int)} (h : OwnT w lo a n c vs t) (hg : w.grownBy w' (some b)) (hb : b < lo) : OwnT w' lo a n c vs t :=
  h.keep fun g hq hl => hg.block g hl (fun e => by have := h.blo g hq; cases e; omega)
def LsN (n : Nat) (xs : List Int) : Prop := xs.length = n ∧ Less n xs
theorem LsN.of {n : Nat} {p : List Int} (h : IsP n p) : LsN n p := by
  obtain ⟨f, g, hl, h1, h2⟩ := h
  exact ⟨hl, fun i hi => ⟨f i, (h1 i (by omega)).1, h2 i (by omega)⟩⟩
theorem LsN.set {n : Nat} {xs : List Int} (h : LsN n xs) (i : Nat) {k : Nat} (hk : k < n) : LsN n (xs.set i (k : Int)) := by
  refine ⟨by rw [List.length_set]; exact h.1, fun j hj => ?_⟩
  rw [List.length_set] at hj
  rw [getD_setz _ _ _ _ hj]
  by_cases e : j = i
  · rw [if_pos e]; exact ⟨k, hk, rfl⟩
  · rw [if_neg e]; exact h.2 j hj
def PSq (n : Nat) (f : List (List Int)) : Prop := ∀ r, r ∈ f → LsN n r
theorem PSq.sq {n : Nat} {f : List (List Int)} (h : PSq n f) (hl : f.length = n) : Sq n f := by
  refine ⟨hl, fun x hx => ?_⟩
  have hm : f.getD x [] ∈ f := by rw [List.getD_eq_getElem?_getD, List.getElem?_eq_getElem (by omega)]; exact List.getElem_mem _
  obtain ⟨h1, h2⟩ := h _ hm
  refine ⟨h1, fun y hy => ?_⟩
  obtain ⟨k, hk, e⟩ := h2 y (by omega)
  unfold tv
  rw [e]
  exact ⟨by simpa using hk, by simp⟩
theorem PSq.snoc {n : Nat} {f : List (List Int)} (h : PSq n f) {r : List Int} (hr : LsN n r) : PSq n (f ++ [r]) := fun q hq => by
  rcases List.mem_append.1 hq with hq | hq
  · exact h q hq
  · rw [List.mem_singleton.1 hq]; exact hr
end Go.Proofs.YtaddclaadbjnlaaGreat
