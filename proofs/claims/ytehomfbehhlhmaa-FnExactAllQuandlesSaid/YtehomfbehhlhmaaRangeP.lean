/-
  A range over an iterator that keeps one row of numbers in a block of its own, and hands that row to each round.
  No condition.
-/
import Derived.RangeFuncNested
import Derived.RangeFuncBound
import Derived.RangeFuncCalls
import Derived.RangeFuncLeaves
import Derived.OwnWalkIn
import Derived.TacticsInMore
import Derived.LoopNIn
import Derived.LoopIn
import Derived.Test.YtehomfbehhlhmaaNxtI
import Derived.Test.YtehomfbehhlhmaaNxtL
namespace Go.Proofs.Ytehomfbehhlhmaa
set_option maxRecDepth 100000
set_option linter.unusedVariables false
set_option linter.unusedSimpArgs false
open Go.RowKit
attribute [local go_sem] Oper.semAt_some

/-- the contract of an iterator that hands the row in its own block b to M rounds: J is the caller's, and abides what is done to the block b -/
def ItP (F : Fence) (n : Nat) (gf : Nat) (lb : Array Value) (N M : Nat) (row : Nat → List Int) (w0 : World) : Prop :=
  ∀ (l : Nat) (J : Nat → Nat → World → Prop) (W : World), Below w0.heap.size w0 W →
    (∀ b W', W.heap.size ≤ b → b < W'.heap.size → Below W.heap.size W W' → J b 0 W') →
    (∀ b k A B, W.heap.size ≤ b → J b k A → A.grownBy B (some b) → J b k B) →
    (∀ b c k A, W.heap.size ≤ b → k < M → J b k A → Own A W.heap.size (some ⟨b, 0, none⟩) N c (row k) → YieldAt F (n - 1) Try.prog l #[.slice (some ⟨b, 0, none⟩) N c] A fun e B => e = .returned (.bool true) ∧ J b (k + 1) B ∧ B.heap[b]? = A.heap[b]? ∧ A.heap.size ≤ B.heap.size) →
    CallsIn F n Try.prog gf (#[.func (.yield l) #[] #[]] ++ lb) W fun e W' => (∃ v, e = .returned v) ∧ ∃ b, W.heap.size ≤ b ∧ J b M W'

/-- how a round's body may be left -/
def itPost (I : Nat → Nat → World → Prop) (D b k : Nat) (W : World) : Exit → Act → World → Prop
  | .normal, _, W' => I b k W' ∧ W'.heap[b]? = W.heap[b]? ∧ W.heap.size ≤ W'.heap.size ∧ W'.heap[D]? = W.heap[D]? ∧ W'.heap[D + 1]? = W.heap[D + 1]?
  | .ret, _, _ => False
  | .exit _, _, _ => False
  | .goto _, _, _ => False
  | .panic _, _, _ => False
  | .outgrown, _, _ => False

theorem wpIn_rangeFunc_it {F : Fence} {n : Nat} {g : Operand} {ps : Array Tmp} {assign body : Code} {Q : Exit → Act → World → Prop} {a : Act} {w : World}
    (hro : F.round = none) (h1 : 1 ≤ n) {gf : Nat} {lb : Array Value} (hg : a.eval g = .func (.func gf) #[] lb) (hFg : F.fn gf) (eg : ∀ args w, (callFunc gf args).run Try.prog w = .ok (.enter gf args) w)
    {N M : Nat} {row : Nat → List Int} {w0 : World} (hit : ItP F (n - 1) gf lb N M row w0) (hb0 : Below w0.heap.size w0 w) (hps : ps.size = 1)
    (I : Nat → Nat → World → Prop)
    (hI0 : ∀ b W', w.heap.size + 2 ≤ b → b < W'.heap.size → Below w.heap.size w W' → I b 0 W')
    (hI : ∀ b k A B r, (r = b ∨ r = w.heap.size ∨ r = w.heap.size + 1) → w.heap.size + 2 ≤ b → I b k A → A.grownBy B (some r) → I b k B)
    (a₁ : Nat → Nat → Act)
    (hassign : ∀ (l b c : Nat) (W : World) (K : Act → World → Prop), K (a₁ b c) W →
      assign.wpIn (F.inRound l) (n - 1 - 1) Try.prog (Exit.then K (fun _ _ _ => False)) { tmps := (ps.zip #[.slice (some ⟨b, 0, none⟩) N c]).foldl (fun t (p, v) => t.setIfInBounds p v) a.tmps, defers := [] } W)
    (hbody : ∀ (l b c k : Nat) (W : World), w.heap.size + 2 ≤ b → k < M → I b k W → w.heap.size + 2 ≤ W.heap.size → Own W (w.heap.size + 2) (some ⟨b, 0, none⟩) N c (row k) → body.wpIn (F.inRound l) (n - 1 - 1) Try.prog (itPost I w.heap.size b (k + 1) W) (a₁ b c) W)
    (hdone : ∀ (b : Nat) (W : World), w.heap.size + 2 ≤ b → I b M W → W.heap[w.heap.size]? = some (.deferred (some [])) → Q .normal { a with defers := { target := .collected w.heap.size, args := #[] } :: a.defers } W) :
    (Code.rangeFunc g ps assign body).wpIn F n Try.prog Q a w := by
  refine wpIn_rangeFunc ?_
  intro fn hfn
  rw [hro]
  obtain ⟨rec, hrec⟩ : ∃ rec : LoopState → Option Code → Loop, rec = fun st pe => { state := st, pending := pe, fn, tmps := a.tmps, params := ps, assign, body, defers := w.heap.size } := ⟨_, rfl⟩
  obtain ⟨W1, hW1⟩ : ∃ W1, (w.alloc (.deferred (some []))).alloc (.loop (rec .ready none)) = W1 := ⟨_, rfl⟩
  have hsz1 : W1.heap.size = w.heap.size + 2 := by rw [← hW1]; simp
  have hL1 : W1.heap[w.heap.size + 1]? = some (.loop (rec .ready none)) := by
    rw [← hW1]; have := World.alloc_heap_new (w.alloc (.deferred (some []))) (.loop (rec .ready none)); rwa [World.size_alloc] at this
  have hK1 : W1.heap[w.heap.size]? = some (.deferred (some [])) := by
    rw [← hW1]; exact (Below.heap_alloc _ _ _ (by simp)).trans (World.alloc_heap_new w _)
  have hbw : Below w.heap.size w W1 := by
    rw [← hW1]; exact ((Below.refl _ w).alloc (Nat.le_refl _) _).alloc (by simp) _
  have hb1 : Below w0.heap.size w0 W1 := hb0.trans (hbw.mono hb0.size)
  have hkeep : ∀ {A B : World} {b k : Nat} {o : Obj}, A.grownBy B (some b) → k ≠ b → A.heap[k]? = some o → B.heap[k]? = some o := fun hgr hne h =>
    (hgr.block _ (Array.getElem?_eq_some_iff.1 h).1 (by simpa using hne)).trans h
  refine ⟨w.heap.size + 1, [{ target := .collected w.heap.size, args := #[] }], W1, { target := .fn (.func gf) lb, args := #[.func (.yield (w.heap.size + 1)) #[] #[]] }, W1, gf,
    #[.func (.yield (w.heap.size + 1)) #[] #[]] ++ lb, W1, ?_, ?_, ?_, ?_, fun _ => h1, ?_⟩
  · rw [← hW1, hrec]; exact run_enterLoop_outer _ _ _ _ _
  · simp only [resolve, hg]
    simp [go_sem]
  · intro f' hf'; simp [Target.leads] at hf'; subst hf'; exact hFg
  · simp [invoke, go_sem, eg]
  · refine (hit (w.heap.size + 1)
      (fun b k W => I b k W ∧ W.heap[w.heap.size + 1]? = some (.loop (rec .ready none)) ∧ W.heap[w.heap.size]? = some (.deferred (some [])) ∧ w.heap.size + 2 ≤ W.heap.size)
      W1 hb1
      (fun b W' hb hlt hB => ⟨hI0 b W' (by omega) hlt (hbw.trans (hB.mono (by omega))), (hB.block _ (by omega)).trans hL1, (hB.block _ (by omega)).trans hK1, by have := hB.size; omega⟩)
      (fun b k A B hb hs hgr => ⟨hI b k A B b (.inl rfl) (by omega) hs.1 hgr, hkeep hgr (by omega) hs.2.1, hkeep hgr (by omega) hs.2.2.1, by have := hgr.size; have := hs.2.2.2; omega⟩)
      ?_).mono ?_
    · rintro b c k W hb hkM ⟨hi, hl, hk, hs⟩ hown
      have hlt : w.heap.size + 1 < W.heap.size := (Array.getElem?_eq_some_iff.1 hl).1
      have hy := run_yield (P := Try.prog) (args := #[.slice (some ⟨b, 0, none⟩) N c]) hl (by rw [hrec]; simp [hps])
      rw [hrec] at hy
      refine ⟨fn, _, assign, body, hy, roundIn_of_wpIn hfn (hassign _ b c W _ ⟨_, run_beginRound hl (by rw [hrec]), ?_⟩)⟩
      obtain ⟨W2, hW2⟩ : ∃ W2, W.putObj (w.heap.size + 1) (.loop { rec .ready none with state := .busy }) = W2 := ⟨_, rfl⟩
      have hgr2 : W.grownBy W2 (some (w.heap.size + 1)) := by rw [← hW2]; exact grownBy_putObj' _ _ _
      have hl2 : W2.heap[w.heap.size + 1]? = some (.loop { rec .ready none with state := .busy }) := by rw [← hW2]; exact World.putObj_heap_same hlt
      have hk2 : W2.heap[w.heap.size]? = some (.deferred (some [])) := hkeep hgr2 (by omega) hk
      have hsz2 : W2.heap.size = W.heap.size := by rw [← hW2]; simp
      have hbb : W2.heap[b]? = W.heap[b]? := by rw [← hW2]; exact World.putObj_heap_other (by omega)
      have hown2 : Own W2 (w.heap.size + 2) (some ⟨b, 0, none⟩) N c (row k) := (hown.grown hgr2 (fun q hq => by cases hq; simp; omega)).mono (by omega)
      rw [hW2]
      refine wpIn_mono (hbody _ b c k W2 (by omega) hkM (hI b k W W2 _ (.inr (.inr rfl)) (by omega) hi hgr2) (by omega) hown2) ?_
      rintro e a3 W3 hp
      cases e with
      | normal =>
        obtain ⟨hi3, hb3, hs3, hd3, hr3⟩ := hp
        have hl3 := hr3.trans hl2
        have hk3 := hd3.trans hk2
        have hrun := run_endRound (P := Try.prog) none hl3
        rw [hrec] at hrun
        have hgr4 : W3.grownBy (W3.putObj (w.heap.size + 1) (.loop (rec .ready none))) (some (w.heap.size + 1)) := grownBy_putObj' _ _ _
        refine ⟨_, _, hrun, rfl, ⟨?_, ?_, ?_, ?_⟩, ?_, ?_⟩
        · have := hI b (k + 1) W3 _ _ (.inr (.inr rfl)) (by omega) hi3 hgr4
          rw [hrec] at this; exact this
        · rw [hrec] at hl3 ⊢
          exact World.putObj_heap_same (Array.getElem?_eq_some_iff.1 hl3).1
        · exact (World.putObj_heap_other (by omega)).trans hk3
        · simp; omega
        · exact (World.putObj_heap_other (by omega)).trans (hb3.trans hbb)
        · simp; omega
      | ret => exact hp.elim
      | exit id => exact hp.elim
      | goto t => exact hp.elim
      | panic ch => exact hp.elim
      | outgrown => exact hp.elim
    · rintro e W2 ⟨⟨v, rfl⟩, b, hb, hi, hl, hk, hs⟩
      refine ⟨none, _, by have := run_endLoop (P := Try.prog) hl (by rw [hrec]; simp); rw [hrec] at this; exact this, hdone b _ (by omega) ?_ ((World.putObj_heap_other (by omega)).trans hk)⟩
      exact hI b M W2 _ _ (.inr (.inr rfl)) (by omega) hi (grownBy_putObj' _ _ _)
end Go.Proofs.Ytehomfbehhlhmaa
