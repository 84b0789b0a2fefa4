/-
  Walks and plain laws of this seat, some texts in one.
  No condition but bounds on lengths.
-/
import Derived.RangeFuncNested
import Derived.RangeFuncBound
import Derived.RangeFuncCalls
import Derived.RangeFuncLeaves
import Derived.OwnWalkIn
import Derived.TacticsInMore
import Derived.LoopNIn
import Derived.LoopIn
import Derived.Test.YtaddclaadbjnlaaGreatPr7
import Derived.Test.YtaddclaadbjnlaaGreatPr6
import Derived.Test.YtaddclaadbjnlaaGreatPr2
import Derived.Test.YtaddclaadbjnlaaGreatPr5
import Derived.Test.YtaddclaadbjnlaaGreatPr3
import Derived.Sort.LoopGhostIn
import Derived.Test.YtaddclaadbjnlaaGreatPr1
namespace Go.Proofs.YtaddclaadbjnlaaGreat
set_option maxRecDepth 100000
set_option linter.unusedVariables false
set_option linter.unusedSimpArgs false
open Go.RowKit
attribute [local go_sem] Oper.semAt_some
def ItP (F : Fence) (n : Nat) (gf : Nat) (lb : Array Value) (N M : Nat) (row : Nat → List Int) (w0 : World) : Prop :=
  ∀ (l : Nat) (J : Nat → Nat → World → Prop) (W : World), Below w0.heap.size w0 W →
    (∀ b W', W.heap.size ≤ b → b < W'.heap.size → Below W.heap.size W W' → J b 0 W') →
    (∀ b k A B, W.heap.size ≤ b → J b k A → A.grownBy B (some b) → J b k B) →
    (∀ b c k A, W.heap.size ≤ b → k < M → J b k A → Own A W.heap.size (some ⟨b, 0, none⟩) N c (row k) → YieldAt F (n - 1) Tryz.prog l #[.slice (some ⟨b, 0, none⟩) N c] A fun e B => e = .returned (.bool true) ∧ J b (k + 1) B ∧ B.heap[b]? = A.heap[b]? ∧ A.heap.size ≤ B.heap.size) →
    CallsIn F n Tryz.prog gf (#[.func (.yield l) #[] #[]] ++ lb) W fun e W' => (∃ v, e = .returned v) ∧ ∃ b, W.heap.size ≤ b ∧ J b M W'
def itPost (I : Nat → Nat → World → Prop) (D b k : Nat) (W : World) : Exit → Act → World → Prop
  | .normal, _, W' => I b k W' ∧ W'.heap[b]? = W.heap[b]? ∧ W.heap.size ≤ W'.heap.size ∧ W'.heap[D]? = W.heap[D]? ∧ W'.heap[D + 1]? = W.heap[D + 1]?
  | .ret, _, _ => False
  | .exit _, _, _ => False
  | .goto _, _, _ => False
  | .panic _, _, _ => False
  | .outgrown, _, _ => False
theorem wpIn_rangeFunc_it {F : Fence} {n : Nat} {g : Operand} {ps : Array Tmp} {assign body : Code} {Q : Exit → Act → World → Prop} {a : Act} {w : World}
    (hro : F.round = none) (h1 : 1 ≤ n) {gf : Nat} {lb : Array Value} (hg : a.eval g = .func (.func gf) #[] lb) (hFg : F.fn gf) (eg : ∀ args w, (callFunc gf args).run Tryz.prog w = .ok (.enter gf args) w)
    {N M : Nat} {row : Nat → List Int} {w0 : World} (hit : ItP F (n - 1) gf lb N M row w0) (hb0 : Below w0.heap.size w0 w) (hps : ps.size = 1)
    (I : Nat → Nat → World → Prop)
    (hI0 : ∀ b W', w.heap.size + 2 ≤ b → b < W'.heap.size → Below w.heap.size w W' → I b 0 W')
    (hI : ∀ b k A B r, (r = b ∨ r = w.heap.size ∨ r = w.heap.size + 1) → w.heap.size + 2 ≤ b → I b k A → A.grownBy B (some r) → I b k B)
    (a₁ : Nat → Nat → Act)
    (hassign : ∀ (l b c : Nat) (W : World) (K : Act → World → Prop), K (a₁ b c) W →
      assign.wpIn (F.inRound l) (n - 1 - 1) Tryz.prog (Exit.then K (fun _ _ _ => False)) { tmps := (ps.zip #[.slice (some ⟨b, 0, none⟩) N c]).foldl (fun t (p, v) => t.setIfInBounds p v) a.tmps, defers := [] } W)
    (hbody : ∀ (l b c k : Nat) (W : World), w.heap.size + 2 ≤ b → k < M → I b k W → w.heap.size + 2 ≤ W.heap.size → Own W (w.heap.size + 2) (some ⟨b, 0, none⟩) N c (row k) → body.wpIn (F.inRound l) (n - 1 - 1) Tryz.prog (itPost I w.heap.size b (k + 1) W) (a₁ b c) W)
    (hdone : ∀ (b : Nat) (W : World), w.heap.size + 2 ≤ b → I b M W → W.heap[w.heap.size]? = some (.deferred (some [])) → Q .normal { a with defers := { target := .collected w.heap.size, args := #[] } :: a.defers } W) :
    (Code.rangeFunc g ps assign body).wpIn F n Tryz.prog Q a w := by
  refine wpIn_rangeFunc ?_
  intro fn hfn
  rw [hro]
  obtain ⟨rec, hrec⟩ : ∃ rec : LoopState → Option Code → Loop, rec = fun st pe => { state := st, pending := pe, fn, tmps := a.tmps, params := ps, assign, body, defers := w.heap.size } := ⟨_, rfl⟩
  obtain ⟨W1, hW1⟩ : ∃ W1, (w.alloc (.deferred (some []))).alloc (.loop (rec .ready none)) = W1 := ⟨_, rfl⟩
  have hsz1 : W1.heap.size = w.heap.size + 2 := by rw [← hW1]; simp
  have hL1 : W1.heap[w.heap.size + 1]? = some (.loop (rec .ready none)) := by
    rw [← hW1]; have := World.alloc_heap_new (w.alloc (.deferred (some []))) (.loop (rec .ready none)); rwa [World.size_alloc] at this
  have hK1 : W1.heap[w.heap.size]? = some (.deferred (some [])) := by
    rw [← hW1]; exact (Below.heap_alloc _ _ _ (by simp)).trans (World.alloc_heap_new w _)
  have hbw : Below w.heap.size w W1 := by
    rw [← hW1]; exact ((Below.refl _ w).alloc (Nat.le_refl _) _).alloc (by simp) _
  have hb1 : Below w0.heap.size w0 W1 := hb0.trans (hbw.mono hb0.size)
  have hkeep : ∀ {A B : World} {b k : Nat} {o : Obj}, A.grownBy B (some b) → k ≠ b → A.heap[k]? = some o → B.heap[k]? = some o := fun hgr hne h =>
    (hgr.block _ (Array.getElem?_eq_some_iff.1 h).1 (by simpa using hne)).trans h
  refine ⟨w.heap.size + 1, [{ target := .collected w.heap.size, args := #[] }], W1, { target := .fn (.func gf) lb, args := #[.func (.yield (w.heap.size + 1)) #[] #[]] }, W1, gf,
    #[.func (.yield (w.heap.size + 1)) #[] #[]] ++ lb, W1, ?_, ?_, ?_, ?_, fun _ => h1, ?_⟩
  · rw [← hW1, hrec]; exact run_enterLoop_outer _ _ _ _ _
  · simp only [resolve, hg]
    simp [go_sem]
  · intro f' hf'; simp [Target.leads] at hf'; subst hf'; exact hFg
  · simp [invoke, go_sem, eg]
  · refine (hit (w.heap.size + 1)
      (fun b k W => I b k W ∧ W.heap[w.heap.size + 1]? = some (.loop (rec .ready none)) ∧ W.heap[w.heap.size]? = some (.deferred (some [])) ∧ w.heap.size + 2 ≤ W.heap.size)
      W1 hb1
      (fun b W' hb hlt hB => ⟨hI0 b W' (by omega) hlt (hbw.trans (hB.mono (by omega))), (hB.block _ (by omega)).trans hL1, (hB.block _ (by omega)).trans hK1, by have := hB.size; omega⟩)
      (fun b k A B hb hs hgr => ⟨hI b k A B b (.inl rfl) (by omega) hs.1 hgr, hkeep hgr (by omega) hs.2.1, hkeep hgr (by omega) hs.2.2.1, by have := hgr.size; have := hs.2.2.2; omega⟩)
      ?_).mono ?_
    · rintro b c k W hb hkM ⟨hi, hl, hk, hs⟩ hown
      have hlt : w.heap.size + 1 < W.heap.size := (Array.getElem?_eq_some_iff.1 hl).1
      have hy := run_yield (P := Tryz.prog) (args := #[.slice (some ⟨b, 0, none⟩) N c]) hl (by rw [hrec]; simp [hps])
      rw [hrec] at hy
      refine ⟨fn, _, assign, body, hy, roundIn_of_wpIn hfn (hassign _ b c W _ ⟨_, run_beginRound hl (by rw [hrec]), ?_⟩)⟩
      obtain ⟨W2, hW2⟩ : ∃ W2, W.putObj (w.heap.size + 1) (.loop { rec .ready none with state := .busy }) = W2 := ⟨_, rfl⟩
      have hgr2 : W.grownBy W2 (some (w.heap.size + 1)) := by rw [← hW2]; exact grownBy_putObj' _ _ _
      have hl2 : W2.heap[w.heap.size + 1]? = some (.loop { rec .ready none with state := .busy }) := by rw [← hW2]; exact World.putObj_heap_same hlt
      have hk2 : W2.heap[w.heap.size]? = some (.deferred (some [])) := hkeep hgr2 (by omega) hk
      have hsz2 : W2.heap.size = W.heap.size := by rw [← hW2]; simp
      have hbb : W2.heap[b]? = W.heap[b]? := by rw [← hW2]; exact World.putObj_heap_other (by omega)
      have hown2 : Own W2 (w.heap.size + 2) (some ⟨b, 0, none⟩) N c (row k) := (hown.grown hgr2 (fun q hq => by cases hq; simp; omega)).mono (by omega)
      rw [hW2]
      refine wpIn_mono (hbody _ b c k W2 (by omega) hkM (hI b k W W2 _ (.inr (.inr rfl)) (by omega) hi hgr2) (by omega) hown2) ?_
      rintro e a3 W3 hp
      cases e with
      | normal =>
        obtain ⟨hi3, hb3, hs3, hd3, hr3⟩ := hp
        have hl3 := hr3.trans hl2
        have hk3 := hd3.trans hk2
        have hrun := run_endRound (P := Tryz.prog) none hl3
        rw [hrec] at hrun
        have hgr4 : W3.grownBy (W3.putObj (w.heap.size + 1) (.loop (rec .ready none))) (some (w.heap.size + 1)) := grownBy_putObj' _ _ _
        refine ⟨_, _, hrun, rfl, ⟨?_, ?_, ?_, ?_⟩, ?_, ?_⟩
        · have := hI b (k + 1) W3 _ _ (.inr (.inr rfl)) (by omega) hi3 hgr4
          rw [hrec] at this; exact this
        · rw [hrec] at hl3 ⊢
          exact World.putObj_heap_same (Array.getElem?_eq_some_iff.1 hl3).1
        · exact (World.putObj_heap_other (by omega)).trans hk3
        · simp; omega
        · exact (World.putObj_heap_other (by omega)).trans (hb3.trans hbb)
        · simp; omega
      | ret => exact hp.elim
      | exit id => exact hp.elim
      | goto t => exact hp.elim
      | panic ch => exact hp.elim
      | outgrown => exact hp.elim
    · rintro e W2 ⟨⟨v, rfl⟩, b, hb, hi, hl, hk, hs⟩
      refine ⟨none, _, by have := run_endLoop (P := Tryz.prog) hl (by rw [hrec]; simp); rw [hrec] at this; exact this, hdone b _ (by omega) ?_ ((World.putObj_heap_other (by omega)).trans hk)⟩
      exact hI b M W2 _ _ (.inr (.inr rfl)) (by omega) hi (grownBy_putObj' _ _ _)
end Go.Proofs.YtaddclaadbjnlaaGreat

namespace Go.Proofs.YtaddclaadbjnlaaGreat
set_option linter.unusedVariables false
set_option linter.unusedSimpArgs false
def isPb (n : Nat) (p : List Int) : Bool := decide (p.length = n) && (List.range n).all fun i => decide (0 ≤ p.getD i 0) && decide ((p.getD i 0).toNat < n) && decide (((backF p).getD i 0).toNat < n) && decide ((p.getD ((backF p).getD i 0).toNat 0).toNat = i) && decide (((backF p).getD (p.getD i 0).toNat 0).toNat = i)
theorem isPb_ok {n : Nat} {p : List Int} (h : isPb n p = true) : IsP n p := by
  simp only [isPb, Bool.and_eq_true, decide_eq_true_eq, List.all_eq_true, List.mem_range] at h
  refine ⟨fun i => (p.getD i 0).toNat, fun i => ((backF p).getD i 0).toNat, h.1, fun i hi => ?_, fun i hi => ?_⟩
  · have := h.2 i hi
    exact ⟨this.1.1.1.2, this.1.1.2, this.1.2, this.2⟩
  · have := h.2 i hi
    have h0 := this.1.1.1.1
    show p.getD i 0 = (((p.getD i 0).toNat : Nat) : Int)
    omega
end Go.Proofs.YtaddclaadbjnlaaGreat

namespace Go.Proofs.YtaddclaadbjnlaaGreat
set_option maxRecDepth 100000
set_option linter.unusedVariables false
set_option linter.unusedSimpArgs false
open Go.RowKit
theorem prm_finP : ∀ n : Fin 5, 1 ≤ n.1 → (prmL n.1).all (isPb n.1) = true := by decide +kernel
theorem prm_isP {n : Nat} (h1 : 1 ≤ n) (h4 : n ≤ 4) : ∀ i, i < (prmL n).length → IsP n ((prmL n).getD i []) := fun i hi => by
  have := List.all_eq_true.1 (prm_finP ⟨n, by omega⟩ h1) _ (List.getElem_mem hi)
  rw [List.getD_eq_getElem?_getD, List.getElem?_eq_getElem hi]
  exact isPb_ok this
theorem prm_bd {n : Nat} (h1 : 1 ≤ n) (h4 : n ≤ 4) : (prmL n).length ≤ 24 ∧ 0 < (prmL n).length := by
  have := prm_fin ⟨n, by omega⟩ h1
  exact ⟨this.1, this.2.1⟩
theorem appT1h {ops : Array Oper} {rest : List Oper} {o : Oper} {a : Act} {Q : Exit → Act → World → Prop} {w : World} (hgd : o.guard = none) {s x : Operand}
    (ho : o.op = .call { callee := .builtin .append, args := #[s, x], argTypes := #[32, 32] }) {lo : Nat} {ad : Option Addr} {n c : Nat} {vs : List SV} {xss : List (List Int)} (hown : OwnT w lo ad n c vs xss) (hs : a.eval s = .slice ad n c)
    {va : Option Addr} {vn vc : Nat} {ys : List Int} {t : TypeId} (hv : Own w lo va vn vc ys) (h1 : Apart ad va) (h2 : ∀ j, j < n → Apart va (vs.getD j svO).1) {H : Nat} (hx : a.eval x = .slice (some ⟨H, 0, none⟩) 1 1) (hH : w.heap.size = H) (hlen : n + 1 ≤ 1000000000000) (hlo : lo ≤ w.heap.size)
    (h : ∀ g c' w', OwnT w' lo (some ⟨g, 0, none⟩) (n + 1) c' (vs ++ [(va, vn, vc)]) (xss ++ [ys]) → w.grownBy w' (Value.slice ad n c).ownBlock → ((Value.slice ad n c).ownBlock = some g ∨ w.heap.size ≤ g) → Below lo w w' → wpList Tryz.prog ops Q rest (a.put o.dst (.slice (some ⟨g, 0, none⟩) (n + 1) c')) w') :
    wpList Tryz.prog ops Q (o :: rest) a (w.alloc (.cells #[.slice va vn vc] t)) := by
  subst hH
  exact appT1g hgd ho hown hs hv h1 h2 hx hlen hlo h
set_option maxHeartbeats 4000000 in
theorem l19Racks_any (n : Nat) (w : World) (h1 : 1 ≤ n) (h4 : n ≤ 4) :
    Calls Tryz.prog 81 #[.int .i64 n] w fun e w' => ∃ a k c us, e = .returned (.slice a k c) ∧ OwnTT w' w.heap.size a k c us (rckN n) ∧ Below w.heap.size w w' := by
  obtain ⟨hb1, hb2⟩ := prm_bd h1 h4
  have HPP := Lib.hid (prm_isP h1 h4)
  go_enter Tryz.func81, Tryz.ntmps81
  go_wp2
  go_loopw [3, 4] (fun s i wr => ∃ (k : Nat) (a : Option Addr) (c : Nat) (vs : List SV), k ≤ n ∧ i = .int .i64 k ∧ s = .slice a k c ∧ OwnT wr w.heap.size a k c vs (List.replicate k []) ∧ Below w.heap.size w wr) (fun _ i _ => n - (intOf i).toNat)
  case atStart => exact ⟨0, _, _, [], Nat.zero_le _, rfl, rfl, OwnT.fresh w rfl, below_al (Below.refl _ _) _⟩
  case round =>
    obtain ⟨k, a, c, vs, hk, rfl, rfl, ho, hq⟩ := hrel
    have hwq := hq.size
    by_cases hlt : k < n
    · have hO0 : Own (wr.alloc (.cells #[] 2)) w.heap.size (some ⟨wr.heap.size, 0, none⟩) 0 0 [] := (Own.fresh wr rfl).mono hwq
      have hT0 := ho.alloc (.cells #[] 2)
      have ha1 : Apart a (some ⟨wr.heap.size, 0, none⟩) := fun g h e => by have := ho.high g h; cases e; omega
      have ha2 : ∀ j, j < k → Apart (some ⟨wr.heap.size, 0, none⟩) (vs.getD j svO).1 := fun j hj g h e => by have := ho.uHi g (.inr ⟨j, hj, e⟩); cases h; omega
      go_wp2_with (at_builtin; refine appT1h rfl rfl hT0 rfl hO0 ha1 ha2 rfl (size_alloc _ _) (by omega) (by simp; omega) ?_; intro g' cc w8 hO hg8 hat8 hb8)
      go_roundw
      case rel => exact ⟨k + 1, _, cc, _, by omega, by go_num, rfl, by rw [List.replicate_succ']; exact hO, (below_al hq _).trans hb8⟩
      case measure => simp [intOf]; omega
    · obtain rfl : n = k := by omega
      go_wp2_with fail
      refine (l01Perms_any n _ (by omega)).mono ?_
      rintro e w2 ⟨pa, P, pc, pvs, rfl, hp, hb2'⟩
      have hB2 := below_th hq hb2'
      have hz2 := hb2'.size
      have HPL := Lib.hid hp.tbl.len
      have hP0 : 0 < P := by have := HPL.out; omega
      have hP24 : P ≤ 24 := by have := HPL.out; omega
      have HPI : Hid (∀ i, i < P → IsP n ((prmL n).getD i [])) := Lib.hid fun i hi => HPP.out i (by have := HPL.out; omega)
      have hpw : P ^ n ≤ 1000000 := by
        have e1 : P ^ n ≤ 24 ^ n := Nat.pow_le_pow_left hP24 n
        have e2 : (24 : Nat) ^ n ≤ 24 ^ 4 := Nat.pow_le_pow_right (by omega) h4
        have e3 : (24 : Nat) ^ 4 ≤ 1000000 := by decide
        omega
      have HPW : Hid (0 + P ^ n ≤ 1000000000) := Lib.hid (by omega)
      clear hpw hb1 hb2
      go_wp2_with fail
      refine (l19Grow_any n w.heap.size P (prmL n) (by omega) (by omega) hP0 (by omega) HPI.out n (List.replicate n []) pa pc pvs a c vs none 0 0 [] [] w2 (hp.mono hwq) (ho.below hb2') (repl_ok n) (by rw [repl_emp]; exact Nat.le_refl _) (OwnTT.nil _ _) (fun g _ h => TTS.nil h) (fun g _ h => TTS.nil h) (by omega) HPW.out).mono ?_
      rintro e w3 ⟨a3, k3, c3, us3, rfl, ht3, hM3, hsub3⟩
      go_wp2
      go_ret
      exact ⟨a3, k3, c3, us3, rfl, ht3, hB2.trans (Marked.lowb hM3 (fun g hg => absurd hg TTS.nil) (by omega))⟩
def crkF (x : Int) : Int × Int := if 1 ≤ x ∧ x ≤ 4 then (((rckN x.toNat).length : Int), 0) else (0, 2)
end Go.Proofs.YtaddclaadbjnlaaGreat

namespace Go.Proofs.YtaddclaadbjnlaaGreat
set_option maxRecDepth 100000
set_option linter.unusedVariables false
set_option linter.unusedSimpArgs false
open Go.RowKit
attribute [local go_sem] Oper.semAt_some
theorem Touch.grownBy {w w' : World} {b : Nat} (h : Touch (fun q => q = b) w w') : w.grownBy w' (some b) :=
  ⟨h.os, h.tape, h.output, by rw [h.size]; exact Nat.le_refl _, fun k hk hne => h.block k (fun e => hne (by rw [e]))⟩
set_option maxHeartbeats 4000000 in
theorem perms1_it (n N Bn : Nat) (w0 : World) (hB : Bn < w0.heap.size) (hc : w0.cell? ⟨Bn, 0, none⟩ = some (.int .i64 N)) (h1 : 1 ≤ N) (h4 : N ≤ 4) :
    ItP Fence.wide n 126 #[.pointer (some ⟨Bn, 0, none⟩)] N (prmL N).length (fun k => (prmL N).getD k []) w0 := by
  intro l J W hW hJ0 hJ1 hY
  have hc1 := (hW.cell (p := ⟨Bn, 0, none⟩) hB).trans hc
  have HM := Lib.hid (prm_bd h1 h4)
  have HZ := Lib.hid (nx_zero h1 h4)
  have HX := Lib.hid (fun k (hk : k < (prmL N).length) => nx_at h1 h4 hk)
  obtain ⟨M, HMM⟩ : ∃ M, Hid ((prmL N).length = M) := ⟨_, rfl⟩
  rw [HMM.out] at hY HM HX
  rw [HMM.out]
  have HY := Lib.hid hY
  have HJ0 := Lib.hid hJ0
  have HJ1 := Lib.hid hJ1
  clear hY hJ0 hJ1 hc
  refine callsIn_of_wp Tryz.func126 rfl trivial ?_ rfl
  simp only [Tryz.ntmps126, List.size_toArray, List.length_cons, List.length_nil, Nat.reduceAdd, Nat.reduceSub, Array.replicate_succ, Array.replicate_zero, List.push_toArray, List.append_toArray, List.nil_append, List.cons_append]
  have hdd : ∀ k : Nat, (Fence.wide.depth.isSome = true → 1 ≤ k) := fun k h => by cases h
  gi_wp2_with (refine ⟨trivial, hdd _, ?_⟩; gi_at_call 127; refine (callsIn_wide.2 (identity_any N _ (by omega))).mono ?_; rintro e w1 ⟨a1, c1, rfl, ho1, hb1⟩)
  obtain ⟨b, cur, rfl, hb, hL⟩ : ∃ g cur, a1 = some ⟨g, 0, none⟩ ∧ W.heap.size ≤ g ∧ Loc w1 g cur 2 := by
    rcases ho1.block with ⟨rfl, h, _⟩ | ⟨g, cur, h1, h2, h3, _⟩
    · omega
    · exact ⟨g, cur, h1, h2, h3⟩
  gi_loopg [] M (fun g wr => ∃ (k : Nat), g + k = M ∧ k < M ∧ J b k wr ∧ Own wr W.heap.size (some ⟨b, 0, none⟩) N c1 ((prmL N).getD k []))
  case atStart => exact ⟨0, rfl, by have := HM.out; omega, HJ0.out b w1 hb hL.lt hb1, by rw [HZ.out]; exact ho1⟩
  case round =>
    obtain ⟨k, hgk, hkM, hJ, ho⟩ := hrel
    obtain ⟨fn, tmps, assign, body, hy, hR⟩ := HY.out b c1 k wr hb hkM hJ ho
    have HO := Lib.hid ho
    clear ho hJ
    obtain ⟨p, HP⟩ : ∃ p, Hid ((prmL N).getD k [] = p) := ⟨_, rfl⟩
    gi_wp2
    refine ⟨hdd _, hR.mono ?_⟩
    rintro e w2 ⟨rfl, hJ2, hbb, hsz⟩
    have ho2 : Own w2 W.heap.size (some ⟨b, 0, none⟩) N c1 p := by rw [← HP.out]; exact HO.out.keep fun g hg hlt => by cases hg; exact hbb
    have HNX := Lib.hid (HX.out k hkM)
    rw [HP.out] at HNX
    clear hy hbb
    gi_wp2_with (refine ⟨trivial, hdd _, ?_⟩; gi_at_call 128; refine (callsIn_wide.2 (nextPermutation_any b N c1 W.heap.size p w2 ho2 h1 (by omega))).mono ?_; rintro e w3 (⟨q, hq, rfl, ho3, ht3⟩ | ⟨hq, rfl, ho3, ht3⟩))
    · have hE := HNX.out
      rw [hq] at hE
      have hk1 : k + 1 < M := by
        rcases Nat.lt_or_ge (k + 1) M with h | h
        · exact h
        · rw [if_neg (by omega)] at hE; cases hE
      rw [if_pos hk1] at hE
      have hE2 : q = (prmL N).getD (k + 1) [] := by injection hE
      have HE2 := Lib.hid hE2
      clear hE hE2 hq
      gi_roundg (gk - 1)
      case measure => omega
      case rel => exact ⟨k + 1, by omega, hk1, HJ1.out b (k + 1) w2 w3 hb hJ2 ht3.grownBy, by rw [← HE2.out]; exact ho3⟩
    · have hE := HNX.out
      rw [hq] at hE
      have hk1 : k + 1 = M := by
        rcases Nat.lt_or_ge (k + 1) M with h | h
        · rw [if_pos h] at hE; cases hE
        · omega
      clear hE hq
      refine bodyPost_ret (results_none rfl _ _ _) rfl ?_
      exact ⟨⟨_, rfl⟩, b, hb, by rw [← hk1]; exact HJ1.out b (k + 1) w2 w3 hb hJ2 ht3.grownBy⟩
end Go.Proofs.YtaddclaadbjnlaaGreat

namespace Go.Proofs.YtaddclaadbjnlaaGreat
set_option maxRecDepth 100000
set_option linter.unusedVariables false
set_option linter.unusedSimpArgs false
open Go.RowKit
def HdR (w : World) (a : Option Addr) (n : Nat) (vs : List SV) : Prop := vs.length = n ∧ ∀ i, i < n → ∃ b off, a = some ⟨b, off, none⟩ ∧ b < w.heap.size ∧ w.cell? ⟨b, off + i, none⟩ = some (sl (vs.getD i svO))
def Hd (w : World) (lo : Nat) (a : Option Addr) (n c : Nat) (vs : List SV) : Prop := vs.length = n ∧ w.ownsRow lo 41 1 (.slice a n c) n (vs.map sl)
section
variable {w w' : World} {lo : Nat} {a : Option Addr} {n c : Nat} {vs : List SV}
theorem Hd.nil (w : World) (lo : Nat) : Hd w lo none 0 0 [] := ⟨rfl, World.ownsRow_nil w lo _ 1⟩
theorem Hd.block (h : Hd w lo a n c vs) : (a = none ∧ n = 0 ∧ c = 0) ∨ ∃ g cur, a = some ⟨g, 0, none⟩ ∧ lo ≤ g ∧ Loc w g cur 41 ∧ n ≤ c ∧ c ≤ maxLen ∧ cur.size = c ∧ cur.toList.take n = vs.map sl := by
  rcases h.2.2 with ⟨h1, h2⟩ | ⟨g, cap, cur, h1, h2, h3, h4, h5, h6, h7⟩
  · cases h1; exact .inl ⟨rfl, rfl, rfl⟩
  · cases h1; exact .inr ⟨g, cur, rfl, h2, h3, h4, h5, by simpa using h6, by simpa using h7⟩
theorem Hd.hi (h : Hd w lo a n c vs) : ∀ g, a = some ⟨g, 0, none⟩ → g < w.heap.size := by
  intro g hg
  rcases h.block with ⟨h1, _⟩ | ⟨g', cur, h1, h2, h3, _⟩
  · rw [h1] at hg; cases hg
  · rw [h1] at hg; cases hg; exact h3.lt
theorem Hd.low (h : Hd w lo a n c vs) : ∀ g, a = some ⟨g, 0, none⟩ → lo ≤ g := by
  intro g hg
  rcases h.block with ⟨h1, _⟩ | ⟨g', cur, h1, h2, h3, _⟩
  · rw [h1] at hg; cases hg
  · rw [h1] at hg; cases hg; exact h2
theorem Hd.keep (h : Hd w lo a n c vs) (hk : ∀ g, a = some ⟨g, 0, none⟩ → g < w.heap.size → w'.heap[g]? = w.heap[g]?) : Hd w' lo a n c vs := by
  rcases h.block with ⟨h1, h2, h3⟩ | ⟨g, cur, h1, h2, h3, h4, h5, h6, h7⟩
  · subst h1 h2 h3
    have : vs = [] := List.eq_nil_of_length_eq_zero h.1
    subst this; exact Hd.nil _ _
  · subst h1
    exact ⟨h.1, ownsRow_mk h.1 h2 ((hk g rfl h3.lt).trans h3) h4 h5 h6 h7⟩
theorem Hd.below (h : Hd w lo a n c vs) (hb : Below w.heap.size w w') : Hd w' lo a n c vs := h.keep fun g _ hlt => hb.block g hlt
theorem Hd.alloc (h : Hd w lo a n c vs) (o : Obj) : Hd (w.alloc o) lo a n c vs := h.below ((Below.refl _ _).alloc (Nat.le_refl _) o)
theorem Hd.drewN (h : Hd w lo a n c vs) (k : Nat) : Hd (w.drewN k) lo a n c vs := h.keep fun _ _ _ => rfl
theorem Hd.mono {lo' : Nat} (h : Hd w lo a n c vs) (hl : lo' ≤ lo) : Hd w lo' a n c vs := by
  rcases h.block with ⟨h1, h2, h3⟩ | ⟨g, cur, h1, h2, h3, h4, h5, h6, h7⟩
  · subst h1 h2 h3
    have : vs = [] := List.eq_nil_of_length_eq_zero h.1
    subst this; exact Hd.nil _ _
  · subst h1; exact ⟨h.1, ownsRow_mk h.1 (Nat.le_trans hl h2) h3 h4 h5 h6 h7⟩
theorem Hd.marked (h : Hd w lo a n c vs) {S : Nat → Prop} (hm : Marked S w w') (hS : ∀ g, a = some ⟨g, 0, none⟩ → ¬ S g) : Hd w' lo a n c vs := h.keep fun g hg hlt => hm.block g hlt (hS g hg)
theorem Hd.read (h : Hd w lo a n c vs) : HdR w a n vs := by
  refine ⟨h.1, fun i hi => ?_⟩
  rcases h.block with ⟨h1, h2, h3⟩ | ⟨g, cur, h1, h2, h3, h4, h5, h6, h7⟩
  · omega
  · refine ⟨g, 0, h1, h3.lt, ?_⟩
    rw [Nat.zero_add]
    refine h3.cell i ?_
    have hx : (cur.toList.take n)[i]? = (vs.map sl)[i]? := by rw [h7]
    have hxi : i < vs.length := by have := h.1; omega
    rw [List.getElem?_take, if_pos hi] at hx
    simp [List.getElem?_eq_getElem hxi] at hx
    simp [List.getD_eq_getElem?_getD, List.getElem?_eq_getElem hxi, hx]
theorem HdR.below (h : HdR w a n vs) (hb : Below w.heap.size w w') : HdR w' a n vs :=
  ⟨h.1, fun i hi => by obtain ⟨b, off, h1, h3, h2⟩ := h.2 i hi; exact ⟨b, off, h1, Nat.lt_of_lt_of_le h3 hb.size, (hb.cell (p := ⟨b, off + i, none⟩) h3).trans h2⟩⟩
theorem HdR.alloc (h : HdR w a n vs) (o : Obj) : HdR (w.alloc o) a n vs := h.below ((Below.refl _ _).alloc (Nat.le_refl _) o)
theorem HdR.none_nil (h : HdR w none n vs) : n = 0 ∧ vs = [] := by
  have h1 : n = 0 := by
    rcases Nat.eq_zero_or_pos n with e | e
    · exact e
    · obtain ⟨b, off, e', _⟩ := h.2 0 e; cases e'
  exact ⟨h1, List.eq_nil_of_length_eq_zero (by have := h.1; omega)⟩
theorem HdR.tbl {xss : List (List Int)} (h : HdR w a n vs) (hl : n = xss.length) (hr : ∀ i, i < n → Row w (vs.getD i svO).1 (vs.getD i svO).2.1 (xss.getD i []) ∧ (vs.getD i svO).2.1 ≤ 9223372036854775807) : Tbl w a n xss :=
  ⟨hl, fun i hi => by obtain ⟨b, off, h1, h2, h3⟩ := h.2 i hi; exact ⟨b, off, _, _, _, h1, h2, h3, (hr i hi).1, (hr i hi).2⟩⟩
end
theorem Hd.fresh (w : World) {b : Nat} (hb : b = w.heap.size) : Hd (w.alloc (.cells #[] 41)) w.heap.size (some ⟨b, 0, none⟩) 0 0 [] :=
  ⟨rfl, ownsRow_mk rfl (by omega) (Loc.new _ hb _ _) (Nat.le_refl _) (by unfold maxLen; omega) rfl rfl⟩
theorem wp_appH {o : Oper} {a : Act} {K : Act → World → Prop} {Q : Exit → Act → World → Prop} {w : World} {s x : Operand}
    (ho : o.op = .call { callee := .builtin .append, args := #[s, x], argTypes := #[32, 32] }) {lo : Nat} {ad : Option Addr} {n c : Nat} {vs : List SV} (hown : Hd w lo ad n c vs) (hs : a.eval s = .slice ad n c)
    {ad2 : Option Addr} {m c2 : Nat} {us : List SV} (hr : HdR w ad2 m us) (hx : a.eval x = .slice ad2 m c2) (hlen : n + m ≤ 1000000000000) (hlo : lo ≤ w.heap.size)
    (h : ∀ ad' c' w', Hd w' lo ad' (n + m) c' (vs ++ us) → w.grownBy w' (Value.slice ad n c).ownBlock → Below lo w w' → K (a.put o.dst (.slice ad' (n + m) c')) w') :
    o.wp Tryz.prog a w K Q := by
  obtain ⟨i0, hi, hz0, hz1, hz2⟩ := info_parts info_rows
  obtain ⟨hn, hw⟩ := hown
  cases ad2 with
  | none =>
    obtain ⟨rfl, rfl⟩ := hr.none_nil
    have hrun := run_append_none_any (P := Tryz.prog) w lo 32 o.type 41 i0 1 und_rows hi _ n c2 _ hw
    unfold Oper.wp
    simp [execOp, ho, resolve, invoke, builtin, hs, hx, hrun, Result.andThen]
    have hh := h ad c w ⟨by simpa using hn, by simpa using hw⟩ (World.grownBy.refl _ _) (Below.refl _ _)
    exact hh
  | some p =>
    refine wp_append_own _ s x 32 ho lo 41 i0 (.slice none 0 0) 1 24 und_rows hi hz0 hz1 hz2 rfl (by decide) _ n (vs.map sl) hs hw p m c2 (us.map sl) hx (by simp [hr.1]) ?_ ?_ ?_ ?_ hlo ?_
    · intro j u hj
      have hjm : j < m := by
        have := (List.getElem?_eq_some_iff.1 hj).1
        rw [List.length_map] at this; have := hr.1; omega
      obtain ⟨b, off, h1, _, h2⟩ := hr.2 j hjm
      cases h1
      have e : (⟨b, off, none⟩ : Addr).add j = ⟨b, off + j, none⟩ := by unfold Addr.add; split <;> simp_all
      have hjy : j < us.length := by have := hr.1; omega
      rw [e, h2, ← hj]
      simp [List.getD_eq_getElem?_getD, List.getElem?_eq_getElem hjy]
    · intro u hu
      rw [List.mem_map] at hu
      obtain ⟨y, _, rfl⟩ := hu; rfl
    · unfold maxLen; omega
    · omega
    · intro v' w' ho' hg hv'
      have hb : Below lo w w' := (Below.refl _ _).grown hg hlo (fun k hk => (World.ownsRow.lt hw k hk).1)
      have ho2 := ho'
      obtain ⟨hl, h2⟩ := ho'
      rcases h2 with ⟨rfl, h2⟩ | ⟨g, cap, cur, rfl, h2⟩
      · have hn0 : n = 0 := by omega
        have hm0 : m = 0 := by omega
        subst hn0 hm0
        have hx0 : vs = [] := List.eq_nil_of_length_eq_zero hn
        have hy0 : us = [] := List.eq_nil_of_length_eq_zero hr.1
        subst hx0 hy0
        exact h none 0 w' (Hd.nil _ _) hg hb
      · exact h _ _ w' ⟨by simp [hn, hr.1], by simpa using ho2⟩ hg hb
theorem appH {ops : Array Oper} {rest : List Oper} {o : Oper} {a : Act} {Q : Exit → Act → World → Prop} {w : World} (hgd : o.guard = none) {s x : Operand}
    (ho : o.op = .call { callee := .builtin .append, args := #[s, x], argTypes := #[32, 32] }) {lo : Nat} {ad : Option Addr} {n c : Nat} {vs : List SV} (hown : Hd w lo ad n c vs) (hs : a.eval s = .slice ad n c)
    {ad2 : Option Addr} {m c2 : Nat} {us : List SV} (hr : HdR w ad2 m us) (hx : a.eval x = .slice ad2 m c2) (hlen : n + m ≤ 1000000000000) (hlo : lo ≤ w.heap.size)
    (h : ∀ ad' c' w', Hd w' lo ad' (n + m) c' (vs ++ us) → w.grownBy w' (Value.slice ad n c).ownBlock → Below lo w w' → wpList Tryz.prog ops Q rest (a.put o.dst (.slice ad' (n + m) c')) w') :
    wpList Tryz.prog ops Q (o :: rest) a w :=
  wpList_plain hgd fun _ hK => wp_appH ho hown hs hr hx hlen hlo fun _ _ _ h1 h2 h3 => hK _ _ (h _ _ _ h1 h2 h3)
theorem wp_appH1 {o : Oper} {a : Act} {K : Act → World → Prop} {Q : Exit → Act → World → Prop} {w : World} {s x : Operand}
    (ho : o.op = .call { callee := .builtin .append, args := #[s, x], argTypes := #[32, 32] }) {lo : Nat} {ad : Option Addr} {n c : Nat} {vs : List SV} (hown : Hd w lo ad n c vs) (hs : a.eval s = .slice ad n c)
    {va : Option Addr} {vn vc : Nat} {t : TypeId} (hx : a.eval x = .slice (some ⟨w.heap.size, 0, none⟩) 1 1) (hlen : n + 1 ≤ 1000000000000) (hlo : lo ≤ w.heap.size)
    (h : ∀ g c' w', Hd w' lo (some ⟨g, 0, none⟩) (n + 1) c' (vs ++ [(va, vn, vc)]) → w.grownBy w' (Value.slice ad n c).ownBlock → ((Value.slice ad n c).ownBlock = some g ∨ w.heap.size ≤ g) → Below lo w w' → K (a.put o.dst (.slice (some ⟨g, 0, none⟩) (n + 1) c')) w') :
    Oper.wp Tryz.prog o a (w.alloc (.cells #[.slice va vn vc] t)) K Q := by
  obtain ⟨i0, hi, hz0, hz1, hz2⟩ := info_parts info_rows
  refine wp_append_lies _ s x 32 ho lo 41 i0 (.slice none 0 0) 1 24 und_rows hi hz0 hz1 hz2 rfl (by decide) _ n (vs.map sl) hs (hown.2.alloc _) ⟨w.heap.size, 0, none⟩ 1 1 [.slice va vn vc] hx rfl (cell_one_new _ _ _) ?_ (by omega) ?_ ?_ ?_ (w.heap.size + 1) (by simp) ?_
  · intro u hu; simp at hu; subst hu; rfl
  · unfold maxLen; omega
  · omega
  · simp; omega
  · intro g cap w' ho' hg hat hlt
    have hg' : w.grownBy w' (Value.slice ad n c).ownBlock := by
      have h1 := World.grownBy_alloc w (.cells #[.slice va vn vc] t) (Value.slice ad n c).ownBlock
      exact ⟨hg.os.trans h1.os, hg.tape.trans h1.tape, hg.output.trans h1.output, Nat.le_trans h1.size hg.size, fun k hk hn => (hg.block k (Nat.lt_of_lt_of_le hk h1.size) hn).trans (h1.block k hk hn)⟩
    have hat' : (Value.slice ad n c).ownBlock = some g ∨ w.heap.size ≤ g := by
      rcases hat with hat | hat
      · exact .inl hat
      · exact .inr (by omega)
    exact h g cap w' ⟨by simp [hown.1], by simpa [sl] using ho'⟩ hg' hat' ((Below.refl _ _).grown hg' hlo (fun k hk => (World.ownsRow.lt hown.2 k hk).1))
theorem appH1 {ops : Array Oper} {rest : List Oper} {o : Oper} {a : Act} {Q : Exit → Act → World → Prop} {w : World} (hgd : o.guard = none) {s x : Operand}
    (ho : o.op = .call { callee := .builtin .append, args := #[s, x], argTypes := #[32, 32] }) {lo : Nat} {ad : Option Addr} {n c : Nat} {vs : List SV} (hown : Hd w lo ad n c vs) (hs : a.eval s = .slice ad n c)
    {va : Option Addr} {vn vc : Nat} {t : TypeId} (hx : a.eval x = .slice (some ⟨w.heap.size, 0, none⟩) 1 1) (hlen : n + 1 ≤ 1000000000000) (hlo : lo ≤ w.heap.size)
    (h : ∀ g c' w', Hd w' lo (some ⟨g, 0, none⟩) (n + 1) c' (vs ++ [(va, vn, vc)]) → w.grownBy w' (Value.slice ad n c).ownBlock → ((Value.slice ad n c).ownBlock = some g ∨ w.heap.size ≤ g) → Below lo w w' → wpList Tryz.prog ops Q rest (a.put o.dst (.slice (some ⟨g, 0, none⟩) (n + 1) c')) w') :
    wpList Tryz.prog ops Q (o :: rest) a (w.alloc (.cells #[.slice va vn vc] t)) :=
  wpList_plain hgd fun _ hK => wp_appH1 ho hown hs hx hlen hlo fun g c' w' a b c d => hK _ _ (h g c' w' a b c d)
set_option maxHeartbeats 400000 in
theorem cloneRows_any (a : Option Addr) (n c : Nat) (vs : List SV) (w : World) (h1 : HdR w a n vs) (hm : n ≤ 1000000000000) :
    Calls Tryz.prog 91 #[.slice a n c] w fun e w' => ∃ a' c', e = .returned (.slice a' n c') ∧ Hd w' w.heap.size a' n c' vs ∧ Below w.heap.size w w' := by
  have hnil := Lib.run_eql_slice_nil (P := Tryz.prog) w 32 41 a n c 0 0 und_rows
  cases a with
  | none =>
    obtain ⟨rfl, rfl⟩ := h1.none_nil
    go_enter Tryz.func91, Tryz.ntmps91
    go_wp2
    go_ret
    exact ⟨none, 0, rfl, Hd.nil _ _, Below.refl _ _⟩
  | some p =>
    have hr := h1.alloc (.cells #[] 41)
    go_enter Tryz.func91, Tryz.ntmps91
    go_wp2_with (at_builtin; refine appH rfl rfl (Hd.fresh w rfl) rfl hr rfl (by omega) (by simp) ?_; intro ad' c' w' hO hg hb; rw [Nat.zero_add] at hO ⊢)
    go_ret
    exact ⟨ad', c', rfl, by simpa using hO, ((Below.refl _ _).alloc (Nat.le_refl _) _).trans hb⟩
end Go.Proofs.YtaddclaadbjnlaaGreat

namespace Go.Proofs.YtaddclaadbjnlaaGreat
set_option maxRecDepth 100000
set_option linter.unusedVariables false
set_option linter.unusedSimpArgs false
open Go.RowKit
set_option maxHeartbeats 400000 in
theorem clone_any (a : Option Addr) (n c : Nat) (xs : List Int) (w : World) (h1 : Row w a n xs) (hm : n ≤ 1000000000000) :
    Calls Tryz.prog 61 #[.slice a n c] w fun e w' => ∃ a' c', e = .returned (.slice a' n c') ∧ Own w' w.heap.size a' n c' xs ∧ Below w.heap.size w w' := by
  have hnil := Lib.run_eql_slice_nil (P := Tryz.prog) w 41 2 a n c 0 0 und_ints
  cases a with
  | none =>
    have hn : n = 0 := by
      rcases Nat.eq_zero_or_pos n with h | h
      · exact h
      · obtain ⟨b, off, h2, _⟩ := h1.at 0 h; cases h2
    subst hn
    have hx : xs = [] := List.eq_nil_of_length_eq_zero h1.len.symm
    subst hx
    go_enter Tryz.func61, Tryz.ntmps61
    go_wp2
    go_ret
    exact ⟨none, 0, rfl, Own.nil _ _, Below.refl _ _⟩
  | some p =>
    have hr := h1.alloc (.cells #[] 2)
    go_enter Tryz.func61, Tryz.ntmps61
    go_wp2_with (at_builtin; refine appL rfl rfl (Own.fresh w rfl) rfl hr rfl (by omega) (by simp) ?_; intro ad' c' w' hO hg hb; rw [Nat.zero_add] at hO ⊢)
    go_ret
    exact ⟨ad', c', rfl, by simpa using hO, ((Below.refl _ _).alloc (Nat.le_refl _) _).trans hb⟩
end Go.Proofs.YtaddclaadbjnlaaGreat

namespace Go.Proofs.YtaddclaadbjnlaaGreat
set_option maxRecDepth 100000
set_option linter.unusedVariables false
set_option linter.unusedSimpArgs false
open Go.RowKit
set_option maxHeartbeats 1000000 in
theorem cloneTable_any (a : Option Addr) (n c : Nat) (xss : List (List Int)) (w : World) (h1 : Tbl w a n xss) (hm : n ≤ 1000000) (hx1 : ∀ i, i < n → (xss.getD i []).length ≤ 1000000) :
    Calls Tryz.prog 90 #[.slice a n c] w fun e w' => ∃ a' c' vs, e = .returned (.slice a' n c') ∧ OwnT w' w.heap.size a' n c' vs xss ∧ Below w.heap.size w w' := by
  have hl := h1.len
  have HL := Lib.hid hl; clear hl
  have HX := Lib.hid hx1; clear hx1
  go_enter Tryz.func90, Tryz.ntmps90
  go_wp2_with (at_make; refine makeT rfl rfl rfl rfl (by omega) ?_; intro w1 ho hs hb)
  go_loopw [11] (fun i wr => ∃ (k : Nat) (vs : List SV), k ≤ n ∧ i = .int .i64 k ∧ OwnT wr w.heap.size (some ⟨w.heap.size, 0, none⟩) n n vs (xss.take k ++ List.replicate (n - k) []) ∧ Below w.heap.size w wr) (fun i _ => n - (intOf i).toNat)
  case atStart => exact ⟨0, _, Nat.zero_le _, rfl, by simpa using ho, hb⟩
  case round =>
    clear ho hb
    obtain ⟨k, vs, hk, rfl, ho, hb⟩ := hrel
    by_cases hlt : k < n
    · have hr := h1.below hb
      obtain ⟨b, off, ai, ni, ci, rfl, g1, hri, hni⟩ := hr.at k hlt
      have hx : k < xss.length := by have := HL.out; omega
      have hle : ni ≤ 1000000 := by have := HX.out k hlt; have := hri.len; omega
      rw [Tbl.getD hx] at hri
      obtain ⟨g, hg, hgl, hc, hf⟩ := ho.cells (by omega)
      cases hg
      clear h1 hr hc
      go_wp2_with fail
      refine (clone_any _ _ _ _ _ hri (by omega)).mono ?_
      rintro e w2 ⟨a2, c2, rfl, ho2, hb2⟩
      have hot := ho.below hb2
      obtain ⟨g', hg', hgl', hc', hf'⟩ := hot.cells (by omega)
      cases hg'
      have hc1 := hc' k hlt
      have hf1 := hf' k
      clear hc' hf' hf
      go_wp2
      go_roundw
      case rel =>
        have hlo : w.heap.size ≤ wr.heap.size := hb.size
        refine ⟨k + 1, vs.set k (a2, ni, c2), by omega, by go_num, ?_, ?_⟩
        · have hp := hot.put k hlt (v := (a2, ni, c2)) (ho2.mono hlo) (fun e => by have := ho2.lo _ e; omega) (fun j hj _ g1 h1 h2 => by have h3 := ho2.lo _ h1; have h4 := (ho.row j hj).hi _ h2; omega)
          rw [copyT_step xss n k HL.out hx] at hp
          exact hp
        · exact (hb.trans (hb2.mono hlo)).setCell (Nat.le_refl _) _
      case measure => simp [intOf]; omega
    · obtain rfl : k = n := by omega
      go_wp2
      go_ret
      have e1 : xss.take k ++ List.replicate (k - k) [] = xss := by
        rw [List.take_of_length_le (by have := HL.out; omega), Nat.sub_self, List.replicate_zero, List.append_nil]
      rw [e1] at ho
      exact ⟨_, _, _, rfl, ho, hb⟩
end Go.Proofs.YtaddclaadbjnlaaGreat
