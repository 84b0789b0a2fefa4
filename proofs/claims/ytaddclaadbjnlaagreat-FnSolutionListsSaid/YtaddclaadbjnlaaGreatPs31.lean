/-
  Walks and plain laws of this seat, some texts in one.
  No condition but bounds on lengths.
-/
import Derived.Test.YtaddclaadbjnlaaGreatPs30
import Derived.Test.YtaddclaadbjnlaaGreatPs2
import Derived.Test.YtaddclaadbjnlaaGreatPs7
import Derived.Test.YtaddclaadbjnlaaGreatPs5
import Derived.Deep.RegionHeld3
import Derived.Deep.LoopGhost
import Derived.Test.YtaddclaadbjnlaaGreatPs6
import Derived.Test.YtaddclaadbjnlaaGreatPs1
import Derived.RangeFuncNested
import Derived.RangeFuncBound
import Derived.RangeFuncCalls
import Derived.RangeFuncLeaves
import Derived.OwnWalkIn
import Derived.TacticsInMore
import Derived.LoopNIn
import Derived.LoopIn
import Derived.Test.YtaddclaadbjnlaaGreatPs11
import Derived.Sort.LoopGhostIn
namespace Go.Proofs.YtaddclaadbjnlaaGreat
set_option maxRecDepth 100000
set_option linter.unusedVariables false
set_option linter.unusedSimpArgs false
open Go.RowKit
theorem app_getD (ys l : List Int) (o i : Nat) (ho : ys.length = o) : (ys ++ l).getD (o + i) 0 = l.getD i 0 := by
  simp [List.getD_eq_getElem?_getD, List.getElem?_append_right, ← ho]
theorem app_set (ys l : List Int) (o i : Nat) (x : Int) (ho : ys.length = o) : (ys ++ l).set (o + i) x = ys ++ l.set i x := by
  rw [List.set_append_right _ _ (by omega)]
  congr 2; omega
set_option maxHeartbeats 2000000 in
theorem reverse_mid (g N C lo o n c : Nat) (ys xs : List Int) (w : World) (h1 : Own w lo (some ⟨g, 0, none⟩) N C (ys ++ xs)) (hy : ys.length = o) (hx : xs.length = n) :
    Calls Tryz.prog 154 #[.slice (some ⟨g, o, none⟩) n c] w fun e w' => e = .returned (.tuple #[]) ∧ Own w' lo (some ⟨g, 0, none⟩) N C (ys ++ xs.reverse) ∧ Touch (fun q => q = g) w w' := by
  have hcap := h1.cap
  have hl := h1.len
  rw [List.length_append, hx, hy] at hl
  have HL := Lib.hid hl; have HX := Lib.hid hx; have HY := Lib.hid hy
  have hN : o + n ≤ 9223372036854775807 := by omega
  clear hl hx hy hcap
  go_enter Tryz.func154, Tryz.ntmps154
  go_wp2
  go_loopw [2, 3] (fun i j wr => ∃ k : Nat, 2 * k ≤ n + 1 ∧ i = .int .i64 k ∧ j = .int .i64 ((n : Int) - 1 - k) ∧ Own wr lo (some ⟨g, 0, none⟩) N C (ys ++ revK xs k) ∧ Touch (fun q => q = g) w wr) (fun i _ _ => n - (intOf i).toNat)
  case atStart => exact ⟨0, by omega, rfl, by simp, by rw [revK_zero]; exact h1, Touch.refl _ _⟩
  case round =>
    obtain ⟨k, hk, rfl, rfl, ho, ht⟩ := hrel
    by_cases hlt : 2 * k + 1 < n
    · obtain ⟨_, hc, hf⟩ := ho.cells
      have hxl := HX.out
      have hyl := HY.out
      have hNl := HL.out
      obtain ⟨m, hm⟩ : ∃ m, m = n - 1 - k := ⟨_, rfl⟩
      have hkm : k < m := by omega
      have hmn : m < n := by omega
      have hck := hc (o + k) (by omega)
      have hcj := hc (o + m) (by omega)
      rw [app_getD _ _ _ _ hyl, revK_getD _ _ _ (by omega), if_neg (by omega)] at hck hcj
      have hfk := hf (o + k)
      have hfj := hf (o + m)
      have ej : (n : Int) - 1 - k = (m : Int) := by omega
      have es : ((revK xs k).set k (xs.getD m 0)).set m (xs.getD k 0) = revK xs (k + 1) := by
        have := revK_step xs k (by omega)
        rw [hxl, ← hm] at this; exact this
      obtain ⟨X, hX⟩ : ∃ X, X = xs.getD k 0 := ⟨_, rfl⟩
      obtain ⟨Y, hY⟩ : ∃ Y, Y = xs.getD m 0 := ⟨_, rfl⟩
      rw [← hX] at hck es
      rw [← hY] at hcj es
      clear hc hf
      have HS := Lib.hid es
      have HM := Lib.hid hm
      clear es hxl hyl hNl hX hY hm
      rw [ej]; clear ej
      go_wp2
      go_region
      all_goals go_wp2
      all_goals go_roundw
      case rel =>
        refine ⟨k + 1, by omega, by go_num, ?_, ?_, ?_⟩
        · have := HM.out
          exact congrArg (Value.int .i64) (by omega)
        · rw [← HS.out, ← app_set _ _ o _ _ HY.out, ← app_set _ _ o _ _ HY.out]
          exact (ho.set (o + k) Y).set (o + m) X
        · exact Touch.drewN (Touch.set (p := ⟨g, o + m, none⟩) (Touch.set (p := ⟨g, o + k, none⟩) ht rfl _) rfl _) 1
      case measure => simp [intOf]; omega
    · go_wp2
      go_end0
      refine ⟨rfl, ?_, ht⟩
      rw [revK_end _ _ (by have := HX.out; omega)] at ho
      exact ho
def nxI (p : List Int) : Nat → Option Nat
  | 0 => none
  | j + 1 => if p.getD (j + 1) 0 < p.getD j 0 then nxI p j else some j
def nxK (p : List Int) (v : Int) : Nat → Nat
  | 0 => 0
  | j + 1 => if p.getD (j + 1) 0 < v then nxK p v j else j + 1
def swpQ (p : List Int) (i k : Nat) : List Int := (p.set i (p.getD k 0)).set k (p.getD i 0)
def nxP (p : List Int) : Option (List Int) :=
  match nxI p (p.length - 1) with
  | none => none
  | some i => some ((fun q : List Int => q.take (i + 1) ++ (q.drop (i + 1)).reverse) (swpQ p i (nxK p (p.getD i 0) (p.length - 1))))
def NxtP (w : World) (lo g n c : Nat) (p : List Int) (e : Ending) (w' : World) : Prop :=
  (∃ q, nxP p = some q ∧ e = .returned (.bool true) ∧ Own w' lo (some ⟨g, 0, none⟩) n c q ∧ Touch (fun q => q = g) w w') ∨ (nxP p = none ∧ e = .returned (.bool false) ∧ Own w' lo (some ⟨g, 0, none⟩) n c p ∧ Touch (fun q => q = g) w w')
set_option maxHeartbeats 8000000 in
theorem nextPermutation_any (g n c lo : Nat) (p : List Int) (w : World) (h1 : Own w lo (some ⟨g, 0, none⟩) n c p) (hn1 : 1 ≤ n) (hn : n ≤ 12) :
    Calls Tryz.prog 128 #[.slice (some ⟨g, 0, none⟩) n c] w (NxtP w lo g n c p) := by
  have HL := Lib.hid h1.len
  have hcap := h1.cap
  go_enter Tryz.func128, Tryz.ntmps128
  go_wp2
  go_loopw [3] (fun i wr => ∃ j : Nat, j ≤ n - 1 ∧ i = .int .i64 ((j : Int) - 1) ∧ Hid (nxI p j = nxI p (n - 1)) ∧ Hid (∃ m, wr = w.drewN m)) (fun i _ => (intOf i + 1).toNat)
  case atStart => exact ⟨n - 1, Nat.le_refl _, by rw [show ((n - 1 : Nat) : Int) - 1 = (n : Int) - 2 by omega], rfl, ⟨0, rfl⟩⟩
  case round =>
    obtain ⟨j, hj, rfl, HJ, HW⟩ := hrel
    obtain ⟨m0, hm0⟩ := HW.out
    have ho : Own wr lo (some ⟨g, 0, none⟩) n c p := by rw [hm0]; exact h1.drewN m0
    clear hm0
    rcases j with _ | j
    · rw [show (((0 : Nat) : Int)) - 1 = -1 from rfl]
      have HN : Hid (nxP p = none) := Lib.hid (by unfold nxP; rw [← HL.out, ← HJ.out]; rfl)
      have d1 : decide ((0 : Int) ≤ -1) = false := rfl
      go_wp2
      go_quiet (fail)
      go_wp2
      go_ret
      obtain ⟨m1, hm1⟩ := HW.out
      exact .inr ⟨HN.out, rfl, ho.drewN _, by rw [hm1, World.drewN_drewN]; exact (Touch.refl _ _).drewN _⟩
    · rw [show (((j + 1 : Nat) : Int)) - 1 = (j : Int) by omega]
      obtain ⟨_, hc, hf⟩ := ho.cells
      have c1 := hc j (by omega)
      have c2 := hc (j + 1) (by omega)
      obtain ⟨X, HX⟩ : ∃ X, Hid (p.getD j 0 = X) := ⟨_, rfl⟩
      obtain ⟨Y, HY⟩ : ∃ Y, Hid (p.getD (j + 1) 0 = Y) := ⟨_, rfl⟩
      rw [HX.out] at c1
      rw [HY.out] at c2
      have i1 : (0 : Int) ≤ (j : Int) := by omega
      have i2 : (j : Int) < (n : Int) := by omega
      have i3 : IntKind.i64.wrap ((j : Int) + 1) = (j : Int) + 1 := IntWalk.i64_in _ ⟨by omega, by omega⟩
      have i4 : (0 : Int) ≤ (j : Int) + 1 := by omega
      have i5 : (j : Int) + 1 < (n : Int) := by omega
      have i6 : ((j : Int) + 1).toNat = j + 1 := by omega
      clear hc hf
      by_cases hXY : Y < X
      · have HJ1 : Hid (nxI p j = nxI p (n - 1)) := Lib.hid (by
          rw [← HJ.out]; show _ = (if p.getD (j + 1) 0 < p.getD j 0 then nxI p j else some j)
          rw [HX.out, HY.out, if_pos hXY])
        go_wp2
        go_quiet (fail)
        clear i3 i6
        go_wp2
        go_roundw
        case rel => exact ⟨j, by omega, by go_num, HJ1, by obtain ⟨m1, hm1⟩ := HW.out; exact ⟨m1 + nq, by rw [hm1, World.drewN_drewN]⟩⟩
        case measure => simp [intOf]; try omega
      · have HJ1 : Hid (nxI p (n - 1) = some j) := Lib.hid (by
          rw [← HJ.out]; show (if p.getD (j + 1) 0 < p.getD j 0 then nxI p j else some j) = _
          rw [HX.out, HY.out, if_neg hXY])
        go_wp2
        go_quiet (fail)
        clear i3 i6
        go_wp2
        have hW1 : Hid (∃ m, wr.drewN nq = w.drewN m) := Lib.hid (by obtain ⟨m1, hm1⟩ := HW.out; exact ⟨m1 + nq, by rw [hm1, World.drewN_drewN]⟩)
        have hj1 : j + 1 ≤ n - 1 := hj
        go_loopw [4] (fun s4 wr => ∃ k : Nat, k ≤ n - 1 ∧ j < k ∧ s4 = .int .i64 k ∧ Hid (nxK p X k = nxK p X (n - 1)) ∧ Hid (∃ m, wr = w.drewN m)) (fun s4 _ => (intOf s4).toNat)
        case atStart => exact ⟨n - 1, Nat.le_refl _, by omega, by rw [show ((n - 1 : Nat) : Int) = (n : Int) - 1 by omega], rfl, hW1.out⟩
        case round =>
          obtain ⟨k, hk, hjk, rfl, HK, HW2⟩ := hrel
          obtain ⟨m2, hm2⟩ := HW2.out
          have ho2 : Own wr lo (some ⟨g, 0, none⟩) n c p := by rw [hm2]; exact h1.drewN m2
          clear hm2
          obtain ⟨_, hc, hf⟩ := ho2.cells
          have c3 := hc j (by omega)
          have c4 := hc k (by omega)
          obtain ⟨Z, HZ⟩ : ∃ Z, Hid (p.getD k 0 = Z) := ⟨_, rfl⟩
          rw [HX.out] at c3
          rw [HZ.out] at c4
          have k1 : (0 : Int) ≤ (k : Int) := by omega
          have k2 : (k : Int) < (n : Int) := by omega
          clear hc
          by_cases hZX : Z < X
          · obtain ⟨k', rfl⟩ : ∃ k', k = k' + 1 := ⟨k - 1, by omega⟩
            have hk' : j < k' := by
              rcases Nat.lt_or_ge j k' with h | h
              · exact h
              · exfalso
                obtain rfl : j = k' := by omega
                have e1 := HZ.out
                have e2 := HY.out
                rw [e2] at e1
                omega
            have HK1 : Hid (nxK p X k' = nxK p X (n - 1)) := Lib.hid (by
              rw [← HK.out]; show _ = (if p.getD (k' + 1) 0 < X then nxK p X k' else k' + 1)
              rw [HZ.out, if_pos hZX])
            clear hf
            go_wp2
            go_quiet (fail)
            go_wp2
            go_roundw
            case rel => exact ⟨k', by omega, hk', by go_num, HK1, by obtain ⟨m1, hm1⟩ := HW2.out; exact ⟨m1 + nq, by rw [hm1, World.drewN_drewN]⟩⟩
            case measure => simp [intOf]; try omega
          · have HKK : Hid (nxK p X (n - 1) = k) := Lib.hid (by
              rw [← HK.out]
              obtain ⟨k', rfl⟩ : ∃ k', k = k' + 1 := ⟨k - 1, by omega⟩
              show (if p.getD (k' + 1) 0 < X then nxK p X k' else k' + 1) = _
              rw [HZ.out, if_neg hZX])
            have HQ : Hid (nxP p = some ((swpQ p j k).take (j + 1) ++ ((swpQ p j k).drop (j + 1)).reverse)) := Lib.hid (by
              unfold nxP
              rw [← HL.out, HJ1.out]
              show some _ = _
              rw [HX.out, HKK.out])
            have HSW : Hid (swpQ p j k = (p.set j Z).set k X) := Lib.hid (by unfold swpQ; rw [HX.out, HZ.out])
            have f3 := hf j
            have f4 := hf k
            clear hf
            go_wp2
            go_quiet (fail)
            go_wp2
            go_region
            all_goals
              have k3 : IntKind.i64.wrap ((j : Int) + 1) = (j : Int) + 1 := IntWalk.i64_in _ ⟨by omega, by omega⟩
              have k4 : ¬ c = j + 1 := by omega
              have k5 : (j : Int) + 1 ≤ (n : Int) := by omega
              have k6 : ((j : Int) + 1).toNat = j + 1 := by omega
              have hoS := ((ho2.drewN (nq + 1)).set j Z).set k X
              rw [← HSW.out] at hoS
              have hlq := hoS.len
              have hsp : swpQ p j k = (swpQ p j k).take (j + 1) ++ (swpQ p j k).drop (j + 1) := (List.take_append_drop _ _).symm
              rw [hsp] at hoS
              have hl1 : ((swpQ p j k).take (j + 1)).length = j + 1 := by rw [List.length_take]; omega
              have hl2 : ((swpQ p j k).drop (j + 1)).length = n - (j + 1) := by rw [List.length_drop]; omega
              have HLQ := Lib.hid hlq
              clear hlq hsp
              go_wp2_with fail
              refine (reverse_mid g n c lo (j + 1) (n - (j + 1)) _ _ _ _ hoS hl1 hl2).mono ?_
              rintro e w9 ⟨rfl, ho9, ht9⟩
              go_wp2
              go_ret
              refine .inl ⟨_, HQ.out, rfl, ho9, ?_⟩
              obtain ⟨m1, hm1⟩ := HW2.out
              refine Touch.trans ?_ ht9
              rw [hm1]
              exact Touch.set (S := fun q => q = g) (p := ⟨g, k, none⟩) (Touch.set (S := fun q => q = g) (p := ⟨g, j, none⟩) (((Touch.refl (fun q => q = g) w).drewN m1).drewN (nq + 1)) rfl _) rfl _
def GrTT (E : Nat → Prop) (w : World) (lo : Nat) (a : Option Addr) (n : Nat) (us : List TV) (ts : List (List (List Int))) (e : Ending) (w' : World) : Prop :=
  ∃ a' n' c' us', e = .returned (.slice a' n' c') ∧ OwnTT w' lo a' n' c' us' ts ∧ Marked (TTS a n us) w w' ∧ ∀ g, TTS a' n' us' g → TTS a n us g ∨ E g ∨ w.heap.size ≤ g
theorem GrTT.one {w w' : World} {E : Nat → Prop} {lo : Nat} {a : Option Addr} {n c : Nat} {us : List TV} {ts : List (List (List Int))} {g c' : Nat} {u : TV} {t : List (List Int)} (h : OwnTT w lo a n c us ts) (hg : w.grownBy w' (Value.slice a n c).ownBlock) (hat : (Value.slice a n c).ownBlock = some g ∨ w.heap.size ≤ g)
    (hO : OwnTT w' lo (some ⟨g, 0, none⟩) (n + 1) c' (us ++ [u]) (ts ++ [t])) (hE : ∀ q, TvS u q → E q) : GrTT E w lo a n us (ts ++ [t]) (.returned (.slice (some ⟨g, 0, none⟩) (n + 1) c')) w' := by
  refine ⟨_, _, _, _, rfl, hO, Marked.grownTT h hg, fun q hq => ?_⟩
  rcases TTS.snoc (a := a) h.ulen hq with rfl | h' | h'
  · rcases hat with h2 | h2
    · exact .inl (.inl (h.ownBlk h2))
    · exact .inr (.inr h2)
  · exact .inr (.inl (hE q h'))
  · exact .inl h'
theorem TTS.nil {g : Nat} : ¬ TTS none 0 [] g := by
  rintro (h | ⟨i, hi, _⟩)
  · cases h
  · omega
theorem prm_fin : ∀ n : Fin 5, 1 ≤ n.1 → ((prmL n.1).length ≤ 24 ∧ 0 < (prmL n.1).length ∧ ∀ p ∈ prmL n.1, p.length = n.1 ∧ (∀ x ∈ p, 0 ≤ x ∧ x < (n.1 : Int)) ∧ p.Nodup) := by decide +kernel
end Go.Proofs.YtaddclaadbjnlaaGreat
namespace Go.Proofs.YtaddclaadbjnlaaGreat
set_option maxRecDepth 100000
set_option linter.unusedVariables false
set_option linter.unusedSimpArgs false
def nxC (n : Nat) : Bool := decide ((prmL n).getD 0 [] = unitL n) && (List.range (prmL n).length).all fun k => decide (nxP ((prmL n).getD k []) = if k + 1 < (prmL n).length then some ((prmL n).getD (k + 1) []) else none)
theorem nx_fin : ∀ n : Fin 5, 1 ≤ n.1 → nxC n.1 = true := by decide +kernel
theorem nx_zero {n : Nat} (h1 : 1 ≤ n) (h4 : n ≤ 4) : (prmL n).getD 0 [] = unitL n := by
  have := nx_fin ⟨n, by omega⟩ h1
  simp only [nxC, Bool.and_eq_true, decide_eq_true_eq] at this
  exact this.1
theorem nx_at {n k : Nat} (h1 : 1 ≤ n) (h4 : n ≤ 4) (hk : k < (prmL n).length) : nxP ((prmL n).getD k []) = if k + 1 < (prmL n).length then some ((prmL n).getD (k + 1) []) else none := by
  have := nx_fin ⟨n, by omega⟩ h1
  simp only [nxC, Bool.and_eq_true, decide_eq_true_eq, List.all_eq_true, List.mem_range] at this
  exact this.2 k hk
def rowG (ps : List (List Int)) (fits : List (List Int) → Bool) : Nat → List (List Int) → List (List (List Int))
  | 0, o => [o]
  | m + 1, o => ps.flatMap fun p => if fits (o ++ [p]) then rowG ps fits m (o ++ [p]) else []
def rowL (n : Nat) (fits : List (List Int) → Bool) : List (List (List Int)) := rowG (prmL n) fits n []
end Go.Proofs.YtaddclaadbjnlaaGreat
namespace Go.Proofs.YtaddclaadbjnlaaGreat
set_option maxRecDepth 100000
set_option linter.unusedVariables false
set_option linter.unusedSimpArgs false
open Go.RowKit
attribute [local go_sem] Oper.semAt_some
def ItP (F : Fence) (n : Nat) (gf : Nat) (lb : Array Value) (N M : Nat) (row : Nat → List Int) (w0 : World) : Prop :=
  ∀ (l : Nat) (J : Nat → Nat → World → Prop) (W : World), Below w0.heap.size w0 W →
    (∀ b W', W.heap.size ≤ b → b < W'.heap.size → Below W.heap.size W W' → J b 0 W') →
    (∀ b k A B, W.heap.size ≤ b → J b k A → A.grownBy B (some b) → J b k B) →
    (∀ b c k A, W.heap.size ≤ b → k < M → J b k A → Own A W.heap.size (some ⟨b, 0, none⟩) N c (row k) → YieldAt F (n - 1) Tryz.prog l #[.slice (some ⟨b, 0, none⟩) N c] A fun e B => e = .returned (.bool true) ∧ J b (k + 1) B ∧ B.heap[b]? = A.heap[b]? ∧ A.heap.size ≤ B.heap.size) →
    CallsIn F n Tryz.prog gf (#[.func (.yield l) #[] #[]] ++ lb) W fun e W' => (∃ v, e = .returned v) ∧ ∃ b, W.heap.size ≤ b ∧ J b M W'
def itPost (I : Nat → Nat → World → Prop) (D b k : Nat) (W : World) : Exit → Act → World → Prop
  | .normal, _, W' => I b k W' ∧ W'.heap[b]? = W.heap[b]? ∧ W.heap.size ≤ W'.heap.size ∧ W'.heap[D]? = W.heap[D]? ∧ W'.heap[D + 1]? = W.heap[D + 1]?
  | .ret, _, _ => False
  | .exit _, _, _ => False
  | .goto _, _, _ => False
  | .panic _, _, _ => False
  | .outgrown, _, _ => False
theorem wpIn_rangeFunc_it {F : Fence} {n : Nat} {g : Operand} {ps : Array Tmp} {assign body : Code} {Q : Exit → Act → World → Prop} {a : Act} {w : World}
    (hro : F.round = none) (h1 : 1 ≤ n) {gf : Nat} {lb : Array Value} (hg : a.eval g = .func (.func gf) #[] lb) (hFg : F.fn gf) (eg : ∀ args w, (callFunc gf args).run Tryz.prog w = .ok (.enter gf args) w)
    {N M : Nat} {row : Nat → List Int} {w0 : World} (hit : ItP F (n - 1) gf lb N M row w0) (hb0 : Below w0.heap.size w0 w) (hps : ps.size = 1)
    (I : Nat → Nat → World → Prop)
    (hI0 : ∀ b W', w.heap.size + 2 ≤ b → b < W'.heap.size → Below w.heap.size w W' → I b 0 W')
    (hI : ∀ b k A B r, (r = b ∨ r = w.heap.size ∨ r = w.heap.size + 1) → w.heap.size + 2 ≤ b → I b k A → A.grownBy B (some r) → I b k B)
    (a₁ : Nat → Nat → Act)
    (hassign : ∀ (l b c : Nat) (W : World) (K : Act → World → Prop), K (a₁ b c) W →
      assign.wpIn (F.inRound l) (n - 1 - 1) Tryz.prog (Exit.then K (fun _ _ _ => False)) { tmps := (ps.zip #[.slice (some ⟨b, 0, none⟩) N c]).foldl (fun t (p, v) => t.setIfInBounds p v) a.tmps, defers := [] } W)
    (hbody : ∀ (l b c k : Nat) (W : World), w.heap.size + 2 ≤ b → k < M → I b k W → w.heap.size + 2 ≤ W.heap.size → Own W (w.heap.size + 2) (some ⟨b, 0, none⟩) N c (row k) → body.wpIn (F.inRound l) (n - 1 - 1) Tryz.prog (itPost I w.heap.size b (k + 1) W) (a₁ b c) W)
    (hdone : ∀ (b : Nat) (W : World), w.heap.size + 2 ≤ b → I b M W → W.heap[w.heap.size]? = some (.deferred (some [])) → Q .normal { a with defers := { target := .collected w.heap.size, args := #[] } :: a.defers } W) :
    (Code.rangeFunc g ps assign body).wpIn F n Tryz.prog Q a w := by
  refine wpIn_rangeFunc ?_
  intro fn hfn
  rw [hro]
  obtain ⟨rec, hrec⟩ : ∃ rec : LoopState → Option Code → Loop, rec = fun st pe => { state := st, pending := pe, fn, tmps := a.tmps, params := ps, assign, body, defers := w.heap.size } := ⟨_, rfl⟩
  obtain ⟨W1, hW1⟩ : ∃ W1, (w.alloc (.deferred (some []))).alloc (.loop (rec .ready none)) = W1 := ⟨_, rfl⟩
  have hsz1 : W1.heap.size = w.heap.size + 2 := by rw [← hW1]; simp
  have hL1 : W1.heap[w.heap.size + 1]? = some (.loop (rec .ready none)) := by
    rw [← hW1]; have := World.alloc_heap_new (w.alloc (.deferred (some []))) (.loop (rec .ready none)); rwa [World.size_alloc] at this
  have hK1 : W1.heap[w.heap.size]? = some (.deferred (some [])) := by
    rw [← hW1]; exact (Below.heap_alloc _ _ _ (by simp)).trans (World.alloc_heap_new w _)
  have hbw : Below w.heap.size w W1 := by
    rw [← hW1]; exact ((Below.refl _ w).alloc (Nat.le_refl _) _).alloc (by simp) _
  have hb1 : Below w0.heap.size w0 W1 := hb0.trans (hbw.mono hb0.size)
  have hkeep : ∀ {A B : World} {b k : Nat} {o : Obj}, A.grownBy B (some b) → k ≠ b → A.heap[k]? = some o → B.heap[k]? = some o := fun hgr hne h =>
    (hgr.block _ (Array.getElem?_eq_some_iff.1 h).1 (by simpa using hne)).trans h
  refine ⟨w.heap.size + 1, [{ target := .collected w.heap.size, args := #[] }], W1, { target := .fn (.func gf) lb, args := #[.func (.yield (w.heap.size + 1)) #[] #[]] }, W1, gf,
    #[.func (.yield (w.heap.size + 1)) #[] #[]] ++ lb, W1, ?_, ?_, ?_, ?_, fun _ => h1, ?_⟩
  · rw [← hW1, hrec]; exact run_enterLoop_outer _ _ _ _ _
  · simp only [resolve, hg]
    simp [go_sem]
  · intro f' hf'; simp [Target.leads] at hf'; subst hf'; exact hFg
  · simp [invoke, go_sem, eg]
  · refine (hit (w.heap.size + 1)
      (fun b k W => I b k W ∧ W.heap[w.heap.size + 1]? = some (.loop (rec .ready none)) ∧ W.heap[w.heap.size]? = some (.deferred (some [])) ∧ w.heap.size + 2 ≤ W.heap.size)
      W1 hb1
      (fun b W' hb hlt hB => ⟨hI0 b W' (by omega) hlt (hbw.trans (hB.mono (by omega))), (hB.block _ (by omega)).trans hL1, (hB.block _ (by omega)).trans hK1, by have := hB.size; omega⟩)
      (fun b k A B hb hs hgr => ⟨hI b k A B b (.inl rfl) (by omega) hs.1 hgr, hkeep hgr (by omega) hs.2.1, hkeep hgr (by omega) hs.2.2.1, by have := hgr.size; have := hs.2.2.2; omega⟩)
      ?_).mono ?_
    · rintro b c k W hb hkM ⟨hi, hl, hk, hs⟩ hown
      have hlt : w.heap.size + 1 < W.heap.size := (Array.getElem?_eq_some_iff.1 hl).1
      have hy := run_yield (P := Tryz.prog) (args := #[.slice (some ⟨b, 0, none⟩) N c]) hl (by rw [hrec]; simp [hps])
      rw [hrec] at hy
      refine ⟨fn, _, assign, body, hy, roundIn_of_wpIn hfn (hassign _ b c W _ ⟨_, run_beginRound hl (by rw [hrec]), ?_⟩)⟩
      obtain ⟨W2, hW2⟩ : ∃ W2, W.putObj (w.heap.size + 1) (.loop { rec .ready none with state := .busy }) = W2 := ⟨_, rfl⟩
      have hgr2 : W.grownBy W2 (some (w.heap.size + 1)) := by rw [← hW2]; exact grownBy_putObj' _ _ _
      have hl2 : W2.heap[w.heap.size + 1]? = some (.loop { rec .ready none with state := .busy }) := by rw [← hW2]; exact World.putObj_heap_same hlt
      have hk2 : W2.heap[w.heap.size]? = some (.deferred (some [])) := hkeep hgr2 (by omega) hk
      have hsz2 : W2.heap.size = W.heap.size := by rw [← hW2]; simp
      have hbb : W2.heap[b]? = W.heap[b]? := by rw [← hW2]; exact World.putObj_heap_other (by omega)
      have hown2 : Own W2 (w.heap.size + 2) (some ⟨b, 0, none⟩) N c (row k) := (hown.grown hgr2 (fun q hq => by cases hq; simp; omega)).mono (by omega)
      rw [hW2]
      refine wpIn_mono (hbody _ b c k W2 (by omega) hkM (hI b k W W2 _ (.inr (.inr rfl)) (by omega) hi hgr2) (by omega) hown2) ?_
      rintro e a3 W3 hp
      cases e with
      | normal =>
        obtain ⟨hi3, hb3, hs3, hd3, hr3⟩ := hp
        have hl3 := hr3.trans hl2
        have hk3 := hd3.trans hk2
        have hrun := run_endRound (P := Tryz.prog) none hl3
        rw [hrec] at hrun
        have hgr4 : W3.grownBy (W3.putObj (w.heap.size + 1) (.loop (rec .ready none))) (some (w.heap.size + 1)) := grownBy_putObj' _ _ _
        refine ⟨_, _, hrun, rfl, ⟨?_, ?_, ?_, ?_⟩, ?_, ?_⟩
        · have := hI b (k + 1) W3 _ _ (.inr (.inr rfl)) (by omega) hi3 hgr4
          rw [hrec] at this; exact this
        · rw [hrec] at hl3 ⊢
          exact World.putObj_heap_same (Array.getElem?_eq_some_iff.1 hl3).1
        · exact (World.putObj_heap_other (by omega)).trans hk3
        · simp; omega
        · exact (World.putObj_heap_other (by omega)).trans (hb3.trans hbb)
        · simp; omega
      | ret => exact hp.elim
      | exit id => exact hp.elim
      | goto t => exact hp.elim
      | panic ch => exact hp.elim
      | outgrown => exact hp.elim
    · rintro e W2 ⟨⟨v, rfl⟩, b, hb, hi, hl, hk, hs⟩
      refine ⟨none, _, by have := run_endLoop (P := Tryz.prog) hl (by rw [hrec]; simp); rw [hrec] at this; exact this, hdone b _ (by omega) ?_ ((World.putObj_heap_other (by omega)).trans hk)⟩
      exact hI b M W2 _ _ (.inr (.inr rfl)) (by omega) hi (grownBy_putObj' _ _ _)
theorem prm_finP : ∀ n : Fin 5, 1 ≤ n.1 → (prmL n.1).all (isPb n.1) = true := by decide +kernel
theorem prm_isP {n : Nat} (h1 : 1 ≤ n) (h4 : n ≤ 4) : ∀ i, i < (prmL n).length → IsP n ((prmL n).getD i []) := fun i hi => by
  have := List.all_eq_true.1 (prm_finP ⟨n, by omega⟩ h1) _ (List.getElem_mem hi)
  rw [List.getD_eq_getElem?_getD, List.getElem?_eq_getElem hi]
  exact isPb_ok this
theorem prm_bd {n : Nat} (h1 : 1 ≤ n) (h4 : n ≤ 4) : (prmL n).length ≤ 24 ∧ 0 < (prmL n).length := by
  have := prm_fin ⟨n, by omega⟩ h1
  exact ⟨this.1, this.2.1⟩
attribute [local go_sem] Oper.semAt_some
theorem Touch.grownBy {w w' : World} {b : Nat} (h : Touch (fun q => q = b) w w') : w.grownBy w' (some b) :=
  ⟨h.os, h.tape, h.output, by rw [h.size]; exact Nat.le_refl _, fun k hk hne => h.block k (fun e => hne (by rw [e]))⟩
set_option maxHeartbeats 4000000 in
theorem perms1_it (n N Bn : Nat) (w0 : World) (hB : Bn < w0.heap.size) (hc : w0.cell? ⟨Bn, 0, none⟩ = some (.int .i64 N)) (h1 : 1 ≤ N) (h4 : N ≤ 4) :
    ItP Fence.wide n 126 #[.pointer (some ⟨Bn, 0, none⟩)] N (prmL N).length (fun k => (prmL N).getD k []) w0 := by
  intro l J W hW hJ0 hJ1 hY
  have hc1 := (hW.cell (p := ⟨Bn, 0, none⟩) hB).trans hc
  have HM := Lib.hid (prm_bd h1 h4)
  have HZ := Lib.hid (nx_zero h1 h4)
  have HX := Lib.hid (fun k (hk : k < (prmL N).length) => nx_at h1 h4 hk)
  obtain ⟨M, HMM⟩ : ∃ M, Hid ((prmL N).length = M) := ⟨_, rfl⟩
  rw [HMM.out] at hY HM HX
  rw [HMM.out]
  have HY := Lib.hid hY
  have HJ0 := Lib.hid hJ0
  have HJ1 := Lib.hid hJ1
  clear hY hJ0 hJ1 hc
  refine callsIn_of_wp Tryz.func126 rfl trivial ?_ rfl
  simp only [Tryz.ntmps126, List.size_toArray, List.length_cons, List.length_nil, Nat.reduceAdd, Nat.reduceSub, Array.replicate_succ, Array.replicate_zero, List.push_toArray, List.append_toArray, List.nil_append, List.cons_append]
  have hdd : ∀ k : Nat, (Fence.wide.depth.isSome = true → 1 ≤ k) := fun k h => by cases h
  gi_wp2_with (refine ⟨trivial, hdd _, ?_⟩; gi_at_call 127; refine (callsIn_wide.2 (identity_any N _ (by omega))).mono ?_; rintro e w1 ⟨a1, c1, rfl, ho1, hb1⟩)
  obtain ⟨b, cur, rfl, hb, hL⟩ : ∃ g cur, a1 = some ⟨g, 0, none⟩ ∧ W.heap.size ≤ g ∧ Loc w1 g cur 2 := by
    rcases ho1.block with ⟨rfl, h, _⟩ | ⟨g, cur, h1, h2, h3, _⟩
    · omega
    · exact ⟨g, cur, h1, h2, h3⟩
  gi_loopg [] M (fun g wr => ∃ (k : Nat), g + k = M ∧ k < M ∧ J b k wr ∧ Own wr W.heap.size (some ⟨b, 0, none⟩) N c1 ((prmL N).getD k []))
  case atStart => exact ⟨0, rfl, by have := HM.out; omega, HJ0.out b w1 hb hL.lt hb1, by rw [HZ.out]; exact ho1⟩
  case round =>
    obtain ⟨k, hgk, hkM, hJ, ho⟩ := hrel
    obtain ⟨fn, tmps, assign, body, hy, hR⟩ := HY.out b c1 k wr hb hkM hJ ho
    have HO := Lib.hid ho
    clear ho hJ
    obtain ⟨p, HP⟩ : ∃ p, Hid ((prmL N).getD k [] = p) := ⟨_, rfl⟩
    gi_wp2
    refine ⟨hdd _, hR.mono ?_⟩
    rintro e w2 ⟨rfl, hJ2, hbb, hsz⟩
    have ho2 : Own w2 W.heap.size (some ⟨b, 0, none⟩) N c1 p := by rw [← HP.out]; exact HO.out.keep fun g hg hlt => by cases hg; exact hbb
    have HNX := Lib.hid (HX.out k hkM)
    rw [HP.out] at HNX
    clear hy hbb
    gi_wp2_with (refine ⟨trivial, hdd _, ?_⟩; gi_at_call 128; refine (callsIn_wide.2 (nextPermutation_any b N c1 W.heap.size p w2 ho2 h1 (by omega))).mono ?_; rintro e w3 (⟨q, hq, rfl, ho3, ht3⟩ | ⟨hq, rfl, ho3, ht3⟩))
    · have hE := HNX.out
      rw [hq] at hE
      have hk1 : k + 1 < M := by
        rcases Nat.lt_or_ge (k + 1) M with h | h
        · exact h
        · rw [if_neg (by omega)] at hE; cases hE
      rw [if_pos hk1] at hE
      have hE2 : q = (prmL N).getD (k + 1) [] := by injection hE
      have HE2 := Lib.hid hE2
      clear hE hE2 hq
      gi_roundg (gk - 1)
      case measure => omega
      case rel => exact ⟨k + 1, by omega, hk1, HJ1.out b (k + 1) w2 w3 hb hJ2 ht3.grownBy, by rw [← HE2.out]; exact ho3⟩
    · have hE := HNX.out
      rw [hq] at hE
      have hk1 : k + 1 = M := by
        rcases Nat.lt_or_ge (k + 1) M with h | h
        · rw [if_pos h] at hE; cases hE
        · omega
      clear hE hq
      refine bodyPost_ret (results_none rfl _ _ _) rfl ?_
      exact ⟨⟨_, rfl⟩, b, hb, by rw [← hk1]; exact HJ1.out b (k + 1) w2 w3 hb hJ2 ht3.grownBy⟩
end Go.Proofs.YtaddclaadbjnlaaGreat
namespace Go.Proofs.YtaddclaadbjnlaaGreat
set_option maxRecDepth 100000
set_option linter.unusedVariables false
set_option linter.unusedSimpArgs false
def rowP (ps : List (List Int)) (fits : List (List Int) → Bool) (m : Nat) (o : List (List Int)) (k : Nat) : List (List (List Int)) := (ps.take k).flatMap fun p => if fits (o ++ [p]) then rowG ps fits m (o ++ [p]) else []
theorem rowP_succ (ps : List (List Int)) (fits : List (List Int) → Bool) (m : Nat) (o : List (List Int)) {k : Nat} (h : k < ps.length) : rowP ps fits m o (k + 1) = rowP ps fits m o k ++ if fits (o ++ [ps.getD k []]) then rowG ps fits m (o ++ [ps.getD k []]) else [] := by
  unfold rowP
  rw [List.take_succ_eq_append_getElem h, List.flatMap_append]
  simp [List.getD_eq_getElem?_getD, List.getElem?_eq_getElem h]
theorem rowP_all (ps : List (List Int)) (fits : List (List Int) → Bool) (m : Nat) (o : List (List Int)) : rowP ps fits m o ps.length = rowG ps fits (m + 1) o := by
  unfold rowP; rw [List.take_length]; rfl
theorem rowG_bd (ps : List (List Int)) (fits : List (List Int) → Bool) : ∀ (m : Nat) (o : List (List Int)), (rowG ps fits m o).length ≤ ps.length ^ m := by
  intro m
  induction m with
  | zero => intro o; simp [rowG]
  | succ m ih =>
    intro o
    have : ∀ k, k ≤ ps.length → (rowP ps fits m o k).length ≤ k * ps.length ^ m := by
      intro k
      induction k with
      | zero => intro _; simp [rowP]
      | succ k ihk =>
        intro hk
        rw [rowP_succ ps fits m o (by omega), List.length_append, Nat.add_mul, Nat.one_mul]
        have := ihk (by omega)
        split
        · have := ih (o ++ [ps.getD k []]); omega
        · simp; omega
    have h := this ps.length (Nat.le_refl _)
    rw [rowP_all] at h
    rw [Nat.pow_succ, Nat.mul_comm]
    exact h
theorem rowP_le (ps : List (List Int)) (fits : List (List Int) → Bool) (m : Nat) (o : List (List Int)) : ∀ k, k ≤ ps.length → (rowP ps fits m o k).length ≤ k * ps.length ^ m := by
  intro k
  induction k with
  | zero => intro _; simp [rowP]
  | succ k ihk =>
    intro hk
    rw [rowP_succ ps fits m o (by omega), List.length_append, Nat.add_mul, Nat.one_mul]
    have := ihk (by omega)
    split
    · have := rowG_bd ps fits m (o ++ [ps.getD k []]); omega
    · simp; omega
end Go.Proofs.YtaddclaadbjnlaaGreat
