/-
  Walks and plain laws of this seat, some texts in one.
  No condition but bounds on lengths.
-/
import Derived.Test.YtpdgpgbgakinlaaGreatPb6
import Derived.Test.YtpdgpgbgakinlaaGreatPb3
import Derived.Test.YtpdgpgbgakinlaaGreatPb1
import Derived.BigRegion
import Derived.Deep.RegionHeld3
import Derived.ProofKit
import Derived.OpenShut
import Derived.ChangeOld
import Derived.Below
import Derived.Lib.SmallJoins
namespace Go.Proofs.YtpdgpgbgakinlaaGreat
set_option linter.unusedVariables false
set_option linter.unusedSimpArgs false
inductive Wd (n : Nat) : Pm → List Int → Prop
  | nil : Wd n Pm.one []
  | cons (q : Pm) (k : Nat) (ws : List Int) : St q k → Wd n ((Pm.s k).m q) ws → Wd n q (((k : Int) + 1) :: ws)
theorem plN_suc (k : Nat) : plN ((k : Int) + 1) = k := by unfold plN; rw [if_neg (by omega)]; omega
theorem act_suc (n : Nat) (s : Stt) (k : Nat) : actS n s ((k : Int) + 1) = (s.1, s.2 ++ [Pm.s k]) := by unfold actS; rw [if_pos (by omega), plN_suc]
theorem wd_ltr {n : Nat} {q : Pm} {ws : List Int} (h : Wd n q ws) : Fx n q → ∀ x ∈ ws, Ltr n x := by
  induction h with
  | nil => intro _ x hx; simp at hx
  | cons q k ws hs _ ih =>
    intro hq x hx
    have hk := hq.st hs
    rcases List.mem_cons.1 hx with e | e
    · rw [e]; exact ⟨by omega, by rw [plN_suc]; exact hk⟩
    · exact ih ((Fx.s hk).m hq) x e
theorem wd_sim {n : Nat} {q : Pm} {ws : List Int} (h : Wd n q ws) : Fx n q → ∀ s : Stt, AFx n s.2 → Sim n (begS n s ws) (s.1, s.2 ++ [q]) := by
  induction h with
  | nil => intro _ s hs; exact (sim_one n s.1 s.2).symm
  | cons q k ws hst _ ih =>
    intro hq s hs
    have hk := hq.st hst
    have hf := Fx.s (n := n) hk
    have hL : AFx n (s.2 ++ [Pm.s k]) := hs.app fun p hp => by simp at hp; rw [hp]; exact hf
    have h1 := ih (hf.m hq) (s.1, s.2 ++ [Pm.s k]) hL
    have e1 : begS n s (((k : Int) + 1) :: ws) = begS n (s.1, s.2 ++ [Pm.s k]) ws := by
      show begS n (actS n s ((k : Int) + 1)) ws = _
      rw [act_suc]
    rw [e1]
    have h2 : Sim n (s.1, (s.2 ++ [Pm.s k]) ++ [(Pm.s k).m q]) (s.1, (s.2 ++ [q]) ++ [Pm.one]) := Sim.of (by
      have := (letter_join hq hst).ctx s.2 []
      simpa using this)
    have hq1 : AFx n (s.2 ++ [q]) := hs.app fun p hp => by simp at hp; rw [hp]; exact hq
    have hA : AFx n ((s.2 ++ [Pm.s k]) ++ [(Pm.s k).m q]) := hL.app fun p hp => by simp at hp; rw [hp]; exact hf.m hq
    have hB : AFx n ((s.2 ++ [q]) ++ [Pm.one]) := hq1.app fun p hp => by simp at hp; rw [hp]; exact Fx.one n
    exact Sim.trans hA h1 (Sim.trans hB h2 (sim_one n s.1 (s.2 ++ [q])))
end Go.Proofs.YtpdgpgbgakinlaaGreat

namespace Go.Proofs.YtpdgpgbgakinlaaGreat
set_option maxRecDepth 100000
set_option linter.unusedVariables false
set_option linter.unusedSimpArgs false
structure Rep (n : Nat) (G : Type) where
  mul : G → G → G
  one : G
  assoc : ∀ a b c, mul (mul a b) c = mul a (mul b c)
  one_mul : ∀ a, mul one a = a
  mul_one : ∀ a, mul a one = a
  s : Nat → G
  t : Nat → G
  st : ∀ k, k + 1 < n → mul (s k) (t k) = one
  ts : ∀ k, k + 1 < n → mul (t k) (s k) = one
  far : ∀ k l, k + 1 < l → l + 1 < n → mul (s k) (s l) = mul (s l) (s k)
  near : ∀ k, k + 2 < n → mul (s k) (mul (s (k + 1)) (s k)) = mul (s (k + 1)) (mul (s k) (s (k + 1)))
/-! ### lengths -/
def Pm.inv (p : Pm) : Pm := ⟨p.g, p.f, p.gf, p.fg⟩
/-! ### a permutation's element -/
variable {n : Nat} {G : Type} (R : Rep n G)
/-! ### the half twist -/
/-! ### lists -/
/-! ### powers -/
def pw (x : G) : Nat → G
  | 0 => R.one
  | k + 1 => R.mul (pw x k) x
/-! ### states -/
end Go.Proofs.YtpdgpgbgakinlaaGreat

namespace Go.Proofs.YtpdgpgbgakinlaaGreat
set_option maxRecDepth 100000
set_option linter.unusedVariables false
set_option linter.unusedSimpArgs false
open Go.RowKit
def unitL (n : Nat) : List Int := (List.range n).map fun i : Nat => (i : Int)
theorem unitL_len (n : Nat) : (unitL n).length = n := by simp [unitL]
theorem unitL_succ (n : Nat) : unitL (n + 1) = unitL n ++ [(n : Int)] := by simp [unitL, List.range_succ]
theorem unitL_get (n i : Nat) (h : i < n) : (unitL n).getD i 0 = i := by
  simp [unitL, List.getD_eq_getElem?_getD, List.getElem?_map, h]
theorem getD_at {p : List Int} {k : Nat} (h : k < p.length) : p.getD k 0 = p[k] := by simp [List.getD_eq_getElem?_getD, h]
def backK (p : List Int) (k : Nat) : List Int := (List.range k).foldl (fun a x => a.set (p.getD x 0).toNat (x : Int)) (List.replicate p.length 0)
theorem backK_succ (p : List Int) (k : Nat) : backK p (k + 1) = (backK p k).set (p.getD k 0).toNat (k : Int) := by
  simp [backK, List.range_succ]
theorem backK_len (p : List Int) (k : Nat) : (backK p k).length = p.length := by
  induction k with
  | zero => simp [backK]
  | succ k ih => rw [backK_succ, List.length_set, ih]
def backF (p : List Int) : List Int := backK p p.length
theorem backF_len (p : List Int) : (backF p).length = p.length := backK_len _ _
set_option maxHeartbeats 1000000 in
theorem l01Unit_any (n : Nat) (w : World) (hn : n ≤ 1000000) :
    Calls Tryz.prog 157 #[.int .i64 n] w fun e w' => ∃ a c, e = .returned (.slice a n c) ∧ Own w' w.heap.size a n c (unitL n) ∧ Below w.heap.size w w' := by
  go_enter Tryz.func157, Tryz.ntmps157
  go_wp2
  go_loopw [3, 4] (fun s i wr => ∃ (k : Nat) (a : Option Addr) (m c : Nat), k ≤ n ∧ s = .slice a m c ∧ i = .int .i64 k ∧ Own wr w.heap.size a m c (unitL k) ∧ Below w.heap.size w wr) (fun _ i _ => n - (intOf i).toNat)
  case atStart => exact ⟨0, _, 0, 0, Nat.zero_le _, rfl, rfl, Own.fresh w rfl, (Below.refl _ _).alloc (Nat.le_refl _) _⟩
  case round =>
    obtain ⟨k, a, m, c, hk, rfl, rfl, ho, hb⟩ := hrel
    obtain rfl : k = m := by have := ho.len; rw [unitL_len] at this; exact this.symm
    by_cases hlt : k < n
    · have hzz := hb.size
      go_wp2_with (at_builtin; refine app1 rfl rfl ho rfl rfl (by omega) hzz ?_; intro g' c' w' hO' hg' hs' hb'; clear hg')
      go_roundw
      case rel => exact ⟨k + 1, _, _, _, by omega, rfl, by go_num, by rw [unitL_succ]; exact hO', hb.trans hb'⟩
      case measure => simp [intOf]; omega
    · obtain rfl : k = n := by omega
      go_wp2
      go_ret
      exact ⟨_, _, rfl, ho, hb⟩
set_option maxHeartbeats 1000000 in
theorem l01Back_any (a : Option Addr) (n c : Nat) (p : List Int) (w : World) (h1 : Row w a n p) (hm : n ≤ 1000000) (hp : ∀ x ∈ p, 0 ≤ x ∧ x < n) :
    Calls Tryz.prog 142 #[.slice a n c] w fun e w' => ∃ a' c', e = .returned (.slice a' n c') ∧ Own w' w.heap.size a' n c' (backF p) ∧ Below w.heap.size w w' := by
  have hl := h1.len
  have HP := Lib.hid hp; clear hp
  have HL := Lib.hid hl; clear hl
  go_enter Tryz.func142, Tryz.ntmps142
  go_wp2_with (at_make; refine make1 rfl rfl rfl rfl (by omega) ?_; intro w1 ho hs hb)
  go_loopw [4] (fun i wr => ∃ (k : Nat), k ≤ n ∧ i = .int .i64 k ∧ Own wr w.heap.size (some ⟨w.heap.size, 0, none⟩) n n (backK p k) ∧ Below w.heap.size w wr) (fun i _ => n - (intOf i).toNat)
  case atStart => exact ⟨0, Nat.zero_le _, rfl, by have e := HL.out; rw [e] at ho; simpa [backK, ← e] using ho, hb⟩
  case round =>
    clear ho hb
    obtain ⟨k, hk, rfl, ho, hb⟩ := hrel
    have hr := h1.below hb
    by_cases hlt : k < n
    · obtain ⟨b, off, rfl, g1⟩ := hr.at k hlt
      have hx : k < p.length := by have := HL.out; omega
      obtain ⟨x, hxx⟩ : ∃ x : Nat, p.getD k 0 = x := ⟨(p.getD k 0).toNat, by
        have h := HP.out p[k] (List.getElem_mem hx)
        rw [getD_at hx]; omega⟩
      have hxn : x < n := by
        have h := HP.out p[k] (List.getElem_mem hx)
        rw [getD_at hx] at hxx; omega
      rw [hxx] at g1
      have hs := ho.set x k
      have e : backK p (k + 1) = (backK p k).set x (k : Int) := by rw [backK_succ, hxx]; rfl
      rw [← e] at hs
      have hcf := ho.cells.2.2 x
      have hcc := ho.cells.2.1 x hxn
      have HS := Lib.hid hs; clear hs e hxx
      clear h1
      go_wp2
      go_roundw
      case rel => exact ⟨k + 1, by omega, by go_num, HS.out, hb.setCell (by simp) _⟩
      case measure => simp [intOf]; omega
    · obtain rfl : k = n := by omega
      go_wp2
      go_ret
      have e : backF p = backK p k := by unfold backF; rw [← HL.out]
      rw [← e] at ho
      exact ⟨_, _, rfl, ho, hb⟩
end Go.Proofs.YtpdgpgbgakinlaaGreat

namespace Go.Proofs.YtpdgpgbgakinlaaGreat
set_option linter.unusedVariables false
set_option linter.unusedSimpArgs false
set_option maxRecDepth 100000
open Go.ChangeShapes Go.WideShapes Go.ChangeAt Go.RowKit Go.Joins
theorem ownK : ownKnob Tryz.prog.godebug = none := by kernel_rfl
theorem laidOut : laidOutB Tryz.prog = true := by kernel_rfl
def I64 (x : Int) : Prop := -9223372036854775808 ≤ x ∧ x ≤ 9223372036854775807
def I64s (xs : List Int) : Prop := ∀ x ∈ xs, I64 x
end Go.Proofs.YtpdgpgbgakinlaaGreat

namespace Go.Proofs.YtpdgpgbgakinlaaGreat
set_option maxRecDepth 100000
set_option linter.unusedVariables false
set_option linter.unusedSimpArgs false
open Go.RowKit
def idxI (p : Int → Bool) (xs : List Int) : Int := match xs.findIdx? p with | some i => (i : Int) | none => -1
theorem idxI_hit {p : Int → Bool} {xs : List Int} {k : Nat} (hk : k < xs.length) (h1 : (xs.take k).all (fun x => !p x) = true) (h2 : p xs[k] = true) : idxI p xs = k := by
  have : xs.findIdx? p = some k := by
    rw [List.findIdx?_eq_some_iff_getElem]
    refine ⟨hk, h2, fun j hj => ?_⟩
    have hj' : j < xs.length := by omega
    rw [List.all_eq_true] at h1
    have := h1 xs[j] (by rw [List.mem_take_iff_getElem]; exact ⟨j, by omega, rfl⟩)
    simpa using this
  simp [idxI, this]
theorem idxI_miss {p : Int → Bool} {xs : List Int} (h1 : xs.all (fun x => !p x) = true) : idxI p xs = -1 := by
  have : xs.findIdx? p = none := by
    rw [List.findIdx?_eq_none_iff]
    intro x hx
    rw [List.all_eq_true] at h1
    simpa using h1 x hx
  simp [idxI, this]
theorem idxI_any (p : Int → Bool) (xs : List Int) : decide (0 ≤ idxI p xs) = xs.any p := by
  unfold idxI
  cases h : xs.findIdx? p with
  | none => rw [List.findIdx?_eq_none_iff] at h; simp; intro x hx; simpa using h x hx
  | some i =>
    rw [List.findIdx?_eq_some_iff_getElem] at h
    obtain ⟨hi, hp, _⟩ := h
    have : xs.any p = true := List.any_eq_true.2 ⟨xs[i], List.getElem_mem hi, hp⟩
    simp [this]
set_option maxHeartbeats 400000 in
theorem idxFunc_inv (Inv : World → Prop) (f : FuncId) (caps : Array Value) (p : Int → Bool) (a : Option Addr) (n c : Nat) (xs : List Int) (w : World) (hI : Inv w) (h1 : ∀ w1, Inv w1 → Row w1 a n xs) (hm : n ≤ 9223372036854775807)
    (hcf : Ent f) (hf : ∀ x ∈ xs, ∀ w1, Inv w1 → Calls Tryz.prog f (#[.int .i64 x] ++ caps) w1 fun e w' => e = .returned (.bool (p x)) ∧ Inv w') :
    Calls Tryz.prog 132 #[.slice a n c, .func (.func f) #[] caps] w fun e w' => e = .returned (.int .i64 (idxI p xs)) ∧ Inv w' := by
  have hcf' : ∀ (args : Array Value) (w : World), (callFunc f args).run Tryz.prog w = .ok (.enter f args) w := hcf
  have HF := Lib.hid hf; clear hf
  have hl := (h1 w hI).len
  have HL := Lib.hid hl; clear hl
  have H1 := Lib.hid h1; clear h1
  have HI := Lib.hid hI; clear hI
  go_enter Tryz.func132, Tryz.ntmps132
  go_wp2
  go_loopw [8] (fun i wr => ∃ k : Nat, k ≤ n ∧ i = .int .i64 k ∧ Hid ((xs.take k).all (fun x => !p x) = true) ∧ Hid (Inv wr)) (fun i _ => n - (intOf i).toNat)
  case atStart => exact ⟨0, Nat.zero_le _, rfl, by simp [Hid], HI⟩
  case round =>
    obtain ⟨k, hk, rfl, hall, hi⟩ := hrel
    by_cases hlt : k < n
    · obtain ⟨b, off, rfl, g1⟩ := (H1.out wr hi.out).at k hlt
      have hx : k < xs.length := by have := HL.out; omega
      have hc := HF.out xs[k] (List.getElem_mem hx) wr hi.out
      by_cases hp : p xs[k] = true
      · rw [hp] at hc
        have HC := Lib.hid hc; clear hc
        have HP := Lib.hid hp; clear hp
        go_wp2_with fail
        refine HC.out.mono ?_
        rintro e w' ⟨rfl, hi'⟩
        have HI' := Lib.hid hi'; clear hi'
        go_wp2
        go_ret
        exact ⟨ret_int (idxI_hit hx hall HP.out).symm, HI'.out⟩
      · have hp : p xs[k] = false := by simpa using hp
        rw [hp] at hc
        have HC := Lib.hid hc; clear hc
        have HP := Lib.hid hp; clear hp
        go_wp2_with fail
        refine HC.out.mono ?_
        rintro e w' ⟨rfl, hi'⟩
        have HI' := Lib.hid hi'; clear hi'
        go_wp2
        go_roundw
        case rel =>
          refine ⟨k + 1, by omega, by go_num, ?_, HI'⟩
          show ((xs.take (k + 1)).all (fun x => !p x)) = true
          have ha : (xs.take k).all (fun x => !p x) = true := hall
          rw [List.take_succ_eq_append_getElem hx, List.all_append, ha]; simp [HP.out]
        case measure => simp [intOf]; omega
    · obtain rfl : k = n := by omega
      go_wp2
      go_ret
      have ha : (xs.take k).all (fun x => !p x) = true := hall
      rw [List.take_of_length_le (by have := HL.out; omega)] at ha
      exact ⟨ret_int (idxI_miss ha).symm, hi.out⟩
set_option maxHeartbeats 400000 in
theorem containsFunc_inv (Inv : World → Prop) (f : FuncId) (caps : Array Value) (p : Int → Bool) (a : Option Addr) (n c : Nat) (xs : List Int) (w : World) (hI : Inv w) (h1 : ∀ w1, Inv w1 → Row w1 a n xs) (hm : n ≤ 9223372036854775807)
    (hcf : Ent f) (hf : ∀ x ∈ xs, ∀ w1, Inv w1 → Calls Tryz.prog f (#[.int .i64 x] ++ caps) w1 fun e w' => e = .returned (.bool (p x)) ∧ Inv w') :
    Calls Tryz.prog 84 #[.slice a n c, .func (.func f) #[] caps] w fun e w' => e = .returned (.bool (xs.any p)) ∧ Inv w' := by
  have HF := Lib.hid hf; clear hf
  have H1 := Lib.hid h1; clear h1
  have HI := Lib.hid hI; clear hI
  go_enter Tryz.func84, Tryz.ntmps84
  go_wp2_with fail
  refine (idxFunc_inv Inv f caps p _ _ _ xs _ HI.out H1.out hm hcf HF.out).mono ?_
  rintro e w' ⟨rfl, hi'⟩
  have HI' := Lib.hid hi'; clear hi'
  go_wp2
  go_ret
  exact ⟨ret_bool (idxI_any p xs), HI'.out⟩
theorem containsFunc_ints (f : FuncId) (caps : Array Value) (p : Int → Bool) (a : Option Addr) (n c : Nat) (xs : List Int) (w : World) (h1 : Row w a n xs) (hm : n ≤ 9223372036854775807)
    (hcf : Ent f) (hf : ∀ x ∈ xs, Calls Tryz.prog f (#[.int .i64 x] ++ caps) w fun e w' => e = .returned (.bool (p x)) ∧ w = w') :
    Calls Tryz.prog 84 #[.slice a n c, .func (.func f) #[] caps] w fun e w' => e = .returned (.bool (xs.any p)) ∧ w = w' :=
  containsFunc_inv (w = ·) f caps p a n c xs w rfl (fun w1 h => h ▸ h1) hm hcf (fun x hx w1 h => h ▸ hf x hx)
end Go.Proofs.YtpdgpgbgakinlaaGreat

namespace Go.Proofs.YtpdgpgbgakinlaaGreat
set_option maxRecDepth 100000
set_option linter.unusedVariables false
set_option linter.unusedSimpArgs false
open Go.RowKit
def isLet (s x : Int) : Bool := decide (x ≠ 0) && (decide (wrap64 (1 - s) ≤ x) && decide (x ≤ wrap64 (s - 1)))
def isBr (s : Int) (xs : List Int) : Bool := (decide (2 ≤ s) && decide (s ≤ 6)) && decide (xs.length ≤ 30) && xs.all (isLet s)
theorem isLetter_any (s x : Int) (w : World) (h1 : 2 ≤ s) (h2 : s ≤ 6) :
    Calls Tryz.prog 86 #[.int .i64 s, .int .i64 x] w fun e w' => e = .returned (.bool (isLet s x)) ∧ w = w' := by
  have e1 : wrap64 (1 - s) = 1 - s := IntWalk.wrap64_in _ ⟨by omega, by omega⟩
  have e2 : wrap64 (s - 1) = s - 1 := IntWalk.wrap64_in _ ⟨by omega, by omega⟩
  by_cases h : x = 0
  · subst h
    go_enter Tryz.func86, Tryz.ntmps86
    go_wp2_with (go_at_call 71; refine (within_any _ _ _ _).mono ?_; rintro e w' ⟨rfl, rfl⟩)
    go_ret
    exact ⟨ret_bool (by simp [isLet]), rfl⟩
  · have hb : (x != 0) = true := by simpa using h
    have HE1 := Lib.hid e1; have HE2 := Lib.hid e2; clear e1 e2
    have hr : isLet s x = (decide (1 - s ≤ x) && decide (x ≤ s - 1)) := by unfold isLet; rw [HE1.out, HE2.out]; simp [h]
    rw [hr]
    clear h
    go_enter Tryz.func86, Tryz.ntmps86
    go_wp2_with (go_at_call 71; refine (within_any _ _ _ _).mono ?_; rintro e w' ⟨rfl, rfl⟩)
    go_ret
    exact ⟨rfl, rfl⟩
theorem isBr_no {s : Int} {xs : List Int} {k : Nat} (hx : k < xs.length) (h : isLet s xs[k] = false) : isBr s xs = false := by
  have : xs.all (isLet s) = false := by
    rw [List.all_eq_false]; exact ⟨xs[k], List.getElem_mem hx, by simp [h]⟩
  simp [isBr, this]
theorem all_succ {f : Int → Bool} {xs : List Int} {k : Nat} (hx : k < xs.length) (h1 : (xs.take k).all f = true) (h2 : f xs[k] = true) : (xs.take (k + 1)).all f = true := by
  rw [List.take_succ_eq_append_getElem hx, List.all_append, h1]; simp [h2]
set_option maxHeartbeats 1000000 in
theorem l16Is_any (s : Int) (a : Option Addr) (n c : Nat) (xs : List Int) (w : World) (h1 : Row w a n xs) (hm : n ≤ 9223372036854775807) (hs : I64 s) :
    Calls Tryz.prog 47 #[bAgg s a n c] w fun e w' => e = .returned (.bool (isBr s xs)) ∧ Below w.heap.size w w' := by
  obtain ⟨hs1, hs2⟩ := hs
  go_enter Tryz.func47, Tryz.ntmps47
  go_wp2
  have hL : Loc (w.alloc (.cells #[.int .i64 s, .slice a n c] 29)) w.heap.size _ _ := Loc.new _ rfl _ _
  obtain ⟨W, hW⟩ : ∃ W, W = w.alloc (.cells #[.int .i64 s, .slice a n c] 29) := ⟨_, rfl⟩
  rw [← hW] at hL ⊢
  have hB : Below w.heap.size w W := hW ▸ (Below.refl _ _).alloc (Nat.le_refl _) _
  have hr := h1.below hB
  have hLL := hL.two
  clear hW h1
  have hl := hr.len
  have HL := Lib.hid hl; clear hl
  go_loopw [3] (fun i wr => ∃ k : Nat, k ≤ n ∧ i = .int .i64 k ∧ (xs.take k).all (isLet s) = true ∧ ∃ m, wr = W.drewN m) (fun i _ => n - (intOf i).toNat)
  case atStart => exact ⟨0, Nat.zero_le _, rfl, by simp, 0, rfl⟩
  case round =>
    obtain ⟨k, hk, rfl, hall, m, rfl⟩ := hrel
    have HA := Lib.hid hall; clear hall
    by_cases hlt : k < n
    · obtain ⟨b, off, rfl, g1⟩ := hr.at k hlt
      have hx : k < xs.length := by have := HL.out; omega
      clear hr
      by_cases h0 : xs[k] = 0
      · have hb : (xs[k] == 0) = true := by simpa using h0
        have H0 := Lib.hid h0; clear h0
        go_wp2
        go_quiet (fail)
        go_wp2
        go_ret
        exact ⟨ret_bool (isBr_no hx (by simp [isLet, H0.out])).symm, below_drewN (below_drewN hB _) _⟩
      · have hb : (xs[k] == 0) = false := by simpa using h0
        have hq : isLet s xs[k] = (decide (wrap64 (1 - s) ≤ xs[k]) && decide (xs[k] ≤ wrap64 (s - 1))) := by simp [isLet, h0]
        clear h0
        by_cases h2 : (decide (wrap64 (1 - s) ≤ xs[k]) && decide (xs[k] ≤ wrap64 (s - 1))) = true
        · have hq2 := hq.trans h2
          have HQ := Lib.hid hq2; clear hq hq2
          have hc : ∀ w', Calls Tryz.prog 96 #[.int .i64 xs[k], .int .i64 (wrap64 (1 - s)), .int .i64 (wrap64 (s - 1))] w' fun e w'' => e = .returned (.bool true) ∧ w'' = w' := fun w' => (l01In_any _ _ _ _).mono fun e w'' ⟨he, hw⟩ => ⟨he.trans (ret_bool h2), hw.symm⟩
          have HC := Lib.hid hc; clear hc h2
          go_wp2
          go_quiet ((go_at_call 96; exact quiet_same2 (HC.out _)))
          go_wp2
          go_roundw
          case rel => exact ⟨k + 1, by omega, by go_num, all_succ hx HA.out HQ.out, _, rfl⟩
          case measure => simp [intOf]; omega
        · have h2 : (decide (wrap64 (1 - s) ≤ xs[k]) && decide (xs[k] ≤ wrap64 (s - 1))) = false := by simpa using h2
          have hq2 := hq.trans h2
          have HQ := Lib.hid hq2; clear hq hq2
          have hc : ∀ w', Calls Tryz.prog 96 #[.int .i64 xs[k], .int .i64 (wrap64 (1 - s)), .int .i64 (wrap64 (s - 1))] w' fun e w'' => e = .returned (.bool false) ∧ w'' = w' := fun w' => (l01In_any _ _ _ _).mono fun e w'' ⟨he, hw⟩ => ⟨he.trans (ret_bool h2), hw.symm⟩
          have HC := Lib.hid hc; clear hc h2
          go_wp2
          go_quiet ((go_at_call 96; exact quiet_same2 (HC.out _)))
          go_wp2
          go_ret
          exact ⟨ret_bool (isBr_no hx HQ.out).symm, below_drewN (below_drewN hB _) _⟩
    · obtain rfl : k = n := by omega
      have hall := HA.out
      rw [List.take_of_length_le (by have := HL.out; omega)] at hall
      have HA2 := Lib.hid hall; clear hall
      have hf : isBr s xs = ((decide (2 ≤ s) && decide (s ≤ 6)) && decide (xs.length ≤ 30)) := by simp [isBr, HA2.out]
      have HF := Lib.hid hf; clear hf
      have hcc : ∀ w', Calls Tryz.prog 96 #[.int .i64 s, .int .i64 2, .int .i64 6] w' fun e w'' => e = .returned (.bool (decide (2 ≤ s) && decide (s ≤ 6))) ∧ w'' = w' := fun w' => (l01In_any _ _ _ _).mono fun e w'' ⟨he, hw⟩ => ⟨he, hw.symm⟩
      by_cases h26 : (decide (2 ≤ s) && decide (s ≤ 6)) = true
      · rw [h26] at hcc
        have HC := Lib.hid hcc; have H26 := Lib.hid h26; clear hcc h26
        go_wp2_with fail
        refine (HC.out _).mono ?_
        rintro e w' ⟨rfl, rfl⟩
        go_wp2
        go_ret
        exact ⟨ret_bool (by rw [HF.out, H26.out, ← HL.out]; simp; omega), below_drewN hB _⟩
      · have h26 : (decide (2 ≤ s) && decide (s ≤ 6)) = false := by simpa using h26
        rw [h26] at hcc
        have HC := Lib.hid hcc; have H26 := Lib.hid h26; clear hcc h26
        go_wp2_with fail
        refine (HC.out _).mono ?_
        rintro e w' ⟨rfl, rfl⟩
        go_wp2
        go_ret
        exact ⟨ret_bool (by rw [HF.out, H26.out]; simp), below_drewN hB _⟩
theorem isBraid1_any (s x : Int) (b : Nat) (v : Value) (t : TypeId) (w : World) (h1 : 2 ≤ s) (h2 : s ≤ 6) (hL : Loc w b #[.int .i64 s, v] t) :
    Calls Tryz.prog 85 #[.int .i64 x, .pointer (some ⟨b, 0, none⟩)] w fun e w' => e = .returned (.bool (!isLet s x)) ∧ w = w' := by
  have hc := hL.two
  go_enter Tryz.func85, Tryz.ntmps85
  go_wp2_with fail
  refine (isLetter_any _ _ _ h1 h2).mono ?_
  rintro e w' ⟨rfl, rfl⟩
  go_wp2
  go_ret
  exact ⟨rfl, rfl⟩
theorem ent_isBraid1 : Ent 85 := fun _ _ => rfl
set_option maxHeartbeats 1000000 in
theorem isBraid_any (s : Int) (a : Option Addr) (n c : Nat) (xs : List Int) (w : World) (h1 : Row w a n xs) (hm : n ≤ 9223372036854775807) :
    Calls Tryz.prog 41 #[bAgg s a n c] w fun e w' => e = .returned (.bool (isBr s xs)) ∧ Below w.heap.size w w' := by
  have hl := h1.len
  by_cases h26 : (decide (2 ≤ s) && decide (s ≤ 6)) = true
  · have h26' : 2 ≤ s ∧ s ≤ 6 := by simpa using h26
    have hcc : ∀ w', Calls Tryz.prog 71 #[.int .i64 s, .int .i64 2, .int .i64 6] w' fun e w'' => e = .returned (.bool true) ∧ w' = w'' := fun w' => by rw [← h26]; exact within_any _ _ _ _
    have HC := Lib.hid hcc; clear hcc
    obtain ⟨h2, h6⟩ := h26'
    by_cases hn : n ≤ 30
    · have hq : isBr s xs = xs.all (isLet s) := by
        unfold isBr; rw [h26, ← hl]; simp [hn]
      have HQ := Lib.hid hq; have H26 := Lib.hid h26; have HL := Lib.hid hl; clear hq h26 hl
      have hcl : ∀ x ∈ xs, Calls Tryz.prog 85 (#[.int .i64 x] ++ #[.pointer (some ⟨w.heap.size, 0, none⟩)]) (w.alloc (.cells #[.int .i64 s, .slice a n c] 29)) fun e w' => e = .returned (.bool (!isLet s x)) ∧ w.alloc (.cells #[.int .i64 s, .slice a n c] 29) = w' := fun x _ => by
        rw [show (#[Value.int .i64 x] ++ #[Value.pointer (some ⟨w.heap.size, 0, none⟩)] : Array Value) = #[.int .i64 x, .pointer (some ⟨w.heap.size, 0, none⟩)] from rfl]
        exact isBraid1_any s x _ _ _ _ h2 h6 (Loc.new _ rfl _ _)
      have HCL := Lib.hid hcl; clear hcl
      go_enter Tryz.func41, Tryz.ntmps41
      go_wp2_with fail
      refine (HC.out _).mono ?_
      rintro e w' ⟨rfl, rfl⟩
      go_wp2_with fail
      refine (containsFunc_ints 85 _ (fun x => !isLet s x) _ _ _ xs _ (h1.alloc _) hm ent_isBraid1 HCL.out).mono ?_
      rintro e w' ⟨rfl, rfl⟩
      go_wp2
      go_ret
      refine ⟨ret_bool ?_, (Below.refl _ _).alloc (Nat.le_refl _) _⟩
      rw [HQ.out]
      simp [List.any_eq_not_all_not]
    · have hq : isBr s xs = false := by
        unfold isBr; rw [← hl]; simp [hn]
      have HQ := Lib.hid hq; have H26 := Lib.hid h26; have HL := Lib.hid hl; clear hq h26 hl
      go_enter Tryz.func41, Tryz.ntmps41
      go_wp2_with fail
      refine (HC.out _).mono ?_
      rintro e w' ⟨rfl, rfl⟩
      go_wp2
      go_ret
      exact ⟨ret_bool HQ.out.symm, (Below.refl _ _).alloc (Nat.le_refl _) _⟩
  · have h26 : (decide (2 ≤ s) && decide (s ≤ 6)) = false := by simpa using h26
    have hcc : ∀ w', Calls Tryz.prog 71 #[.int .i64 s, .int .i64 2, .int .i64 6] w' fun e w'' => e = .returned (.bool false) ∧ w' = w'' := fun w' => by rw [← h26]; exact within_any _ _ _ _
    have HC := Lib.hid hcc; clear hcc
    have hq : isBr s xs = false := by unfold isBr; rw [h26]; simp
    have HQ := Lib.hid hq; clear hq h26 hl
    go_enter Tryz.func41, Tryz.ntmps41
    go_wp2_with fail
    refine (HC.out _).mono ?_
    rintro e w' ⟨rfl, rfl⟩
    go_wp2
    go_ret
    exact ⟨ret_bool HQ.out.symm, (Below.refl _ _).alloc (Nat.le_refl _) _⟩
theorem isBr_let {s : Int} {xs : List Int} (h : isBr s xs = true) : (2 ≤ s ∧ s ≤ 6) ∧ xs.length ≤ 30 ∧ ∀ x ∈ xs, x ≠ 0 ∧ 1 - s ≤ x ∧ x ≤ s - 1 := by
  simp only [isBr, Bool.and_eq_true, decide_eq_true_eq, List.all_eq_true] at h
  obtain ⟨⟨h1, h2⟩, h3⟩ := h
  have e1 : wrap64 (1 - s) = 1 - s := IntWalk.wrap64_in _ ⟨by omega, by omega⟩
  have e2 : wrap64 (s - 1) = s - 1 := IntWalk.wrap64_in _ ⟨by omega, by omega⟩
  refine ⟨h1, h2, fun x hx => ?_⟩
  have := h3 x hx
  simp only [isLet, Bool.and_eq_true, decide_eq_true_eq, e1, e2] at this
  exact this
end Go.Proofs.YtpdgpgbgakinlaaGreat

namespace Go.Proofs.YtpdgpgbgakinlaaGreat
set_option maxRecDepth 100000
set_option linter.unusedVariables false
set_option linter.unusedSimpArgs false
open Go.RowKit
def IsPf (n : Nat) (p : List Int) (f g : Nat → Nat) : Prop := p.length = n ∧ (∀ i, i < n → f i < n ∧ g i < n ∧ f (g i) = i ∧ g (f i) = i) ∧ ∀ i, i < n → p.getD i 0 = (f i : Int)
def IsP (n : Nat) (p : List Int) : Prop := ∃ f g, IsPf n p f g
theorem IsP.len {n : Nat} {p : List Int} (h : IsP n p) : p.length = n := by obtain ⟨f, g, h, _⟩ := h; exact h
theorem IsP.mem {n : Nat} {p : List Int} (h : IsP n p) : ∀ x ∈ p, 0 ≤ x ∧ x < n := by
  obtain ⟨f, g, hl, h1, h2⟩ := h
  intro x hx
  obtain ⟨i, hi, rfl⟩ := List.getElem_of_mem hx
  have := h2 i (by omega)
  rw [getD_at hi] at this
  have := (h1 i (by omega)).1
  omega
theorem unit_isP (n : Nat) : IsP n (unitL n) := ⟨id, id, unitL_len n, fun i h => ⟨h, h, rfl, rfl⟩, fun i h => unitL_get n i h⟩
theorem getD_setz (xs : List Int) (j i : Nat) (x : Int) (h : i < xs.length) : (xs.set j x).getD i 0 = if i = j then x else xs.getD i 0 := by
  simp only [List.getD_eq_getElem?_getD, List.getElem?_set]
  by_cases e : i = j
  · subst e; simp [h]
  · rw [if_neg e, if_neg (fun h => e h.symm)]
theorem plc_let {s x : Int} (h : x ≠ 0 ∧ 1 - s ≤ x ∧ x ≤ s - 1) : 0 ≤ plc x ∧ plc x + 1 < s := by
  unfold plc; split <;> omega
theorem backK_get (n : Nat) (p : List Int) (f g : Nat → Nat) (h : IsPf n p f g) (k : Nat) (hk : k ≤ n) : ∀ i, i < n → (backK p k).getD i 0 = if g i < k then (g i : Int) else 0 := by
  obtain ⟨hl, h1, h2⟩ := h
  induction k with
  | zero => intro i hi; simp [backK, List.getD_eq_getElem?_getD]; simp [List.getElem?_replicate]; split <;> rfl
  | succ k ih =>
    intro i hi
    rw [backK_succ, getD_setz _ _ _ _ (by rw [backK_len]; omega), h2 k (by omega), ih (by omega) i hi]
    have ht : ((f k : Nat) : Int).toNat = f k := by simp
    rw [ht]
    by_cases e : i = f k
    · subst e
      rw [if_pos rfl, (h1 k (by omega)).2.2.2, if_pos (by omega)]
    · rw [if_neg e]
      have : g i ≠ k := fun hh => e (by rw [← hh]; exact ((h1 i hi).2.2.1).symm)
      by_cases hc : g i < k
      · rw [if_pos hc, if_pos (by omega)]
      · rw [if_neg hc, if_neg (by omega)]
theorem back_isP {n : Nat} {p : List Int} (h : IsP n p) : IsP n (backF p) := by
  obtain ⟨f, g, hp⟩ := h
  have hb := backK_get n p f g hp n (Nat.le_refl _)
  obtain ⟨hl, h1, h2⟩ := hp
  refine ⟨g, f, by rw [backF_len]; exact hl, fun i hi => ⟨(h1 i hi).2.1, (h1 i hi).1, (h1 i hi).2.2.2, (h1 i hi).2.2.1⟩, fun i hi => ?_⟩
  unfold backF; rw [hl, hb i hi, if_pos (h1 i hi).2.1]
end Go.Proofs.YtpdgpgbgakinlaaGreat

namespace Go.Proofs.YtpdgpgbgakinlaaGreat
set_option maxRecDepth 100000
set_option linter.unusedVariables false
set_option linter.unusedSimpArgs false
open Go.RowKit
def thL (p q : List Int) : List Int := p.map fun x => q.getD x.toNat 0
theorem thL_len (p q : List Int) : (thL p q).length = p.length := by simp [thL]
theorem thL_succ (p q : List Int) {k : Nat} (h : k < p.length) : thL (p.take (k + 1)) q = thL (p.take k) q ++ [q.getD p[k].toNat 0] := by
  simp only [thL, List.take_succ_eq_append_getElem h, List.map_append, List.map_cons, List.map_nil]
set_option maxHeartbeats 2000000 in
theorem l01Then_any (a1 a2 : Option Addr) (n m c1 c2 : Nat) (p q : List Int) (w : World) (h1 : Row w a1 n p) (h2 : Row w a2 m q) (hm : n ≤ 1000000) (hp : ∀ x ∈ p, 0 ≤ x ∧ x < m) :
    Calls Tryz.prog 144 #[.slice a1 n c1, .slice a2 m c2] w fun e w' => ∃ a' c', e = .returned (.slice a' n c') ∧ Own w' w.heap.size a' n c' (thL p q) ∧ Below w.heap.size w w' := by
  have HL := Lib.hid h1.len; have HP := Lib.hid hp
  clear hp
  go_enter Tryz.func144, Tryz.ntmps144
  go_wp2
  go_loopw [5, 6] (fun s i wr => ∃ (k : Nat) (a' : Option Addr) (c' : Nat), k ≤ n ∧ i = .int .i64 k ∧ s = .slice a' k c' ∧ Own wr w.heap.size a' k c' (thL (p.take k) q) ∧ Below w.heap.size w wr) (fun _ i _ => n - (intOf i).toNat)
  case atStart => exact ⟨0, _, _, Nat.zero_le _, rfl, rfl, Own.fresh w rfl, below_al (Below.refl _ _) _⟩
  case round =>
    obtain ⟨k, a', c', hk, rfl, rfl, ho, hq⟩ := hrel
    by_cases hlt : k < n
    · have hx : k < p.length := by have := HL.out; omega
      obtain ⟨b1, o1, rfl, g1⟩ := (h1.below hq).at k hlt
      rw [getD_at hx] at g1
      have hv := HP.out p[k] (List.getElem_mem hx)
      obtain ⟨v, hve⟩ : ∃ v : Nat, p[k] = v := ⟨p[k].toNat, by omega⟩
      have HST := Lib.hid (thL_succ p q hx)
      rw [hve] at g1 hv HST
      rw [Int.toNat_natCast] at HST
      have hvm : v < m := by omega
      obtain ⟨b2, o2, rfl, g2⟩ := (h2.below hq).at v hvm
      obtain ⟨V, HV⟩ : ∃ V, Hid (q.getD v 0 = V) := ⟨_, rfl⟩
      rw [HV.out] at g2 HST
      have i1 : (0 : Int) ≤ (v : Int) := by omega
      have i2 : (v : Int) < (m : Int) := by omega
      have hwq := hq.size
      clear hve
      go_wp2_with (at_builtin; refine app1 rfl rfl ho rfl rfl (by omega) hwq ?_; intro g' cc w8 hO hg8 hs8 hb8)
      go_roundw
      case rel => exact ⟨k + 1, _, cc, by omega, by go_num, rfl, by rw [HST.out]; exact hO, hq.trans hb8⟩
      case measure => simp [intOf]; omega
    · obtain rfl : k = n := by omega
      go_wp2
      go_ret
      have e : p.take k = p := List.take_of_length_le (by have := HL.out; omega)
      rw [e] at ho
      exact ⟨_, _, rfl, ho, hq⟩
def cjL (x y : List Int) : List Int := thL (thL (backF x) y) x
theorem thL_mem {p q : List Int} {n : Nat} (hp : ∀ x ∈ p, 0 ≤ x ∧ x < q.length) (hq : ∀ x ∈ q, 0 ≤ x ∧ x < n) : ∀ x ∈ thL p q, 0 ≤ x ∧ x < n := by
  intro x hx
  obtain ⟨y, hy, rfl⟩ := List.mem_map.1 hx
  have := hp y hy
  have hl : y.toNat < q.length := by omega
  rw [getD_at hl]
  exact hq _ (List.getElem_mem hl)
end Go.Proofs.YtpdgpgbgakinlaaGreat
