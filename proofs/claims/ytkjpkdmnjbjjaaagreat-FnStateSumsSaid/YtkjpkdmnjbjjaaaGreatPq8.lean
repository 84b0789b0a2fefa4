/-
  Walks and plain laws of this seat, some texts in one.
  No condition but bounds on lengths.
-/
import Derived.Test.YtkjpkdmnjbjjaaaGreatPq6
import Derived.Test.YtkjpkdmnjbjjaaaGreatPq7
import Derived.Test.YtkjpkdmnjbjjaaaGreatPq3
import Derived.Test.YtkjpkdmnjbjjaaaGreatPq5
import Derived.Test.YtkjpkdmnjbjjaaaGreatPq2
import Derived.Deep.RegionHeld3
import Derived.Deep.LoopGhost
import Derived.Test.YtkjpkdmnjbjjaaaGreatPq4
import Derived.Sort.LoopGhostIn
import Derived.RangeFuncNested
import Derived.RangeFuncBound
import Derived.RangeFuncCalls
import Derived.RangeFuncLeaves
import Derived.OwnWalkIn
import Derived.TacticsInMore
import Derived.LoopNIn
import Derived.LoopIn
import Derived.Test.YtkjpkdmnjbjjaaaGreatPq1
import Derived.BigRegion
import Derived.ChangeMaps5
namespace Go.Proofs.YtkjpkdmnjbjjaaaGreat
set_option maxRecDepth 100000
set_option linter.unusedVariables false
set_option linter.unusedSimpArgs false
open Go.RowKit
theorem rowOk_len {n m : Int} {xs : List Int} (h : (xs.length : Int) ≠ n) : rowOk n m xs = false := by unfold rowOk; simp [h]
theorem rowOk_mk {n m : Int} {xs : List Int} (h : (xs.length : Int) = n) : rowOk n m xs = xs.all (rngB 0 (m - 1)) := by unfold rowOk; simp [h]
set_option maxHeartbeats 2000000 in
theorem l01Table_any (a : Option Addr) (n c : Nat) (t : List (List Int)) (w : World) (h1 : Tbl w a n t) (hm : n ≤ 9223372036854775807) :
    Calls Tryz.prog 176 #[.slice a n c] w fun e w' => e = .returned (.bool (isTab t)) ∧ w = w' := by
  have hl := h1.len
  cases hp : rngB 1 12 n with
  | false =>
    have hq : isTab t = false := by unfold isTab; rw [← hl, hp]; rfl
    have HQ := Lib.hid hq
    have HC := Lib.hid (fun w => l01In_b n 1 12 false hp w); clear hp hl hq
    go_enter Tryz.func176, Tryz.ntmps176
    go_wp2_with fail
    refine (HC.out _).mono ?_
    rintro e w' ⟨rfl, rfl⟩
    go_wp2
    go_ret
    exact ⟨ret_bool HQ.out.symm, rfl⟩
  | true =>
    have hn12 : 1 ≤ n ∧ n ≤ 12 := by unfold rngB at hp; simp at hp; omega
    obtain ⟨hn1, hn12⟩ := hn12
    have HC := Lib.hid (fun w => l01In_b n 1 12 true hp w)
    have hq : isTab t = t.all (rowOk n n) := by unfold isTab; rw [← hl, hp]; rfl
    have HQ := Lib.hid hq; have HL := Lib.hid hl; clear hq hl hp
    go_enter Tryz.func176, Tryz.ntmps176
    go_wp2_with fail
    refine (HC.out _).mono ?_
    rintro e w' ⟨rfl, rfl⟩
    go_wp2
    go_loop [4] (fun i => ∃ k : Nat, k ≤ n ∧ i = .int .i64 k ∧ Hid ((t.take k).all (rowOk n n) = true)) (fun i => n - (intOf i).toNat)
    case atStart => exact ⟨0, Nat.zero_le _, rfl, Lib.hid (by simp)⟩
    case round =>
      obtain ⟨k, hk, rfl, hall⟩ := hrel
      by_cases hlt : k < n
      · obtain ⟨b, off, ai, ni, ci, rfl, g1, hri, hni⟩ := h1.at k hlt
        have hx : k < t.length := by have := HL.out; omega
        rw [Tbl.getD hx] at hri
        have hll := hri.len
        by_cases hnn : ni = n
        · subst hnn
          have b1 : ((ni : Int) != (ni : Int)) = false := by simp
          have HR : Hid (rowOk ni ni t[k] = t[k].all (rngB 0 ((ni : Int) - 1))) := Lib.hid (rowOk_mk (by omega))
          have HLL := Lib.hid hll; clear hll
          go_wp2
          go_loop [5] (fun i => ∃ j : Nat, j ≤ ni ∧ i = .int .i64 j ∧ Hid ((t[k].take j).all (rngB 0 ((ni : Int) - 1)) = true)) (fun i => ni - (intOf i).toNat)
          case atStart => exact ⟨0, Nat.zero_le _, rfl, Lib.hid (by simp)⟩
          case round =>
            obtain ⟨j, hj, rfl, hin⟩ := hrel
            by_cases hjt : j < ni
            · obtain ⟨b2, o2, rfl, g2⟩ := hri.at j hjt
              have hy : j < t[k].length := by have := HLL.out; omega
              have e : t[k].getD j 0 = t[k][j] := by simp [List.getD_eq_getElem?_getD, List.getElem?_eq_getElem hy]
              rw [e] at g2
              clear h1 hri e
              cases hv : rngB 0 ((ni : Int) - 1) t[k][j] with
              | true =>
                have HD := Lib.hid (fun w => l01In_b t[k][j] 0 ((ni : Int) - 1) true hv w)
                have HV := Lib.hid hv; clear hv
                generalize t[k][j] = V at g2 HD
                go_wp2_with fail
                refine (HD.out _).mono ?_
                rintro e w' ⟨rfl, rfl⟩
                go_wp2
                go_round
                case rel => exact ⟨j + 1, by omega, by go_num, Lib.hid (all_get_succ hy hin.out HV.out)⟩
                case measure => simp [intOf]; omega
              | false =>
                have HD := Lib.hid (fun w => l01In_b t[k][j] 0 ((ni : Int) - 1) false hv w)
                have HV := Lib.hid hv; clear hv
                generalize t[k][j] = V at g2 HD
                go_wp2_with fail
                refine (HD.out _).mono ?_
                rintro e w' ⟨rfl, rfl⟩
                go_wp2
                go_ret
                exact ⟨ret_bool (by rw [HQ.out]; exact (all_no hx (by rw [HR.out]; exact all_no hy HV.out)).symm), rfl⟩
            · obtain rfl : j = ni := by omega
              have ha := hin.out
              rw [List.take_of_length_le (by have := HLL.out; omega)] at ha
              have HA := Lib.hid ha; clear ha
              go_wp2
              go_round
              case rel => exact ⟨k + 1, by omega, by go_num, Lib.hid (all_get_succ hx hall.out (by rw [HR.out]; exact HA.out))⟩
              case measure => simp [intOf]; omega
        · have b1 : ((ni : Int) != (n : Int)) = true := by simp; omega
          have HN : Hid (rowOk n n t[k] = false) := Lib.hid (rowOk_len (by omega))
          clear hll hnn
          go_wp2
          go_ret
          exact ⟨ret_bool (by rw [HQ.out]; exact (all_no hx HN.out).symm), rfl⟩
      · obtain rfl : k = n := by omega
        have ha := hall.out
        rw [List.take_of_length_le (by have := HL.out; omega)] at ha
        have HA := Lib.hid ha; clear ha
        go_wp2
        go_ret
        exact ⟨ret_bool (by rw [HQ.out]; exact HA.out.symm), rfl⟩
set_option maxHeartbeats 1000000 in
theorem l02Map_any (a : Option Addr) (n c : Nat) (a' : Option Addr) (n' c' : Nat) (f g : List (List Int)) (w : World) (h1 : Tbl w a n f) (h2 : Tbl w a' n' g) (hm1 : n ≤ 9223372036854775807) (hm2 : n' ≤ 9223372036854775807) :
    Calls Tryz.prog 146 #[sAgg a n c a' n' c'] w fun e w' => e = .returned (.bool (isPm f g)) ∧ Below w.heap.size w w' := by
  have hl1 := h1.len
  have hl2 := h2.len
  have HL : Hid (decide (f.length = g.length) = decide (n = n')) := Lib.hid (by rw [← hl1, ← hl2])
  clear hl1 hl2
  cases hf : isTab f with
  | false =>
    have HF := Lib.hid hf; clear hf
    go_enter Tryz.func146, Tryz.ntmps146
    go_wp2_with fail
    refine (l01Table_any _ _ _ _ _ (h1.alloc _) hm1).mono ?_
    rintro e w1 ⟨rfl, rfl⟩
    rw [HF.out]
    go_wp2
    go_ret
    exact ⟨ret_bool (by unfold isPm; rw [HF.out]; rfl), below_al (Below.refl _ _) _⟩
  | true =>
    have HF := Lib.hid hf; clear hf
    cases hg : isTab g with
    | false =>
      have HG := Lib.hid hg; clear hg
      go_enter Tryz.func146, Tryz.ntmps146
      go_wp2_with fail
      refine (l01Table_any _ _ _ _ _ (h1.alloc _) hm1).mono ?_
      rintro e w1 ⟨rfl, rfl⟩
      rw [HF.out]
      go_wp2_with fail
      refine (l01Table_any _ _ _ _ _ (h2.alloc _) hm2).mono ?_
      rintro e w1 ⟨rfl, rfl⟩
      rw [HG.out]
      go_wp2
      go_ret
      exact ⟨ret_bool (by unfold isPm; rw [HF.out, HG.out]; rfl), below_al (Below.refl _ _) _⟩
    | true =>
      have HG := Lib.hid hg; clear hg
      have HQ : Hid (isPm f g = decide ((n : Int) = (n' : Int))) := Lib.hid (by unfold isPm; rw [HF.out, HG.out, HL.out]; simp [Int.ofNat_inj])
      go_enter Tryz.func146, Tryz.ntmps146
      go_wp2_with fail
      refine (l01Table_any _ _ _ _ _ (h1.alloc _) hm1).mono ?_
      rintro e w1 ⟨rfl, rfl⟩
      rw [HF.out]
      go_wp2_with fail
      refine (l01Table_any _ _ _ _ _ (h2.alloc _) hm2).mono ?_
      rintro e w1 ⟨rfl, rfl⟩
      rw [HG.out]
      go_wp2
      go_ret
      exact ⟨ret_bool (by rw [HQ.out]; rfl), below_al (Below.refl _ _) _⟩
end Go.Proofs.YtkjpkdmnjbjjaaaGreat

namespace Go.Proofs.YtkjpkdmnjbjjaaaGreat
set_option maxRecDepth 100000
set_option linter.unusedVariables false
set_option linter.unusedSimpArgs false
open Go.RowKit
set_option maxHeartbeats 1000000 in
theorem l01Perm_any (a : Option Addr) (n c : Nat) (p : List Int) (w : World) (h1 : Row w a n p) (hm : n ≤ 9223372036854775807) :
    Calls Tryz.prog 177 #[.slice a n c] w fun e w' => e = .returned (.bool (rngB 1 12 n && permOk p)) ∧ w = w' := by
  have hl := h1.len
  cases hv : rngB 1 12 n with
  | false =>
    have HC := Lib.hid (fun w => l01In_b n 1 12 false hv w)
    clear hv hl
    go_enter Tryz.func177, Tryz.ntmps177
    go_wp2_with fail
    refine (HC.out _).mono ?_
    rintro e w2 ⟨rfl, rfl⟩
    go_wp2
    go_ret
    exact ⟨rfl, rfl⟩
  | true =>
    have HC := Lib.hid (fun w => l01In_b n 1 12 true hv w)
    have HQ : Hid (permOk p = allN n fun x : Nat => p.contains (x : Int)) := Lib.hid (by unfold permOk; rw [hl])
    have hn12 : 1 ≤ n ∧ n ≤ 12 := by unfold rngB at hv; simp at hv; omega
    clear hv hl
    go_enter Tryz.func177, Tryz.ntmps177
    go_wp2_with fail
    refine (HC.out _).mono ?_
    rintro e w2 ⟨rfl, rfl⟩
    go_wp2
    go_loop [4] (fun i => ∃ k : Nat, k ≤ n ∧ i = .int .i64 k ∧ Hid (allN k (fun x : Nat => p.contains (x : Int)) = true)) (fun i => n - (intOf i).toNat)
    case atStart => exact ⟨0, Nat.zero_le _, rfl, Lib.hid rfl⟩
    case round =>
      obtain ⟨k, hk, rfl, hI⟩ := hrel
      by_cases hlt : k < n
      · have hcd : decide ((k : Int) ∈ p) = p.contains (k : Int) := by rw [Bool.eq_iff_iff]; simp
        have HH := Lib.hid (l01Has_any a n c p (k : Int) w h1 (by omega))
        cases hc : p.contains (k : Int) with
        | true =>
          rw [hc] at hcd
          have HD := Lib.hid hcd; have HCC := Lib.hid hc
          clear hc hcd
          go_wp2_with fail
          refine HH.out.mono ?_
          rintro e w2 ⟨rfl, rfl⟩
          rw [HD.out]
          go_wp2
          go_round
          case rel => exact ⟨k + 1, by omega, by go_num, Lib.hid (allN_succ hI.out HCC.out)⟩
          case measure => simp [intOf]; omega
        | false =>
          rw [hc] at hcd
          have HD := Lib.hid hcd; have HCC := Lib.hid hc
          clear hc hcd
          go_wp2_with fail
          refine HH.out.mono ?_
          rintro e w2 ⟨rfl, rfl⟩
          rw [HD.out]
          go_wp2
          go_ret
          exact ⟨ret_bool (by rw [HQ.out, allN_no hlt HCC.out]; rfl), rfl⟩
      · obtain rfl : k = n := by omega
        go_wp2
        go_ret
        exact ⟨ret_bool ((congrArg (fun b => true && b) (HQ.out.trans hI.out)).symm), rfl⟩
end Go.Proofs.YtkjpkdmnjbjjaaaGreat

namespace Go.Proofs.YtkjpkdmnjbjjaaaGreat
set_option maxRecDepth 100000
set_option linter.unusedVariables false
set_option linter.unusedSimpArgs false
open Go.RowKit
structure Sol (w : World) (a : Option Addr) (n : Nat) (xss : List (List Int)) (a' : Option Addr) (n' : Nat) (yss : List (List Int)) : Prop where
  f : Tbl w a n xss
  s : Tbl w a' n' yss
def SolS (a : Option Addr) (n : Nat) (vs : List SV) (a' : Option Addr) (n' : Nat) (vs' : List SV) (g : Nat) : Prop := TblS a n vs g ∨ TblS a' n' vs' g
structure OwnS (w : World) (lo : Nat) (a : Option Addr) (n c : Nat) (vs : List SV) (xss : List (List Int)) (a' : Option Addr) (n' c' : Nat) (vs' : List SV) (yss : List (List Int)) : Prop where
  f : OwnT w lo a n c vs xss
  s : OwnT w lo a' n' c' vs' yss
  ap : ∀ g, TblS a n vs g → ¬ TblS a' n' vs' g
section
variable {w w' : World} {lo : Nat} {a a' a1 a1' a2 a2' : Option Addr} {n n' c c' n1 n1' n2 n2' c1 c1' c2 c2' : Nat} {vs vs' : List SV} {xss yss : List (List Int)}
theorem Sol.below (h : Sol w a n xss a' n' yss) (hb : Below w.heap.size w w') : Sol w' a n xss a' n' yss := ⟨h.f.below hb, h.s.below hb⟩
theorem Sol.alloc (h : Sol w a n xss a' n' yss) (o : Obj) : Sol (w.alloc o) a n xss a' n' yss := ⟨h.f.alloc o, h.s.alloc o⟩
theorem Sol.drewN (h : Sol w a n xss a' n' yss) (k : Nat) : Sol (w.drewN k) a n xss a' n' yss := ⟨h.f.drewN k, h.s.drewN k⟩
theorem OwnS.below (h : OwnS w lo a n c vs xss a' n' c' vs' yss) (hb : Below w.heap.size w w') : OwnS w' lo a n c vs xss a' n' c' vs' yss := ⟨h.f.below hb, h.s.below hb, h.ap⟩
theorem OwnS.alloc (h : OwnS w lo a n c vs xss a' n' c' vs' yss) (o : Obj) : OwnS (w.alloc o) lo a n c vs xss a' n' c' vs' yss := ⟨h.f.alloc o, h.s.alloc o, h.ap⟩
theorem OwnS.drewN (h : OwnS w lo a n c vs xss a' n' c' vs' yss) (k : Nat) : OwnS (w.drewN k) lo a n c vs xss a' n' c' vs' yss := ⟨h.f.drewN k, h.s.drewN k, h.ap⟩
theorem OwnS.mono {lo' : Nat} (h : OwnS w lo a n c vs xss a' n' c' vs' yss) (hl : lo' ≤ lo) : OwnS w lo' a n c vs xss a' n' c' vs' yss := ⟨h.f.mono hl, h.s.mono hl, h.ap⟩
theorem OwnS.cap (h : OwnS w lo a n c vs xss a' n' c' vs' yss) : (n ≤ c ∧ c ≤ 9223372036854775807) ∧ n' ≤ c' ∧ c' ≤ 9223372036854775807 := ⟨h.f.cap, h.s.cap⟩
theorem OwnS.uLo (h : OwnS w lo a n c vs xss a' n' c' vs' yss) : ∀ g, SolS a n vs a' n' vs' g → lo ≤ g := fun g hg => hg.elim (h.f.uLo g) (h.s.uLo g)
theorem OwnS.uHi (h : OwnS w lo a n c vs xss a' n' c' vs' yss) : ∀ g, SolS a n vs a' n' vs' g → g < w.heap.size := fun g hg => hg.elim (h.f.uHi g) (h.s.uHi g)
theorem OwnS.uKeep (h : OwnS w lo a n c vs xss a' n' c' vs' yss) {S : Nat → Prop} (hm : Marked S w w') (hS : ∀ g, SolS a n vs a' n' vs' g → ¬ S g) : OwnS w' lo a n c vs xss a' n' c' vs' yss :=
  ⟨h.f.uKeep hm fun g hg => hS g (.inl hg), h.s.uKeep hm fun g hg => hS g (.inr hg), h.ap⟩
end
end Go.Proofs.YtkjpkdmnjbjjaaaGreat

namespace Go.Proofs.YtkjpkdmnjbjjaaaGreat
set_option maxRecDepth 100000
set_option linter.unusedVariables false
set_option linter.unusedSimpArgs false
open Go.RowKit
def GrTT (E : Nat → Prop) (w : World) (lo : Nat) (a : Option Addr) (n : Nat) (us : List TV) (ts : List (List (List Int))) (e : Ending) (w' : World) : Prop :=
  ∃ a' n' c' us', e = .returned (.slice a' n' c') ∧ OwnTT w' lo a' n' c' us' ts ∧ Marked (TTS a n us) w w' ∧ ∀ g, TTS a' n' us' g → TTS a n us g ∨ E g ∨ w.heap.size ≤ g
theorem GrTT.one {w w' : World} {E : Nat → Prop} {lo : Nat} {a : Option Addr} {n c : Nat} {us : List TV} {ts : List (List (List Int))} {g c' : Nat} {u : TV} {t : List (List Int)} (h : OwnTT w lo a n c us ts) (hg : w.grownBy w' (Value.slice a n c).ownBlock) (hat : (Value.slice a n c).ownBlock = some g ∨ w.heap.size ≤ g)
    (hO : OwnTT w' lo (some ⟨g, 0, none⟩) (n + 1) c' (us ++ [u]) (ts ++ [t])) (hE : ∀ q, TvS u q → E q) : GrTT E w lo a n us (ts ++ [t]) (.returned (.slice (some ⟨g, 0, none⟩) (n + 1) c')) w' := by
  refine ⟨_, _, _, _, rfl, hO, Marked.grownTT h hg, fun q hq => ?_⟩
  rcases TTS.snoc (a := a) h.ulen hq with rfl | h' | h'
  · rcases hat with h2 | h2
    · exact .inl (.inl (h.ownBlk h2))
    · exact .inr (.inr h2)
  · exact .inr (.inl (hE q h'))
  · exact .inl h'
theorem TTS.nil {g : Nat} : ¬ TTS none 0 [] g := by
  rintro (h | ⟨i, hi, _⟩)
  · cases h
  · omega
end Go.Proofs.YtkjpkdmnjbjjaaaGreat

namespace Go.Proofs.YtkjpkdmnjbjjaaaGreat
set_option linter.unusedVariables false
set_option linter.unusedSimpArgs false
def isPb (n : Nat) (p : List Int) : Bool := decide (p.length = n) && (List.range n).all fun i => decide (0 ≤ p.getD i 0) && decide ((p.getD i 0).toNat < n) && decide (((backF p).getD i 0).toNat < n) && decide ((p.getD ((backF p).getD i 0).toNat 0).toNat = i) && decide (((backF p).getD (p.getD i 0).toNat 0).toNat = i)
theorem isPb_ok {n : Nat} {p : List Int} (h : isPb n p = true) : IsP n p := by
  simp only [isPb, Bool.and_eq_true, decide_eq_true_eq, List.all_eq_true, List.mem_range] at h
  refine ⟨fun i => (p.getD i 0).toNat, fun i => ((backF p).getD i 0).toNat, h.1, fun i hi => ?_, fun i hi => ?_⟩
  · have := h.2 i hi
    exact ⟨this.1.1.1.2, this.1.1.2, this.1.2, this.2⟩
  · have := h.2 i hi
    have h0 := this.1.1.1.1
    show p.getD i 0 = (((p.getD i 0).toNat : Nat) : Int)
    omega
end Go.Proofs.YtkjpkdmnjbjjaaaGreat

namespace Go.Proofs.YtkjpkdmnjbjjaaaGreat
set_option maxRecDepth 100000
set_option linter.unusedVariables false
set_option linter.unusedSimpArgs false
open Go.RowKit
attribute [local go_sem] Oper.semAt_some
theorem Touch.grownBy {w w' : World} {b : Nat} (h : Touch (fun q => q = b) w w') : w.grownBy w' (some b) :=
  ⟨h.os, h.tape, h.output, by rw [h.size]; exact Nat.le_refl _, fun k hk hne => h.block k (fun e => hne (by rw [e]))⟩
end Go.Proofs.YtkjpkdmnjbjjaaaGreat

namespace Go.Proofs.YtkjpkdmnjbjjaaaGreat
set_option maxRecDepth 100000
set_option linter.unusedVariables false
set_option linter.unusedSimpArgs false
open Go.RowKit
set_option maxHeartbeats 400000 in
theorem clone_any (a : Option Addr) (n c : Nat) (xs : List Int) (w : World) (h1 : Row w a n xs) (hm : n ≤ 1000000000000) :
    Calls Tryz.prog 93 #[.slice a n c] w fun e w' => ∃ a' c', e = .returned (.slice a' n c') ∧ Own w' w.heap.size a' n c' xs ∧ Below w.heap.size w w' := by
  have hnil := Lib.run_eql_slice_nil (P := Tryz.prog) w 35 2 a n c 0 0 und_ints
  cases a with
  | none =>
    have hn : n = 0 := by
      rcases Nat.eq_zero_or_pos n with h | h
      · exact h
      · obtain ⟨b, off, h2, _⟩ := h1.at 0 h; cases h2
    subst hn
    have hx : xs = [] := List.eq_nil_of_length_eq_zero h1.len.symm
    subst hx
    go_enter Tryz.func93, Tryz.ntmps93
    go_wp2
    go_ret
    exact ⟨none, 0, rfl, Own.nil _ _, Below.refl _ _⟩
  | some p =>
    have hr := h1.alloc (.cells #[] 2)
    go_enter Tryz.func93, Tryz.ntmps93
    go_wp2_with (at_builtin; refine appL rfl rfl (Own.fresh w rfl) rfl hr rfl (by omega) (by simp) ?_; intro ad' c' w' hO hg hb; rw [Nat.zero_add] at hO ⊢)
    go_ret
    exact ⟨ad', c', rfl, by simpa using hO, ((Below.refl _ _).alloc (Nat.le_refl _) _).trans hb⟩
end Go.Proofs.YtkjpkdmnjbjjaaaGreat

namespace Go.Proofs.YtkjpkdmnjbjjaaaGreat
set_option maxRecDepth 100000
set_option linter.unusedVariables false
set_option linter.unusedSimpArgs false
open Go.RowKit
set_option maxHeartbeats 1000000 in
theorem cloneTable_any (a : Option Addr) (n c : Nat) (xss : List (List Int)) (w : World) (h1 : Tbl w a n xss) (hm : n ≤ 1000000) (hx1 : ∀ i, i < n → (xss.getD i []).length ≤ 1000000) :
    Calls Tryz.prog 187 #[.slice a n c] w fun e w' => ∃ a' c' vs, e = .returned (.slice a' n c') ∧ OwnT w' w.heap.size a' n c' vs xss ∧ Below w.heap.size w w' := by
  have hl := h1.len
  have HL := Lib.hid hl; clear hl
  have HX := Lib.hid hx1; clear hx1
  go_enter Tryz.func187, Tryz.ntmps187
  go_wp2_with (at_make; refine makeT rfl rfl rfl rfl (by omega) ?_; intro w1 ho hs hb)
  go_loopw [11] (fun i wr => ∃ (k : Nat) (vs : List SV), k ≤ n ∧ i = .int .i64 k ∧ OwnT wr w.heap.size (some ⟨w.heap.size, 0, none⟩) n n vs (xss.take k ++ List.replicate (n - k) []) ∧ Below w.heap.size w wr) (fun i _ => n - (intOf i).toNat)
  case atStart => exact ⟨0, _, Nat.zero_le _, rfl, by simpa using ho, hb⟩
  case round =>
    clear ho hb
    obtain ⟨k, vs, hk, rfl, ho, hb⟩ := hrel
    by_cases hlt : k < n
    · have hr := h1.below hb
      obtain ⟨b, off, ai, ni, ci, rfl, g1, hri, hni⟩ := hr.at k hlt
      have hx : k < xss.length := by have := HL.out; omega
      have hle : ni ≤ 1000000 := by have := HX.out k hlt; have := hri.len; omega
      rw [Tbl.getD hx] at hri
      obtain ⟨g, hg, hgl, hc, hf⟩ := ho.cells (by omega)
      cases hg
      clear h1 hr hc
      go_wp2_with fail
      refine (clone_any _ _ _ _ _ hri (by omega)).mono ?_
      rintro e w2 ⟨a2, c2, rfl, ho2, hb2⟩
      have hot := ho.below hb2
      obtain ⟨g', hg', hgl', hc', hf'⟩ := hot.cells (by omega)
      cases hg'
      have hc1 := hc' k hlt
      have hf1 := hf' k
      clear hc' hf' hf
      go_wp2
      go_roundw
      case rel =>
        have hlo : w.heap.size ≤ wr.heap.size := hb.size
        refine ⟨k + 1, vs.set k (a2, ni, c2), by omega, by go_num, ?_, ?_⟩
        · have hp := hot.put k hlt (v := (a2, ni, c2)) (ho2.mono hlo) (fun e => by have := ho2.lo _ e; omega) (fun j hj _ g1 h1 h2 => by have h3 := ho2.lo _ h1; have h4 := (ho.row j hj).hi _ h2; omega)
          rw [copyT_step xss n k HL.out hx] at hp
          exact hp
        · exact (hb.trans (hb2.mono hlo)).setCell (Nat.le_refl _) _
      case measure => simp [intOf]; omega
    · obtain rfl : k = n := by omega
      go_wp2
      go_ret
      have e1 : xss.take k ++ List.replicate (k - k) [] = xss := by
        rw [List.take_of_length_le (by have := HL.out; omega), Nat.sub_self, List.replicate_zero, List.append_nil]
      rw [e1] at ho
      exact ⟨_, _, _, rfl, ho, hb⟩
end Go.Proofs.YtkjpkdmnjbjjaaaGreat

namespace Go.Proofs.YtkjpkdmnjbjjaaaGreat
set_option maxRecDepth 100000
set_option linter.unusedVariables false
set_option linter.unusedSimpArgs false
open Go.RowKit
def RowsOf (P : Nat) (pvs : List SV) (perms : List (List Int)) (vs : List SV) (rows : List (List Int)) : Prop := vs.length = rows.length ∧ ∀ i, i < rows.length → ∃ j, j < P ∧ vs.getD i svO = pvs.getD j svO ∧ rows.getD i [] = perms.getD j []
theorem RowsOf.nil (P : Nat) (pvs : List SV) (perms : List (List Int)) : RowsOf P pvs perms [] [] := ⟨rfl, fun i h => absurd h (by simp)⟩
theorem RowsOf.snoc {P : Nat} {pvs : List SV} {perms : List (List Int)} {vs : List SV} {rows : List (List Int)} (h : RowsOf P pvs perms vs rows) {j : Nat} (hj : j < P) : RowsOf P pvs perms (vs ++ [pvs.getD j svO]) (rows ++ [perms.getD j []]) := by
  refine ⟨by simp [h.1], fun i hi => ?_⟩
  simp only [List.length_append, List.length_cons, List.length_nil] at hi
  by_cases e : i < rows.length
  · obtain ⟨j', h1, h2, h3⟩ := h.2 i e
    exact ⟨j', h1, by rw [← h2]; simp [List.getD_eq_getElem?_getD, List.getElem?_append_left (show i < vs.length by have := h.1; omega)], by rw [← h3]; simp [List.getD_eq_getElem?_getD, List.getElem?_append_left e]⟩
  · obtain rfl : i = rows.length := by omega
    refine ⟨j, hj, ?_, ?_⟩
    · rw [← h.1]; simp [List.getD_eq_getElem?_getD]
    · simp [List.getD_eq_getElem?_getD]
theorem RowsOf.tbl {w : World} {lo : Nat} {pa a : Option Addr} {P pc n : Nat} {pvs vs : List SV} {perms rows : List (List Int)} (h : RowsOf P pvs perms vs rows) (hp : OwnT w lo pa P pc pvs perms) (hh : HdR w a n vs) : Tbl w a n rows :=
  hh.tbl (by have := hh.1; have := h.1; omega) fun i hi => by
    obtain ⟨j, h1, h2, h3⟩ := h.2 i (by have := hh.1; have := h.1; omega)
    rw [h2, h3]
    exact ⟨(hp.row j h1).row, by have := (hp.row j h1).cap; omega⟩
end Go.Proofs.YtkjpkdmnjbjjaaaGreat

namespace Go.Proofs.YtkjpkdmnjbjjaaaGreat
set_option maxRecDepth 100000
set_option linter.unusedVariables false
set_option linter.unusedSimpArgs false
open Go.RowKit
theorem RwsOk.at {n : Nat} {rows : List (List Int)} (h : RwsOk n rows) {x nx : Nat} (hx : x < n) {w : World} {a : Option Addr} (hr : Row w a nx (rows.getD x [])) : (nx = 0 ∧ rows.getD x [] = []) ∨ (nx = n ∧ IsP n (rows.getD x [])) := by
  rcases h.2 x hx with e | e
  · exact .inl ⟨by have := hr.len; rw [e] at this; simpa using this, e⟩
  · exact .inr ⟨by have := hr.len; rw [e.len] at this; exact this, e⟩
end Go.Proofs.YtkjpkdmnjbjjaaaGreat

namespace Go.Proofs.YtkjpkdmnjbjjaaaGreat
set_option maxRecDepth 100000
set_option linter.unusedVariables false
set_option linter.unusedSimpArgs false
open Go.RowKit
def RwsP (n : Nat) (t : List (List Int)) : Prop := t.length = n ∧ ∀ i, i < n → IsP n (t.getD i [])
theorem RwsP.sq {n : Nat} {t : List (List Int)} (h : RwsP n t) : Sq n t := by
  refine ⟨h.1, fun x hx => ⟨(h.2 x hx).len, fun y hy => ?_⟩⟩
  obtain ⟨z, hz, hzn⟩ := (h.2 x hx).at hy
  have : tv t x y = z := by unfold tv; rw [hz, Int.toNat_natCast]
  rw [this]; exact ⟨hzn, hz⟩
end Go.Proofs.YtkjpkdmnjbjjaaaGreat

namespace Go.Proofs.YtkjpkdmnjbjjaaaGreat
set_option maxRecDepth 100000
set_option linter.unusedVariables false
set_option linter.unusedSimpArgs false
open Go.RowKit
structure OwnRk (w : World) (lo : Nat) (a : Option Addr) (n c : Nat) (us : List TV) (ts : List (List (List Int))) : Prop where
  len : n = ts.length
  ulen : us.length = n
  hdr : w.ownsRow lo 58 1 (.slice a n c) n (us.map slT)
  tab : ∀ i, i < n → OwnV w lo (us.getD i tvO) (ts.getD i [])
  ap : ∀ i, i < n → ∀ g, a = some ⟨g, 0, none⟩ → ¬ TvS (us.getD i tvO) g
  pw : ∀ i j, i < n → j < n → i ≠ j → ∀ g, TvS (us.getD i tvO) g → ¬ TvS (us.getD j tvO) g
section
variable {w w' : World} {lo : Nat} {a : Option Addr} {n c : Nat} {us : List TV} {ts : List (List (List Int))}
theorem OwnRk.nil (w : World) (lo : Nat) : OwnRk w lo none 0 0 [] [] :=
  ⟨rfl, rfl, World.ownsRow_nil w lo _ 1, fun i h => absurd h (by omega), fun i h => absurd h (by omega), fun i j h => absurd h (by omega)⟩
theorem OwnRk.block (h : OwnRk w lo a n c us ts) : (a = none ∧ n = 0 ∧ c = 0) ∨ ∃ g cur, a = some ⟨g, 0, none⟩ ∧ lo ≤ g ∧ Loc w g cur 58 ∧ n ≤ c ∧ c ≤ maxLen ∧ cur.size = c ∧ cur.toList.take n = us.map slT := by
  rcases h.hdr.2 with ⟨h1, h2⟩ | ⟨g, cap, cur, h1, h2, h3, h4, h5, h6, h7⟩
  · cases h1; exact .inl ⟨rfl, rfl, rfl⟩
  · cases h1; exact .inr ⟨g, cur, rfl, h2, h3, h4, h5, by simpa using h6, by simpa using h7⟩
theorem ownsRowRk_mk {w : World} {lo g n c : Nat} {us : List TV} {cur : Array Value} (hn : us.length = n) (h1 : lo ≤ g) (h2 : Loc w g cur 58) (h3 : n ≤ c) (h4 : c ≤ maxLen) (h5 : cur.size = c) (h6 : cur.toList.take n = us.map slT) :
    w.ownsRow lo 58 1 (.slice (some ⟨g, 0, none⟩) n c) n (us.map slT) :=
  ⟨by simp [hn], .inr ⟨g, c, cur, rfl, h1, h2, h3, h4, by simpa using h5, by simpa using h6⟩⟩
theorem OwnRk.high (h : OwnRk w lo a n c us ts) : ∀ g, a = some ⟨g, 0, none⟩ → g < w.heap.size := by
  intro g hg
  rcases h.block with ⟨h1, _⟩ | ⟨g', cur, h1, h2, h3, _⟩
  · rw [h1] at hg; cases hg
  · rw [h1] at hg; cases hg; exact h3.lt
theorem OwnRk.low (h : OwnRk w lo a n c us ts) : ∀ g, a = some ⟨g, 0, none⟩ → lo ≤ g := by
  intro g hg
  rcases h.block with ⟨h1, _⟩ | ⟨g', cur, h1, h2, h3, _⟩
  · rw [h1] at hg; cases hg
  · rw [h1] at hg; cases hg; exact h2
theorem OwnRk.uLo (h : OwnRk w lo a n c us ts) : ∀ g, TTS a n us g → lo ≤ g := fun g hg => by
  rcases hg with hg | ⟨i, hi, hg⟩
  · exact h.low g hg
  · exact (h.tab i hi).uLo g hg
theorem OwnRk.uHi (h : OwnRk w lo a n c us ts) : ∀ g, TTS a n us g → g < w.heap.size := fun g hg => by
  rcases hg with hg | ⟨i, hi, hg⟩
  · exact h.high g hg
  · exact (h.tab i hi).uHi g hg
theorem OwnRk.keep (h : OwnRk w lo a n c us ts) (hk : ∀ g, TTS a n us g → g < w.heap.size → w'.heap[g]? = w.heap[g]?) : OwnRk w' lo a n c us ts := by
  refine ⟨h.len, h.ulen, ?_, fun i hi => OwnT.keep (h.tab i hi) fun g hg hlt => hk g (.inr ⟨i, hi, hg⟩) hlt, h.ap, h.pw⟩
  rcases h.block with ⟨h1, h2, h3⟩ | ⟨g, cur, h1, h2, h3, h4, h5, h6, h7⟩
  · subst h1 h2 h3
    have : us = [] := List.eq_nil_of_length_eq_zero h.ulen
    subst this; exact World.ownsRow_nil _ _ _ _
  · subst h1
    exact ownsRowRk_mk h.ulen h2 ((hk g (.inl rfl) h3.lt).trans h3) h4 h5 h6 h7
theorem OwnRk.below (h : OwnRk w lo a n c us ts) (hb : Below w.heap.size w w') : OwnRk w' lo a n c us ts := h.keep fun g _ hlt => hb.block g hlt
theorem OwnRk.alloc (h : OwnRk w lo a n c us ts) (o : Obj) : OwnRk (w.alloc o) lo a n c us ts := h.below ((Below.refl _ _).alloc (Nat.le_refl _) o)
theorem OwnRk.drewN (h : OwnRk w lo a n c us ts) (k : Nat) : OwnRk (w.drewN k) lo a n c us ts := h.keep fun _ _ _ => rfl
theorem OwnRk.mono {lo' : Nat} (h : OwnRk w lo a n c us ts) (hl : lo' ≤ lo) : OwnRk w lo' a n c us ts := by
  refine ⟨h.len, h.ulen, ?_, fun i hi => (h.tab i hi).mono hl, h.ap, h.pw⟩
  rcases h.block with ⟨h1, h2, h3⟩ | ⟨g, cur, h1, h2, h3, h4, h5, h6, h7⟩
  · subst h1 h2 h3
    have : us = [] := List.eq_nil_of_length_eq_zero h.ulen
    subst this; exact World.ownsRow_nil _ _ _ _
  · subst h1; exact ownsRowRk_mk h.ulen (Nat.le_trans hl h2) h3 h4 h5 h6 h7
theorem OwnRk.setlo (h : OwnRk w lo a n c us ts) {p : Addr} (hp : p.block < lo) (u : Value) : OwnRk (w.setCell p u) lo a n c us ts :=
  h.keep fun g hg _ => Below.heap_setCell _ _ _ _ (by have := h.uLo g hg; omega)
theorem OwnRk.cap (h : OwnRk w lo a n c us ts) : n ≤ c ∧ c ≤ 9223372036854775807 := by
  rcases h.block with ⟨_, h1, h2⟩ | ⟨g', cur, h1, h2, h3, h4, h5, _⟩
  · omega
  · unfold maxLen at h5; omega
theorem OwnRk.cells (h : OwnRk w lo a n c us ts) (hn : 0 < n) : ∃ g, a = some ⟨g, 0, none⟩ ∧ g < w.heap.size ∧ (∀ i, i < n → w.cell? ⟨g, i, none⟩ = some (slT (us.getD i tvO))) ∧ ∀ i, w.frozen? ⟨g, i, none⟩ = false := by
  rcases h.block with ⟨h1, h2, h3⟩ | ⟨g, cur, h1, h2, h3, h4, h5, h6, h7⟩
  · omega
  · refine ⟨g, h1, h3.lt, fun i hi => h3.cell i ?_, fun i => h3.free i⟩
    have hx : (cur.toList.take n)[i]? = (us.map slT)[i]? := by rw [h7]
    have hxi : i < us.length := by have := h.ulen; omega
    rw [List.getElem?_take, if_pos hi] at hx
    simp [List.getElem?_eq_getElem hxi] at hx
    simp [List.getD_eq_getElem?_getD, List.getElem?_eq_getElem hxi, hx]
theorem OwnRk.ownBlk (h : OwnRk w lo a n c us ts) {g : Nat} (e : (Value.slice a n c).ownBlock = some g) : a = some ⟨g, 0, none⟩ := by
  rcases h.block with ⟨r1, _⟩ | ⟨g2, cur, r1, _⟩
  · subst r1; simp [Value.ownBlock] at e
  · subst r1; simp [Value.ownBlock] at e; subst e; rfl
theorem OwnRk.snoc {o : Obj} {g cap : Nat} {u : TV} {t : List (List Int)} (h : OwnRk w lo a n c us ts) (hv : OwnV w lo u t) (h1 : ∀ q, TvS u q → ¬ TTS a n us q)
    (ho : w'.ownsRow lo 58 1 (.slice (some ⟨g, 0, none⟩) (n + 1) cap) (n + 1) (us.map slT ++ [slT u]))
    (hg : w.grownBy w' (Value.slice a n c).ownBlock) (hat : (Value.slice a n c).ownBlock = some g ∨ w.heap.size ≤ g) : OwnRk w' lo (some ⟨g, 0, none⟩) (n + 1) cap (us ++ [u]) (ts ++ [t]) := by
  have hl := h.len
  have hul := h.ulen
  have gl : ∀ i, i < n → (us ++ [u]).getD i tvO = us.getD i tvO := fun i hi => by simp [List.getD_eq_getElem?_getD, List.getElem?_append_left (show i < us.length by omega)]
  have gn : (us ++ [u]).getD n tvO = u := by rw [← hul]; simp [List.getD_eq_getElem?_getD]
  have xl : ∀ i, i < n → (ts ++ [t]).getD i [] = ts.getD i [] := fun i hi => by simp [List.getD_eq_getElem?_getD, List.getElem?_append_left (show i < ts.length by omega)]
  have xn : (ts ++ [t]).getD n [] = t := by rw [hl]; simp [List.getD_eq_getElem?_getD]
  have keepR : ∀ i, i < n → OwnV w' lo (us.getD i tvO) (ts.getD i []) := fun i hi => OwnT.keep (h.tab i hi) fun q hq hlt => hg.block q hlt fun e => h.ap i hi q (h.ownBlk e.symm) hq
  have keepV : OwnV w' lo u t := OwnT.keep hv fun q hq hlt => hg.block q hlt fun e => h1 q hq (.inl (h.ownBlk e.symm))
  refine ⟨by simp [hl], by simp [hul], by simpa using ho, fun i hi => ?_, fun i hi q hq hs => ?_, fun i j hi hj hij q h3 h4 => ?_⟩
  · by_cases e : i < n
    · rw [gl i e, xl i e]; exact keepR i e
    · obtain rfl : i = n := by omega
      rw [gn, xn]; exact keepV
  · cases hq
    by_cases e : i < n
    · rw [gl i e] at hs
      rcases hat with hat | hat
      · exact h.ap i e g (h.ownBlk hat) hs
      · have := (h.tab i e).uHi g hs; omega
    · obtain rfl : i = n := by omega
      rw [gn] at hs
      rcases hat with hat | hat
      · exact h1 g hs (.inl (h.ownBlk hat))
      · have := OwnT.uHi hv g hs; omega
  · by_cases e : i < n
    · rw [gl i e] at h3
      by_cases e' : j < n
      · rw [gl j e'] at h4; exact h.pw i j e e' hij q h3 h4
      · obtain rfl : j = n := by omega
        rw [gn] at h4; exact h1 q h4 (.inr ⟨i, e, h3⟩)
    · obtain rfl : i = n := by omega
      rw [gn] at h3
      have e' : j < i := by omega
      rw [gl j e'] at h4; exact h1 q h3 (.inr ⟨j, e', h4⟩)
end
end Go.Proofs.YtkjpkdmnjbjjaaaGreat

namespace Go.Proofs.YtkjpkdmnjbjjaaaGreat
set_option maxRecDepth 100000
set_option linter.unusedVariables false
set_option linter.unusedSimpArgs false
structure Cmp {α : Type} (c : α → α → Int) : Prop where
  eq : ∀ x y, c x y = 0 ↔ x = y
  anti : ∀ x y, c y x = - c x y
  trans : ∀ x y z, c x y < 0 → c y z < 0 → c x z < 0
theorem Cmp.refl {α : Type} {c : α → α → Int} (h : Cmp c) (x : α) : c x x = 0 := (h.eq x x).2 rfl
end Go.Proofs.YtkjpkdmnjbjjaaaGreat

namespace Go.Proofs.YtkjpkdmnjbjjaaaGreat
set_option linter.unusedVariables false
set_option linter.unusedSimpArgs false
set_option maxRecDepth 100000
open Go.ChangeShapes Go.WideShapes Go.ChangeAt Go.RowKit Go.Joins
theorem und_bytesO : Tryz.prog.underlying 22 = some (.slice 5) := by kernel_rfl
theorem und_u8O : Tryz.prog.underlying 5 = some (.int .u8) := by kernel_rfl
theorem cells_u8 : Tryz.prog.cellsOf 5 = 1 := by kernel_rfl
def Bts (w : World) (a : Option Addr) (n : Nat) (xs : List Int) : Prop :=
  n = xs.length ∧ (∀ i, i < n → ∃ b off, a = some ⟨b, off, none⟩ ∧ b < w.heap.size ∧ w.cell? ⟨b, off + i, none⟩ = some (.int .u8 (xs.getD i 0))) ∧ ∀ i, 0 ≤ xs.getD i 0 ∧ xs.getD i 0 ≤ 255
theorem Bts.below {w w' : World} {a : Option Addr} {n : Nat} {xs : List Int} (h : Bts w a n xs) (hb : Below w.heap.size w w') : Bts w' a n xs :=
  ⟨h.1, fun i hi => by obtain ⟨b, off, h1, h3, h2⟩ := h.2.1 i hi; exact ⟨b, off, h1, Nat.lt_of_lt_of_le h3 hb.size, (hb.cell (p := ⟨b, off + i, none⟩) h3).trans h2⟩, h.2.2⟩
theorem Bts.len {w : World} {a : Option Addr} {n : Nat} {xs : List Int} (h : Bts w a n xs) : n = xs.length := h.1
theorem Bts.at {w : World} {a : Option Addr} {n : Nat} {xs : List Int} (h : Bts w a n xs) (i : Nat) (hi : i < n) : ∃ b off, a = some ⟨b, off, none⟩ ∧ w.cell? ⟨b, off + i, none⟩ = some (.int .u8 (xs.getD i 0)) := by
  obtain ⟨b, off, h1, _, h2⟩ := h.2.1 i hi; exact ⟨b, off, h1, h2⟩
theorem open_bytes {H : Type} {enc : TypeId × Value → H} {W : World} {b0 : Nat} {v : Value} {d : DataW H} {p : List MemPlace} {sp : Nat → Bool} (hsp : ∀ b, sp b = true) (hv : Value.okWide Tryz.prog W .any b0 22 v)
    (h : DataW.Trod enc Tryz.prog W 0 sp true 22 v d p) : ∃ a n c xs, v = .slice a n c ∧ Bts W a n xs ∧ n ≤ 9223372036854775807 := by
  obtain ⟨a, n, c, rfl⟩ := okWide_slice und_bytesO hv
  obtain ⟨fuel, hf⟩ := h
  rcases open_ints und_bytesO und_u8O cells_u8 hf with ⟨hcs, _⟩ | ⟨⟨b, off, spot⟩, l, c', zs, hcs, _, hl, hm, hz, _, hcell, hwz⟩
  · simp [Value.cells] at hcs
    obtain ⟨rfl, rfl, rfl⟩ := hcs
    exact ⟨_, _, _, [], rfl, ⟨rfl, fun i hi => absurd hi (by omega), fun i => by simp⟩, by omega⟩
  · simp [Value.cells] at hcs
    obtain ⟨rfl, rfl, rfl⟩ := hcs
    rw [if_pos (hsp _)] at hz
    refine ⟨_, _, _, zs.take n, rfl, ⟨by rw [List.length_take]; omega, fun i hi => ?_, fun i => ?_⟩, by unfold maxLen at hm; omega⟩
    · have h0 := hcell 0 (by omega)
      have hi' := hcell i (by omega)
      have hspot : spot = none := by simpa [Addr.add] using World.cell?_spot h0
      subst hspot
      have e : (⟨b, off, none⟩ : Addr).add i = ⟨b, off + i, none⟩ := by unfold Addr.add; split <;> simp_all
      rw [e] at hi'
      refine ⟨b, off, rfl, World.block_lt_of_cell? W ⟨b, off + i, none⟩ hi', hi'.trans ?_⟩
      simp [List.getD_eq_getElem?_getD, List.getElem?_take, hi]
    · have hb := range_u8 hwz i
      rw [List.getD_eq_getElem?_getD, List.getElem?_take]
      split
      · exact hb
      · simp
end Go.Proofs.YtkjpkdmnjbjjaaaGreat
