/-
  Walks and plain laws of this seat, some texts in one.
  No condition but bounds on lengths.
-/
import Derived.Test.YtaddclaadbjnlaaGreatPr1
import Derived.BigRegion
import Derived.Deep.RegionHeld3
import Derived.ProofKit
import Derived.OpenShut
import Derived.ChangeOld
import Derived.Below
import Derived.Lib.SmallJoins
namespace Go.Proofs.YtaddclaadbjnlaaGreat
set_option maxRecDepth 100000
set_option linter.unusedVariables false
set_option linter.unusedSimpArgs false
open Go.RowKit
def unitL (n : Nat) : List Int := (List.range n).map fun i : Nat => (i : Int)
theorem unitL_len (n : Nat) : (unitL n).length = n := by simp [unitL]
theorem unitL_succ (n : Nat) : unitL (n + 1) = unitL n ++ [(n : Int)] := by simp [unitL, List.range_succ]
theorem unitL_get (n i : Nat) (h : i < n) : (unitL n).getD i 0 = i := by
  simp [unitL, List.getD_eq_getElem?_getD, List.getElem?_map, h]
theorem unit_step (n j : Nat) (h : j < n) : (unitL j ++ List.replicate (n - j) 0).set j (j : Int) = unitL (j + 1) ++ List.replicate (n - (j + 1)) 0 := by
  rw [List.set_append_right _ _ (by rw [unitL_len]; omega), unitL_len, Nat.sub_self, unitL_succ, List.append_assoc]
  congr 1
  obtain ⟨m, hm⟩ : ∃ m, n - j = m + 1 := ⟨n - j - 1, by omega⟩
  have hm' : n - (j + 1) = m := by omega
  rw [hm, hm', List.replicate_succ]
  simp
theorem getD_at {p : List Int} {k : Nat} (h : k < p.length) : p.getD k 0 = p[k] := by simp [List.getD_eq_getElem?_getD, h]
def backK (p : List Int) (k : Nat) : List Int := (List.range k).foldl (fun a x => a.set (p.getD x 0).toNat (x : Int)) (List.replicate p.length 0)
theorem backK_succ (p : List Int) (k : Nat) : backK p (k + 1) = (backK p k).set (p.getD k 0).toNat (k : Int) := by
  simp [backK, List.range_succ]
theorem backK_len (p : List Int) (k : Nat) : (backK p k).length = p.length := by
  induction k with
  | zero => simp [backK]
  | succ k ih => rw [backK_succ, List.length_set, ih]
def backF (p : List Int) : List Int := backK p p.length
theorem backF_len (p : List Int) : (backF p).length = p.length := backK_len _ _
set_option maxHeartbeats 1000000 in
theorem identity_any (n : Nat) (w : World) (hn : n ≤ 1000000) :
    Calls Tryz.prog 127 #[.int .i64 n] w fun e w' => ∃ a c, e = .returned (.slice a n c) ∧ Own w' w.heap.size a n c (unitL n) ∧ Below w.heap.size w w' := by
  go_enter Tryz.func127, Tryz.ntmps127
  go_wp2_with (at_make; refine make1 rfl rfl rfl rfl (by omega) ?_; intro w1 ho hs hb)
  go_loopw [9] (fun i wr => ∃ (k : Nat), k ≤ n ∧ i = .int .i64 k ∧ Own wr w.heap.size (some ⟨w.heap.size, 0, none⟩) n n (unitL k ++ List.replicate (n - k) 0) ∧ Below w.heap.size w wr) (fun i _ => n - (intOf i).toNat)
  case atStart => exact ⟨0, Nat.zero_le _, rfl, by simpa [unitL] using ho, hb⟩
  case round =>
    clear ho hb
    obtain ⟨k, hk, rfl, ho, hb⟩ := hrel
    by_cases hlt : k < n
    · have hs := ho.set k k
      rw [unit_step n k hlt] at hs
      have hcf := ho.cells.2.2 k
      have hcc := ho.cells.2.1 k hlt
      have HS := Lib.hid hs; clear hs
      go_wp2
      go_roundw
      case rel => exact ⟨k + 1, by omega, by go_num, HS.out, hb.setCell (by simp) _⟩
      case measure => simp [intOf]; omega
    · obtain rfl : k = n := by omega
      go_wp2
      go_ret
      rw [Nat.sub_self, List.replicate_zero, List.append_nil] at ho
      exact ⟨_, _, rfl, ho, hb⟩
set_option maxHeartbeats 1000000 in
theorem inverse_any (a : Option Addr) (n c : Nat) (p : List Int) (w : World) (h1 : Row w a n p) (hm : n ≤ 1000000) (hp : ∀ x ∈ p, 0 ≤ x ∧ x < n) :
    Calls Tryz.prog 132 #[.slice a n c] w fun e w' => ∃ a' c', e = .returned (.slice a' n c') ∧ Own w' w.heap.size a' n c' (backF p) ∧ Below w.heap.size w w' := by
  have hl := h1.len
  have HP := Lib.hid hp; clear hp
  have HL := Lib.hid hl; clear hl
  go_enter Tryz.func132, Tryz.ntmps132
  go_wp2_with (at_make; refine make1 rfl rfl rfl rfl (by omega) ?_; intro w1 ho hs hb)
  go_loopw [11] (fun i wr => ∃ (k : Nat), k ≤ n ∧ i = .int .i64 k ∧ Own wr w.heap.size (some ⟨w.heap.size, 0, none⟩) n n (backK p k) ∧ Below w.heap.size w wr) (fun i _ => n - (intOf i).toNat)
  case atStart => exact ⟨0, Nat.zero_le _, rfl, by have e := HL.out; rw [e] at ho; simpa [backK, ← e] using ho, hb⟩
  case round =>
    clear ho hb
    obtain ⟨k, hk, rfl, ho, hb⟩ := hrel
    have hr := h1.below hb
    by_cases hlt : k < n
    · obtain ⟨b, off, rfl, g1⟩ := hr.at k hlt
      have hx : k < p.length := by have := HL.out; omega
      obtain ⟨x, hxx⟩ : ∃ x : Nat, p.getD k 0 = x := ⟨(p.getD k 0).toNat, by
        have h := HP.out p[k] (List.getElem_mem hx)
        rw [getD_at hx]; omega⟩
      have hxn : x < n := by
        have h := HP.out p[k] (List.getElem_mem hx)
        rw [getD_at hx] at hxx; omega
      rw [hxx] at g1
      have hs := ho.set x k
      have e : backK p (k + 1) = (backK p k).set x (k : Int) := by rw [backK_succ, hxx]; rfl
      rw [← e] at hs
      have hcf := ho.cells.2.2 x
      have hcc := ho.cells.2.1 x hxn
      have HS := Lib.hid hs; clear hs e hxx
      clear h1
      go_wp2
      go_roundw
      case rel => exact ⟨k + 1, by omega, by go_num, HS.out, hb.setCell (by simp) _⟩
      case measure => simp [intOf]; omega
    · obtain rfl : k = n := by omega
      go_wp2
      go_ret
      have e : backF p = backK p k := by unfold backF; rw [← HL.out]
      rw [← e] at ho
      exact ⟨_, _, rfl, ho, hb⟩
set_option maxHeartbeats 1000000 in
theorem l01Back_any (a : Option Addr) (n c : Nat) (p : List Int) (w : World) (h1 : Row w a n p) (hm : n ≤ 1000000) (hp : ∀ x ∈ p, 0 ≤ x ∧ x < n) :
    Calls Tryz.prog 148 #[.slice a n c] w fun e w' => ∃ a' c', e = .returned (.slice a' n c') ∧ Own w' w.heap.size a' n c' (backF p) ∧ Below w.heap.size w w' := by
  have hl := h1.len
  have HP := Lib.hid hp; clear hp
  have HL := Lib.hid hl; clear hl
  go_enter Tryz.func148, Tryz.ntmps148
  go_wp2_with (at_make; refine make1 rfl rfl rfl rfl (by omega) ?_; intro w1 ho hs hb)
  go_loopw [4] (fun i wr => ∃ (k : Nat), k ≤ n ∧ i = .int .i64 k ∧ Own wr w.heap.size (some ⟨w.heap.size, 0, none⟩) n n (backK p k) ∧ Below w.heap.size w wr) (fun i _ => n - (intOf i).toNat)
  case atStart => exact ⟨0, Nat.zero_le _, rfl, by have e := HL.out; rw [e] at ho; simpa [backK, ← e] using ho, hb⟩
  case round =>
    clear ho hb
    obtain ⟨k, hk, rfl, ho, hb⟩ := hrel
    have hr := h1.below hb
    by_cases hlt : k < n
    · obtain ⟨b, off, rfl, g1⟩ := hr.at k hlt
      have hx : k < p.length := by have := HL.out; omega
      obtain ⟨x, hxx⟩ : ∃ x : Nat, p.getD k 0 = x := ⟨(p.getD k 0).toNat, by
        have h := HP.out p[k] (List.getElem_mem hx)
        rw [getD_at hx]; omega⟩
      have hxn : x < n := by
        have h := HP.out p[k] (List.getElem_mem hx)
        rw [getD_at hx] at hxx; omega
      rw [hxx] at g1
      have hs := ho.set x k
      have e : backK p (k + 1) = (backK p k).set x (k : Int) := by rw [backK_succ, hxx]; rfl
      rw [← e] at hs
      have hcf := ho.cells.2.2 x
      have hcc := ho.cells.2.1 x hxn
      have HS := Lib.hid hs; clear hs e hxx
      clear h1
      go_wp2
      go_roundw
      case rel => exact ⟨k + 1, by omega, by go_num, HS.out, hb.setCell (by simp) _⟩
      case measure => simp [intOf]; omega
    · obtain rfl : k = n := by omega
      go_wp2
      go_ret
      have e : backF p = backK p k := by unfold backF; rw [← HL.out]
      rw [← e] at ho
      exact ⟨_, _, rfl, ho, hb⟩
end Go.Proofs.YtaddclaadbjnlaaGreat

namespace Go.Proofs.YtaddclaadbjnlaaGreat
set_option maxRecDepth 100000
set_option linter.unusedVariables false
set_option linter.unusedSimpArgs false
open Go.RowKit
set_option maxHeartbeats 400000 in
theorem l01Own_any (a : Option Addr) (n c : Nat) (xs : List Int) (w : World) (h1 : Row w a n xs) (hm : n ≤ 1000000000000) :
    Calls Tryz.prog 125 #[.slice a n c] w fun e w' => ∃ a' c', e = .returned (.slice a' n c') ∧ Own w' w.heap.size a' n c' xs ∧ Below w.heap.size w w' := by
  have hr := h1.alloc (.cells #[] 2)
  go_enter Tryz.func125, Tryz.ntmps125
  go_wp2_with (at_builtin; refine appL rfl rfl (Own.fresh w rfl) rfl hr rfl (by omega) (by simp) ?_; intro ad' c' w' hO hg hb; rw [Nat.zero_add] at hO ⊢)
  go_ret
  exact ⟨ad', c', rfl, by simpa using hO, ((Below.refl _ _).alloc (Nat.le_refl _) _).trans hb⟩
end Go.Proofs.YtaddclaadbjnlaaGreat

namespace Go.Proofs.YtaddclaadbjnlaaGreat
set_option maxRecDepth 100000
set_option linter.unusedVariables false
set_option linter.unusedSimpArgs false
open Go.RowKit
def thL (p q : List Int) : List Int := p.map fun x => q.getD x.toNat 0
theorem thL_len (p q : List Int) : (thL p q).length = p.length := by simp [thL]
theorem thL_succ (p q : List Int) {k : Nat} (h : k < p.length) : thL (p.take (k + 1)) q = thL (p.take k) q ++ [q.getD p[k].toNat 0] := by
  simp only [thL, List.take_succ_eq_append_getElem h, List.map_append, List.map_cons, List.map_nil]
theorem then_step (p q : List Int) {j n : Nat} (hn : n = p.length) (h : j < p.length) : (thL (p.take j) q ++ List.replicate (n - j) 0).set j (q.getD p[j].toNat 0) = thL (p.take (j + 1)) q ++ List.replicate (n - (j + 1)) 0 := by
  have hl : (thL (p.take j) q).length = j := by rw [thL_len, List.length_take]; omega
  rw [thL_succ p q h, List.set_append_right _ _ (by omega), hl, Nat.sub_self]
  have e : n - j = (n - (j + 1)) + 1 := by omega
  rw [e, List.replicate_succ, List.set_cons_zero, List.append_assoc]; rfl
set_option maxHeartbeats 2000000 in
theorem then_any (a1 a2 : Option Addr) (n m c1 c2 : Nat) (p q : List Int) (w : World) (h1 : Row w a1 n p) (h2 : Row w a2 m q) (hm : n ≤ 1000000) (hp : ∀ x ∈ p, 0 ≤ x ∧ x < m) :
    Calls Tryz.prog 93 #[.slice a1 n c1, .slice a2 m c2] w fun e w' => ∃ a' c', e = .returned (.slice a' n c') ∧ Own w' w.heap.size a' n c' (thL p q) ∧ Below w.heap.size w w' := by
  have HL := Lib.hid h1.len; have HP := Lib.hid hp
  clear hp
  go_enter Tryz.func93, Tryz.ntmps93
  go_wp2_with (at_make; refine make1 rfl rfl rfl rfl (by omega) ?_; intro w1 ho1 hs1 hb1)
  go_loopw [6, 7, 13] (fun _ _ i wr => ∃ k : Nat, k ≤ n ∧ i = .int .i64 k ∧ Own wr w.heap.size (some ⟨w.heap.size, 0, none⟩) n n (thL (p.take k) q ++ List.replicate (n - k) 0) ∧ Below w.heap.size w wr) (fun _ _ i _ => n - (intOf i).toNat)
  case atStart => exact ⟨0, Nat.zero_le _, rfl, by simpa [thL] using ho1, hb1⟩
  case round =>
    obtain ⟨k, hk, rfl, ho, hq⟩ := hrel
    by_cases hlt : k < n
    · have hx : k < p.length := by have := HL.out; omega
      obtain ⟨b1, o1, rfl, g1⟩ := (h1.below hq).at k hlt
      rw [getD_at hx] at g1
      have hv := HP.out p[k] (List.getElem_mem hx)
      obtain ⟨v, hve⟩ : ∃ v : Nat, p[k] = v := ⟨p[k].toNat, by omega⟩
      have HST := Lib.hid (then_step p q HL.out hx)
      rw [hve] at g1 hv HST
      rw [Int.toNat_natCast] at HST
      have hvm : v < m := by omega
      obtain ⟨b2, o2, rfl, g2⟩ := (h2.below hq).at v hvm
      obtain ⟨V, HV⟩ : ∃ V, Hid (q.getD v 0 = V) := ⟨_, rfl⟩
      rw [HV.out] at g2 HST
      have i1 : (0 : Int) ≤ (v : Int) := by omega
      have i2 : (v : Int) < (m : Int) := by omega
      have hc := ho.cells
      obtain ⟨_, hcell, hfree⟩ := hc
      have f1 := hfree k
      have f2 := hcell k hlt
      clear hcell hfree hve
      go_wp2
      go_roundw
      case rel => exact ⟨k + 1, by omega, by go_num, by rw [← HST.out]; exact ho.set k V, hq.setCell (Nat.le_refl _) _⟩
      case measure => simp [intOf]; omega
    · obtain rfl : k = n := by omega
      go_wp2
      go_ret
      refine ⟨_, _, rfl, ?_, hq⟩
      have e : p.take k = p := List.take_of_length_le (by have := HL.out; omega)
      rw [e] at ho
      simpa using ho
set_option maxHeartbeats 2000000 in
theorem l01Then_any (a1 a2 : Option Addr) (n m c1 c2 : Nat) (p q : List Int) (w : World) (h1 : Row w a1 n p) (h2 : Row w a2 m q) (hm : n ≤ 1000000) (hp : ∀ x ∈ p, 0 ≤ x ∧ x < m) :
    Calls Tryz.prog 158 #[.slice a1 n c1, .slice a2 m c2] w fun e w' => ∃ a' c', e = .returned (.slice a' n c') ∧ Own w' w.heap.size a' n c' (thL p q) ∧ Below w.heap.size w w' := by
  have HL := Lib.hid h1.len; have HP := Lib.hid hp
  clear hp
  go_enter Tryz.func158, Tryz.ntmps158
  go_wp2
  go_loopw [5, 6] (fun s i wr => ∃ (k : Nat) (a' : Option Addr) (c' : Nat), k ≤ n ∧ i = .int .i64 k ∧ s = .slice a' k c' ∧ Own wr w.heap.size a' k c' (thL (p.take k) q) ∧ Below w.heap.size w wr) (fun _ i _ => n - (intOf i).toNat)
  case atStart => exact ⟨0, _, _, Nat.zero_le _, rfl, rfl, Own.fresh w rfl, below_al (Below.refl _ _) _⟩
  case round =>
    obtain ⟨k, a', c', hk, rfl, rfl, ho, hq⟩ := hrel
    by_cases hlt : k < n
    · have hx : k < p.length := by have := HL.out; omega
      obtain ⟨b1, o1, rfl, g1⟩ := (h1.below hq).at k hlt
      rw [getD_at hx] at g1
      have hv := HP.out p[k] (List.getElem_mem hx)
      obtain ⟨v, hve⟩ : ∃ v : Nat, p[k] = v := ⟨p[k].toNat, by omega⟩
      have HST := Lib.hid (thL_succ p q hx)
      rw [hve] at g1 hv HST
      rw [Int.toNat_natCast] at HST
      have hvm : v < m := by omega
      obtain ⟨b2, o2, rfl, g2⟩ := (h2.below hq).at v hvm
      obtain ⟨V, HV⟩ : ∃ V, Hid (q.getD v 0 = V) := ⟨_, rfl⟩
      rw [HV.out] at g2 HST
      have i1 : (0 : Int) ≤ (v : Int) := by omega
      have i2 : (v : Int) < (m : Int) := by omega
      have hwq := hq.size
      clear hve
      go_wp2_with (at_builtin; refine app1 rfl rfl ho rfl rfl (by omega) hwq ?_; intro g' cc w8 hO hg8 hs8 hb8)
      go_roundw
      case rel => exact ⟨k + 1, _, cc, by omega, by go_num, rfl, by rw [HST.out]; exact hO, hq.trans hb8⟩
      case measure => simp [intOf]; omega
    · obtain rfl : k = n := by omega
      go_wp2
      go_ret
      have e : p.take k = p := List.take_of_length_le (by have := HL.out; omega)
      rw [e] at ho
      exact ⟨_, _, rfl, ho, hq⟩
def cjL (x y : List Int) : List Int := thL (thL (backF x) y) x
theorem thL_mem {p q : List Int} {n : Nat} (hp : ∀ x ∈ p, 0 ≤ x ∧ x < q.length) (hq : ∀ x ∈ q, 0 ≤ x ∧ x < n) : ∀ x ∈ thL p q, 0 ≤ x ∧ x < n := by
  intro x hx
  obtain ⟨y, hy, rfl⟩ := List.mem_map.1 hx
  have := hp y hy
  have hl : y.toNat < q.length := by omega
  rw [getD_at hl]
  exact hq _ (List.getElem_mem hl)
set_option maxHeartbeats 2000000 in
theorem l04Conjugate_any (a1 a2 : Option Addr) (n c1 c2 : Nat) (p q : List Int) (w : World) (h1 : Row w a1 n p) (h2 : Row w a2 n q) (hm : n ≤ 1000000) (hp : ∀ x ∈ p, 0 ≤ x ∧ x < n) (hb : ∀ x ∈ backF p, 0 ≤ x ∧ x < n) (hq : ∀ x ∈ q, 0 ≤ x ∧ x < n) :
    Calls Tryz.prog 179 #[.slice a1 n c1, .slice a2 n c2] w fun e w' => ∃ a' c', e = .returned (.slice a' n c') ∧ Own w' w.heap.size a' n c' (cjL p q) ∧ Below w.heap.size w w' := by
  have HP := Lib.hid hp; have HB := Lib.hid hb; have HQ := Lib.hid hq; have HL := Lib.hid h2.len
  clear hp hb hq
  go_enter Tryz.func179, Tryz.ntmps179
  go_wp2_with fail
  refine (l01Back_any _ _ _ p _ h1 hm HP.out).mono ?_
  rintro e w1 ⟨a3, c3, rfl, ho3, hb3⟩
  go_wp2_with fail
  refine (l01Then_any _ _ _ _ _ _ _ q _ ho3.row (h2.below hb3) hm HB.out).mono ?_
  rintro e w2 ⟨a4, c4, rfl, ho4, hb4⟩
  go_wp2_with fail
  refine (l01Then_any _ _ _ _ _ _ _ p _ ho4.row ((h1.below hb3).below hb4) hm (thL_mem (fun x hx => by have := HB.out x hx; have := HL.out; omega) HQ.out)).mono ?_
  rintro e w3 ⟨a5, c5, rfl, ho5, hb5⟩
  go_wp2
  go_ret
  have hB2 := below_th hb3 hb4
  exact ⟨_, _, rfl, ho5.mono hB2.size, below_th hB2 hb5⟩
end Go.Proofs.YtaddclaadbjnlaaGreat

namespace Go.Proofs.YtaddclaadbjnlaaGreat
set_option maxRecDepth 100000
set_option linter.unusedVariables false
set_option linter.unusedSimpArgs false
open Go.RowKit
def plc (x : Int) : Int := if x < 0 then -x - 1 else x - 1
end Go.Proofs.YtaddclaadbjnlaaGreat

namespace Go.Proofs.YtaddclaadbjnlaaGreat
set_option linter.unusedVariables false
set_option linter.unusedSimpArgs false
set_option maxRecDepth 100000
open Go.ChangeShapes Go.WideShapes Go.ChangeAt Go.RowKit Go.Joins
theorem ownK : ownKnob Tryz.prog.godebug = none := by kernel_rfl
theorem laidOut : laidOutB Tryz.prog = true := by kernel_rfl
def I64 (x : Int) : Prop := -9223372036854775808 ≤ x ∧ x ≤ 9223372036854775807
end Go.Proofs.YtaddclaadbjnlaaGreat

namespace Go.Proofs.YtaddclaadbjnlaaGreat
set_option linter.unusedVariables false
open Go.RowKit
def Ent (f : FuncId) : Prop := ∀ (args : Array Value) (w : World), (callFunc f args).run Tryz.prog w = .ok (.enter f args) w
end Go.Proofs.YtaddclaadbjnlaaGreat

namespace Go.Proofs.YtaddclaadbjnlaaGreat
set_option maxRecDepth 100000
set_option linter.unusedVariables false
set_option linter.unusedSimpArgs false
open Go.RowKit
def IsPf (n : Nat) (p : List Int) (f g : Nat → Nat) : Prop := p.length = n ∧ (∀ i, i < n → f i < n ∧ g i < n ∧ f (g i) = i ∧ g (f i) = i) ∧ ∀ i, i < n → p.getD i 0 = (f i : Int)
def IsP (n : Nat) (p : List Int) : Prop := ∃ f g, IsPf n p f g
theorem IsP.len {n : Nat} {p : List Int} (h : IsP n p) : p.length = n := by obtain ⟨f, g, h, _⟩ := h; exact h
theorem IsP.mem {n : Nat} {p : List Int} (h : IsP n p) : ∀ x ∈ p, 0 ≤ x ∧ x < n := by
  obtain ⟨f, g, hl, h1, h2⟩ := h
  intro x hx
  obtain ⟨i, hi, rfl⟩ := List.getElem_of_mem hx
  have := h2 i (by omega)
  rw [getD_at hi] at this
  have := (h1 i (by omega)).1
  omega
theorem unit_isP (n : Nat) : IsP n (unitL n) := ⟨id, id, unitL_len n, fun i h => ⟨h, h, rfl, rfl⟩, fun i h => unitL_get n i h⟩
theorem getD_setz (xs : List Int) (j i : Nat) (x : Int) (h : i < xs.length) : (xs.set j x).getD i 0 = if i = j then x else xs.getD i 0 := by
  simp only [List.getD_eq_getElem?_getD, List.getElem?_set]
  by_cases e : i = j
  · subst e; simp [h]
  · rw [if_neg e, if_neg (fun h => e h.symm)]
theorem backK_get (n : Nat) (p : List Int) (f g : Nat → Nat) (h : IsPf n p f g) (k : Nat) (hk : k ≤ n) : ∀ i, i < n → (backK p k).getD i 0 = if g i < k then (g i : Int) else 0 := by
  obtain ⟨hl, h1, h2⟩ := h
  induction k with
  | zero => intro i hi; simp [backK, List.getD_eq_getElem?_getD]; simp [List.getElem?_replicate]; split <;> rfl
  | succ k ih =>
    intro i hi
    rw [backK_succ, getD_setz _ _ _ _ (by rw [backK_len]; omega), h2 k (by omega), ih (by omega) i hi]
    have ht : ((f k : Nat) : Int).toNat = f k := by simp
    rw [ht]
    by_cases e : i = f k
    · subst e
      rw [if_pos rfl, (h1 k (by omega)).2.2.2, if_pos (by omega)]
    · rw [if_neg e]
      have : g i ≠ k := fun hh => e (by rw [← hh]; exact ((h1 i hi).2.2.1).symm)
      by_cases hc : g i < k
      · rw [if_pos hc, if_pos (by omega)]
      · rw [if_neg hc, if_neg (by omega)]
theorem back_isP {n : Nat} {p : List Int} (h : IsP n p) : IsP n (backF p) := by
  obtain ⟨f, g, hp⟩ := h
  have hb := backK_get n p f g hp n (Nat.le_refl _)
  obtain ⟨hl, h1, h2⟩ := hp
  refine ⟨g, f, by rw [backF_len]; exact hl, fun i hi => ⟨(h1 i hi).2.1, (h1 i hi).1, (h1 i hi).2.2.2, (h1 i hi).2.2.1⟩, fun i hi => ?_⟩
  unfold backF; rw [hl, hb i hi, if_pos (h1 i hi).2.1]
end Go.Proofs.YtaddclaadbjnlaaGreat

namespace Go.Proofs.YtaddclaadbjnlaaGreat
set_option maxRecDepth 100000
set_option linter.unusedVariables false
set_option linter.unusedSimpArgs false
open Go.RowKit
def Tbl (w : World) (a : Option Addr) (n : Nat) (xss : List (List Int)) : Prop :=
  n = xss.length ∧ ∀ i, i < n → ∃ b off ai ni ci, a = some ⟨b, off, none⟩ ∧ b < w.heap.size ∧ w.cell? ⟨b, off + i, none⟩ = some (.slice ai ni ci) ∧ Row w ai ni (xss.getD i []) ∧ ni ≤ 9223372036854775807
theorem Tbl.nil (w : World) (a : Option Addr) : Tbl w a 0 [] := ⟨rfl, fun i h => absurd h (by omega)⟩
theorem Tbl.len {w : World} {a : Option Addr} {n : Nat} {xss : List (List Int)} (h : Tbl w a n xss) : n = xss.length := h.1
theorem Tbl.at {w : World} {a : Option Addr} {n : Nat} {xss : List (List Int)} (h : Tbl w a n xss) (i : Nat) (hi : i < n) : ∃ b off ai ni ci, a = some ⟨b, off, none⟩ ∧ w.cell? ⟨b, off + i, none⟩ = some (.slice ai ni ci) ∧ Row w ai ni (xss.getD i []) ∧ ni ≤ 9223372036854775807 := by
  obtain ⟨b, off, ai, ni, ci, h1, _, h2⟩ := h.2 i hi; exact ⟨b, off, ai, ni, ci, h1, h2⟩
theorem Tbl.below {w w' : World} {a : Option Addr} {n : Nat} {xss : List (List Int)} (h : Tbl w a n xss) (hb : Below w.heap.size w w') : Tbl w' a n xss :=
  ⟨h.1, fun i hi => by obtain ⟨b, off, ai, ni, ci, h1, h3, h2, h4, h5⟩ := h.2 i hi; exact ⟨b, off, ai, ni, ci, h1, Nat.lt_of_lt_of_le h3 hb.size, (hb.cell (p := ⟨b, off + i, none⟩) h3).trans h2, h4.below hb, h5⟩⟩
theorem Tbl.drewN {w : World} {a : Option Addr} {n : Nat} {xss : List (List Int)} (h : Tbl w a n xss) (k : Nat) : Tbl (w.drewN k) a n xss := h
theorem Tbl.alloc {w : World} {a : Option Addr} {n : Nat} {xss : List (List Int)} (h : Tbl w a n xss) (o : Obj) : Tbl (w.alloc o) a n xss := h.below ((Below.refl _ _).alloc (Nat.le_refl _) o)
theorem Tbl.getD {xss : List (List Int)} {i : Nat} (h : i < xss.length) : xss.getD i [] = xss[i] := by simp [List.getD_eq_getElem?_getD, List.getElem?_eq_getElem h]
end Go.Proofs.YtaddclaadbjnlaaGreat

namespace Go.Proofs.YtaddclaadbjnlaaGreat
set_option maxRecDepth 100000
set_option linter.unusedVariables false
set_option linter.unusedSimpArgs false
open Go.RowKit
theorem info_rows : (Tryz.prog.info? 41).map (fun i => (i.zero, i.size, i.bytes)) = some (some (.slice none 0 0), 1, 24) := by kernel_rfl
theorem und_rows : Tryz.prog.underlying 32 = some (.slice 41) := by kernel_rfl
abbrev SV := Option Addr × Nat × Nat
def sl (v : SV) : Value := .slice v.1 v.2.1 v.2.2
abbrev svO : SV := (none, 0, 0)
def Apart (a b : Option Addr) : Prop := ∀ g, a = some ⟨g, 0, none⟩ → b ≠ some ⟨g, 0, none⟩
theorem Apart.symm {a b : Option Addr} (h : Apart a b) : Apart b a := fun g h1 h2 => h g h2 h1
structure OwnT (w : World) (lo : Nat) (a : Option Addr) (n c : Nat) (vs : List SV) (xss : List (List Int)) : Prop where
  len : n = xss.length
  vlen : vs.length = n
  hdr : w.ownsRow lo 41 1 (.slice a n c) n (vs.map sl)
  row : ∀ i, i < n → Own w lo (vs.getD i svO).1 (vs.getD i svO).2.1 (vs.getD i svO).2.2 (xss.getD i [])
  ap : ∀ i, i < n → Apart a (vs.getD i svO).1
  pw : ∀ i j, i < n → j < n → i ≠ j → Apart (vs.getD i svO).1 (vs.getD j svO).1
section
variable {w w' : World} {lo : Nat} {a : Option Addr} {n c : Nat} {vs : List SV} {xss : List (List Int)}
theorem OwnT.nil (w : World) (lo : Nat) : OwnT w lo none 0 0 [] [] :=
  ⟨rfl, rfl, World.ownsRow_nil w lo _ 1, fun i h => absurd h (by omega), fun i h => absurd h (by omega), fun i j h => absurd h (by omega)⟩
theorem OwnT.block (h : OwnT w lo a n c vs xss) : (a = none ∧ n = 0 ∧ c = 0) ∨ ∃ g cur, a = some ⟨g, 0, none⟩ ∧ lo ≤ g ∧ Loc w g cur 41 ∧ n ≤ c ∧ c ≤ maxLen ∧ cur.size = c ∧ cur.toList.take n = vs.map sl := by
  rcases h.hdr.2 with ⟨h1, h2⟩ | ⟨g, cap, cur, h1, h2, h3, h4, h5, h6, h7⟩
  · cases h1; exact .inl ⟨rfl, rfl, rfl⟩
  · cases h1; exact .inr ⟨g, cur, rfl, h2, h3, h4, h5, by simpa using h6, by simpa using h7⟩
theorem ownsRow_mk {w : World} {lo g n c : Nat} {vs : List SV} {cur : Array Value} (hn : vs.length = n) (h1 : lo ≤ g) (h2 : Loc w g cur 41) (h3 : n ≤ c) (h4 : c ≤ maxLen) (h5 : cur.size = c) (h6 : cur.toList.take n = vs.map sl) :
    w.ownsRow lo 41 1 (.slice (some ⟨g, 0, none⟩) n c) n (vs.map sl) :=
  ⟨by simp [hn], .inr ⟨g, c, cur, rfl, h1, h2, h3, h4, by simpa using h5, by simpa using h6⟩⟩
theorem OwnT.high (h : OwnT w lo a n c vs xss) : ∀ g, a = some ⟨g, 0, none⟩ → g < w.heap.size := by
  intro g hg
  rcases h.block with ⟨h1, _⟩ | ⟨g', cur, h1, h2, h3, _⟩
  · rw [h1] at hg; cases hg
  · rw [h1] at hg; cases hg; exact h3.lt
theorem OwnT.low (h : OwnT w lo a n c vs xss) : ∀ g, a = some ⟨g, 0, none⟩ → lo ≤ g := by
  intro g hg
  rcases h.block with ⟨h1, _⟩ | ⟨g', cur, h1, h2, h3, _⟩
  · rw [h1] at hg; cases hg
  · rw [h1] at hg; cases hg; exact h2
theorem OwnT.cap (h : OwnT w lo a n c vs xss) : n ≤ c ∧ c ≤ 9223372036854775807 := by
  rcases h.block with ⟨_, h1, h2⟩ | ⟨g', cur, h1, h2, h3, h4, h5, _⟩
  · omega
  · unfold maxLen at h5; omega
theorem OwnT.keep (h : OwnT w lo a n c vs xss) (hk : ∀ g, (a = some ⟨g, 0, none⟩ ∨ ∃ i, i < n ∧ (vs.getD i svO).1 = some ⟨g, 0, none⟩) → g < w.heap.size → w'.heap[g]? = w.heap[g]?) : OwnT w' lo a n c vs xss := by
  refine ⟨h.len, h.vlen, ?_, fun i hi => (h.row i hi).keep fun g hg hlt => hk g (.inr ⟨i, hi, hg⟩) hlt, h.ap, h.pw⟩
  rcases h.block with ⟨h1, h2, h3⟩ | ⟨g, cur, h1, h2, h3, h4, h5, h6, h7⟩
  · subst h1 h2 h3
    have : vs = [] := List.eq_nil_of_length_eq_zero h.vlen
    subst this; exact World.ownsRow_nil _ _ _ _
  · subst h1
    exact ownsRow_mk h.vlen h2 ((hk g (.inl rfl) h3.lt).trans h3) h4 h5 h6 h7
theorem OwnT.below (h : OwnT w lo a n c vs xss) (hb : Below w.heap.size w w') : OwnT w' lo a n c vs xss := h.keep fun g _ hlt => hb.block g hlt
theorem OwnT.alloc (h : OwnT w lo a n c vs xss) (o : Obj) : OwnT (w.alloc o) lo a n c vs xss := h.below ((Below.refl _ _).alloc (Nat.le_refl _) o)
theorem OwnT.drewN (h : OwnT w lo a n c vs xss) (k : Nat) : OwnT (w.drewN k) lo a n c vs xss := h.keep fun _ _ _ => rfl
theorem OwnT.mono {lo' : Nat} (h : OwnT w lo a n c vs xss) (hl : lo' ≤ lo) : OwnT w lo' a n c vs xss := by
  refine ⟨h.len, h.vlen, ?_, fun i hi => (h.row i hi).mono hl, h.ap, h.pw⟩
  rcases h.block with ⟨h1, h2, h3⟩ | ⟨g, cur, h1, h2, h3, h4, h5, h6, h7⟩
  · subst h1 h2 h3
    have : vs = [] := List.eq_nil_of_length_eq_zero h.vlen
    subst this; exact World.ownsRow_nil _ _ _ _
  · subst h1; exact ownsRow_mk h.vlen (Nat.le_trans hl h2) h3 h4 h5 h6 h7
theorem OwnT.setlo (h : OwnT w lo a n c vs xss) {p : Addr} (hp : p.block < lo) (u : Value) : OwnT (w.setCell p u) lo a n c vs xss := by
  refine h.keep fun g hg _ => Below.heap_setCell _ _ _ _ ?_
  rcases hg with hg | ⟨i, hi, hg⟩
  · have := h.low g hg; omega
  · have := (h.row i hi).lo g hg; omega
theorem OwnT.blo (h : OwnT w lo a n c vs xss) : ∀ g, (a = some ⟨g, 0, none⟩ ∨ ∃ i, i < n ∧ (vs.getD i svO).1 = some ⟨g, 0, none⟩) → lo ≤ g := fun g hg => by
  rcases hg with hg | ⟨i, hi, hg⟩
  · exact h.low g hg
  · exact (h.row i hi).lo g hg
theorem OwnT.bhi (h : OwnT w lo a n c vs xss) : ∀ g, (a = some ⟨g, 0, none⟩ ∨ ∃ i, i < n ∧ (vs.getD i svO).1 = some ⟨g, 0, none⟩) → g < w.heap.size := fun g hg => by
  rcases hg with hg | ⟨i, hi, hg⟩
  · exact h.high g hg
  · exact (h.row i hi).hi g hg
theorem OwnT.cells (h : OwnT w lo a n c vs xss) (hn : 0 < n) : ∃ g, a = some ⟨g, 0, none⟩ ∧ g < w.heap.size ∧ (∀ i, i < n → w.cell? ⟨g, i, none⟩ = some (.slice (vs.getD i svO).1 (vs.getD i svO).2.1 (vs.getD i svO).2.2)) ∧ ∀ i, w.frozen? ⟨g, i, none⟩ = false := by
  rcases h.block with ⟨h1, h2, h3⟩ | ⟨g, cur, h1, h2, h3, h4, h5, h6, h7⟩
  · omega
  · refine ⟨g, h1, h3.lt, fun i hi => h3.cell i ?_, fun i => h3.free i⟩
    have hx : (cur.toList.take n)[i]? = (vs.map sl)[i]? := by rw [h7]
    have hxi : i < vs.length := by have := h.vlen; omega
    rw [List.getElem?_take, if_pos hi] at hx
    simp [List.getElem?_eq_getElem hxi] at hx
    simp [List.getD_eq_getElem?_getD, List.getElem?_eq_getElem hxi, hx, sl]
theorem OwnT.tbl (h : OwnT w lo a n c vs xss) : Tbl w a n xss := by
  refine ⟨h.len, fun i hi => ?_⟩
  obtain ⟨g, h1, h2, h3, h4⟩ := h.cells (by omega)
  exact ⟨g, 0, _, _, _, h1, h2, by simpa using h3 i hi, (h.row i hi).row, by have := (h.row i hi).cap; omega⟩
theorem getD_set' {α : Type} (l : List α) (j i : Nat) (x d : α) (h : i < l.length) : (l.set j x).getD i d = if i = j then x else l.getD i d := by
  simp only [List.getD_eq_getElem?_getD, List.getElem?_set]
  by_cases e : i = j
  · subst e; simp [h]
  · rw [if_neg e, if_neg (fun h => e h.symm)]
theorem OwnT.put {g : Nat} (h : OwnT w lo (some ⟨g, 0, none⟩) n c vs xss) (i : Nat) (hi : i < n) {v : SV} {ys : List Int} (ho : Own w lo v.1 v.2.1 v.2.2 ys) (h1 : v.1 ≠ some ⟨g, 0, none⟩) (h2 : ∀ j, j < n → j ≠ i → Apart v.1 (vs.getD j svO).1) :
    OwnT (w.setCell ⟨g, i, none⟩ (.slice v.1 v.2.1 v.2.2)) lo (some ⟨g, 0, none⟩) n c (vs.set i v) (xss.set i ys) := by
  have hl := h.len
  have hv := h.vlen
  have hg : ∀ j, j < n → ∀ g', (vs.getD j svO).1 = some ⟨g', 0, none⟩ → g' ≠ g := fun j hj g' hg' e => by subst e; exact h.ap j hj g' rfl hg'
  refine ⟨by simp [hl], by simp [hv], ?_, fun j hj => ?_, fun j hj => ?_, fun j k hj hk hjk => ?_⟩
  · rcases h.block with ⟨h1, h2, h3⟩ | ⟨g', cur, e1, e2, e3, e4, e5, e6, e7⟩
    · cases h1
    · cases e1
      refine ownsRow_mk (by simp [hv]) e2 (e3.set i _) e4 e5 (by simpa using e6) ?_
      rw [Array.toList_setIfInBounds, List.take_set, e7, List.map_set]; rfl
  · rw [getD_set' _ _ _ _ _ (by omega), getD_set' _ _ _ _ _ (by omega)]
    by_cases e : j = i
    · rw [if_pos e, if_pos e]; exact ho.setne (fun g' hg' e => h1 (by rw [hg']; subst e; rfl)) _
    · rw [if_neg e, if_neg e]; exact (h.row j hj).setne (fun g' hg' => hg j hj g' hg') _
  · rw [getD_set' _ _ _ _ _ (by omega)]
    by_cases e : j = i
    · rw [if_pos e]; intro g' hg' hv'; cases hg'; exact h1 hv'
    · rw [if_neg e]; exact h.ap j hj
  · rw [getD_set' _ _ _ _ _ (by omega), getD_set' _ _ _ _ _ (by omega)]
    by_cases e : j = i
    · rw [if_pos e, if_neg (by omega)]; exact h2 k hk (by omega)
    · rw [if_neg e]
      by_cases e' : k = i
      · rw [if_pos e']; exact (h2 j hj e).symm
      · rw [if_neg e']; exact h.pw j k hj hk hjk
theorem OwnT.setrow (h : OwnT w lo a n c vs xss) (i : Nat) (hi : i < n) {g : Nat} (hg : (vs.getD i svO).1 = some ⟨g, 0, none⟩) (j : Nat) (x : Int) :
    OwnT (w.setCell ⟨g, j, none⟩ (.int .i64 x)) lo a n c vs (xss.set i ((xss.getD i []).set j x)) := by
  have hl := h.len
  refine ⟨by simp [hl], h.vlen, ?_, fun k hk => ?_, h.ap, h.pw⟩
  · rcases h.block with ⟨h1, h2, h3⟩ | ⟨g', cur, e1, e2, e3, e4, e5, e6, e7⟩
    · omega
    · subst e1
      exact ownsRow_mk h.vlen e2 (e3.setne (fun e => h.ap i hi g' rfl (by rw [hg, e])) _) e4 e5 e6 e7
  · rw [getD_set' _ _ _ _ _ (by omega)]
    by_cases e : k = i
    · subst e
      rw [if_pos rfl]
      have := h.row k hi
      rw [hg] at this ⊢
      exact this.set j x
    · rw [if_neg e]
      exact (h.row k hk).setne (fun g' hg' e' => h.pw k i hk hi e g' hg' (by rw [hg, e'])) _
end
theorem makeT {ops : Array Oper} {rest : List Oper} {o : Oper} {a : Act} {Q : Exit → Act → World → Prop} {w : World} (hgd : o.guard = none) {l c : Operand}
    (ho : o.op = Op.makeSlice 32 l c) {n : Nat} (hl : a.eval l = .int .i64 n) (hc : a.eval c = .int .i64 n) (hn : n ≤ 1000000000000)
    (h : ∀ w', OwnT w' w.heap.size (some ⟨w.heap.size, 0, none⟩) n n (List.replicate n svO) (List.replicate n []) → w.heap.size < w'.heap.size → Below w.heap.size w w' → wpList Tryz.prog ops Q rest (a.put o.dst (.slice (some ⟨w.heap.size, 0, none⟩) n n)) w') :
    wpList Tryz.prog ops Q (o :: rest) a w := by
  obtain ⟨i0, hi, hz0, hz1, hz2⟩ := info_parts info_rows
  refine wpList_make_full w hgd l c 32 ho w.heap.size 41 i0 (.slice none 0 0) 1 und_rows hi hz0 hz1 .i64 .i64 n n n hl hc rfl rfl (by rw [hz2]; omega) (by unfold maxLen; omega) (Nat.le_refl _) ?_
  intro w' ho' hg
  have e : (madeCells (Value.slice none 0 0).cells (n * 1)).toList = (List.replicate n svO).map sl := by
    rw [Nat.mul_one, List.map_replicate]; exact toList_madeCells_one _ _
  rw [e] at ho'
  have hrep : ∀ i, i < n → (List.replicate n svO).getD i svO = svO := fun i hi => by simp [List.getD_eq_getElem?_getD, hi]
  refine h w' ⟨by simp, by simp, ho', fun i hi => ?_, fun i hi => ?_, fun i j hi hj _ => ?_⟩ ?_ ((Below.refl _ _).grown hg (Nat.le_refl _) (by simp))
  · rw [hrep i hi]
    have : (List.replicate n ([] : List Int)).getD i [] = [] := by simp [List.getD_eq_getElem?_getD, hi]
    rw [this]; exact Own.nil _ _
  · rw [hrep i hi]; intro g _ h; cases h
  · rw [hrep i hi]; intro g h; cases h
  · rcases ho'.2 with ⟨h1, _⟩ | ⟨g, cap, cur, h1, h2, h3, _⟩
    · cases h1
    · cases h1; exact lt_of_block h3
end Go.Proofs.YtaddclaadbjnlaaGreat
