/-
  Walks and plain laws of this seat, some texts in one.
  No condition but bounds on lengths.
-/
import Derived.Test.YtdkpalllfekiiaaGreatBase3
import Derived.Test.YtdkpalllfekiiaaGreatBase
import Derived.Test.YtdkpalllfekiiaaGreatBase2
import Derived.IntWalk
import Derived.Deep.DeepCutAuto
import Derived.Deep.RegionHeld3
namespace Go.Proofs.YtdkpalllfekiiaaGreat
set_option maxRecDepth 100000
set_option linter.unusedVariables false
set_option linter.unusedSimpArgs false
open Go.RowKit

end Go.Proofs.YtdkpalllfekiiaaGreat

namespace Go.Proofs.YtdkpalllfekiiaaGreat
set_option maxRecDepth 100000
set_option linter.unusedVariables false
set_option linter.unusedSimpArgs false
open Go.RowKit

end Go.Proofs.YtdkpalllfekiiaaGreat

namespace Go.Proofs.YtdkpalllfekiiaaGreat
set_option maxRecDepth 100000
set_option linter.unusedVariables false
set_option linter.unusedSimpArgs false
open Go.RowKit

theorem Tbl.gridM {w : World} {a : Option Addr} {n m : Nat} {t : List (List Int)} (h : Tbl w a n t) (hs : SqM n m t) (hn : 0 < n) : ∃ b off A O C, a = some ⟨b, off, none⟩ ∧ Grid w b off A O C n t := by
  obtain ⟨b, off, ai, ni, ci, ha, hb, _⟩ := h.2 0 hn
  have H : ∀ x, ∃ q : Nat × Nat × Nat, x < n → w.cell? ⟨b, off + x, none⟩ = some (.slice (some ⟨q.1, q.2.1, none⟩) n q.2.2) ∧ q.1 < w.heap.size ∧ ∀ y, y < n → w.cell? ⟨q.1, q.2.1 + y, none⟩ = some (.int .i64 ((tv t x y : Nat) : Int)) := by
    intro x
    by_cases hx : x < n
    · obtain ⟨b', off', ax, nx, cx, e, _, hc, hr, _⟩ := h.2 x hx
      rw [ha] at e; cases e
      have hl : nx = n := by rw [hr.len, (hs.2 x hx).1]
      subst hl
      obtain ⟨bx, ox, e, hbx, hcx⟩ := hr.all hn
      subst e
      exact ⟨(bx, ox, cx), fun _ => ⟨hc, hbx, fun y hy => by rw [hcx y hy, ((hs.2 x hx).2 y hy).2]⟩⟩
    · exact ⟨(0, 0, 0), fun h => absurd h hx⟩
  obtain ⟨Q, hQ⟩ := Classical.axiomOfChoice H
  exact ⟨b, off, fun x => (Q x).1, fun x => (Q x).2.1, fun x => (Q x).2.2, ha, hb, fun x hx => (hQ x hx).1, fun x hx => (hQ x hx).2.1, fun x y hx hy => (hQ x hx).2.2 y hy⟩

/-- a word of letters of s strands -/
def IsWd (s : Nat) (xs : List Int) : Prop := xs.length ≤ 30 ∧ ∀ x ∈ xs, x ≠ 0 ∧ 1 - (s : Int) ≤ x ∧ x ≤ (s : Int) - 1
theorem IsWd.plc {s : Nat} {xs : List Int} (h : IsWd s xs) (x : Int) (hx : x ∈ xs) : 0 ≤ plc x ∧ plc x + 1 < s := by
  have := h.2 x hx
  unfold Proofs.YtdkpalllfekiiaaGreat.plc; split <;> omega

end Go.Proofs.YtdkpalllfekiiaaGreat

namespace Go.Proofs.YtdkpalllfekiiaaGreat
set_option maxRecDepth 100000
set_option linter.unusedVariables false
set_option linter.unusedSimpArgs false
open Go.RowKit

theorem isBr_mk {s : Nat} {xs : List Int} (hs2 : 2 ≤ s) (hs6 : s ≤ 6) (h : IsWd s xs) : isBr s xs = true := by
  have e1 : wrap64 (1 - (s : Int)) = 1 - (s : Int) := IntWalk.wrap64_in _ ⟨by omega, by omega⟩
  have e2 : wrap64 ((s : Int) - 1) = (s : Int) - 1 := IntWalk.wrap64_in _ ⟨by omega, by omega⟩
  unfold isBr
  rw [Bool.and_eq_true, Bool.and_eq_true, Bool.and_eq_true]
  refine ⟨⟨⟨decide_eq_true (by omega), decide_eq_true (by omega)⟩, decide_eq_true h.1⟩, ?_⟩
  rw [List.all_eq_true]
  intro x hx
  have := h.2 x hx
  unfold isLet
  rw [e1, e2]
  simp
  omega
theorem Row.lit1 {w : World} {b off : Nat} {x : Int} (h : w.cell? ⟨b, off, none⟩ = some (.int .i64 x)) : Row w (some ⟨b, off, none⟩) 1 [x] := by
  refine ⟨rfl, fun i hi => ?_⟩
  obtain rfl : i = 0 := by omega
  exact ⟨b, off, rfl, World.block_lt_of_cell? w _ h, h⟩
theorem isBr_wd {s : Nat} {xs : List Int} (h : isBr s xs = true) : IsWd s xs := ⟨(isBr_let h).2.1, (isBr_let h).2.2⟩
theorem IsWd.one {s : Nat} {xs : List Int} (h : IsWd s xs) {x : Int} (hx : x ∈ xs) : IsWd s [x] := ⟨by simp, fun y hy => by rw [List.mem_singleton] at hy; subst hy; exact h.2 _ hx⟩

end Go.Proofs.YtdkpalllfekiiaaGreat

namespace Go.Proofs.YtdkpalllfekiiaaGreat
set_option maxRecDepth 100000
set_option linter.unusedVariables false
set_option linter.unusedSimpArgs false
open Go.RowKit

theorem Loc.heldA {w : World} {b : Nat} {x y z u : Value} {t : TypeId} (h : Loc w b #[x, y, z, u] t) : (w.cell? ⟨b, 0, none⟩ = some x ∧ w.cell? ⟨b, 1, none⟩ = some y) ∧ w.cell? ⟨b, 2, none⟩ = some z ∧ w.cell? ⟨b, 3, none⟩ = some u := ⟨⟨h.cell 0 rfl, h.cell 1 rfl⟩, h.cell 2 rfl, h.cell 3 rfl⟩
theorem Row.drew {w : World} {a : Option Addr} {n : Nat} {xs : List Int} (h : Row w a n xs) : Row w.drew a n xs := h
/-- nil, or a new list with an element -/
def WfR (L : List Int) (W : World) (e : Ending) (w' : World) : Prop := ((L = [] ∧ e = .returned (.slice none 0 0)) ∨ (L ≠ [] ∧ ∃ b c, e = .returned (.slice (some ⟨b, 0, none⟩) 3 c) ∧ Own w' W.heap.size (some ⟨b, 0, none⟩) 3 c L)) ∧ Below W.heap.size W w'
theorem wd3 {x y z : Int} (h1 : x ≠ 0 ∧ -2 ≤ x ∧ x ≤ 2) (h2 : y ≠ 0 ∧ -2 ≤ y ∧ y ≤ 2) (h3 : z ≠ 0 ∧ -2 ≤ z ∧ z ≤ 2) : IsWd 3 [x, y, z] := by
  refine ⟨by simp, fun q hq => ?_⟩
  simp only [List.mem_cons, List.not_mem_nil, or_false] at hq
  rcases hq with rfl | rfl | rfl <;> omega

end Go.Proofs.YtdkpalllfekiiaaGreat

namespace Go.Proofs.YtdkpalllfekiiaaGreat
set_option maxRecDepth 100000
set_option linter.unusedVariables false
set_option linter.unusedSimpArgs false
open Go.RowKit

end Go.Proofs.YtdkpalllfekiiaaGreat

namespace Go.Proofs.YtdkpalllfekiiaaGreat
set_option maxRecDepth 100000
set_option linter.unusedVariables false
set_option linter.unusedSimpArgs false
open Go.RowKit

/-- a new list -/
def NewR (L : List Int) (W : World) (e : Ending) (w' : World) : Prop := ∃ a k c, e = .returned (.slice a k c) ∧ Own w' W.heap.size a k c L ∧ Below W.heap.size W w'
theorem Own.lit3 {w : World} {b lo : Nat} {x y z : Int} (h : Loc w b #[.int .i64 x, .int .i64 y, .int .i64 z] 2) (hlo : lo ≤ b) : Own w lo (some ⟨b, 0, none⟩) 3 3 [x, y, z] := Own.mk rfl hlo h (Nat.le_refl _) (by unfold maxLen; omega) rfl rfl
theorem Own.empty0 (w : World) {b lo : Nat} (hb : b = w.heap.size) (hlo : lo ≤ b) : Own (w.alloc (.cells #[] 2)) lo (some ⟨b, 0, none⟩) 0 0 [] := Own.mk rfl hlo (Loc.new w hb _ _) (Nat.le_refl _) (by unfold maxLen; omega) rfl rfl
theorem Loc.held2 {w : World} {b : Nat} {x y : Value} {t : TypeId} (h : Loc w b #[x, y] t) : w.cell? ⟨b, 0, none⟩ = some x ∧ w.cell? ⟨b, 1, none⟩ = some y := ⟨h.cell 0 rfl, h.cell 1 rfl⟩

theorem tri_next_y (n x y : Nat) : tri n x y n = tri n x (y + 1) 0 := by unfold tri; rw [Nat.add_zero, ← Nat.add_assoc, Nat.add_mul (x * n + y) 1 n, Nat.one_mul]
theorem tri_next_x (n x : Nat) : tri n x n 0 = tri n (x + 1) 0 0 := by unfold tri; rw [Nat.add_mul x 1 n, Nat.one_mul]; simp
theorem tri_end (n : Nat) : tri n n 0 0 = n * n * n := by unfold tri; simp

end Go.Proofs.YtdkpalllfekiiaaGreat

namespace Go.Proofs.YtdkpalllfekiiaaGreat
set_option maxRecDepth 100000
set_option linter.unusedVariables false
set_option linter.unusedSimpArgs false
open Go.RowKit

def cstR (n k : Nat) : List Int := (List.range n).map fun _ => (k : Int)
theorem cstR_len (n k : Nat) : (cstR n k).length = n := by simp [cstR]
theorem cstR_succ {n k j : Nat} (h : j < n) : (cstR n k).take (j + 1) = (cstR n k).take j ++ [(k : Int)] := by
  rw [List.take_succ_eq_append_getElem (by rw [cstR_len]; exact h)]; simp [cstR]
theorem cstL_succ {n k : Nat} (h : k < n) : (cstL n).take (k + 1) = (cstL n).take k ++ [cstR n k] := by
  have hl : k < (cstL n).length := by unfold cstL; rw [tabF_len]; exact h
  rw [List.take_succ_eq_append_getElem hl]
  have e := tabF_get n (fun x _ => (x : Int)) k h
  have e2 := Tbl.getD hl
  unfold cstL at *
  rw [← e2, e]; rfl

set_option maxHeartbeats 4000000 in
theorem l03Solution_any (a : Option Addr) (n c : Nat) (f : List (List Int)) (w : World) (h : Tbl w a n f) (hf : Sq n f) (hn1 : 1 ≤ n) (hn : n ≤ 12) :
    Calls Tryz.prog 92 #[rAgg a n c] w fun e w' => ∃ a1 c1 vs a1' c1' vs', e = .returned (sAgg a1 n c1 a1' n c1') ∧ OwnS w' w.heap.size a1 n c1 vs f a1' n c1' vs' (cstL n) ∧ Below w.heap.size w w' := by
  have hA := (Loc.new w rfl #[.slice a n c] 106).alloc (.cells #[.slice none 0 0, .slice none 0 0] 42)
  have hR := Loc.new (w.alloc (.cells #[.slice a n c] 106)) rfl #[.slice none 0 0, .slice none 0 0] 42
  rw [size_alloc] at hR
  have hB := below_al (below_al (Below.refl w.heap.size w) (.cells #[.slice a n c] 106)) (.cells #[.slice none 0 0, .slice none 0 0] 42)
  have hlen : ∀ x ∈ f, x.length ≤ 1000000 := fun x hx => by
    obtain ⟨i, hi, rfl⟩ := List.getElem_of_mem hx
    have := hf.row (show i < n by have := hf.len; omega)
    rw [Tbl.getD hi] at this; omega
  have HLEN := Lib.hid hlen; have HF := Lib.hid hf
  clear hlen hf
  go_enter Tryz.func92, Tryz.ntmps92
  have lA := hA.one
  go_wp2_with fail
  generalize (w.alloc (.cells #[.slice a n c] 106)).alloc (.cells #[.slice none 0 0, .slice none 0 0] 42) = w0 at *
  refine (l01Own2_any _ _ _ f _ (h.below hB) (by omega) HLEN.out).mono ?_
  rintro e w1 ⟨a1, c1, vs1, rfl, ho1, hb1⟩
  have hzr : w.heap.size + 1 < w0.heap.size := hR.lt
  have hz1 := hb1.size
  have hO := Loc.new w1 rfl #[.slice a1 n c1, .slice none 0 0] 42
  have hA1 := (hA.below hb1 hA.lt)
  have hR1 := (hR.below hb1 hR.lt)
  have hq0 : Below w1.heap.size w1 (w1.alloc (.cells #[.slice a1 n c1, .slice none 0 0] 42)) := below_al (Below.refl w1.heap.size w1) _
  have hB1 := below_th hB hb1
  have lA1 := (hA1.alloc (.cells #[.slice a1 n c1, .slice none 0 0] 42)).one
  clear hA hR hB lA hb1
  go_wp2
  clear lA1
  go_loopw [4] (fun i wr => ∃ (k : Nat) (az : Option Addr) (cz : Nat) (vz : List SV), k ≤ n ∧ i = .int .i64 k ∧ Loc wr w1.heap.size #[.slice a1 n c1, .slice az k cz] 42 ∧ OwnT wr (w1.heap.size + 1) az k cz vz ((cstL n).take k) ∧ Below w1.heap.size w1 wr) (fun i _ => n - (intOf i).toNat)
  case atStart => exact ⟨0, none, 0, [], Nat.zero_le _, rfl, hO, by simpa using OwnT.nil _ _, hq0⟩
  case round =>
    clear hO hq0
    obtain ⟨k, az, cz, vz, hk, rfl, hO, ho, hq⟩ := hrel
    have hAr := hA1.below hq hA1.lt
    have lA := hAr.one
    have hOlt := hO.lt
    by_cases hlt : k < n
    · have lA2 := (hAr.alloc (.cells #[] 2)).one
      have hE := Own.empty0 wr (lo := wr.heap.size) rfl (Nat.le_refl _)
      have hqe := below_al (Below.refl wr.heap.size wr) (.cells #[] 2)
      go_wp2
      clear lA lA2
      go_loopw [5, 6] (fun z i wq => ∃ (j : Nat) (ar : Option Addr) (cr : Nat), j ≤ n ∧ i = .int .i64 j ∧ z = .slice ar j cr ∧ Own wq wr.heap.size ar j cr ((cstR n k).take j) ∧ Below wr.heap.size wr wq) (fun _ i _ => n - (intOf i).toNat)
      case atStart => exact ⟨0, _, 0, Nat.zero_le _, rfl, rfl, by simpa using hE, hqe⟩
      case round =>
        clear hE hqe
        obtain ⟨j, ar, cr, hj, rfl, rfl, hor, hqr⟩ := hrel
        have hAq := hAr.below hqr hAr.lt
        have lA := hAq.one
        by_cases hjt : j < n
        · have HS := Lib.hid (cstR_succ (k := k) hjt)
          have hwq := hqr.size
          go_wp2_with (at_builtin; refine app1 rfl rfl hor rfl rfl (by omega) hwq ?_; intro g' cc w8 hOw hg8 hs8 hb8)
          go_roundw
          case rel => exact ⟨j + 1, _, _, by omega, by go_num, rfl, by rw [HS.out]; exact hOw, hqr.trans hb8⟩
          case measure => simp [intOf]; omega
        · obtain rfl : j = n := by omega
          rw [List.take_of_length_le (by rw [cstR_len]; exact Nat.le_refl _)] at hor
          have hO3 := hO.below hqr hO.lt
          have lO := hO3.two
          have lO' := (hO3.alloc (.cells #[.slice ar j cr] 24)).two
          have ho3 := ho.below hqr
          have HS := Lib.hid (cstL_succ hlt)
          have hwq := hqr.size
          go_wp2_with (at_builtin; refine appT1 rfl rfl ho3 rfl (hor.mono (by omega)) (fun g h1 h2 => by have h3 := ho.high _ h1; have h4 := hor.lo _ h2; omega) (fun i hi g h1 h2 => by have h3 := hor.lo _ h1; have h4 := (ho.row i hi).hi _ h2; omega) rfl (by omega) (by omega) ?_; intro g' cc w9 hOT hb9; have hO9 := hO3.below hb9 (by omega); have lO9 := hO9.two)
          have hset := hO9.set 1 (.slice (some ⟨g', 0, none⟩) (k + 1) cc)
          go_roundw
          case rel => exact ⟨k + 1, _, _, _, by omega, by go_num, hset, by rw [HS.out]; exact hOT.setlo (by show w1.heap.size < _; omega) _, below_setne ((hq.trans (hqr.mono (by omega))).trans (hb9.mono (by omega))) (by show _ ≤ w1.heap.size; omega) _⟩
          case measure => simp [intOf]; omega
    · obtain rfl : k = n := by omega
      rw [List.take_of_length_le (by unfold cstL; rw [tabF_len]; exact Nat.le_refl _)] at ho
      have lO := hO.two
      have hRr := hR1.below hq hR1.lt
      have lR := hRr.two
      have hT1 := ho1.below hq
      have hap : ∀ g, TblS a1 k vs1 g → ¬ TblS az k vz g := fun g h1 h2 => by have e1 := ho1.uHi g h1; have e2 := ho.uLo g h2; omega
      go_wp2
      refine bodyPost_ret (v := sAgg a1 k c1 az k cz) (by simp [results, Tryz.results92, go_sem, lR, lO]) rfl ⟨a1, c1, vs1, az, cz, vz, rfl, ⟨?_, ?_, hap⟩, ?_⟩
      · exact ((hT1.setlo (by show w.heap.size + 1 < w0.heap.size; omega) _).setlo (by show w.heap.size + 1 < w0.heap.size; omega) _).mono (by omega)
      · exact ((ho.setlo (by show w.heap.size + 1 < w1.heap.size + 1; omega) _).setlo (by show w.heap.size + 1 < w1.heap.size + 1; omega) _).mono (by omega)
      · exact below_setne (below_setne (hB1.trans (hq.mono hB1.size)) (by show w.heap.size ≤ w.heap.size + 1; omega) _) (by show w.heap.size ≤ w.heap.size + 1; omega) _

end Go.Proofs.YtdkpalllfekiiaaGreat

namespace Go.Proofs.YtdkpalllfekiiaaGreat
set_option linter.unusedVariables false
set_option linter.unusedSimpArgs false

/-- the tuple with the number N is led to itself -/
def colAt (n s : Nat) (f g : List (List Int)) (xs : List Int) (N : Nat) : Bool := decide (actL n f g xs (digL n s N) = digL n s N)
/-- the colourings among the first k tuples -/
def colsK (n s : Nat) (f g : List (List Int)) (xs : List Int) (k : Nat) : List (List Int) := ((List.range k).filter (colAt n s f g xs)).map (digL n s)
def colsL (n s : Nat) (f g : List (List Int)) (xs : List Int) : List (List Int) := colsK n s f g xs (n ^ s)
section
variable {n s : Nat} {f g : List (List Int)} {xs : List Int} {k : Nat}
theorem colsK_zero : colsK n s f g xs 0 = [] := rfl
theorem colsK_yes (h : colAt n s f g xs k = true) : colsK n s f g xs (k + 1) = colsK n s f g xs k ++ [digL n s k] := by
  unfold colsK; rw [List.range_succ, List.filter_append, List.map_append]; simp [h]
theorem colsK_no (h : colAt n s f g xs k = false) : colsK n s f g xs (k + 1) = colsK n s f g xs k := by
  unfold colsK; rw [List.range_succ, List.filter_append, List.map_append]; simp [h]
theorem colsK_len : (colsK n s f g xs k).length ≤ k := by
  unfold colsK
  rw [List.length_map]
  exact Nat.le_trans (List.length_filter_le _ _) (by simp)
theorem colsK_mem {l : List Int} (h : l ∈ colsK n s f g xs k) : ∃ N, N < k ∧ l = digL n s N := by
  unfold colsK at h
  rw [List.mem_map] at h
  obtain ⟨N, hN, e⟩ := h
  exact ⟨N, List.mem_range.1 ((List.mem_filter.1 hN).1), e.symm⟩
theorem tot_all {xss : List (List Int)} {s : Nat} (h : ∀ l ∈ xss, l.length = s) : tot xss = xss.length * s := by
  induction xss with
  | nil => simp [tot]
  | cons x r ih =>
    have e := ih (fun l hl => h l (List.mem_cons_of_mem _ hl))
    have e2 := h x (List.mem_cons_self ..)
    unfold tot at *
    simp only [List.map_cons, List.sum_cons, List.length_cons, e, e2]
    rw [Nat.add_mul, Nat.one_mul]; omega
theorem colsK_tot : tot (colsK n s f g xs k) ≤ k * s := by
  rw [tot_all (s := s) (fun l hl => by obtain ⟨N, _, e⟩ := colsK_mem hl; rw [e, digL_len])]
  exact Nat.mul_le_mul_right s colsK_len
end

/-- how many tuples there are, or 0 if there are too many -/
theorem pow_step {n k : Nat} : n ^ k * n = n ^ (k + 1) := (Nat.pow_succ ..).symm
theorem pow_mono {n k s : Nat} (hn : 1 ≤ n) (h : k ≤ s) : n ^ k ≤ n ^ s := Nat.pow_le_pow_right hn h

end Go.Proofs.YtdkpalllfekiiaaGreat

namespace Go.Proofs.YtdkpalllfekiiaaGreat
set_option maxRecDepth 100000
set_option linter.unusedVariables false
set_option linter.unusedSimpArgs false
open Go.RowKit

/-- how many tuples there are, and whether they are not too many -/
def CntR (n s : Nat) (e : Ending) : Prop := (n ^ s ≤ 5000 ∧ e = .returned (.tuple #[.int .i64 ((n ^ s : Nat) : Int), .bool true])) ∨ (5000 < n ^ s ∧ e = .returned (.tuple #[.int .i64 0, .bool false]))

/-- the colourings, or none if there are too many tuples -/
def colsC (n s : Nat) (f g : List (List Int)) (xs : List Int) : List (List Int) × Int := if n ^ s ≤ 5000 then (colsL n s f g xs, 0) else ([], 3)

end Go.Proofs.YtdkpalllfekiiaaGreat

namespace Go.Proofs.YtdkpalllfekiiaaGreat
set_option linter.unusedVariables false
set_option linter.unusedSimpArgs false

/-- the weights of the first k of some tuples -/
def wtsK (n : Nat) (f g M : List (List Int)) (m : Int) (xs : List Int) (L : List (List Int)) (k : Nat) : List Int := (L.take k).map (wtF n f g M m xs)
section
variable {n s : Nat} {f g M : List (List Int)} {m : Int} {xs : List Int} {L : List (List Int)} {k : Nat}
theorem wtsK_zero : wtsK n f g M m xs L 0 = [] := by simp [wtsK]
theorem wtsK_succ (h : k < L.length) : wtsK n f g M m xs L (k + 1) = wtsK n f g M m xs L k ++ [wtF n f g M m xs (L.getD k [])] := by
  unfold wtsK
  rw [List.take_succ_eq_append_getElem h, List.map_append]
  simp [List.getD_eq_getElem?_getD, List.getElem?_eq_getElem h]
theorem wtsK_all : wtsK n f g M m xs L L.length = L.map (wtF n f g M m xs) := by simp [wtsK]
theorem wtsK_len (h : k ≤ L.length) : (wtsK n f g M m xs L k).length = k := by unfold wtsK; rw [List.length_map, List.length_take]; omega
end
/-- all colourings' weights, and the code -/
def cwF (f g : List (List Int)) (m : Int) (M : List (List Int)) (s : Int) (xs : List Int) : List Int × Int :=
  if isSol f g then (if isBr s xs then (if isMx f.length m M then (if wtFlt f.length f g M m = [] then (if f.length ^ s.toNat ≤ 5000 then ((colsL f.length s.toNat f g xs).map (wtF f.length f g M m xs), 0) else ([], 3)) else ([], 5)) else ([], 2)) else ([], 1)) else ([], 1)
section
variable {f g M : List (List Int)} {m s : Int} {xs : List Int}
theorem cwF_0 (h : isSol f g = false) : cwF f g m M s xs = ([], 1) := by unfold cwF; rw [h]; rfl
theorem cwF_1 (h : isSol f g = true) (h1 : isBr s xs = false) : cwF f g m M s xs = ([], 1) := by unfold cwF; rw [h, h1]; rfl
theorem cwF_2 (h : isSol f g = true) (h1 : isBr s xs = true) (h2 : isMx f.length m M = false) : cwF f g m M s xs = ([], 2) := by unfold cwF; rw [h, h1, h2]; rfl
theorem cwF_3 (h : isSol f g = true) (h1 : isBr s xs = true) (h2 : isMx f.length m M = true) (h3 : wtFlt f.length f g M m ≠ []) : cwF f g m M s xs = ([], 5) := by unfold cwF; rw [h, h1, h2]; simp [h3]
theorem cwF_4 (h : isSol f g = true) (h1 : isBr s xs = true) (h2 : isMx f.length m M = true) (h3 : wtFlt f.length f g M m = []) (h4 : ¬ f.length ^ s.toNat ≤ 5000) : cwF f g m M s xs = ([], 3) := by unfold cwF; rw [h, h1, h2, h3]; simp; omega
theorem cwF_5 (h : isSol f g = true) (h1 : isBr s xs = true) (h2 : isMx f.length m M = true) (h3 : wtFlt f.length f g M m = []) (h4 : f.length ^ s.toNat ≤ 5000) : cwF f g m M s xs = ((colsL f.length s.toNat f g xs).map (wtF f.length f g M m xs), 0) := by unfold cwF; rw [h, h1, h2, h3]; simp; omega
theorem Cw_len (f g : List (List Int)) (m : Int) (M : List (List Int)) (s : Int) (xs : List Int) : List.length (cwF f g m M s xs).1 ≤ 1000000 := by
  unfold cwF
  split
  · split
    · split
      · split
        · split
          · rename_i h
            simp only [List.length_map]
            have := colsK_len (n := f.length) (s := s.toNat) (f := f) (g := g) (xs := xs) (k := f.length ^ s.toNat)
            unfold colsL
            omega
          · simp
        · simp
      · simp
    · simp
  · simp
/-- the codes -/
theorem cwF_code : (cwF f g m M s xs).2 = 0 → isSol f g = true ∧ isBr s xs = true ∧ isMx f.length m M = true ∧ wtFlt f.length f g M m = [] ∧ f.length ^ s.toNat ≤ 5000 := by
  unfold cwF
  split
  · rename_i h0
    split
    · rename_i h1
      split
      · rename_i h2
        split
        · rename_i h3
          split
          · rename_i h4; intro _; exact ⟨h0, h1, h2, h3, h4⟩
          · intro h; simp at h
        · intro h; simp at h
      · intro h; simp at h
    · intro h; simp at h
  · intro h; simp at h
theorem wtF_bd {n : Nat} {l : List Int} (h : 1 ≤ m) : 0 ≤ wtF n f g M m xs l ∧ wtF n f g M m xs l < m := ⟨Int.emod_nonneg _ (by omega), Int.emod_lt_of_pos _ (by omega)⟩
theorem cwF_bd (h : (cwF f g m M s xs).2 = 0) : (1 ≤ m ∧ m ≤ 12) ∧ ∀ x ∈ (cwF f g m M s xs).1, 0 ≤ x ∧ x < m := by
  obtain ⟨h0, h1, h2, h3, h4⟩ := cwF_code h
  have hm := (isMx_sq h2).1
  refine ⟨hm, ?_⟩
  rw [cwF_5 h0 h1 h2 h3 h4]
  intro x hx
  obtain ⟨l, _, rfl⟩ := List.mem_map.1 hx
  exact wtF_bd hm.1
end
/-- how often each of 0, 1, .. is among some numbers -/
def cntL (m : Nat) (L : List Int) : List Int := L.foldl (fun C x => C.set x.toNat (C.getD x.toNat 0 + 1)) (List.replicate m 0)
theorem cntL_len (m : Nat) (L : List Int) : (cntL m L).length = m := by
  have : ∀ C : List Int, (L.foldl (fun C x => C.set x.toNat (C.getD x.toNat 0 + 1)) C).length = C.length := by
    induction L with
    | nil => intro C; rfl
    | cons x r ih => intro C; rw [List.foldl_cons, ih, List.length_set]
  unfold cntL; rw [this]; simp
theorem cntL_take {m : Nat} {L : List Int} {k : Nat} (h : k < L.length) : cntL m (L.take (k + 1)) = (cntL m (L.take k)).set (L.getD k 0).toNat ((cntL m (L.take k)).getD (L.getD k 0).toNat 0 + 1) := by
  unfold cntL
  rw [List.take_succ_eq_append_getElem h, List.foldl_append]
  simp [List.getD_eq_getElem?_getD, List.getElem?_eq_getElem h]
theorem cntL_bd (m : Nat) (L : List Int) (i : Nat) : 0 ≤ (cntL m L).getD i 0 ∧ (cntL m L).getD i 0 ≤ L.length := by
  have : ∀ (C : List Int) (b : Int), (∀ i, 0 ≤ C.getD i 0 ∧ C.getD i 0 ≤ b) → ∀ i, 0 ≤ (L.foldl (fun C x => C.set x.toNat (C.getD x.toNat 0 + 1)) C).getD i 0 ∧ (L.foldl (fun C x => C.set x.toNat (C.getD x.toNat 0 + 1)) C).getD i 0 ≤ b + L.length := by
    induction L with
    | nil => intro C b h i; have := h i; simpa using this
    | cons x r ih =>
      intro C b h i
      rw [List.foldl_cons]
      have := ih (C.set x.toNat (C.getD x.toNat 0 + 1)) (b + 1) (fun j => by
        have h1 := h j
        have h2 := h x.toNat
        by_cases hj : j < C.length
        · by_cases e : j = x.toNat
          · subst e
            have : (C.set x.toNat (C.getD x.toNat 0 + 1)).getD x.toNat 0 = C.getD x.toNat 0 + 1 := by
              simp [List.getD_eq_getElem?_getD, List.getElem?_set, hj]
            rw [this]; omega
          · have : (C.set x.toNat (C.getD x.toNat 0 + 1)).getD j 0 = C.getD j 0 := by
              simp [List.getD_eq_getElem?_getD, List.getElem?_set, show x.toNat ≠ j from fun q => e q.symm]
            rw [this]; omega
        · have : (C.set x.toNat (C.getD x.toNat 0 + 1)).getD j 0 = 0 := by
            rw [List.getD_eq_getElem?_getD, List.getElem?_eq_none (by rw [List.length_set]; omega)]; rfl
          rw [this]
          omega) i
      rw [List.length_cons]
      push_cast
      omega
  have h := this (List.replicate m 0) 0 (fun j => by
    simp [List.getD_eq_getElem?_getD, List.getElem?_replicate]
    split <;> simp) i
  simpa [cntL] using h
/-- a state sum, and the code -/
def stF (f g : List (List Int)) (m : Int) (M : List (List Int)) (s : Int) (xs : List Int) : List Int × Int := if (cwF f g m M s xs).2 = 0 then (cntL m.toNat (cwF f g m M s xs).1, 0) else ([], (cwF f g m M s xs).2)
theorem St_len (f g : List (List Int)) (m : Int) (M : List (List Int)) (s : Int) (xs : List Int) : List.length (stF f g m M s xs).1 ≤ 1000000 := by
  unfold stF
  split
  · rename_i h
    have := (cwF_bd h).1
    show List.length (cntL _ _) ≤ _
    rw [cntL_len]; omega
  · simp
end Go.Proofs.YtdkpalllfekiiaaGreat

namespace Go.Proofs.YtdkpalllfekiiaaGreat
set_option maxRecDepth 100000
set_option linter.unusedVariables false
set_option linter.unusedSimpArgs false
open Go.RowKit

end Go.Proofs.YtdkpalllfekiiaaGreat

namespace Go.Proofs.YtdkpalllfekiiaaGreat
set_option maxRecDepth 100000
set_option linter.unusedVariables false
set_option linter.unusedSimpArgs false
open Go.RowKit

end Go.Proofs.YtdkpalllfekiiaaGreat

namespace Go.Proofs.YtdkpalllfekiiaaGreat
set_option maxRecDepth 100000
set_option linter.unusedVariables false
set_option linter.unusedSimpArgs false
open Go.RowKit

/-- how many tuples there are, or -1 -/
def CntS (n s : Nat) (e : Ending) : Prop := (n ^ s ≤ 5000 ∧ e = .returned (.int .i64 ((n ^ s : Nat) : Int))) ∨ (5000 < n ^ s ∧ e = .returned (.int .i64 (-1)))

end Go.Proofs.YtdkpalllfekiiaaGreat

namespace Go.Proofs.YtdkpalllfekiiaaGreat
set_option maxRecDepth 100000
set_option linter.unusedVariables false
set_option linter.unusedSimpArgs false
open Go.RowKit

end Go.Proofs.YtdkpalllfekiiaaGreat

namespace Go.Proofs.YtdkpalllfekiiaaGreat
set_option maxRecDepth 100000
set_option linter.unusedVariables false
set_option linter.unusedSimpArgs false
open Go.RowKit

theorem info_In : (Tryz.prog.info? 3).map (fun i => (i.zero, i.size, i.bytes)) = some (some ((Value.int .i64) 0), 1, 8) := by kernel_rfl
/-! ### A slice of numbers that is read -/
/-- the slice (a, n, c) reads in w as the numbers xs -/
def RowIn (w : World) (a : Option Addr) (n : Nat) (xs : List Int) : Prop :=
  n = xs.length ∧ ∀ i, i < n → ∃ b off, a = some ⟨b, off, none⟩ ∧ b < w.heap.size ∧ w.cell? ⟨b, off + i, none⟩ = some ((Value.int .i64) (xs.getD i 0))

theorem RowIn.nil (w : World) (a : Option Addr) : RowIn w a 0 [] := ⟨rfl, fun i h => absurd h (by omega)⟩
theorem RowIn.len {w : World} {a : Option Addr} {n : Nat} {xs : List Int} (h : RowIn w a n xs) : n = xs.length := h.1
theorem RowIn.at {w : World} {a : Option Addr} {n : Nat} {xs : List Int} (h : RowIn w a n xs) (i : Nat) (hi : i < n) : ∃ b off, a = some ⟨b, off, none⟩ ∧ w.cell? ⟨b, off + i, none⟩ = some ((Value.int .i64) (xs.getD i 0)) := by
  obtain ⟨b, off, h1, _, h2⟩ := h.2 i hi; exact ⟨b, off, h1, h2⟩
/-- a slice with an element: all its cells -/
theorem RowIn.all {w : World} {a : Option Addr} {n : Nat} {xs : List Int} (h : RowIn w a n xs) (hn : 0 < n) : ∃ b off, a = some ⟨b, off, none⟩ ∧ b < w.heap.size ∧ ∀ i, i < n → w.cell? ⟨b, off + i, none⟩ = some ((Value.int .i64) (xs.getD i 0)) := by
  obtain ⟨b, off, h1, h3, h2⟩ := h.2 0 hn
  refine ⟨b, off, h1, h3, fun i hi => ?_⟩
  obtain ⟨b', off', h4, _, h5⟩ := h.2 i hi
  rw [h1] at h4; cases h4; exact h5
theorem RowIn.below {w w' : World} {a : Option Addr} {n : Nat} {xs : List Int} (h : RowIn w a n xs) (hb : Below w.heap.size w w') : RowIn w' a n xs :=
  ⟨h.1, fun i hi => by obtain ⟨b, off, h1, h3, h2⟩ := h.2 i hi; exact ⟨b, off, h1, Nat.lt_of_lt_of_le h3 hb.size, (hb.cell (p := ⟨b, off + i, none⟩) h3).trans h2⟩⟩
theorem RowIn.drewN {w : World} {a : Option Addr} {n : Nat} {xs : List Int} (h : RowIn w a n xs) (k : Nat) : RowIn (w.drewN k) a n xs := h
theorem RowIn.alloc {w : World} {a : Option Addr} {n : Nat} {xs : List Int} (h : RowIn w a n xs) (o : Obj) : RowIn (w.alloc o) a n xs := h.below ((Below.refl _ _).alloc (Nat.le_refl _) o)

/-! ### A slice of numbers that the call owns (its block lies from 'lo' on) -/
def OwnIn (w : World) (lo : Nat) (a : Option Addr) (n c : Nat) (xs : List Int) : Prop := n = xs.length ∧ w.ownsRow lo 3 1 (.slice a n c) n (xs.map (((Value.int .i64))))

theorem OwnIn.nil (w : World) (lo : Nat) : OwnIn w lo none 0 0 [] := ⟨rfl, World.ownsRow_nil w lo _ 1⟩
theorem OwnIn.len {w : World} {lo : Nat} {a : Option Addr} {n c : Nat} {xs : List Int} (h : OwnIn w lo a n c xs) : n = xs.length := h.1
theorem OwnIn.alloc {w : World} {lo : Nat} {a : Option Addr} {n c : Nat} {xs : List Int} (h : OwnIn w lo a n c xs) (o : Obj) : OwnIn (w.alloc o) lo a n c xs := ⟨h.1, h.2.alloc o⟩
theorem OwnIn.drew {w : World} {lo : Nat} {a : Option Addr} {n c : Nat} {xs : List Int} (h : OwnIn w lo a n c xs) : OwnIn w.drew lo a n c xs := h
theorem OwnIn.drewN {w : World} {lo : Nat} {a : Option Addr} {n c : Nat} {xs : List Int} (h : OwnIn w lo a n c xs) (k : Nat) : OwnIn (w.drewN k) lo a n c xs := h
/-- the block of a slice that is owned -/
theorem OwnIn.block {w : World} {lo : Nat} {a : Option Addr} {n c : Nat} {xs : List Int} (h : OwnIn w lo a n c xs) : (a = none ∧ n = 0 ∧ c = 0) ∨ ∃ g cur, a = some ⟨g, 0, none⟩ ∧ lo ≤ g ∧ Loc w g cur 3 ∧ n ≤ c ∧ c ≤ maxLen ∧ cur.size = c ∧ cur.toList.take n = xs.map (((Value.int .i64))) := by
  rcases h.2.2 with ⟨h1, h2⟩ | ⟨g, cap, cur, h1, h2, h3, h4, h5, h6, h7⟩
  · cases h1; exact .inl ⟨rfl, rfl, rfl⟩
  · cases h1; exact .inr ⟨g, cur, rfl, h2, h3, h4, h5, by simpa using h6, by simpa using h7⟩
theorem OwnIn.mk {w : World} {lo : Nat} {g n c : Nat} {xs : List Int} {cur : Array Value} (hn : n = xs.length) (h1 : lo ≤ g) (h2 : Loc w g cur 3) (h3 : n ≤ c) (h4 : c ≤ maxLen) (h5 : cur.size = c) (h6 : cur.toList.take n = xs.map (((Value.int .i64)))) : OwnIn w lo (some ⟨g, 0, none⟩) n c xs :=
  ⟨hn, by simp [hn], .inr ⟨g, c, cur, rfl, h1, h2, h3, h4, by simpa using h5, by simpa using h6⟩⟩
theorem OwnIn.lt {w : World} {lo : Nat} {g o n c : Nat} {xs : List Int} (h : OwnIn w lo (some ⟨g, o, none⟩) n c xs) : lo ≤ g ∧ g < w.heap.size := by
  rcases h.block with ⟨h1, _⟩ | ⟨g', cur, h1, h2, h3, _⟩
  · cases h1
  · cases h1; exact ⟨h2, h3.lt⟩
theorem OwnIn.mono {w : World} {lo lo' : Nat} {a : Option Addr} {n c : Nat} {xs : List Int} (h : OwnIn w lo a n c xs) (hl : lo' ≤ lo) : OwnIn w lo' a n c xs := by
  rcases h.block with ⟨rfl, rfl, rfl⟩ | ⟨g, cur, rfl, h2, h3, h4, h5, h6, h7⟩
  · have : xs = [] := List.eq_nil_of_length_eq_zero h.1.symm
    subst this; exact OwnIn.nil _ _
  · exact OwnIn.mk h.1 (by omega) h3 h4 h5 h6 h7
theorem OwnIn.keep {w w' : World} {lo : Nat} {a : Option Addr} {n c : Nat} {xs : List Int} (h : OwnIn w lo a n c xs) (hk : ∀ g, a = some ⟨g, 0, none⟩ → g < w.heap.size → w'.heap[g]? = w.heap[g]?) : OwnIn w' lo a n c xs := by
  rcases h.block with ⟨rfl, rfl, rfl⟩ | ⟨g, cur, rfl, h2, h3, h4, h5, h6, h7⟩
  · have : xs = [] := List.eq_nil_of_length_eq_zero h.1.symm
    subst this; exact OwnIn.nil _ _
  · exact OwnIn.mk h.1 h2 ((hk g rfl h3.lt).trans h3) h4 h5 h6 h7
theorem OwnIn.below {w w' : World} {lo : Nat} {a : Option Addr} {n c : Nat} {xs : List Int} (h : OwnIn w lo a n c xs) (hb : Below w.heap.size w w') : OwnIn w' lo a n c xs := h.keep fun g _ hlt => hb.block g hlt
theorem OwnIn.setne {w : World} {lo : Nat} {a : Option Addr} {n c : Nat} {xs : List Int} (h : OwnIn w lo a n c xs) {p : Addr} (hp : ∀ g, a = some ⟨g, 0, none⟩ → g ≠ p.block) (u : Value) : OwnIn (w.setCell p u) lo a n c xs := h.keep fun g hg _ => Below.heap_setCell _ _ _ _ (hp g hg)
theorem OwnIn.setlo {w : World} {lo : Nat} {a : Option Addr} {n c : Nat} {xs : List Int} (h : OwnIn w lo a n c xs) {p : Addr} (hp : p.block < lo) (u : Value) : OwnIn (w.setCell p u) lo a n c xs := by
  refine h.setne (fun g hg => ?_) u
  subst hg; have := h.lt; omega
theorem OwnIn.grown {w w' : World} {lo : Nat} {a : Option Addr} {n c : Nat} {xs : List Int} {row : Option Nat} (h : OwnIn w lo a n c xs) (hg : w.grownBy w' row) (hne : ∀ g, a = some ⟨g, 0, none⟩ → some g ≠ row) : OwnIn w' lo a n c xs := h.keep fun g hg' hlt => hg.block g hlt (hne g hg')
theorem OwnIn.cap {w : World} {lo : Nat} {a : Option Addr} {n c : Nat} {xs : List Int} (h : OwnIn w lo a n c xs) : n ≤ c ∧ c ≤ 9223372036854775807 := by
  rcases h.block with ⟨rfl, rfl, rfl⟩ | ⟨g, cur, rfl, h2, h3, h4, h5, h6, h7⟩
  · omega
  · unfold maxLen at h5; omega
theorem OwnIn.cells {w : World} {lo : Nat} {g o n c : Nat} {xs : List Int} (h : OwnIn w lo (some ⟨g, o, none⟩) n c xs) : o = 0 ∧ (∀ i, i < n → w.cell? ⟨g, i, none⟩ = some ((Value.int .i64) (xs.getD i 0))) ∧ (∀ i, w.frozen? ⟨g, i, none⟩ = false) := by
  rcases h.block with ⟨h1, _⟩ | ⟨g', cur, h1, h2, h3, h4, h5, h6, h7⟩
  · cases h1
  · cases h1
    refine ⟨rfl, fun i hi => h3.cell i ?_, fun i => h3.free i⟩
    have hx : (cur.toList.take n)[i]? = (xs.map (((Value.int .i64))))[i]? := by rw [h7]
    have hxi : i < xs.length := by have := h.1; omega
    rw [List.getElem?_take, if_pos hi] at hx
    simp [List.getElem?_eq_getElem hxi] at hx
    simp [List.getD_eq_getElem?_getD, List.getElem?_eq_getElem hxi, hx]
theorem OwnIn.row {w : World} {lo : Nat} {a : Option Addr} {n c : Nat} {xs : List Int} (h : OwnIn w lo a n c xs) : RowIn w a n xs := by
  refine ⟨h.1, fun i hi => ?_⟩
  rcases h.block with ⟨rfl, rfl, rfl⟩ | ⟨g, cur, rfl, h2, h3, _⟩
  · omega
  · exact ⟨g, 0, rfl, h3.lt, by simpa using h.cells.2.1 i hi⟩
/-- a store into a slice that is owned -/
theorem OwnIn.set {w : World} {lo : Nat} {g n c : Nat} {xs : List Int} (h : OwnIn w lo (some ⟨g, 0, none⟩) n c xs) (i : Nat) (x : Int) : OwnIn (w.setCell ⟨g, i, none⟩ ((Value.int .i64) x)) lo (some ⟨g, 0, none⟩) n c (xs.set i x) := by
  rcases h.block with ⟨h1, _⟩ | ⟨g', cur, h1, h2, h3, h4, h5, h6, h7⟩
  · cases h1
  · cases h1
    refine OwnIn.mk (by simp [h.1]) h2 (h3.set i _) h4 h5 (by simpa using h6) ?_
    rw [Array.toList_setIfInBounds, List.take_set, h7, List.map_set]

theorem OwnIn.hi {w : World} {lo : Nat} {a : Option Addr} {n c : Nat} {xs : List Int} (h : OwnIn w lo a n c xs) : ∀ g, a = some ⟨g, 0, none⟩ → g < w.heap.size := fun g hg => by subst hg; exact h.lt.2
theorem OwnIn.lo {w : World} {lo : Nat} {a : Option Addr} {n c : Nat} {xs : List Int} (h : OwnIn w lo a n c xs) : ∀ g, a = some ⟨g, 0, none⟩ → lo ≤ g := fun g hg => by subst hg; exact h.lt.1

/-- a new slice of one number -/
theorem OwnIn.single (w : World) {b : Nat} (hb : b = w.heap.size) (y : Int) : OwnIn (w.alloc (.cells #[Value.int .i64 y] 3)) w.heap.size (some ⟨b, 0, none⟩) 1 1 [y] :=
  OwnIn.mk rfl (by omega) (Loc.new _ hb _ _) (Nat.le_refl _) (by unfold maxLen; omega) rfl rfl

theorem OwnIn.fresh (w : World) {b : Nat} (hb : b = w.heap.size) : OwnIn (w.alloc (.cells #[] 3)) w.heap.size (some ⟨b, 0, none⟩) 0 0 [] :=
  OwnIn.mk rfl (by omega) (Loc.new _ hb _ _) (Nat.le_refl _) (by unfold maxLen; omega) rfl rfl

end Go.Proofs.YtdkpalllfekiiaaGreat

namespace Go.Proofs.YtdkpalllfekiiaaGreat
set_option maxRecDepth 100000
set_option linter.unusedVariables false
set_option linter.unusedSimpArgs false
open Go.RowKit

/-- what ColouringsOf hands back -/
def colsF (f g : List (List Int)) (s : Int) (xs : List Int) : List (List Int) × Int := if codeF f g s xs = 0 then colsC f.length s.toNat f g xs else ([], 1)
theorem colsC_len {n s : Nat} {f g : List (List Int)} {xs : List Int} (hs : s ≤ 6) : tot (colsC n s f g xs).1 ≤ 30000 := by
  unfold colsC
  split
  · rename_i h
    have := colsK_tot (n := n) (s := s) (f := f) (g := g) (xs := xs) (k := n ^ s)
    have h2 : n ^ s * s ≤ 5000 * 6 := Nat.mul_le_mul h hs
    show tot (colsK n s f g xs (n ^ s)) ≤ _
    omega
  · simp [tot]
theorem Cols_len (f g : List (List Int)) (s : Int) (xs : List Int) : tot (colsF f g s xs).1 ≤ 1000000 := by
  unfold colsF
  split
  · rename_i h
    have h2 := (isBr_let (codeF_zero h).2).1
    have := colsC_len (n := f.length) (f := f) (g := g) (xs := xs) (s := s.toNat) (by omega)
    omega
  · simp [tot]
theorem codeF_one {f g : List (List Int)} {s : Int} {xs : List Int} (h : ¬ codeF f g s xs = 0) : codeF f g s xs = 1 := by
  unfold codeF at *
  by_cases h1 : isSol f g = true
  · rw [if_pos h1] at h ⊢
    by_cases h2 : isBr s xs = true
    · rw [if_pos h2] at h; omega
    · rw [if_neg h2]
  · rw [if_neg h1]

end Go.Proofs.YtdkpalllfekiiaaGreat

namespace Go.Proofs.YtdkpalllfekiiaaGreat
set_option maxRecDepth 100000
set_option linter.unusedVariables false
set_option linter.unusedSimpArgs false
open Go.RowKit

theorem numL_bd {n s : Nat} {l : List Int} (hn : 1 ≤ n) (hl : l.length = s) (hle : Less n l) (hb : n ^ s ≤ 5000) (k : Nat) (hk : k ≤ s) : numL n (l.take k) < 5000 := by
  have h1 : Less n (l.take k) := fun i hi => by
    rw [List.length_take] at hi
    have := hle i (by omega)
    simpa [List.getD_eq_getElem?_getD, List.getElem?_take, show i < k by omega] using this
  have h2 := numL_lt hn h1
  have h3 : n ^ (l.take k).length ≤ n ^ s := Nat.pow_le_pow_right hn (by rw [List.length_take]; omega)
  omega

/-- the numbers to which the first k tuples are led, and zeros -/
def nxtP (F : Nat → Nat) (K k : Nat) : List Int := ((List.range K).map fun i => ((F i : Nat) : Int)).take k ++ List.replicate (K - k) 0
theorem nxtP_step (F : Nat → Nat) {K k : Nat} (h : k < K) : (nxtP F K k).set k ((F k : Nat) : Int) = nxtP F K (k + 1) := rowP_step K (fun i => ((F i : Nat) : Int)) k h
theorem nxtP_full (F : Nat → Nat) (K i : Nat) (h : i < K) : (nxtP F K K).getD i 0 = ((F i : Nat) : Int) := by
  unfold nxtP
  rw [List.take_of_length_le (by simp), Nat.sub_self, List.replicate_zero, List.append_nil]
  simp [List.getD_eq_getElem?_getD, List.getElem?_map, h]

end Go.Proofs.YtdkpalllfekiiaaGreat

namespace Go.Proofs.YtdkpalllfekiiaaGreat
set_option maxRecDepth 100000
set_option linter.unusedVariables false
set_option linter.unusedSimpArgs false
open Go.RowKit

/-- the numbers to which the first k tuples are led -/
def nxtL (F : Nat → Nat) (k : Nat) : List Int := (List.range k).map fun i => ((F i : Nat) : Int)
theorem nxtL_len (F : Nat → Nat) (k : Nat) : (nxtL F k).length = k := by simp [nxtL]
theorem nxtL_succ (F : Nat → Nat) (k : Nat) : nxtL F (k + 1) = nxtL F k ++ [((F k : Nat) : Int)] := by simp [nxtL, List.range_succ]
theorem nxtL_get (F : Nat → Nat) {k i : Nat} (h : i < k) : (nxtL F k).getD i 0 = ((F i : Nat) : Int) := by simp [nxtL, List.getD_eq_getElem?_getD, List.getElem?_map, h]

end Go.Proofs.YtdkpalllfekiiaaGreat
