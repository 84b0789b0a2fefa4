/-
  Walks and plain laws of this seat, some texts in one.
  No condition but bounds on lengths.
-/
import Derived.Test.YtdkpalllfekiiaaGreatBase
import Derived.IntWalk
import Derived.Deep.RegionHeld3
import Derived.Deep.DeepCutAuto
import Derived.Deep.RegionWith
import Derived.Lib.AppendZeros
import Derived.StillTailTactics
import Derived.Laws.BitsLemmas
import Derived.Laws.Bits64
import Derived.Deep.LoopGhost
import Derived.Deep.RegionLaw
namespace Go.Proofs.YtdkpalllfekiiaaGreat
set_option maxRecDepth 100000
set_option linter.unusedVariables false
set_option linter.unusedSimpArgs false
open Go.RowKit

/-- p is the list of f on n elements, and g undoes f -/
def IsPf (n : Nat) (p : List Int) (f g : Nat → Nat) : Prop := p.length = n ∧ (∀ i, i < n → f i < n ∧ g i < n ∧ f (g i) = i ∧ g (f i) = i) ∧ ∀ i, i < n → p.getD i 0 = (f i : Int)
def IsP (n : Nat) (p : List Int) : Prop := ∃ f g, IsPf n p f g
theorem IsP.len {n : Nat} {p : List Int} (h : IsP n p) : p.length = n := by obtain ⟨f, g, h, _⟩ := h; exact h
theorem IsP.mem {n : Nat} {p : List Int} (h : IsP n p) : ∀ x ∈ p, 0 ≤ x ∧ x < n := by
  obtain ⟨f, g, hl, h1, h2⟩ := h
  intro x hx
  obtain ⟨i, hi, rfl⟩ := List.getElem_of_mem hx
  have := h2 i (by omega)
  rw [getD_at hi] at this
  have := (h1 i (by omega)).1
  omega
theorem unit_isP (n : Nat) : IsP n (unitL n) := ⟨id, id, unitL_len n, fun i h => ⟨h, h, rfl, rfl⟩, fun i h => unitL_get n i h⟩

def swp (xs : List Int) (k : Nat) : List Int := (xs.set k (xs.getD (k + 1) 0)).set (k + 1) (xs.getD k 0)
def sig (k i : Nat) : Nat := if i = k then k + 1 else if i = k + 1 then k else i
theorem sig_sig (k i : Nat) : sig k (sig k i) = i := by
  unfold sig
  by_cases h1 : i = k
  · subst h1; simp
  · by_cases h2 : i = k + 1
    · subst h2; simp
    · simp [h1, h2]
theorem sig_lt (k i n : Nat) (h : k + 1 < n) (hi : i < n) : sig k i < n := by
  unfold sig
  split
  · omega
  · split <;> omega
theorem getD_setz (xs : List Int) (j i : Nat) (x : Int) (h : i < xs.length) : (xs.set j x).getD i 0 = if i = j then x else xs.getD i 0 := by
  simp only [List.getD_eq_getElem?_getD, List.getElem?_set]
  by_cases e : i = j
  · subst e; simp [h]
  · rw [if_neg e, if_neg (fun h => e h.symm)]
theorem swp_get (xs : List Int) (k i : Nat) (h : k + 1 < xs.length) (hi : i < xs.length) : (swp xs k).getD i 0 = xs.getD (sig k i) 0 := by
  unfold swp sig
  rw [getD_setz _ _ _ _ (by rw [List.length_set]; exact hi), getD_setz _ _ _ _ hi]
  by_cases h1 : i = k + 1
  · subst h1; rw [if_pos rfl, if_neg (by omega), if_pos rfl]
  · rw [if_neg h1]
    by_cases h2 : i = k
    · rw [if_pos h2, if_pos h2]
    · rw [if_neg h2, if_neg h2, if_neg h1]
theorem swp_isP {n k : Nat} {p : List Int} (h : IsP n p) (hk : k + 1 < n) : IsP n (swp p k) := by
  obtain ⟨f, g, hl, h1, h2⟩ := h
  refine ⟨fun i => f (sig k i), fun i => sig k (g i), by simp [swp, hl], fun i hi => ?_, fun i hi => ?_⟩
  · have hs := sig_lt k i n hk hi
    refine ⟨(h1 _ hs).1, sig_lt k _ n hk (h1 i hi).2.1, ?_, ?_⟩
    · show f (sig k (sig k (g i))) = i
      rw [sig_sig]; exact (h1 i hi).2.2.1
    · show sig k (g (f (sig k i))) = i
      rw [(h1 _ hs).2.2.2, sig_sig]
  · rw [swp_get p k i (by omega) (by omega)]
    exact h2 _ (sig_lt k i n hk hi)

/-- the strands at the places, after the letters -/
def strd (s : Nat) (xs : List Int) : List Int := xs.foldl (fun a x => swp a (plc x).toNat) (unitL s)
theorem strd_succ (s : Nat) (xs : List Int) (k : Nat) (h : k < xs.length) : strd s (xs.take (k + 1)) = swp (strd s (xs.take k)) (plc xs[k]).toNat := by
  unfold strd
  rw [List.take_succ_eq_append_getElem h, List.foldl_append]; rfl
theorem strd_isP (s : Nat) (xs : List Int) (hx : ∀ x ∈ xs, 0 ≤ plc x ∧ plc x + 1 < s) : IsP s (strd s xs) := by
  have : ∀ (xs p : List Int), (∀ x ∈ xs, 0 ≤ plc x ∧ plc x + 1 < s) → IsP s p → IsP s (xs.foldl (fun a x => swp a (plc x).toNat) p) := by
    intro xs
    induction xs with
    | nil => intro p _ hp; exact hp
    | cons x xs ih =>
      intro p hx hp
      refine ih _ (fun y hy => hx y (List.mem_cons_of_mem _ hy)) (swp_isP hp ?_)
      have := hx x List.mem_cons_self
      omega
  exact this xs _ hx (unit_isP s)
theorem plc_let {s x : Int} (h : x ≠ 0 ∧ 1 - s ≤ x ∧ x ≤ s - 1) : 0 ≤ plc x ∧ plc x + 1 < s := by
  unfold plc; split <;> omega

theorem backK_get (n : Nat) (p : List Int) (f g : Nat → Nat) (h : IsPf n p f g) (k : Nat) (hk : k ≤ n) : ∀ i, i < n → (backK p k).getD i 0 = if g i < k then (g i : Int) else 0 := by
  obtain ⟨hl, h1, h2⟩ := h
  induction k with
  | zero => intro i hi; simp [backK, List.getD_eq_getElem?_getD]; simp [List.getElem?_replicate]; split <;> rfl
  | succ k ih =>
    intro i hi
    rw [backK_succ, getD_setz _ _ _ _ (by rw [backK_len]; omega), h2 k (by omega), ih (by omega) i hi]
    have ht : ((f k : Nat) : Int).toNat = f k := by simp
    rw [ht]
    by_cases e : i = f k
    · subst e
      rw [if_pos rfl, (h1 k (by omega)).2.2.2, if_pos (by omega)]
    · rw [if_neg e]
      have : g i ≠ k := fun hh => e (by rw [← hh]; exact ((h1 i hi).2.2.1).symm)
      by_cases hc : g i < k
      · rw [if_pos hc, if_pos (by omega)]
      · rw [if_neg hc, if_neg (by omega)]
theorem back_isP {n : Nat} {p : List Int} (h : IsP n p) : IsP n (backF p) := by
  obtain ⟨f, g, hp⟩ := h
  have hb := backK_get n p f g hp n (Nat.le_refl _)
  obtain ⟨hl, h1, h2⟩ := hp
  refine ⟨g, f, by rw [backF_len]; exact hl, fun i hi => ⟨(h1 i hi).2.1, (h1 i hi).1, (h1 i hi).2.2.2, (h1 i hi).2.2.1⟩, fun i hi => ?_⟩
  unfold backF; rw [hl, hb i hi, if_pos (h1 i hi).2.1]

/-- the permutation of a braid -/
def brP (s : Nat) (xs : List Int) : List Int := backF (strd s xs)
theorem brP_isP (s : Nat) (xs : List Int) (hx : ∀ x ∈ xs, 0 ≤ plc x ∧ plc x + 1 < s) : IsP s (brP s xs) := back_isP (strd_isP s xs hx)

set_option maxHeartbeats 1000000 in
theorem braidPermutation_any (s : Nat) (a : Option Addr) (n c : Nat) (xs : List Int) (w : World) (h1 : Row w a n xs) (hb : isBr s xs = true) :
    Calls Tryz.prog 38 #[bAgg s a n c] w fun e w' => ∃ a' c', e = .returned (.slice a' s c') ∧ Own w' w.heap.size a' s c' (brP s xs) ∧ Below w.heap.size w w' := by
  obtain ⟨h26, h30, hlet⟩ := isBr_let hb
  have hl := h1.len
  have hn30 : n ≤ 30 := by omega
  have hpl : ∀ x ∈ xs, 0 ≤ plc x ∧ plc x + 1 < s := fun x hx => plc_let (hlet x hx)
  have HLet := Lib.hid hlet; clear hlet
  have HP := Lib.hid hpl; clear hpl
  have HL := Lib.hid hl; clear hl
  clear hb
  go_enter Tryz.func38, Tryz.ntmps38
  have hA := Loc.new w rfl #[.int .i64 s, .slice a n c] 26
  have lA := hA.two
  go_wp2_with fail
  refine (identity_any s _ (by omega)).mono ?_
  rintro e w1 ⟨ap, cp, rfl, ho, hb1⟩
  have hA1 : Loc w1 w.heap.size _ _ := hA.below hb1 (by simp)
  have hB1 : Below w.heap.size w w1 := below_alth (Below.refl _ _) hb1
  have ho1 : Own w1 (w.heap.size + 1) ap s cp (unitL s) := ho.mono (by simp)
  have lA1 := hA1.two
  clear ho hb1 hA lA
  go_wp2
  go_loopw [13] (fun i wr => ∃ (k : Nat), k ≤ n ∧ i = .int .i64 k ∧ Own wr (w.heap.size + 1) ap s cp (strd s (xs.take k)) ∧ Below w.heap.size w wr) (fun i _ => n - (intOf i).toNat)
  case atStart => exact ⟨0, Nat.zero_le _, rfl, by simpa [strd] using ho1, hB1⟩
  case round =>
    clear hA1 lA1 ho1 hB1
    obtain ⟨k, hk, rfl, ho, hb⟩ := hrel
    by_cases hlt : k < n
    · have hr := h1.below hb
      obtain ⟨b, off, rfl, g1⟩ := hr.at k hlt
      have hx : k < xs.length := by have := HL.out; omega
      rw [getD_at hx] at g1
      have hle := HLet.out xs[k] (List.getElem_mem hx)
      have hpl := HP.out xs[k] (List.getElem_mem hx)
      obtain ⟨j, hj⟩ : ∃ j : Nat, plc xs[k] = j := ⟨(plc xs[k]).toNat, by omega⟩
      have hjs : j + 1 < s := by omega
      have es : strd s (xs.take (k + 1)) = swp (strd s (xs.take k)) j := by
        rw [strd_succ s xs k hx, hj]; rfl
      have HJ := Lib.hid hj
      have HS := Lib.hid es
      have b1 : -1000 ≤ xs[k] := by omega
      have b2 : xs[k] ≤ 1000 := by omega
      clear hle hpl hj es h1
      go_wp2_with fail
      refine (placeOf_any _ _ b1 b2).mono ?_
      rintro e w2 ⟨rfl, rfl⟩
      rw [HJ.out]
      obtain ⟨gp, op, rfl, _⟩ := ho.row.at j (by omega)
      obtain ⟨rfl, hc, hf⟩ := ho.cells
      have hcj := hc j (by omega)
      have hcj1 := hc (j + 1) (by omega)
      have hfj := hf j
      have hfj1 := hf (j + 1)
      have hwj : IntKind.i64.wrap ((j : Int) + 1) = ((j + 1 : Nat) : Int) := (IntWalk.i64_in _ (by omega)).trans (by simp)
      clear hc hf
      obtain ⟨X, hX⟩ : ∃ X, X = (strd s (xs.take k)).getD j 0 := ⟨_, rfl⟩
      obtain ⟨Y, hY⟩ : ∃ Y, Y = (strd s (xs.take k)).getD (j + 1) 0 := ⟨_, rfl⟩
      have HW : Hid (swp (strd s (xs.take k)) j = ((strd s (xs.take k)).set j Y).set (j + 1) X) := Lib.hid (by rw [hX, hY]; rfl)
      rw [← hX] at hcj
      rw [← hY] at hcj1
      clear hX hY
      go_wp2
      go_region
      all_goals go_wp2
      all_goals go_roundw
      case rel =>
        refine ⟨k + 1, by omega, by go_num, ?_, ?_⟩
        · rw [HS.out, HW.out]
          exact ((ho.set j Y).set (j + 1) X)
        · have hgp : w.heap.size ≤ gp := by have := ho.lt.1; omega
          exact below_drewN (below_setne (below_setne (a := ⟨gp, j, none⟩) hb hgp _) (a := ⟨gp, j + 1, none⟩) hgp _) 1
      case measure => simp [intOf]; omega
    · obtain rfl : k = n := by omega
      rw [List.take_of_length_le (by have := HL.out; omega)] at ho
      have hmem := (strd_isP s xs HP.out).mem
      go_wp2_with fail
      refine (inverse_any _ _ _ _ _ ho.row (by omega) hmem).mono ?_
      rintro e w2 ⟨a2, c2, rfl, ho2, hb2⟩
      go_wp2
      go_ret
      exact ⟨_, _, rfl, ho2.mono hb.size, below_th hb hb2⟩

end Go.Proofs.YtdkpalllfekiiaaGreat

namespace Go.Proofs.YtdkpalllfekiiaaGreat
set_option maxRecDepth 100000
set_option linter.unusedVariables false
set_option linter.unusedSimpArgs false
open Go.RowKit

/-- p, then q -/
def thL (p q : List Int) : List Int := p.map fun x => q.getD x.toNat 0
theorem thL_len (p q : List Int) : (thL p q).length = p.length := by simp [thL]
theorem thL_succ (p q : List Int) {k : Nat} (h : k < p.length) : thL (p.take (k + 1)) q = thL (p.take k) q ++ [q.getD p[k].toNat 0] := by
  simp only [thL, List.take_succ_eq_append_getElem h, List.map_append, List.map_cons, List.map_nil]
theorem then_step (p q : List Int) {j n : Nat} (hn : n = p.length) (h : j < p.length) : (thL (p.take j) q ++ List.replicate (n - j) 0).set j (q.getD p[j].toNat 0) = thL (p.take (j + 1)) q ++ List.replicate (n - (j + 1)) 0 := by
  have hl : (thL (p.take j) q).length = j := by rw [thL_len, List.length_take]; omega
  rw [thL_succ p q h, List.set_append_right _ _ (by omega), hl, Nat.sub_self]
  have e : n - j = (n - (j + 1)) + 1 := by omega
  rw [e, List.replicate_succ, List.set_cons_zero, List.append_assoc]; rfl

set_option maxHeartbeats 2000000 in
theorem then_any (a1 a2 : Option Addr) (n m c1 c2 : Nat) (p q : List Int) (w : World) (h1 : Row w a1 n p) (h2 : Row w a2 m q) (hm : n ≤ 1000000) (hp : ∀ x ∈ p, 0 ≤ x ∧ x < m) :
    Calls Tryz.prog 59 #[.slice a1 n c1, .slice a2 m c2] w fun e w' => ∃ a' c', e = .returned (.slice a' n c') ∧ Own w' w.heap.size a' n c' (thL p q) ∧ Below w.heap.size w w' := by
  have HL := Lib.hid h1.len; have HP := Lib.hid hp
  clear hp
  go_enter Tryz.func59, Tryz.ntmps59
  go_wp2_with (at_make; refine make1 rfl rfl rfl rfl (by omega) ?_; intro w1 ho1 hs1 hb1)
  go_loopw [6, 7, 13] (fun _ _ i wr => ∃ k : Nat, k ≤ n ∧ i = .int .i64 k ∧ Own wr w.heap.size (some ⟨w.heap.size, 0, none⟩) n n (thL (p.take k) q ++ List.replicate (n - k) 0) ∧ Below w.heap.size w wr) (fun _ _ i _ => n - (intOf i).toNat)
  case atStart => exact ⟨0, Nat.zero_le _, rfl, by simpa [thL] using ho1, hb1⟩
  case round =>
    obtain ⟨k, hk, rfl, ho, hq⟩ := hrel
    by_cases hlt : k < n
    · have hx : k < p.length := by have := HL.out; omega
      obtain ⟨b1, o1, rfl, g1⟩ := (h1.below hq).at k hlt
      rw [getD_at hx] at g1
      have hv := HP.out p[k] (List.getElem_mem hx)
      obtain ⟨v, hve⟩ : ∃ v : Nat, p[k] = v := ⟨p[k].toNat, by omega⟩
      have HST := Lib.hid (then_step p q HL.out hx)
      rw [hve] at g1 hv HST
      rw [Int.toNat_natCast] at HST
      have hvm : v < m := by omega
      obtain ⟨b2, o2, rfl, g2⟩ := (h2.below hq).at v hvm
      obtain ⟨V, HV⟩ : ∃ V, Hid (q.getD v 0 = V) := ⟨_, rfl⟩
      rw [HV.out] at g2 HST
      have i1 : (0 : Int) ≤ (v : Int) := by omega
      have i2 : (v : Int) < (m : Int) := by omega
      have hc := ho.cells
      obtain ⟨_, hcell, hfree⟩ := hc
      have f1 := hfree k
      have f2 := hcell k hlt
      clear hcell hfree hve
      go_wp2
      go_roundw
      case rel => exact ⟨k + 1, by omega, by go_num, by rw [← HST.out]; exact ho.set k V, hq.setCell (Nat.le_refl _) _⟩
      case measure => simp [intOf]; omega
    · obtain rfl : k = n := by omega
      go_wp2
      go_ret
      refine ⟨_, _, rfl, ?_, hq⟩
      have e : p.take k = p := List.take_of_length_le (by have := HL.out; omega)
      rw [e] at ho
      simpa using ho

set_option maxHeartbeats 2000000 in
theorem l01Then_any (a1 a2 : Option Addr) (n m c1 c2 : Nat) (p q : List Int) (w : World) (h1 : Row w a1 n p) (h2 : Row w a2 m q) (hm : n ≤ 1000000) (hp : ∀ x ∈ p, 0 ≤ x ∧ x < m) :
    Calls Tryz.prog 68 #[.slice a1 n c1, .slice a2 m c2] w fun e w' => ∃ a' c', e = .returned (.slice a' n c') ∧ Own w' w.heap.size a' n c' (thL p q) ∧ Below w.heap.size w w' := by
  have HL := Lib.hid h1.len; have HP := Lib.hid hp
  clear hp
  go_enter Tryz.func68, Tryz.ntmps68
  go_wp2
  go_loopw [5, 6] (fun s i wr => ∃ (k : Nat) (a' : Option Addr) (c' : Nat), k ≤ n ∧ i = .int .i64 k ∧ s = .slice a' k c' ∧ Own wr w.heap.size a' k c' (thL (p.take k) q) ∧ Below w.heap.size w wr) (fun _ i _ => n - (intOf i).toNat)
  case atStart => exact ⟨0, _, _, Nat.zero_le _, rfl, rfl, Own.fresh w rfl, below_al (Below.refl _ _) _⟩
  case round =>
    obtain ⟨k, a', c', hk, rfl, rfl, ho, hq⟩ := hrel
    by_cases hlt : k < n
    · have hx : k < p.length := by have := HL.out; omega
      obtain ⟨b1, o1, rfl, g1⟩ := (h1.below hq).at k hlt
      rw [getD_at hx] at g1
      have hv := HP.out p[k] (List.getElem_mem hx)
      obtain ⟨v, hve⟩ : ∃ v : Nat, p[k] = v := ⟨p[k].toNat, by omega⟩
      have HST := Lib.hid (thL_succ p q hx)
      rw [hve] at g1 hv HST
      rw [Int.toNat_natCast] at HST
      have hvm : v < m := by omega
      obtain ⟨b2, o2, rfl, g2⟩ := (h2.below hq).at v hvm
      obtain ⟨V, HV⟩ : ∃ V, Hid (q.getD v 0 = V) := ⟨_, rfl⟩
      rw [HV.out] at g2 HST
      have i1 : (0 : Int) ≤ (v : Int) := by omega
      have i2 : (v : Int) < (m : Int) := by omega
      have hwq := hq.size
      clear hve
      go_wp2_with (at_builtin; refine app1 rfl rfl ho rfl rfl (by omega) hwq ?_; intro g' cc w8 hO hg8 hs8 hb8)
      go_roundw
      case rel => exact ⟨k + 1, _, cc, by omega, by go_num, rfl, by rw [HST.out]; exact hO, hq.trans hb8⟩
      case measure => simp [intOf]; omega
    · obtain rfl : k = n := by omega
      go_wp2
      go_ret
      have e : p.take k = p := List.take_of_length_le (by have := HL.out; omega)
      rw [e] at ho
      exact ⟨_, _, rfl, ho, hq⟩

/-- the row of y, conjugated by that of x -/
def cjL (x y : List Int) : List Int := thL (thL (backF x) y) x
theorem thL_mem {p q : List Int} {n : Nat} (hp : ∀ x ∈ p, 0 ≤ x ∧ x < q.length) (hq : ∀ x ∈ q, 0 ≤ x ∧ x < n) : ∀ x ∈ thL p q, 0 ≤ x ∧ x < n := by
  intro x hx
  obtain ⟨y, hy, rfl⟩ := List.mem_map.1 hx
  have := hp y hy
  have hl : y.toNat < q.length := by omega
  rw [getD_at hl]
  exact hq _ (List.getElem_mem hl)
theorem cjL_len (x y : List Int) : (cjL x y).length = x.length := by unfold cjL; rw [thL_len, thL_len, backF_len]

end Go.Proofs.YtdkpalllfekiiaaGreat

namespace Go.Proofs.YtdkpalllfekiiaaGreat
set_option maxRecDepth 100000
set_option linter.unusedVariables false
set_option linter.unusedSimpArgs false

theorem thL_isP {n : Nat} {p q : List Int} (h : IsP n p) (k : IsP n q) : IsP n (thL p q) := by
  obtain ⟨f, g, hl, h1, h2⟩ := h
  obtain ⟨f', g', hl', h1', h2'⟩ := k
  refine ⟨fun i => f' (f i), fun i => g (g' i), by rw [thL_len]; exact hl, fun i hi => ?_, fun i hi => ?_⟩
  · have a1 := h1 i hi
    have a2 := h1' i hi
    have a3 := h1' (f i) a1.1
    have a4 := h1 (g' i) a2.2.1
    refine ⟨a3.1, a4.2.1, ?_, ?_⟩
    · show f' (f (g (g' i))) = i
      rw [a4.2.2.1, a2.2.2.1]
    · show g (g' (f' (f i))) = i
      rw [a3.2.2.2, a1.2.2.2]
  · have hp : i < p.length := by omega
    have e : (thL p q).getD i 0 = q.getD (p.getD i 0).toNat 0 := by
      simp [thL, List.getD_eq_getElem?_getD, List.getElem?_eq_getElem hp]
    rw [e, h2 i hi, Int.toNat_natCast, h2' (f i) (h1 i hi).1]
theorem cjL_isP {n : Nat} {p q : List Int} (h : IsP n p) (k : IsP n q) : IsP n (cjL p q) := thL_isP (thL_isP (back_isP h) k) h

/-- a row that is not known yet is empty -/
def RwOk (n : Nat) (r : List Int) : Prop := r = [] ∨ IsP n r
def RwsOk (n : Nat) (o : List (List Int)) : Prop := o.length = n ∧ ∀ i, i < n → RwOk n (o.getD i [])
/-- one pair of rows: the row that follows, or a contradiction -/
def sprT (o : List (List Int)) (x y : Nat) : Option (List (List Int) × Bool) :=
  if (o.getD x []) = [] ∨ (o.getD y []) = [] then some (o, false)
  else (fun (z : Nat) (want : List Int) => if o.getD z [] = [] then some (o.set z want, true) else if o.getD z [] = want then some (o, false) else none)
    ((o.getD x []).getD y 0).toNat (cjL (o.getD x []) (o.getD y []))
/-- the pairs of row x, the first ones -/
def sprR (x : Nat) : Nat → List (List Int) × Bool → Option (List (List Int) × Bool)
  | 0, s => some s
  | k + 1, s => (sprR x k s).bind fun s' => (sprT s'.1 x k).map fun t => (t.1, s'.2 || t.2)
/-- all pairs of the first rows -/
def sprA (n : Nat) : Nat → List (List Int) × Bool → Option (List (List Int) × Bool)
  | 0, s => some s
  | k + 1, s => (sprA n k s).bind fun s' => sprR k n s'
/-- until nothing follows any more -/
def sprF (n : Nat) : Nat → List (List Int) → Option (List (List Int))
  | 0, o => none
  | f + 1, o => (sprA n n (o, false)).bind fun s => if s.2 then sprF n f s.1 else some s.1
def empC (o : List (List Int)) : Nat := o.countP fun r => r.isEmpty
def sprL (o : List (List Int)) : Option (List (List Int)) := sprF o.length (o.length + 1) o

theorem RwsOk.set {n : Nat} {o : List (List Int)} (h : RwsOk n o) (z : Nat) {r : List Int} (hr : RwOk n r) : RwsOk n (o.set z r) := by
  refine ⟨by rw [List.length_set]; exact h.1, fun i hi => ?_⟩
  rw [getD_set' o z i r [] (by rw [h.1]; exact hi)]
  split
  · exact hr
  · exact h.2 i hi
theorem empC_set {o : List (List Int)} {z : Nat} {r : List Int} (hz : z < o.length) (he : o.getD z [] = []) (hr : r ≠ []) : empC (o.set z r) + 1 = empC o := by
  induction o generalizing z with
  | nil => simp at hz
  | cons a o ih =>
    cases z with
    | zero =>
      have : a = [] := by simpa using he
      subst this
      have h2 : r.isEmpty = false := by cases r with
        | nil => exact absurd rfl hr
        | cons _ _ => rfl
      simp [empC, List.countP_cons, h2]
    | succ z =>
      have := ih (z := z) (by simpa using hz) (by simpa using he)
      unfold empC at *
      rw [List.set_cons_succ, List.countP_cons, List.countP_cons]
      omega
theorem IsP.ne {n : Nat} {r : List Int} (hn : 0 < n) (h : IsP n r) : r ≠ [] := fun e => by have := h.len; rw [e] at this; simp at this; omega
theorem IsP.at {n : Nat} {r : List Int} (h : IsP n r) {y : Nat} (hy : y < n) : ∃ z : Nat, r.getD y 0 = z ∧ z < n := by
  obtain ⟨f, g, hl, h1, h2⟩ := h
  exact ⟨f y, h2 y hy, (h1 y hy).1⟩
/-- what one pair leaves -/
theorem sprT_ok {n : Nat} {o o' : List (List Int)} {b : Bool} {x y : Nat} (hn : 0 < n) (h : RwsOk n o) (hx : x < n) (hy : y < n) (e : sprT o x y = some (o', b)) : RwsOk n o' ∧ empC o' + (if b then 1 else 0) ≤ empC o := by
  unfold sprT at e
  split at e
  · cases e; exact ⟨h, by simp⟩
  · rename_i hne
    simp only at e
    have hpx := (h.2 x hx).resolve_left (fun h => hne (.inl h))
    have hpy := (h.2 y hy).resolve_left (fun h => hne (.inr h))
    have hc := cjL_isP hpx hpy
    obtain ⟨z, hz, hzn⟩ := hpx.at hy
    rw [hz, Int.toNat_natCast] at e
    split at e
    · rename_i hemp
      cases e
      refine ⟨h.set z (.inr hc), ?_⟩
      have := empC_set (o := o) (by rw [h.1]; exact hzn) hemp (IsP.ne hn hc)
      simp only [if_true]; omega
    · split at e
      · cases e; exact ⟨h, by simp⟩
      · cases e
theorem sprR_ok {n : Nat} {x : Nat} (hn : 0 < n) (hx : x < n) : ∀ (k : Nat) (s s' : List (List Int) × Bool), k ≤ n → RwsOk n s.1 → sprR x k s = some s' → RwsOk n s'.1 ∧ empC s'.1 + (if s'.2 then 1 else 0) ≤ empC s.1 + (if s.2 then 1 else 0) := by
  intro k
  induction k with
  | zero => intro s s' _ h e; cases e; exact ⟨h, Nat.le_refl _⟩
  | succ k ih =>
    intro s s' hk h e
    unfold sprR at e
    cases h1 : sprR x k s with
    | none => rw [h1] at e; cases e
    | some t =>
      rw [h1] at e
      have i1 := ih s t (by omega) h h1
      cases h2 : sprT t.1 x k with
      | none => simp [h2] at e
      | some u =>
        simp [h2] at e
        subst e
        have i2 := sprT_ok (b := u.2) hn i1.1 hx (by omega) h2
        refine ⟨i2.1, ?_⟩
        have a1 := i1.2
        have a2 := i2.2
        simp only
        cases ht : t.2 <;> cases hu : u.2 <;> simp [ht, hu] at * <;> omega
theorem sprA_ok {n : Nat} (hn : 0 < n) : ∀ (k : Nat) (s s' : List (List Int) × Bool), k ≤ n → RwsOk n s.1 → sprA n k s = some s' → RwsOk n s'.1 ∧ empC s'.1 + (if s'.2 then 1 else 0) ≤ empC s.1 + (if s.2 then 1 else 0) := by
  intro k
  induction k with
  | zero => intro s s' _ h e; cases e; exact ⟨h, Nat.le_refl _⟩
  | succ k ih =>
    intro s s' hk h e
    unfold sprA at e
    cases h1 : sprA n k s with
    | none => rw [h1] at e; cases e
    | some t =>
      rw [h1] at e
      have i1 := ih s t (by omega) h h1
      have i2 := sprR_ok hn (by omega) n t s' (Nat.le_refl _) i1.1 e
      exact ⟨i2.1, Nat.le_trans i2.2 i1.2⟩
/-- more rounds than there are empty rows: enough -/
theorem sprF_more {n : Nat} (hn : 0 < n) : ∀ (f : Nat) (o : List (List Int)), RwsOk n o → empC o < f → sprF n (f + 1) o = sprF n f o := by
  intro f
  induction f with
  | zero => intro o _ h; omega
  | succ f ih =>
    intro o h hf
    show (sprA n n (o, false)).bind _ = (sprA n n (o, false)).bind _
    cases h1 : sprA n n (o, false) with
    | none => rfl
    | some s =>
      show (if s.2 then sprF n (f + 1) s.1 else some s.1) = (if s.2 then sprF n f s.1 else some s.1)
      cases hs : s.2 with
      | false => rfl
      | true =>
        have := sprA_ok hn n _ _ (Nat.le_refl _) h h1
        rw [hs] at this
        simp at this
        simp only [if_true]
        exact ih s.1 this.1 (by omega)
theorem sprF_ok {n : Nat} (hn : 0 < n) : ∀ (f : Nat) (o o' : List (List Int)), RwsOk n o → sprF n f o = some o' → RwsOk n o' ∧ empC o' ≤ empC o := by
  intro f
  induction f with
  | zero => intro o o' _ h; cases h
  | succ f ih =>
    intro o o' h e
    unfold sprF at e
    cases h1 : sprA n n (o, false) with
    | none => rw [h1] at e; cases e
    | some s =>
      rw [h1] at e
      have i1 := sprA_ok hn n _ _ (Nat.le_refl _) h h1
      simp at i1 e
      cases hs : s.2 with
      | false => simp [hs] at e; subst e; exact ⟨i1.1, by omega⟩
      | true =>
        simp [hs] at e
        have i2 := ih _ _ i1.1 e
        exact ⟨i2.1, by omega⟩
end Go.Proofs.YtdkpalllfekiiaaGreat

namespace Go.Proofs.YtdkpalllfekiiaaGreat
set_option maxRecDepth 100000
set_option linter.unusedVariables false
set_option linter.unusedSimpArgs false
open Go.RowKit

/-- no fault and nil, or a fault and no nil -/
def FltR (ok : Bool) (W w : World) (e : Ending) (w' : World) : Prop := ((ok = true ∧ e = .returned (.slice none 0 0)) ∨ (ok = false ∧ ∃ b n c, e = .returned (.slice (some ⟨b, 0, none⟩) n c))) ∧ Below W.heap.size W w'

/-- what one look at the equation reads -/
theorem eq_reads (n : Nat) (f g : List (List Int)) (hf : Sq n f) (hg : Sq n g) {x y z : Nat} (hx : x < n) (hy : y < n) (hz : z < n) :
    ∃ a1 b1 b2 c2 a3 b3 e1 f1 d2 e2 e3 f3 : Nat, (a1 < n ∧ b1 < n ∧ b2 < n ∧ e1 < n ∧ f1 < n ∧ e2 < n) ∧
      (tv f x y = a1 ∧ tv g x y = b1 ∧ tv f b1 z = b2 ∧ tv g b1 z = c2 ∧ tv f a1 b2 = a3 ∧ tv g a1 b2 = b3) ∧
      (tv f y z = e1 ∧ tv g y z = f1 ∧ tv f x e1 = d2 ∧ tv g x e1 = e2 ∧ tv f e2 f1 = e3 ∧ tv g e2 f1 = f3) ∧
      eqAt f g x y z = ((decide (a3 = d2) && decide (b3 = e3)) && decide (c2 = f3)) :=
  ⟨_, _, _, _, _, _, _, _, _, _, _, _, ⟨hf.lt hx hy, hg.lt hx hy, hf.lt (hg.lt hx hy) hz, hf.lt hy hz, hg.lt hy hz, hg.lt hx (hf.lt hy hz)⟩, ⟨rfl, rfl, rfl, rfl, rfl, rfl⟩, ⟨rfl, rfl, rfl, rfl, rfl, rfl⟩, rfl⟩

set_option maxHeartbeats 4000000 in
theorem equationFault_any (a : Option Addr) (n c : Nat) (a' : Option Addr) (c' : Nat) (f g : List (List Int)) (w : World) (h1 : Tbl w a n f) (h2 : Tbl w a' n g) (hn1 : 1 ≤ n) (hn : n ≤ 12) (hf : Sq n f) (hg : Sq n g) :
    Calls Tryz.prog 43 #[sAgg a n c a' n c'] w (FltR (eqOk n f g) w w) := by
  obtain ⟨bf, of, A, O, C, rfl, Gf⟩ := h1.grid hf hn1
  obtain ⟨bg, og, A', O', C', rfl, Gg⟩ := h2.grid hg hn1
  clear h1 h2
  go_enter Tryz.func43, Tryz.ntmps43
  have hA := Loc.new w rfl #[.slice (some ⟨bf, of, none⟩) n c, .slice (some ⟨bg, og, none⟩) n c'] 42
  have lA := hA.two
  have gf := Gf.alloc (.cells #[.slice (some ⟨bf, of, none⟩) n c, .slice (some ⟨bg, og, none⟩) n c'] 42)
  have gg := Gg.alloc (.cells #[.slice (some ⟨bf, of, none⟩) n c, .slice (some ⟨bg, og, none⟩) n c'] 42)
  have hB := below_al (Below.refl w.heap.size w) (.cells #[.slice (some ⟨bf, of, none⟩) n c, .slice (some ⟨bg, og, none⟩) n c'] 42)
  clear Gf Gg
  go_wp2
  generalize (w.alloc (.cells #[.slice (some ⟨bf, of, none⟩) n c, .slice (some ⟨bg, og, none⟩) n c'] 42)) = w0 at *
  go_loopw [17] (fun i wr => ∃ k : Nat, k ≤ n ∧ i = .int .i64 k ∧ Hid (allN k (fun x => allN n fun y => allN n fun z => eqAt f g x y z) = true) ∧ ∃ m, wr = w0.drewN m) (fun i _ => n - (intOf i).toNat)
  case atStart => exact ⟨0, Nat.zero_le _, rfl, Lib.hid rfl, 0, rfl⟩
  case round =>
    obtain ⟨x, hx, rfl, hx1, m1, rfl⟩ := hrel
    by_cases hlt : x < n
    · go_wp2
      go_loopw [21] (fun i wr => ∃ k : Nat, k ≤ n ∧ i = .int .i64 k ∧ Hid (allN k (fun y => allN n fun z => eqAt f g x y z) = true) ∧ ∃ m, wr = w0.drewN m) (fun i _ => n - (intOf i).toNat)
      case atStart => exact ⟨0, Nat.zero_le _, rfl, Lib.hid rfl, m1, rfl⟩
      case round =>
        obtain ⟨y, hy, rfl, hy1, m2, rfl⟩ := hrel
        by_cases hlty : y < n
        · go_wp2
          go_loopw [25] (fun i wr => ∃ k : Nat, k ≤ n ∧ i = .int .i64 k ∧ Hid (allN k (fun z => eqAt f g x y z) = true) ∧ ∃ m, wr = w0.drewN m) (fun i _ => n - (intOf i).toNat)
          case atStart => exact ⟨0, Nat.zero_le _, rfl, Lib.hid rfl, m2, rfl⟩
          case round =>
            obtain ⟨z, hz, rfl, hz1, m3, rfl⟩ := hrel
            by_cases hltz : z < n
            · obtain ⟨a1, b1, b2, c2, a3, b3, e1, f1, d2, e2, e3, f3, ⟨l1, l2, l3, l4, l5, l6⟩, ⟨q1, q2, q3, q4, q5, q6⟩, ⟨q7, q8, q9, q10, q11, q12⟩, hE⟩ := eq_reads n f g hf hg hlt hlty hltz
              obtain ⟨r1, k1⟩ := gf.look hlt hlty
              obtain ⟨r2, k2⟩ := gg.look hlt hlty
              obtain ⟨r3, k3⟩ := gf.look l2 hltz
              obtain ⟨r4, k4⟩ := gg.look l2 hltz
              obtain ⟨r5, k5⟩ := gf.look l1 l3
              obtain ⟨r6, k6⟩ := gg.look l1 l3
              obtain ⟨r7, k7⟩ := gf.look hlty hltz
              obtain ⟨r8, k8⟩ := gg.look hlty hltz
              have k9 := gf.cell _ _ hlt l4
              have k10 := gg.cell _ _ hlt l4
              obtain ⟨r11, k11⟩ := gf.look l6 l5
              obtain ⟨r12, k12⟩ := gg.look l6 l5
              rw [q1] at k1; rw [q2] at k2; rw [q3] at k3; rw [q4] at k4; rw [q5] at k5; rw [q6] at k6; rw [q7] at k7; rw [q8] at k8; rw [q9] at k9; rw [q10] at k10; rw [q11] at k11; rw [q12] at k12
              have HE := Lib.hid hE
              clear q1 q2 q3 q4 q5 q6 q7 q8 q9 q10 q11 q12 hE gf gg hf hg
              go_wp2
              go_quiet (fail)
              go_wp2
              go_quiet (fail)
              go_wp2
              go_quiet (fail)
              go_wp2
              go_quiet (fail)
              go_wp2
              go_quiet (fail)
              go_wp2
              go_quiet (fail)
              clear r1 r2 r3 r4 r5 r6 r7 r8 r11 r12 k1 k2 k3 k4 k5 k6 k7 k8 k9 k10 k11 k12
              by_cases p1 : a3 = d2
              · by_cases p2 : b3 = e3
                · by_cases p3 : c2 = f3
                  · have u1 : ((a3 : Int) != (d2 : Int)) = false := by simp [p1]
                    have u2 : ((b3 : Int) != (e3 : Int)) = false := by simp [p2]
                    have u3 : ((c2 : Int) != (f3 : Int)) = false := by simp [p3]
                    have HE2 : Hid (eqAt f g x y z = true) := Lib.hid (by rw [HE.out]; simp [p1, p2, p3])
                    clear p1 p2 p3
                    go_wp2
                    go_roundw
                    case rel => exact ⟨z + 1, by omega, by go_num, Lib.hid (allN_succ hz1.out HE2.out), _, rfl⟩
                    case measure => simp [intOf]; omega
                  · have u1 : ((a3 : Int) != (d2 : Int)) = false := by simp [p1]
                    have u2 : ((b3 : Int) != (e3 : Int)) = false := by simp [p2]
                    have u3 : ((c2 : Int) != (f3 : Int)) = true := by simp; omega
                    have HE2 : Hid (eqAt f g x y z = false) := Lib.hid (by rw [HE.out]; simp [p3])
                    clear p1 p2 p3
                    go_wp2
                    go_ret
                    exact ⟨.inr ⟨allN_no hlt (allN_no hlty (allN_no hltz HE2.out)), _, _, _, rfl⟩, below_al (below_drewN hB _) _⟩
                · have u1 : ((a3 : Int) != (d2 : Int)) = false := by simp [p1]
                  have u2 : ((b3 : Int) != (e3 : Int)) = true := by simp; omega
                  have HE2 : Hid (eqAt f g x y z = false) := Lib.hid (by rw [HE.out]; simp [p2])
                  clear p1 p2
                  go_wp2
                  go_ret
                  exact ⟨.inr ⟨allN_no hlt (allN_no hlty (allN_no hltz HE2.out)), _, _, _, rfl⟩, below_al (below_drewN hB _) _⟩
              · have u1 : ((a3 : Int) != (d2 : Int)) = true := by simp; omega
                have HE2 : Hid (eqAt f g x y z = false) := Lib.hid (by rw [HE.out]; simp [p1])
                clear p1
                go_wp2
                go_ret
                exact ⟨.inr ⟨allN_no hlt (allN_no hlty (allN_no hltz HE2.out)), _, _, _, rfl⟩, below_al (below_drewN hB _) _⟩
            · obtain rfl : z = n := by omega
              go_wp2
              go_roundw
              case rel => exact ⟨y + 1, by omega, by go_num, Lib.hid (allN_succ hy1.out hz1.out), _, rfl⟩
              case measure => simp [intOf]; omega
        · obtain rfl : y = n := by omega
          go_wp2
          go_roundw
          case rel => exact ⟨x + 1, by omega, by go_num, Lib.hid (allN_succ hx1.out hy1.out), _, rfl⟩
          case measure => simp [intOf]; omega
    · obtain rfl : x = n := by omega
      go_wp2
      go_ret
      exact ⟨.inl ⟨hx1.out, rfl⟩, below_drewN hB _⟩

end Go.Proofs.YtdkpalllfekiiaaGreat

namespace Go.Proofs.YtdkpalllfekiiaaGreat
set_option maxRecDepth 100000
set_option linter.unusedVariables false
set_option linter.unusedSimpArgs false
open Go.RowKit

theorem quo_nat {p n : Nat} (hn : 1 ≤ n) (hp : p ≤ 1000000) : ((p : Int)).tdiv (n : Int) = ((p / n : Nat) : Int) := by
  rw [Int.tdiv_eq_ediv_of_nonneg (by omega)]; simp
theorem rem_nat {p n : Nat} (hn : 1 ≤ n) (hp : p ≤ 1000000) : ((p : Int)).tmod (n : Int) = ((p % n : Nat) : Int) := by
  rw [Int.tmod_eq_emod_of_nonneg (by omega)]; simp
theorem div_lt_sq {p n : Nat} (h : p < n * n) : p / n < n := Nat.div_lt_of_lt_mul h

/-- what one look at two pairs reads -/
theorem coll_reads (n : Nat) (f g : List (List Int)) (hf : Sq n f) (hg : Sq n g) {p q : Nat} (hn : 1 ≤ n) (hp : p < n * n) (hq : q < n * n) :
    ∃ x y u v a b c d : Nat, (x < n ∧ y < n ∧ u < n ∧ v < n) ∧ (p / n = x ∧ p % n = y ∧ q / n = u ∧ q % n = v) ∧ (tv f x y = a ∧ tv f u v = b ∧ tv g x y = c ∧ tv g u v = d) ∧
      collAt n f g p q = ((!decide (p = q)) && (decide (a = b) && decide (c = d))) :=
  ⟨_, _, _, _, _, _, _, _, ⟨div_lt_sq hp, Nat.mod_lt _ hn, div_lt_sq hq, Nat.mod_lt _ hn⟩, ⟨rfl, rfl, rfl, rfl⟩, ⟨rfl, rfl, rfl, rfl⟩, rfl⟩

set_option maxHeartbeats 4000000 in
theorem collisionOf_any (a : Option Addr) (n c : Nat) (a' : Option Addr) (c' : Nat) (f g : List (List Int)) (w : World) (h1 : Tbl w a n f) (h2 : Tbl w a' n g) (hn1 : 1 ≤ n) (hn : n ≤ 12) (hf : Sq n f) (hg : Sq n g) :
    Calls Tryz.prog 42 #[sAgg a n c a' n c'] w (FltR (collOk n f g) w w) := by
  obtain ⟨bf, of, A, O, C, rfl, Gf⟩ := h1.grid hf hn1
  obtain ⟨bg, og, A', O', C', rfl, Gg⟩ := h2.grid hg hn1
  clear h1 h2
  obtain ⟨N, hN⟩ : ∃ N, N = n * n := ⟨_, rfl⟩
  have hN144 : N ≤ 144 := by rw [hN]; exact Nat.mul_le_mul hn hn
  have hmul : (n : Int) * (n : Int) = (N : Int) := by rw [hN]; simp
  have HN := Lib.hid hN
  have HOK : Hid (collOk n f g = allN N fun p => allN N fun q => !collAt n f g p q) := Lib.hid (by rw [hN]; rfl)
  clear hN
  have hn0 : (n : Int) ≠ 0 := by omega
  go_enter Tryz.func42, Tryz.ntmps42
  have hA := Loc.new w rfl #[.slice (some ⟨bf, of, none⟩) n c, .slice (some ⟨bg, og, none⟩) n c'] 42
  have lA := hA.two
  have gf := Gf.alloc (.cells #[.slice (some ⟨bf, of, none⟩) n c, .slice (some ⟨bg, og, none⟩) n c'] 42)
  have gg := Gg.alloc (.cells #[.slice (some ⟨bf, of, none⟩) n c, .slice (some ⟨bg, og, none⟩) n c'] 42)
  have hB := below_al (Below.refl w.heap.size w) (.cells #[.slice (some ⟨bf, of, none⟩) n c, .slice (some ⟨bg, og, none⟩) n c'] 42)
  clear Gf Gg
  go_wp2
  generalize (w.alloc (.cells #[.slice (some ⟨bf, of, none⟩) n c, .slice (some ⟨bg, og, none⟩) n c'] 42)) = w0 at *
  go_loopw [16] (fun i wr => ∃ k : Nat, k ≤ N ∧ i = .int .i64 k ∧ Hid (allN k (fun p => allN N fun q => !collAt n f g p q) = true) ∧ ∃ m, wr = w0.drewN m) (fun i _ => N - (intOf i).toNat)
  case atStart => exact ⟨0, Nat.zero_le _, rfl, Lib.hid rfl, 0, rfl⟩
  case round =>
    obtain ⟨p, hp, rfl, hp1, m1, rfl⟩ := hrel
    by_cases hlt : p < N
    · have Qp := quo_nat (n := n) (p := p) hn1 (by omega)
      have Rp := rem_nat (n := n) (p := p) hn1 (by omega)
      have bx := div_lt_sq (n := n) (p := p) (by rw [← HN.out]; exact hlt)
      have bY := Nat.mod_lt p hn1
      generalize hx : p / n = x at Qp bx
      generalize hy : p % n = y at Rp bY
      have Wp : IntKind.i64.wrap (x : Int) = (x : Int) := IntWalk.i64_in _ (by omega)
      have Wr : IntKind.i64.wrap (y : Int) = (y : Int) := IntWalk.i64_in _ (by omega)
      have HX := Lib.hid hx; have HY := Lib.hid hy; clear hx hy
      go_wp2
      go_quiet (fail)
      go_wp2
      clear Qp Rp Wp Wr
      go_loopw [28] (fun i wr => ∃ k : Nat, k ≤ N ∧ i = .int .i64 k ∧ Hid (allN k (fun q => !collAt n f g p q) = true) ∧ ∃ m, wr = w0.drewN m) (fun i _ => N - (intOf i).toNat)
      case atStart => exact ⟨0, Nat.zero_le _, rfl, Lib.hid rfl, _, rfl⟩
      case round =>
        obtain ⟨q, hq, rfl, hq1, m2, rfl⟩ := hrel
        by_cases hltq : q < N
        · have Qq := quo_nat (n := n) (p := q) hn1 (by omega)
          have Rq := rem_nat (n := n) (p := q) hn1 (by omega)
          have bu := div_lt_sq (n := n) (p := q) (by rw [← HN.out]; exact hltq)
          have bv := Nat.mod_lt q hn1
          generalize hu : q / n = u at Qq bu
          generalize hv : q % n = v at Rq bv
          have Wq : IntKind.i64.wrap (u : Int) = (u : Int) := IntWalk.i64_in _ (by omega)
          have Wv : IntKind.i64.wrap (v : Int) = (v : Int) := IntWalk.i64_in _ (by omega)
          have hE : collAt n f g p q = ((!decide (p = q)) && (decide (tv f x y = tv f u v) && decide (tv g x y = tv g u v))) := by
            unfold collAt; rw [HX.out, HY.out, hu, hv]
          obtain ⟨r1, k1⟩ := gf.look bx bY
          obtain ⟨r2, k2⟩ := gf.look bu bv
          obtain ⟨r3, k3⟩ := gg.look bx bY
          obtain ⟨r4, k4⟩ := gg.look bu bv
          generalize tv f x y = A1 at hE k1
          generalize tv f u v = A2 at hE k2
          generalize tv g x y = A3 at hE k3
          generalize tv g u v = A4 at hE k4
          have HE := Lib.hid hE
          clear hE hu hv gf gg hf hg
          go_wp2
          go_quiet (fail)
          go_wp2
          clear Qq Rq Wq Wv
          by_cases p0 : p = q
          · have u0 : ((p : Int) != (q : Int)) = false := by simp [p0]
            have HE2 : Hid ((!collAt n f g p q) = true) := Lib.hid (by rw [HE.out]; simp [p0])
            clear p0
            go_quiet (fail)
            go_wp2
            go_roundw
            case rel => exact ⟨q + 1, by omega, by go_num, Lib.hid (allN_succ hq1.out HE2.out), _, rfl⟩
            case measure => simp [intOf]; omega
          · have u0 : ((p : Int) != (q : Int)) = true := by simp; omega
            by_cases p1 : A1 = A2
            · have u1 : ((A1 : Int) == (A2 : Int)) = true := by simp [p1]
              by_cases p2 : A3 = A4
              · have u2 : ((A3 : Int) == (A4 : Int)) = true := by simp [p2]
                have HE2 : Hid ((!collAt n f g p q) = false) := Lib.hid (by rw [HE.out]; simp [p0, p1, p2])
                clear p0 p1 p2
                go_quiet (fail)
                go_wp2
                go_ret
                exact ⟨.inr ⟨by rw [HOK.out]; exact allN_no hlt (allN_no hltq HE2.out), _, _, _, rfl⟩, below_al (below_drewN hB _) _⟩
              · have u2 : ((A3 : Int) == (A4 : Int)) = false := by simp; omega
                have HE2 : Hid ((!collAt n f g p q) = true) := Lib.hid (by rw [HE.out]; simp [p2])
                clear p0 p1 p2
                go_quiet (fail)
                go_wp2
                go_roundw
                case rel => exact ⟨q + 1, by omega, by go_num, Lib.hid (allN_succ hq1.out HE2.out), _, rfl⟩
                case measure => simp [intOf]; omega
            · have u1 : ((A1 : Int) == (A2 : Int)) = false := by simp; omega
              have HE2 : Hid ((!collAt n f g p q) = true) := Lib.hid (by rw [HE.out]; simp [p1])
              clear p0 p1
              go_quiet (fail)
              go_wp2
              go_roundw
              case rel => exact ⟨q + 1, by omega, by go_num, Lib.hid (allN_succ hq1.out HE2.out), _, rfl⟩
              case measure => simp [intOf]; omega
        · obtain rfl : q = N := by omega
          go_wp2
          go_roundw
          case rel => exact ⟨p + 1, by omega, by go_num, Lib.hid (allN_succ hp1.out hq1.out), _, rfl⟩
          case measure => simp [intOf]; omega
    · obtain rfl : p = N := by omega
      go_wp2
      go_ret
      exact ⟨.inl ⟨by rw [HOK.out]; exact hp1.out, rfl⟩, below_drewN hB _⟩

end Go.Proofs.YtdkpalllfekiiaaGreat

namespace Go.Proofs.YtdkpalllfekiiaaGreat
set_option linter.unusedVariables false
set_option linter.unusedSimpArgs false

/-- an injection of the numbers less than N into themselves meets each of them -/
theorem inj_surj (N : Nat) : ∀ (f : Nat → Nat), (∀ i, i < N → f i < N) → (∀ i j, i < N → j < N → f i = f j → i = j) → ∀ j, j < N → ∃ i, i < N ∧ f i = j := by
  induction N with
  | zero => intro f _ _ j hj; omega
  | succ N ih =>
    intro f hlt hinj j hj
    by_cases hm : f N = j
    · exact ⟨N, by omega, hm⟩
    · have hne : ∀ i, i < N → f i ≠ f N := fun i hi e => by have := hinj i N (by omega) (by omega) e; omega
      have hNlt := hlt N (by omega)
      obtain ⟨F, hF⟩ : ∃ F : Nat → Nat, ∀ i, F i = if f i = N then f N else f i := ⟨_, fun _ => rfl⟩
      have h1 : ∀ i, i < N → F i < N := by
        intro i hi
        have a := hlt i (by omega)
        have b := hne i hi
        rw [hF]
        by_cases e : f i = N
        · rw [if_pos e]; omega
        · rw [if_neg e]; omega
      have h2 : ∀ i k, i < N → k < N → F i = F k → i = k := by
        intro i k hi hk e
        rw [hF, hF] at e
        have b1 := hne i hi
        have b2 := hne k hk
        by_cases e1 : f i = N
        · by_cases e2 : f k = N
          · exact hinj i k (by omega) (by omega) (by omega)
          · rw [if_pos e1, if_neg e2] at e; omega
        · by_cases e2 : f k = N
          · rw [if_neg e1, if_pos e2] at e; omega
          · rw [if_neg e1, if_neg e2] at e; exact hinj i k (by omega) (by omega) e
      by_cases hjN : j = N
      · subst hjN
        obtain ⟨i, hi, e⟩ := ih F h1 h2 (f j) (by omega)
        rw [hF] at e
        by_cases e1 : f i = j
        · exact ⟨i, by omega, e1⟩
        · rw [if_neg e1] at e; exact absurd e (hne i hi)
      · obtain ⟨i, hi, e⟩ := ih F h1 h2 j (by omega)
        rw [hF] at e
        by_cases e1 : f i = N
        · rw [if_pos e1] at e; exact absurd e hm
        · rw [if_neg e1] at e; exact ⟨i, by omega, e⟩

theorem pair_div {n x y : Nat} (hn : 1 ≤ n) (hy : y < n) : (x * n + y) / n = x := by
  rw [Nat.mul_comm, Nat.mul_add_div (by omega), Nat.div_eq_of_lt hy, Nat.add_zero]
theorem pair_mod {n x y : Nat} (hy : y < n) : (x * n + y) % n = y := by
  rw [Nat.mul_comm, Nat.mul_add_mod, Nat.mod_eq_of_lt hy]
theorem pair_lt {n x y : Nat} (hx : x < n) (hy : y < n) : x * n + y < n * n := by
  have : (x + 1) * n ≤ n * n := Nat.mul_le_mul_right n hx
  have e : (x + 1) * n = x * n + n := by rw [Nat.add_mul]; simp
  omega

/-- the pair that is led to (u, v), as one number -/
def prN (n : Nat) (f g : List (List Int)) (u v : Nat) : Nat := ((List.range (n * n)).find? fun p => decide (tv f (p / n) (p % n) = u) && decide (tv g (p / n) (p % n) = v)).getD 0

theorem coll_inj {n : Nat} {f g : List (List Int)} (hc : collOk n f g = true) {p q : Nat} (hp : p < n * n) (hq : q < n * n) (h1 : tv f (p / n) (p % n) = tv f (q / n) (q % n)) (h2 : tv g (p / n) (p % n) = tv g (q / n) (q % n)) : p = q := by
  have := allN_get (allN_get hc hp) hq
  unfold collAt at this
  by_cases e : p = q
  · exact e
  · simp [e, h1, h2] at this
theorem prN_eq {n : Nat} {f g : List (List Int)} (hn : 1 ≤ n) (hc : collOk n f g = true) {x y u v : Nat} (hx : x < n) (hy : y < n) (h1 : tv f x y = u) (h2 : tv g x y = v) : prN n f g u v = x * n + y := by
  unfold prN
  have hlt := pair_lt hx hy
  have hP : (fun p => decide (tv f (p / n) (p % n) = u) && decide (tv g (p / n) (p % n) = v)) (x * n + y) = true := by
    show (decide (tv f ((x * n + y) / n) ((x * n + y) % n) = u) && decide (tv g ((x * n + y) / n) ((x * n + y) % n) = v)) = true
    rw [pair_div hn hy, pair_mod hy]; simp [h1, h2]
  cases hq : (List.range (n * n)).find? (fun p => decide (tv f (p / n) (p % n) = u) && decide (tv g (p / n) (p % n) = v)) with
  | none => rw [List.find?_eq_none] at hq; exact absurd hP (hq _ (List.mem_range.2 hlt))
  | some q =>
    have h3 := List.find?_some hq
    have h4 := List.mem_range.1 (List.mem_of_find?_eq_some hq)
    rw [Bool.and_eq_true, decide_eq_true_iff, decide_eq_true_iff] at h3
    show q = _
    refine coll_inj hc h4 hlt ?_ ?_
    · rw [pair_div hn hy, pair_mod hy, h1]; exact h3.1
    · rw [pair_div hn hy, pair_mod hy, h2]; exact h3.2
theorem pr_ex {n : Nat} {f g : List (List Int)} (hn : 1 ≤ n) (hf : Sq n f) (hg : Sq n g) (hc : collOk n f g = true) {u v : Nat} (hu : u < n) (hv : v < n) : ∃ x y, x < n ∧ y < n ∧ tv f x y = u ∧ tv g x y = v := by
  obtain ⟨p, hp, e⟩ := inj_surj (n * n) (fun p => tv f (p / n) (p % n) * n + tv g (p / n) (p % n))
    (fun p hp => pair_lt (hf.lt (div_lt_sq hp) (Nat.mod_lt _ hn)) (hg.lt (div_lt_sq hp) (Nat.mod_lt _ hn)))
    (fun p q hp hq e => by
      have bp := hg.lt (div_lt_sq hp) (Nat.mod_lt p hn)
      have bq := hg.lt (div_lt_sq hq) (Nat.mod_lt q hn)
      have e1 := congrArg (· / n) e
      have e2 := congrArg (· % n) e
      simp only [pair_div hn bp, pair_div hn bq, pair_mod bp, pair_mod bq] at e1 e2
      exact coll_inj hc hp hq e1 e2)
    (u * n + v) (pair_lt hu hv)
  have bp := hg.lt (div_lt_sq hp) (Nat.mod_lt p hn)
  have e1 := congrArg (· / n) e
  have e2 := congrArg (· % n) e
  simp only [pair_div hn bp, pair_mod bp, pair_div hn hv, pair_mod hv] at e1 e2
  exact ⟨p / n, p % n, div_lt_sq hp, Nat.mod_lt _ hn, e1, e2⟩

/-- the tables of the inverse -/
def bfT (n : Nat) (f g : List (List Int)) : List (List Int) := tabF n fun u v => ((prN n f g u v / n : Nat) : Int)
def bgT (n : Nat) (f g : List (List Int)) : List (List Int) := tabF n fun u v => ((prN n f g u v % n : Nat) : Int)
theorem tv_tabF (n : Nat) (V : Nat → Nat → Int) {x y : Nat} (hx : x < n) (hy : y < n) : ((tabF n V).getD x []).getD y 0 = V x y := by
  rw [tabF_get n V x hx]
  simp [List.getD_eq_getElem?_getD, List.getElem?_map, hy]
theorem Sq.tab {n : Nat} {V : Nat → Nat → Nat} (h : ∀ x y, x < n → y < n → V x y < n) : Sq n (tabF n fun x y => ((V x y : Nat) : Int)) := by
  refine ⟨tabF_len _ _, fun x hx => ⟨by rw [tabF_get _ _ x hx]; simp, fun y hy => ?_⟩⟩
  unfold tv
  rw [tv_tabF n _ hx hy]
  simp [h x y hx hy]
theorem tv_tab {n : Nat} {V : Nat → Nat → Nat} {x y : Nat} (hx : x < n) (hy : y < n) : tv (tabF n fun x y => ((V x y : Nat) : Int)) x y = V x y := by
  unfold tv; rw [tv_tabF n _ hx hy]; simp
theorem prN_lt {n : Nat} {f g : List (List Int)} (hn : 1 ≤ n) (hf : Sq n f) (hg : Sq n g) (hc : collOk n f g = true) {u v : Nat} (hu : u < n) (hv : v < n) : prN n f g u v < n * n := by
  obtain ⟨x, y, hx, hy, h1, h2⟩ := pr_ex hn hf hg hc hu hv
  rw [prN_eq hn hc hx hy h1 h2]; exact pair_lt hx hy
theorem bf_sq {n : Nat} {f g : List (List Int)} (hn : 1 ≤ n) (hf : Sq n f) (hg : Sq n g) (hc : collOk n f g = true) : Sq n (bfT n f g) := Sq.tab fun u v hu hv => div_lt_sq (prN_lt hn hf hg hc hu hv)
theorem bg_sq {n : Nat} {f g : List (List Int)} (hn : 1 ≤ n) : Sq n (bgT n f g) := Sq.tab fun u v hu hv => Nat.mod_lt _ hn
theorem bf_tv {n : Nat} {f g : List (List Int)} (hn : 1 ≤ n) (hc : collOk n f g = true) {x y u v : Nat} (hx : x < n) (hy : y < n) (hu : u < n) (hv : v < n) (h1 : tv f x y = u) (h2 : tv g x y = v) : tv (bfT n f g) u v = x := by
  unfold bfT; rw [tv_tab hu hv, prN_eq hn hc hx hy h1 h2, pair_div hn hy]
theorem bg_tv {n : Nat} {f g : List (List Int)} (hn : 1 ≤ n) (hc : collOk n f g = true) {x y u v : Nat} (hx : x < n) (hy : y < n) (hu : u < n) (hv : v < n) (h1 : tv f x y = u) (h2 : tv g x y = v) : tv (bgT n f g) u v = y := by
  unfold bgT; rw [tv_tab hu hv, prN_eq hn hc hx hy h1 h2, pair_mod hy]

theorem isSol_coll {f g : List (List Int)} (h : isSol f g = true) : collOk f.length f g = true := by
  unfold isSol at h; rw [Bool.and_eq_true, Bool.and_eq_true] at h; exact h.2.1

/-- the tuple to which a letter leads a tuple -/
def stepL (n : Nat) (f g : List (List Int)) (x : Int) (l : List Int) : List Int := if 0 < x then doF f g (plc x).toNat l else doF (bfT n f g) (bgT n f g) (plc x).toNat l
/-- the tuple to which a word leads a tuple -/
def actL (n : Nat) (f g : List (List Int)) (xs : List Int) (l : List Int) : List Int := xs.foldl (fun l x => stepL n f g x l) l
theorem stepL_len (n : Nat) (f g : List (List Int)) (x : Int) (l : List Int) : (stepL n f g x l).length = l.length := by
  unfold stepL; split <;> exact doF_len _ _ _ _
theorem actL_take (n : Nat) (f g : List (List Int)) (xs : List Int) (l : List Int) (k : Nat) (h : k < xs.length) : actL n f g (xs.take (k + 1)) l = stepL n f g xs[k] (actL n f g (xs.take k) l) := by
  unfold actL; rw [List.take_succ_eq_append_getElem h, List.foldl_append]; rfl
theorem actL_len (n : Nat) (f g : List (List Int)) (xs : List Int) (l : List Int) : (actL n f g xs l).length = l.length := by
  unfold actL
  induction xs generalizing l with
  | nil => rfl
  | cons x r ih => rw [List.foldl_cons, ih, stepL_len]
theorem Less.step {n : Nat} {f g : List (List Int)} {l : List Int} (hn : 1 ≤ n) (hf : Sq n f) (hg : Sq n g) (hc : collOk n f g = true) (h : Less n l) (x : Int) (hx : (plc x).toNat + 1 < l.length) : Less n (stepL n f g x l) := by
  unfold stepL
  split
  · exact h.do_ hf hg _ hx
  · exact h.do_ (bf_sq hn hf hg hc) (bg_sq hn) _ hx
theorem Less.act {n : Nat} {f g : List (List Int)} {l : List Int} (hn : 1 ≤ n) (hf : Sq n f) (hg : Sq n g) (hc : collOk n f g = true) (h : Less n l) (xs : List Int) (hx : ∀ x ∈ xs, (plc x).toNat + 1 < l.length) : Less n (actL n f g xs l) := by
  unfold actL
  induction xs generalizing l with
  | nil => exact h
  | cons x r ih =>
    rw [List.foldl_cons]
    exact ih (h.step hn hf hg hc x (hx x (by simp))) (fun y hy => by rw [stepL_len]; exact hx y (by simp [hy]))

end Go.Proofs.YtdkpalllfekiiaaGreat

namespace Go.Proofs.YtdkpalllfekiiaaGreat
set_option linter.unusedVariables false
set_option linter.unusedSimpArgs false

def Shape (n : Nat) (F : List (List Int)) : Prop := F.length = n ∧ ∀ x, x < n → (F.getD x []).length = n
theorem Sq.shape {n : Nat} {t : List (List Int)} (h : Sq n t) : Shape n t := ⟨h.len, fun x hx => h.row hx⟩
theorem Shape.set {n : Nat} {F : List (List Int)} (h : Shape n F) (u v : Nat) (x : Int) : Shape n (F.set u ((F.getD u []).set v x)) := by
  refine ⟨by simp [h.1], fun i hi => ?_⟩
  rw [getD_set' _ _ _ _ _ (by rw [h.1]; exact hi)]
  by_cases e : i = u
  · rw [if_pos e, List.length_set, ← e]; exact h.2 i hi
  · rw [if_neg e]; exact h.2 i hi
theorem Shape.at_ {n : Nat} {F : List (List Int)} (h : Shape n F) (u v : Nat) (x : Int) {i j : Nat} (hi : i < n) (hj : j < n) : ((F.set u ((F.getD u []).set v x)).getD i []).getD j 0 = if i = u ∧ j = v then x else (F.getD i []).getD j 0 := by
  rw [getD_set' _ _ _ _ _ (by rw [h.1]; exact hi)]
  by_cases e : i = u
  · subst e
    rw [if_pos rfl, getD_set' _ _ _ _ _ (by rw [h.2 i hi]; exact hj)]
    by_cases e' : j = v <;> simp [e']
  · rw [if_neg e, if_neg (fun h => e h.1)]
theorem Shape.ext {n : Nat} {F : List (List Int)} {V : Nat → Nat → Int} (h : Shape n F) (hv : ∀ x y, x < n → y < n → (F.getD x []).getD y 0 = V x y) : F = tabF n V := by
  apply List.ext_getElem
  · rw [h.1, tabF_len]
  · intro x h1 h2
    have hx : x < n := by rw [h.1] at h1; exact h1
    have e1 : F.getD x [] = F[x] := by simp [List.getD_eq_getElem?_getD, List.getElem?_eq_getElem h1]
    have e2 : (tabF n V).getD x [] = (tabF n V)[x] := by simp [List.getD_eq_getElem?_getD, List.getElem?_eq_getElem h2]
    have e3 := tabF_get n V x hx
    rw [← e1, ← e2, e3]
    apply List.ext_getElem
    · rw [h.2 x hx]; simp
    · intro y h3 h4
      have hy : y < n := by rw [h.2 x hx] at h3; exact h3
      have := hv x y hx hy
      rw [List.getD_eq_getElem?_getD, List.getElem?_eq_getElem h3] at this
      simpa using this

/-- what is filled in of the inverse: the pairs that are done -/
def InvAt (n : Nat) (f g : List (List Int)) (done : Nat → Nat → Prop) (F G : List (List Int)) : Prop :=
  Shape n F ∧ Shape n G ∧ ∀ x y, x < n → y < n → done x y → (F.getD (tv f x y) []).getD (tv g x y) 0 = (x : Int) ∧ (G.getD (tv f x y) []).getD (tv g x y) 0 = (y : Int)
section
variable {n : Nat} {f g F G : List (List Int)}
theorem InvAt.start (hf : Shape n F) (hg : Shape n G) : InvAt n f g (fun x _ => x < 0) F G := ⟨hf, hg, fun x y _ _ h => absurd h (by omega)⟩
theorem InvAt.begin {k : Nat} (h : InvAt n f g (fun x _ => x < k) F G) : InvAt n f g (fun x y => x < k ∨ (x = k ∧ y < 0)) F G := ⟨h.1, h.2.1, fun x y hx hy hd => h.2.2 x y hx hy (by show x < k; omega)⟩
theorem InvAt.finish {k : Nat} (h : InvAt n f g (fun x y => x < k ∨ (x = k ∧ y < n)) F G) : InvAt n f g (fun x _ => x < k + 1) F G := ⟨h.1, h.2.1, fun x y hx hy hd => h.2.2 x y hx hy (by show x < k ∨ (x = k ∧ y < n); have : x < k + 1 := hd; omega)⟩
theorem InvAt.step (hn : 1 ≤ n) (hf : Sq n f) (hg : Sq n g) (hc : collOk n f g = true) {k j : Nat} (hk : k < n) (hj : j < n) (h : InvAt n f g (fun x y => x < k ∨ (x = k ∧ y < j)) F G) :
    InvAt n f g (fun x y => x < k ∨ (x = k ∧ y < j + 1)) (F.set (tv f k j) ((F.getD (tv f k j) []).set (tv g k j) (k : Int))) (G.set (tv f k j) ((G.getD (tv f k j) []).set (tv g k j) (j : Int))) := by
  refine ⟨h.1.set _ _ _, h.2.1.set _ _ _, fun x y hx hy hd => ?_⟩
  rw [h.1.at_ _ _ _ (hf.lt hx hy) (hg.lt hx hy), h.2.1.at_ _ _ _ (hf.lt hx hy) (hg.lt hx hy)]
  by_cases e : tv f x y = tv f k j ∧ tv g x y = tv g k j
  · rw [if_pos e, if_pos e]
    have e2 := prN_eq hn hc hx hy e.1 e.2
    rw [prN_eq hn hc hk hj rfl rfl] at e2
    have e3 := congrArg (· / n) e2
    have e4 := congrArg (· % n) e2
    simp only [pair_div hn hy, pair_div hn hj, pair_mod hy, pair_mod hj] at e3 e4
    exact ⟨by rw [e3], by rw [e4]⟩
  · rw [if_neg e, if_neg e]
    have hne : ¬ (x = k ∧ y = j) := by rintro ⟨rfl, rfl⟩; exact e ⟨rfl, rfl⟩
    refine h.2.2 x y hx hy ?_
    show x < k ∨ (x = k ∧ y < j)
    have : x < k ∨ (x = k ∧ y < j + 1) := hd
    omega
theorem InvAt.done_ (hn : 1 ≤ n) (hf : Sq n f) (hg : Sq n g) (hc : collOk n f g = true) (h : InvAt n f g (fun x _ => x < n) F G) : F = bfT n f g ∧ G = bgT n f g := by
  constructor
  · refine h.1.ext fun u v hu hv => ?_
    obtain ⟨x, y, hx, hy, h1, h2⟩ := pr_ex hn hf hg hc hu hv
    have := (h.2.2 x y hx hy hx).1
    rw [h1, h2] at this
    rw [this, prN_eq hn hc hx hy h1 h2, pair_div hn hy]
  · refine h.2.1.ext fun u v hu hv => ?_
    obtain ⟨x, y, hx, hy, h1, h2⟩ := pr_ex hn hf hg hc hu hv
    have := (h.2.2 x y hx hy hx).2
    rw [h1, h2] at this
    rw [this, prN_eq hn hc hx hy h1 h2, pair_mod hy]
end

end Go.Proofs.YtdkpalllfekiiaaGreat

namespace Go.Proofs.YtdkpalllfekiiaaGreat
set_option linter.unusedVariables false
set_option linter.unusedSimpArgs false

/-- the k digits of N to the base n, the greatest first -/
def digL (n k N : Nat) : List Int := (List.range k).map fun i => ((N / n ^ (k - 1 - i) % n : Nat) : Int)
/-- as they are filled in from behind: j of them -/
def digP (n k N j : Nat) : List Int := (List.range k).map fun i => if k ≤ i + j then ((N / n ^ (k - 1 - i) % n : Nat) : Int) else 0
theorem digL_len (n k N : Nat) : (digL n k N).length = k := by simp [digL]
theorem digP_len (n k N j : Nat) : (digP n k N j).length = k := by simp [digP]
theorem digP_zero (n k N : Nat) : digP n k N 0 = List.replicate k 0 := by
  apply List.ext_getElem
  · simp [digP]
  · intro i h1 h2
    have hi : i < k := by simpa [digP] using h1
    simp [digP]; omega
theorem digP_full (n k N : Nat) : digP n k N k = digL n k N := by
  unfold digP digL
  apply List.map_congr_left
  intro i hi
  rw [if_pos (by omega)]
theorem digP_step (n k N j : Nat) (hj : j < k) : (digP n k N j).set (k - 1 - j) ((N / n ^ j % n : Nat) : Int) = digP n k N (j + 1) := by
  apply List.ext_getElem
  · simp [digP]
  · intro i h1 h2
    have hi : i < k := by simpa [digP] using h2
    rw [List.getElem_set]
    by_cases e : k - 1 - j = i
    · rw [if_pos e]
      simp only [digP, List.getElem_map, List.getElem_range]
      rw [if_pos (by omega)]
      have : k - 1 - i = j := by omega
      rw [this]
    · rw [if_neg e]
      simp only [digP, List.getElem_map, List.getElem_range]
      by_cases e2 : k ≤ i + j
      · rw [if_pos e2, if_pos (by omega)]
      · rw [if_neg e2, if_neg (by omega)]
theorem digL_less (n k N : Nat) (hn : 1 ≤ n) : Less n (digL n k N) := by
  intro i hi
  have hi' : i < k := by rw [digL_len] at hi; exact hi
  refine ⟨N / n ^ (k - 1 - i) % n, Nat.mod_lt _ hn, ?_⟩
  rw [List.getD_eq_getElem?_getD, List.getElem?_eq_getElem hi]
  simp [digL]
theorem div_pow_succ (n j N : Nat) : N / n ^ j / n = N / n ^ (j + 1) := by rw [Nat.div_div_eq_div_mul, Nat.pow_succ]
theorem digL_three (n N : Nat) (h : N < n * n * n) : digL n 3 N = [((N / n / n : Nat) : Int), ((N / n % n : Nat) : Int), ((N % n : Nat) : Int)] := by
  have hlt : N / n / n < n := by
    rw [Nat.div_div_eq_div_mul]
    exact Nat.div_lt_of_lt_mul h
  have e : N / n ^ 2 % n = N / n / n := by
    rw [Nat.pow_two, ← Nat.div_div_eq_div_mul, Nat.mod_eq_of_lt hlt]
  simp only [digL, List.range_succ, List.range_zero, List.nil_append, List.map_append, List.map_cons, List.map_nil, List.cons_append]
  show [((N / n ^ 2 % n : Nat) : Int), ((N / n ^ 1 % n : Nat) : Int), ((N / n ^ 0 % n : Nat) : Int)] = _
  rw [e, Nat.pow_one, Nat.pow_zero, Nat.div_one]

/-- the number of the triple x, y, z -/
def tri (n x y z : Nat) : Nat := (x * n + y) * n + z
theorem tri_lt {n x y z : Nat} (hx : x < n) (hy : y < n) (hz : z < n) : tri n x y z < n * n * n := by
  unfold tri
  have h1 := pair_lt hx hy
  have h2 : (x * n + y + 1) * n ≤ n * n * n := Nat.mul_le_mul_right n h1
  rw [Nat.add_mul, Nat.one_mul] at h2
  omega
theorem tri_z {n x y z : Nat} (hz : z < n) : tri n x y z % n = z := pair_mod hz
theorem tri_q {n x y z : Nat} (hn : 1 ≤ n) (hz : z < n) : tri n x y z / n = x * n + y := pair_div hn hz
theorem tri_three {n x y z : Nat} (hx : x < n) (hy : y < n) (hz : z < n) : digL n 3 (tri n x y z) = [(x : Int), (y : Int), (z : Int)] := by
  have hn : 1 ≤ n := by omega
  rw [digL_three n _ (tri_lt hx hy hz), tri_q hn hz, tri_z hz, pair_div hn hy, pair_mod hy]

/-- the first of the numbers less than K with P, as a triple to the base n; or no list -/
def fltL (n : Nat) (P : List Int → Bool) : List Int := match (List.range (n * n * n)).find? (fun N => P (digL n 3 N)) with | some N => digL n 3 N | none => []
theorem fltL_hit {n N : Nat} {P : List Int → Bool} (hN : N < n * n * n) (h1 : ∀ M, M < N → P (digL n 3 M) = false) (h2 : P (digL n 3 N) = true) : fltL n P = digL n 3 N := by
  have : (List.range (n * n * n)).find? (fun N => P (digL n 3 N)) = some N := by
    rw [List.find?_range_eq_some]
    exact ⟨h2, List.mem_range.2 hN, fun j hj => by simp [h1 j hj]⟩
  unfold fltL; rw [this]
theorem fltL_miss {n : Nat} {P : List Int → Bool} (h1 : ∀ M, M < n * n * n → P (digL n 3 M) = false) : fltL n P = [] := by
  have : (List.range (n * n * n)).find? (fun N => P (digL n 3 N)) = none := by
    rw [List.find?_eq_none]
    intro N hN
    rw [h1 N (List.mem_range.1 hN)]; simp
  unfold fltL; rw [this]
theorem fltL_len (n : Nat) (P : List Int → Bool) : (fltL n P).length ≤ 3 := by
  unfold fltL
  split
  · rw [digL_len]; exact Nat.le_refl _
  · simp

end Go.Proofs.YtdkpalllfekiiaaGreat

namespace Go.Proofs.YtdkpalllfekiiaaGreat
set_option linter.unusedVariables false
set_option linter.unusedSimpArgs false

theorem nodup_bd : ∀ (n : Nat) (c : List Nat), c.Nodup → (∀ x ∈ c, x < n) → c.length ≤ n := by
  intro n
  induction n with
  | zero =>
    intro c _ h
    cases c with
    | nil => exact Nat.le_refl _
    | cons x c => exact absurd (h x List.mem_cons_self) (by omega)
  | succ n ih =>
    intro c hd h
    have h1 := ih (c.erase n) (hd.erase n) (fun x hx => by
      have h2 := (List.Nodup.mem_erase_iff hd).1 hx
      have := h x h2.2
      have := h2.1
      omega)
    by_cases hm : n ∈ c
    · rw [List.length_erase_of_mem hm] at h1; omega
    · rw [List.erase_of_not_mem hm] at h1; omega

/-- f, m times -/
def itf (f : Nat → Nat) : Nat → Nat → Nat
  | 0, x => x
  | m + 1, x => f (itf f m x)
structure PermN (f : Nat → Nat) (K : Nat) : Prop where
  lt : ∀ i, i < K → f i < K
  inj : ∀ i j, i < K → j < K → f i = f j → i = j
section
variable {f : Nat → Nat} {K x y : Nat}
theorem itf_add (a b : Nat) : itf f (a + b) x = itf f a (itf f b x) := by
  induction a with
  | zero => simp [itf]
  | succ a ih =>
    have : a + 1 + b = (a + b) + 1 := by omega
    rw [this]; simp only [itf]; rw [ih]
theorem PermN.it_lt (h : PermN f K) (hx : x < K) (m : Nat) : itf f m x < K := by
  induction m with
  | zero => exact hx
  | succ m ih => exact h.lt _ ih
theorem PermN.it_inj (h : PermN f K) (hx : x < K) (hy : y < K) (m : Nat) (e : itf f m x = itf f m y) : x = y := by
  induction m with
  | zero => exact e
  | succ m ih => exact ih (h.inj _ _ (h.it_lt hx m) (h.it_lt hy m) e)
theorem PermN.ret (h : PermN f K) (hx : x < K) : ∃ m, 1 ≤ m ∧ m ≤ K ∧ itf f m x = x := by
  refine Classical.byContradiction fun hne => ?_
  have hl := nodup_bd K ((List.range (K + 1)).map fun m => itf f m x) (by
    rw [List.nodup_iff_pairwise_ne, List.pairwise_map]
    refine List.Pairwise.imp_of_mem ?_ List.pairwise_lt_range
    intro a b ha hb hab e
    have hb2 := List.mem_range.1 hb
    refine hne ⟨b - a, by omega, by omega, ?_⟩
    have : b = a + (b - a) := by omega
    rw [this, itf_add] at e
    exact (h.it_inj hx (h.it_lt hx _) a e).symm) (fun y hy => by
    obtain ⟨m, _, rfl⟩ := List.mem_map.1 hy
    exact h.it_lt hx m)
  simp at hl
  omega
/-- how long the cycle is -/
def cyc (f : Nat → Nat) (K x : Nat) : Nat := ((List.range K).find? fun m => decide (itf f (m + 1) x = x)).getD 0 + 1
theorem PermN.cyc_spec (h : PermN f K) (hx : x < K) : 1 ≤ cyc f K x ∧ cyc f K x ≤ K ∧ itf f (cyc f K x) x = x ∧ ∀ m, 1 ≤ m → m < cyc f K x → itf f m x ≠ x := by
  unfold cyc
  cases hq : (List.range K).find? (fun m => decide (itf f (m + 1) x = x)) with
  | none =>
    obtain ⟨m, h1, h2, h3⟩ := h.ret hx
    rw [List.find?_eq_none] at hq
    have := hq (m - 1) (List.mem_range.2 (by omega))
    rw [show m - 1 + 1 = m by omega] at this
    exact absurd h3 (by simpa using this)
  | some m =>
    rw [List.find?_range_eq_some] at hq
    obtain ⟨h1, h2, h3⟩ := hq
    have h2 := List.mem_range.1 h2
    refine ⟨by simp, by simp; omega, by simpa using h1, fun k hk1 hk2 => ?_⟩
    simp at hk2
    have := h3 (k - 1) (by omega)
    rw [show k - 1 + 1 = k by omega] at this
    simpa using this
theorem PermN.cyc_eq (h : PermN f K) (hx : x < K) {L : Nat} (h1 : 1 ≤ L) (h2 : itf f L x = x) (h3 : ∀ m, 1 ≤ m → m < L → itf f m x ≠ x) : cyc f K x = L := by
  obtain ⟨a, b, c, d⟩ := h.cyc_spec hx
  by_cases e : cyc f K x < L
  · exact absurd c (h3 _ a e)
  · by_cases e2 : L < cyc f K x
    · exact absurd h2 (d _ h1 e2)
    · omega
theorem PermN.cyc_it (h : PermN f K) (hx : x < K) (j : Nat) : cyc f K (itf f j x) = cyc f K x := by
  obtain ⟨a, b, c, d⟩ := h.cyc_spec hx
  have hsw : ∀ m, itf f m (itf f j x) = itf f j (itf f m x) := fun m => by rw [← itf_add, ← itf_add, Nat.add_comm]
  refine h.cyc_eq (h.it_lt hx j) a (by rw [hsw, c]) fun m h1 h2 e => ?_
  rw [hsw] at e
  exact d m h1 h2 (h.it_inj (h.it_lt hx m) hx j e)

/-! ### the period -/
theorem lcm_go (p L : Nat) : p / Nat.gcd p L * L = Nat.lcm p L := by
  unfold Nat.lcm
  obtain ⟨k, hk⟩ := Nat.gcd_dvd_left p L
  by_cases h : Nat.gcd p L = 0
  · rw [h] at hk; rw [h]; simp
  · generalize Nat.gcd p L = g at *
    subst hk
    rw [Nat.mul_div_cancel_left _ (by omega), Nat.mul_assoc, Nat.mul_div_cancel_left _ (by omega)]
/-- the least common multiple of the lengths of the cycles of the first starts; none if it is greater than 1000000000 -/
def perK (f : Nat → Nat) (K : Nat) : Nat → Option Nat
  | 0 => some 1
  | i + 1 => match perK f K i with
    | none => none
    | some p => if Nat.lcm p (cyc f K i) ≤ 1000000000 then some (Nat.lcm p (cyc f K i)) else none
theorem perK_some {i p : Nat} (h : perK f K i = some p) : 1 ≤ p ∧ p ≤ 1000000000 ∧ ∀ j, j < i → cyc f K j ∣ p := by
  induction i generalizing p with
  | zero => simp only [perK, Option.some.injEq] at h; subst h; exact ⟨by omega, by omega, fun j hj => absurd hj (by omega)⟩
  | succ i ih =>
    simp only [perK] at h
    cases hq : perK f K i with
    | none => rw [hq] at h; cases h
    | some q =>
      rw [hq] at h
      simp only at h
      by_cases hl : Nat.lcm q (cyc f K i) ≤ 1000000000
      · rw [if_pos hl, Option.some.injEq] at h
        obtain ⟨a, b, c⟩ := ih hq
        subst h
        refine ⟨Nat.lcm_pos (by omega) (by unfold cyc; omega), hl, fun j hj => ?_⟩
        by_cases e : j = i
        · subst e; exact Nat.dvd_lcm_right _ _
        · exact Nat.dvd_trans (c j (by omega)) (Nat.dvd_lcm_left _ _)
      · rw [if_neg hl] at h; cases h
theorem perK_go {i p : Nat} (h : perK f K i = some p) (hl : Nat.lcm p (cyc f K i) ≤ 1000000000) : perK f K (i + 1) = some (Nat.lcm p (cyc f K i)) := by simp [perK, h, hl]
theorem perK_stop {i p : Nat} (h : perK f K i = some p) (hl : ¬ Nat.lcm p (cyc f K i) ≤ 1000000000) : perK f K (i + 1) = none := by simp [perK, h, hl]
theorem perK_none {i j : Nat} (h : perK f K i = none) (hij : i ≤ j) : perK f K j = none := by
  induction j with
  | zero => have : i = 0 := by omega
            subst this; exact h
  | succ j ih =>
    by_cases e : i = j + 1
    · subst e; exact h
    · simp [perK, ih (by omega)]
/-- the period, and the code -/
def perF (f : Nat → Nat) (K : Nat) : Int × Int := match perK f K K with | some p => ((p : Int), 0) | none => (0, 3)
theorem perF_some {p : Nat} (h : perK f K K = some p) : perF f K = ((p : Int), 0) := by unfold perF; rw [h]
theorem perF_none {i : Nat} (h : perK f K i = none) (hi : i ≤ K) : perF f K = (0, 3) := by unfold perF; rw [perK_none h hi]

/-! ### what is met -/
/-- y is on the cycle of one of the first i starts -/
def metB (f : Nat → Nat) (K i y : Nat) : Bool := (List.range i).any fun j => (List.range (cyc f K j)).any fun m => decide (itf f m j = y)
theorem metB_iff {i : Nat} : metB f K i y = true ↔ ∃ j, j < i ∧ ∃ m, m < cyc f K j ∧ itf f m j = y := by
  unfold metB
  rw [List.any_eq_true]
  constructor
  · rintro ⟨j, hj, h⟩
    rw [List.any_eq_true] at h
    obtain ⟨m, hm, e⟩ := h
    exact ⟨j, List.mem_range.1 hj, m, List.mem_range.1 hm, by simpa using e⟩
  · rintro ⟨j, hj, m, hm, e⟩
    exact ⟨j, List.mem_range.2 hj, by rw [List.any_eq_true]; exact ⟨m, List.mem_range.2 hm, by simpa using e⟩⟩
/-- any number of steps leads to one of the first -/
theorem PermN.red (h : PermN f K) (hx : x < K) (m : Nat) : ∃ k, k < cyc f K x ∧ itf f k x = itf f m x := by
  obtain ⟨a, b, c, d⟩ := h.cyc_spec hx
  induction m with
  | zero => exact ⟨0, by omega, rfl⟩
  | succ m ih =>
    obtain ⟨k, hk, e⟩ := ih
    by_cases hk2 : k + 1 < cyc f K x
    · exact ⟨k + 1, hk2, by show f _ = f _; rw [e]⟩
    · refine ⟨0, by omega, ?_⟩
      show x = f (itf f m x)
      rw [← e]
      have : k + 1 = cyc f K x := by omega
      rw [← this] at c
      exact c.symm
/-- what is met leads to what is met, and comes from it -/
theorem PermN.met_it (h : PermN f K) {i : Nat} (hi : i ≤ K) (hx : x < K) (m : Nat) : metB f K i (itf f m x) = metB f K i x := by
  rw [Bool.eq_iff_iff, metB_iff, metB_iff]
  constructor
  · rintro ⟨j, hj, k, hk, e⟩
    have hjK : j < K := by omega
    obtain ⟨a, b, c, d⟩ := h.cyc_spec hx
    -- go on from itf m x to x
    obtain ⟨q, hq, eq⟩ := h.red hx m
    have hback : itf f (cyc f K x - q) (itf f m x) = x := by
      rw [← eq, ← itf_add, show cyc f K x - q + q = cyc f K x by omega, c]
    rw [← e, ← itf_add] at hback
    obtain ⟨r, hr, er⟩ := h.red hjK (cyc f K x - q + k)
    exact ⟨j, hj, r, hr, er.trans hback⟩
  · rintro ⟨j, hj, k, hk, e⟩
    have hjK : j < K := by omega
    obtain ⟨r, hr, er⟩ := h.red hjK (m + k)
    exact ⟨j, hj, r, hr, by rw [er, itf_add, e]⟩
theorem PermN.met_dvd (h : PermN f K) {i p : Nat} (hi : i ≤ K) (hp : perK f K i = some p) (hm : metB f K i x = true) : cyc f K x ∣ p := by
  obtain ⟨j, hj, m, _, rfl⟩ := metB_iff.1 hm
  rw [h.cyc_it (by omega) m]
  exact (perK_some hp).2.2 j hj
theorem PermN.met_per (h : PermN f K) {i p : Nat} (hi : i < K) (hp : perK f K i = some p) (hm : metB f K i i = true) : perK f K (i + 1) = some p := by
  have hd := h.met_dvd (by omega) hp hm
  have e : Nat.lcm p (cyc f K i) = p := Nat.lcm_eq_left hd
  have := perK_some hp
  rw [perK_go hp (by rw [e]; omega), e]
/-- the marks, while the cycle of i is followed -/
def metS (f : Nat → Nat) (K i len : Nat) : List Bool := (List.range K).map fun y => metB f K i y || (List.range len).any fun m => decide (itf f m i = y)
def metL (f : Nat → Nat) (K i : Nat) : List Bool := (List.range K).map fun y => metB f K i y
theorem metS_len (i len : Nat) : (metS f K i len).length = K := by simp [metS]
theorem metL_zero : metL f K 0 = List.replicate K false := by
  unfold metL
  apply List.ext_getElem
  · simp
  · intro i h1 h2; simp [metB]
theorem metS_zero (i : Nat) : metS f K i 0 = metL f K i := by unfold metS metL; simp
theorem metS_get (i len : Nat) (hy : y < K) : (metS f K i len).getD y false = (metB f K i y || (List.range len).any fun m => decide (itf f m i = y)) := by
  simp [metS, List.getD_eq_getElem?_getD, List.getElem?_map, hy]
theorem PermN.metS_set (h : PermN f K) {i len : Nat} (hi : i < K) : (metS f K i len).set (itf f len i) true = metS f K i (len + 1) := by
  have hlt := h.it_lt hi len
  apply List.ext_getElem
  · simp [metS]
  · intro y h1 h2
    have hy : y < K := by rw [metS_len] at h2; exact h2
    rw [List.getElem_set]
    by_cases e : itf f len i = y
    · rw [if_pos e]
      simp [metS, List.range_succ, e]
    · rw [if_neg e]
      simp [metS, List.range_succ, e]
theorem PermN.metS_no (h : PermN f K) {i len : Nat} (hi : i < K) (hm : metB f K i i = false) (hl : len < cyc f K i) : (metS f K i len).getD (itf f len i) false = false := by
  rw [metS_get _ _ (h.it_lt hi len), h.met_it (by omega) hi, hm, Bool.false_or, List.any_eq_false]
  intro m hm2 e
  have hm2 := List.mem_range.1 hm2
  have e : itf f m i = itf f len i := by simpa using e
  have : len = m + (len - m) := by omega
  rw [this, itf_add] at e
  have := h.it_inj hi (h.it_lt hi _) m e
  exact (h.cyc_spec hi).2.2.2 (len - m) (by omega) (by omega) this.symm
theorem PermN.metS_yes (h : PermN f K) {i : Nat} (hi : i < K) : (metS f K i (cyc f K i)).getD i false = true := by
  rw [metS_get _ _ hi]
  have := (h.cyc_spec hi).1
  rw [Bool.or_eq_true]
  right
  rw [List.any_eq_true]
  exact ⟨0, List.mem_range.2 (by omega), by simp [itf]⟩
theorem PermN.metS_end (h : PermN f K) {i : Nat} (hi : i < K) : metS f K i (cyc f K i) = metL f K (i + 1) := by
  unfold metS metL
  apply List.map_congr_left
  intro y hy
  unfold metB
  rw [List.range_succ, List.any_append]
  simp
theorem PermN.metL_same (h : PermN f K) {i : Nat} (hi : i < K) (hm : metB f K i i = true) : metL f K (i + 1) = metL f K i := by
  rw [← h.metS_end hi]
  unfold metS metL
  apply List.map_congr_left
  intro y hy
  cases hq : (List.range (cyc f K i)).any (fun m => decide (itf f m i = y)) with
  | false => simp
  | true =>
    rw [List.any_eq_true] at hq
    obtain ⟨m, _, e⟩ := hq
    have e : itf f m i = y := by simpa using e
    rw [← e, h.met_it (by omega) hi, hm]; rfl
end
end Go.Proofs.YtdkpalllfekiiaaGreat

namespace Go.Proofs.YtdkpalllfekiiaaGreat
set_option linter.unusedVariables false
set_option linter.unusedSimpArgs false

/-- the number of a tuple -/
def numL (n : Nat) (l : List Int) : Nat := l.foldl (fun a x => a * n + x.toNat) 0
theorem numL_take {n : Nat} {l : List Int} {k : Nat} (h : k < l.length) : numL n (l.take (k + 1)) = numL n (l.take k) * n + (l.getD k 0).toNat := by
  unfold numL
  rw [List.take_succ_eq_append_getElem h, List.foldl_append]
  simp [List.getD_eq_getElem?_getD, List.getElem?_eq_getElem h]
def LessM (n : Nat) (l : List Int) : Prop := ∀ x ∈ l, 0 ≤ x ∧ x < n
theorem Less.mem {n : Nat} {l : List Int} (h : Less n l) : LessM n l := fun x hx => by
  obtain ⟨i, hi, rfl⟩ := List.getElem_of_mem hx
  obtain ⟨k, hk, e⟩ := h i hi
  rw [List.getD_eq_getElem?_getD, List.getElem?_eq_getElem hi] at e
  simp only [Option.getD_some] at e
  omega
theorem num_bd {n : Nat} (hn : 1 ≤ n) : ∀ (l : List Int) (a : Nat), LessM n l → l.foldl (fun a x => a * n + x.toNat) a < (a + 1) * n ^ l.length := by
  intro l
  induction l with
  | nil => intro a _; simp
  | cons x r ih =>
    intro a h
    rw [List.foldl_cons]
    have h1 := ih (a * n + x.toNat) (fun y hy => h y (List.mem_cons_of_mem _ hy))
    have hx := h x (List.mem_cons_self ..)
    refine Nat.lt_of_lt_of_le h1 ?_
    rw [List.length_cons, Nat.pow_succ, Nat.mul_comm (n ^ r.length) n, ← Nat.mul_assoc]
    refine Nat.mul_le_mul_right _ ?_
    rw [Nat.add_mul, Nat.one_mul]
    omega
theorem numL_lt {n : Nat} (hn : 1 ≤ n) {l : List Int} (h : Less n l) : numL n l < n ^ l.length := by
  have := num_bd hn l 0 h.mem
  simpa [numL] using this
theorem num_inj {n : Nat} (hn : 1 ≤ n) : ∀ (l l' : List Int) (a a' : Nat), l.length = l'.length → LessM n l → LessM n l' → l.foldl (fun a x => a * n + x.toNat) a = l'.foldl (fun a x => a * n + x.toNat) a' → a = a' ∧ l = l' := by
  intro l
  induction l with
  | nil =>
    intro l' a a' hl _ _ e
    have : l' = [] := List.eq_nil_of_length_eq_zero hl.symm
    subst this
    exact ⟨by simpa using e, rfl⟩
  | cons x r ih =>
    intro l' a a' hl h h' e
    cases l' with
    | nil => simp at hl
    | cons y s =>
      rw [List.foldl_cons, List.foldl_cons] at e
      obtain ⟨e1, e2⟩ := ih s _ _ (by simpa using hl) (fun z hz => h z (List.mem_cons_of_mem _ hz)) (fun z hz => h' z (List.mem_cons_of_mem _ hz)) e
      have hx := h x (List.mem_cons_self ..)
      have hy := h' y (List.mem_cons_self ..)
      have d1 := congrArg (· / n) e1
      have d2 := congrArg (· % n) e1
      simp only [pair_div hn (show x.toNat < n by omega), pair_div hn (show y.toNat < n by omega), pair_mod (show x.toNat < n by omega), pair_mod (show y.toNat < n by omega)] at d1 d2
      exact ⟨d1, by rw [e2, show x = y by omega]⟩
theorem digL_succ (n s N : Nat) : digL n (s + 1) N = digL n s (N / n) ++ [((N % n : Nat) : Int)] := by
  unfold digL
  rw [List.range_succ, List.map_append]
  congr 1
  · apply List.map_congr_left
    intro i hi
    have hi := List.mem_range.1 hi
    have : s + 1 - 1 - i = (s - 1 - i) + 1 := by omega
    rw [this, Nat.pow_succ, Nat.mul_comm, ← Nat.div_div_eq_div_mul]
  · simp
theorem numL_dig {n : Nat} : ∀ (s N : Nat), N < n ^ s → numL n (digL n s N) = N := by
  intro s
  induction s with
  | zero => intro N h; simp [digL, numL] at *; omega
  | succ s ih =>
    intro N h
    rw [digL_succ]
    unfold numL
    rw [List.foldl_append]
    have h1 : N / n < n ^ s := Nat.div_lt_of_lt_mul (by rw [Nat.mul_comm, ← Nat.pow_succ]; exact h)
    have := ih (N / n) h1
    unfold numL at this
    rw [this]
    simp only [List.foldl_cons, List.foldl_nil, Int.toNat_natCast]
    rw [Nat.mul_comm]
    exact Nat.div_add_mod N n
/-- a pair map that leads different pairs to different ones -/
def InjP (n : Nat) (f g : List (List Int)) : Prop := ∀ a b c d, a < n → b < n → c < n → d < n → tv f a b = tv f c d → tv g a b = tv g c d → a = c ∧ b = d
theorem coll_injP {n : Nat} {f g : List (List Int)} (hn : 1 ≤ n) (hc : collOk n f g = true) : InjP n f g := by
  intro a b c d ha hb hc' hd h1 h2
  have := coll_inj hc (pair_lt ha hb) (pair_lt hc' hd) (by rw [pair_div hn hb, pair_mod hb, pair_div hn hd, pair_mod hd]; exact h1) (by rw [pair_div hn hb, pair_mod hb, pair_div hn hd, pair_mod hd]; exact h2)
  have e1 := congrArg (· / n) this
  have e2 := congrArg (· % n) this
  simp only [pair_div hn hb, pair_div hn hd, pair_mod hb, pair_mod hd] at e1 e2
  exact ⟨e1, e2⟩
theorem inv_injP {n : Nat} {f g : List (List Int)} (hn : 1 ≤ n) (hf : Sq n f) (hg : Sq n g) (hc : collOk n f g = true) : InjP n (bfT n f g) (bgT n f g) := by
  intro a b c d ha hb hc' hd h1 h2
  obtain ⟨x, y, hx, hy, e1, e2⟩ := pr_ex hn hf hg hc ha hb
  obtain ⟨u, v, hu, hv, e3, e4⟩ := pr_ex hn hf hg hc hc' hd
  rw [bf_tv hn hc hx hy ha hb e1 e2, bf_tv hn hc hu hv hc' hd e3 e4] at h1
  rw [bg_tv hn hc hx hy ha hb e1 e2, bg_tv hn hc hu hv hc' hd e3 e4] at h2
  subst h1 h2
  exact ⟨e1.symm.trans e3, e2.symm.trans e4⟩
theorem list_ext0 {l l' : List Int} (hl : l.length = l'.length) (h : ∀ i, i < l.length → l.getD i 0 = l'.getD i 0) : l = l' := by
  apply List.ext_getElem hl
  intro i h1 h2
  have := h i h1
  simpa [List.getD_eq_getElem?_getD, List.getElem?_eq_getElem h1, List.getElem?_eq_getElem h2] using this
theorem doF_inj {n : Nat} {f g : List (List Int)} (hI : InjP n f g) {i : Nat} {l l' : List Int} (hl : l.length = l'.length) (hi : i + 1 < l.length) (h : Less n l) (h' : Less n l') (e : doF f g i l = doF f g i l') : l = l' := by
  obtain ⟨a, ha, ea⟩ := h i (by omega)
  obtain ⟨b, hb, eb⟩ := h (i + 1) hi
  obtain ⟨c, hc, ec⟩ := h' i (by omega)
  obtain ⟨d, hd, ed⟩ := h' (i + 1) (by omega)
  unfold doF at e
  rw [ea, eb, ec, ed] at e
  simp only [Int.toNat_natCast] at e
  have L1 : ∀ z j, j < l.length → j < (l.set i z).length := fun z j hj => by rw [List.length_set]; exact hj
  have L2 : ∀ z j, j < l.length → j < (l'.set i z).length := fun z j hj => by rw [List.length_set, ← hl]; exact hj
  have g1 := congrArg (fun L => L.getD i 0) e
  have g2 := congrArg (fun L => L.getD (i + 1) 0) e
  try simp only at g1 g2
  rw [getD_set' _ _ _ _ _ (L1 _ _ (by omega)), getD_set' _ _ _ _ _ (by omega), getD_set' _ _ _ _ _ (L2 _ _ (by omega)), getD_set' _ _ _ _ _ (by omega), if_neg (by omega), if_pos rfl, if_neg (by omega), if_pos rfl] at g1
  rw [getD_set' _ _ _ _ _ (L1 _ _ hi), if_pos rfl, getD_set' _ _ _ _ _ (L2 _ _ hi), if_pos rfl] at g2
  obtain ⟨r1, r2⟩ := hI a b c d ha hb hc hd (by omega) (by omega)
  apply list_ext0 hl
  intro k hk
  by_cases k1 : k = i
  · subst k1; rw [ea, ec, r1]
  · by_cases k2 : k = i + 1
    · subst k2; rw [eb, ed, r2]
    · have g3 := congrArg (fun L => L.getD k 0) e
      try simp only at g3
      rw [getD_set' _ _ _ _ _ (L1 _ _ hk), getD_set' _ _ _ _ _ hk, getD_set' _ _ _ _ _ (L2 _ _ hk), getD_set' _ _ _ _ _ (by omega), if_neg k2, if_neg k1, if_neg k2, if_neg k1] at g3
      exact g3
theorem actL_inj {n : Nat} {f g : List (List Int)} (hn : 1 ≤ n) (hf : Sq n f) (hg : Sq n g) (hc : collOk n f g = true) : ∀ (xs : List Int) (l l' : List Int), l.length = l'.length → (∀ x ∈ xs, (plc x).toNat + 1 < l.length) → Less n l → Less n l' → actL n f g xs l = actL n f g xs l' → l = l' := by
  intro xs
  induction xs with
  | nil => intro l l' _ _ _ _ e; exact e
  | cons x r ih =>
    intro l l' hl hx h h' e
    have hx1 := hx x (List.mem_cons_self ..)
    have h1 := h.step hn hf hg hc x hx1
    have h2 := h'.step hn hf hg hc x (by omega)
    have := ih (stepL n f g x l) (stepL n f g x l') (by rw [stepL_len, stepL_len, hl]) (fun y hy => by rw [stepL_len]; exact hx y (List.mem_cons_of_mem _ hy)) h1 h2 e
    unfold stepL at this
    by_cases hp : 0 < x
    · rw [if_pos hp, if_pos hp] at this
      exact doF_inj (coll_injP hn hc) hl hx1 h h' this
    · rw [if_neg hp, if_neg hp] at this
      exact doF_inj (inv_injP hn hf hg hc) hl hx1 h h' this
/-- the number of the tuple to which the tuple with a number is led -/
def nxtN (n s : Nat) (f g : List (List Int)) (xs : List Int) (N : Nat) : Nat := numL n (actL n f g xs (digL n s N))
theorem nxt_perm {n s : Nat} {f g : List (List Int)} {xs : List Int} (hn : 1 ≤ n) (hf : Sq n f) (hg : Sq n g) (hc : collOk n f g = true) (hx : ∀ x ∈ xs, (plc x).toNat + 1 < s) : PermN (nxtN n s f g xs) (n ^ s) := by
  have hlen : ∀ N, (actL n f g xs (digL n s N)).length = s := fun N => by rw [actL_len, digL_len]
  have hle : ∀ N, Less n (actL n f g xs (digL n s N)) := fun N => (digL_less n s N hn).act hn hf hg hc xs (fun x h => by rw [digL_len]; exact hx x h)
  refine ⟨fun i hi => ?_, fun i j hi hj e => ?_⟩
  · have := numL_lt hn (hle i)
    rw [hlen] at this
    exact this
  · have e1 := (num_inj hn _ _ 0 0 (by rw [hlen, hlen]) (hle i).mem (hle j).mem e).2
    have e2 := actL_inj hn hf hg hc xs _ _ (by rw [digL_len, digL_len]) (fun x h => by rw [digL_len]; exact hx x h) (digL_less n s i hn) (digL_less n s j hn) e1
    rw [← numL_dig s i hi, ← numL_dig s j hj, e2]
/-- what BraidPeriod hands back -/
def bpF (f g : List (List Int)) (s : Int) (xs : List Int) : Int × Int :=
  if isSol f g then (if isBr s xs then (if f.length ^ s.toNat ≤ 5000 then perF (nxtN f.length s.toNat f g xs) (f.length ^ s.toNat) else (0, 3)) else (0, 1)) else (0, 1)
theorem bpF_0 {f g : List (List Int)} {s : Int} {xs : List Int} (h : isSol f g = false) : bpF f g s xs = (0, 1) := by unfold bpF; rw [h]; rfl
theorem bpF_1 {f g : List (List Int)} {s : Int} {xs : List Int} (h : isSol f g = true) (h1 : isBr s xs = false) : bpF f g s xs = (0, 1) := by unfold bpF; rw [h, h1]; rfl
theorem bpF_2 {f g : List (List Int)} {s : Int} {xs : List Int} (h : isSol f g = true) (h1 : isBr s xs = true) (h2 : ¬ f.length ^ s.toNat ≤ 5000) : bpF f g s xs = (0, 3) := by unfold bpF; rw [h, h1]; simp; omega
theorem bpF_3 {f g : List (List Int)} {s : Int} {xs : List Int} (h : isSol f g = true) (h1 : isBr s xs = true) (h2 : f.length ^ s.toNat ≤ 5000) : bpF f g s xs = perF (nxtN f.length s.toNat f g xs) (f.length ^ s.toNat) := by unfold bpF; rw [h, h1]; simp; omega
end Go.Proofs.YtdkpalllfekiiaaGreat

namespace Go.Proofs.YtdkpalllfekiiaaGreat
set_option maxRecDepth 100000
set_option linter.unusedVariables false
set_option linter.unusedSimpArgs false
open Go.RowKit

end Go.Proofs.YtdkpalllfekiiaaGreat

namespace Go.Proofs.YtdkpalllfekiiaaGreat
set_option maxRecDepth 100000
set_option linter.unusedVariables false
set_option linter.unusedSimpArgs false
open Go.RowKit

/-- an empty list, or a list with an element -/
def SptR (ok : Bool) (W w : World) (e : Ending) (w' : World) : Prop := (∃ a n c, e = .returned (.slice a n c) ∧ ((ok = true ∧ n = 0) ∨ (ok = false ∧ n ≠ 0))) ∧ Below W.heap.size W w'

set_option maxHeartbeats 4000000 in
theorem l02Collision_any (a : Option Addr) (n c : Nat) (a' : Option Addr) (c' : Nat) (f g : List (List Int)) (w : World) (h1 : Tbl w a n f) (h2 : Tbl w a' n g) (hn1 : 1 ≤ n) (hn : n ≤ 12) (hf : Sq n f) (hg : Sq n g) :
    Calls Tryz.prog 79 #[sAgg a n c a' n c'] w (SptR (collOk n f g) w w) := by
  obtain ⟨bf, of, A, O, C, rfl, Gf⟩ := h1.grid hf hn1
  obtain ⟨bg, og, A', O', C', rfl, Gg⟩ := h2.grid hg hn1
  clear h1 h2
  obtain ⟨N, hN⟩ : ∃ N, N = n * n := ⟨_, rfl⟩
  have hN144 : N ≤ 144 := by rw [hN]; exact Nat.mul_le_mul hn hn
  have hmul : (n : Int) * (n : Int) = (N : Int) := by rw [hN]; simp
  have HN := Lib.hid hN
  have HOK : Hid (collOk n f g = allN N fun p => allN N fun q => !collAt n f g p q) := Lib.hid (by rw [hN]; rfl)
  clear hN
  have hn0 : (n : Int) ≠ 0 := by omega
  go_enter Tryz.func79, Tryz.ntmps79
  have hA := Loc.new w rfl #[.slice (some ⟨bf, of, none⟩) n c, .slice (some ⟨bg, og, none⟩) n c'] 42
  have lA := hA.two
  have gf := Gf.alloc (.cells #[.slice (some ⟨bf, of, none⟩) n c, .slice (some ⟨bg, og, none⟩) n c'] 42)
  have gg := Gg.alloc (.cells #[.slice (some ⟨bf, of, none⟩) n c, .slice (some ⟨bg, og, none⟩) n c'] 42)
  have hB := below_al (Below.refl w.heap.size w) (.cells #[.slice (some ⟨bf, of, none⟩) n c, .slice (some ⟨bg, og, none⟩) n c'] 42)
  clear Gf Gg
  go_wp2
  generalize (w.alloc (.cells #[.slice (some ⟨bf, of, none⟩) n c, .slice (some ⟨bg, og, none⟩) n c'] 42)) = w0 at *
  go_loopw [4] (fun i wr => ∃ k : Nat, k ≤ N ∧ i = .int .i64 k ∧ Hid (allN k (fun p => allN N fun q => !collAt n f g p q) = true) ∧ ∃ m, wr = w0.drewN m) (fun i _ => N - (intOf i).toNat)
  case atStart => exact ⟨0, Nat.zero_le _, rfl, Lib.hid rfl, 0, rfl⟩
  case round =>
    obtain ⟨p, hp, rfl, hp1, m1, rfl⟩ := hrel
    by_cases hlt : p < N
    · have Qp := quo_nat (n := n) (p := p) hn1 (by omega)
      have Rp := rem_nat (n := n) (p := p) hn1 (by omega)
      have bx := div_lt_sq (n := n) (p := p) (by rw [← HN.out]; exact hlt)
      have bY := Nat.mod_lt p hn1
      generalize hx : p / n = x at Qp bx
      generalize hy : p % n = y at Rp bY
      have Wp : IntKind.i64.wrap (x : Int) = (x : Int) := IntWalk.i64_in _ (by omega)
      have Wr : IntKind.i64.wrap (y : Int) = (y : Int) := IntWalk.i64_in _ (by omega)
      have HX := Lib.hid hx; have HY := Lib.hid hy; clear hx hy
      go_wp2
      go_loopw [5] (fun i wr => ∃ k : Nat, k ≤ N ∧ i = .int .i64 k ∧ Hid (allN k (fun q => !collAt n f g p q) = true) ∧ ∃ m, wr = w0.drewN m) (fun i _ => N - (intOf i).toNat)
      case atStart => exact ⟨0, Nat.zero_le _, rfl, Lib.hid rfl, _, rfl⟩
      case round =>
        obtain ⟨q, hq, rfl, hq1, m2, rfl⟩ := hrel
        by_cases hltq : q < N
        · have Qq := quo_nat (n := n) (p := q) hn1 (by omega)
          have Rq := rem_nat (n := n) (p := q) hn1 (by omega)
          have bu := div_lt_sq (n := n) (p := q) (by rw [← HN.out]; exact hltq)
          have bv := Nat.mod_lt q hn1
          generalize hu : q / n = u at Qq bu
          generalize hv : q % n = v at Rq bv
          have Wq : IntKind.i64.wrap (u : Int) = (u : Int) := IntWalk.i64_in _ (by omega)
          have Wv : IntKind.i64.wrap (v : Int) = (v : Int) := IntWalk.i64_in _ (by omega)
          have hE : collAt n f g p q = ((!decide (p = q)) && (decide (tv f x y = tv f u v) && decide (tv g x y = tv g u v))) := by
            unfold collAt; rw [HX.out, HY.out, hu, hv]
          obtain ⟨r1, k1⟩ := gf.look bx bY
          obtain ⟨r2, k2⟩ := gf.look bu bv
          obtain ⟨r3, k3⟩ := gg.look bx bY
          obtain ⟨r4, k4⟩ := gg.look bu bv
          generalize tv f x y = A1 at hE k1
          generalize tv f u v = A2 at hE k2
          generalize tv g x y = A3 at hE k3
          generalize tv g u v = A4 at hE k4
          have HE := Lib.hid hE
          clear hE hu hv gf gg hf hg
          go_wp2
          go_quiet (fail)
          go_wp2
          clear Qq Rq Wq Wv Qp Rp Wp Wr
          by_cases p0 : p = q
          · have u0 : ((p : Int) != (q : Int)) = false := by simp [p0]
            have HE2 : Hid ((!collAt n f g p q) = true) := Lib.hid (by rw [HE.out]; simp [p0])
            clear p0
            go_quiet (fail)
            go_wp2
            go_roundw
            case rel => exact ⟨q + 1, by omega, by go_num, Lib.hid (allN_succ hq1.out HE2.out), _, rfl⟩
            case measure => simp [intOf]; omega
          · have u0 : ((p : Int) != (q : Int)) = true := by simp; omega
            by_cases p1 : A1 = A2
            · have u1 : ((A1 : Int) == (A2 : Int)) = true := by simp [p1]
              by_cases p2 : A3 = A4
              · have u2 : ((A3 : Int) == (A4 : Int)) = true := by simp [p2]
                have HE2 : Hid ((!collAt n f g p q) = false) := Lib.hid (by rw [HE.out]; simp [p0, p1, p2])
                clear p0 p1 p2
                go_quiet (fail)
                go_wp2
                go_ret
                exact ⟨⟨_, _, _, rfl, .inr ⟨by rw [HOK.out]; exact allN_no hlt (allN_no hltq HE2.out), by omega⟩⟩, below_al (below_drewN hB _) _⟩
              · have u2 : ((A3 : Int) == (A4 : Int)) = false := by simp; omega
                have HE2 : Hid ((!collAt n f g p q) = true) := Lib.hid (by rw [HE.out]; simp [p2])
                clear p0 p1 p2
                go_quiet (fail)
                go_wp2
                go_roundw
                case rel => exact ⟨q + 1, by omega, by go_num, Lib.hid (allN_succ hq1.out HE2.out), _, rfl⟩
                case measure => simp [intOf]; omega
            · have u1 : ((A1 : Int) == (A2 : Int)) = false := by simp; omega
              have HE2 : Hid ((!collAt n f g p q) = true) := Lib.hid (by rw [HE.out]; simp [p1])
              clear p0 p1
              go_quiet (fail)
              go_wp2
              go_roundw
              case rel => exact ⟨q + 1, by omega, by go_num, Lib.hid (allN_succ hq1.out HE2.out), _, rfl⟩
              case measure => simp [intOf]; omega
        · obtain rfl : q = N := by omega
          go_wp2
          go_roundw
          case rel => exact ⟨p + 1, by omega, by go_num, Lib.hid (allN_succ hp1.out hq1.out), _, rfl⟩
          case measure => simp [intOf]; omega
    · obtain rfl : p = N := by omega
      go_wp2
      go_ret
      exact ⟨⟨_, _, _, rfl, .inl ⟨by rw [HOK.out]; exact hp1.out, rfl⟩⟩, below_al (below_drewN hB _) _⟩

end Go.Proofs.YtdkpalllfekiiaaGreat

namespace Go.Proofs.YtdkpalllfekiiaaGreat
set_option maxRecDepth 100000
set_option linter.unusedVariables false
set_option linter.unusedSimpArgs false
open Go.RowKit

theorem rowOk_len {n m : Int} {xs : List Int} (h : (xs.length : Int) ≠ n) : rowOk n m xs = false := by unfold rowOk; simp [h]
theorem rowOk_mk {n m : Int} {xs : List Int} (h : (xs.length : Int) = n) : rowOk n m xs = xs.all (rngB 0 (m - 1)) := by unfold rowOk; simp [h]

set_option maxHeartbeats 2000000 in
theorem l01Table_any (a : Option Addr) (n c : Nat) (t : List (List Int)) (w : World) (h1 : Tbl w a n t) (hm : n ≤ 9223372036854775807) :
    Calls Tryz.prog 99 #[.slice a n c] w fun e w' => e = .returned (.bool (isTab t)) ∧ w = w' := by
  have hl := h1.len
  cases hp : rngB 1 12 n with
  | false =>
    have hq : isTab t = false := by unfold isTab; rw [← hl, hp]; rfl
    have HQ := Lib.hid hq
    have HC := Lib.hid (fun w => l01In_b n 1 12 false hp w); clear hp hl hq
    go_enter Tryz.func99, Tryz.ntmps99
    go_wp2_with fail
    refine (HC.out _).mono ?_
    rintro e w' ⟨rfl, rfl⟩
    go_wp2
    go_ret
    exact ⟨ret_bool HQ.out.symm, rfl⟩
  | true =>
    have hn12 : 1 ≤ n ∧ n ≤ 12 := by unfold rngB at hp; simp at hp; omega
    obtain ⟨hn1, hn12⟩ := hn12
    have HC := Lib.hid (fun w => l01In_b n 1 12 true hp w)
    have hq : isTab t = t.all (rowOk n n) := by unfold isTab; rw [← hl, hp]; rfl
    have HQ := Lib.hid hq; have HL := Lib.hid hl; clear hq hl hp
    go_enter Tryz.func99, Tryz.ntmps99
    go_wp2_with fail
    refine (HC.out _).mono ?_
    rintro e w' ⟨rfl, rfl⟩
    go_wp2
    go_loop [4] (fun i => ∃ k : Nat, k ≤ n ∧ i = .int .i64 k ∧ Hid ((t.take k).all (rowOk n n) = true)) (fun i => n - (intOf i).toNat)
    case atStart => exact ⟨0, Nat.zero_le _, rfl, Lib.hid (by simp)⟩
    case round =>
      obtain ⟨k, hk, rfl, hall⟩ := hrel
      by_cases hlt : k < n
      · obtain ⟨b, off, ai, ni, ci, rfl, g1, hri, hni⟩ := h1.at k hlt
        have hx : k < t.length := by have := HL.out; omega
        rw [Tbl.getD hx] at hri
        have hll := hri.len
        by_cases hnn : ni = n
        · subst hnn
          have b1 : ((ni : Int) != (ni : Int)) = false := by simp
          have HR : Hid (rowOk ni ni t[k] = t[k].all (rngB 0 ((ni : Int) - 1))) := Lib.hid (rowOk_mk (by omega))
          have HLL := Lib.hid hll; clear hll
          go_wp2
          go_loop [5] (fun i => ∃ j : Nat, j ≤ ni ∧ i = .int .i64 j ∧ Hid ((t[k].take j).all (rngB 0 ((ni : Int) - 1)) = true)) (fun i => ni - (intOf i).toNat)
          case atStart => exact ⟨0, Nat.zero_le _, rfl, Lib.hid (by simp)⟩
          case round =>
            obtain ⟨j, hj, rfl, hin⟩ := hrel
            by_cases hjt : j < ni
            · obtain ⟨b2, o2, rfl, g2⟩ := hri.at j hjt
              have hy : j < t[k].length := by have := HLL.out; omega
              have e : t[k].getD j 0 = t[k][j] := by simp [List.getD_eq_getElem?_getD, List.getElem?_eq_getElem hy]
              rw [e] at g2
              clear h1 hri e
              cases hv : rngB 0 ((ni : Int) - 1) t[k][j] with
              | true =>
                have HD := Lib.hid (fun w => l01In_b t[k][j] 0 ((ni : Int) - 1) true hv w)
                have HV := Lib.hid hv; clear hv
                generalize t[k][j] = V at g2 HD
                go_wp2_with fail
                refine (HD.out _).mono ?_
                rintro e w' ⟨rfl, rfl⟩
                go_wp2
                go_round
                case rel => exact ⟨j + 1, by omega, by go_num, Lib.hid (all_get_succ hy hin.out HV.out)⟩
                case measure => simp [intOf]; omega
              | false =>
                have HD := Lib.hid (fun w => l01In_b t[k][j] 0 ((ni : Int) - 1) false hv w)
                have HV := Lib.hid hv; clear hv
                generalize t[k][j] = V at g2 HD
                go_wp2_with fail
                refine (HD.out _).mono ?_
                rintro e w' ⟨rfl, rfl⟩
                go_wp2
                go_ret
                exact ⟨ret_bool (by rw [HQ.out]; exact (all_no hx (by rw [HR.out]; exact all_no hy HV.out)).symm), rfl⟩
            · obtain rfl : j = ni := by omega
              have ha := hin.out
              rw [List.take_of_length_le (by have := HLL.out; omega)] at ha
              have HA := Lib.hid ha; clear ha
              go_wp2
              go_round
              case rel => exact ⟨k + 1, by omega, by go_num, Lib.hid (all_get_succ hx hall.out (by rw [HR.out]; exact HA.out))⟩
              case measure => simp [intOf]; omega
        · have b1 : ((ni : Int) != (n : Int)) = true := by simp; omega
          have HN : Hid (rowOk n n t[k] = false) := Lib.hid (rowOk_len (by omega))
          clear hll hnn
          go_wp2
          go_ret
          exact ⟨ret_bool (by rw [HQ.out]; exact (all_no hx HN.out).symm), rfl⟩
      · obtain rfl : k = n := by omega
        have ha := hall.out
        rw [List.take_of_length_le (by have := HL.out; omega)] at ha
        have HA := Lib.hid ha; clear ha
        go_wp2
        go_ret
        exact ⟨ret_bool (by rw [HQ.out]; exact HA.out.symm), rfl⟩

set_option maxHeartbeats 1000000 in
theorem l02Map_any (a : Option Addr) (n c : Nat) (a' : Option Addr) (n' c' : Nat) (f g : List (List Int)) (w : World) (h1 : Tbl w a n f) (h2 : Tbl w a' n' g) (hm1 : n ≤ 9223372036854775807) (hm2 : n' ≤ 9223372036854775807) :
    Calls Tryz.prog 78 #[sAgg a n c a' n' c'] w fun e w' => e = .returned (.bool (isPm f g)) ∧ Below w.heap.size w w' := by
  have hl1 := h1.len
  have hl2 := h2.len
  have HL : Hid (decide (f.length = g.length) = decide (n = n')) := Lib.hid (by rw [← hl1, ← hl2])
  clear hl1 hl2
  cases hf : isTab f with
  | false =>
    have HF := Lib.hid hf; clear hf
    go_enter Tryz.func78, Tryz.ntmps78
    go_wp2_with fail
    refine (l01Table_any _ _ _ _ _ (h1.alloc _) hm1).mono ?_
    rintro e w1 ⟨rfl, rfl⟩
    rw [HF.out]
    go_wp2
    go_ret
    exact ⟨ret_bool (by unfold isPm; rw [HF.out]; rfl), below_al (Below.refl _ _) _⟩
  | true =>
    have HF := Lib.hid hf; clear hf
    cases hg : isTab g with
    | false =>
      have HG := Lib.hid hg; clear hg
      go_enter Tryz.func78, Tryz.ntmps78
      go_wp2_with fail
      refine (l01Table_any _ _ _ _ _ (h1.alloc _) hm1).mono ?_
      rintro e w1 ⟨rfl, rfl⟩
      rw [HF.out]
      go_wp2_with fail
      refine (l01Table_any _ _ _ _ _ (h2.alloc _) hm2).mono ?_
      rintro e w1 ⟨rfl, rfl⟩
      rw [HG.out]
      go_wp2
      go_ret
      exact ⟨ret_bool (by unfold isPm; rw [HF.out, HG.out]; rfl), below_al (Below.refl _ _) _⟩
    | true =>
      have HG := Lib.hid hg; clear hg
      have HQ : Hid (isPm f g = decide ((n : Int) = (n' : Int))) := Lib.hid (by unfold isPm; rw [HF.out, HG.out, HL.out]; simp [Int.ofNat_inj])
      go_enter Tryz.func78, Tryz.ntmps78
      go_wp2_with fail
      refine (l01Table_any _ _ _ _ _ (h1.alloc _) hm1).mono ?_
      rintro e w1 ⟨rfl, rfl⟩
      rw [HF.out]
      go_wp2_with fail
      refine (l01Table_any _ _ _ _ _ (h2.alloc _) hm2).mono ?_
      rintro e w1 ⟨rfl, rfl⟩
      rw [HG.out]
      go_wp2
      go_ret
      exact ⟨ret_bool (by rw [HQ.out]; rfl), below_al (Below.refl _ _) _⟩

end Go.Proofs.YtdkpalllfekiiaaGreat

namespace Go.Proofs.YtdkpalllfekiiaaGreat
set_option maxRecDepth 100000
set_option linter.unusedVariables false
set_option linter.unusedSimpArgs false
open Go.RowKit

theorem Row.lit3 {w : World} {b : Nat} {x y z : Int} {t : TypeId} (h : Loc w b #[.int .i64 x, .int .i64 y, .int .i64 z] t) : Row w (some ⟨b, 0, none⟩) 3 [x, y, z] := by
  refine ⟨rfl, fun i hi => ⟨b, 0, rfl, h.lt, ?_⟩⟩
  match i, hi with
  | 0, _ => exact h.cell 0 rfl
  | 1, _ => exact h.cell 1 rfl
  | 2, _ => exact h.cell 2 rfl
theorem Less.lit3 {n x y z : Nat} (hx : x < n) (hy : y < n) (hz : z < n) : Less n [(x : Int), (y : Int), (z : Int)] := by
  intro i hi
  match i, hi with
  | 0, _ => exact ⟨x, hx, rfl⟩
  | 1, _ => exact ⟨y, hy, rfl⟩
  | 2, _ => exact ⟨z, hz, rfl⟩
theorem do3_eq (f g : List (List Int)) (x y z : Nat) : decide (doF f g 0 (doF f g 1 (doF f g 0 [(x : Int), (y : Int), (z : Int)])) = doF f g 1 (doF f g 0 (doF f g 1 [(x : Int), (y : Int), (z : Int)]))) = eqAt f g x y z := by
  simp only [doF, eqAt, List.set_cons_zero, List.set_cons_succ, List.getD_cons_zero, List.getD_cons_succ, Int.toNat_natCast, Nat.zero_add]
  rw [Bool.eq_iff_iff]
  simp
  omega
theorem l02Do_0 {a : Option Addr} {n c : Nat} {a' : Option Addr} {c' : Nat} {f g : List (List Int)} {al : Option Addr} {m cl : Nat} {l : List Int} {w : World} (h1 : Tbl w a n f) (h2 : Tbl w a' n g) (hn1 : 1 ≤ n) (hf : Sq n f) (hg : Sq n g)
    (hl : Row w al m l) (hm : m = 3) (hle : Less n l) :
    Calls Tryz.prog 100 #[sAgg a n c a' n c', .slice al m cl, .int .i64 0] w fun e w' => ∃ ao co, e = .returned (.slice ao m co) ∧ Own w' w.heap.size ao m co (doF f g 0 l) ∧ Below w.heap.size w w' :=
  l02Do_any a n c a' c' f g al m cl l 0 w h1 h2 hn1 hf hg hl (by omega) (by omega) hle
theorem l02Do_1 {a : Option Addr} {n c : Nat} {a' : Option Addr} {c' : Nat} {f g : List (List Int)} {al : Option Addr} {m cl : Nat} {l : List Int} {w : World} (h1 : Tbl w a n f) (h2 : Tbl w a' n g) (hn1 : 1 ≤ n) (hf : Sq n f) (hg : Sq n g)
    (hl : Row w al m l) (hm : m = 3) (hle : Less n l) :
    Calls Tryz.prog 100 #[sAgg a n c a' n c', .slice al m cl, .int .i64 1] w fun e w' => ∃ ao co, e = .returned (.slice ao m co) ∧ Own w' w.heap.size ao m co (doF f g 1 l) ∧ Below w.heap.size w w' :=
  l02Do_any a n c a' c' f g al m cl l 1 w h1 h2 hn1 hf hg hl (by omega) (by omega) hle

set_option maxHeartbeats 8000000 in
theorem l02Fault_any (a : Option Addr) (n c : Nat) (a' : Option Addr) (c' : Nat) (f g : List (List Int)) (w : World) (h1 : Tbl w a n f) (h2 : Tbl w a' n g) (hn1 : 1 ≤ n) (hn : n ≤ 12) (hf : Sq n f) (hg : Sq n g) :
    Calls Tryz.prog 80 #[sAgg a n c a' n c'] w (SptR (eqOk n f g) w w) := by
  have HSF := Lib.hid hf; have HSG := Lib.hid hg; clear hf hg
  go_enter Tryz.func80, Tryz.ntmps80
  have hA := Loc.new w rfl #[.slice a n c, .slice a' n c'] 42
  have lA := hA.two
  have T1 := h1.alloc (.cells #[.slice a n c, .slice a' n c'] 42)
  have T2 := h2.alloc (.cells #[.slice a n c, .slice a' n c'] 42)
  have hB := below_al (Below.refl w.heap.size w) (.cells #[.slice a n c, .slice a' n c'] 42)
  clear h1 h2
  go_wp2
  generalize hw0 : (w.alloc (.cells #[.slice a n c, .slice a' n c'] 42)) = w0 at *
  have hsz : w.heap.size < w0.heap.size := hA.lt
  clear hw0
  go_loopw [4] (fun i wr => ∃ k : Nat, k ≤ n ∧ i = .int .i64 k ∧ Hid (allN k (fun x => allN n fun y => allN n fun z => eqAt f g x y z) = true) ∧ Below w0.heap.size w0 wr) (fun i _ => n - (intOf i).toNat)
  case atStart => exact ⟨0, Nat.zero_le _, rfl, Lib.hid rfl, Below.refl _ _⟩
  case round =>
    obtain ⟨x, hx, rfl, hx1, hW⟩ := hrel
    by_cases hlt : x < n
    · clear lA
      go_wp2
      go_loopw [5] (fun i wr => ∃ k : Nat, k ≤ n ∧ i = .int .i64 k ∧ Hid (allN k (fun y => allN n fun z => eqAt f g x y z) = true) ∧ Below w0.heap.size w0 wr) (fun i _ => n - (intOf i).toNat)
      case atStart => exact ⟨0, Nat.zero_le _, rfl, Lib.hid rfl, hW⟩
      case round =>
        clear hW
        obtain ⟨y, hy, rfl, hy1, hW⟩ := hrel
        by_cases hlty : y < n
        · go_wp2
          go_loopw [6] (fun i wr => ∃ k : Nat, k ≤ n ∧ i = .int .i64 k ∧ Hid (allN k (fun z => eqAt f g x y z) = true) ∧ Below w0.heap.size w0 wr) (fun i _ => n - (intOf i).toNat)
          case atStart => exact ⟨0, Nat.zero_le _, rfl, Lib.hid rfl, hW⟩
          case round =>
            clear hW
            obtain ⟨z, hz, rfl, hz1, hW⟩ := hrel
            by_cases hltz : z < n
            · have hle0 : Less n [(x : Int), (y : Int), (z : Int)] := Less.lit3 hlt hlty hltz
              have hE := do3_eq f g x y z
              have hle1 : Less n (doF f g 0 [(x : Int), (y : Int), (z : Int)]) := hle0.do_ HSF.out HSG.out 0 (by simp [doF_len])
              have hle2 : Less n (doF f g 1 (doF f g 0 [(x : Int), (y : Int), (z : Int)])) := hle1.do_ HSF.out HSG.out 1 (by simp [doF_len])
              have hle3 : Less n (doF f g 0 (doF f g 1 (doF f g 0 [(x : Int), (y : Int), (z : Int)]))) := hle2.do_ HSF.out HSG.out 0 (by simp [doF_len])
              have hle4 : Less n (doF f g 1 [(x : Int), (y : Int), (z : Int)]) := hle0.do_ HSF.out HSG.out 1 (by simp [doF_len])
              have hle5 : Less n (doF f g 0 (doF f g 1 [(x : Int), (y : Int), (z : Int)])) := hle4.do_ HSF.out HSG.out 0 (by simp [doF_len])
              have hle6 : Less n (doF f g 1 (doF f g 0 (doF f g 1 [(x : Int), (y : Int), (z : Int)]))) := hle5.do_ HSF.out HSG.out 1 (by simp [doF_len])
              cases hq : eqAt f g x y z
              all_goals
                have HQ := Lib.hid hq
                rw [hq] at hE
                have HE := Lib.hid hE
                clear hE hq
                go_wp2
                have hrow := Row.lit3 (Loc.new wr rfl #[.int .i64 x, .int .i64 y, .int .i64 z] 2)
                replace hW := below_al hW (.cells #[.int .i64 x, .int .i64 y, .int .i64 z] 2)
                generalize (wr.alloc (.cells #[.int .i64 x, .int .i64 y, .int .i64 z] 2)) = w1 at *
                have lA := (hA.below hW hA.lt).two
                have tok1 : True := trivial
                go_region_held3 (fun w' => w'.cell? ⟨w.heap.size, 0, none⟩ = some (.slice a n c) ∧ w'.cell? ⟨w.heap.size, 1, none⟩ = some (.slice a' n c'))
                  (first | exact ⟨lb7.1, lb7.2.1⟩ | exact ⟨lb6.1, lb6.2.1⟩ | exact ⟨lb5.1, lb5.2.1⟩ | exact ⟨lb4.1, lb4.2.1⟩ | exact ⟨lb3.1, lb3.2.1⟩ | exact ⟨lb2.1, lb2.2.1⟩ | exact ⟨lb1.1, lb1.2.1⟩ | exact ⟨lA.1, lA.2.1⟩)
                  (first
                    | (go_at_call 100; have _t := tok1; clear _t tok1; have tok2 : True := trivial; refine (l02Do_0 (T1.below (below_drewN hW 1)) (T2.below (below_drewN hW 1)) hn1 HSF.out HSG.out (hrow.drewN 1) rfl hle0).mono ?_; rintro e v1 ⟨a1, c1, rfl, ho1, hb1⟩; have hr1 := below_th (below_drewN hW 1) hb1; have hq1 : Below w1.heap.size w1 v1 := (Below.drew (Below.refl _ _)).trans hb1; have lb1 := (hA.below hr1 hA.lt).two)
                    | (go_at_call 100; have _t := tok2; clear _t tok2; have tok3 : True := trivial; refine (l02Do_1 (T1.below hr1) (T2.below hr1) hn1 HSF.out HSG.out ho1.row rfl hle1).mono ?_; rintro e v2 ⟨a2, c2, rfl, ho2, hb2⟩; have hr2 := below_th hr1 hb2; have hq2 : Below w1.heap.size w1 v2 := below_th hq1 hb2; have lb2 := (hA.below hr2 hA.lt).two)
                    | (go_at_call 100; have _t := tok3; clear _t tok3; have tok4 : True := trivial; refine (l02Do_0 (T1.below hr2) (T2.below hr2) hn1 HSF.out HSG.out ho2.row rfl hle2).mono ?_; rintro e v3 ⟨a3, c3, rfl, ho3, hb3⟩; have hr3 := below_th hr2 hb3; have hq3 : Below w1.heap.size w1 v3 := below_th hq2 hb3; have lb3 := (hA.below hr3 hA.lt).two)
                    | (go_at_call 100; have _t := tok4; clear _t tok4; have tok5 : True := trivial; refine (l02Do_1 (T1.below hr3) (T2.below hr3) hn1 HSF.out HSG.out (hrow.below hq3) rfl hle0).mono ?_; rintro e v4 ⟨a4, c4, rfl, ho4, hb4⟩; have hr4 := below_th hr3 hb4; have hq4 : Below w1.heap.size w1 v4 := below_th hq3 hb4; have lb4 := (hA.below hr4 hA.lt).two; have ho3a := ho3.below hb4)
                    | (go_at_call 100; have _t := tok5; clear _t tok5; have tok6 : True := trivial; refine (l02Do_0 (T1.below hr4) (T2.below hr4) hn1 HSF.out HSG.out ho4.row rfl hle4).mono ?_; rintro e v5 ⟨a5, c5, rfl, ho5, hb5⟩; have hr5 := below_th hr4 hb5; have hq5 : Below w1.heap.size w1 v5 := below_th hq4 hb5; have lb5 := (hA.below hr5 hA.lt).two; have ho3b := ho3a.below hb5)
                    | (go_at_call 100; have _t := tok6; clear _t tok6; have tok7 : True := trivial; refine (l02Do_1 (T1.below hr5) (T2.below hr5) hn1 HSF.out HSG.out ho5.row rfl hle5).mono ?_; rintro e v6 ⟨a6, c6, rfl, ho6, hb6⟩; have hr6 := below_th hr5 hb6; have hq6 : Below w1.heap.size w1 v6 := below_th hq5 hb6; have lb6 := (hA.below hr6 hA.lt).two; have ho3c := ho3b.below hb6)
                    | (go_at_call 71; have _t := tok7; clear _t tok7; refine (l01Same_b _ _ _ _ _ _ _ _ _ ho3c.row ho6.row (by omega) _ HE.out).mono ?_; rintro e v7 ⟨rfl, hb7⟩; have hr7 := below_th hr6 hb7; have lb7 := (hA.below hr7 hA.lt).two))
                clear lb1 lb2 lb3 lb4 lb5 lb6 lb7
                go_wp2
              · go_ret
                exact ⟨⟨_, _, _, rfl, .inr ⟨allN_no hlt (allN_no hlty (allN_no hltz HQ.out)), by omega⟩⟩, hB.trans (hr7.mono (Nat.le_of_lt hsz))⟩
              · go_roundw
                case rel => exact ⟨z + 1, by omega, by go_num, Lib.hid (allN_succ hz1.out HQ.out), hr7⟩
                case measure => simp [intOf]; omega
            · obtain rfl : z = n := by omega
              go_wp2
              go_roundw
              case rel => exact ⟨y + 1, by omega, by go_num, Lib.hid (allN_succ hy1.out hz1.out), hW⟩
              case measure => simp [intOf]; omega
        · obtain rfl : y = n := by omega
          go_wp2
          go_roundw
          case rel => exact ⟨x + 1, by omega, by go_num, Lib.hid (allN_succ hx1.out hy1.out), hW⟩
          case measure => simp [intOf]; omega
    · obtain rfl : x = n := by omega
      go_wp2
      go_ret
      exact ⟨⟨_, _, _, rfl, .inl ⟨hx1.out, rfl⟩⟩, below_al (hB.trans (hW.mono (Nat.le_of_lt hsz))) _⟩

set_option maxHeartbeats 1000000 in
theorem l02Is_any (a : Option Addr) (n c : Nat) (a' : Option Addr) (n' c' : Nat) (f g : List (List Int)) (w : World) (h1 : Tbl w a n f) (h2 : Tbl w a' n' g) (hm1 : n ≤ 9223372036854775807) (hm2 : n' ≤ 9223372036854775807) :
    Calls Tryz.prog 44 #[sAgg a n c a' n' c'] w fun e w' => e = .returned (.bool (isSol f g)) ∧ Below w.heap.size w w' := by
  have hA := Loc.new w rfl #[.slice a n c, .slice a' n' c'] 42
  have lA := hA.two
  cases hf : isPm f g with
  | false =>
    have HF := Lib.hid hf; clear hf
    go_enter Tryz.func44, Tryz.ntmps44
    go_wp2_with fail
    refine (l02Map_any _ _ _ _ _ _ _ _ _ (h1.alloc _) (h2.alloc _) hm1 hm2).mono ?_
    rintro e w1 ⟨rfl, hb1⟩
    rw [HF.out]
    go_wp2
    go_ret
    exact ⟨ret_bool (by unfold isSol; rw [HF.out]; rfl), below_alth (Below.refl _ _) hb1⟩
  | true =>
    obtain ⟨hn1, hn12, sf, sg⟩ := isPm_sq hf
    have hl1 := h1.len
    have hl2 : n' = n := by rw [h2.len, hl1]; have := sg.len; omega
    subst hl2
    rw [← hl1] at hn1 hn12 sf sg
    have HF := Lib.hid hf; clear hf
    have HS : Hid (isSol f g = (collOk n' f g && eqOk n' f g)) := Lib.hid (by unfold isSol; rw [HF.out, ← hl1]; rfl)
    clear hl1
    have HSF := Lib.hid sf; have HSG := Lib.hid sg; clear sf sg
    go_enter Tryz.func44, Tryz.ntmps44
    go_wp2_with fail
    refine (l02Map_any _ _ _ _ _ _ _ _ _ (h1.alloc _) (h2.alloc _) hm1 hm2).mono ?_
    rintro e w1 ⟨rfl, hb1⟩
    rw [HF.out]
    have hA1 := hA.below hb1 (by simp)
    have lA1 := hA1.two
    have hf1 := (h1.alloc _).below hb1
    have hg1 := (h2.alloc _).below hb1
    have hB1 := below_alth (Below.refl _ _) hb1
    clear hb1 hA lA
    go_wp2_with fail
    refine (l02Collision_any _ _ _ _ _ _ _ _ hf1 hg1 hn1 hn12 HSF.out HSG.out).mono ?_
    rintro e w2 ⟨⟨b, m, k, rfl, he⟩, hb2⟩
    have hA2 := hA1.below hb2 hA1.lt
    have lA2 := hA2.two
    have hf2 := hf1.below hb2
    have hg2 := hg1.below hb2
    have hB2 := below_th hB1 hb2
    clear hb2 hA1 lA1 hB1
    rcases he with ⟨hc, rfl⟩ | ⟨hc, hm⟩
    · have HC := Lib.hid hc; clear hc
      go_wp2_with fail
      refine (l02Fault_any _ _ _ _ _ _ _ _ hf2 hg2 hn1 hn12 HSF.out HSG.out).mono ?_
      rintro e w3 ⟨⟨b', m', k', rfl, he⟩, hb3⟩
      have hB3 := below_th hB2 hb3
      rcases he with ⟨hc, rfl⟩ | ⟨hc, hm⟩
      · have HD := Lib.hid hc; clear hc
        go_wp2
        go_ret
        exact ⟨ret_bool (by rw [HS.out, HC.out, HD.out]; rfl), hB3⟩
      · have HD := Lib.hid hc; clear hc
        have hm0 : ((m' : Int) == 0) = false := by simp; omega
        clear hm
        go_wp2
        go_ret
        exact ⟨ret_bool (by rw [HS.out, HC.out, HD.out]; rfl), hB3⟩
    · have HC := Lib.hid hc; clear hc
      have hm0 : ((m : Int) == 0) = false := by simp; omega
      clear hm
      go_wp2
      go_ret
      exact ⟨ret_bool (by rw [HS.out, HC.out]; rfl), hB2⟩

end Go.Proofs.YtdkpalllfekiiaaGreat

namespace Go.Proofs.YtdkpalllfekiiaaGreat
set_option maxRecDepth 100000
set_option linter.unusedVariables false
set_option linter.unusedSimpArgs false
open Go.RowKit

theorem below_undrew {w w' : World} {n : Nat} (h : Below (w.drewN n).heap.size (w.drewN n) w') : Below w.heap.size w w' := (below_drewN (Below.refl w.heap.size w) n).trans h

end Go.Proofs.YtdkpalllfekiiaaGreat

namespace Go.Proofs.YtdkpalllfekiiaaGreat
set_option maxRecDepth 100000
set_option linter.unusedVariables false
set_option linter.unusedSimpArgs false
open Go.RowKit

def codeF (f g : List (List Int)) (s : Int) (xs : List Int) : Int := if isSol f g then (if isBr s xs then 0 else 1) else 1

theorem codeF_zero {f g : List (List Int)} {s : Int} {xs : List Int} (h : codeF f g s xs = 0) : isSol f g = true ∧ isBr s xs = true := by
  unfold codeF at h
  by_cases h1 : isSol f g = true
  · rw [if_pos h1] at h
    by_cases h2 : isBr s xs = true
    · exact ⟨h1, h2⟩
    · rw [if_neg h2] at h; omega
  · rw [if_neg h1] at h; omega

end Go.Proofs.YtdkpalllfekiiaaGreat

namespace Go.Proofs.YtdkpalllfekiiaaGreat
set_option maxRecDepth 100000
set_option linter.unusedVariables false
set_option linter.unusedSimpArgs false
open Go.RowKit

end Go.Proofs.YtdkpalllfekiiaaGreat

namespace Go.Proofs.YtdkpalllfekiiaaGreat
set_option maxRecDepth 100000
set_option linter.unusedVariables false
set_option linter.unusedSimpArgs false
open Go.RowKit

set_option maxHeartbeats 1000000 in
theorem isPairMap_any (a : Option Addr) (n c : Nat) (a' : Option Addr) (n' c' : Nat) (f g : List (List Int)) (w : World) (h1 : Tbl w a n f) (h2 : Tbl w a' n' g) (hm1 : n ≤ 9223372036854775807) (hm2 : n' ≤ 9223372036854775807) :
    Calls Tryz.prog 41 #[sAgg a n c a' n' c'] w fun e w' => e = .returned (.bool (isPm f g)) ∧ Below w.heap.size w w' := by
  have hl1 := h1.len
  have hl2 := h2.len
  have HL : Hid (decide (f.length = g.length) = decide (n = n')) := Lib.hid (by rw [← hl1, ← hl2])
  clear hl1 hl2
  have hA := Loc.new w rfl #[.slice a n c, .slice a' n' c'] 42
  have lA := hA.two
  cases hf : isTab f with
  | false =>
    have HF := Lib.hid hf; clear hf
    go_enter Tryz.func41, Tryz.ntmps41
    go_wp2_with fail
    refine (isTable_any _ _ _ _ _ (h1.alloc _) hm1).mono ?_
    rintro e w1 ⟨rfl, hb1⟩
    rw [HF.out]
    go_wp2
    go_ret
    exact ⟨ret_bool (by unfold isPm; rw [HF.out]; rfl), below_alth (Below.refl _ _) hb1⟩
  | true =>
    have HF := Lib.hid hf; clear hf
    cases hg : isTab g with
    | false =>
      have HG := Lib.hid hg; clear hg
      go_enter Tryz.func41, Tryz.ntmps41
      go_wp2_with fail
      refine (isTable_any _ _ _ _ _ (h1.alloc _) hm1).mono ?_
      rintro e w1 ⟨rfl, hb1⟩
      rw [HF.out]
      have hA1 := hA.below hb1 (by simp)
      have lA1 := hA1.two
      have hg1 := (h2.alloc _).below hb1
      go_wp2_with fail
      refine (isTable_any _ _ _ _ _ hg1 hm2).mono ?_
      rintro e w2 ⟨rfl, hb2⟩
      rw [HG.out]
      go_wp2
      go_ret
      exact ⟨ret_bool (by unfold isPm; rw [HF.out, HG.out]; rfl), below_th (below_alth (Below.refl _ _) hb1) hb2⟩
    | true =>
      have HG := Lib.hid hg; clear hg
      have HQ : Hid (isPm f g = decide ((n : Int) = (n' : Int))) := Lib.hid (by unfold isPm; rw [HF.out, HG.out, HL.out]; simp [Int.ofNat_inj])
      go_enter Tryz.func41, Tryz.ntmps41
      go_wp2_with fail
      refine (isTable_any _ _ _ _ _ (h1.alloc _) hm1).mono ?_
      rintro e w1 ⟨rfl, hb1⟩
      rw [HF.out]
      have hA1 := hA.below hb1 (by simp)
      have lA1 := hA1.two
      have hg1 := (h2.alloc _).below hb1
      go_wp2_with fail
      refine (isTable_any _ _ _ _ _ hg1 hm2).mono ?_
      rintro e w2 ⟨rfl, hb2⟩
      rw [HG.out]
      have hA2 := hA1.below hb2 hA1.lt
      have lA2 := hA2.two
      go_wp2
      go_ret
      exact ⟨ret_bool (by rw [HQ.out]; rfl), below_th (below_alth (Below.refl _ _) hb1) hb2⟩

set_option maxHeartbeats 1000000 in
theorem isSolution_any (a : Option Addr) (n c : Nat) (a' : Option Addr) (n' c' : Nat) (f g : List (List Int)) (w : World) (h1 : Tbl w a n f) (h2 : Tbl w a' n' g) (hm1 : n ≤ 9223372036854775807) (hm2 : n' ≤ 9223372036854775807) :
    Calls Tryz.prog 17 #[sAgg a n c a' n' c'] w fun e w' => e = .returned (.bool (isSol f g)) ∧ Below w.heap.size w w' := by
  have hA := Loc.new w rfl #[.slice a n c, .slice a' n' c'] 42
  have lA := hA.two
  cases hf : isPm f g with
  | false =>
    have HF := Lib.hid hf; clear hf
    go_enter Tryz.func17, Tryz.ntmps17
    go_wp2_with fail
    refine (isPairMap_any _ _ _ _ _ _ _ _ _ (h1.alloc _) (h2.alloc _) hm1 hm2).mono ?_
    rintro e w1 ⟨rfl, hb1⟩
    rw [HF.out]
    go_wp2
    go_ret
    exact ⟨ret_bool (by unfold isSol; rw [HF.out]; rfl), below_alth (Below.refl _ _) hb1⟩
  | true =>
    obtain ⟨hn1, hn12, sf, sg⟩ := isPm_sq hf
    have hl1 := h1.len
    have hl2 : n' = n := by rw [h2.len, hl1]; have := sg.len; omega
    subst hl2
    rw [← hl1] at hn1 hn12 sf sg
    have HF := Lib.hid hf; clear hf
    have HS : Hid (isSol f g = (collOk n' f g && eqOk n' f g)) := Lib.hid (by unfold isSol; rw [HF.out, ← hl1]; rfl)
    clear hl1
    have HSF := Lib.hid sf; have HSG := Lib.hid sg; clear sf sg
    go_enter Tryz.func17, Tryz.ntmps17
    go_wp2_with fail
    refine (isPairMap_any _ _ _ _ _ _ _ _ _ (h1.alloc _) (h2.alloc _) hm1 hm2).mono ?_
    rintro e w1 ⟨rfl, hb1⟩
    rw [HF.out]
    have hA1 := hA.below hb1 (by simp)
    have lA1 := hA1.two
    have hf1 := (h1.alloc _).below hb1
    have hg1 := (h2.alloc _).below hb1
    have hB1 := below_alth (Below.refl _ _) hb1
    clear hb1 hA lA
    go_wp2_with fail
    refine (collisionOf_any _ _ _ _ _ _ _ _ hf1 hg1 hn1 hn12 HSF.out HSG.out).mono ?_
    rintro e w2 ⟨he, hb2⟩
    have hA2 := hA1.below hb2 hA1.lt
    have lA2 := hA2.two
    have hf2 := hf1.below hb2
    have hg2 := hg1.below hb2
    have hB2 := below_th hB1 hb2
    clear hb2 hA1 lA1 hB1
    have nn := fun (w : World) (a : Option Addr) (n c : Nat) => Lib.run_eql_slice_nil (P := Tryz.prog) w 24 2 a n c 0 0 und_ints
    rcases he with ⟨hc, rfl⟩ | ⟨hc, b, m, k, rfl⟩
    · have HC := Lib.hid hc; clear hc
      go_wp2_with fail
      refine (equationFault_any _ _ _ _ _ _ _ _ hf2 hg2 hn1 hn12 HSF.out HSG.out).mono ?_
      rintro e w3 ⟨he, hb3⟩
      have hB3 := below_th hB2 hb3
      rcases he with ⟨hc, rfl⟩ | ⟨hc, b, m, k, rfl⟩
      · have HD := Lib.hid hc; clear hc
        go_wp2
        go_ret
        exact ⟨ret_bool (by rw [HS.out, HC.out, HD.out]; rfl), hB3⟩
      · have HD := Lib.hid hc; clear hc
        go_wp2
        go_ret
        exact ⟨ret_bool (by rw [HS.out, HC.out, HD.out]; rfl), hB3⟩
    · have HC := Lib.hid hc; clear hc
      go_wp2
      go_ret
      exact ⟨ret_bool (by rw [HS.out, HC.out]; rfl), hB2⟩

end Go.Proofs.YtdkpalllfekiiaaGreat

namespace Go.Proofs.YtdkpalllfekiiaaGreat
set_option maxRecDepth 100000
set_option linter.unusedVariables false
set_option linter.unusedSimpArgs false
open Go.RowKit


theorem OwnT.uSet {w : World} {lo : Nat} {a : Option Addr} {n c : Nat} {vs : List SV} {xss : List (List Int)} (h : OwnT w lo a n c vs xss) {p : Addr} (hp : ∀ g, TblS a n vs g → g ≠ p.block) (u : Value) : OwnT (w.setCell p u) lo a n c vs xss :=
  h.keep fun g hg _ => Below.heap_setCell _ _ _ _ (hp g hg)
/-- two tables and the box of a pair map, all new -/
def InvMade (w1 : World) (n : Nat) (f g : List (List Int)) (s : Value) (wx : World) : Prop :=
  ∃ b4 b d vs b' d' vs', s = .pointer (some ⟨b4, 0, none⟩) ∧ w1.heap.size ≤ b4 ∧ Loc wx b4 #[.slice b n d, .slice b' n d'] 42 ∧ OwnS wx w1.heap.size b n d vs f b' n d' vs' g ∧ (∀ q, SolS b n vs b' n vs' q → q ≠ b4) ∧ Below w1.heap.size w1 wx
abbrev zBox : Obj := .cells #[.slice none 0 0, .slice none 0 0] 42
section
variable {w1 w2 w3 : World} {n : Nat} {f g : List (List Int)} {a2 a3 : Option Addr} {c2 c3 : Nat} {vs2 vs3 : List SV}
theorem made_end (ho2 : OwnT w2 w1.heap.size a2 n c2 vs2 f) (hq2 : Below w1.heap.size w1 w2) (ho3 : OwnT w3 w2.heap.size a3 n c3 vs3 g) (hb3 : Below w2.heap.size w2 w3) :
    InvMade w1 n f g (.pointer (some ⟨w3.heap.size, 0, none⟩)) (w3.alloc (.cells #[.slice a2 n c2, .slice a3 n c3] 42)) := by
  have s2 := hq2.size
  have s3 := hb3.size
  refine ⟨_, _, _, _, _, _, _, rfl, by omega, Loc.new _ rfl _ _, ⟨(ho2.below hb3).alloc _, (ho3.mono s2).alloc _, fun q h1 h2 => ?_⟩, fun q hq => ?_, below_al (below_th hq2 hb3) _⟩
  · have e1 := ho2.uHi q h1; have e2 := ho3.uLo q h2; omega
  · rcases hq with hq | hq
    · have := ho2.uHi q hq; omega
    · have := ho3.uHi q hq; omega
theorem made_mid (ho2 : OwnT w2 w1.heap.size a2 n c2 vs2 f) (hq2 : Below w1.heap.size w1 w2) (ho3 : OwnT w3 (w2.alloc zBox).heap.size a3 n c3 vs3 g) (hb3 : Below (w2.alloc zBox).heap.size (w2.alloc zBox) w3) :
    InvMade w1 n f g (.pointer (some ⟨w2.heap.size, 0, none⟩)) ((w3.setCell ⟨w2.heap.size, 0, none⟩ (.slice a2 n c2)).setCell ⟨w2.heap.size, 1, none⟩ (.slice a3 n c3)) := by
  have s2 := hq2.size
  have s3 := hb3.size
  rw [size_alloc] at s3
  have n2 : ∀ q, TblS a2 n vs2 q → q ≠ w2.heap.size := fun q hq => by have := ho2.uHi q hq; omega
  have n3 : ∀ q, TblS a3 n vs3 q → q ≠ w2.heap.size := fun q hq => by have := ho3.uLo q hq; rw [size_alloc] at this; omega
  have hO : Loc w3 w2.heap.size #[.slice none 0 0, .slice none 0 0] 42 := (Loc.new w2 rfl _ _).below hb3 (by simp)
  refine ⟨_, _, _, _, _, _, _, rfl, by omega, (hO.set 0 _).set 1 _, ⟨(((ho2.alloc _).below hb3).uSet n2 _).uSet n2 _, ((ho3.mono (by rw [size_alloc]; omega)).uSet n3 _).uSet n3 _, fun q h1 h2 => ?_⟩, fun q hq => ?_, ?_⟩
  · have e1 := ho2.uHi q h1; have e2 := ho3.uLo q h2; rw [size_alloc] at e2; omega
  · rcases hq with hq | hq
    · exact n2 q hq
    · exact n3 q hq
  · exact below_setne (below_setne (below_alth hq2 hb3) s2 _) s2 _
theorem made_first {w1' : World} (hw : Below w1.heap.size w1 w1') (hs1 : w1'.heap.size = w1.heap.size) (ho2 : OwnT w2 (w1'.alloc zBox).heap.size a2 n c2 vs2 f) (hb2 : Below (w1'.alloc zBox).heap.size (w1'.alloc zBox) w2) (ho3 : OwnT w3 w2.heap.size a3 n c3 vs3 g) (hb3 : Below w2.heap.size w2 w3) :
    InvMade w1 n f g (.pointer (some ⟨w1.heap.size, 0, none⟩)) ((w3.setCell ⟨w1.heap.size, 0, none⟩ (.slice a2 n c2)).setCell ⟨w1.heap.size, 1, none⟩ (.slice a3 n c3)) := by
  have s2 := hb2.size
  have s3 := hb3.size
  rw [size_alloc] at s2
  have n2 : ∀ q, TblS a2 n vs2 q → q ≠ w1.heap.size := fun q hq => by have := ho2.uLo q hq; rw [size_alloc] at this; omega
  have n3 : ∀ q, TblS a3 n vs3 q → q ≠ w1.heap.size := fun q hq => by have := ho3.uLo q hq; omega
  have hO : Loc w3 w1.heap.size #[.slice none 0 0, .slice none 0 0] 42 := ((Loc.new w1' hs1.symm _ _).below hb2 (by simp; omega)).below hb3 (by omega)
  refine ⟨_, _, _, _, _, _, _, rfl, Nat.le_refl _, (hO.set 0 _).set 1 _, ⟨(((ho2.mono (by rw [size_alloc]; omega)).below hb3).uSet n2 _).uSet n2 _, ((ho3.mono (by omega)).uSet n3 _).uSet n3 _, fun q h1 h2 => ?_⟩, fun q hq => ?_, ?_⟩
  · have e1 := ho2.uHi q h1; have e2 := ho3.uLo q h2; omega
  · rcases hq with hq | hq
    · exact n2 q hq
    · exact n3 q hq
  · exact below_setne (below_setne (below_th (below_alth hw hb2) hb3) (Nat.le_refl _) _) (Nat.le_refl _) _
end

/-- a store into a row of each table -/
theorem OwnS.put2 {w : World} {lo : Nat} {b b' : Option Addr} {n d d' : Nat} {vs vs' : List SV} {F G : List (List Int)} (h : OwnS w lo b n d vs F b' n d' vs' G) {u : Nat} (hu : u < n) {g1 g2 : Nat} (e1 : (vs.getD u svO).1 = some ⟨g1, 0, none⟩) (e2 : (vs'.getD u svO).1 = some ⟨g2, 0, none⟩) (v : Nat) (x y : Int) :
    OwnS ((w.setCell ⟨g1, v, none⟩ (.int .i64 x)).setCell ⟨g2, v, none⟩ (.int .i64 y)) lo b n d vs (F.set u ((F.getD u []).set v x)) b' n d' vs' (G.set u ((G.getD u []).set v y)) := by
  have m1 : TblS b n vs g1 := .inr ⟨u, hu, e1⟩
  have m2 : TblS b' n vs' g2 := .inr ⟨u, hu, e2⟩
  exact ⟨(h.f.setrow u hu e1 v x).uSet (fun q hq e => by subst e; exact h.ap _ hq m2) _, (h.s.uSet (p := ⟨g1, v, none⟩) (fun q hq e => by subst e; exact h.ap _ m1 hq) _).setrow u hu e2 v y, h.ap⟩
theorem OwnT.spot {w : World} {lo : Nat} {b : Option Addr} {n d : Nat} {vs : List SV} {F : List (List Int)} (h : OwnT w lo b n d vs F) {u v : Nat} (hu : u < n) (hv : v < (F.getD u []).length) :
    ∃ gb g1 k1 c1 z, b = some ⟨gb, 0, none⟩ ∧ (vs.getD u svO).1 = some ⟨g1, 0, none⟩ ∧ v < k1 ∧ w.cell? ⟨gb, u, none⟩ = some (.slice (some ⟨g1, 0, none⟩) k1 c1) ∧ w.cell? ⟨g1, v, none⟩ = some z ∧ w.frozen? ⟨g1, v, none⟩ = false := by
  obtain ⟨gb, hb, _, hc, _⟩ := h.cells (by omega)
  have hr := h.row u hu
  have hk : v < (vs.getD u svO).2.1 := by have := hr.len; omega
  obtain ⟨g1, o1, e1, _⟩ := hr.row.at v hk
  rw [e1] at hr
  obtain ⟨rfl, h2, h3⟩ := hr.cells
  have := hc u hu
  rw [e1] at this
  exact ⟨gb, g1, _, _, _, hb, e1, hk, this, h2 v hk, h3 v⟩

set_option maxHeartbeats 8000000 in
theorem inverseSolution_any (a : Option Addr) (n c : Nat) (a' : Option Addr) (c' : Nat) (f g : List (List Int)) (w : World) (h1 : Tbl w a n f) (h2 : Tbl w a' n g) (hs : isSol f g = true) (hm : n ≤ 12) :
    Calls Tryz.prog 82 #[sAgg a n c a' n c'] w fun e w' => ∃ b d vs b' d' vs', e = .returned (.tuple #[sAgg b n d b' n d', .int .i64 0]) ∧ OwnS w' w.heap.size b n d vs (bfT n f g) b' n d' vs' (bgT n f g) ∧ Below w.heap.size w w' := by
  obtain ⟨hn1, hn12, sf, sg⟩ := isSol_sq hs
  have hcc := isSol_coll hs
  have hl := h1.len
  rw [← hl] at hn1 hn12 sf sg hcc
  have HS := Lib.hid hs; have HSF := Lib.hid sf; have HSG := Lib.hid sg; have HC := Lib.hid hcc
  clear hs sf sg hcc hl
  have hA := (Loc.new w rfl #[.slice a n c, .slice a' n c'] 42).alloc (.cells #[.slice none 0 0, .slice none 0 0] 42)
  have hR := Loc.new (w.alloc (.cells #[.slice a n c, .slice a' n c'] 42)) rfl #[.slice none 0 0, .slice none 0 0] 42
  rw [size_alloc] at hR
  have hB := below_al (below_al (Below.refl w.heap.size w) (.cells #[.slice a n c, .slice a' n c'] 42)) (.cells #[.slice none 0 0, .slice none 0 0] 42)
  go_enter Tryz.func82, Tryz.ntmps82
  go_wp2_with fail
  generalize (w.alloc (.cells #[.slice a n c, .slice a' n c'] 42)).alloc (.cells #[.slice none 0 0, .slice none 0 0] 42) = w0 at *
  refine (isSolution_any _ _ _ _ _ _ _ _ _ (h1.below hB) (h2.below hB) (by omega) (by omega)).mono ?_
  rintro e w1 ⟨rfl, hb1⟩
  rw [HS.out]
  have hA1 := hA.below hb1 hA.lt
  have hR1 := hR.below hb1 hR.lt
  have hB1 := below_th hB hb1
  have hs1 := hA1.lt
  have hs2 := hR1.lt
  clear hA hR hB hb1
  have lA := hA1.two
  go_upto_region 3 with fail
  go_cut [4] (fun s4 wx => InvMade w1 n f g s4 wx)
  case first =>
    have tok1 : True := trivial
    go_region_held3 (fun w' => w'.cell? ⟨w.heap.size, 0, none⟩ = some (.slice a n c) ∧ w'.cell? ⟨w.heap.size, 1, none⟩ = some (.slice a' n c'))
      (first | exact ⟨lM.1, lM.2.1⟩ | exact ⟨lD.1, lD.2.1⟩ | exact ⟨lC.1, lC.2.1⟩ | exact ⟨lB'.1, lB'.2.1⟩ | exact ⟨lB.1, lB.2.1⟩ | exact ⟨lA'.1, lA'.2.1⟩ | exact ⟨lA.1, lA.2.1⟩ | go_keep)
      (first
        | (go_at_call 101; have _t := tok1; refine (cloneTable_any _ _ _ f _ (h1.below (below_drewN hB1 1)) (by omega) (fun i hi => by rw [HSF.out.row hi]; omega)).mono ?_; rintro e w2 ⟨a2, c2, vs2, rfl, ho2, hb2⟩; clear _t tok1; have tok2 : True := trivial; have hq2 : Below w1.heap.size w1 w2 := (Below.drew (Below.refl _ _)).trans hb2; have lB := (hA1.below hq2 hA1.lt).two; have lB' := ((hA1.below hq2 hA1.lt).alloc zBox).two)
        | (go_at_call 101; have _t := tok1; refine (cloneTable_any _ _ _ f _ ((h1.below (below_drewN hB1 1)).alloc _) (by omega) (fun i hi => by rw [HSF.out.row hi]; omega)).mono ?_; rintro e w2 ⟨a2, c2, vs2, rfl, ho2, hb2⟩; clear _t tok1; have tok3 : True := trivial; have hO2 : Loc w2 w1.heap.size _ _ := (Loc.new (w1.drewN 1) rfl #[.slice none 0 0, .slice none 0 0] 42).below hb2 (by simp); have hq2 : Below w1.heap.size w1 w2 := below_alth (below_drewN (Below.refl w1.heap.size w1) 1) hb2; have lB := (hA1.below hq2 hA1.lt).two)
        | (go_at_call 101; have _t := tok2; refine (cloneTable_any _ _ _ g _ (h2.below (below_th hB1 hq2)) (by omega) (fun i hi => by rw [HSG.out.row hi]; omega)).mono ?_; rintro e w3 ⟨a3, c3, vs3, rfl, ho3, hb3⟩; clear _t tok2; have hq3 : Below w1.heap.size w1 w3 := below_th hq2 hb3; have lC := (hA1.below hq3 hA1.lt).two; have lD := ((hA1.below hq3 hA1.lt).alloc zBox).two; have lM := ((hA1.below hq3 hA1.lt).alloc (.cells #[.slice a2 n c2, .slice a3 n c3] 42)).two)
        | (go_at_call 101; have _t := tok2; refine (cloneTable_any _ _ _ g _ ((h2.below (below_th hB1 hq2)).alloc _) (by omega) (fun i hi => by rw [HSG.out.row hi]; omega)).mono ?_; rintro e w3 ⟨a3, c3, vs3, rfl, ho3, hb3⟩; clear _t tok2; have lO := ((Loc.new w2 rfl #[.slice none 0 0, .slice none 0 0] 42).below hb3 (by simp)).two; have hq3 : Below w1.heap.size w1 w3 := below_alth hq2 hb3; have lC := (hA1.below hq3 hA1.lt).two; have lM := (((hA1.below hq3 hA1.lt).setne (a := ⟨w2.heap.size, 0, none⟩) (by have := hq2.size; show w.heap.size ≠ w2.heap.size; omega) (.slice a2 n c2)).setne (a := ⟨w2.heap.size, 1, none⟩) (by have := hq2.size; show w.heap.size ≠ w2.heap.size; omega) (.slice a3 n c3)).two)
        | (go_at_call 101; have _t := tok3; refine (cloneTable_any _ _ _ g _ (h2.below (below_th hB1 hq2)) (by omega) (fun i hi => by rw [HSG.out.row hi]; omega)).mono ?_; rintro e w3 ⟨a3, c3, vs3, rfl, ho3, hb3⟩; clear _t tok3; have lO := (hO2.below hb3 hO2.lt).two; have hq3 : Below w1.heap.size w1 w3 := below_th hq2 hb3; have lC := (hA1.below hq3 hA1.lt).two; have lM := (((hA1.below hq3 hA1.lt).setne (a := ⟨w1.heap.size, 0, none⟩) (by have := hq2.size; show w.heap.size ≠ w1.heap.size; omega) (.slice a2 n c2)).setne (a := ⟨w1.heap.size, 1, none⟩) (by have := hq2.size; show w.heap.size ≠ w1.heap.size; omega) (.slice a3 n c3)).two))
    all_goals (go_wp2_with fail; go_meet; first | exact made_end ho2 hq2 ho3 hb3 | exact made_mid ho2 hq2 ho3 hb3 | exact made_first (below_drewN (Below.refl _ _) 1) rfl ho2 hb2 ho3 hb3)
  case rest =>
    obtain ⟨b4, b, d, vs, b', d', vs', rfl, hb4, hO, ho, hap, hq⟩ := hcut
    have hA2 := hA1.below hq hA1.lt
    have hR2 := hR1.below hq hR1.lt
    have hB2 := below_th hB1 hq
    have hlo : w.heap.size + 2 ≤ w1.heap.size := by omega
    have ho2 := ho.mono (lo' := w.heap.size + 2) hlo
    have hb42 : w.heap.size + 2 ≤ b4 := by omega
    clear hA1 hR1 hB1 hq ho hb4 lA
    obtain ⟨bf, of, A, O, C, rfl, gf⟩ := h1.grid HSF.out hn1
    obtain ⟨bg, og, A', O', C', rfl, gg⟩ := h2.grid HSG.out hn1
    have lA := hA2.two
    have hI : InvAt n f g (fun x _ => x < 0) f g := InvAt.start HSF.out.shape HSG.out.shape
    clear h1 h2
    go_wp2
    go_loopw [24] (fun i wr => ∃ (k : Nat) (F G : List (List Int)), k ≤ n ∧ i = .int .i64 k ∧ Hid (InvAt n f g (fun x _ => x < k) F G) ∧ OwnS wr (w.heap.size + 2) b n d vs F b' n d' vs' G ∧ Loc wr b4 #[.slice b n d, .slice b' n d'] 42 ∧ Loc wr w.heap.size #[.slice (some ⟨bf, of, none⟩) n c, .slice (some ⟨bg, og, none⟩) n c'] 42 ∧ Loc wr (w.heap.size + 1) #[.slice none 0 0, .slice none 0 0] 42 ∧ Below w.heap.size w wr) (fun i _ => n - (intOf i).toNat)
    case atStart => exact ⟨0, f, g, Nat.zero_le _, rfl, Lib.hid hI, ho2, hO, hA2, hR2, hB2⟩
    case round =>
      clear hI ho2 hO hA2 hR2 hB2 lA
      obtain ⟨k, F, G, hk, rfl, hI, ho, hO, hA, hR, hB⟩ := hrel
      have lA := hA.two
      have lO := hO.two
      by_cases hlt : k < n
      · have r1 := (gf.below hB).row k hlt
        clear lO
        go_wp2
        clear lA r1
        go_loopw [31] (fun i wr => ∃ (j : Nat) (F G : List (List Int)), j ≤ n ∧ i = .int .i64 j ∧ Hid (InvAt n f g (fun x y => x < k ∨ (x = k ∧ y < j)) F G) ∧ OwnS wr (w.heap.size + 2) b n d vs F b' n d' vs' G ∧ Loc wr b4 #[.slice b n d, .slice b' n d'] 42 ∧ Loc wr w.heap.size #[.slice (some ⟨bf, of, none⟩) n c, .slice (some ⟨bg, og, none⟩) n c'] 42 ∧ Loc wr (w.heap.size + 1) #[.slice none 0 0, .slice none 0 0] 42 ∧ Below w.heap.size w wr) (fun i _ => n - (intOf i).toNat)
        case atStart => exact ⟨0, F, G, Nat.zero_le _, rfl, Lib.hid hI.out.begin, ho, hO, hA, hR, hB⟩
        case round =>
          clear hI ho hO hA hR hB
          obtain ⟨j, F, G, hj, rfl, hI, ho, hO, hA, hR, hB⟩ := hrel
          have lA := hA.two
          have lO := hO.two
          by_cases hjt : j < n
          · have k1 := (gf.below hB).cell k j hlt hjt
            obtain ⟨r2, k2⟩ := (gg.below hB).look hlt hjt
            have hu := HSF.out.lt hlt hjt
            have hv := HSG.out.lt hlt hjt
            have hst := hI.out.step hn1 HSF.out HSG.out HC.out hlt hjt
            obtain ⟨gb, g1, m1, c1, z1, eb, e1, hm1, p1, p2, p3⟩ := ho.f.spot hu (v := tv g k j) (by rw [hI.out.1.2 _ hu]; exact hv)
            obtain ⟨gb', g2, m2, c2, z2, eb', e2, hm2, p4, p5, p6⟩ := ho.s.spot hu (v := tv g k j) (by rw [hI.out.2.1.2 _ hu]; exact hv)
            have hput := ho.put2 hu e1 e2 (tv g k j) (k : Int) (j : Int)
            have t1 : TblS b n vs g1 := .inr ⟨_, hu, e1⟩
            have t2 : TblS b' n vs' g2 := .inr ⟨_, hu, e2⟩
            have q1 : w.heap.size + 2 ≤ g1 := ho.f.uLo _ t1
            have q2 : w.heap.size + 2 ≤ g2 := ho.s.uLo _ t2
            have q3 : g1 ≠ b4 := hap _ (.inl t1)
            have q4 : g2 ≠ b4 := hap _ (.inr t2)
            have q5 : g1 ≠ g2 := fun e => by subst e; exact ho.ap _ t1 t2
            have HST := Lib.hid hst
            have HPUT := Lib.hid hput
            subst eb eb'
            clear hst hput t1 t2 e1 e2 ho
            generalize tv f k j = u at *
            generalize tv g k j = v at *
            have hne : (⟨g1, v, none⟩ : Addr) ≠ ⟨g2, v, none⟩ := fun e => by simp only [Addr.mk.injEq] at e; exact q5 e.1
            go_wp2
            go_region
            all_goals
              go_wp2
              go_roundw
              case rel =>
                refine ⟨j + 1, _, _, by omega, by go_num, HST, HPUT.out.drewN 1, ?_, ?_, ?_, ?_⟩
                · exact ((hO.setne (a := ⟨g1, v, none⟩) (fun e => q3 e.symm) _).setne (a := ⟨g2, v, none⟩) (fun e => q4 e.symm) _).drewN 1
                · exact ((hA.setne (a := ⟨g1, v, none⟩) (by show w.heap.size ≠ g1; omega) _).setne (a := ⟨g2, v, none⟩) (by show w.heap.size ≠ g2; omega) _).drewN 1
                · exact ((hR.setne (a := ⟨g1, v, none⟩) (by show w.heap.size + 1 ≠ g1; omega) _).setne (a := ⟨g2, v, none⟩) (by show w.heap.size + 1 ≠ g2; omega) _).drewN 1
                · exact below_drewN (below_setne (below_setne (a := ⟨g1, v, none⟩) hB (by show w.heap.size ≤ g1; omega) _) (a := ⟨g2, v, none⟩) (by show w.heap.size ≤ g2; omega) _) 1
              case measure => simp [intOf]; omega
          · obtain rfl : j = n := by omega
            go_wp2
            go_roundw
            case rel => exact ⟨k + 1, F, G, by omega, by go_num, Lib.hid hI.out.finish, ho, hO, hA, hR, hB⟩
            case measure => simp [intOf]; omega
      · obtain rfl : k = n := by omega
        obtain ⟨rfl, rfl⟩ := hI.out.done_ hn1 HSF.out HSG.out HC.out
        have lR := hR.two
        go_wp2
        refine bodyPost_ret (v := .tuple #[sAgg b k d b' k d', .int .i64 0]) (by simp [results, Tryz.results82, go_sem, lR]) rfl ⟨b, d, vs, b', d', vs', rfl, ?_, ?_⟩
        · have n1 : ∀ q, TblS b k vs q → q ≠ w.heap.size + 1 := fun q hq => by have := ho.f.uLo q hq; omega
          have n2 : ∀ q, TblS b' k vs' q → q ≠ w.heap.size + 1 := fun q hq => by have := ho.s.uLo q hq; omega
          exact ⟨((ho.f.uSet n1 _).uSet n1 _).mono (by omega), ((ho.s.uSet n2 _).uSet n2 _).mono (by omega), ho.ap⟩
        · exact below_setne (below_setne hB (by show w.heap.size ≤ w.heap.size + 1; omega) _) (by show w.heap.size ≤ w.heap.size + 1; omega) _

end Go.Proofs.YtdkpalllfekiiaaGreat

namespace Go.Proofs.YtdkpalllfekiiaaGreat
set_option maxRecDepth 100000
set_option linter.unusedVariables false
set_option linter.unusedSimpArgs false
open Go.RowKit

set_option maxHeartbeats 2000000 in
theorem moved_any (a : Option Addr) (n c : Nat) (a' : Option Addr) (c' : Nat) (f g : List (List Int)) (al : Option Addr) (m cl : Nat) (l : List Int) (i : Nat) (w : World) (h1 : Tbl w a n f) (h2 : Tbl w a' n g) (hn1 : 1 ≤ n) (hf : Sq n f) (hg : Sq n g)
    (hl : Row w al m l) (hm : m ≤ 1000000) (hi : i + 1 < m) (hle : Less n l) :
    Calls Tryz.prog 102 #[sAgg a n c a' n c', .slice al m cl, .int .i64 i] w fun e w' => ∃ ao co, e = .returned (.slice ao m co) ∧ Own w' w.heap.size ao m co (doF f g i l) ∧ Below w.heap.size w w' := by
  obtain ⟨bf, of, A, O, C, rfl, Gf⟩ := h1.grid hf hn1
  obtain ⟨bg, og, A', O', C', rfl, Gg⟩ := h2.grid hg hn1
  clear h1 h2
  have hll := hl.len
  obtain ⟨x, hx, ex⟩ := hle i (by omega)
  obtain ⟨y, hy, ey⟩ := hle (i + 1) (by omega)
  have HDO : Hid (doF f g i l = (l.set i ((tv f x y : Nat) : Int)).set (i + 1) ((tv g x y : Nat) : Int)) := Lib.hid (by unfold doF; rw [ex, ey]; simp)
  have HX := Lib.hid ex; have HY := Lib.hid ey
  clear ex ey hll hle
  have hA := Loc.new w rfl #[.slice (some ⟨bf, of, none⟩) n c, .slice (some ⟨bg, og, none⟩) n c'] 42
  have gf := Gf.alloc (.cells #[.slice (some ⟨bf, of, none⟩) n c, .slice (some ⟨bg, og, none⟩) n c'] 42)
  have gg := Gg.alloc (.cells #[.slice (some ⟨bf, of, none⟩) n c, .slice (some ⟨bg, og, none⟩) n c'] 42)
  have hl0 := hl.alloc (.cells #[.slice (some ⟨bf, of, none⟩) n c, .slice (some ⟨bg, og, none⟩) n c'] 42)
  have hB := below_al (Below.refl w.heap.size w) (.cells #[.slice (some ⟨bf, of, none⟩) n c, .slice (some ⟨bg, og, none⟩) n c'] 42)
  clear Gf Gg hl
  have hwi : IntKind.i64.wrap ((i : Int) + 1) = ((i + 1 : Nat) : Int) := (IntWalk.i64_in _ (by omega)).trans (by simp)
  go_enter Tryz.func102, Tryz.ntmps102
  go_wp2_with fail
  refine (clone_any _ _ _ l _ hl0 (by omega)).mono ?_
  rintro e w1 ⟨ao, co, rfl, ho, hb1⟩
  have ho1 : Own w1 (w.heap.size + 1) ao m co l := ho.mono (by simp)
  clear ho
  obtain ⟨go, oo, rfl, _⟩ := ho1.row.at i (by omega)
  obtain ⟨rfl, hc, hfr⟩ := ho1.cells
  have hgo := ho1.lt
  obtain ⟨bl, ol, e1, hbl, hall⟩ := hl0.all (by omega)
  subst e1
  have lA1 := (hA.below hb1 (by simp)).two
  obtain ⟨r1, k1⟩ := (gf.below hb1).look hx hy
  obtain ⟨r2, k2⟩ := (gg.below hb1).look hx hy
  have kx := (hb1.cell (p := ⟨bl, ol + i, none⟩) hbl).trans (hall i (by omega))
  have ky := (hb1.cell (p := ⟨bl, ol + (i + 1), none⟩) hbl).trans (hall (i + 1) (by omega))
  rw [HX.out] at kx; rw [HY.out] at ky
  have hci := hc i (by omega)
  have hfi := hfr i
  have hci1 := hc (i + 1) (by omega)
  have hfi1 := hfr (i + 1)
  have hB1 := below_th hB hb1
  generalize hF : tv f x y = F at *
  generalize hG : tv g x y = G at *
  have HF := Lib.hid hF; have HG := Lib.hid hG; clear hF hG
  clear hc hfr hall hb1 hB gf gg hA hl0
  go_wp2
  go_quiet (fail)
  go_wp2
  go_region
  all_goals
    go_wp2
    go_ret
    refine ⟨_, _, rfl, ?_, ?_⟩
    · rw [HDO.out]
      exact (((ho1.set i _).set (i + 1) _).drewN _).mono (by omega)
    · exact below_drewN (below_setne (below_setne (a := ⟨go, i, none⟩) hB1 (by have := hgo.1; show w.heap.size ≤ go; omega) _) (a := ⟨go, i + 1, none⟩) (by have := hgo.1; show w.heap.size ≤ go; omega) _) _

end Go.Proofs.YtdkpalllfekiiaaGreat

namespace Go.Proofs.YtdkpalllfekiiaaGreat
set_option maxRecDepth 100000
set_option linter.unusedVariables false
set_option linter.unusedSimpArgs false
open Go.RowKit

abbrev aAgg (a : Option Addr) (n c : Nat) (a' : Option Addr) (c' : Nat) (b : Option Addr) (d : Nat) (b' : Option Addr) (d' : Nat) : Value := .agg #[.slice a n c, .slice a' n c', .slice b n d, .slice b' n d']

theorem Loc.four {w : World} {b : Nat} {x y z u : Value} {t : TypeId} (h : Loc w b #[x, y, z, u] t) : w.cell? ⟨b, 0, none⟩ = some x ∧ w.cell? ⟨b, 1, none⟩ = some y ∧ w.cell? ⟨b, 2, none⟩ = some z ∧ w.cell? ⟨b, 3, none⟩ = some u ∧ w.frozen? ⟨b, 0, none⟩ = false ∧ w.frozen? ⟨b, 1, none⟩ = false ∧ w.frozen? ⟨b, 2, none⟩ = false ∧ w.frozen? ⟨b, 3, none⟩ = false :=
  ⟨h.cell 0 rfl, h.cell 1 rfl, h.cell 2 rfl, h.cell 3 rfl, h.free 0, h.free 1, h.free 2, h.free 3⟩

set_option maxHeartbeats 2000000 in
theorem newAction_any (a : Option Addr) (n c : Nat) (a' : Option Addr) (c' : Nat) (f g : List (List Int)) (w : World) (h1 : Tbl w a n f) (h2 : Tbl w a' n g) (hs : isSol f g = true) (hm : n ≤ 12) :
    Calls Tryz.prog 46 #[sAgg a n c a' n c'] w fun e w' => ∃ b d vs b' d' vs', e = .returned (aAgg a n c a' c' b d b' d') ∧ OwnS w' w.heap.size b n d vs (bfT n f g) b' n d' vs' (bgT n f g) ∧ Below w.heap.size w w' := by
  have hA := (Loc.new w rfl #[.slice a n c, .slice a' n c'] 42).alloc (.cells #[.slice none 0 0, .slice none 0 0, .slice none 0 0, .slice none 0 0] 74)
  have hR := Loc.new (w.alloc (.cells #[.slice a n c, .slice a' n c'] 42)) rfl #[.slice none 0 0, .slice none 0 0, .slice none 0 0, .slice none 0 0] 74
  rw [size_alloc] at hR
  have hB := below_al (below_al (Below.refl w.heap.size w) (.cells #[.slice a n c, .slice a' n c'] 42)) (.cells #[.slice none 0 0, .slice none 0 0, .slice none 0 0, .slice none 0 0] 74)
  have HS := Lib.hid hs; clear hs
  go_enter Tryz.func46, Tryz.ntmps46
  go_wp2_with fail
  generalize (w.alloc (.cells #[.slice a n c, .slice a' n c'] 42)).alloc (.cells #[.slice none 0 0, .slice none 0 0, .slice none 0 0, .slice none 0 0] 74) = w0 at *
  refine (inverseSolution_any _ _ _ _ _ f g _ (h1.below hB) (h2.below hB) HS.out hm).mono ?_
  rintro e w1 ⟨b, d, vs, b', d', vs', rfl, ho, hb1⟩
  have lA := (hA.below hb1 hA.lt).two
  have hR1 := hR.below hb1 hR.lt
  have lR := hR1.four
  have lR2 := (hR1.alloc (.cells #[.slice b n d, .slice b' n d'] 42)).four
  have lA2 := ((hA.below hb1 hA.lt).alloc (.cells #[.slice b n d, .slice b' n d'] 42)).two
  have hs1 := hb1.size
  have hs2 := hR.lt
  go_wp2
  have n1 : ∀ q, TblS b n vs q → q ≠ w.heap.size + 1 := fun q hq => by have := ho.f.uLo q hq; omega
  have n2 : ∀ q, TblS b' n vs' q → q ≠ w.heap.size + 1 := fun q hq => by have := ho.s.uLo q hq; omega
  have hs0 := hB.size
  refine bodyPost_ret (v := aAgg a n c a' c' b d b' d') (by simp [results, Tryz.results46, go_sem, lR, lR2]) rfl ⟨b, d, vs, b', d', vs', rfl, ?_, ?_⟩
  · exact ⟨(((((ho.f.alloc _).uSet n1 _).uSet n1 _).uSet n1 _).uSet n1 _).mono hs0, (((((ho.s.alloc _).uSet n2 _).uSet n2 _).uSet n2 _).uSet n2 _).mono hs0, ho.ap⟩
  · exact below_setne (below_setne (below_setne (below_setne (below_al (below_th hB hb1) _) (by show w.heap.size ≤ w.heap.size + 1; omega) _) (by show w.heap.size ≤ w.heap.size + 1; omega) _) (by show w.heap.size ≤ w.heap.size + 1; omega) _) (by show w.heap.size ≤ w.heap.size + 1; omega) _

set_option maxHeartbeats 2000000 in
theorem step_any (a : Option Addr) (n c : Nat) (a' : Option Addr) (c' : Nat) (b : Option Addr) (d : Nat) (b' : Option Addr) (d' : Nat) (f g : List (List Int)) (al : Option Addr) (m cl : Nat) (l : List Int) (x : Int) (w : World)
    (h1 : Tbl w a n f) (h2 : Tbl w a' n g) (h3 : Tbl w b n (bfT n f g)) (h4 : Tbl w b' n (bgT n f g)) (hn1 : 1 ≤ n) (hf : Sq n f) (hg : Sq n g) (hc : collOk n f g = true)
    (hl : Row w al m l) (hm : m ≤ 1000000) (hx1 : -1000 ≤ x) (hx2 : x ≤ 1000) (hp0 : 0 ≤ plc x) (hp : plc x + 1 < m) (hle : Less n l) :
    Calls Tryz.prog 84 #[aAgg a n c a' c' b d b' d', .int .i64 x, .slice al m cl] w fun e w' => ∃ ao co, e = .returned (.slice ao m co) ∧ Own w' w.heap.size ao m co (stepL n f g x l) ∧ Below w.heap.size w w' := by
  obtain ⟨k, hk⟩ : ∃ k : Nat, plc x = k := ⟨(plc x).toNat, by omega⟩
  have hkm : k + 1 < m := by omega
  have HK := Lib.hid hk
  have HSF := Lib.hid hf; have HSG := Lib.hid hg; have HC := Lib.hid hc
  have hA := Loc.new w rfl #[.slice a n c, .slice a' n c', .slice b n d, .slice b' n d'] 74
  have lA := hA.four
  have hB := below_al (Below.refl w.heap.size w) (.cells #[.slice a n c, .slice a' n c', .slice b n d, .slice b' n d'] 74)
  by_cases hpos : 0 < x
  · have hst : stepL n f g x l = doF f g k l := by unfold stepL; rw [if_pos hpos, hk]; rfl
    have HST := Lib.hid hst
    clear hst hk hp hp0 hf hg hc
    go_enter Tryz.func84, Tryz.ntmps84
    go_wp2
    go_region_held3 (fun w' => (w'.cell? ⟨w.heap.size, 0, none⟩ = some (.slice a n c) ∧ w'.cell? ⟨w.heap.size, 1, none⟩ = some (.slice a' n c')) ∧ w'.cell? ⟨w.heap.size, 2, none⟩ = some (.slice b n d) ∧ w'.cell? ⟨w.heap.size, 3, none⟩ = some (.slice b' n d'))
      (first | exact ⟨⟨lA2.1, lA2.2.1⟩, lA2.2.2.1, lA2.2.2.2.1⟩ | exact ⟨⟨lA.1, lA.2.1⟩, lA.2.2.1, lA.2.2.2.1⟩)
      (first
        | (go_at_call 58; refine (placeOf_any _ _ hx1 hx2).mono ?_; rintro e w1 ⟨rfl, rfl⟩; rw [HK.out])
        | (go_at_call 102; refine (moved_any _ _ _ _ _ f g _ _ _ l k _ ((h1.alloc _).drewN 1) ((h2.alloc _).drewN 1) hn1 HSF.out HSG.out ((hl.alloc _).drewN 1) hm hkm hle).mono ?_; rintro e w2 ⟨ao, co, rfl, ho, hb2⟩; have hB2 := below_th (below_drewN hB 1) hb2; have lA2 := ((hA.drewN 1).below hb2 (by simp)).four))
    all_goals
      go_wp2
      go_ret
      exact ⟨_, _, rfl, by rw [HST.out]; exact ho.mono (by simp), hB2⟩
  · have hst : stepL n f g x l = doF (bfT n f g) (bgT n f g) k l := by unfold stepL; rw [if_neg hpos, hk]; rfl
    have HST := Lib.hid hst
    have s3 := bf_sq hn1 hf hg hc
    have s4 : Sq n (bgT n f g) := bg_sq hn1
    have HS3 := Lib.hid s3; have HS4 := Lib.hid s4
    clear hst hk hp hp0 hf hg hc s3 s4
    go_enter Tryz.func84, Tryz.ntmps84
    go_wp2
    go_region_held3 (fun w' => (w'.cell? ⟨w.heap.size, 0, none⟩ = some (.slice a n c) ∧ w'.cell? ⟨w.heap.size, 1, none⟩ = some (.slice a' n c')) ∧ w'.cell? ⟨w.heap.size, 2, none⟩ = some (.slice b n d) ∧ w'.cell? ⟨w.heap.size, 3, none⟩ = some (.slice b' n d'))
      (first | exact ⟨⟨lA2.1, lA2.2.1⟩, lA2.2.2.1, lA2.2.2.2.1⟩ | exact ⟨⟨lA.1, lA.2.1⟩, lA.2.2.1, lA.2.2.2.1⟩)
      (first
        | (go_at_call 58; refine (placeOf_any _ _ hx1 hx2).mono ?_; rintro e w1 ⟨rfl, rfl⟩; rw [HK.out])
        | (go_at_call 102; refine (moved_any _ _ _ _ _ (bfT n f g) (bgT n f g) _ _ _ l k _ ((h3.alloc _).drewN 1) ((h4.alloc _).drewN 1) hn1 HS3.out HS4.out ((hl.alloc _).drewN 1) hm hkm hle).mono ?_; rintro e w2 ⟨ao, co, rfl, ho, hb2⟩; have hB2 := below_th (below_drewN hB 1) hb2; have lA2 := ((hA.drewN 1).below hb2 (by simp)).four))
    all_goals
      go_wp2
      go_ret
      exact ⟨_, _, rfl, by rw [HST.out]; exact ho.mono (by simp), hB2⟩

set_option maxHeartbeats 2000000 in
theorem lead_any (a : Option Addr) (n c : Nat) (a' : Option Addr) (c' : Nat) (b : Option Addr) (d : Nat) (b' : Option Addr) (d' : Nat) (f g : List (List Int)) (s : Nat) (ab : Option Addr) (nb cb : Nat) (xs : List Int) (al : Option Addr) (cl : Nat) (l : List Int) (w : World)
    (h1 : Tbl w a n f) (h2 : Tbl w a' n g) (h3 : Tbl w b n (bfT n f g)) (h4 : Tbl w b' n (bgT n f g)) (hn1 : 1 ≤ n) (hf : Sq n f) (hg : Sq n g) (hc : collOk n f g = true)
    (hr : Row w ab nb xs) (hb : isBr s xs = true) (hl : Row w al s l) (hle : Less n l) :
    Calls Tryz.prog 47 #[aAgg a n c a' c' b d b' d', bAgg s ab nb cb, .slice al s cl] w fun e w' => ∃ ao co, e = .returned (.slice ao s co) ∧ Own w' w.heap.size ao s co (actL n f g xs l) ∧ Below w.heap.size w w' := by
  obtain ⟨h26, h30, hlet⟩ := isBr_let hb
  have hll := hl.len
  have hrl := hr.len
  have hpl : ∀ x ∈ xs, 0 ≤ plc x ∧ plc x + 1 < s := fun x hx => by
    have := hlet x hx
    unfold plc; split <;> omega
  have hlt2 : ∀ k, Less n (actL n f g (xs.take k) l) := fun k => hle.act hn1 hf hg hc _ (fun x hx => by have := hpl x (List.mem_of_mem_take hx); omega)
  have hn30 : nb ≤ 30 := by omega
  have HLet := Lib.hid hlet; have HP := Lib.hid hpl; have HLT := Lib.hid hlt2; have HRL := Lib.hid hrl
  have HSF := Lib.hid hf; have HSG := Lib.hid hg; have HC := Lib.hid hc
  clear hlet hpl hlt2 hb hf hg hc hrl hll
  have hA := (Loc.new w rfl #[.slice a n c, .slice a' n c', .slice b n d, .slice b' n d'] 74).alloc (.cells #[.int .i64 s, .slice ab nb cb] 26)
  have hE := Loc.new (w.alloc (.cells #[.slice a n c, .slice a' n c', .slice b n d, .slice b' n d'] 74)) rfl #[.int .i64 s, .slice ab nb cb] 26
  rw [size_alloc] at hE
  have hB := below_al (below_al (Below.refl w.heap.size w) (.cells #[.slice a n c, .slice a' n c', .slice b n d, .slice b' n d'] 74)) (.cells #[.int .i64 s, .slice ab nb cb] 26)
  have hl0 := (hl.alloc (.cells #[.slice a n c, .slice a' n c', .slice b n d, .slice b' n d'] 74)).alloc (.cells #[.int .i64 s, .slice ab nb cb] 26)
  go_enter Tryz.func47, Tryz.ntmps47
  go_wp2_with fail
  generalize (w.alloc (.cells #[.slice a n c, .slice a' n c', .slice b n d, .slice b' n d'] 74)).alloc (.cells #[.int .i64 s, .slice ab nb cb] 26) = w0 at *
  refine (clone_any _ _ _ l _ hl0 (by omega)).mono ?_
  rintro e w1 ⟨ao, co, rfl, ho, hb1⟩
  have hA1 := hA.below hb1 hA.lt
  have hE1 := hE.below hb1 hE.lt
  have hB1 := below_th hB hb1
  have ho1 := ho.mono hB.size
  have lE := hE1.two
  clear hA hE hB hb1 ho hl0 hl
  go_wp2
  go_loopw [2, 14] (fun t i wr => ∃ (k : Nat) (ao : Option Addr) (co : Nat), k ≤ nb ∧ i = .int .i64 k ∧ t = .slice ao s co ∧ Own wr w.heap.size ao s co (actL n f g (xs.take k) l) ∧ Loc wr w.heap.size #[.slice a n c, .slice a' n c', .slice b n d, .slice b' n d'] 74 ∧ Below w.heap.size w wr) (fun _ i _ => nb - (intOf i).toNat)
  case atStart => exact ⟨0, _, _, Nat.zero_le _, rfl, rfl, by simpa [actL] using ho1, hA1, hB1⟩
  case round =>
    clear ho1 hA1 hB1 hE1 lE
    obtain ⟨k, ao, co, hk, rfl, rfl, ho, hA, hB⟩ := hrel
    have lA := hA.four
    by_cases hlt : k < nb
    · have hr := hr.below hB
      obtain ⟨bb, off, rfl, g1⟩ := hr.at k hlt
      have hx : k < xs.length := by have := HRL.out; omega
      rw [getD_eq_at hx] at g1
      have hle2 := HLet.out xs[k] (List.getElem_mem hx)
      have hpl2 := HP.out xs[k] (List.getElem_mem hx)
      have HS : Hid (actL n f g (xs.take (k + 1)) l = stepL n f g xs[k] (actL n f g (xs.take k) l)) := Lib.hid (actL_take n f g xs l k hx)
      have b1 : -1000 ≤ xs[k] := by omega
      have b2 : xs[k] ≤ 1000 := by omega
      obtain ⟨p0, p1⟩ := hpl2
      clear hle2
      have T1 := h1.below hB; have T2 := h2.below hB; have T3 := h3.below hB; have T4 := h4.below hB
      go_wp2_with fail
      refine (step_any _ _ _ _ _ _ _ _ _ f g _ _ _ _ _ _ T1 T2 T3 T4 hn1 HSF.out HSG.out HC.out ho.row (by omega) b1 b2 p0 p1 (HLT.out k)).mono ?_
      rintro e w2 ⟨ao2, co2, rfl, ho2, hb2⟩
      have hA2 := hA.below hb2 hA.lt
      have hB2 := below_th hB hb2
      go_wp2
      go_roundw
      case rel => exact ⟨k + 1, _, _, by omega, by go_num, rfl, by rw [HS.out]; exact ho2.mono hB.size, hA2, hB2⟩
      case measure => simp [intOf]; omega
    · obtain rfl : k = nb := by omega
      rw [List.take_of_length_le (by have := HRL.out; omega)] at ho
      go_wp2
      go_ret
      exact ⟨_, _, rfl, ho, hB⟩

end Go.Proofs.YtdkpalllfekiiaaGreat

namespace Go.Proofs.YtdkpalllfekiiaaGreat
set_option maxRecDepth 100000
set_option linter.unusedVariables false
set_option linter.unusedSimpArgs false
open Go.RowKit

theorem less_all {n : Nat} {l : List Int} (h : l.all (rngB 0 ((n : Int) - 1)) = true) : Less n l := by
  intro i hi
  have := List.all_eq_true.1 h l[i] (List.getElem_mem hi)
  unfold rngB at this
  simp at this
  refine ⟨(l.getD i 0).toNat, ?_, ?_⟩ <;> rw [getD_eq_at hi] <;> omega
theorem areElements_any (n : Nat) (a : Option Addr) (m c : Nat) (l : List Int) (w : World) (h1 : Row w a m l) (hm : m ≤ 9223372036854775807) (hn : n ≤ 1000000) :
    Calls Tryz.prog 81 #[.int .i64 n, .slice a m c] w fun e w' => e = .returned (.bool (l.all (rngB 0 ((n : Int) - 1)))) ∧ w = w' := by
  have HA := Lib.hid (allWithin_any a m c l 0 ((n : Int) - 1) w h1 hm)
  go_enter Tryz.func81, Tryz.ntmps81
  go_wp2_with fail
  refine HA.out.mono ?_
  rintro e w' ⟨rfl, rfl⟩
  go_wp2
  go_ret
  exact ⟨rfl, rfl⟩

end Go.Proofs.YtdkpalllfekiiaaGreat

namespace Go.Proofs.YtdkpalllfekiiaaGreat
set_option maxRecDepth 100000
set_option linter.unusedVariables false
set_option linter.unusedSimpArgs false
open Go.RowKit

/-- the code of a pair map, a braid and a tuple -/
def ckF (f g : List (List Int)) (s : Int) (xs l : List Int) : Int := if isSol f g then (if isBr s xs then (if (l.length : Int) = s then (if l.all (rngB 0 ((f.length : Int) - 1)) then 0 else 2) else 2) else 1) else 1
theorem ckF_zero {f g : List (List Int)} {s : Int} {xs l : List Int} (h : ckF f g s xs l = 0) : isSol f g = true ∧ isBr s xs = true ∧ (l.length : Int) = s ∧ Less f.length l := by
  unfold ckF at h
  by_cases h1 : isSol f g = true
  · rw [if_pos h1] at h
    by_cases h2 : isBr s xs = true
    · rw [if_pos h2] at h
      by_cases h3 : (l.length : Int) = s
      · rw [if_pos h3] at h
        by_cases h4 : l.all (rngB 0 ((f.length : Int) - 1)) = true
        · exact ⟨h1, h2, h3, less_all h4⟩
        · rw [if_neg h4] at h; omega
      · rw [if_neg h3] at h; omega
    · rw [if_neg h2] at h; omega
  · rw [if_neg h1] at h; omega

set_option maxHeartbeats 2000000 in
theorem checkAction_any (a : Option Addr) (n c : Nat) (a' : Option Addr) (n' c' : Nat) (f g : List (List Int)) (s : Int) (ab : Option Addr) (nb cb : Nat) (xs : List Int) (al : Option Addr) (m cl : Nat) (l : List Int) (w : World)
    (h1 : Tbl w a n f) (h2 : Tbl w a' n' g) (hm1 : n ≤ 9223372036854775807) (hm2 : n' ≤ 9223372036854775807) (hs : I64 s) (hr : Row w ab nb xs) (hnb : nb ≤ 9223372036854775807) (hl : Row w al m l) (hm : m ≤ 9223372036854775807) :
    Calls Tryz.prog 45 #[sAgg a n c a' n' c', bAgg s ab nb cb, .slice al m cl] w fun e w' => e = .returned (.int .i64 (ckF f g s xs l)) ∧ Below w.heap.size w w' := by
  have hA := (Loc.new w rfl #[.slice a n c, .slice a' n' c'] 42).alloc (.cells #[.int .i64 s, .slice ab nb cb] 26)
  have hE := Loc.new (w.alloc (.cells #[.slice a n c, .slice a' n' c'] 42)) rfl #[.int .i64 s, .slice ab nb cb] 26
  rw [size_alloc] at hE
  have hB := below_al (below_al (Below.refl w.heap.size w) (.cells #[.slice a n c, .slice a' n' c'] 42)) (.cells #[.int .i64 s, .slice ab nb cb] 26)
  cases q1 : isSol f g with
  | false =>
    have HQ : Hid (ckF f g s xs l = 1) := Lib.hid (by unfold ckF; rw [q1]; rfl)
    have H1 := Lib.hid q1; clear q1
    go_enter Tryz.func45, Tryz.ntmps45
    go_wp2_with fail
    generalize (w.alloc (.cells #[.slice a n c, .slice a' n' c'] 42)).alloc (.cells #[.int .i64 s, .slice ab nb cb] 26) = w0 at *
    refine (isSolution_any _ _ _ _ _ _ _ _ _ (h1.below hB) (h2.below hB) hm1 hm2).mono ?_
    rintro e w1 ⟨rfl, hb1⟩
    rw [H1.out]
    go_wp2
    go_ret
    exact ⟨ret_int HQ.out.symm, below_th hB hb1⟩
  | true =>
    have H1 := Lib.hid q1
    obtain ⟨hn1, hn12, _, _⟩ := isSol_sq q1
    have hfl := h1.len
    rw [← hfl] at hn1 hn12
    cases q2 : isBr s xs with
    | false =>
      have HQ : Hid (ckF f g s xs l = 1) := Lib.hid (by unfold ckF; rw [q1, q2]; rfl)
      have H2 := Lib.hid q2; clear q1 q2 hfl
      go_enter Tryz.func45, Tryz.ntmps45
      go_wp2_with fail
      generalize (w.alloc (.cells #[.slice a n c, .slice a' n' c'] 42)).alloc (.cells #[.int .i64 s, .slice ab nb cb] 26) = w0 at *
      refine (isSolution_any _ _ _ _ _ _ _ _ _ (h1.below hB) (h2.below hB) hm1 hm2).mono ?_
      rintro e w1 ⟨rfl, hb1⟩
      rw [H1.out]
      have lE := (hE.below hb1 hE.lt).two
      go_wp2_with fail
      refine (isBraid_any _ _ _ _ xs _ (hr.below (below_th hB hb1)) hnb).mono ?_
      rintro e w2 ⟨rfl, hb2⟩
      rw [H2.out]
      go_wp2
      go_ret
      exact ⟨ret_int HQ.out.symm, below_th (below_th hB hb1) hb2⟩
    | true =>
      have H2 := Lib.hid q2
      have hs26 := (isBr_let q2).1
      obtain ⟨S, rfl⟩ : ∃ S : Nat, s = S := ⟨s.toNat, by omega⟩
      have hml := hl.len
      by_cases q3 : m = S
      · subst q3
        have b3 : ((m : Int) != (m : Int)) = false := by simp
        have HQ : Hid (ckF f g m xs l = if l.all (rngB 0 ((n : Int) - 1)) then 0 else 2) := Lib.hid (by unfold ckF; rw [q1, q2, ← hfl, ← hml]; simp)
        clear q1 q2 hfl hml
        cases q4 : l.all (rngB 0 ((n : Int) - 1))
        all_goals
          have H4 := Lib.hid q4
          rw [q4] at HQ
          clear q4
          go_enter Tryz.func45, Tryz.ntmps45
          go_wp2_with fail
          generalize (w.alloc (.cells #[.slice a n c, .slice a' n' c'] 42)).alloc (.cells #[.int .i64 m, .slice ab nb cb] 26) = w0 at *
          refine (isSolution_any _ _ _ _ _ _ _ _ _ (h1.below hB) (h2.below hB) hm1 hm2).mono ?_
          rintro e w1 ⟨rfl, hb1⟩
          rw [H1.out]
          have hE1 := hE.below hb1 hE.lt
          have hA1 := hA.below hb1 hA.lt
          have lE := hE1.two
          have hB1 := below_th hB hb1
          clear hE hA hB hb1
          go_wp2_with fail
          refine (isBraid_any _ _ _ _ xs _ (hr.below hB1) hnb).mono ?_
          rintro e w2 ⟨rfl, hb2⟩
          rw [H2.out]
          have lE2 := (hE1.below hb2 hE1.lt).two
          have lA2 := (hA1.below hb2 hA1.lt).two
          have hB2 := below_th hB1 hb2
          clear lE hE1 hA1 hB1 hb2
          go_wp2_with fail
          refine (areElements_any _ _ _ _ l _ (hl.below hB2) hm (by omega)).mono ?_
          rintro e w3 ⟨rfl, rfl⟩
          rw [H4.out]
          go_wp2
          go_ret
          exact ⟨ret_int HQ.out.symm, hB2⟩
      · have b3 : ((m : Int) != (S : Int)) = true := by simp; omega
        have HQ : Hid (ckF f g S xs l = 2) := Lib.hid (by unfold ckF; rw [q1, q2, ← hml]; simp; omega)
        clear q1 q2 hfl hml q3
        go_enter Tryz.func45, Tryz.ntmps45
        go_wp2_with fail
        generalize (w.alloc (.cells #[.slice a n c, .slice a' n' c'] 42)).alloc (.cells #[.int .i64 S, .slice ab nb cb] 26) = w0 at *
        refine (isSolution_any _ _ _ _ _ _ _ _ _ (h1.below hB) (h2.below hB) hm1 hm2).mono ?_
        rintro e w1 ⟨rfl, hb1⟩
        rw [H1.out]
        have hE1 := hE.below hb1 hE.lt
        have lE := hE1.two
        have hB1 := below_th hB hb1
        go_wp2_with fail
        refine (isBraid_any _ _ _ _ xs _ (hr.below hB1) hnb).mono ?_
        rintro e w2 ⟨rfl, hb2⟩
        rw [H2.out]
        have lE2 := (hE1.below hb2 hE1.lt).two
        go_wp2
        go_ret
        exact ⟨ret_int HQ.out.symm, below_th hB1 hb2⟩

end Go.Proofs.YtdkpalllfekiiaaGreat

namespace Go.Proofs.YtdkpalllfekiiaaGreat
set_option maxRecDepth 100000
set_option linter.unusedVariables false
set_option linter.unusedSimpArgs false
open Go.RowKit

def colF (f g : List (List Int)) (s : Int) (xs l : List Int) : Bool × Int := if ckF f g s xs l = 0 then (decide (actL f.length f g xs l = l), 0) else (false, ckF f g s xs l)

end Go.Proofs.YtdkpalllfekiiaaGreat

namespace Go.Proofs.YtdkpalllfekiiaaGreat
set_option maxRecDepth 100000
set_option linter.unusedVariables false
set_option linter.unusedSimpArgs false
open Go.RowKit

theorem ckF_code {f g : List (List Int)} {s : Int} {xs l : List Int} (h : codeF f g s xs ≠ 0) : codeF f g s xs = 1 ∧ ckF f g s xs l = 1 := by
  unfold codeF at *
  unfold ckF
  by_cases h1 : isSol f g = true
  · rw [if_pos h1] at h ⊢
    by_cases h2 : isBr s xs = true
    · rw [if_pos h2] at h; omega
    · rw [if_neg h2, if_pos h1, if_neg h2]; exact ⟨rfl, rfl⟩
  · rw [if_neg h1, if_neg h1]; exact ⟨rfl, rfl⟩
/-- what BraidAction hands back -/
def bacF (f g : List (List Int)) (s : Int) (xs l : List Int) : List Int × Int := if ckF f g s xs l = 0 then (actL f.length f g xs l, 0) else ([], ckF f g s xs l)

end Go.Proofs.YtdkpalllfekiiaaGreat

namespace Go.Proofs.YtdkpalllfekiiaaGreat
set_option maxRecDepth 100000
set_option linter.unusedVariables false
set_option linter.unusedSimpArgs false
open Go.RowKit

def negL (xs : List Int) : List Int := xs.map fun x => -x
theorem negL_succ {xs : List Int} {k : Nat} (h : k < xs.length) : negL (xs.take (k + 1)) = negL (xs.take k) ++ [-xs[k]] := by
  simp only [negL, List.take_succ_eq_append_getElem h, List.map_append, List.map_cons, List.map_nil]
theorem negL_len (xs : List Int) : (negL xs).length = xs.length := by simp [negL]
theorem neg_step (xs : List Int) (n j : Nat) (hl : n = xs.length) (h : j < n) (hx : j < xs.length) : (negL (xs.take j) ++ List.replicate (n - j) 0).set j (-xs[j]) = negL (xs.take (j + 1)) ++ List.replicate (n - (j + 1)) 0 := by
  have e : (negL (xs.take j)).length = j := by rw [negL_len, List.length_take]; omega
  rw [List.set_append_right _ _ (by omega), e, Nat.sub_self, negL_succ hx, List.append_assoc]
  congr 1
  obtain ⟨m, hm⟩ : ∃ m, n - j = m + 1 := ⟨n - j - 1, by omega⟩
  have hm' : n - (j + 1) = m := by omega
  rw [hm, hm', List.replicate_succ]
  simp

set_option maxHeartbeats 400000 in
theorem opposites_any (a : Option Addr) (n c : Nat) (xs : List Int) (w : World) (h1 : Row w a n xs) (hm : n ≤ 1048576) (hb : ∀ x ∈ xs, -1000 ≤ x ∧ x ≤ 1000) :
    Calls Tryz.prog 48 #[.slice a n c] w fun e w' => ∃ a' c', e = .returned (.slice a' n c') ∧ Own w' w.heap.size a' n c' (negL xs) ∧ Below w.heap.size w w' := by
  have hl := h1.len
  have HL := Lib.hid hl; clear hl
  have HX := Lib.hid hb; clear hb
  go_enter Tryz.func48, Tryz.ntmps48
  go_wp2_with (at_make; refine make1 rfl rfl rfl rfl (by omega) ?_; intro w1 ho hs hb)
  have hw1 := hb.size
  go_loopw [11] (fun i wr => ∃ j : Nat, j ≤ n ∧ i = .int .i64 j ∧ Own wr w.heap.size (some ⟨w.heap.size, 0, none⟩) n n (negL (xs.take j) ++ List.replicate (n - j) 0) ∧ Below w.heap.size w wr) (fun i _ => n - (intOf i).toNat)
  case atStart => exact ⟨0, Nat.zero_le _, rfl, by simpa [negL] using ho, hb⟩
  case round =>
    clear ho hb
    obtain ⟨j, hj, rfl, ho, hb⟩ := hrel
    by_cases hlt : j < n
    · have hr := h1.below hb
      obtain ⟨b, off, rfl, g1⟩ := hr.at j hlt
      obtain ⟨_, hc, hf⟩ := ho.cells
      have hc1 := hc j hlt
      have hf1 := hf j
      have hx : j < xs.length := by have := HL.out; omega
      have hxb := HX.out xs[j] (List.getElem_mem hx)
      clear hc hf hr h1
      go_wp2
      go_roundw
      case rel =>
        refine ⟨j + 1, by omega, by go_num, ?_, hb.setCell (by simp) _⟩
        rw [← neg_step xs n j HL.out hlt hx]
        exact ho.set j _
      case measure => simp [intOf]; omega
    · obtain rfl : j = n := by omega
      go_wp2
      go_ret
      refine ⟨_, _, rfl, ?_, hb⟩
      rw [List.take_of_length_le (by have := HL.out; omega), Nat.sub_self, List.replicate_zero, List.append_nil] at ho
      exact ho

end Go.Proofs.YtdkpalllfekiiaaGreat

namespace Go.Proofs.YtdkpalllfekiiaaGreat
set_option maxRecDepth 100000
set_option linter.unusedVariables false
set_option linter.unusedSimpArgs false
open Go.RowKit

theorem Mirror_len (s : Int) (xs : List Int) : (if isBr s xs then negL xs else []).length ≤ 2000 := by
  split
  · rename_i h
    have := (isBr_let h).2.1
    rw [negL_len]; omega
  · simp

end Go.Proofs.YtdkpalllfekiiaaGreat

namespace Go.Proofs.YtdkpalllfekiiaaGreat
set_option maxRecDepth 100000
set_option linter.unusedVariables false
set_option linter.unusedSimpArgs false
open Go.RowKit

theorem Reverse_len (s : Int) (xs : List Int) : (if isBr s xs then xs.reverse else []).length ≤ 2000 := by
  split
  · rename_i h
    have := (isBr_let h).2.1
    rw [List.length_reverse]; omega
  · simp

end Go.Proofs.YtdkpalllfekiiaaGreat

namespace Go.Proofs.YtdkpalllfekiiaaGreat
set_option maxRecDepth 100000
set_option linter.unusedVariables false
set_option linter.unusedSimpArgs false
open Go.RowKit

set_option maxHeartbeats 400000 in
theorem grow_nil (n : Nat) (w : World) (hm : n ≤ 1000000000000) :
    Calls Tryz.prog 85 #[.slice none 0 0, .int .i64 n] w fun e w' => ∃ a c, e = .returned (.slice a 0 c) ∧ Own w' w.heap.size a 0 c [] ∧ Below w.heap.size w w' := by
  obtain ⟨i0, hi, hz0, hz1, hz2⟩ := info_parts info_int
  by_cases h0 : n = 0
  · subst h0
    go_enter Tryz.func85, Tryz.ntmps85
    go_wp2
    go_ret
    exact ⟨none, 0, rfl, Own.nil _ _, Below.refl _ _⟩
  · have hn0 : 0 < n := by omega
    have hrun : ∀ ty, (Builtin.append_ #[24, 3] ty #[.slice none 0 0, .int .i64 n]).run Tryz.prog w = _ := fun ty => Lib.run_append_nil_zeros (P := Tryz.prog) w 24 3 ty 2 i0 (.int .i64 0) .i64 .i64 und_ints Tryz.underlying3 hi hz0 n hn0 (by omega) (by omega) (by rw [hz2]; omega)
    have HR := Lib.hid hrun; clear hrun
    go_enter Tryz.func85, Tryz.ntmps85
    go_wp2_with (at_builtin; refine Lib.wpList_append_run _ rfl _ _ _ _ rfl _ _ rfl rfl _ _ (HR.out _) ?_)
    go_ret
    have hge := grownCap_ge w n 0 2
    have hle := grownCap_le_maxLen w n 0 2 (by unfold maxLen; omega)
    refine ⟨_, _, rfl, Own.mk (cur := Builtin.zeroCells (Value.int .i64 0).cells n ++ Builtin.zeroCells (Value.int .i64 0).cells (grownCap w n 0 2 - n)) rfl (Nat.le_refl _) (Loc.new w.drew rfl _ _) (Nat.zero_le _) hle ?_ (by simp), ((Below.refl _ _).drew).alloc (by simp) _⟩
    rw [Array.size_append, size_zeroCells, size_zeroCells]
    show n * 1 + (grownCap w n 0 2 - n) * 1 = _
    omega

def flatN (xss : List (List Int)) (k : Nat) : List Int := (xss.take k).flatten
theorem flatN_succ {xss : List (List Int)} {k : Nat} (h : k < xss.length) : flatN xss (k + 1) = flatN xss k ++ xss[k] := by
  simp only [flatN, List.take_succ_eq_append_getElem h, List.flatten_append, List.flatten_cons, List.flatten_nil, List.append_nil]
theorem flatN_all (xss : List (List Int)) (k : Nat) (h : xss.length ≤ k) : flatN xss k = xss.flatten := by simp [flatN, List.take_of_length_le h]
theorem flatN_le {xss : List (List Int)} {k : Nat} : (flatN xss k).length ≤ xss.flatten.length := by
  have : xss.flatten = flatN xss k ++ (xss.drop k).flatten := by simp [flatN, ← List.flatten_append]
  rw [this, List.length_append]; omega

set_option maxHeartbeats 1000000 in
theorem concat_any (a : Option Addr) (n c : Nat) (xss : List (List Int)) (w : World) (h1 : Tbl w a n xss) (hm : n ≤ 9223372036854775807) (hfl : xss.flatten.length ≤ 1000000000) :
    Calls Tryz.prog 50 #[.slice a n c] w fun e w' => ∃ a' n' c', e = .returned (.slice a' n' c') ∧ Own w' w.heap.size a' n' c' xss.flatten ∧ Below w.heap.size w w' := by
  have hl := h1.len
  have HL := Lib.hid hl; clear hl
  go_enter Tryz.func50, Tryz.ntmps50
  go_wp2
  go_loop [3, 11] (fun z i => ∃ k : Nat, k ≤ n ∧ i = .int .i64 k ∧ z = .int .i64 ((flatN xss k).length : Nat)) (fun _ i => n - (intOf i).toNat)
  case atStart => exact ⟨0, Nat.zero_le _, rfl, by simp [flatN]⟩
  case round =>
    obtain ⟨k, hk, rfl, rfl⟩ := hrel
    by_cases hlt : k < n
    · obtain ⟨b, off, ai, ni, ci, rfl, g1, hr, hni⟩ := h1.at k hlt
      have hx : k < xss.length := by have := HL.out; omega
      have hs := congrArg List.length (flatN_succ hx)
      rw [List.length_append, ← Tbl.getD hx, ← hr.len] at hs
      have hle := flatN_le (xss := xss) (k := k + 1)
      have hle2 := flatN_le (xss := xss) (k := k)
      obtain ⟨z, hz⟩ : ∃ z, z = (flatN xss k).length := ⟨_, rfl⟩
      obtain ⟨z', hz'⟩ : ∃ z, z = (flatN xss (k + 1)).length := ⟨_, rfl⟩
      rw [← hz] at hs hle2 ⊢
      rw [← hz'] at hs hle
      have HZ := Lib.hid hz'
      have HS := Lib.hid hs
      have hb1 : z + ni ≤ 1000000000 := by omega
      clear hz hz' hs
      clear h1
      go_wp2
      go_round
      case rel =>
        refine ⟨k + 1, by omega, by go_num, ?_⟩
        rw [← HZ.out, HS.out]; go_num
      case measure => simp [intOf]; omega
    · obtain rfl : k = n := by omega
      have e : flatN xss k = xss.flatten := flatN_all _ _ (by have := HL.out; omega)
      rw [e]; clear e
      obtain ⟨z, hz⟩ : ∃ z, z = xss.flatten.length := ⟨_, rfl⟩
      rw [← hz] at hfl ⊢
      have HZ := Lib.hid hz; clear hz
      go_wp2_with fail
      refine (grow_nil z _ (by omega)).mono ?_
      rintro e w1 ⟨ag, cg, rfl, ho, hb1⟩
      have hw1 := hb1.size
      go_wp2_with fail
      go_loopw [6, 27] (fun v i wr => ∃ (k' : Nat) (a' : Option Addr) (n' c' : Nat), k' ≤ k ∧ i = .int .i64 k' ∧ v = .slice a' n' c' ∧ Own wr w.heap.size a' n' c' (flatN xss k') ∧ Below w.heap.size w wr) (fun _ i _ => k - (intOf i).toNat)
      case atStart => exact ⟨0, ag, 0, cg, Nat.zero_le _, rfl, rfl, by simpa [flatN] using ho, hb1⟩
      case round =>
        clear ho hb1
        obtain ⟨j, a', n', c', hj, rfl, rfl, ho, hb⟩ := hrel
        have hr := h1.below hb
        by_cases hlt : j < k
        · obtain ⟨b, off, ai, ni, ci, rfl, g1, hri, hni⟩ := hr.at j hlt
          have hx : j < xss.length := by have := HL.out; omega
          have hs := flatN_succ hx
          rw [← Tbl.getD hx] at hs
          have hle := flatN_le (xss := xss) (k := j + 1)
          rw [hs, List.length_append, ← hri.len, ← ho.len] at hle
          have hle2 : n' + ni ≤ 1000000000000 := by have := HZ.out; omega
          have HS := Lib.hid hs
          have hwr := hb.size
          clear hs hle
          go_wp2_with (at_builtin; refine appL rfl rfl ho rfl hri rfl hle2 hwr ?_; intro a2 c2 w2 hO hg hb2)
          go_roundw
          case rel =>
            refine ⟨j + 1, _, _, _, by omega, by go_num, rfl, ?_, hb.trans hb2⟩
            rw [HS.out]; exact hO
          case measure => simp [intOf]; omega
        · obtain rfl : j = k := by omega
          go_wp2
          go_ret
          rw [flatN_all _ _ (by have := HL.out; omega)] at ho
          exact ⟨_, _, _, rfl, ho, hb⟩

end Go.Proofs.YtdkpalllfekiiaaGreat

namespace Go.Proofs.YtdkpalllfekiiaaGreat
set_option linter.unusedVariables false
set_option linter.unusedSimpArgs false
set_option maxRecDepth 100000
open Go.RowKit

theorem grown_trans {a b c : World} {r : Option Nat} (h : a.grownBy b r) (k : b.grownBy c r) : a.grownBy c r :=
  ⟨k.os.trans h.os, k.tape.trans h.tape, k.output.trans h.output, Nat.le_trans h.size k.size, fun i hi hn => (k.block i (Nat.lt_of_lt_of_le hi h.size) hn).trans (h.block i hi hn)⟩
theorem grown_refl (w : World) (r : Option Nat) : w.grownBy w r := ⟨rfl, rfl, rfl, Nat.le_refl _, fun _ _ _ => rfl⟩
theorem grown_of_below {w w' : World} (h : Below w.heap.size w w') (r : Option Nat) : w.grownBy w' r := ⟨h.os, h.tape, h.output, h.size, fun k hk _ => h.block k hk⟩
theorem grown_drewN {a w : World} {r : Option Nat} (h : a.grownBy w r) (n : Nat) : a.grownBy (w.drewN n) r := ⟨h.os, h.tape, h.output, h.size, h.block⟩
theorem grown_drew {a w : World} {r : Option Nat} (h : a.grownBy w r) : a.grownBy w.drew r := ⟨h.os, h.tape, h.output, h.size, h.block⟩
theorem grown_set {a w : World} {b : Nat} (h : a.grownBy w (some b)) {p : Addr} (hp : p.block = b ∨ a.heap.size ≤ p.block) (u : Value) : a.grownBy (w.setCell p u) (some b) :=
  ⟨h.os, h.tape, h.output, by rw [size_set]; exact h.size, fun k hk hn => (Below.heap_setCell _ _ _ k (fun e => by rcases hp with hp | hp; exact hn (by rw [e, hp]); omega)).trans (h.block k hk hn)⟩
theorem grown_alloc {a w : World} {r : Option Nat} (h : a.grownBy w r) (o : Obj) : a.grownBy (w.alloc o) r := grown_trans h (World.grownBy_alloc w o r)

/-- the source in block b -/
def Src (w : World) (b : Nat) : Prop := ∃ (a : Option Addr) (n c : Nat) (xs : List Int) (i : Nat) (h : Int), n ≤ 9223372036854775807 ∧ i ≤ n ∧ 0 ≤ h ∧ h < 18446744073709551616 ∧ Bts w a n xs ∧ (0 < n → ∀ g o, a = some ⟨g, o, none⟩ → g < b) ∧
  Loc w b #[.slice a n c, .int .i64 i, .int .u64 h] 81
theorem Src.lt {w : World} {b : Nat} (h : Src w b) : b < w.heap.size := by obtain ⟨a, n, c, xs, i, h, _, _, _, _, _, _, hL⟩ := h; exact hL.lt
theorem Src.below {w w' : World} {b : Nat} (h : Src w b) (hb : Below w.heap.size w w') : Src w' b := by
  obtain ⟨a, n, c, xs, i, h, h1, h2, h3, h4, hB, hg, hL⟩ := h
  exact ⟨a, n, c, xs, i, h, h1, h2, h3, h4, hB.below hb, hg, hL.below hb hL.lt⟩

theorem wrapsU (n : Int) (h₀ : 0 ≤ n) (h₁ : n < 2 ^ 63) : IntKind.u64.wrap n = n := by rw [IntKind.wrap_u64]; omega
theorem u64_rng (z : Int) : 0 ≤ IntKind.u64.wrap z ∧ IntKind.u64.wrap z < 18446744073709551616 := by rw [IntKind.wrap_u64]; omega
/-- the number behind a source's hash -/
theorem mask24 (g : Int) (h1 : 0 ≤ g) (h2 : g < 18446744073709551616) : 0 ≤ wrap64 (bits BinOp.and IntKind.u64 (g / 8589934592) 16777215) ∧ wrap64 (bits BinOp.and IntKind.u64 (g / 8589934592) 16777215) ≤ 16777215 := by
  have h := bits_mask .u64 63 (by decide) wrapsU 24 (by decide) (g / 8589934592) (by omega) (by omega)
  have e : ((2 : Int) ^ 24 - 1) = 16777215 := by decide
  have e2 : ((2 : Int) ^ 24) = 16777216 := by decide
  rw [e, e2] at h
  rw [h, IntWalk.wrap64_in _ ⟨by omega, by omega⟩]
  omega
set_option maxHeartbeats 2000000 in
theorem l01Next_ok (b : Nat) (n : Int) (w : World) (h : Src w b) (hn : I64 n) :
    Calls Tryz.prog 27 #[.pointer (some ⟨b, 0, none⟩), .int .i64 n] w fun e w' => ∃ x, e = .returned (.int .i64 x) ∧ (n < 1 → x = 0) ∧ (1 ≤ n → 0 ≤ x ∧ x < n) ∧ Src w' b ∧ w.grownBy w' (some b) := by
  obtain ⟨a, m, c, xs, i, g, h1, h2, h3, h4, hB, hg, hL⟩ := h
  by_cases hn1 : n < 1
  · go_enter Tryz.func27, Tryz.ntmps27
    go_wp2
    go_ret
    exact ⟨_, rfl, fun _ => rfl, fun h => absurd h (by omega), ⟨a, m, c, xs, i, g, h1, h2, h3, h4, hB, hg, hL⟩, grown_refl _ _⟩
  · have lL := hL.three
    obtain ⟨hn2, hn3⟩ := hn
    have hn4 : 1 ≤ n := by omega
    clear hn1
    go_enter Tryz.func27, Tryz.ntmps27
    go_wp2
    obtain ⟨G, HG⟩ : ∃ G, Hid (IntKind.u64.wrap (IntKind.u64.wrap (g * 6364136223846793005) + 1442695040888963407) = G) := ⟨_, rfl⟩
    have hG := u64_rng (IntKind.u64.wrap (g * 6364136223846793005) + 1442695040888963407)
    rw [HG.out] at hG
    rw [HG.out]
    obtain ⟨hG1, hG2⟩ := hG
    obtain ⟨hX1, hX2⟩ := mask24 G hG1 hG2
    obtain ⟨X, HX⟩ : ∃ X, Hid (wrap64 (bits BinOp.and IntKind.u64 (G / 8589934592) 16777215) = X) := ⟨_, rfl⟩
    rw [HX.out] at hX1 hX2
    rw [HX.out]
    have hL2 := hL.set 2 (.int .u64 G)
    have lL2 := hL2.three
    have hg2 := grown_set (grown_refl w (some b)) (p := ⟨b, 2, none⟩) (.inl rfl) (.int .u64 G)
    have hB2 : Bts (w.setCell ⟨b, 2, none⟩ (.int .u64 G)) a m xs := ⟨hB.1, fun j hj => by
      obtain ⟨q, off, e1, e2, e3⟩ := hB.2.1 j hj
      exact ⟨q, off, e1, by rw [size_set]; exact e2, cell_setne e3 (by have := hg (by omega) q off e1; simp; omega) _⟩, hB.2.2⟩
    generalize w.setCell ⟨b, 2, none⟩ (.int .u64 G) = w2 at *
    by_cases hi : i < m
    · obtain ⟨q, off, rfl, hc⟩ := hB2.at i hi
      have hxr := hB2.2.2 i
      obtain ⟨V, HV⟩ : ∃ V, Hid (xs.getD i 0 = V) := ⟨_, rfl⟩
      rw [HV.out] at hc hxr
      obtain ⟨v1, v2⟩ := hxr
      have s1 : (0 : Int) ≤ (i : Int) := by omega
      have s2 : (i : Int) < (m : Int) := by omega
      go_quiet (fail)
      go_wp2
      have s3 : IntKind.i64.wrap (X + V) = X + V := IntWalk.i64_in _ ⟨by omega, by omega⟩
      have s4 : IntKind.i64.wrap V = V := IntWalk.i64_in _ ⟨by omega, by omega⟩
      go_quiet (fail)
      clear s3 s4
      go_wp2
      go_ret
      rename_i nq0
      have hL3 := (hL2.drewN (nq0 + nq)).set 1 (.int .i64 (i + 1))
      refine ⟨_, rfl, fun h => absurd h (by omega), fun _ => ⟨Int.emod_nonneg _ (by omega), Int.emod_lt_of_pos _ (by omega)⟩, ?_, grown_set (grown_drewN hg2 _) (.inl rfl) _⟩
      refine ⟨some ⟨q, off, none⟩, m, c, xs, i + 1, G, h1, by omega, hG1, hG2, ?_, hg, hL3⟩
      exact ⟨hB2.1, fun j hj => by
        obtain ⟨q', off', e1, e2, e3⟩ := hB2.2.1 j hj
        exact ⟨q', off', e1, by rw [size_set]; exact e2, cell_setne (w := w2.drewN _) e3 (by have := hg (by omega) q' off' e1; simp; omega) _⟩, hB2.2.2⟩
    · go_quiet (fail)
      go_wp2
      go_ret
      refine ⟨_, rfl, fun h => absurd h (by omega), fun _ => ⟨Int.emod_nonneg _ (by omega), Int.emod_lt_of_pos _ (by omega)⟩, ?_, grown_drewN hg2 _⟩
      exact ⟨a, m, c, xs, i, G, h1, h2, hG1, hG2, hB2.below (below_drewN (Below.refl _ _) _), hg, hL2.drewN _⟩

set_option maxHeartbeats 2000000 in
theorem l01From_ok (a : Option Addr) (n c : Nat) (xs : List Int) (w : World) (h : Bts w a n xs) (hn : n ≤ 9223372036854775807) :
    Calls Tryz.prog 24 #[.slice a n c] w fun e w' => ∃ b, e = .returned (.pointer (some ⟨b, 0, none⟩)) ∧ w.heap.size ≤ b ∧ Src w' b ∧ Below w.heap.size w w' := by
  go_enter Tryz.func24, Tryz.ntmps24
  go_wp2
  go_loopw [4] (fun i wr => ∃ (k : Nat) (g : Int), k ≤ 4096 ∧ i = .int .i64 k ∧ 0 ≤ g ∧ g < 18446744073709551616 ∧ Loc wr w.heap.size #[.slice a n c, .int .i64 0, .int .u64 g] 81 ∧ Below w.heap.size w wr) (fun i _ => 4096 - (intOf i).toNat)
  case atStart => exact ⟨0, _, by omega, rfl, by omega, by omega, Loc.new w rfl _ _, below_al (Below.refl _ _) _⟩
  case round =>
    obtain ⟨k, g, hk, rfl, hg1, hg2, hL, hq⟩ := hrel
    by_cases hlt : k < n
    · by_cases hlt2 : k < 4096
      · obtain ⟨q, off, rfl, hc⟩ := (h.below hq).at k hlt
        obtain ⟨V, HV⟩ : ∃ V, Hid (xs.getD k 0 = V) := ⟨_, rfl⟩
        have hxr := h.2.2 k
        rw [HV.out] at hc hxr
        obtain ⟨v1, v2⟩ := hxr
        have s1 : (0 : Int) ≤ (k : Int) := by omega
        have s2 : (k : Int) < (n : Int) := by omega
        have lL := hL.three
        go_wp2
        refine wp_region_still_tail 15 (by kernel_rfl) (by kernel_rfl) ?_
        change wpStill _ _ wr.drew (fun a' => wpList _ _ _ _ a' wr.drew) _ _
        replace hL := hL.drew
        replace lL := hL.three
        replace hc : wr.drew.cell? ⟨q, off + k, none⟩ = some (.int .u8 V) := hc
        replace hq : Below w.heap.size w wr.drew := hq.drew
        generalize wr.drew = w2 at *
        simp only [List.take_succ_cons, List.take_zero, List.drop_succ_cons, List.drop_zero]
        repeat still_step
        refine wpStill_nil ?_
        go_wp2
        go_roundw
        case rel =>
          have hu := u64_rng (IntKind.u64.wrap (IntKind.u64.wrap (g * 1099511628211) + V) + 11)
          exact ⟨k + 1, _, by omega, by go_num, hu.1, hu.2, hL.set 2 _, hq.setCell (Nat.le_refl _) _⟩
        case measure => simp [intOf]; omega
      · have hk2 : k = 4096 := by omega
        subst hk2
        go_wp2
        go_ret
        exact ⟨_, rfl, Nat.le_refl _, ⟨a, n, c, xs, 0, g, hn, by omega, hg1, hg2, h.below hq, fun hn q o e => by obtain ⟨b', o', e1, e2, _⟩ := h.2.1 0 hn; rw [e1] at e; cases e; exact e2, hL⟩, hq⟩
    · go_wp2
      go_ret
      exact ⟨_, rfl, Nat.le_refl _, ⟨a, n, c, xs, 0, g, hn, by omega, hg1, hg2, h.below hq, fun hn q o e => by obtain ⟨b', o', e1, e2, _⟩ := h.2.1 0 hn; rw [e1] at e; cases e; exact e2, hL⟩, hq⟩

theorem Row.grown {w w' : World} {a : Option Addr} {n : Nat} {xs : List Int} {r : Option Nat} (h : Row w a n xs) (hg : w.grownBy w' r) (hne : ∀ g o, 0 < n → a = some ⟨g, o, none⟩ → some g ≠ r) : Row w' a n xs :=
  ⟨h.1, fun i hi => by
    obtain ⟨b, off, h1, h3, h2⟩ := h.2 i hi
    exact ⟨b, off, h1, Nat.lt_of_lt_of_le h3 hg.size, hg.cell (a := ⟨b, off + i, none⟩) h2 (hne b off (by omega) h1)⟩⟩

set_option maxHeartbeats 2000000 in
theorem l01Pick_ok (b : Nat) (a : Option Addr) (n c : Nat) (xs : List Int) (w : World) (h : Src w b) (hr : Row w a n xs) (h1 : 1 ≤ n) (h2 : n ≤ 1000) (hne : ∀ g o, a = some ⟨g, o, none⟩ → g ≠ b) :
    Calls Tryz.prog 52 #[.pointer (some ⟨b, 0, none⟩), .slice a n c] w fun e w' => ∃ x, e = .returned (.int .i64 x) ∧ x ∈ xs ∧ Src w' b ∧ w.grownBy w' (some b) := by
  go_enter Tryz.func52, Tryz.ntmps52
  go_wp2_with fail
  refine (l01Next_ok b (n : Int) w h ⟨by omega, by omega⟩).mono ?_
  rintro e w1 ⟨x, rfl, _, hx, hs1, hg1⟩
  obtain ⟨hx1, hx2⟩ := hx (by omega)
  obtain ⟨k, rfl⟩ : ∃ k : Nat, x = k := ⟨x.toNat, by omega⟩
  have hk : k < n := by omega
  obtain ⟨q, off, rfl, hc⟩ := (hr.grown hg1 (fun g o _ e => by have := hne g o e; simp; omega)).at k hk
  have hm : xs.getD k 0 ∈ xs := by
    have := hr.len
    rw [List.getD_eq_getElem?_getD, List.getElem?_eq_getElem (by omega)]; exact List.getElem_mem _
  obtain ⟨V, HV⟩ : ∃ V, Hid (xs.getD k 0 = V) := ⟨_, rfl⟩
  rw [HV.out] at hc hm
  have hx3 : (k : Int) < (n : Int) := by omega
  go_wp2
  go_ret
  exact ⟨_, rfl, hm, hs1, hg1⟩

/-- a literal slice of numbers -/
theorem row_lit (w : World) (cs : Array Value) (t : TypeId) (xs : List Int) (h : cs.toList = xs.map (Value.int .i64)) : Row (w.alloc (.cells cs t)) (some ⟨w.heap.size, 0, none⟩) xs.length xs := by
  refine ⟨rfl, fun i hi => ⟨w.heap.size, 0, rfl, by simp, (Loc.new w rfl cs t).cell _ ?_⟩⟩
  rw [Nat.zero_add, ← Array.getElem?_toList, h, List.getElem?_map, List.getElem?_eq_getElem hi]
  simp [List.getD_eq_getElem?_getD, List.getElem?_eq_getElem hi]
end Go.Proofs.YtdkpalllfekiiaaGreat

namespace Go.Proofs.YtdkpalllfekiiaaGreat
set_option linter.unusedVariables false
set_option linter.unusedSimpArgs false
set_option maxRecDepth 100000
open Go.RowKit

theorem Src.upd {w w' : World} {b : Nat} (h : Src w b) (hg : w.grownBy w' none) : Src w' b := h.below ⟨hg.os, hg.tape, hg.output, hg.size, fun k hk => hg.block k hk (by simp)⟩
theorem Src.setne {w : World} {b : Nat} (h : Src w b) {p : Addr} (hp : b < p.block) (u : Value) : Src (w.setCell p u) b := by
  obtain ⟨a, n, c, xs, i, g, h1, h2, h3, h4, hB, hg, hL⟩ := h
  refine ⟨a, n, c, xs, i, g, h1, h2, h3, h4, ⟨hB.1, fun j hj => ?_, hB.2.2⟩, hg, hL.setne (by omega) u⟩
  obtain ⟨q, off, e1, e2, e3⟩ := hB.2.1 j hj
  exact ⟨q, off, e1, by rw [size_set]; exact e2, cell_setne e3 (by have := hg (by omega) q off e1; simp; omega) _⟩
theorem Src.keepB {w w' : World} {b B : Nat} (h : Src w b) (hb : Below B w w') (hlt : b < B) : Src w' b := by
  obtain ⟨a, n, c, xs, i, g, h1, h2, h3, h4, hB, hg, hL⟩ := h
  refine ⟨a, n, c, xs, i, g, h1, h2, h3, h4, ⟨hB.1, fun j hj => ?_, hB.2.2⟩, hg, hL.below hb hlt⟩
  obtain ⟨q, off, e1, e2, e3⟩ := hB.2.1 j hj
  exact ⟨q, off, e1, Nat.lt_of_lt_of_le e2 hb.size, (hb.cell (p := ⟨q, off + j, none⟩) (by have := hg (by omega) q off e1; show q < B; omega)).trans e3⟩
theorem grown_below {a w w' : World} {r : Option Nat} {B : Nat} (h : a.grownBy w r) (hb : Below B w w') (hB : a.heap.size ≤ B) : a.grownBy w' r :=
  ⟨hb.os.trans h.os, hb.tape.trans h.tape, hb.output.trans h.output, Nat.le_trans h.size hb.size, fun k hk hn => (hb.block k (by omega)).trans (h.block k hk hn)⟩
/-- small letters -/
def Sml (xs : List Int) : Prop := ∀ x ∈ xs, -100 ≤ x ∧ x ≤ 100
theorem Sml.snoc {xs : List Int} (h : Sml xs) {x : Int} (h1 : -100 ≤ x) (h2 : x ≤ 100) : Sml (xs ++ [x]) := fun y hy => by
  rcases List.mem_append.1 hy with hy | hy
  · exact h y hy
  · simp at hy; subst hy; exact ⟨h1, h2⟩
/-- what a function that draws a braid leaves -/
def DrB (b : Nat) (w : World) (lo hi : Int) (m : Nat) (e : Ending) (w' : World) : Prop :=
  ∃ (S : Int) (a : Option Addr) (n c : Nat) (xs : List Int), e = .returned (bAgg S a n c) ∧ lo ≤ S ∧ S ≤ hi ∧ n ≤ m ∧ Sml xs ∧ Own w' w.heap.size a n c xs ∧ Src w' b ∧ w.grownBy w' (some b)
set_option maxHeartbeats 8000000 in
theorem l16Draw_ok (b : Nat) (s m : Nat) (w : World) (h : Src w b) (h1 : 2 ≤ s) (h2 : s ≤ 10) (hm : m ≤ 20) :
    Calls Tryz.prog 51 #[.pointer (some ⟨b, 0, none⟩), .int .i64 s, .int .i64 m] w (DrB b w 2 s m) := by
  have hlt := h.lt
  go_enter Tryz.func51, Tryz.ntmps51
  have hR := Loc.new w rfl #[.int .i64 0, .slice none 0 0] 26
  go_wp2_with fail
  refine (l01Next_ok b ((s : Int) - 1) _ (h.below (below_al (Below.refl _ _) _)) ⟨by omega, by omega⟩).mono ?_
  rintro e w1 ⟨x, rfl, _, hx, hs1, hg1⟩
  obtain ⟨hx1, hx2⟩ := hx (by omega)
  obtain ⟨k, rfl⟩ : ∃ k : Nat, x = k := ⟨x.toNat, by omega⟩
  have hG1 := grown_trans (World.grownBy_alloc w (.cells #[.int .i64 0, .slice none 0 0] 26) (some b)) hg1
  have hR1 := hR.grown hg1 (by simp; omega)
  have hRl := hR1.lt
  clear hx hR
  go_wp2_with fail
  refine (l01Next_ok b ((m : Int) + 1) _ (hs1.below (below_al (Below.refl _ _) (.cells #[.int .i64 (2 + (k : Int)), .slice none 0 0] 26))) ⟨by omega, by omega⟩).mono ?_
  rintro e w2 ⟨y, rfl, _, hy, hs2, hg2⟩
  obtain ⟨hy1, hy2⟩ := hy (by omega)
  obtain ⟨j0, rfl⟩ : ∃ j : Nat, y = j := ⟨y.toNat, by omega⟩
  have hb1 : b < w1.heap.size := hs1.lt
  have hL2 := (Loc.new w1 rfl #[.int .i64 (2 + (k : Int)), .slice none 0 0] 26).grown hg2 (by simp; omega)
  have hR2 := (hR1.alloc (.cells #[.int .i64 (2 + (k : Int)), .slice none 0 0] 26)).grown hg2 (by simp; omega)
  have hG2 := grown_trans (grown_alloc hG1 (.cells #[.int .i64 (2 + (k : Int)), .slice none 0 0] 26)) hg2
  have z1 : w1.heap.size + 1 ≤ w2.heap.size := by have := hg2.size; simpa using this
  clear hy
  go_wp2
  go_loopw [8, 9] (fun i _ wr => ∃ (j : Nat) (a' : Option Addr) (n' c' : Nat) (xs : List Int), j ≤ j0 ∧ i = .int .i64 j ∧ n' + j = j0 ∧ Sml xs ∧ Src wr b ∧ Loc wr w.heap.size #[.int .i64 0, .slice none 0 0] 26 ∧
    Loc wr w1.heap.size #[.int .i64 (2 + (k : Int)), .slice a' n' c'] 26 ∧ Own wr (w1.heap.size + 1) a' n' c' xs ∧ w.grownBy wr (some b) ∧ w1.heap.size + 1 ≤ wr.heap.size) (fun i _ _ => (intOf i).toNat)
  case atStart => exact ⟨j0, none, 0, 0, [], Nat.le_refl _, rfl, by omega, fun x hx => by simp at hx, hs2, hR2, hL2, Own.nil _ _, hG2, z1⟩
  case round =>
    obtain ⟨j, a', n', c', xs, hj, rfl, hnj, hsm, hs, hR, hL, ho, hG, hz⟩ := hrel
    have lL := hL.two
    rcases j with _ | j
    rotate_left
    · go_wp2_with fail
      refine (l01Next_ok b (2 + (k : Int) - 1) _ hs ⟨by omega, by omega⟩).mono ?_
      rintro e w3 ⟨x, rfl, _, hx, hs3, hg3⟩
      obtain ⟨hx1, hx2⟩ := hx (by omega)
      clear hx
      have hL3 := hL.grown hg3 (by simp; omega)
      have hR3 := hR.grown hg3 (by simp; omega)
      have ho3 := ho.grown hg3 (fun g e => by have := ho.lo g e; simp; omega)
      have hG3 := grown_trans hG hg3
      have z3 := hg3.size
      go_wp2_with fail
      refine (l01Next_ok b 3 _ hs3 ⟨by omega, by omega⟩).mono ?_
      rintro e w4 ⟨v, rfl, _, hv, hs4, hg4⟩
      clear hv
      have hL4 := hL3.grown hg4 (by simp; omega)
      have hR4 := hR3.grown hg4 (by simp; omega)
      have ho4 := ho3.grown hg4 (fun g e => by have := ho3.lo g e; simp; omega)
      have hG4 := grown_trans hG3 hg4
      have z4 := hg4.size
      have lL4 := hL4.two
      have hwq : w1.heap.size + 1 ≤ w4.heap.size := by omega
      have hln : n' + 1 ≤ 1000000000000 := by omega
      clear lL
      by_cases hv0 : v = 0
      · subst hv0
        go_wp2_with (at_builtin; refine app1 rfl rfl ho4 rfl rfl (by omega) hwq ?_; intro g' cc w8 hO hg8 hs8 hb8; have hL8 := hL4.below hb8 (by omega); have lL8 := hL8.two)
        go_roundw
        case rel =>
          refine ⟨j, _, _, _, _, by omega, by go_num, by omega, hsm.snoc (by omega) (by omega), (hs4.keepB hb8 (by omega)).setne (by simp; omega) _, (hR4.below hb8 (by omega)).setne (by simp; omega) _, hL8.set 1 _, hO.setlo (by simp) _, ?_, by rw [size_set]; omega⟩
          exact grown_set (grown_below hG4 hb8 (by omega)) (.inr (by simp; omega)) _
        case measure => simp [intOf]; try omega
      · go_wp2_with (at_builtin; refine app1 rfl rfl ho4 rfl rfl (by omega) hwq ?_; intro g' cc w8 hO hg8 hs8 hb8; have hL8 := hL4.below hb8 (by omega); have lL8 := hL8.two)
        go_roundw
        case rel =>
          refine ⟨j, _, _, _, _, by omega, by go_num, by omega, hsm.snoc (by omega) (by omega), (hs4.keepB hb8 (by omega)).setne (by simp; omega) _, (hR4.below hb8 (by omega)).setne (by simp; omega) _, hL8.set 1 _, hO.setlo (by simp) _, ?_, by rw [size_set]; omega⟩
          exact grown_set (grown_below hG4 hb8 (by omega)) (.inr (by simp; omega)) _
        case measure => simp [intOf]; try omega
    · have lR := hR.two
      go_wp2
      refine bodyPost_ret (v := bAgg (2 + (k : Int)) a' n' c') (by simp [results, Tryz.results51, go_sem, lR]) rfl ⟨_, a', n', c', xs, rfl, by omega, by omega, by omega, hsm, ?_, ?_, ?_⟩
      · exact ((ho.setlo (by simp <;> omega) _).setlo (by simp <;> omega) _).mono (by omega)
      · exact (hs.setne (by simp; omega) _).setne (by simp; omega) _
      · exact grown_set (grown_set hG (.inr (by simp)) _) (.inr (by simp)) _

theorem Own.blk_ne {w : World} {lo : Nat} {a : Option Addr} {n c : Nat} {xs : List Int} (h : Own w lo a n c xs) {k : Nat} (hk : ∀ g, a = some ⟨g, 0, none⟩ → g ≠ k) : some k ≠ (Value.slice a n c).ownBlock := by
  rcases h.block with ⟨rfl, rfl, rfl⟩ | ⟨g, cur, rfl, h2, h3, h4, h5, h6, h7⟩
  · simp [Value.ownBlock]
  · have := hk g rfl
    simp [Value.ownBlock]; omega
theorem Own.ne_loc {w : World} {lo g n c : Nat} {xs : List Int} (h : Own w lo (some ⟨g, 0, none⟩) n c xs) {b : Nat} {cs : Array Value} {t : TypeId} (hL : Loc w b cs t) (ht : t ≠ 2) : g ≠ b := by
  rcases h.block with ⟨h1, _⟩ | ⟨g', cur, e, h2, h3, _⟩
  · cases h1
  · cases e
    intro e; subst e
    unfold Loc at h3 hL
    rw [h3] at hL
    injection hL with e
    injection e with e1 e2
    exact ht e2.symm
theorem pick3 (w : World) (x y z : Int) (t : TypeId) : Row (w.alloc (.cells #[.int .i64 x, .int .i64 y, .int .i64 z] t)) (some ⟨w.heap.size, 0, none⟩) 3 [x, y, z] := row_lit w _ t [x, y, z] rfl
theorem pick3d (w : World) (x y z : Int) (t : TypeId) : Row (w.alloc (.cells #[.int .i64 x, .int .i64 y, .int .i64 z] t)).drew (some ⟨w.heap.size, 0, none⟩) 3 [x, y, z] := (pick3 w x y z t).drewN 1
set_option maxHeartbeats 16000000 in
theorem l16DrawAny_ok (b : Nat) (s m : Nat) (w : World) (h : Src w b) (h1 : 2 ≤ s) (h2 : s ≤ 10) (hm : m ≤ 20) :
    Calls Tryz.prog 25 #[.pointer (some ⟨b, 0, none⟩), .int .i64 s, .int .i64 m] w (DrB b w 0 10 31) := by
  have hlt := h.lt
  go_enter Tryz.func25, Tryz.ntmps25
  have hR := Loc.new w rfl #[.int .i64 0, .slice none 0 0] 26
  have hG0 := World.grownBy_alloc w (.cells #[.int .i64 0, .slice none 0 0] 26) (some b)
  go_wp2_with fail
  refine (l16Draw_ok b s m _ (h.below (below_al (Below.refl _ _) _)) h1 h2 hm).mono ?_
  rintro e w1 ⟨S, a, n, c, xs, rfl, hS1, hS2, hn, hsm, ho, hs1, hg1⟩
  rw [size_alloc] at ho
  have hG1 := grown_trans hG0 hg1
  have hR1 := hR.grown hg1 (by simp; omega)
  have hRl := hR1.lt
  have hb1 := hs1.lt
  go_wp2_with fail
  refine (l01Next_ok b 24 _ (hs1.below (below_al (Below.refl _ _) (.cells #[.int .i64 S, .slice a n c] 26))) ⟨by omega, by omega⟩).mono ?_
  rintro e w2 ⟨y, rfl, _, hy, hs2, hg2⟩
  obtain ⟨hy1, hy2⟩ := hy (by omega)
  have hL2 := (Loc.new w1 rfl #[.int .i64 S, .slice a n c] 26).grown hg2 (by simp; omega)
  have hR2 := (hR1.alloc (.cells #[.int .i64 S, .slice a n c] 26)).grown hg2 (by simp; omega)
  have hG2 := grown_trans (grown_alloc hG1 (.cells #[.int .i64 S, .slice a n c] 26)) hg2
  have ho2 := (ho.alloc (.cells #[.int .i64 S, .slice a n c] 26)).grown hg2 (fun g e => by have := ho.lo g e; simp; omega)
  have hne : ∀ g, a = some ⟨g, 0, none⟩ → g ≠ w1.heap.size := fun g e => by have := ho.hi g e; omega
  have z1 : w1.heap.size + 1 ≤ w2.heap.size := by have := hg2.size; simpa using this
  clear hy
  have lL2 := hL2.two
  have lR2 := hR2.two
  by_cases hy0 : y = 0
  · subst hy0
    go_wp2_with fail
    refine (l01Pick_ok b _ _ _ [1, 7, 0] _ (hs2.below (below_al (Below.refl _ _) _)) (pick3 w2 1 7 0 _) (by decide) (by decide) (fun g o e => by cases e; omega)).mono ?_
    rintro e w3 ⟨x, rfl, hx, hs3, hg3⟩
    have hx10 : 0 ≤ x ∧ x ≤ 10 := by simp at hx; rcases hx with h | h | h <;> (subst h; omega)
    clear hx
    have hL3 := (hL2.alloc _).grown hg3 (by simp; omega)
    have hR3 := (hR2.alloc _).grown hg3 (by simp; omega)
    have hG3 := grown_trans (grown_alloc hG2 _) hg3
    have ho3 := (ho2.alloc _).grown hg3 (fun g e => by have := ho.lo g e; simp; omega)
    have z3 : w2.heap.size + 1 ≤ w3.heap.size := by have := hg3.size; simpa using this
    clear lL2 lR2
    have lL3 := hL3.two
    have lR3 := hR3.two
    go_wp2
    have lF := (hL3.set 0 (.int .i64 x)).two
    refine bodyPost_ret (v := bAgg x a n c) (by simp [results, Tryz.results25, go_sem, lR3]) rfl ⟨_, a, n, c, xs, rfl, by omega, by omega, by omega, hsm, ?_, ?_, ?_⟩
    · exact (((ho3.setne (fun g e => hne g e) _).setlo (by simp <;> omega) _).setlo (by simp <;> omega) _).mono (by omega)
    · exact (((hs3.setne (by simp; omega) _).setne (by simp; omega) _).setne (by simp; omega) _)
    · exact grown_set (grown_set (grown_set hG3 (.inr (by simp; omega)) _) (.inr (by simp)) _) (.inr (by simp)) _
  · by_cases hy1' : y = 1
    · subst hy1'
      have hS3 : IntKind.i64.wrap (-S) = -S := IntWalk.i64_in _ ⟨by omega, by omega⟩
      have hBN := ho.blk_ne hne
      have lA2 := (hL2.alloc (.cells #[.int .i64 0, .int .i64 S, .int .i64 (-S)] 2)).two
      go_wp2_with fail
      go_region_law (first
          | (refine step_app1n rfl rfl (((ho2.alloc _).drewN 1).grown hg3 (fun g e => by have := ho.lo g e; simp; omega)) rfl rfl ?_ ?_ ?_; (omega); (have := hg3.size; simp at this; omega); intro g' cc w8 hO hg8 hs8 hb8; have hL8 := hL3.grown hg8 hBN; have lL8 := hL8.two; have hR8 := hR3.below hb8 (by omega); have lR8 := hR8.two; have hS8 := hs3.keepB hb8 (by omega); have hG8 := grown_below (grown_trans (grown_drewN (grown_alloc hG2 _) 1) hg3) hb8 (by omega))
          | (go_simp; go_at_call 52; refine (l01Pick_ok b _ _ _ [0, S, -S] _ (hs2.below (below_al (Below.refl _ _) _).drew) (pick3d w2 0 S (-S) _) (by decide) (by decide) (fun g o e => by cases e; simp; omega)).mono ?_; rintro e w3 ⟨x, rfl, hx, hs3, hg3⟩; have hL3 := ((hL2.alloc _).drewN 1).grown hg3 (by simp; omega); have hR3 := ((hR2.alloc _).drewN 1).grown hg3 (by simp; omega); have lL3 := hL3.two; have lA3 := (hL3.alloc (.cells #[.int .i64 x] 2)).two))
      all_goals
        have hx10 : -10 ≤ x ∧ x ≤ 10 := by simp at hx; rcases hx with h | h | h <;> (subst h; omega)
        have z8 : w2.heap.size < w8.heap.size := by have := hg3.size; simp at this; omega
        have lF := (hL8.set 1 (.slice (some ⟨g', 0, none⟩) (n + 1) cc)).two
        go_wp2
        refine bodyPost_ret (v := bAgg S (some ⟨g', 0, none⟩) (n + 1) cc) (by simp [results, Tryz.results25, go_sem, lR8]) rfl ⟨_, _, _, cc, xs ++ [x], rfl, by omega, by omega, by omega, hsm.snoc (by omega) (by omega), ?_, ?_, ?_⟩
        · exact (((hO.setne (fun g e => by
            cases e
            exact hO.ne_loc hL8 (by decide)) _).setlo (by simp <;> omega) _).setlo (by simp <;> omega) _).mono (by omega)
        · exact (((hS8.setne (by simp; omega) _).setne (by simp; omega) _).setne (by simp; omega) _)
        · exact grown_set (grown_set (grown_set hG8 (.inr (by simp; omega)) _) (.inr (by simp)) _) (.inr (by simp)) _
    · by_cases hy2' : y = 2
      · subst hy2'
        go_wp2
        go_loopg [39] (31 - n) (fun g s39 wr => ∃ (a' : Option Addr) (n' c' : Nat) (xs' : List Int), Sml xs' ∧ n' ≤ 31 ∧ g + n' = 31 ∧ Src wr b ∧ Loc wr w1.heap.size #[.int .i64 S, .slice a' n' c'] 26 ∧ Loc wr w.heap.size #[.int .i64 0, .slice none 0 0] 26 ∧
          Own wr (w.heap.size + 1) a' n' c' xs' ∧ (∀ g, a' = some ⟨g, 0, none⟩ → g ≠ w1.heap.size) ∧ w.grownBy wr (some b) ∧ w1.heap.size + 1 ≤ wr.heap.size)
        case atStart => exact ⟨a, n, c, xs, hsm, by omega, by omega, hs2, hL2, hR2, ho2, hne, hG2, z1⟩
        case round =>
          obtain ⟨a', n', c', xs', hsm', hn', hgn, hs, hL, hR, ho', hne', hG, hz⟩ := hrel
          have lL := hL.two
          have lR := hR.two
          by_cases hlt : n' < 31
          · have hBN := ho'.blk_ne hne'
            have hwq : w.heap.size + 1 ≤ wr.heap.size := by omega
            have hln : n' + 1 ≤ 1000000000000 := by omega
            go_wp2_with (at_builtin; refine app1 rfl rfl ho' rfl rfl (by omega) hwq ?_; intro g' cc w8 hO hg8 hs8 hb8; have hL8 := hL.grown hg8 hBN; have lL8 := hL8.two)
            go_roundg (gk - 1)
            case measure => omega
            case rel =>
              exact ⟨_, _, _, _, hsm'.snoc (x := 1) (by omega) (by omega), by omega, by omega, (hs.keepB hb8 (by omega)).setne (by simp; omega) _, hL8.set 1 _, (hR.below hb8 (by omega)).setne (by simp; omega) _,
                hO.setne (fun g e => by cases e; exact hO.ne_loc hL8 (by decide)) _, (fun g e => by cases e; exact hO.ne_loc hL8 (by decide)), grown_set (grown_below hG hb8 (by omega)) (.inr (by simp; omega)) _, by rw [size_set]; omega⟩
          · go_wp2
            refine bodyPost_ret (v := bAgg S a' n' c') (by simp [results, Tryz.results25, go_sem, lR]) rfl ⟨_, a', n', c', xs', rfl, by omega, by omega, by omega, hsm', ?_, ?_, ?_⟩
            · exact ((ho'.setlo (by simp <;> omega) _).setlo (by simp <;> omega) _).mono (by omega)
            · exact ((hs.setne (by simp; omega) _).setne (by simp; omega) _)
            · exact grown_set (grown_set hG (.inr (by simp)) _) (.inr (by simp)) _
      · go_wp2
        refine bodyPost_ret (v := bAgg S a n c) (by simp [results, Tryz.results25, go_sem, lR2]) rfl ⟨_, a, n, c, xs, rfl, by omega, by omega, by omega, hsm, ?_, ?_, ?_⟩
        · exact ((ho2.setlo (by simp <;> omega) _).setlo (by simp <;> omega) _).mono (by omega)
        · exact ((hs2.setne (by simp; omega) _).setne (by simp; omega) _)
        · exact grown_set (grown_set hG2 (.inr (by simp)) _) (.inr (by simp)) _
end Go.Proofs.YtdkpalllfekiiaaGreat

namespace Go.Proofs.YtdkpalllfekiiaaGreat
set_option linter.unusedVariables false
set_option linter.unusedSimpArgs false
set_option maxRecDepth 100000
open Go.RowKit

/-- two numbers exchanged -/
def sw2 (xs : List Int) (i k : Nat) : List Int := (xs.set i (xs.getD k 0)).set k (xs.getD i 0)
def tau (i k j : Nat) : Nat := if j = i then k else if j = k then i else j
theorem tau_tau (i k j : Nat) : tau i k (tau i k j) = j := by
  unfold tau
  by_cases h1 : j = i
  · subst h1
    rw [if_pos rfl]
    by_cases h2 : k = j
    · rw [if_pos h2]; exact h2
    · rw [if_neg h2, if_pos rfl]
  · rw [if_neg h1]
    by_cases h2 : j = k
    · subst h2; rw [if_pos rfl, if_pos rfl]
    · rw [if_neg h2, if_neg h1, if_neg h2]
theorem tau_lt {n i k j : Nat} (hi : i < n) (hk : k < n) (hj : j < n) : tau i k j < n := by
  unfold tau; split
  · exact hk
  · split
    · exact hi
    · exact hj
theorem sw2_get (xs : List Int) {i k j : Nat} (hi : i < xs.length) (hk : k < xs.length) (hj : j < xs.length) : (sw2 xs i k).getD j 0 = xs.getD (tau i k j) 0 := by
  unfold sw2 tau
  rw [getD_setz _ _ _ _ (by rw [List.length_set]; exact hj), getD_setz _ _ _ _ hj]
  by_cases h1 : j = k
  · subst h1
    rw [if_pos rfl]
    by_cases h2 : j = i
    · subst h2; rw [if_pos rfl]
    · rw [if_neg h2, if_pos rfl]
  · rw [if_neg h1]
    by_cases h2 : j = i
    · rw [if_pos h2, if_pos h2]
    · rw [if_neg h2, if_neg h2, if_neg h1]
theorem sw2_isP {n i k : Nat} {p : List Int} (h : IsP n p) (hi : i < n) (hk : k < n) : IsP n (sw2 p i k) := by
  obtain ⟨f, g, hl, h1, h2⟩ := h
  refine ⟨fun j => f (tau i k j), fun j => tau i k (g j), by simp [sw2, hl], fun j hj => ⟨(h1 _ (tau_lt hi hk hj)).1, tau_lt hi hk (h1 j hj).2.1, ?_, ?_⟩, fun j hj => ?_⟩
  · show f (tau i k (tau i k (g j))) = j
    rw [tau_tau]; exact (h1 j hj).2.2.1
  · show tau i k (g (f (tau i k j))) = j
    rw [(h1 _ (tau_lt hi hk hj)).2.2.2, tau_tau]
  · rw [sw2_get p (by omega) (by omega) (by omega)]
    exact h2 _ (tau_lt hi hk hj)

/-- what a function that draws a permutation leaves -/
def PrD (b : Nat) (w : World) (n : Nat) (e : Ending) (w' : World) : Prop :=
  ∃ (a : Option Addr) (c : Nat) (p : List Int), e = .returned (.slice a n c) ∧ IsP n p ∧ Own w' w.heap.size a n c p ∧ Src w' b ∧ w.grownBy w' (some b)

set_option maxHeartbeats 8000000 in
theorem l01Draw_ok (b n : Nat) (w : World) (h : Src w b) (h1 : 1 ≤ n) (hn : n ≤ 1000) :
    Calls Tryz.prog 112 #[.pointer (some ⟨b, 0, none⟩), .int .i64 n] w (PrD b w n) := by
  have hlt := h.lt
  go_enter Tryz.func112, Tryz.ntmps112
  go_wp2_with fail
  refine (l01Unit_any n _ (by omega)).mono ?_
  rintro e w1 ⟨a1, c1, rfl, ho1, hb1⟩
  have hs1 := h.below hb1
  have hG1 := grown_of_below hb1 (some b)
  obtain ⟨g, rfl⟩ : ∃ g, a1 = some ⟨g, 0, none⟩ := by
    obtain ⟨b', o', e, _⟩ := ho1.row.at 0 (by omega)
    rcases ho1.block with ⟨e2, _⟩ | ⟨g', cur, e2, _⟩
    · rw [e2] at e; cases e
    · exact ⟨g', e2⟩
  have hP := unit_isP n
  go_wp2
  go_loopw [6, 7, 8] (fun i _ _ wr => ∃ (j : Nat) (p : List Int), j < n ∧ i = .int .i64 j ∧ Hid (IsP n p) ∧ Own wr w.heap.size (some ⟨g, 0, none⟩) n c1 p ∧ Src wr b ∧ w.grownBy wr (some b)) (fun i _ _ _ => (intOf i).toNat)
  case atStart => exact ⟨n - 1, unitL n, by omega, by congr 1; omega, Lib.hid hP, ho1, hs1, hG1⟩
  case round =>
    clear ho1 hs1 hG1 hb1 hP
    obtain ⟨j, p, hj, rfl, HP, ho, hs, hG⟩ := hrel
    rcases j with _ | j
    · go_wp2
      go_ret
      exact ⟨_, _, p, rfl, HP.out, ho, hs, hG⟩
    · go_wp2_with fail
      refine (l01Next_ok b (((j : Int) + 1) + 1) _ hs ⟨by omega, by omega⟩).mono ?_
      rintro e w2 ⟨x, rfl, _, hx, hs2, hg2⟩
      obtain ⟨hx1, hx2⟩ := hx (by omega)
      obtain ⟨k, rfl⟩ : ∃ k : Nat, x = k := ⟨x.toNat, by omega⟩
      have hk : k < n := by omega
      clear hx
      have hlo := ho.lo _ rfl
      have ho2 := ho.grown hg2 (fun q e => by cases e; simp; omega)
      have hG2 := grown_trans hG hg2
      have ci := ho2.cells.2.1 (j + 1) hj
      have ck := ho2.cells.2.1 k hk
      have fi := ho2.cells.2.2 (j + 1)
      have fk := ho2.cells.2.2 k
      have hset := (ho2.set (j + 1) (p.getD k 0)).set k (p.getD (j + 1) 0)
      have hsw : Hid (IsP n (sw2 p (j + 1) k)) := Lib.hid (sw2_isP HP.out hj hk)
      have fk2 := (ho2.set (j + 1) (p.getD k 0)).cells.2.2 k
      have ck2 := (ho2.set (j + 1) (p.getD k 0)).cells.2.1 k hk
      obtain ⟨X, HX⟩ : ∃ X, Hid (p.getD k 0 = X) := ⟨_, Lib.hid rfl⟩
      obtain ⟨Y, HY⟩ : ∃ Y, Hid (p.getD (j + 1) 0 = Y) := ⟨_, Lib.hid rfl⟩
      rw [HX.out] at ck hset fk2 ck2
      rw [HY.out] at ci hset
      obtain ⟨Z, HZ⟩ : ∃ Z, Hid ((p.set (j + 1) X).getD k 0 = Z) := ⟨_, Lib.hid rfl⟩
      rw [HZ.out] at ck2
      have HSET := Lib.hid hset
      have HSW : Hid (sw2 p (j + 1) k = (p.set (j + 1) X).set k Y) := Lib.hid (by unfold sw2; rw [HX.out, HY.out])
      clear hset
      have i1 : (0 : Int) ≤ (j : Int) + 1 := by omega
      have i2 : (j : Int) + 1 < (n : Int) := by omega
      have i3 : (0 : Int) ≤ (k : Int) := by omega
      have i4 : (k : Int) < (n : Int) := by omega
      have i5 : (0 : Int) < (j : Int) + 1 := by omega
      have hgb : (⟨g, j + 1, none⟩ : Addr).block = b ∨ w.heap.size ≤ (⟨g, j + 1, none⟩ : Addr).block := .inr hlo
      have hgb2 : (⟨g, k, none⟩ : Addr).block = b ∨ w.heap.size ≤ (⟨g, k, none⟩ : Addr).block := .inr hlo
      go_wp2
      go_roundw
      case rel => exact ⟨j, _, by omega, by go_num, by rw [HSW.out] at hsw; exact hsw, HSET.out, (hs2.setne (by show b < g; omega) _).setne (by show b < g; omega) _, grown_set (grown_set hG2 hgb _) hgb2 _⟩
      case measure => simp [intOf]
end Go.Proofs.YtdkpalllfekiiaaGreat

namespace Go.Proofs.YtdkpalllfekiiaaGreat
set_option maxRecDepth 100000
set_option linter.unusedVariables false
set_option linter.unusedSimpArgs false
open Go.RowKit

section
variable {w w' : World} {lo : Nat} {a a1 a2 : Option Addr} {n n1 n2 c c1 c2 : Nat} {vs : List SV} {xss : List (List Int)}
end
end Go.Proofs.YtdkpalllfekiiaaGreat

namespace Go.Proofs.YtdkpalllfekiiaaGreat
set_option maxRecDepth 100000
set_option linter.unusedVariables false
set_option linter.unusedSimpArgs false
open Go.RowKit

abbrev dAgg (a : Option Addr) (n c : Nat) (a' : Option Addr) (n' c' : Nat) (p : Option Addr) (m d : Nat) (s : Int) (q : Option Addr) (l e : Nat) : Value := .agg #[.slice a n c, .slice a' n' c', .slice p m d, .int .i64 s, .slice q l e]
structure Dsk (w : World) (a : Option Addr) (n : Nat) (xss : List (List Int)) (a' : Option Addr) (n' : Nat) (yss : List (List Int)) (p : Option Addr) (m : Nat) (zss : List (List Int)) (q : Option Addr) (l : Nat) (ws : List Int) : Prop where
  s : Sol w a n xss a' n' yss
  r : Tbl w p m zss
  b : Row w q l ws
theorem Loc.five {w : World} {b : Nat} {x y z u v : Value} {t : TypeId} (h : Loc w b #[x, y, z, u, v] t) : (w.cell? ⟨b, 0, none⟩ = some x ∧ w.cell? ⟨b, 1, none⟩ = some y ∧ w.cell? ⟨b, 2, none⟩ = some z ∧ w.cell? ⟨b, 3, none⟩ = some u ∧ w.cell? ⟨b, 4, none⟩ = some v) ∧ w.frozen? ⟨b, 0, none⟩ = false ∧ w.frozen? ⟨b, 1, none⟩ = false ∧ w.frozen? ⟨b, 2, none⟩ = false ∧ w.frozen? ⟨b, 3, none⟩ = false ∧ w.frozen? ⟨b, 4, none⟩ = false :=
  ⟨⟨h.cell 0 rfl, h.cell 1 rfl, h.cell 2 rfl, h.cell 3 rfl, h.cell 4 rfl⟩, h.free 0, h.free 1, h.free 2, h.free 3, h.free 4⟩
section
variable {w w' : World} {lo : Nat} {s : Int} {a a' p q a1 a1' p1 q1 a2 a2' p2 q2 : Option Addr} {n n' m l c c' d e n1 n1' m1 l1 c1 c1' d1 e1 n2 n2' m2 l2 c2 c2' d2 e2 : Nat} {xss yss zss : List (List Int)} {ws : List Int}
theorem Dsk.below (h : Dsk w a n xss a' n' yss p m zss q l ws) (hb : Below w.heap.size w w') : Dsk w' a n xss a' n' yss p m zss q l ws := ⟨h.s.below hb, h.r.below hb, h.b.below hb⟩
theorem Dsk.alloc (h : Dsk w a n xss a' n' yss p m zss q l ws) (o : Obj) : Dsk (w.alloc o) a n xss a' n' yss p m zss q l ws := ⟨h.s.alloc o, h.r.alloc o, h.b.alloc o⟩
structure OwnD (w : World) (lo : Nat) (a : Option Addr) (n c : Nat) (vs : List SV) (xss : List (List Int)) (a' : Option Addr) (n' c' : Nat) (vs' : List SV) (yss : List (List Int)) (p : Option Addr) (m d : Nat) (ps : List SV) (zss : List (List Int)) (q : Option Addr) (l e : Nat) (ws : List Int) : Prop where
  s : OwnS w lo a n c vs xss a' n' c' vs' yss
  r : OwnT w lo p m d ps zss
  b : Own w lo q l e ws
theorem OwnD.dsk {vs vs' ps : List SV} (h : OwnD w lo a n c vs xss a' n' c' vs' yss p m d ps zss q l e ws) : Dsk w a n xss a' n' yss p m zss q l ws := ⟨h.s.sol, h.r.tbl, h.b.row⟩
theorem OwnS.setlo {vs vs' : List SV} (h : OwnS w lo a n c vs xss a' n' c' vs' yss) {x : Addr} (hp : x.block < lo) (u : Value) : OwnS (w.setCell x u) lo a n c vs xss a' n' c' vs' yss := ⟨h.f.setlo hp u, h.s.setlo hp u, h.ap⟩
theorem OwnD.below {vs vs' ps : List SV} (h : OwnD w lo a n c vs xss a' n' c' vs' yss p m d ps zss q l e ws) (hb : Below w.heap.size w w') : OwnD w' lo a n c vs xss a' n' c' vs' yss p m d ps zss q l e ws := ⟨h.s.below hb, h.r.below hb, h.b.below hb⟩
end
end Go.Proofs.YtdkpalllfekiiaaGreat

namespace Go.Proofs.YtdkpalllfekiiaaGreat
set_option maxRecDepth 100000
set_option linter.unusedVariables false
set_option linter.unusedSimpArgs false
open Go.RowKit

def DskS (a : Option Addr) (n : Nat) (vs : List SV) (a' : Option Addr) (n' : Nat) (vs' : List SV) (p : Option Addr) (m : Nat) (ps : List SV) (q : Option Addr) (g : Nat) : Prop := SolS a n vs a' n' vs' g ∨ TblS p m ps g ∨ RowS q g
/-- a desk whose parts lie apart -/
structure OwnDD (w : World) (lo : Nat) (a : Option Addr) (n c : Nat) (vs : List SV) (xss : List (List Int)) (a' : Option Addr) (n' c' : Nat) (vs' : List SV) (yss : List (List Int)) (p : Option Addr) (m d : Nat) (ps : List SV) (zss : List (List Int)) (q : Option Addr) (l e : Nat) (ws : List Int) : Prop where
  o : OwnD w lo a n c vs xss a' n' c' vs' yss p m d ps zss q l e ws
  ap1 : ∀ g, SolS a n vs a' n' vs' g → ¬ TblS p m ps g
  ap2 : ∀ g, SolS a n vs a' n' vs' g → ¬ RowS q g
  ap3 : ∀ g, TblS p m ps g → ¬ RowS q g
section
variable {w w' : World} {lo : Nat} {s : Int} {a a' p q a1 a1' p1 q1 a2 a2' p2 q2 : Option Addr} {n n' m l c c' d e n1 n1' m1 l1 c1 c1' d1 e1 n2 n2' m2 l2 c2 c2' d2 e2 : Nat} {xss yss zss : List (List Int)} {ws : List Int} {vs vs' ps : List SV}
theorem Dsk.drewN (h : Dsk w a n xss a' n' yss p m zss q l ws) (k : Nat) : Dsk (w.drewN k) a n xss a' n' yss p m zss q l ws := ⟨h.s.drewN k, h.r.drewN k, h.b.drewN k⟩
theorem OwnD.alloc (h : OwnD w lo a n c vs xss a' n' c' vs' yss p m d ps zss q l e ws) (o : Obj) : OwnD (w.alloc o) lo a n c vs xss a' n' c' vs' yss p m d ps zss q l e ws := ⟨h.s.alloc o, h.r.alloc o, h.b.alloc o⟩
theorem OwnD.drewN (h : OwnD w lo a n c vs xss a' n' c' vs' yss p m d ps zss q l e ws) (k : Nat) : OwnD (w.drewN k) lo a n c vs xss a' n' c' vs' yss p m d ps zss q l e ws := ⟨h.s.drewN k, h.r.drewN k, h.b.drewN k⟩
theorem OwnD.mono {lo' : Nat} (h : OwnD w lo a n c vs xss a' n' c' vs' yss p m d ps zss q l e ws) (hl : lo' ≤ lo) : OwnD w lo' a n c vs xss a' n' c' vs' yss p m d ps zss q l e ws := ⟨h.s.mono hl, h.r.mono hl, h.b.mono hl⟩
theorem OwnD.cap (h : OwnD w lo a n c vs xss a' n' c' vs' yss p m d ps zss q l e ws) : ((n ≤ c ∧ c ≤ 9223372036854775807) ∧ n' ≤ c' ∧ c' ≤ 9223372036854775807) ∧ (m ≤ d ∧ d ≤ 9223372036854775807) ∧ l ≤ e ∧ e ≤ 9223372036854775807 := ⟨h.s.cap, h.r.cap, h.b.cap⟩
theorem OwnD.uLo (h : OwnD w lo a n c vs xss a' n' c' vs' yss p m d ps zss q l e ws) : ∀ g, DskS a n vs a' n' vs' p m ps q g → lo ≤ g := fun g hg => hg.elim (h.s.uLo g) fun hg => hg.elim (h.r.uLo g) (h.b.uLo g)
theorem OwnD.uHi (h : OwnD w lo a n c vs xss a' n' c' vs' yss p m d ps zss q l e ws) : ∀ g, DskS a n vs a' n' vs' p m ps q g → g < w.heap.size := fun g hg => hg.elim (h.s.uHi g) fun hg => hg.elim (h.r.uHi g) (h.b.uHi g)
theorem OwnD.uKeep (h : OwnD w lo a n c vs xss a' n' c' vs' yss p m d ps zss q l e ws) {S : Nat → Prop} (hm : Marked S w w') (hS : ∀ g, DskS a n vs a' n' vs' p m ps q g → ¬ S g) : OwnD w' lo a n c vs xss a' n' c' vs' yss p m d ps zss q l e ws :=
  ⟨h.s.uKeep hm fun g hg => hS g (.inl hg), h.r.uKeep hm fun g hg => hS g (.inr (.inl hg)), h.b.uKeep hm fun g hg => hS g (.inr (.inr hg))⟩
theorem OwnDD.dsk (h : OwnDD w lo a n c vs xss a' n' c' vs' yss p m d ps zss q l e ws) : Dsk w a n xss a' n' yss p m zss q l ws := h.o.dsk
theorem OwnDD.below (h : OwnDD w lo a n c vs xss a' n' c' vs' yss p m d ps zss q l e ws) (hb : Below w.heap.size w w') : OwnDD w' lo a n c vs xss a' n' c' vs' yss p m d ps zss q l e ws := ⟨h.o.below hb, h.ap1, h.ap2, h.ap3⟩
theorem OwnDD.alloc (h : OwnDD w lo a n c vs xss a' n' c' vs' yss p m d ps zss q l e ws) (o : Obj) : OwnDD (w.alloc o) lo a n c vs xss a' n' c' vs' yss p m d ps zss q l e ws := ⟨h.o.alloc o, h.ap1, h.ap2, h.ap3⟩
theorem OwnDD.drewN (h : OwnDD w lo a n c vs xss a' n' c' vs' yss p m d ps zss q l e ws) (k : Nat) : OwnDD (w.drewN k) lo a n c vs xss a' n' c' vs' yss p m d ps zss q l e ws := ⟨h.o.drewN k, h.ap1, h.ap2, h.ap3⟩
theorem OwnDD.mono {lo' : Nat} (h : OwnDD w lo a n c vs xss a' n' c' vs' yss p m d ps zss q l e ws) (hl : lo' ≤ lo) : OwnDD w lo' a n c vs xss a' n' c' vs' yss p m d ps zss q l e ws := ⟨h.o.mono hl, h.ap1, h.ap2, h.ap3⟩
theorem OwnDD.cap (h : OwnDD w lo a n c vs xss a' n' c' vs' yss p m d ps zss q l e ws) : ((n ≤ c ∧ c ≤ 9223372036854775807) ∧ n' ≤ c' ∧ c' ≤ 9223372036854775807) ∧ (m ≤ d ∧ d ≤ 9223372036854775807) ∧ l ≤ e ∧ e ≤ 9223372036854775807 := h.o.cap
theorem OwnDD.uLo (h : OwnDD w lo a n c vs xss a' n' c' vs' yss p m d ps zss q l e ws) : ∀ g, DskS a n vs a' n' vs' p m ps q g → lo ≤ g := h.o.uLo
theorem OwnDD.uHi (h : OwnDD w lo a n c vs xss a' n' c' vs' yss p m d ps zss q l e ws) : ∀ g, DskS a n vs a' n' vs' p m ps q g → g < w.heap.size := h.o.uHi
theorem OwnDD.uKeep (h : OwnDD w lo a n c vs xss a' n' c' vs' yss p m d ps zss q l e ws) {S : Nat → Prop} (hm : Marked S w w') (hS : ∀ g, DskS a n vs a' n' vs' p m ps q g → ¬ S g) : OwnDD w' lo a n c vs xss a' n' c' vs' yss p m d ps zss q l e ws := ⟨h.o.uKeep hm hS, h.ap1, h.ap2, h.ap3⟩

/-- a desk -/
def RetD0 (w : World) (xss yss zss : List (List Int)) (s : Int) (ws : List Int) (e : Ending) (w' : World) : Prop :=
  ∃ a n c a' n' c' p m d q l k vs vs' ps, e = .returned (dAgg a n c a' n' c' p m d s q l k) ∧ OwnDD w' w.heap.size a n c vs xss a' n' c' vs' yss p m d ps zss q l k ws ∧ Below w.heap.size w w'
end
end Go.Proofs.YtdkpalllfekiiaaGreat
