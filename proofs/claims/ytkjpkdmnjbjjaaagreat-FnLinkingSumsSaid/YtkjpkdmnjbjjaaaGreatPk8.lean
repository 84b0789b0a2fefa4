/-
  Walks and plain laws of this seat, some texts in one.
  No condition but bounds on lengths.
-/
import Derived.Test.YtkjpkdmnjbjjaaaGreatPk7
import Derived.Test.YtkjpkdmnjbjjaaaGreatPk3
import Derived.BigRegion
import Derived.Test.YtkjpkdmnjbjjaaaGreatPk6
import Derived.Test.YtkjpkdmnjbjjaaaGreatPk1
import Derived.Deep.AppendLies
namespace Go.Proofs.YtkjpkdmnjbjjaaaGreat
set_option maxRecDepth 100000
set_option linter.unusedVariables false
set_option linter.unusedSimpArgs false
open Go.RowKit
def IsPf (n : Nat) (p : List Int) (f g : Nat → Nat) : Prop := p.length = n ∧ (∀ i, i < n → f i < n ∧ g i < n ∧ f (g i) = i ∧ g (f i) = i) ∧ ∀ i, i < n → p.getD i 0 = (f i : Int)
def IsP (n : Nat) (p : List Int) : Prop := ∃ f g, IsPf n p f g
theorem IsP.len {n : Nat} {p : List Int} (h : IsP n p) : p.length = n := by obtain ⟨f, g, h, _⟩ := h; exact h
theorem IsP.mem {n : Nat} {p : List Int} (h : IsP n p) : ∀ x ∈ p, 0 ≤ x ∧ x < n := by
  obtain ⟨f, g, hl, h1, h2⟩ := h
  intro x hx
  obtain ⟨i, hi, rfl⟩ := List.getElem_of_mem hx
  have := h2 i (by omega)
  rw [getD_at hi] at this
  have := (h1 i (by omega)).1
  omega
theorem unit_isP (n : Nat) : IsP n (unitL n) := ⟨id, id, unitL_len n, fun i h => ⟨h, h, rfl, rfl⟩, fun i h => unitL_get n i h⟩
def swp (xs : List Int) (k : Nat) : List Int := (xs.set k (xs.getD (k + 1) 0)).set (k + 1) (xs.getD k 0)
def sig (k i : Nat) : Nat := if i = k then k + 1 else if i = k + 1 then k else i
theorem sig_sig (k i : Nat) : sig k (sig k i) = i := by
  unfold sig
  by_cases h1 : i = k
  · subst h1; simp
  · by_cases h2 : i = k + 1
    · subst h2; simp
    · simp [h1, h2]
theorem sig_lt (k i n : Nat) (h : k + 1 < n) (hi : i < n) : sig k i < n := by
  unfold sig
  split
  · omega
  · split <;> omega
theorem getD_setz (xs : List Int) (j i : Nat) (x : Int) (h : i < xs.length) : (xs.set j x).getD i 0 = if i = j then x else xs.getD i 0 := by
  simp only [List.getD_eq_getElem?_getD, List.getElem?_set]
  by_cases e : i = j
  · subst e; simp [h]
  · rw [if_neg e, if_neg (fun h => e h.symm)]
theorem swp_get (xs : List Int) (k i : Nat) (h : k + 1 < xs.length) (hi : i < xs.length) : (swp xs k).getD i 0 = xs.getD (sig k i) 0 := by
  unfold swp sig
  rw [getD_setz _ _ _ _ (by rw [List.length_set]; exact hi), getD_setz _ _ _ _ hi]
  by_cases h1 : i = k + 1
  · subst h1; rw [if_pos rfl, if_neg (by omega), if_pos rfl]
  · rw [if_neg h1]
    by_cases h2 : i = k
    · rw [if_pos h2, if_pos h2]
    · rw [if_neg h2, if_neg h2, if_neg h1]
theorem swp_isP {n k : Nat} {p : List Int} (h : IsP n p) (hk : k + 1 < n) : IsP n (swp p k) := by
  obtain ⟨f, g, hl, h1, h2⟩ := h
  refine ⟨fun i => f (sig k i), fun i => sig k (g i), by simp [swp, hl], fun i hi => ?_, fun i hi => ?_⟩
  · have hs := sig_lt k i n hk hi
    refine ⟨(h1 _ hs).1, sig_lt k _ n hk (h1 i hi).2.1, ?_, ?_⟩
    · show f (sig k (sig k (g i))) = i
      rw [sig_sig]; exact (h1 i hi).2.2.1
    · show sig k (g (f (sig k i))) = i
      rw [(h1 _ hs).2.2.2, sig_sig]
  · rw [swp_get p k i (by omega) (by omega)]
    exact h2 _ (sig_lt k i n hk hi)
def strd (s : Nat) (xs : List Int) : List Int := xs.foldl (fun a x => swp a (plc x).toNat) (unitL s)
theorem strd_succ (s : Nat) (xs : List Int) (k : Nat) (h : k < xs.length) : strd s (xs.take (k + 1)) = swp (strd s (xs.take k)) (plc xs[k]).toNat := by
  unfold strd
  rw [List.take_succ_eq_append_getElem h, List.foldl_append]; rfl
theorem strd_isP (s : Nat) (xs : List Int) (hx : ∀ x ∈ xs, 0 ≤ plc x ∧ plc x + 1 < s) : IsP s (strd s xs) := by
  have : ∀ (xs p : List Int), (∀ x ∈ xs, 0 ≤ plc x ∧ plc x + 1 < s) → IsP s p → IsP s (xs.foldl (fun a x => swp a (plc x).toNat) p) := by
    intro xs
    induction xs with
    | nil => intro p _ hp; exact hp
    | cons x xs ih =>
      intro p hx hp
      refine ih _ (fun y hy => hx y (List.mem_cons_of_mem _ hy)) (swp_isP hp ?_)
      have := hx x List.mem_cons_self
      omega
  exact this xs _ hx (unit_isP s)
theorem plc_let {s x : Int} (h : x ≠ 0 ∧ 1 - s ≤ x ∧ x ≤ s - 1) : 0 ≤ plc x ∧ plc x + 1 < s := by
  unfold plc; split <;> omega
theorem backK_get (n : Nat) (p : List Int) (f g : Nat → Nat) (h : IsPf n p f g) (k : Nat) (hk : k ≤ n) : ∀ i, i < n → (backK p k).getD i 0 = if g i < k then (g i : Int) else 0 := by
  obtain ⟨hl, h1, h2⟩ := h
  induction k with
  | zero => intro i hi; simp [backK, List.getD_eq_getElem?_getD]; simp [List.getElem?_replicate]; split <;> rfl
  | succ k ih =>
    intro i hi
    rw [backK_succ, getD_setz _ _ _ _ (by rw [backK_len]; omega), h2 k (by omega), ih (by omega) i hi]
    have ht : ((f k : Nat) : Int).toNat = f k := by simp
    rw [ht]
    by_cases e : i = f k
    · subst e
      rw [if_pos rfl, (h1 k (by omega)).2.2.2, if_pos (by omega)]
    · rw [if_neg e]
      have : g i ≠ k := fun hh => e (by rw [← hh]; exact ((h1 i hi).2.2.1).symm)
      by_cases hc : g i < k
      · rw [if_pos hc, if_pos (by omega)]
      · rw [if_neg hc, if_neg (by omega)]
theorem back_isP {n : Nat} {p : List Int} (h : IsP n p) : IsP n (backF p) := by
  obtain ⟨f, g, hp⟩ := h
  have hb := backK_get n p f g hp n (Nat.le_refl _)
  obtain ⟨hl, h1, h2⟩ := hp
  refine ⟨g, f, by rw [backF_len]; exact hl, fun i hi => ⟨(h1 i hi).2.1, (h1 i hi).1, (h1 i hi).2.2.2, (h1 i hi).2.2.1⟩, fun i hi => ?_⟩
  unfold backF; rw [hl, hb i hi, if_pos (h1 i hi).2.1]
def brP (s : Nat) (xs : List Int) : List Int := backF (strd s xs)
theorem brP_isP (s : Nat) (xs : List Int) (hx : ∀ x ∈ xs, 0 ≤ plc x ∧ plc x + 1 < s) : IsP s (brP s xs) := back_isP (strd_isP s xs hx)
set_option maxHeartbeats 1000000 in
theorem braidPermutation_any (s : Nat) (a : Option Addr) (n c : Nat) (xs : List Int) (w : World) (h1 : Row w a n xs) (hb : isBr s xs = true) :
    Calls Tryz.prog 163 #[bAgg s a n c] w fun e w' => ∃ a' c', e = .returned (.slice a' s c') ∧ Own w' w.heap.size a' s c' (brP s xs) ∧ Below w.heap.size w w' := by
  obtain ⟨h26, h30, hlet⟩ := isBr_let hb
  have hl := h1.len
  have hn30 : n ≤ 30 := by omega
  have hpl : ∀ x ∈ xs, 0 ≤ plc x ∧ plc x + 1 < s := fun x hx => plc_let (hlet x hx)
  have HLet := Lib.hid hlet; clear hlet
  have HP := Lib.hid hpl; clear hpl
  have HL := Lib.hid hl; clear hl
  clear hb
  go_enter Tryz.func163, Tryz.ntmps163
  have hA := Loc.new w rfl #[.int .i64 s, .slice a n c] 42
  have lA := hA.two
  go_wp2_with fail
  refine (identity_any s _ (by omega)).mono ?_
  rintro e w1 ⟨ap, cp, rfl, ho, hb1⟩
  have hA1 : Loc w1 w.heap.size _ _ := hA.below hb1 (by simp)
  have hB1 : Below w.heap.size w w1 := below_alth (Below.refl _ _) hb1
  have ho1 : Own w1 (w.heap.size + 1) ap s cp (unitL s) := ho.mono (by simp)
  have lA1 := hA1.two
  clear ho hb1 hA lA
  go_wp2
  go_loopw [13] (fun i wr => ∃ (k : Nat), k ≤ n ∧ i = .int .i64 k ∧ Own wr (w.heap.size + 1) ap s cp (strd s (xs.take k)) ∧ Below w.heap.size w wr) (fun i _ => n - (intOf i).toNat)
  case atStart => exact ⟨0, Nat.zero_le _, rfl, by simpa [strd] using ho1, hB1⟩
  case round =>
    clear hA1 lA1 ho1 hB1
    obtain ⟨k, hk, rfl, ho, hb⟩ := hrel
    by_cases hlt : k < n
    · have hr := h1.below hb
      obtain ⟨b, off, rfl, g1⟩ := hr.at k hlt
      have hx : k < xs.length := by have := HL.out; omega
      rw [getD_at hx] at g1
      have hle := HLet.out xs[k] (List.getElem_mem hx)
      have hpl := HP.out xs[k] (List.getElem_mem hx)
      obtain ⟨j, hj⟩ : ∃ j : Nat, plc xs[k] = j := ⟨(plc xs[k]).toNat, by omega⟩
      have hjs : j + 1 < s := by omega
      have es : strd s (xs.take (k + 1)) = swp (strd s (xs.take k)) j := by
        rw [strd_succ s xs k hx, hj]; rfl
      have HJ := Lib.hid hj
      have HS := Lib.hid es
      have b1 : -1000 ≤ xs[k] := by omega
      have b2 : xs[k] ≤ 1000 := by omega
      clear hle hpl hj es h1
      go_wp2_with fail
      refine (placeOf_any _ _ b1 b2).mono ?_
      rintro e w2 ⟨rfl, rfl⟩
      rw [HJ.out]
      obtain ⟨gp, op, rfl, _⟩ := ho.row.at j (by omega)
      obtain ⟨rfl, hc, hf⟩ := ho.cells
      have hcj := hc j (by omega)
      have hcj1 := hc (j + 1) (by omega)
      have hfj := hf j
      have hfj1 := hf (j + 1)
      have hwj : IntKind.i64.wrap ((j : Int) + 1) = ((j + 1 : Nat) : Int) := (IntWalk.i64_in _ (by omega)).trans (by simp)
      clear hc hf
      obtain ⟨X, hX⟩ : ∃ X, X = (strd s (xs.take k)).getD j 0 := ⟨_, rfl⟩
      obtain ⟨Y, hY⟩ : ∃ Y, Y = (strd s (xs.take k)).getD (j + 1) 0 := ⟨_, rfl⟩
      have HW : Hid (swp (strd s (xs.take k)) j = ((strd s (xs.take k)).set j Y).set (j + 1) X) := Lib.hid (by rw [hX, hY]; rfl)
      rw [← hX] at hcj
      rw [← hY] at hcj1
      clear hX hY
      go_wp2
      go_region
      all_goals go_wp2
      all_goals go_roundw
      case rel =>
        refine ⟨k + 1, by omega, by go_num, ?_, ?_⟩
        · rw [HS.out, HW.out]
          exact ((ho.set j Y).set (j + 1) X)
        · have hgp : w.heap.size ≤ gp := by have := ho.lt.1; omega
          exact below_drewN (below_setne (below_setne (a := ⟨gp, j, none⟩) hb hgp _) (a := ⟨gp, j + 1, none⟩) hgp _) 1
      case measure => simp [intOf]; omega
    · obtain rfl : k = n := by omega
      rw [List.take_of_length_le (by have := HL.out; omega)] at ho
      have hmem := (strd_isP s xs HP.out).mem
      go_wp2_with fail
      refine (inverse_any _ _ _ _ _ ho.row (by omega) hmem).mono ?_
      rintro e w2 ⟨a2, c2, rfl, ho2, hb2⟩
      go_wp2
      go_ret
      exact ⟨_, _, rfl, ho2.mono hb.size, below_th hb hb2⟩
end Go.Proofs.YtkjpkdmnjbjjaaaGreat

namespace Go.Proofs.YtkjpkdmnjbjjaaaGreat
set_option maxRecDepth 100000
set_option linter.unusedVariables false
set_option linter.unusedSimpArgs false
open Go.RowKit
def thL (p q : List Int) : List Int := p.map fun x => q.getD x.toNat 0
theorem thL_len (p q : List Int) : (thL p q).length = p.length := by simp [thL]
theorem thL_succ (p q : List Int) {k : Nat} (h : k < p.length) : thL (p.take (k + 1)) q = thL (p.take k) q ++ [q.getD p[k].toNat 0] := by
  simp only [thL, List.take_succ_eq_append_getElem h, List.map_append, List.map_cons, List.map_nil]
set_option maxHeartbeats 2000000 in
theorem l01Then_any (a1 a2 : Option Addr) (n m c1 c2 : Nat) (p q : List Int) (w : World) (h1 : Row w a1 n p) (h2 : Row w a2 m q) (hm : n ≤ 1000000) (hp : ∀ x ∈ p, 0 ≤ x ∧ x < m) :
    Calls Tryz.prog 210 #[.slice a1 n c1, .slice a2 m c2] w fun e w' => ∃ a' c', e = .returned (.slice a' n c') ∧ Own w' w.heap.size a' n c' (thL p q) ∧ Below w.heap.size w w' := by
  have HL := Lib.hid h1.len; have HP := Lib.hid hp
  clear hp
  go_enter Tryz.func210, Tryz.ntmps210
  go_wp2
  go_loopw [5, 6] (fun s i wr => ∃ (k : Nat) (a' : Option Addr) (c' : Nat), k ≤ n ∧ i = .int .i64 k ∧ s = .slice a' k c' ∧ Own wr w.heap.size a' k c' (thL (p.take k) q) ∧ Below w.heap.size w wr) (fun _ i _ => n - (intOf i).toNat)
  case atStart => exact ⟨0, _, _, Nat.zero_le _, rfl, rfl, Own.fresh w rfl, below_al (Below.refl _ _) _⟩
  case round =>
    obtain ⟨k, a', c', hk, rfl, rfl, ho, hq⟩ := hrel
    by_cases hlt : k < n
    · have hx : k < p.length := by have := HL.out; omega
      obtain ⟨b1, o1, rfl, g1⟩ := (h1.below hq).at k hlt
      rw [getD_at hx] at g1
      have hv := HP.out p[k] (List.getElem_mem hx)
      obtain ⟨v, hve⟩ : ∃ v : Nat, p[k] = v := ⟨p[k].toNat, by omega⟩
      have HST := Lib.hid (thL_succ p q hx)
      rw [hve] at g1 hv HST
      rw [Int.toNat_natCast] at HST
      have hvm : v < m := by omega
      obtain ⟨b2, o2, rfl, g2⟩ := (h2.below hq).at v hvm
      obtain ⟨V, HV⟩ : ∃ V, Hid (q.getD v 0 = V) := ⟨_, rfl⟩
      rw [HV.out] at g2 HST
      have i1 : (0 : Int) ≤ (v : Int) := by omega
      have i2 : (v : Int) < (m : Int) := by omega
      have hwq := hq.size
      clear hve
      go_wp2_with (at_builtin; refine app1 rfl rfl ho rfl rfl (by omega) hwq ?_; intro g' cc w8 hO hg8 hs8 hb8)
      go_roundw
      case rel => exact ⟨k + 1, _, cc, by omega, by go_num, rfl, by rw [HST.out]; exact hO, hq.trans hb8⟩
      case measure => simp [intOf]; omega
    · obtain rfl : k = n := by omega
      go_wp2
      go_ret
      have e : p.take k = p := List.take_of_length_le (by have := HL.out; omega)
      rw [e] at ho
      exact ⟨_, _, rfl, ho, hq⟩
def cjL (x y : List Int) : List Int := thL (thL (backF x) y) x
theorem thL_mem {p q : List Int} {n : Nat} (hp : ∀ x ∈ p, 0 ≤ x ∧ x < q.length) (hq : ∀ x ∈ q, 0 ≤ x ∧ x < n) : ∀ x ∈ thL p q, 0 ≤ x ∧ x < n := by
  intro x hx
  obtain ⟨y, hy, rfl⟩ := List.mem_map.1 hx
  have := hp y hy
  have hl : y.toNat < q.length := by omega
  rw [getD_at hl]
  exact hq _ (List.getElem_mem hl)
end Go.Proofs.YtkjpkdmnjbjjaaaGreat

namespace Go.Proofs.YtkjpkdmnjbjjaaaGreat
set_option maxRecDepth 100000
set_option linter.unusedVariables false
set_option linter.unusedSimpArgs false
open Go.RowKit
def revK (xs : List Int) (k : Nat) : List Int := (List.range xs.length).map fun i => if i < k ∨ xs.length ≤ i + k then xs.getD (xs.length - 1 - i) 0 else xs.getD i 0
theorem revK_len (xs : List Int) (k : Nat) : (revK xs k).length = xs.length := by simp [revK]
theorem revK_getD (xs : List Int) (k i : Nat) (h : i < xs.length) : (revK xs k).getD i 0 = if i < k ∨ xs.length ≤ i + k then xs.getD (xs.length - 1 - i) 0 else xs.getD i 0 := by
  simp [revK, List.getD_eq_getElem?_getD, List.getElem?_map, h]
theorem getD_ext {xs ys : List Int} (hl : xs.length = ys.length) (h : ∀ i, i < xs.length → xs.getD i 0 = ys.getD i 0) : xs = ys := by
  refine List.ext_getElem hl fun i h1 h2 => ?_
  have := h i h1
  simpa [List.getD_eq_getElem?_getD, h1, h2] using this
theorem revK_zero (xs : List Int) : revK xs 0 = xs := by
  refine getD_ext (by rw [revK_len]) fun i hi => ?_
  rw [revK_len] at hi
  rw [revK_getD _ _ _ hi, if_neg (by omega)]
theorem revK_end (xs : List Int) (k : Nat) (h : xs.length ≤ 2 * k + 1) : revK xs k = xs.reverse := by
  refine getD_ext (by rw [revK_len, List.length_reverse]) fun i hi => ?_
  rw [revK_len] at hi
  rw [revK_getD _ _ _ hi]
  have e : xs.reverse.getD i 0 = xs.getD (xs.length - 1 - i) 0 := by
    simp [List.getD_eq_getElem?_getD, List.getElem?_reverse hi]
  rw [e]
  by_cases hc : i < k ∨ xs.length ≤ i + k
  · rw [if_pos hc]
  · rw [if_neg hc]
    have : xs.length - 1 - i = i := by omega
    rw [this]
theorem getD_set (xs : List Int) (j i : Nat) (x : Int) (h : i < xs.length) : (xs.set j x).getD i 0 = if i = j then x else xs.getD i 0 := by
  simp only [List.getD_eq_getElem?_getD, List.getElem?_set]
  by_cases e : i = j
  · subst e; simp [h]
  · rw [if_neg e, if_neg (fun h => e h.symm)]
theorem revK_step (xs : List Int) (k : Nat) (h : 2 * k + 1 < xs.length) :
    ((revK xs k).set k (xs.getD (xs.length - 1 - k) 0)).set (xs.length - 1 - k) (xs.getD k 0) = revK xs (k + 1) := by
  refine getD_ext (by simp [revK_len]) fun i hi => ?_
  simp [revK_len] at hi
  rw [getD_set _ _ _ _ (by simpa [revK_len] using hi), getD_set _ _ _ _ (by simpa [revK_len] using hi), revK_getD _ _ _ hi, revK_getD _ _ _ hi]
  by_cases h1 : i = xs.length - 1 - k
  · subst h1
    rw [if_pos rfl, if_pos (by omega)]
    congr 1; omega
  · rw [if_neg h1]
    by_cases h2 : i = k
    · subst h2
      rw [if_pos rfl, if_pos (by omega)]
    · rw [if_neg h2]
      by_cases h3 : i < k ∨ xs.length ≤ i + k
      · rw [if_pos h3, if_pos (by omega)]
      · rw [if_neg h3, if_neg (by omega)]
set_option maxHeartbeats 1000000 in
theorem reverse_any (a : Option Addr) (n c lo : Nat) (xs : List Int) (w : World) (h1 : Own w lo a n c xs) :
    Calls Tryz.prog 106 #[.slice a n c] w fun e w' => e = .returned (.tuple #[]) ∧ Own w' lo a n c xs.reverse ∧ Touch (fun g => a = some ⟨g, 0, none⟩) w w' := by
  have hcap := h1.cap
  have hl := h1.len
  have HL := Lib.hid hl; clear hl
  go_enter Tryz.func106, Tryz.ntmps106
  go_wp2
  go_loopw [2, 3] (fun i j wr => ∃ k : Nat, 2 * k ≤ n + 1 ∧ i = .int .i64 k ∧ j = .int .i64 ((n : Int) - 1 - k) ∧ Own wr lo a n c (revK xs k) ∧ Touch (fun g => a = some ⟨g, 0, none⟩) w wr) (fun i _ _ => n - (intOf i).toNat)
  case atStart => exact ⟨0, by omega, rfl, by simp, by rw [revK_zero]; exact h1, Touch.refl _ _⟩
  case round =>
    obtain ⟨k, hk, rfl, rfl, ho, ht⟩ := hrel
    by_cases hlt : 2 * k + 1 < n
    · obtain ⟨g, o, rfl, _⟩ := ho.row.at k (by omega)
      obtain ⟨rfl, hc, hf⟩ := ho.cells
      have hxl : xs.length = n := HL.out.symm
      obtain ⟨m, hm⟩ : ∃ m, m = n - 1 - k := ⟨_, rfl⟩
      have hkm : k < m := by omega
      have hmn : m < n := by omega
      have hck := hc k (by omega)
      have hcj := hc m (by omega)
      rw [revK_getD _ _ _ (by omega), if_neg (by omega)] at hck hcj
      have hfk := hf k
      have hfj := hf m
      have ej : (n : Int) - 1 - k = (m : Int) := by omega
      have es : ((revK xs k).set k (xs.getD m 0)).set m (xs.getD k 0) = revK xs (k + 1) := by
        have := revK_step xs k (by omega)
        rw [hxl, ← hm] at this; exact this
      obtain ⟨X, hX⟩ : ∃ X, X = xs.getD k 0 := ⟨_, rfl⟩
      obtain ⟨Y, hY⟩ : ∃ Y, Y = xs.getD m 0 := ⟨_, rfl⟩
      rw [← hX] at hck es
      rw [← hY] at hcj es
      clear hc hf
      have HS := Lib.hid es
      have HM := Lib.hid hm
      clear es hxl hX hY hm
      rw [ej]; clear ej
      go_wp2
      go_region
      all_goals go_wp2
      all_goals go_roundw
      case rel =>
        refine ⟨k + 1, by omega, by go_num, ?_, ?_, ?_⟩
        · have := HM.out
          exact congrArg (Value.int .i64) (by omega)
        · rw [← HS.out]
          exact (ho.set k Y).set m X
        · exact Touch.drewN (Touch.set (p := ⟨g, m, none⟩) (Touch.set (p := ⟨g, k, none⟩) ht rfl _) rfl _) 1
      case measure => simp [intOf]; omega
    · go_wp2
      go_end0
      refine ⟨rfl, ?_, ht⟩
      rw [revK_end _ _ (by have := HL.out; omega)] at ho
      exact ho
end Go.Proofs.YtkjpkdmnjbjjaaaGreat

namespace Go.Proofs.YtkjpkdmnjbjjaaaGreat
set_option maxRecDepth 100000
set_option linter.unusedVariables false
set_option linter.unusedSimpArgs false
theorem ltr_of {s x : Int} {n : Nat} (hn : s = n) (h : x ≠ 0 ∧ 1 - s ≤ x ∧ x ≤ s - 1) : Ltr n x := by
  refine ⟨h.1, ?_⟩
  unfold plN; split <;> omega
end Go.Proofs.YtkjpkdmnjbjjaaaGreat

namespace Go.Proofs.YtkjpkdmnjbjjaaaGreat
set_option maxRecDepth 100000
set_option linter.unusedVariables false
set_option linter.unusedSimpArgs false
open Go.RowKit
theorem OwnT.fresh (w : World) {b : Nat} (hb : b = w.heap.size) : OwnT (w.alloc (.cells #[] 35)) w.heap.size (some ⟨b, 0, none⟩) 0 0 [] [] :=
  ⟨rfl, rfl, ownsRow_mk rfl (by omega) (Loc.new _ hb _ _) (Nat.le_refl _) (by unfold maxLen; omega) rfl rfl, fun i h => absurd h (by omega), fun i h => absurd h (by omega), fun i j h => absurd h (by omega)⟩
theorem OwnT.snoc {w w' : World} {lo : Nat} {a : Option Addr} {n c : Nat} {vs : List SV} {xss : List (List Int)} {o : Obj} {g cap : Nat} {v : SV} {ys : List Int} (h : OwnT w lo a n c vs xss) (hv : Own w lo v.1 v.2.1 v.2.2 ys)
    (h1 : Apart a v.1) (h2 : ∀ j, j < n → Apart v.1 (vs.getD j svO).1) (ho : w'.ownsRow lo 35 1 (.slice (some ⟨g, 0, none⟩) (n + 1) cap) (n + 1) (vs.map sl ++ [sl v]))
    (hg : w.grownBy w' (Value.slice a n c).ownBlock) (hat : (Value.slice a n c).ownBlock = some g ∨ w.heap.size ≤ g) : OwnT w' lo (some ⟨g, 0, none⟩) (n + 1) cap (vs ++ [v]) (xss ++ [ys]) := by
  have hl := h.len
  have hvl := h.vlen
  have gl : ∀ i, i < n → (vs ++ [v]).getD i svO = vs.getD i svO := fun i hi => by simp [List.getD_eq_getElem?_getD, List.getElem?_append_left (show i < vs.length by omega)]
  have gn : (vs ++ [v]).getD n svO = v := by rw [← hvl]; simp [List.getD_eq_getElem?_getD]
  have xl : ∀ i, i < n → (xss ++ [ys]).getD i [] = xss.getD i [] := fun i hi => by simp [List.getD_eq_getElem?_getD, List.getElem?_append_left (show i < xss.length by omega)]
  have xn : (xss ++ [ys]).getD n [] = ys := by rw [hl]; simp [List.getD_eq_getElem?_getD]
  have hob : ∀ g', (Value.slice a n c).ownBlock = some g' → a = some ⟨g', 0, none⟩ := fun g' e => by
    rcases h.block with ⟨r1, _⟩ | ⟨g2, cur, r1, _⟩
    · subst r1; simp [Value.ownBlock] at e
    · subst r1; simp [Value.ownBlock] at e; subst e; rfl
  have keepR : ∀ i, i < n → Own w' lo (vs.getD i svO).1 (vs.getD i svO).2.1 (vs.getD i svO).2.2 (xss.getD i []) := fun i hi =>
    (h.row i hi).grown hg fun g' hg' e => h.ap i hi g' (hob g' e.symm) hg'
  have keepV : Own w' lo v.1 v.2.1 v.2.2 ys := hv.grown hg fun g' hg' e => h1 g' (hob g' e.symm) hg'
  have apg : ∀ b : Option Addr, (∀ g', b = some ⟨g', 0, none⟩ → g' < w.heap.size) → Apart a b → Apart (some ⟨g, 0, none⟩) b := fun b hb hab g' e hb' => by
    cases e
    rcases hat with hat | hat
    · exact hab g (hob g hat) hb'
    · have := hb g hb'; omega
  refine ⟨by simp [hl], by simp [hvl], by simpa using ho, fun i hi => ?_, fun i hi => ?_, fun i j hi hj hij => ?_⟩
  · by_cases e : i < n
    · rw [gl i e, xl i e]; exact keepR i e
    · obtain rfl : i = n := by omega
      rw [gn, xn]; exact keepV
  · by_cases e : i < n
    · rw [gl i e]; exact apg _ (h.row i e).hi (h.ap i e)
    · obtain rfl : i = n := by omega
      rw [gn]; exact apg _ hv.hi h1
  · by_cases e : i < n
    · by_cases e' : j < n
      · rw [gl i e, gl j e']; exact h.pw i j e e' hij
      · obtain rfl : j = n := by omega
        rw [gl i e, gn]; exact (h2 i e).symm
    · obtain rfl : i = n := by omega
      rw [gn, gl j (by omega)]; exact h2 j (by omega)
theorem appT1 {ops : Array Oper} {rest : List Oper} {o : Oper} {a : Act} {Q : Exit → Act → World → Prop} {w : World} (hgd : o.guard = none) {s x : Operand}
    (ho : o.op = .call { callee := .builtin .append, args := #[s, x], argTypes := #[24, 24] }) {lo : Nat} {ad : Option Addr} {n c : Nat} {vs : List SV} {xss : List (List Int)} (hown : OwnT w lo ad n c vs xss) (hs : a.eval s = .slice ad n c)
    {va : Option Addr} {vn vc : Nat} {ys : List Int} {t : TypeId} (hv : Own w lo va vn vc ys) (h1 : Apart ad va) (h2 : ∀ j, j < n → Apart va (vs.getD j svO).1) (hx : a.eval x = .slice (some ⟨w.heap.size, 0, none⟩) 1 1) (hlen : n + 1 ≤ 1000000000000) (hlo : lo ≤ w.heap.size)
    (h : ∀ g c' w', OwnT w' lo (some ⟨g, 0, none⟩) (n + 1) c' (vs ++ [(va, vn, vc)]) (xss ++ [ys]) → Below lo w w' → wpList Tryz.prog ops Q rest (a.put o.dst (.slice (some ⟨g, 0, none⟩) (n + 1) c')) w') :
    wpList Tryz.prog ops Q (o :: rest) a (w.alloc (.cells #[.slice va vn vc] t)) := by
  obtain ⟨i0, hi, hz0, hz1, hz2⟩ := info_parts info_rows
  refine wpList_plain hgd fun _ hK => ?_
  refine wp_append_lies _ s x 24 ho lo 35 i0 (.slice none 0 0) 1 24 und_rows hi hz0 hz1 hz2 rfl (by decide) _ n (vs.map sl) hs (hown.hdr.alloc _) ⟨w.heap.size, 0, none⟩ 1 1 [.slice va vn vc] hx rfl (cell_one_new _ _ _) ?_ (by omega) ?_ ?_ ?_ (w.heap.size + 1) (by simp) ?_
  · intro u hu; simp at hu; subst hu; rfl
  · unfold maxLen; omega
  · omega
  · simp; omega
  · intro g cap w' ho' hg hat hlt
    have hg' : w.grownBy w' (Value.slice ad n c).ownBlock := by
      have h1 := World.grownBy_alloc w (.cells #[.slice va vn vc] t) (Value.slice ad n c).ownBlock
      exact ⟨hg.os.trans h1.os, hg.tape.trans h1.tape, hg.output.trans h1.output, Nat.le_trans h1.size hg.size, fun k hk hn => (hg.block k (Nat.lt_of_lt_of_le hk h1.size) hn).trans (h1.block k hk hn)⟩
    refine hK _ _ (h g cap w' (hown.snoc (o := .cells #[] t) (v := (va, vn, vc)) hv h1 h2 ho' hg' ?_) ((Below.refl _ _).grown hg' hlo (fun k hk => (World.ownsRow.lt hown.hdr k hk).1)))
    rcases hat with hat | hat
    · exact .inl hat
    · exact .inr (by omega)
end Go.Proofs.YtkjpkdmnjbjjaaaGreat

namespace Go.Proofs.YtkjpkdmnjbjjaaaGreat
set_option maxRecDepth 100000
set_option linter.unusedVariables false
set_option linter.unusedSimpArgs false
open Go.RowKit
def RowS (a : Option Addr) (g : Nat) : Prop := a = some ⟨g, 0, none⟩
section
variable {w w' : World} {lo : Nat} {a a1 a2 : Option Addr} {n n1 n2 c c1 c2 : Nat} {xs : List Int}
theorem Own.uLo (h : Own w lo a n c xs) : ∀ g, RowS a g → lo ≤ g := h.lo
theorem Own.uHi (h : Own w lo a n c xs) : ∀ g, RowS a g → g < w.heap.size := h.hi
theorem Own.uKeep (h : Own w lo a n c xs) {S : Nat → Prop} (hm : Marked S w w') (hS : ∀ g, RowS a g → ¬ S g) : Own w' lo a n c xs := h.keep fun g hg hlt => hm.block g hlt (hS g hg)
end
theorem Marked.trans {S : Nat → Prop} {a b c : World} (h : Marked S a b) (k : Marked S b c) : Marked S a c :=
  ⟨k.os.trans h.os, k.tape.trans h.tape, k.output.trans h.output, Nat.le_trans h.size k.size, fun i hi hs => (k.block i (Nat.lt_of_lt_of_le hi h.size) hs).trans (h.block i hi hs)⟩
theorem Marked.mono {S T : Nat → Prop} {w w' : World} (h : Marked S w w') (hS : ∀ g, S g → T g) : Marked T w w' :=
  ⟨h.os, h.tape, h.output, h.size, fun k hk hs => h.block k hk (fun x => hs (hS k x))⟩
theorem Marked.alloc {S : Nat → Prop} {w w' : World} {o : Obj} (h : Marked S (w.alloc o) w') : Marked S w w' :=
  ⟨h.os, h.tape, h.output, Nat.le_trans (by simp) h.size, fun k hk hs => (h.block k (by simp; omega) hs).trans (Below.heap_alloc _ _ _ hk)⟩
end Go.Proofs.YtkjpkdmnjbjjaaaGreat

namespace Go.Proofs.YtkjpkdmnjbjjaaaGreat
set_option maxRecDepth 100000
set_option linter.unusedVariables false
set_option linter.unusedSimpArgs false
open Go.RowKit
/-! ### sz -/
/-! ### eq -/
/-! ### held -/
/-! ### mark -/
/-! ### to -/
theorem copyT_step (xss : List (List Int)) (n k : Nat) (hl : n = xss.length) (hx : k < xss.length) : (xss.take k ++ List.replicate (n - k) []).set k xss[k] = xss.take (k + 1) ++ List.replicate (n - (k + 1)) [] := by
  have e : (xss.take k).length = k := by rw [List.length_take]; omega
  rw [List.set_append_right _ _ (by omega), e, Nat.sub_self, List.take_succ_eq_append_getElem hx, List.append_assoc]
  congr 1
  obtain ⟨m, hm⟩ : ∃ m, n - k = m + 1 := ⟨n - k - 1, by omega⟩
  have hm' : n - (k + 1) = m := by omega
  rw [hm, hm', List.replicate_succ]
  rfl
/-! ### in one form: 'Below' -/
def RetT (w : World) (xss : List (List Int)) (code : Int) (e : Ending) (w' : World) : Prop :=
  ∃ a n c vs, e = .returned (.tuple #[.slice a n c, .int .i64 code]) ∧ OwnT w' w.heap.size a n c vs xss ∧ Below w.heap.size w w'
def RetR (w : World) (xs : List Int) (code : Int) (e : Ending) (w' : World) : Prop :=
  ∃ a n c, e = .returned (.tuple #[.slice a n c, .int .i64 code]) ∧ Own w' w.heap.size a n c xs ∧ Below w.heap.size w w'
def RetI (w : World) (x : Int) (code : Int) (e : Ending) (w' : World) : Prop := e = .returned (.tuple #[.int .i64 x, .int .i64 code]) ∧ Below w.heap.size w w'
def RetO (w : World) (x : Bool) (code : Int) (e : Ending) (w' : World) : Prop := e = .returned (.tuple #[.bool x, .int .i64 code]) ∧ Below w.heap.size w w'
end Go.Proofs.YtkjpkdmnjbjjaaaGreat

namespace Go.Proofs.YtkjpkdmnjbjjaaaGreat
set_option maxRecDepth 100000
set_option linter.unusedVariables false
set_option linter.unusedSimpArgs false
open Go.RowKit
def TblS (a : Option Addr) (n : Nat) (vs : List SV) (g : Nat) : Prop := a = some ⟨g, 0, none⟩ ∨ ∃ i, i < n ∧ (vs.getD i svO).1 = some ⟨g, 0, none⟩
section
variable {w w' : World} {lo : Nat} {a a1 a2 : Option Addr} {n n1 n2 c c1 c2 : Nat} {vs : List SV} {xss : List (List Int)}
theorem OwnT.uLo (h : OwnT w lo a n c vs xss) : ∀ g, TblS a n vs g → lo ≤ g := fun g hg => h.blo g hg
theorem OwnT.uHi (h : OwnT w lo a n c vs xss) : ∀ g, TblS a n vs g → g < w.heap.size := fun g hg => h.bhi g hg
theorem OwnT.uKeep (h : OwnT w lo a n c vs xss) {S : Nat → Prop} (hm : Marked S w w') (hS : ∀ g, TblS a n vs g → ¬ S g) : OwnT w' lo a n c vs xss := h.keep fun g hg hlt => hm.block g hlt (hS g hg)
end
end Go.Proofs.YtkjpkdmnjbjjaaaGreat

namespace Go.Proofs.YtkjpkdmnjbjjaaaGreat
set_option maxRecDepth 100000
set_option linter.unusedVariables false
set_option linter.unusedSimpArgs false
open Go.RowKit
theorem wp_appT1 {o : Oper} {a : Act} {K : Act → World → Prop} {Q : Exit → Act → World → Prop} {w : World} {s x : Operand}
    (ho : o.op = .call { callee := .builtin .append, args := #[s, x], argTypes := #[24, 24] }) {lo : Nat} {ad : Option Addr} {n c : Nat} {vs : List SV} {xss : List (List Int)} (hown : OwnT w lo ad n c vs xss) (hs : a.eval s = .slice ad n c)
    {va : Option Addr} {vn vc : Nat} {ys : List Int} {t : TypeId} (hv : Own w lo va vn vc ys) (h1 : Apart ad va) (h2 : ∀ j, j < n → Apart va (vs.getD j svO).1) (hx : a.eval x = .slice (some ⟨w.heap.size, 0, none⟩) 1 1) (hlen : n + 1 ≤ 1000000000000) (hlo : lo ≤ w.heap.size)
    (h : ∀ g c' w', OwnT w' lo (some ⟨g, 0, none⟩) (n + 1) c' (vs ++ [(va, vn, vc)]) (xss ++ [ys]) → w.grownBy w' (Value.slice ad n c).ownBlock → ((Value.slice ad n c).ownBlock = some g ∨ w.heap.size ≤ g) → Below lo w w' → K (a.put o.dst (.slice (some ⟨g, 0, none⟩) (n + 1) c')) w') :
    Oper.wp Tryz.prog o a (w.alloc (.cells #[.slice va vn vc] t)) K Q := by
  obtain ⟨i0, hi, hz0, hz1, hz2⟩ := info_parts info_rows
  refine wp_append_lies _ s x 24 ho lo 35 i0 (.slice none 0 0) 1 24 und_rows hi hz0 hz1 hz2 rfl (by decide) _ n (vs.map sl) hs (hown.hdr.alloc _) ⟨w.heap.size, 0, none⟩ 1 1 [.slice va vn vc] hx rfl (cell_one_new _ _ _) ?_ (by omega) ?_ ?_ ?_ (w.heap.size + 1) (by simp) ?_
  · intro u hu; simp at hu; subst hu; rfl
  · unfold maxLen; omega
  · omega
  · simp; omega
  · intro g cap w' ho' hg hat hlt
    have hg' : w.grownBy w' (Value.slice ad n c).ownBlock := by
      have h1 := World.grownBy_alloc w (.cells #[.slice va vn vc] t) (Value.slice ad n c).ownBlock
      exact ⟨hg.os.trans h1.os, hg.tape.trans h1.tape, hg.output.trans h1.output, Nat.le_trans h1.size hg.size, fun k hk hn => (hg.block k (Nat.lt_of_lt_of_le hk h1.size) hn).trans (h1.block k hk hn)⟩
    have hat' : (Value.slice ad n c).ownBlock = some g ∨ w.heap.size ≤ g := by
      rcases hat with hat | hat
      · exact .inl hat
      · exact .inr (by omega)
    exact h g cap w' (hown.snoc (o := .cells #[] t) (v := (va, vn, vc)) hv h1 h2 ho' hg' hat') hg' hat' ((Below.refl _ _).grown hg' hlo (fun k hk => (World.ownsRow.lt hown.hdr k hk).1))
theorem appT1g {ops : Array Oper} {rest : List Oper} {o : Oper} {a : Act} {Q : Exit → Act → World → Prop} {w : World} (hgd : o.guard = none) {s x : Operand}
    (ho : o.op = .call { callee := .builtin .append, args := #[s, x], argTypes := #[24, 24] }) {lo : Nat} {ad : Option Addr} {n c : Nat} {vs : List SV} {xss : List (List Int)} (hown : OwnT w lo ad n c vs xss) (hs : a.eval s = .slice ad n c)
    {va : Option Addr} {vn vc : Nat} {ys : List Int} {t : TypeId} (hv : Own w lo va vn vc ys) (h1 : Apart ad va) (h2 : ∀ j, j < n → Apart va (vs.getD j svO).1) (hx : a.eval x = .slice (some ⟨w.heap.size, 0, none⟩) 1 1) (hlen : n + 1 ≤ 1000000000000) (hlo : lo ≤ w.heap.size)
    (h : ∀ g c' w', OwnT w' lo (some ⟨g, 0, none⟩) (n + 1) c' (vs ++ [(va, vn, vc)]) (xss ++ [ys]) → w.grownBy w' (Value.slice ad n c).ownBlock → ((Value.slice ad n c).ownBlock = some g ∨ w.heap.size ≤ g) → Below lo w w' → wpList Tryz.prog ops Q rest (a.put o.dst (.slice (some ⟨g, 0, none⟩) (n + 1) c')) w') :
    wpList Tryz.prog ops Q (o :: rest) a (w.alloc (.cells #[.slice va vn vc] t)) :=
  wpList_plain hgd fun _ hK => wp_appT1 ho hown hs hv h1 h2 hx hlen hlo fun g c' w' a b c d => hK _ _ (h g c' w' a b c d)
theorem step_appT1n {ops : Array Oper} {o : Oper} {a : Act} {K : Act → World → Prop} {Q : Exit → Act → World → Prop} {E : Prop} {w : World} (hgd : o.guard = none) {s x : Operand}
    (ho : o.op = .call { callee := .builtin .append, args := #[s, x], argTypes := #[24, 24] }) {lo : Nat} {ad : Option Addr} {n c : Nat} {vs : List SV} {xss : List (List Int)} (hown : OwnT w lo ad n c vs xss) (hs : a.eval s = .slice ad n c)
    {va : Option Addr} {vn vc : Nat} {ys : List Int} {t : TypeId} (hv : Own w lo va vn vc ys) (h1 : Apart ad va) (h2 : ∀ j, j < n → Apart va (vs.getD j svO).1) (hx : a.eval x = .slice (some ⟨w.heap.size, 0, none⟩) 1 1) (hlen : n + 1 ≤ 1000000000000) (hlo : lo ≤ w.heap.size)
    (h : ∀ g c' w', OwnT w' lo (some ⟨g, 0, none⟩) (n + 1) c' (vs ++ [(va, vn, vc)]) (xss ++ [ys]) → w.grownBy w' (Value.slice ad n c).ownBlock → ((Value.slice ad n c).ownBlock = some g ∨ w.heap.size ≤ g) → Below lo w w' → K (a.put o.dst (.slice (some ⟨g, 0, none⟩) (n + 1) c')) w') :
    if Region.wanted o (yielded ops a.tmps) = true then Oper.wp Tryz.prog o a (w.alloc (.cells #[.slice va vn vc] t)) K Q else E := by
  have hw : Region.wanted o (yielded ops a.tmps) = true := by simp [Region.wanted, hgd]
  rw [if_pos hw]
  exact wp_appT1 ho hown hs hv h1 h2 hx hlen hlo h
/-! ### two slices of slices -/
def ApT (a : Option Addr) (n : Nat) (vs : List SV) (a' : Option Addr) (n' : Nat) (vs' : List SV) : Prop := ∀ g, TblS a n vs g → ¬ TblS a' n' vs' g
theorem ApT.symm {a a' : Option Addr} {n n' : Nat} {vs vs' : List SV} (h : ApT a n vs a' n' vs') : ApT a' n' vs' a n vs := fun g h1 h2 => h g h2 h1
section
variable {w w' : World} {lo : Nat} {a a' : Option Addr} {n n' c c' : Nat} {vs vs' : List SV} {xss yss : List (List Int)}
theorem OwnT.ownBlk (h : OwnT w lo a n c vs xss) {g : Nat} (e : (Value.slice a n c).ownBlock = some g) : TblS a n vs g := by
  rcases h.block with ⟨r1, _⟩ | ⟨g2, cur, r1, _⟩
  · subst r1; simp [Value.ownBlock] at e
  · subst r1; simp [Value.ownBlock] at e; subst e; exact .inl rfl
theorem OwnT.other (h : OwnT w lo a n c vs xss) (h' : OwnT w lo a' n' c' vs' yss) (hap : ApT a n vs a' n' vs') (hg : w.grownBy w' (Value.slice a n c).ownBlock) : OwnT w' lo a' n' c' vs' yss :=
  h'.keep fun g hg' hlt => hg.block g hlt fun e => hap g (h.ownBlk e.symm) hg'
theorem ApT.snoc (h : OwnT w lo a n c vs xss) (h' : OwnT w lo a' n' c' vs' yss) (hap : ApT a n vs a' n' vs') {g : Nat} {v : SV} (hvl : vs.length = n) (hat : (Value.slice a n c).ownBlock = some g ∨ w.heap.size ≤ g) (hv : ∀ q, v.1 = some ⟨q, 0, none⟩ → ¬ TblS a' n' vs' q) : ApT (some ⟨g, 0, none⟩) (n + 1) (vs ++ [v]) a' n' vs' := by
  intro q hq h2
  rcases hq with e | ⟨i, hi, e⟩
  · cases e
    rcases hat with hat | hat
    · exact hap _ (h.ownBlk hat) h2
    · have := h'.uHi _ h2; omega
  · by_cases hin : i < n
    · have : (vs ++ [v]).getD i svO = vs.getD i svO := by simp [List.getD_eq_getElem?_getD, List.getElem?_append_left (show i < vs.length by omega)]
      rw [this] at e
      exact hap _ (.inr ⟨i, hin, e⟩) h2
    · obtain rfl : i = n := by omega
      have : (vs ++ [v]).getD i svO = v := by rw [← hvl]; simp [List.getD_eq_getElem?_getD]
      rw [this] at e
      exact hv _ e h2
end
end Go.Proofs.YtkjpkdmnjbjjaaaGreat
