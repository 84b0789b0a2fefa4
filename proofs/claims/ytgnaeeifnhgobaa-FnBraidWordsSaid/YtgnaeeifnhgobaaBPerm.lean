/-
  The permutation of a braid: what the program's and the reference's functions compute.
  No condition but bounds.
-/
import Derived.Test.YtgnaeeifnhgobaaBase
namespace Go.Proofs.Ytgnaeeifnhgobaa
set_option maxRecDepth 100000
set_option linter.unusedVariables false
set_option linter.unusedSimpArgs false
open Go.RowKit

/-- p is the list of f on n elements, and g undoes f -/
def IsPf (n : Nat) (p : List Int) (f g : Nat → Nat) : Prop := p.length = n ∧ (∀ i, i < n → f i < n ∧ g i < n ∧ f (g i) = i ∧ g (f i) = i) ∧ ∀ i, i < n → p.getD i 0 = (f i : Int)
def IsP (n : Nat) (p : List Int) : Prop := ∃ f g, IsPf n p f g
theorem IsP.len {n : Nat} {p : List Int} (h : IsP n p) : p.length = n := by obtain ⟨f, g, h, _⟩ := h; exact h
theorem IsP.mem {n : Nat} {p : List Int} (h : IsP n p) : ∀ x ∈ p, 0 ≤ x ∧ x < n := by
  obtain ⟨f, g, hl, h1, h2⟩ := h
  intro x hx
  obtain ⟨i, hi, rfl⟩ := List.getElem_of_mem hx
  have := h2 i (by omega)
  rw [getD_at hi] at this
  have := (h1 i (by omega)).1
  omega
theorem unit_isP (n : Nat) : IsP n (unitL n) := ⟨id, id, unitL_len n, fun i h => ⟨h, h, rfl, rfl⟩, fun i h => unitL_get n i h⟩

def swp (xs : List Int) (k : Nat) : List Int := (xs.set k (xs.getD (k + 1) 0)).set (k + 1) (xs.getD k 0)
def sig (k i : Nat) : Nat := if i = k then k + 1 else if i = k + 1 then k else i
theorem sig_sig (k i : Nat) : sig k (sig k i) = i := by
  unfold sig
  by_cases h1 : i = k
  · subst h1; simp
  · by_cases h2 : i = k + 1
    · subst h2; simp
    · simp [h1, h2]
theorem sig_lt (k i n : Nat) (h : k + 1 < n) (hi : i < n) : sig k i < n := by
  unfold sig
  split
  · omega
  · split <;> omega
theorem getD_setz (xs : List Int) (j i : Nat) (x : Int) (h : i < xs.length) : (xs.set j x).getD i 0 = if i = j then x else xs.getD i 0 := by
  simp only [List.getD_eq_getElem?_getD, List.getElem?_set]
  by_cases e : i = j
  · subst e; simp [h]
  · rw [if_neg e, if_neg (fun h => e h.symm)]
theorem swp_get (xs : List Int) (k i : Nat) (h : k + 1 < xs.length) (hi : i < xs.length) : (swp xs k).getD i 0 = xs.getD (sig k i) 0 := by
  unfold swp sig
  rw [getD_setz _ _ _ _ (by rw [List.length_set]; exact hi), getD_setz _ _ _ _ hi]
  by_cases h1 : i = k + 1
  · subst h1; rw [if_pos rfl, if_neg (by omega), if_pos rfl]
  · rw [if_neg h1]
    by_cases h2 : i = k
    · rw [if_pos h2, if_pos h2]
    · rw [if_neg h2, if_neg h2, if_neg h1]
theorem swp_isP {n k : Nat} {p : List Int} (h : IsP n p) (hk : k + 1 < n) : IsP n (swp p k) := by
  obtain ⟨f, g, hl, h1, h2⟩ := h
  refine ⟨fun i => f (sig k i), fun i => sig k (g i), by simp [swp, hl], fun i hi => ?_, fun i hi => ?_⟩
  · have hs := sig_lt k i n hk hi
    refine ⟨(h1 _ hs).1, sig_lt k _ n hk (h1 i hi).2.1, ?_, ?_⟩
    · show f (sig k (sig k (g i))) = i
      rw [sig_sig]; exact (h1 i hi).2.2.1
    · show sig k (g (f (sig k i))) = i
      rw [(h1 _ hs).2.2.2, sig_sig]
  · rw [swp_get p k i (by omega) (by omega)]
    exact h2 _ (sig_lt k i n hk hi)

/-- the strands at the places, after the letters -/
def strd (s : Nat) (xs : List Int) : List Int := xs.foldl (fun a x => swp a (plc x).toNat) (unitL s)
theorem strd_succ (s : Nat) (xs : List Int) (k : Nat) (h : k < xs.length) : strd s (xs.take (k + 1)) = swp (strd s (xs.take k)) (plc xs[k]).toNat := by
  unfold strd
  rw [List.take_succ_eq_append_getElem h, List.foldl_append]; rfl
theorem strd_isP (s : Nat) (xs : List Int) (hx : ∀ x ∈ xs, 0 ≤ plc x ∧ plc x + 1 < s) : IsP s (strd s xs) := by
  have : ∀ (xs p : List Int), (∀ x ∈ xs, 0 ≤ plc x ∧ plc x + 1 < s) → IsP s p → IsP s (xs.foldl (fun a x => swp a (plc x).toNat) p) := by
    intro xs
    induction xs with
    | nil => intro p _ hp; exact hp
    | cons x xs ih =>
      intro p hx hp
      refine ih _ (fun y hy => hx y (List.mem_cons_of_mem _ hy)) (swp_isP hp ?_)
      have := hx x List.mem_cons_self
      omega
  exact this xs _ hx (unit_isP s)
theorem plc_let {s x : Int} (h : x ≠ 0 ∧ 1 - s ≤ x ∧ x ≤ s - 1) : 0 ≤ plc x ∧ plc x + 1 < s := by
  unfold plc; split <;> omega

theorem backK_get (n : Nat) (p : List Int) (f g : Nat → Nat) (h : IsPf n p f g) (k : Nat) (hk : k ≤ n) : ∀ i, i < n → (backK p k).getD i 0 = if g i < k then (g i : Int) else 0 := by
  obtain ⟨hl, h1, h2⟩ := h
  induction k with
  | zero => intro i hi; simp [backK, List.getD_eq_getElem?_getD]; simp [List.getElem?_replicate]; split <;> rfl
  | succ k ih =>
    intro i hi
    rw [backK_succ, getD_setz _ _ _ _ (by rw [backK_len]; omega), h2 k (by omega), ih (by omega) i hi]
    have ht : ((f k : Nat) : Int).toNat = f k := by simp
    rw [ht]
    by_cases e : i = f k
    · subst e
      rw [if_pos rfl, (h1 k (by omega)).2.2.2, if_pos (by omega)]
    · rw [if_neg e]
      have : g i ≠ k := fun hh => e (by rw [← hh]; exact ((h1 i hi).2.2.1).symm)
      by_cases hc : g i < k
      · rw [if_pos hc, if_pos (by omega)]
      · rw [if_neg hc, if_neg (by omega)]
theorem back_isP {n : Nat} {p : List Int} (h : IsP n p) : IsP n (backF p) := by
  obtain ⟨f, g, hp⟩ := h
  have hb := backK_get n p f g hp n (Nat.le_refl _)
  obtain ⟨hl, h1, h2⟩ := hp
  refine ⟨g, f, by rw [backF_len]; exact hl, fun i hi => ⟨(h1 i hi).2.1, (h1 i hi).1, (h1 i hi).2.2.2, (h1 i hi).2.2.1⟩, fun i hi => ?_⟩
  unfold backF; rw [hl, hb i hi, if_pos (h1 i hi).2.1]

/-- the permutation of a braid -/
def brP (s : Nat) (xs : List Int) : List Int := backF (strd s xs)
theorem brP_isP (s : Nat) (xs : List Int) (hx : ∀ x ∈ xs, 0 ≤ plc x ∧ plc x + 1 < s) : IsP s (brP s xs) := back_isP (strd_isP s xs hx)

set_option maxHeartbeats 1000000 in
theorem braidPermutation_any (s : Nat) (a : Option Addr) (n c : Nat) (xs : List Int) (w : World) (h1 : Row w a n xs) (hb : isBr s xs = true) :
    Calls Try.prog 38 #[bAgg s a n c] w fun e w' => ∃ a' c', e = .returned (.slice a' s c') ∧ Own w' w.heap.size a' s c' (brP s xs) ∧ Below w.heap.size w w' := by
  obtain ⟨h26, h30, hlet⟩ := isBr_let hb
  have hl := h1.len
  have hn30 : n ≤ 30 := by omega
  have hpl : ∀ x ∈ xs, 0 ≤ plc x ∧ plc x + 1 < s := fun x hx => plc_let (hlet x hx)
  have HLet := Lib.hid hlet; clear hlet
  have HP := Lib.hid hpl; clear hpl
  have HL := Lib.hid hl; clear hl
  clear hb
  go_enter Try.func38, Try.ntmps38
  have hA := Loc.new w rfl #[.int .i64 s, .slice a n c] 26
  have lA := hA.two
  go_wp2_with fail
  refine (identity_any s _ (by omega)).mono ?_
  rintro e w1 ⟨ap, cp, rfl, ho, hb1⟩
  have hA1 : Loc w1 w.heap.size _ _ := hA.below hb1 (by simp)
  have hB1 : Below w.heap.size w w1 := below_alth (Below.refl _ _) hb1
  have ho1 : Own w1 (w.heap.size + 1) ap s cp (unitL s) := ho.mono (by simp)
  have lA1 := hA1.two
  clear ho hb1 hA lA
  go_wp2
  go_loopw [13] (fun i wr => ∃ (k : Nat), k ≤ n ∧ i = .int .i64 k ∧ Own wr (w.heap.size + 1) ap s cp (strd s (xs.take k)) ∧ Below w.heap.size w wr) (fun i _ => n - (intOf i).toNat)
  case atStart => exact ⟨0, Nat.zero_le _, rfl, by simpa [strd] using ho1, hB1⟩
  case round =>
    clear hA1 lA1 ho1 hB1
    obtain ⟨k, hk, rfl, ho, hb⟩ := hrel
    by_cases hlt : k < n
    · have hr := h1.below hb
      obtain ⟨b, off, rfl, g1⟩ := hr.at k hlt
      have hx : k < xs.length := by have := HL.out; omega
      rw [getD_at hx] at g1
      have hle := HLet.out xs[k] (List.getElem_mem hx)
      have hpl := HP.out xs[k] (List.getElem_mem hx)
      obtain ⟨j, hj⟩ : ∃ j : Nat, plc xs[k] = j := ⟨(plc xs[k]).toNat, by omega⟩
      have hjs : j + 1 < s := by omega
      have es : strd s (xs.take (k + 1)) = swp (strd s (xs.take k)) j := by
        rw [strd_succ s xs k hx, hj]; rfl
      have HJ := Lib.hid hj
      have HS := Lib.hid es
      have b1 : -1000 ≤ xs[k] := by omega
      have b2 : xs[k] ≤ 1000 := by omega
      clear hle hpl hj es h1
      go_wp2_with fail
      refine (placeOf_any _ _ b1 b2).mono ?_
      rintro e w2 ⟨rfl, rfl⟩
      rw [HJ.out]
      obtain ⟨gp, op, rfl, _⟩ := ho.row.at j (by omega)
      obtain ⟨rfl, hc, hf⟩ := ho.cells
      have hcj := hc j (by omega)
      have hcj1 := hc (j + 1) (by omega)
      have hfj := hf j
      have hfj1 := hf (j + 1)
      have hwj : IntKind.i64.wrap ((j : Int) + 1) = ((j + 1 : Nat) : Int) := (IntWalk.i64_in _ (by omega)).trans (by simp)
      clear hc hf
      obtain ⟨X, hX⟩ : ∃ X, X = (strd s (xs.take k)).getD j 0 := ⟨_, rfl⟩
      obtain ⟨Y, hY⟩ : ∃ Y, Y = (strd s (xs.take k)).getD (j + 1) 0 := ⟨_, rfl⟩
      have HW : Hid (swp (strd s (xs.take k)) j = ((strd s (xs.take k)).set j Y).set (j + 1) X) := Lib.hid (by rw [hX, hY]; rfl)
      rw [← hX] at hcj
      rw [← hY] at hcj1
      clear hX hY
      go_wp2
      go_region
      all_goals go_wp2
      all_goals go_roundw
      case rel =>
        refine ⟨k + 1, by omega, by go_num, ?_, ?_⟩
        · rw [HS.out, HW.out]
          exact ((ho.set j Y).set (j + 1) X)
        · have hgp : w.heap.size ≤ gp := by have := ho.lt.1; omega
          exact below_drewN (below_setne (below_setne (a := ⟨gp, j, none⟩) hb hgp _) (a := ⟨gp, j + 1, none⟩) hgp _) 1
      case measure => simp [intOf]; omega
    · obtain rfl : k = n := by omega
      rw [List.take_of_length_le (by have := HL.out; omega)] at ho
      have hmem := (strd_isP s xs HP.out).mem
      go_wp2_with fail
      refine (inverse_any _ _ _ _ _ ho.row (by omega) hmem).mono ?_
      rintro e w2 ⟨a2, c2, rfl, ho2, hb2⟩
      go_wp2
      go_ret
      exact ⟨_, _, rfl, ho2.mono hb.size, below_th hb hb2⟩

end Go.Proofs.Ytgnaeeifnhgobaa
