/-
  The tables of the inverse as they are filled, in plain lists.
  No condition.
-/
import Derived.Test.YthgafpeblpnolaaGreatBase2
namespace Go.Proofs.YthgafpeblpnolaaGreat
set_option linter.unusedVariables false
set_option linter.unusedSimpArgs false

def Shape (n : Nat) (F : List (List Int)) : Prop := F.length = n ∧ ∀ x, x < n → (F.getD x []).length = n
theorem Sq.shape {n : Nat} {t : List (List Int)} (h : Sq n t) : Shape n t := ⟨h.len, fun x hx => h.row hx⟩
theorem Shape.set {n : Nat} {F : List (List Int)} (h : Shape n F) (u v : Nat) (x : Int) : Shape n (F.set u ((F.getD u []).set v x)) := by
  refine ⟨by simp [h.1], fun i hi => ?_⟩
  rw [getD_set' _ _ _ _ _ (by rw [h.1]; exact hi)]
  by_cases e : i = u
  · rw [if_pos e, List.length_set, ← e]; exact h.2 i hi
  · rw [if_neg e]; exact h.2 i hi
theorem Shape.at_ {n : Nat} {F : List (List Int)} (h : Shape n F) (u v : Nat) (x : Int) {i j : Nat} (hi : i < n) (hj : j < n) : ((F.set u ((F.getD u []).set v x)).getD i []).getD j 0 = if i = u ∧ j = v then x else (F.getD i []).getD j 0 := by
  rw [getD_set' _ _ _ _ _ (by rw [h.1]; exact hi)]
  by_cases e : i = u
  · subst e
    rw [if_pos rfl, getD_set' _ _ _ _ _ (by rw [h.2 i hi]; exact hj)]
    by_cases e' : j = v <;> simp [e']
  · rw [if_neg e, if_neg (fun h => e h.1)]
theorem Shape.ext {n : Nat} {F : List (List Int)} {V : Nat → Nat → Int} (h : Shape n F) (hv : ∀ x y, x < n → y < n → (F.getD x []).getD y 0 = V x y) : F = tabF n V := by
  apply List.ext_getElem
  · rw [h.1, tabF_len]
  · intro x h1 h2
    have hx : x < n := by rw [h.1] at h1; exact h1
    have e1 : F.getD x [] = F[x] := by simp [List.getD_eq_getElem?_getD, List.getElem?_eq_getElem h1]
    have e2 : (tabF n V).getD x [] = (tabF n V)[x] := by simp [List.getD_eq_getElem?_getD, List.getElem?_eq_getElem h2]
    have e3 := tabF_get n V x hx
    rw [← e1, ← e2, e3]
    apply List.ext_getElem
    · rw [h.2 x hx]; simp
    · intro y h3 h4
      have hy : y < n := by rw [h.2 x hx] at h3; exact h3
      have := hv x y hx hy
      rw [List.getD_eq_getElem?_getD, List.getElem?_eq_getElem h3] at this
      simpa using this

/-- what is filled in of the inverse: the pairs that are done -/
def InvAt (n : Nat) (f g : List (List Int)) (done : Nat → Nat → Prop) (F G : List (List Int)) : Prop :=
  Shape n F ∧ Shape n G ∧ ∀ x y, x < n → y < n → done x y → (F.getD (tv f x y) []).getD (tv g x y) 0 = (x : Int) ∧ (G.getD (tv f x y) []).getD (tv g x y) 0 = (y : Int)
section
variable {n : Nat} {f g F G : List (List Int)}
theorem InvAt.start (hf : Shape n F) (hg : Shape n G) : InvAt n f g (fun x _ => x < 0) F G := ⟨hf, hg, fun x y _ _ h => absurd h (by omega)⟩
theorem InvAt.begin {k : Nat} (h : InvAt n f g (fun x _ => x < k) F G) : InvAt n f g (fun x y => x < k ∨ (x = k ∧ y < 0)) F G := ⟨h.1, h.2.1, fun x y hx hy hd => h.2.2 x y hx hy (by show x < k; omega)⟩
theorem InvAt.finish {k : Nat} (h : InvAt n f g (fun x y => x < k ∨ (x = k ∧ y < n)) F G) : InvAt n f g (fun x _ => x < k + 1) F G := ⟨h.1, h.2.1, fun x y hx hy hd => h.2.2 x y hx hy (by show x < k ∨ (x = k ∧ y < n); have : x < k + 1 := hd; omega)⟩
theorem InvAt.step (hn : 1 ≤ n) (hf : Sq n f) (hg : Sq n g) (hc : collOk n f g = true) {k j : Nat} (hk : k < n) (hj : j < n) (h : InvAt n f g (fun x y => x < k ∨ (x = k ∧ y < j)) F G) :
    InvAt n f g (fun x y => x < k ∨ (x = k ∧ y < j + 1)) (F.set (tv f k j) ((F.getD (tv f k j) []).set (tv g k j) (k : Int))) (G.set (tv f k j) ((G.getD (tv f k j) []).set (tv g k j) (j : Int))) := by
  refine ⟨h.1.set _ _ _, h.2.1.set _ _ _, fun x y hx hy hd => ?_⟩
  rw [h.1.at_ _ _ _ (hf.lt hx hy) (hg.lt hx hy), h.2.1.at_ _ _ _ (hf.lt hx hy) (hg.lt hx hy)]
  by_cases e : tv f x y = tv f k j ∧ tv g x y = tv g k j
  · rw [if_pos e, if_pos e]
    have e2 := prN_eq hn hc hx hy e.1 e.2
    rw [prN_eq hn hc hk hj rfl rfl] at e2
    have e3 := congrArg (· / n) e2
    have e4 := congrArg (· % n) e2
    simp only [pair_div hn hy, pair_div hn hj, pair_mod hy, pair_mod hj] at e3 e4
    exact ⟨by rw [e3], by rw [e4]⟩
  · rw [if_neg e, if_neg e]
    have hne : ¬ (x = k ∧ y = j) := by rintro ⟨rfl, rfl⟩; exact e ⟨rfl, rfl⟩
    refine h.2.2 x y hx hy ?_
    show x < k ∨ (x = k ∧ y < j)
    have : x < k ∨ (x = k ∧ y < j + 1) := hd
    omega
theorem InvAt.done_ (hn : 1 ≤ n) (hf : Sq n f) (hg : Sq n g) (hc : collOk n f g = true) (h : InvAt n f g (fun x _ => x < n) F G) : F = bfT n f g ∧ G = bgT n f g := by
  constructor
  · refine h.1.ext fun u v hu hv => ?_
    obtain ⟨x, y, hx, hy, h1, h2⟩ := pr_ex hn hf hg hc hu hv
    have := (h.2.2 x y hx hy hx).1
    rw [h1, h2] at this
    rw [this, prN_eq hn hc hx hy h1 h2, pair_div hn hy]
  · refine h.2.1.ext fun u v hu hv => ?_
    obtain ⟨x, y, hx, hy, h1, h2⟩ := pr_ex hn hf hg hc hu hv
    have := (h.2.2 x y hx hy hx).2
    rw [h1, h2] at this
    rw [this, prN_eq hn hc hx hy h1 h2, pair_mod hy]
end

end Go.Proofs.YthgafpeblpnolaaGreat
