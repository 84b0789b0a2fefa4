/-
  Walks and plain laws of this seat, some texts in one.
  No condition but bounds on lengths.
-/
import Derived.Test.YtaddclaadbjnlaaGreatPr24
import Derived.Test.YtaddclaadbjnlaaGreatPr18
import Derived.Test.YtaddclaadbjnlaaGreatPr10
import Derived.Test.YtaddclaadbjnlaaGreatPr1
import Derived.Test.YtaddclaadbjnlaaGreatPr2
import Derived.Test.YtaddclaadbjnlaaGreatPr3
import Derived.Test.YtaddclaadbjnlaaGreatPr4
import Derived.Deep.RegionHeld3
import Derived.IntWalk
import Derived.Test.YtaddclaadbjnlaaGreatPr7
import Derived.Test.YtaddclaadbjnlaaGreatPr8
import Derived.Test.YtaddclaadbjnlaaGreatPr6
import Derived.Test.YtaddclaadbjnlaaGreatPr15
import Derived.Deep.DeepCutAuto
import Derived.Test.YtaddclaadbjnlaaGreatPr5
import Derived.Maps.OwnOps
import Derived.Maps.Views
import Derived.Deep.RegionLaw
import Derived.Test.YtaddclaadbjnlaaGreatPr12
import Derived.StillTailTactics
namespace Go.Proofs.YtaddclaadbjnlaaGreat
set_option maxRecDepth 100000
set_option linter.unusedVariables false
set_option linter.unusedSimpArgs false
open Go.RowKit
theorem OwnT.head {w : World} {lo : Nat} {a : Option Addr} {n c : Nat} {vs : List SV} {f : List (List Int)} (h : OwnT w lo a n c vs f) (hn : 0 < n) : ∃ g, a = some ⟨g, 0, none⟩ := by
  rcases h.block with ⟨_, e, _⟩ | ⟨g, cur, e, _⟩
  · omega
  · exact ⟨g, e⟩
end Go.Proofs.YtaddclaadbjnlaaGreat

namespace Go.Proofs.YtaddclaadbjnlaaGreat
set_option linter.unusedVariables false
set_option linter.unusedSimpArgs false
set_option maxRecDepth 100000
open Go.RowKit
theorem below_grown {w0 w w' : World} {b : Nat} (h : Below w0.heap.size w0 w) (hg : w.grownBy w' (some b)) (hb : w0.heap.size ≤ b) : Below w0.heap.size w0 w' := h.grown hg h.size (fun k hk => by cases hk; exact hb)
end Go.Proofs.YtaddclaadbjnlaaGreat

namespace Go.Proofs.YtaddclaadbjnlaaGreat
set_option maxRecDepth 100000
set_option linter.unusedVariables false
set_option linter.unusedSimpArgs false
def gv (v : List Int) (i : Nat) : Int := v.getD i 0
def cg (p a b : Int) : Prop := ∃ k, a = b + p * k
theorem cg.refl (p a : Int) : cg p a a := ⟨0, by simp⟩
theorem cg.of {p a b : Int} (h : a = b) : cg p a b := h ▸ cg.refl p a
theorem cg.symm {p a b : Int} (h : cg p a b) : cg p b a := by obtain ⟨k, h⟩ := h; exact ⟨-k, by grind⟩
theorem cg.trans {p a b c : Int} (h : cg p a b) (g : cg p b c) : cg p a c := by obtain ⟨k, h⟩ := h; obtain ⟨l, g⟩ := g; exact ⟨k + l, by grind⟩
theorem cg.add {p a b c d : Int} (h : cg p a b) (g : cg p c d) : cg p (a + c) (b + d) := by obtain ⟨k, h⟩ := h; obtain ⟨l, g⟩ := g; exact ⟨k + l, by grind⟩
theorem cg.mulr (t : Int) {p a b : Int} (h : cg p a b) : cg p (a * t) (b * t) := by obtain ⟨k, h⟩ := h; exact ⟨t * k, by grind⟩
theorem cg.eq {p a b : Int} (h : cg p a b) (h1 : 0 ≤ a) (h2 : a < p) (h3 : 0 ≤ b) (h4 : b < p) : a = b := by
  obtain ⟨k, h⟩ := h
  have e : a % p = b % p := by rw [h]; exact Int.add_mul_emod_self_left _ _ _
  rwa [Int.emod_eq_of_lt h1 h2, Int.emod_eq_of_lt h3 h4] at e
inductive Gen (p : Int) (N : Nat) (S : List (List Int)) : (Nat → Int) → Prop
  | zero (v : Nat → Int) : (∀ i, i < N → cg p (v i) 0) → Gen p N S v
  | add (u v : Nat → Int) (r : List Int) (c : Int) : Gen p N S u → r ∈ S → (∀ i, i < N → cg p (v i) (u i + c * gv r i)) → Gen p N S v
theorem Gen.congr {p : Int} {N : Nat} {S : List (List Int)} {u v : Nat → Int} (h : Gen p N S u) (e : ∀ i, i < N → cg p (v i) (u i)) : Gen p N S v := by
  cases h with
  | zero _ h => exact .zero v fun i hi => (e i hi).trans (h i hi)
  | add u' _ r c hu hr h => exact .add u' v r c hu hr fun i hi => (e i hi).trans (h i hi)
theorem Gen.mem {p : Int} {N : Nat} {S : List (List Int)} {r : List Int} (h : r ∈ S) : Gen p N S (gv r) :=
  .add (fun _ => 0) _ r 1 (.zero _ fun i hi => cg.refl _ _) h fun i hi => cg.of (by simp)
def ldN (v : List Int) : Nat := v.findIdx (fun x => !decide (x = 0))
theorem ldN_le (v : List Int) : ldN v ≤ v.length := List.findIdx_le_length
theorem ldN_pre {v : List Int} {i : Nat} (h : i < ldN v) : gv v i = 0 := by
  have hl : i < v.length := Nat.lt_of_lt_of_le h (ldN_le v)
  have := List.not_of_lt_findIdx (p := fun x : Int => !decide (x = 0)) (xs := v) h
  unfold gv
  rw [List.getD_eq_getElem?_getD, List.getElem?_eq_getElem hl]
  simpa using this
def Vec (p : Int) (N : Nat) (v : List Int) : Prop := v.length = N ∧ ∀ i, i < N → 0 ≤ gv v i ∧ gv v i < p
theorem Vec.ext {p : Int} {N : Nat} {u v : List Int} (hu : Vec p N u) (hv : Vec p N v) (h : ∀ i, i < N → cg p (gv u i) (gv v i)) : u = v := by
  refine List.ext_getElem (by rw [hu.1, hv.1]) fun i h1 h2 => ?_
  have hi : i < N := by rw [← hu.1]; exact h1
  have e := (h i hi).eq (hu.2 i hi).1 (hu.2 i hi).2 (hv.2 i hi).1 (hv.2 i hi).2
  unfold gv at e
  simpa [List.getD_eq_getElem?_getD, List.getElem?_eq_getElem h1, List.getElem?_eq_getElem h2] using e
theorem pair_all {R : List Int → List Int → Prop} {B : List (List Int)} (h : B.Pairwise fun b c => b ≠ c → R b c ∧ R c b) {b c : List Int} (hb : b ∈ B) (hc : c ∈ B) (ne : b ≠ c) : R b c ∧ R c b := by
  induction B with
  | nil => cases hb
  | cons a B ih =>
    rw [List.pairwise_cons] at h
    rcases List.mem_cons.1 hb with e | hb' <;> rcases List.mem_cons.1 hc with e2 | hc'
    · exact absurd (e.trans e2.symm) ne
    · subst e; exact h.1 c hc' ne
    · subst e2; exact (h.1 b hb' ne.symm).symm
    · exact ih h.2 hb' hc'
structure Rdc (p : Int) (N : Nat) (B : List (List Int)) : Prop where
  vec : ∀ b, b ∈ B → Vec p N b
  lt : ∀ b, b ∈ B → ldN b < N
  one : ∀ b, b ∈ B → gv b (ldN b) = 1
  ort : B.Pairwise fun b c => gv b (ldN c) = 0 ∧ gv c (ldN b) = 0
theorem Rdc.zero {p : Int} {N : Nat} {B : List (List Int)} (h : Rdc p N B) {b c : List Int} (hb : b ∈ B) (hc : c ∈ B) (ne : b ≠ c) : gv b (ldN c) = 0 := by
  have h2 : B.Pairwise fun b c => b ≠ c → gv b (ldN c) = 0 ∧ gv c (ldN b) = 0 := List.Pairwise.imp (S := fun b c => b ≠ c → gv b (ldN c) = 0 ∧ gv c (ldN b) = 0) (fun h _ => h) h.ort
  exact (pair_all (R := fun b c => gv b (ldN c) = 0) h2 hb hc ne).1
def cmbL (B : List (List Int)) (v : Nat → Int) (i : Nat) : Int := (B.map fun b => v (ldN b) * gv b i).sum
theorem cmbL_zero {p : Int} {B : List (List Int)} {v : Nat → Int} {i : Nat} (h : ∀ b, b ∈ B → cg p (v (ldN b) * gv b i) 0) : cg p (cmbL B v i) 0 := by
  induction B with
  | nil => exact cg.refl _ _
  | cons b B ih =>
    have := (h b (by simp)).add (ih fun c hc => h c (by simp [hc]))
    simpa [cmbL] using this
theorem cmbL_lin {p : Int} {B : List (List Int)} {u v : Nat → Int} {w : Nat → Int} (t : Int) (i : Nat) (h : ∀ b, b ∈ B → cg p (w (ldN b)) (u (ldN b) + t * v (ldN b))) : cg p (cmbL B w i) (cmbL B u i + t * cmbL B v i) := by
  induction B with
  | nil => exact cg.of (by simp [cmbL])
  | cons b B ih =>
    have h1 := (h b (by simp)).mulr (gv b i)
    have h2 := h1.add (ih fun c hc => h c (by simp [hc]))
    refine (cg.of (by simp [cmbL])).trans (h2.trans (cg.of ?_))
    simp only [cmbL, List.map_cons, List.sum_cons]
    grind
theorem cmbL_own {p : Int} {N : Nat} {B : List (List Int)} (h : Rdc p N B) {r : List Int} (hr : r ∈ B) (i : Nat) : cmbL B (gv r) i = gv r i := by
  have key : ∀ (B : List (List Int)), (B.Pairwise fun b c => gv b (ldN c) = 0 ∧ gv c (ldN b) = 0) → (∀ b, b ∈ B → gv b (ldN b) = 1) → r ∈ B → cmbL B (gv r) i = gv r i := by
    intro B
    induction B with
    | nil => intro _ _ hr; cases hr
    | cons b B ih =>
      intro hp h1 hr
      rw [List.pairwise_cons] at hp
      have e : cmbL (b :: B) (gv r) i = gv r (ldN b) * gv b i + cmbL B (gv r) i := by simp [cmbL]
      rw [e]
      rcases List.mem_cons.1 hr with rfl | hr
      · rw [h1 r (by simp)]
        have z : ∀ (C : List (List Int)), (∀ c, c ∈ C → gv r (ldN c) = 0) → cmbL C (gv r) i = 0 := by
          intro C
          induction C with
          | nil => intro _; rfl
          | cons c C ih =>
            intro hC
            have : cmbL (c :: C) (gv r) i = gv r (ldN c) * gv c i + cmbL C (gv r) i := by simp [cmbL]
            rw [this, hC c (by simp), ih fun d hd => hC d (by simp [hd])]; simp
        rw [z B fun c hc => (hp.1 c hc).1]; omega
      · rw [(hp.1 r hr).2, ih hp.2 (fun c hc => h1 c (by simp [hc])) hr]; omega
  exact key B h.ort h.one hr
theorem Gen.comb {p : Int} {N : Nat} {B : List (List Int)} (h : Rdc p N B) {v : Nat → Int} (hv : Gen p N B v) : ∀ i, i < N → cg p (v i) (cmbL B v i) := by
  induction hv with
  | zero v hz =>
    intro i hi
    refine (hz i hi).trans (cmbL_zero fun b hb => ?_).symm
    have := (hz _ (h.lt b hb)).mulr (gv b i)
    simpa using this
  | add u v r c _ hr e ih =>
    intro i hi
    have h1 := cmbL_lin (w := v) (u := u) (v := gv r) (p := p) c i fun b hb => e _ (h.lt b hb)
    rw [cmbL_own h hr] at h1
    exact (e i hi).trans (((ih i hi).add (cg.refl _ _)).trans h1.symm)
theorem Gen.first {p : Int} {N : Nat} {B : List (List Int)} (h : Rdc p N B) {v : Nat → Int} (hv : Gen p N B v) {k : Nat} (hk : k < N) (h0 : ∀ i, i < k → cg p (v i) 0) (h1 : ¬ cg p (v k) 0) : ∃ b, b ∈ B ∧ ldN b = k := by
  refine Classical.byContradiction fun hn => h1 ((hv.comb h k hk).trans (cmbL_zero fun b hb => ?_))
  by_cases e : ldN b < k
  · have := (h0 _ e).mulr (gv b k); simpa using this
  · have e2 : ldN b ≠ k := fun e2 => hn ⟨b, hb, e2⟩
    rw [ldN_pre (show k < ldN b by omega)]
    exact cg.of (by simp)
end Go.Proofs.YtaddclaadbjnlaaGreat

namespace Go.Proofs.YtaddclaadbjnlaaGreat
set_option maxRecDepth 100000
set_option linter.unusedVariables false
set_option linter.unusedSimpArgs false
open Go.RowKit
def isPr (p : Int) : Prop := p = 2 ∨ p = 3 ∨ p = 5 ∨ p = 7
instance (p : Int) : Decidable (isPr p) := by unfold isPr; infer_instance
end Go.Proofs.YtaddclaadbjnlaaGreat

namespace Go.Proofs.YtaddclaadbjnlaaGreat
set_option maxRecDepth 100000
set_option linter.unusedVariables false
set_option linter.unusedSimpArgs false
open Go.RowKit
theorem gv_set {a : List Int} {j i : Nat} {x : Int} (h : i < a.length) : gv (a.set j x) i = if i = j then x else gv a i := by
  unfold gv
  simp only [List.getD_eq_getElem?_getD, List.getElem?_set]
  by_cases e : i = j
  · subst e; simp [h]
  · rw [if_neg e, if_neg (fun h => e h.symm)]
end Go.Proofs.YtaddclaadbjnlaaGreat

namespace Go.Proofs.YtaddclaadbjnlaaGreat
set_option linter.unusedVariables false
set_option linter.unusedSimpArgs false
def Shape (n : Nat) (F : List (List Int)) : Prop := F.length = n ∧ ∀ x, x < n → (F.getD x []).length = n
theorem Shape.set {n : Nat} {F : List (List Int)} (h : Shape n F) (u v : Nat) (x : Int) : Shape n (F.set u ((F.getD u []).set v x)) := by
  refine ⟨by simp [h.1], fun i hi => ?_⟩
  rw [getD_set' _ _ _ _ _ (by rw [h.1]; exact hi)]
  by_cases e : i = u
  · rw [if_pos e, List.length_set, ← e]; exact h.2 i hi
  · rw [if_neg e]; exact h.2 i hi
theorem Shape.at_ {n : Nat} {F : List (List Int)} (h : Shape n F) (u v : Nat) (x : Int) {i j : Nat} (hi : i < n) (hj : j < n) : ((F.set u ((F.getD u []).set v x)).getD i []).getD j 0 = if i = u ∧ j = v then x else (F.getD i []).getD j 0 := by
  rw [getD_set' _ _ _ _ _ (by rw [h.1]; exact hi)]
  by_cases e : i = u
  · subst e
    rw [if_pos rfl, getD_set' _ _ _ _ _ (by rw [h.2 i hi]; exact hj)]
    by_cases e' : j = v <;> simp [e']
  · rw [if_neg e, if_neg (fun h => e h.1)]
theorem Shape.ext {n : Nat} {F : List (List Int)} {V : Nat → Nat → Int} (h : Shape n F) (hv : ∀ x y, x < n → y < n → (F.getD x []).getD y 0 = V x y) : F = tabF n V := by
  apply List.ext_getElem
  · rw [h.1, tabF_len]
  · intro x h1 h2
    have hx : x < n := by rw [h.1] at h1; exact h1
    have e1 : F.getD x [] = F[x] := by simp [List.getD_eq_getElem?_getD, List.getElem?_eq_getElem h1]
    have e2 : (tabF n V).getD x [] = (tabF n V)[x] := by simp [List.getD_eq_getElem?_getD, List.getElem?_eq_getElem h2]
    have e3 := tabF_get n V x hx
    rw [← e1, ← e2, e3]
    apply List.ext_getElem
    · rw [h.2 x hx]; simp
    · intro y h3 h4
      have hy : y < n := by rw [h.2 x hx] at h3; exact h3
      have := hv x y hx hy
      rw [List.getD_eq_getElem?_getD, List.getElem?_eq_getElem h3] at this
      simpa using this
def InvAt (n : Nat) (f g : List (List Int)) (done : Nat → Nat → Prop) (F G : List (List Int)) : Prop :=
  Shape n F ∧ Shape n G ∧ ∀ x y, x < n → y < n → done x y → (F.getD (tv f x y) []).getD (tv g x y) 0 = (x : Int) ∧ (G.getD (tv f x y) []).getD (tv g x y) 0 = (y : Int)
section
variable {n : Nat} {f g F G : List (List Int)}
theorem InvAt.start (hf : Shape n F) (hg : Shape n G) : InvAt n f g (fun x _ => x < 0) F G := ⟨hf, hg, fun x y _ _ h => absurd h (by omega)⟩
theorem InvAt.step (hn : 1 ≤ n) (hf : Sq n f) (hg : Sq n g) (hc : collOk n f g = true) {k j : Nat} (hk : k < n) (hj : j < n) (h : InvAt n f g (fun x y => x < k ∨ (x = k ∧ y < j)) F G) :
    InvAt n f g (fun x y => x < k ∨ (x = k ∧ y < j + 1)) (F.set (tv f k j) ((F.getD (tv f k j) []).set (tv g k j) (k : Int))) (G.set (tv f k j) ((G.getD (tv f k j) []).set (tv g k j) (j : Int))) := by
  refine ⟨h.1.set _ _ _, h.2.1.set _ _ _, fun x y hx hy hd => ?_⟩
  rw [h.1.at_ _ _ _ (hf.lt hx hy) (hg.lt hx hy), h.2.1.at_ _ _ _ (hf.lt hx hy) (hg.lt hx hy)]
  by_cases e : tv f x y = tv f k j ∧ tv g x y = tv g k j
  · rw [if_pos e, if_pos e]
    have e2 := prN_eq hn hc hx hy e.1 e.2
    rw [prN_eq hn hc hk hj rfl rfl] at e2
    have e3 := congrArg (· / n) e2
    have e4 := congrArg (· % n) e2
    simp only [pair_div hn hy, pair_div hn hj, pair_mod hy, pair_mod hj] at e3 e4
    exact ⟨by rw [e3], by rw [e4]⟩
  · rw [if_neg e, if_neg e]
    have hne : ¬ (x = k ∧ y = j) := by rintro ⟨rfl, rfl⟩; exact e ⟨rfl, rfl⟩
    refine h.2.2 x y hx hy ?_
    show x < k ∨ (x = k ∧ y < j)
    have : x < k ∨ (x = k ∧ y < j + 1) := hd
    omega
end
end Go.Proofs.YtaddclaadbjnlaaGreat

namespace Go.Proofs.YtaddclaadbjnlaaGreat
set_option maxRecDepth 100000
set_option linter.unusedVariables false
set_option linter.unusedSimpArgs false
open Go.RowKit
section
variable {w1 w2 w3 : World} {n : Nat} {f g : List (List Int)} {a2 a3 : Option Addr} {c2 c3 : Nat} {vs2 vs3 : List SV}
end
theorem OwnT.spot {w : World} {lo : Nat} {b : Option Addr} {n d : Nat} {vs : List SV} {F : List (List Int)} (h : OwnT w lo b n d vs F) {u v : Nat} (hu : u < n) (hv : v < (F.getD u []).length) :
    ∃ gb g1 k1 c1 z, b = some ⟨gb, 0, none⟩ ∧ (vs.getD u svO).1 = some ⟨g1, 0, none⟩ ∧ v < k1 ∧ w.cell? ⟨gb, u, none⟩ = some (.slice (some ⟨g1, 0, none⟩) k1 c1) ∧ w.cell? ⟨g1, v, none⟩ = some z ∧ w.frozen? ⟨g1, v, none⟩ = false := by
  obtain ⟨gb, hb, _, hc, _⟩ := h.cells (by omega)
  have hr := h.row u hu
  have hk : v < (vs.getD u svO).2.1 := by have := hr.len; omega
  obtain ⟨g1, o1, e1, _⟩ := hr.row.at v hk
  rw [e1] at hr
  obtain ⟨rfl, h2, h3⟩ := hr.cells
  have := hc u hu
  rw [e1] at this
  exact ⟨gb, g1, _, _, _, hb, e1, hk, this, h2 v hk, h3 v⟩
end Go.Proofs.YtaddclaadbjnlaaGreat

namespace Go.Proofs.YtaddclaadbjnlaaGreat
set_option linter.unusedVariables false
set_option linter.unusedSimpArgs false
theorem nodup_bd : ∀ (n : Nat) (c : List Nat), c.Nodup → (∀ x ∈ c, x < n) → c.length ≤ n := by
  intro n
  induction n with
  | zero =>
    intro c _ h
    cases c with
    | nil => exact Nat.le_refl _
    | cons x c => exact absurd (h x List.mem_cons_self) (by omega)
  | succ n ih =>
    intro c hd h
    have h1 := ih (c.erase n) (hd.erase n) (fun x hx => by
      have h2 := (List.Nodup.mem_erase_iff hd).1 hx
      have := h x h2.2
      have := h2.1
      omega)
    by_cases hm : n ∈ c
    · rw [List.length_erase_of_mem hm] at h1; omega
    · rw [List.erase_of_not_mem hm] at h1; omega
def itf (f : Nat → Nat) : Nat → Nat → Nat
  | 0, x => x
  | m + 1, x => f (itf f m x)
structure PermN (f : Nat → Nat) (K : Nat) : Prop where
  lt : ∀ i, i < K → f i < K
  inj : ∀ i j, i < K → j < K → f i = f j → i = j
section
variable {f : Nat → Nat} {K x y : Nat}
theorem itf_add (a b : Nat) : itf f (a + b) x = itf f a (itf f b x) := by
  induction a with
  | zero => simp [itf]
  | succ a ih =>
    have : a + 1 + b = (a + b) + 1 := by omega
    rw [this]; simp only [itf]; rw [ih]
theorem PermN.it_lt (h : PermN f K) (hx : x < K) (m : Nat) : itf f m x < K := by
  induction m with
  | zero => exact hx
  | succ m ih => exact h.lt _ ih
theorem PermN.it_inj (h : PermN f K) (hx : x < K) (hy : y < K) (m : Nat) (e : itf f m x = itf f m y) : x = y := by
  induction m with
  | zero => exact e
  | succ m ih => exact ih (h.inj _ _ (h.it_lt hx m) (h.it_lt hy m) e)
theorem PermN.ret (h : PermN f K) (hx : x < K) : ∃ m, 1 ≤ m ∧ m ≤ K ∧ itf f m x = x := by
  refine Classical.byContradiction fun hne => ?_
  have hl := nodup_bd K ((List.range (K + 1)).map fun m => itf f m x) (by
    rw [List.nodup_iff_pairwise_ne, List.pairwise_map]
    refine List.Pairwise.imp_of_mem ?_ List.pairwise_lt_range
    intro a b ha hb hab e
    have hb2 := List.mem_range.1 hb
    refine hne ⟨b - a, by omega, by omega, ?_⟩
    have : b = a + (b - a) := by omega
    rw [this, itf_add] at e
    exact (h.it_inj hx (h.it_lt hx _) a e).symm) (fun y hy => by
    obtain ⟨m, _, rfl⟩ := List.mem_map.1 hy
    exact h.it_lt hx m)
  simp at hl
  omega
/-! ### the period -/
/-! ### what is met -/
end
end Go.Proofs.YtaddclaadbjnlaaGreat

namespace Go.Proofs.YtaddclaadbjnlaaGreat
set_option linter.unusedVariables false
set_option linter.unusedSimpArgs false
def LessM (n : Nat) (l : List Int) : Prop := ∀ x ∈ l, 0 ≤ x ∧ x < n
theorem Less.mem {n : Nat} {l : List Int} (h : Less n l) : LessM n l := fun x hx => by
  obtain ⟨i, hi, rfl⟩ := List.getElem_of_mem hx
  obtain ⟨k, hk, e⟩ := h i hi
  rw [List.getD_eq_getElem?_getD, List.getElem?_eq_getElem hi] at e
  simp only [Option.getD_some] at e
  omega
end Go.Proofs.YtaddclaadbjnlaaGreat

namespace Go.Proofs.YtaddclaadbjnlaaGreat
set_option maxRecDepth 100000
set_option linter.unusedVariables false
set_option linter.unusedSimpArgs false
open Go.RowKit
/-! ### A slice of numbers that is read -/
def RowIn (w : World) (a : Option Addr) (n : Nat) (xs : List Int) : Prop :=
  n = xs.length ∧ ∀ i, i < n → ∃ b off, a = some ⟨b, off, none⟩ ∧ b < w.heap.size ∧ w.cell? ⟨b, off + i, none⟩ = some ((Value.int .i64) (xs.getD i 0))
theorem RowIn.nil (w : World) (a : Option Addr) : RowIn w a 0 [] := ⟨rfl, fun i h => absurd h (by omega)⟩
theorem RowIn.len {w : World} {a : Option Addr} {n : Nat} {xs : List Int} (h : RowIn w a n xs) : n = xs.length := h.1
theorem RowIn.at {w : World} {a : Option Addr} {n : Nat} {xs : List Int} (h : RowIn w a n xs) (i : Nat) (hi : i < n) : ∃ b off, a = some ⟨b, off, none⟩ ∧ w.cell? ⟨b, off + i, none⟩ = some ((Value.int .i64) (xs.getD i 0)) := by
  obtain ⟨b, off, h1, _, h2⟩ := h.2 i hi; exact ⟨b, off, h1, h2⟩
theorem RowIn.all {w : World} {a : Option Addr} {n : Nat} {xs : List Int} (h : RowIn w a n xs) (hn : 0 < n) : ∃ b off, a = some ⟨b, off, none⟩ ∧ b < w.heap.size ∧ ∀ i, i < n → w.cell? ⟨b, off + i, none⟩ = some ((Value.int .i64) (xs.getD i 0)) := by
  obtain ⟨b, off, h1, h3, h2⟩ := h.2 0 hn
  refine ⟨b, off, h1, h3, fun i hi => ?_⟩
  obtain ⟨b', off', h4, _, h5⟩ := h.2 i hi
  rw [h1] at h4; cases h4; exact h5
theorem RowIn.below {w w' : World} {a : Option Addr} {n : Nat} {xs : List Int} (h : RowIn w a n xs) (hb : Below w.heap.size w w') : RowIn w' a n xs :=
  ⟨h.1, fun i hi => by obtain ⟨b, off, h1, h3, h2⟩ := h.2 i hi; exact ⟨b, off, h1, Nat.lt_of_lt_of_le h3 hb.size, (hb.cell (p := ⟨b, off + i, none⟩) h3).trans h2⟩⟩
theorem RowIn.drewN {w : World} {a : Option Addr} {n : Nat} {xs : List Int} (h : RowIn w a n xs) (k : Nat) : RowIn (w.drewN k) a n xs := h
theorem RowIn.alloc {w : World} {a : Option Addr} {n : Nat} {xs : List Int} (h : RowIn w a n xs) (o : Obj) : RowIn (w.alloc o) a n xs := h.below ((Below.refl _ _).alloc (Nat.le_refl _) o)
/-! ### A slice of numbers that the call owns (its block lies from 'lo' on) -/
def OwnIn (w : World) (lo : Nat) (a : Option Addr) (n c : Nat) (xs : List Int) : Prop := n = xs.length ∧ w.ownsRow lo 3 1 (.slice a n c) n (xs.map (((Value.int .i64))))
theorem OwnIn.nil (w : World) (lo : Nat) : OwnIn w lo none 0 0 [] := ⟨rfl, World.ownsRow_nil w lo _ 1⟩
theorem OwnIn.len {w : World} {lo : Nat} {a : Option Addr} {n c : Nat} {xs : List Int} (h : OwnIn w lo a n c xs) : n = xs.length := h.1
theorem OwnIn.alloc {w : World} {lo : Nat} {a : Option Addr} {n c : Nat} {xs : List Int} (h : OwnIn w lo a n c xs) (o : Obj) : OwnIn (w.alloc o) lo a n c xs := ⟨h.1, h.2.alloc o⟩
theorem OwnIn.drew {w : World} {lo : Nat} {a : Option Addr} {n c : Nat} {xs : List Int} (h : OwnIn w lo a n c xs) : OwnIn w.drew lo a n c xs := h
theorem OwnIn.drewN {w : World} {lo : Nat} {a : Option Addr} {n c : Nat} {xs : List Int} (h : OwnIn w lo a n c xs) (k : Nat) : OwnIn (w.drewN k) lo a n c xs := h
theorem OwnIn.block {w : World} {lo : Nat} {a : Option Addr} {n c : Nat} {xs : List Int} (h : OwnIn w lo a n c xs) : (a = none ∧ n = 0 ∧ c = 0) ∨ ∃ g cur, a = some ⟨g, 0, none⟩ ∧ lo ≤ g ∧ Loc w g cur 3 ∧ n ≤ c ∧ c ≤ maxLen ∧ cur.size = c ∧ cur.toList.take n = xs.map (((Value.int .i64))) := by
  rcases h.2.2 with ⟨h1, h2⟩ | ⟨g, cap, cur, h1, h2, h3, h4, h5, h6, h7⟩
  · cases h1; exact .inl ⟨rfl, rfl, rfl⟩
  · cases h1; exact .inr ⟨g, cur, rfl, h2, h3, h4, h5, by simpa using h6, by simpa using h7⟩
theorem OwnIn.mk {w : World} {lo : Nat} {g n c : Nat} {xs : List Int} {cur : Array Value} (hn : n = xs.length) (h1 : lo ≤ g) (h2 : Loc w g cur 3) (h3 : n ≤ c) (h4 : c ≤ maxLen) (h5 : cur.size = c) (h6 : cur.toList.take n = xs.map (((Value.int .i64)))) : OwnIn w lo (some ⟨g, 0, none⟩) n c xs :=
  ⟨hn, by simp [hn], .inr ⟨g, c, cur, rfl, h1, h2, h3, h4, by simpa using h5, by simpa using h6⟩⟩
theorem OwnIn.lt {w : World} {lo : Nat} {g o n c : Nat} {xs : List Int} (h : OwnIn w lo (some ⟨g, o, none⟩) n c xs) : lo ≤ g ∧ g < w.heap.size := by
  rcases h.block with ⟨h1, _⟩ | ⟨g', cur, h1, h2, h3, _⟩
  · cases h1
  · cases h1; exact ⟨h2, h3.lt⟩
theorem OwnIn.mono {w : World} {lo lo' : Nat} {a : Option Addr} {n c : Nat} {xs : List Int} (h : OwnIn w lo a n c xs) (hl : lo' ≤ lo) : OwnIn w lo' a n c xs := by
  rcases h.block with ⟨rfl, rfl, rfl⟩ | ⟨g, cur, rfl, h2, h3, h4, h5, h6, h7⟩
  · have : xs = [] := List.eq_nil_of_length_eq_zero h.1.symm
    subst this; exact OwnIn.nil _ _
  · exact OwnIn.mk h.1 (by omega) h3 h4 h5 h6 h7
theorem OwnIn.keep {w w' : World} {lo : Nat} {a : Option Addr} {n c : Nat} {xs : List Int} (h : OwnIn w lo a n c xs) (hk : ∀ g, a = some ⟨g, 0, none⟩ → g < w.heap.size → w'.heap[g]? = w.heap[g]?) : OwnIn w' lo a n c xs := by
  rcases h.block with ⟨rfl, rfl, rfl⟩ | ⟨g, cur, rfl, h2, h3, h4, h5, h6, h7⟩
  · have : xs = [] := List.eq_nil_of_length_eq_zero h.1.symm
    subst this; exact OwnIn.nil _ _
  · exact OwnIn.mk h.1 h2 ((hk g rfl h3.lt).trans h3) h4 h5 h6 h7
theorem OwnIn.below {w w' : World} {lo : Nat} {a : Option Addr} {n c : Nat} {xs : List Int} (h : OwnIn w lo a n c xs) (hb : Below w.heap.size w w') : OwnIn w' lo a n c xs := h.keep fun g _ hlt => hb.block g hlt
theorem OwnIn.setne {w : World} {lo : Nat} {a : Option Addr} {n c : Nat} {xs : List Int} (h : OwnIn w lo a n c xs) {p : Addr} (hp : ∀ g, a = some ⟨g, 0, none⟩ → g ≠ p.block) (u : Value) : OwnIn (w.setCell p u) lo a n c xs := h.keep fun g hg _ => Below.heap_setCell _ _ _ _ (hp g hg)
theorem OwnIn.setlo {w : World} {lo : Nat} {a : Option Addr} {n c : Nat} {xs : List Int} (h : OwnIn w lo a n c xs) {p : Addr} (hp : p.block < lo) (u : Value) : OwnIn (w.setCell p u) lo a n c xs := by
  refine h.setne (fun g hg => ?_) u
  subst hg; have := h.lt; omega
theorem OwnIn.grown {w w' : World} {lo : Nat} {a : Option Addr} {n c : Nat} {xs : List Int} {row : Option Nat} (h : OwnIn w lo a n c xs) (hg : w.grownBy w' row) (hne : ∀ g, a = some ⟨g, 0, none⟩ → some g ≠ row) : OwnIn w' lo a n c xs := h.keep fun g hg' hlt => hg.block g hlt (hne g hg')
theorem OwnIn.cap {w : World} {lo : Nat} {a : Option Addr} {n c : Nat} {xs : List Int} (h : OwnIn w lo a n c xs) : n ≤ c ∧ c ≤ 9223372036854775807 := by
  rcases h.block with ⟨rfl, rfl, rfl⟩ | ⟨g, cur, rfl, h2, h3, h4, h5, h6, h7⟩
  · omega
  · unfold maxLen at h5; omega
theorem OwnIn.cells {w : World} {lo : Nat} {g o n c : Nat} {xs : List Int} (h : OwnIn w lo (some ⟨g, o, none⟩) n c xs) : o = 0 ∧ (∀ i, i < n → w.cell? ⟨g, i, none⟩ = some ((Value.int .i64) (xs.getD i 0))) ∧ (∀ i, w.frozen? ⟨g, i, none⟩ = false) := by
  rcases h.block with ⟨h1, _⟩ | ⟨g', cur, h1, h2, h3, h4, h5, h6, h7⟩
  · cases h1
  · cases h1
    refine ⟨rfl, fun i hi => h3.cell i ?_, fun i => h3.free i⟩
    have hx : (cur.toList.take n)[i]? = (xs.map (((Value.int .i64))))[i]? := by rw [h7]
    have hxi : i < xs.length := by have := h.1; omega
    rw [List.getElem?_take, if_pos hi] at hx
    simp [List.getElem?_eq_getElem hxi] at hx
    simp [List.getD_eq_getElem?_getD, List.getElem?_eq_getElem hxi, hx]
theorem OwnIn.row {w : World} {lo : Nat} {a : Option Addr} {n c : Nat} {xs : List Int} (h : OwnIn w lo a n c xs) : RowIn w a n xs := by
  refine ⟨h.1, fun i hi => ?_⟩
  rcases h.block with ⟨rfl, rfl, rfl⟩ | ⟨g, cur, rfl, h2, h3, _⟩
  · omega
  · exact ⟨g, 0, rfl, h3.lt, by simpa using h.cells.2.1 i hi⟩
theorem OwnIn.set {w : World} {lo : Nat} {g n c : Nat} {xs : List Int} (h : OwnIn w lo (some ⟨g, 0, none⟩) n c xs) (i : Nat) (x : Int) : OwnIn (w.setCell ⟨g, i, none⟩ ((Value.int .i64) x)) lo (some ⟨g, 0, none⟩) n c (xs.set i x) := by
  rcases h.block with ⟨h1, _⟩ | ⟨g', cur, h1, h2, h3, h4, h5, h6, h7⟩
  · cases h1
  · cases h1
    refine OwnIn.mk (by simp [h.1]) h2 (h3.set i _) h4 h5 (by simpa using h6) ?_
    rw [Array.toList_setIfInBounds, List.take_set, h7, List.map_set]
theorem OwnIn.hi {w : World} {lo : Nat} {a : Option Addr} {n c : Nat} {xs : List Int} (h : OwnIn w lo a n c xs) : ∀ g, a = some ⟨g, 0, none⟩ → g < w.heap.size := fun g hg => by subst hg; exact h.lt.2
theorem OwnIn.lo {w : World} {lo : Nat} {a : Option Addr} {n c : Nat} {xs : List Int} (h : OwnIn w lo a n c xs) : ∀ g, a = some ⟨g, 0, none⟩ → lo ≤ g := fun g hg => by subst hg; exact h.lt.1
theorem OwnIn.single (w : World) {b : Nat} (hb : b = w.heap.size) (y : Int) : OwnIn (w.alloc (.cells #[Value.int .i64 y] 3)) w.heap.size (some ⟨b, 0, none⟩) 1 1 [y] :=
  OwnIn.mk rfl (by omega) (Loc.new _ hb _ _) (Nat.le_refl _) (by unfold maxLen; omega) rfl rfl
theorem OwnIn.fresh (w : World) {b : Nat} (hb : b = w.heap.size) : OwnIn (w.alloc (.cells #[] 3)) w.heap.size (some ⟨b, 0, none⟩) 0 0 [] :=
  OwnIn.mk rfl (by omega) (Loc.new _ hb _ _) (Nat.le_refl _) (by unfold maxLen; omega) rfl rfl
end Go.Proofs.YtaddclaadbjnlaaGreat

namespace Go.Proofs.YtaddclaadbjnlaaGreat
set_option maxRecDepth 100000
set_option linter.unusedVariables false
set_option linter.unusedSimpArgs false
open Go.RowKit
/-! ### counted pairs -/
def numP (n : Nat) (l : List Int) (k : Nat) : Nat := (l.getD k 0).toNat * n + (l.getD (k + 1) 0).toNat
def cpS (f g : List (List Int)) (n : Nat) (p t : Int) (st : List Int × List Int) (k : Nat) : List Int × List Int :=
  (doF f g k st.1, st.2.set (numP n st.1 k) ((gv st.2 (numP n st.1 k) + t) % p))
theorem set_vec {p : Int} {N : Nat} {r : List Int} (h : Vec p N r) (j : Nat) {z : Int} (h0 : 0 ≤ z) (h1 : z < p) : Vec p N (r.set j z) := by
  refine ⟨by rw [List.length_set]; exact h.1, fun i hi => ?_⟩
  rw [gv_set (by rw [h.1]; exact hi)]
  by_cases e : i = j
  · rw [if_pos e]; exact ⟨h0, h1⟩
  · rw [if_neg e]; exact h.2 i hi
structure CpI (n : Nat) (p : Int) (s : Nat) (st : List Int × List Int) : Prop where
  len : st.1.length = s
  less : Less n st.1
  vec : Vec p (n * n) st.2
theorem CpI.step {f g : List (List Int)} {n : Nat} {p t : Int} {s : Nat} {st : List Int × List Int} (h : CpI n p s st) (hf : Sq n f) (hg : Sq n g) (hp : 0 < p) {k : Nat} (hk : k + 1 < s) : CpI n p s (cpS f g n p t st k) := by
  have hl := h.len
  exact ⟨by show (doF f g k st.1).length = s; rw [doF_len]; exact hl, h.less.do_ hf hg k (by omega), set_vec h.vec _ (Int.emod_nonneg _ (by omega)) (Int.emod_lt_of_pos _ hp)⟩
end Go.Proofs.YtaddclaadbjnlaaGreat

namespace Go.Proofs.YtaddclaadbjnlaaGreat
set_option maxRecDepth 100000
set_option linter.unusedVariables false
set_option linter.unusedSimpArgs false
open Go.RowKit
/-! ### the elimination, as the reference goes -/
end Go.Proofs.YtaddclaadbjnlaaGreat

namespace Go.Proofs.YtaddclaadbjnlaaGreat
set_option maxRecDepth 100000
set_option linter.unusedVariables false
set_option linter.unusedSimpArgs false
open Go.RowKit
/-! ### plain -/
/-! ### the map of the first places -/
end Go.Proofs.YtaddclaadbjnlaaGreat

namespace Go.Proofs.YtaddclaadbjnlaaGreat
set_option maxRecDepth 100000
set_option linter.unusedVariables false
set_option linter.unusedSimpArgs false
open Go.RowKit
/-! ### the words 0 1 0 and 1 0 1 -/
def kS (sd : Nat) : List Nat := if sd = 0 then [0, 1, 0] else [1, 0, 1]
theorem kS_len (sd : Nat) : (kS sd).length = 3 := by unfold kS; split <;> rfl
structure Wds (w : World) (s : Nat) : Prop where
  one : Loc w (s + 1) #[.int .i64 0, .int .i64 1, .int .i64 0] 2
  two : Loc w (s + 1 + 1) #[.int .i64 1, .int .i64 0, .int .i64 1] 2
  hdr : Loc w (s + 1 + 1 + 1) #[.slice (some ⟨s + 1, 0, none⟩) 3 3, .slice (some ⟨s + 1 + 1, 0, none⟩) 3 3] 41
theorem Wds.below {w w' : World} {s : Nat} (h : Wds w s) (hb : Below w.heap.size w w') : Wds w' s := ⟨h.one.below hb h.one.lt, h.two.below hb h.two.lt, h.hdr.below hb h.hdr.lt⟩
theorem Wds.at {w : World} {s : Nat} (h : Wds w s) {sd i : Nat} (hs : sd < 2) (hi : i < (kS sd).length) :
    ∃ b, w.cell? ⟨s + 1 + 1 + 1, sd, none⟩ = some (.slice (some ⟨b, 0, none⟩) 3 3) ∧ w.cell? ⟨b, i, none⟩ = some (.int .i64 (((kS sd)[i] : Nat) : Int)) := by
  have hs2 : sd = 0 ∨ sd = 1 := by omega
  have hi3 : i = 0 ∨ i = 1 ∨ i = 2 := by rw [kS_len] at hi; omega
  rcases hs2 with rfl | rfl
  · refine ⟨s + 1, h.hdr.cell 0 rfl, ?_⟩
    rcases hi3 with rfl | rfl | rfl
    · exact h.one.cell 0 rfl
    · exact h.one.cell 1 rfl
    · exact h.one.cell 2 rfl
  · refine ⟨s + 1 + 1, h.hdr.cell 1 rfl, ?_⟩
    rcases hi3 with rfl | rfl | rfl
    · exact h.two.cell 0 rfl
    · exact h.two.cell 1 rfl
    · exact h.two.cell 2 rfl
end Go.Proofs.YtaddclaadbjnlaaGreat

namespace Go.Proofs.YtaddclaadbjnlaaGreat
set_option maxRecDepth 100000
set_option linter.unusedVariables false
set_option linter.unusedSimpArgs false
open Go.RowKit
def IsWd (s : Nat) (xs : List Int) : Prop := xs.length ≤ 30 ∧ ∀ x ∈ xs, x ≠ 0 ∧ 1 - (s : Int) ≤ x ∧ x ≤ (s : Int) - 1
theorem IsWd.plc {s : Nat} {xs : List Int} (h : IsWd s xs) (x : Int) (hx : x ∈ xs) : 0 ≤ plc x ∧ plc x + 1 < s := by
  have := h.2 x hx
  unfold Proofs.YtaddclaadbjnlaaGreat.plc; split <;> omega
end Go.Proofs.YtaddclaadbjnlaaGreat

namespace Go.Proofs.YtaddclaadbjnlaaGreat
set_option maxRecDepth 100000
set_option linter.unusedVariables false
set_option linter.unusedSimpArgs false
open Go.RowKit
theorem Row.drew {w : World} {a : Option Addr} {n : Nat} {xs : List Int} (h : Row w a n xs) : Row w.drew a n xs := h
end Go.Proofs.YtaddclaadbjnlaaGreat

namespace Go.Proofs.YtaddclaadbjnlaaGreat
set_option linter.unusedVariables false
set_option linter.unusedSimpArgs false
/-! ### the kernel -/
theorem Rdc.lead {p : Int} {N : Nat} {R : List (List Int)} (h : Rdc p N R) {i j : Nat} (hi : i < j) (hj : j < R.length) : ldN R[i] ≠ ldN R[j] := by
  have h1 := List.pairwise_iff_getElem.1 h.ort i j (by omega) hj hi
  intro e
  have h2 := h.one R[j] (List.getElem_mem hj)
  rw [← e, h1.2] at h2; omega
/-! ### matrices -/
end Go.Proofs.YtaddclaadbjnlaaGreat

namespace Go.Proofs.YtaddclaadbjnlaaGreat
set_option linter.unusedVariables false
set_option linter.unusedSimpArgs false
open Go.RowKit
theorem Vec.mem {p : Int} {N : Nat} {xs : List Int} (h : Vec p N xs) : ∀ x ∈ xs, 0 ≤ x ∧ x < p := fun x hx => by
  obtain ⟨i, hi, rfl⟩ := List.getElem_of_mem hx
  have := h.2 i (by rw [← h.1]; exact hi)
  unfold gv at this
  rw [List.getD_eq_getElem?_getD, List.getElem?_eq_getElem hi] at this
  exact this
end Go.Proofs.YtaddclaadbjnlaaGreat

namespace Go.Proofs.YtaddclaadbjnlaaGreat
set_option maxRecDepth 100000
set_option linter.unusedVariables false
set_option linter.unusedSimpArgs false
open Go.RowKit
theorem IsP.own {n : Nat} {p : List Int} (h : IsP n p) : ∃ g, IsPf n p (fun i => (p.getD i 0).toNat) g := by
  obtain ⟨f, g, hl, h1, h2⟩ := h
  have e : ∀ i, i < n → (p.getD i 0).toNat = f i := fun i hi => by rw [h2 i hi]; simp
  refine ⟨g, hl, fun i hi => ?_, fun i hi => ?_⟩
  · have hh := h1 i hi
    refine ⟨by show (p.getD i 0).toNat < n; rw [e i hi]; exact hh.1, hh.2.1, ?_, ?_⟩
    · show (p.getD (g i) 0).toNat = i
      rw [e _ hh.2.1]; exact hh.2.2.1
    · show g ((p.getD i 0).toNat) = i
      rw [e i hi]; exact hh.2.2.2
  · show _ = (((p.getD i 0).toNat : Nat) : Int)
    rw [e i hi]; exact h2 i hi
theorem Tbl.single {w : World} {a : Option Addr} {n c b : Nat} {xs : List Int} {t : TypeId} (h : Row w a n xs) (hn : n ≤ 9223372036854775807) (hb : b = w.heap.size) : Tbl (w.alloc (.cells #[.slice a n c] t)) (some ⟨b, 0, none⟩) 1 [xs] :=
by
  refine ⟨rfl, fun i hi => ?_⟩
  have e : i = 0 := by omega
  subst e
  have hL := Loc.new w hb #[.slice a n c] t
  exact ⟨b, 0, a, n, c, rfl, hL.lt, hL.one.1, h.alloc _, hn⟩
end Go.Proofs.YtaddclaadbjnlaaGreat

namespace Go.Proofs.YtaddclaadbjnlaaGreat
set_option linter.unusedVariables false
set_option linter.unusedSimpArgs false
/-! ### tables by a function, one value of which turns -/
/-! ### labels are numbers of at least 0, and the greatest of them -/
/-! ### the numbers -/
end Go.Proofs.YtaddclaadbjnlaaGreat

namespace Go.Proofs.YtaddclaadbjnlaaGreat
set_option maxRecDepth 100000
set_option linter.unusedVariables false
set_option linter.unusedSimpArgs false
open Go.RowKit
/-! ### a table by a function, in memory -/
/-! ### the labels of the strands at the places -/
section
variable {s : Nat} {xs : List Int} {k : Nat}
end
end Go.Proofs.YtaddclaadbjnlaaGreat
