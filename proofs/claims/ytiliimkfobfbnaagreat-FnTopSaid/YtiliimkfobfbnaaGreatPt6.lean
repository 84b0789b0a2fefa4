/-
  Walks and plain laws of this seat, some texts in one.
  No condition but bounds on lengths.
-/
import Derived.Test.YtiliimkfobfbnaaGreatPt4
import Derived.Test.YtiliimkfobfbnaaGreatPt5
import Derived.StillTailTactics
import Derived.Test.YtiliimkfobfbnaaGreatPt3
import Derived.Test.YtiliimkfobfbnaaGreatPt2
import Derived.BigRegion
import Derived.Deep.RegionHeld3
import Derived.Deep.AppendLies
namespace Go.Proofs.YtiliimkfobfbnaaGreat
set_option maxRecDepth 100000
set_option linter.unusedVariables false
set_option linter.unusedSimpArgs false
open Go.RowKit
def updQ (v : Nat → Nat → Int) (a b : Nat) (z : Int) : Nat → Nat → Int := fun x y => if x = a ∧ y = b then z else v x y
theorem tabQ_row {n : Nat} {v : Nat → Nat → Int} {x : Nat} (h : x < n) : (tabF n v).getD x [] = (List.range n).map fun y => v x y := tabF_get n v x h
theorem tabQ_val {n : Nat} {v : Nat → Nat → Int} {x y : Nat} (hx : x < n) (hy : y < n) : ((tabF n v).getD x []).getD y 0 = v x y := by
  rw [tabQ_row hx]; simp [List.getD_eq_getElem?_getD, List.getElem?_map, hy]
theorem tabQ_congr {n : Nat} {u v : Nat → Nat → Int} (h : ∀ x y, x < n → y < n → u x y = v x y) : tabF n u = tabF n v := by
  unfold tabF
  apply List.map_congr_left
  intro x hx
  apply List.map_congr_left
  intro y hy
  exact h x y (List.mem_range.1 hx) (List.mem_range.1 hy)
theorem tabQ_upd {n : Nat} {v : Nat → Nat → Int} {a b : Nat} (ha : a < n) (hb : b < n) (z : Int) : (tabF n v).set a (((tabF n v).getD a []).set b z) = tabF n (updQ v a b z) := by
  apply List.ext_getElem
  · simp [tabF]
  · intro i h1 h2
    have hi : i < n := by simpa [tabF] using h2
    have e2 : (tabF n (updQ v a b z))[i] = (List.range n).map fun y => updQ v a b z i y := by simp [tabF]
    rw [e2, List.getElem_set]
    by_cases e : a = i
    · subst e
      rw [if_pos rfl, tabQ_row ha]
      apply List.ext_getElem
      · simp
      · intro j g1 g2
        have hj : j < n := by simpa using g2
        rw [List.getElem_set]
        by_cases e : b = j
        · subst e; simp [updQ]
        · rw [if_neg e]; simp [updQ, fun h => e (Eq.symm h)]
          intro h; exact absurd h.symm e
    · rw [if_neg e]
      have : (tabF n v)[i]'(by simpa [tabF] using hi) = (List.range n).map fun y => v i y := by simp [tabF]
      rw [this]
      apply List.map_congr_left
      intro y hy
      simp [updQ, fun h => e (Eq.symm h)]
      intro h; exact absurd h.symm e
theorem OwnT.spotQ {w : World} {lo : Nat} {b : Option Addr} {n d : Nat} {vs : List SV} {v : Nat → Nat → Int} (h : OwnT w lo b n d vs (tabF n v)) {x : Nat} (hx : x < n) :
    ∃ gb g1 c1, b = some ⟨gb, 0, none⟩ ∧ vs.getD x svO = (some ⟨g1, 0, none⟩, n, c1) ∧ w.cell? ⟨gb, x, none⟩ = some (.slice (some ⟨g1, 0, none⟩) n c1) ∧ (∀ y, y < n → w.cell? ⟨g1, y, none⟩ = some (.int .i64 (v x y)) ∧ w.frozen? ⟨g1, y, none⟩ = false) ∧ TblS b n vs g1 := by
  obtain ⟨gb, hb, _, hc, _⟩ := h.cells (by omega)
  have hr := h.row x hx
  have hl := hr.len
  rw [tabQ_row hx] at hl
  have hk : (vs.getD x svO).2.1 = n := by simpa using hl
  obtain ⟨g1, o1, e1, _⟩ := hr.row.at x (by omega)
  rw [e1] at hr
  obtain ⟨rfl, h2, h3⟩ := hr.cells
  have hcx := hc x hx
  rw [e1, hk] at hcx
  refine ⟨gb, g1, _, hb, Prod.ext e1 (Prod.ext hk rfl), hcx, fun y hy => ⟨?_, h3 y⟩, .inr ⟨x, hx, e1⟩⟩
  have := h2 y (by omega)
  rw [this, tabQ_val hx hy]
theorem OwnT.putQ {w : World} {lo : Nat} {b : Option Addr} {n d : Nat} {vs : List SV} {v : Nat → Nat → Int} (h : OwnT w lo b n d vs (tabF n v)) {x y g1 c1 : Nat} (hx : x < n) (hy : y < n) (e : vs.getD x svO = (some ⟨g1, 0, none⟩, n, c1)) (z : Int) :
    OwnT (w.setCell ⟨g1, y, none⟩ (.int .i64 z)) lo b n d vs (tabF n (updQ v x y z)) := by
  have := h.setrow x hx (g := g1) (by rw [e]) y z
  rw [tabQ_upd hx hy] at this
  exact this
def unitL (n : Nat) : List Int := (List.range n).map fun i : Nat => (i : Int)
theorem unitL_len (n : Nat) : (unitL n).length = n := by simp [unitL]
theorem unitL_succ (n : Nat) : unitL (n + 1) = unitL n ++ [(n : Int)] := by simp [unitL, List.range_succ]
theorem unitL_get (n i : Nat) (h : i < n) : (unitL n).getD i 0 = i := by
  simp [unitL, List.getD_eq_getElem?_getD, List.getElem?_map, h]
theorem unit_step (n j : Nat) (h : j < n) : (unitL j ++ List.replicate (n - j) 0).set j (j : Int) = unitL (j + 1) ++ List.replicate (n - (j + 1)) 0 := by
  rw [List.set_append_right _ _ (by rw [unitL_len]; omega), unitL_len, Nat.sub_self, unitL_succ, List.append_assoc]
  congr 1
  obtain ⟨m, hm⟩ : ∃ m, n - j = m + 1 := ⟨n - j - 1, by omega⟩
  have hm' : n - (j + 1) = m := by omega
  rw [hm, hm', List.replicate_succ]
  simp
theorem getD_at {p : List Int} {k : Nat} (h : k < p.length) : p.getD k 0 = p[k] := by simp [List.getD_eq_getElem?_getD, h]
def backK (p : List Int) (k : Nat) : List Int := (List.range k).foldl (fun a x => a.set (p.getD x 0).toNat (x : Int)) (List.replicate p.length 0)
theorem backK_succ (p : List Int) (k : Nat) : backK p (k + 1) = (backK p k).set (p.getD k 0).toNat (k : Int) := by
  simp [backK, List.range_succ]
theorem backK_len (p : List Int) (k : Nat) : (backK p k).length = p.length := by
  induction k with
  | zero => simp [backK]
  | succ k ih => rw [backK_succ, List.length_set, ih]
def backF (p : List Int) : List Int := backK p p.length
theorem backF_len (p : List Int) : (backF p).length = p.length := backK_len _ _
set_option maxHeartbeats 1000000 in
theorem identity_any (n : Nat) (w : World) (hn : n ≤ 1000000) :
    Calls Tryz.prog 105 #[.int .i64 n] w fun e w' => ∃ a c, e = .returned (.slice a n c) ∧ Own w' w.heap.size a n c (unitL n) ∧ Below w.heap.size w w' := by
  go_enter Tryz.func105, Tryz.ntmps105
  go_wp2_with (at_make; refine make1 rfl rfl rfl rfl (by omega) ?_; intro w1 ho hs hb)
  go_loopw [9] (fun i wr => ∃ (k : Nat), k ≤ n ∧ i = .int .i64 k ∧ Own wr w.heap.size (some ⟨w.heap.size, 0, none⟩) n n (unitL k ++ List.replicate (n - k) 0) ∧ Below w.heap.size w wr) (fun i _ => n - (intOf i).toNat)
  case atStart => exact ⟨0, Nat.zero_le _, rfl, by simpa [unitL] using ho, hb⟩
  case round =>
    clear ho hb
    obtain ⟨k, hk, rfl, ho, hb⟩ := hrel
    by_cases hlt : k < n
    · have hs := ho.set k k
      rw [unit_step n k hlt] at hs
      have hcf := ho.cells.2.2 k
      have hcc := ho.cells.2.1 k hlt
      have HS := Lib.hid hs; clear hs
      go_wp2
      go_roundw
      case rel => exact ⟨k + 1, by omega, by go_num, HS.out, hb.setCell (by simp) _⟩
      case measure => simp [intOf]; omega
    · obtain rfl : k = n := by omega
      go_wp2
      go_ret
      rw [Nat.sub_self, List.replicate_zero, List.append_nil] at ho
      exact ⟨_, _, rfl, ho, hb⟩
set_option maxHeartbeats 1000000 in
theorem inverse_any (a : Option Addr) (n c : Nat) (p : List Int) (w : World) (h1 : Row w a n p) (hm : n ≤ 1000000) (hp : ∀ x ∈ p, 0 ≤ x ∧ x < n) :
    Calls Tryz.prog 53 #[.slice a n c] w fun e w' => ∃ a' c', e = .returned (.slice a' n c') ∧ Own w' w.heap.size a' n c' (backF p) ∧ Below w.heap.size w w' := by
  have hl := h1.len
  have HP := Lib.hid hp; clear hp
  have HL := Lib.hid hl; clear hl
  go_enter Tryz.func53, Tryz.ntmps53
  go_wp2_with (at_make; refine make1 rfl rfl rfl rfl (by omega) ?_; intro w1 ho hs hb)
  go_loopw [11] (fun i wr => ∃ (k : Nat), k ≤ n ∧ i = .int .i64 k ∧ Own wr w.heap.size (some ⟨w.heap.size, 0, none⟩) n n (backK p k) ∧ Below w.heap.size w wr) (fun i _ => n - (intOf i).toNat)
  case atStart => exact ⟨0, Nat.zero_le _, rfl, by have e := HL.out; rw [e] at ho; simpa [backK, ← e] using ho, hb⟩
  case round =>
    clear ho hb
    obtain ⟨k, hk, rfl, ho, hb⟩ := hrel
    have hr := h1.below hb
    by_cases hlt : k < n
    · obtain ⟨b, off, rfl, g1⟩ := hr.at k hlt
      have hx : k < p.length := by have := HL.out; omega
      obtain ⟨x, hxx⟩ : ∃ x : Nat, p.getD k 0 = x := ⟨(p.getD k 0).toNat, by
        have h := HP.out p[k] (List.getElem_mem hx)
        rw [getD_at hx]; omega⟩
      have hxn : x < n := by
        have h := HP.out p[k] (List.getElem_mem hx)
        rw [getD_at hx] at hxx; omega
      rw [hxx] at g1
      have hs := ho.set x k
      have e : backK p (k + 1) = (backK p k).set x (k : Int) := by rw [backK_succ, hxx]; rfl
      rw [← e] at hs
      have hcf := ho.cells.2.2 x
      have hcc := ho.cells.2.1 x hxn
      have HS := Lib.hid hs; clear hs e hxx
      clear h1
      go_wp2
      go_roundw
      case rel => exact ⟨k + 1, by omega, by go_num, HS.out, hb.setCell (by simp) _⟩
      case measure => simp [intOf]; omega
    · obtain rfl : k = n := by omega
      go_wp2
      go_ret
      have e : backF p = backK p k := by unfold backF; rw [← HL.out]
      rw [← e] at ho
      exact ⟨_, _, rfl, ho, hb⟩
def IsPf (n : Nat) (p : List Int) (f g : Nat → Nat) : Prop := p.length = n ∧ (∀ i, i < n → f i < n ∧ g i < n ∧ f (g i) = i ∧ g (f i) = i) ∧ ∀ i, i < n → p.getD i 0 = (f i : Int)
def IsP (n : Nat) (p : List Int) : Prop := ∃ f g, IsPf n p f g
theorem IsP.len {n : Nat} {p : List Int} (h : IsP n p) : p.length = n := by obtain ⟨f, g, h, _⟩ := h; exact h
theorem IsP.mem {n : Nat} {p : List Int} (h : IsP n p) : ∀ x ∈ p, 0 ≤ x ∧ x < n := by
  obtain ⟨f, g, hl, h1, h2⟩ := h
  intro x hx
  obtain ⟨i, hi, rfl⟩ := List.getElem_of_mem hx
  have := h2 i (by omega)
  rw [getD_at hi] at this
  have := (h1 i (by omega)).1
  omega
theorem unit_isP (n : Nat) : IsP n (unitL n) := ⟨id, id, unitL_len n, fun i h => ⟨h, h, rfl, rfl⟩, fun i h => unitL_get n i h⟩
theorem getD_setz (xs : List Int) (j i : Nat) (x : Int) (h : i < xs.length) : (xs.set j x).getD i 0 = if i = j then x else xs.getD i 0 := by
  simp only [List.getD_eq_getElem?_getD, List.getElem?_set]
  by_cases e : i = j
  · subst e; simp [h]
  · rw [if_neg e, if_neg (fun h => e h.symm)]
theorem backK_get (n : Nat) (p : List Int) (f g : Nat → Nat) (h : IsPf n p f g) (k : Nat) (hk : k ≤ n) : ∀ i, i < n → (backK p k).getD i 0 = if g i < k then (g i : Int) else 0 := by
  obtain ⟨hl, h1, h2⟩ := h
  induction k with
  | zero => intro i hi; simp [backK, List.getD_eq_getElem?_getD]; simp [List.getElem?_replicate]; split <;> rfl
  | succ k ih =>
    intro i hi
    rw [backK_succ, getD_setz _ _ _ _ (by rw [backK_len]; omega), h2 k (by omega), ih (by omega) i hi]
    have ht : ((f k : Nat) : Int).toNat = f k := by simp
    rw [ht]
    by_cases e : i = f k
    · subst e
      rw [if_pos rfl, (h1 k (by omega)).2.2.2, if_pos (by omega)]
    · rw [if_neg e]
      have : g i ≠ k := fun hh => e (by rw [← hh]; exact ((h1 i hi).2.2.1).symm)
      by_cases hc : g i < k
      · rw [if_pos hc, if_pos (by omega)]
      · rw [if_neg hc, if_neg (by omega)]
theorem back_isP {n : Nat} {p : List Int} (h : IsP n p) : IsP n (backF p) := by
  obtain ⟨f, g, hp⟩ := h
  have hb := backK_get n p f g hp n (Nat.le_refl _)
  obtain ⟨hl, h1, h2⟩ := hp
  refine ⟨g, f, by rw [backF_len]; exact hl, fun i hi => ⟨(h1 i hi).2.1, (h1 i hi).1, (h1 i hi).2.2.2, (h1 i hi).2.2.1⟩, fun i hi => ?_⟩
  unfold backF; rw [hl, hb i hi, if_pos (h1 i hi).2.1]
def thL (p q : List Int) : List Int := p.map fun x => q.getD x.toNat 0
theorem thL_succ (p q : List Int) {k : Nat} (h : k < p.length) : thL (p.take (k + 1)) q = thL (p.take k) q ++ [q.getD p[k].toNat 0] := by
  simp only [thL, List.take_succ_eq_append_getElem h, List.map_append, List.map_cons, List.map_nil]
set_option maxHeartbeats 2000000 in
theorem l01Then_any (a1 a2 : Option Addr) (n m c1 c2 : Nat) (p q : List Int) (w : World) (h1 : Row w a1 n p) (h2 : Row w a2 m q) (hm : n ≤ 1000000) (hp : ∀ x ∈ p, 0 ≤ x ∧ x < m) :
    Calls Tryz.prog 149 #[.slice a1 n c1, .slice a2 m c2] w fun e w' => ∃ a' c', e = .returned (.slice a' n c') ∧ Own w' w.heap.size a' n c' (thL p q) ∧ Below w.heap.size w w' := by
  have HL := Lib.hid h1.len; have HP := Lib.hid hp
  clear hp
  go_enter Tryz.func149, Tryz.ntmps149
  go_wp2
  go_loopw [5, 6] (fun s i wr => ∃ (k : Nat) (a' : Option Addr) (c' : Nat), k ≤ n ∧ i = .int .i64 k ∧ s = .slice a' k c' ∧ Own wr w.heap.size a' k c' (thL (p.take k) q) ∧ Below w.heap.size w wr) (fun _ i _ => n - (intOf i).toNat)
  case atStart => exact ⟨0, _, _, Nat.zero_le _, rfl, rfl, Own.fresh w rfl, below_al (Below.refl _ _) _⟩
  case round =>
    obtain ⟨k, a', c', hk, rfl, rfl, ho, hq⟩ := hrel
    by_cases hlt : k < n
    · have hx : k < p.length := by have := HL.out; omega
      obtain ⟨b1, o1, rfl, g1⟩ := (h1.below hq).at k hlt
      rw [getD_at hx] at g1
      have hv := HP.out p[k] (List.getElem_mem hx)
      obtain ⟨v, hve⟩ : ∃ v : Nat, p[k] = v := ⟨p[k].toNat, by omega⟩
      have HST := Lib.hid (thL_succ p q hx)
      rw [hve] at g1 hv HST
      rw [Int.toNat_natCast] at HST
      have hvm : v < m := by omega
      obtain ⟨b2, o2, rfl, g2⟩ := (h2.below hq).at v hvm
      obtain ⟨V, HV⟩ : ∃ V, Hid (q.getD v 0 = V) := ⟨_, rfl⟩
      rw [HV.out] at g2 HST
      have i1 : (0 : Int) ≤ (v : Int) := by omega
      have i2 : (v : Int) < (m : Int) := by omega
      have hwq := hq.size
      clear hve
      go_wp2_with (at_builtin; refine app1 rfl rfl ho rfl rfl (by omega) hwq ?_; intro g' cc w8 hO hg8 hs8 hb8)
      go_roundw
      case rel => exact ⟨k + 1, _, cc, by omega, by go_num, rfl, by rw [HST.out]; exact hO, hq.trans hb8⟩
      case measure => simp [intOf]; omega
    · obtain rfl : k = n := by omega
      go_wp2
      go_ret
      have e : p.take k = p := List.take_of_length_le (by have := HL.out; omega)
      rw [e] at ho
      exact ⟨_, _, rfl, ho, hq⟩
theorem OwnT.fresh (w : World) {b : Nat} (hb : b = w.heap.size) : OwnT (w.alloc (.cells #[] 50)) w.heap.size (some ⟨b, 0, none⟩) 0 0 [] [] :=
  ⟨rfl, rfl, ownsRow_mk rfl (by omega) (Loc.new _ hb _ _) (Nat.le_refl _) (by unfold maxLen; omega) rfl rfl, fun i h => absurd h (by omega), fun i h => absurd h (by omega), fun i j h => absurd h (by omega)⟩
theorem OwnT.snoc {w w' : World} {lo : Nat} {a : Option Addr} {n c : Nat} {vs : List SV} {xss : List (List Int)} {o : Obj} {g cap : Nat} {v : SV} {ys : List Int} (h : OwnT w lo a n c vs xss) (hv : Own w lo v.1 v.2.1 v.2.2 ys)
    (h1 : Apart a v.1) (h2 : ∀ j, j < n → Apart v.1 (vs.getD j svO).1) (ho : w'.ownsRow lo 50 1 (.slice (some ⟨g, 0, none⟩) (n + 1) cap) (n + 1) (vs.map sl ++ [sl v]))
    (hg : w.grownBy w' (Value.slice a n c).ownBlock) (hat : (Value.slice a n c).ownBlock = some g ∨ w.heap.size ≤ g) : OwnT w' lo (some ⟨g, 0, none⟩) (n + 1) cap (vs ++ [v]) (xss ++ [ys]) := by
  have hl := h.len
  have hvl := h.vlen
  have gl : ∀ i, i < n → (vs ++ [v]).getD i svO = vs.getD i svO := fun i hi => by simp [List.getD_eq_getElem?_getD, List.getElem?_append_left (show i < vs.length by omega)]
  have gn : (vs ++ [v]).getD n svO = v := by rw [← hvl]; simp [List.getD_eq_getElem?_getD]
  have xl : ∀ i, i < n → (xss ++ [ys]).getD i [] = xss.getD i [] := fun i hi => by simp [List.getD_eq_getElem?_getD, List.getElem?_append_left (show i < xss.length by omega)]
  have xn : (xss ++ [ys]).getD n [] = ys := by rw [hl]; simp [List.getD_eq_getElem?_getD]
  have hob : ∀ g', (Value.slice a n c).ownBlock = some g' → a = some ⟨g', 0, none⟩ := fun g' e => by
    rcases h.block with ⟨r1, _⟩ | ⟨g2, cur, r1, _⟩
    · subst r1; simp [Value.ownBlock] at e
    · subst r1; simp [Value.ownBlock] at e; subst e; rfl
  have keepR : ∀ i, i < n → Own w' lo (vs.getD i svO).1 (vs.getD i svO).2.1 (vs.getD i svO).2.2 (xss.getD i []) := fun i hi =>
    (h.row i hi).grown hg fun g' hg' e => h.ap i hi g' (hob g' e.symm) hg'
  have keepV : Own w' lo v.1 v.2.1 v.2.2 ys := hv.grown hg fun g' hg' e => h1 g' (hob g' e.symm) hg'
  have apg : ∀ b : Option Addr, (∀ g', b = some ⟨g', 0, none⟩ → g' < w.heap.size) → Apart a b → Apart (some ⟨g, 0, none⟩) b := fun b hb hab g' e hb' => by
    cases e
    rcases hat with hat | hat
    · exact hab g (hob g hat) hb'
    · have := hb g hb'; omega
  refine ⟨by simp [hl], by simp [hvl], by simpa using ho, fun i hi => ?_, fun i hi => ?_, fun i j hi hj hij => ?_⟩
  · by_cases e : i < n
    · rw [gl i e, xl i e]; exact keepR i e
    · obtain rfl : i = n := by omega
      rw [gn, xn]; exact keepV
  · by_cases e : i < n
    · rw [gl i e]; exact apg _ (h.row i e).hi (h.ap i e)
    · obtain rfl : i = n := by omega
      rw [gn]; exact apg _ hv.hi h1
  · by_cases e : i < n
    · by_cases e' : j < n
      · rw [gl i e, gl j e']; exact h.pw i j e e' hij
      · obtain rfl : j = n := by omega
        rw [gl i e, gn]; exact (h2 i e).symm
    · obtain rfl : i = n := by omega
      rw [gn, gl j (by omega)]; exact h2 j (by omega)
theorem appT1 {ops : Array Oper} {rest : List Oper} {o : Oper} {a : Act} {Q : Exit → Act → World → Prop} {w : World} (hgd : o.guard = none) {s x : Operand}
    (ho : o.op = .call { callee := .builtin .append, args := #[s, x], argTypes := #[24, 24] }) {lo : Nat} {ad : Option Addr} {n c : Nat} {vs : List SV} {xss : List (List Int)} (hown : OwnT w lo ad n c vs xss) (hs : a.eval s = .slice ad n c)
    {va : Option Addr} {vn vc : Nat} {ys : List Int} {t : TypeId} (hv : Own w lo va vn vc ys) (h1 : Apart ad va) (h2 : ∀ j, j < n → Apart va (vs.getD j svO).1) (hx : a.eval x = .slice (some ⟨w.heap.size, 0, none⟩) 1 1) (hlen : n + 1 ≤ 1000000000000) (hlo : lo ≤ w.heap.size)
    (h : ∀ g c' w', OwnT w' lo (some ⟨g, 0, none⟩) (n + 1) c' (vs ++ [(va, vn, vc)]) (xss ++ [ys]) → Below lo w w' → wpList Tryz.prog ops Q rest (a.put o.dst (.slice (some ⟨g, 0, none⟩) (n + 1) c')) w') :
    wpList Tryz.prog ops Q (o :: rest) a (w.alloc (.cells #[.slice va vn vc] t)) := by
  obtain ⟨i0, hi, hz0, hz1, hz2⟩ := info_parts info_rows
  refine wpList_plain hgd fun _ hK => ?_
  refine wp_append_lies _ s x 24 ho lo 50 i0 (.slice none 0 0) 1 24 und_rows hi hz0 hz1 hz2 rfl (by decide) _ n (vs.map sl) hs (hown.hdr.alloc _) ⟨w.heap.size, 0, none⟩ 1 1 [.slice va vn vc] hx rfl (cell_one_new _ _ _) ?_ (by omega) ?_ ?_ ?_ (w.heap.size + 1) (by simp) ?_
  · intro u hu; simp at hu; subst hu; rfl
  · unfold maxLen; omega
  · omega
  · simp; omega
  · intro g cap w' ho' hg hat hlt
    have hg' : w.grownBy w' (Value.slice ad n c).ownBlock := by
      have h1 := World.grownBy_alloc w (.cells #[.slice va vn vc] t) (Value.slice ad n c).ownBlock
      exact ⟨hg.os.trans h1.os, hg.tape.trans h1.tape, hg.output.trans h1.output, Nat.le_trans h1.size hg.size, fun k hk hn => (hg.block k (Nat.lt_of_lt_of_le hk h1.size) hn).trans (h1.block k hk hn)⟩
    refine hK _ _ (h g cap w' (hown.snoc (o := .cells #[] t) (v := (va, vn, vc)) hv h1 h2 ho' hg' ?_) ((Below.refl _ _).grown hg' hlo (fun k hk => (World.ownsRow.lt hown.hdr k hk).1)))
    rcases hat with hat | hat
    · exact .inl hat
    · exact .inr (by omega)
theorem wp_appT1 {o : Oper} {a : Act} {K : Act → World → Prop} {Q : Exit → Act → World → Prop} {w : World} {s x : Operand}
    (ho : o.op = .call { callee := .builtin .append, args := #[s, x], argTypes := #[24, 24] }) {lo : Nat} {ad : Option Addr} {n c : Nat} {vs : List SV} {xss : List (List Int)} (hown : OwnT w lo ad n c vs xss) (hs : a.eval s = .slice ad n c)
    {va : Option Addr} {vn vc : Nat} {ys : List Int} {t : TypeId} (hv : Own w lo va vn vc ys) (h1 : Apart ad va) (h2 : ∀ j, j < n → Apart va (vs.getD j svO).1) (hx : a.eval x = .slice (some ⟨w.heap.size, 0, none⟩) 1 1) (hlen : n + 1 ≤ 1000000000000) (hlo : lo ≤ w.heap.size)
    (h : ∀ g c' w', OwnT w' lo (some ⟨g, 0, none⟩) (n + 1) c' (vs ++ [(va, vn, vc)]) (xss ++ [ys]) → w.grownBy w' (Value.slice ad n c).ownBlock → ((Value.slice ad n c).ownBlock = some g ∨ w.heap.size ≤ g) → Below lo w w' → K (a.put o.dst (.slice (some ⟨g, 0, none⟩) (n + 1) c')) w') :
    Oper.wp Tryz.prog o a (w.alloc (.cells #[.slice va vn vc] t)) K Q := by
  obtain ⟨i0, hi, hz0, hz1, hz2⟩ := info_parts info_rows
  refine wp_append_lies _ s x 24 ho lo 50 i0 (.slice none 0 0) 1 24 und_rows hi hz0 hz1 hz2 rfl (by decide) _ n (vs.map sl) hs (hown.hdr.alloc _) ⟨w.heap.size, 0, none⟩ 1 1 [.slice va vn vc] hx rfl (cell_one_new _ _ _) ?_ (by omega) ?_ ?_ ?_ (w.heap.size + 1) (by simp) ?_
  · intro u hu; simp at hu; subst hu; rfl
  · unfold maxLen; omega
  · omega
  · simp; omega
  · intro g cap w' ho' hg hat hlt
    have hg' : w.grownBy w' (Value.slice ad n c).ownBlock := by
      have h1 := World.grownBy_alloc w (.cells #[.slice va vn vc] t) (Value.slice ad n c).ownBlock
      exact ⟨hg.os.trans h1.os, hg.tape.trans h1.tape, hg.output.trans h1.output, Nat.le_trans h1.size hg.size, fun k hk hn => (hg.block k (Nat.lt_of_lt_of_le hk h1.size) hn).trans (h1.block k hk hn)⟩
    have hat' : (Value.slice ad n c).ownBlock = some g ∨ w.heap.size ≤ g := by
      rcases hat with hat | hat
      · exact .inl hat
      · exact .inr (by omega)
    exact h g cap w' (hown.snoc (o := .cells #[] t) (v := (va, vn, vc)) hv h1 h2 ho' hg' hat') hg' hat' ((Below.refl _ _).grown hg' hlo (fun k hk => (World.ownsRow.lt hown.hdr k hk).1))
theorem appT1g {ops : Array Oper} {rest : List Oper} {o : Oper} {a : Act} {Q : Exit → Act → World → Prop} {w : World} (hgd : o.guard = none) {s x : Operand}
    (ho : o.op = .call { callee := .builtin .append, args := #[s, x], argTypes := #[24, 24] }) {lo : Nat} {ad : Option Addr} {n c : Nat} {vs : List SV} {xss : List (List Int)} (hown : OwnT w lo ad n c vs xss) (hs : a.eval s = .slice ad n c)
    {va : Option Addr} {vn vc : Nat} {ys : List Int} {t : TypeId} (hv : Own w lo va vn vc ys) (h1 : Apart ad va) (h2 : ∀ j, j < n → Apart va (vs.getD j svO).1) (hx : a.eval x = .slice (some ⟨w.heap.size, 0, none⟩) 1 1) (hlen : n + 1 ≤ 1000000000000) (hlo : lo ≤ w.heap.size)
    (h : ∀ g c' w', OwnT w' lo (some ⟨g, 0, none⟩) (n + 1) c' (vs ++ [(va, vn, vc)]) (xss ++ [ys]) → w.grownBy w' (Value.slice ad n c).ownBlock → ((Value.slice ad n c).ownBlock = some g ∨ w.heap.size ≤ g) → Below lo w w' → wpList Tryz.prog ops Q rest (a.put o.dst (.slice (some ⟨g, 0, none⟩) (n + 1) c')) w') :
    wpList Tryz.prog ops Q (o :: rest) a (w.alloc (.cells #[.slice va vn vc] t)) :=
  wpList_plain hgd fun _ hK => wp_appT1 ho hown hs hv h1 h2 hx hlen hlo fun g c' w' a b c d => hK _ _ (h g c' w' a b c d)
theorem step_appT1n {ops : Array Oper} {o : Oper} {a : Act} {K : Act → World → Prop} {Q : Exit → Act → World → Prop} {E : Prop} {w : World} (hgd : o.guard = none) {s x : Operand}
    (ho : o.op = .call { callee := .builtin .append, args := #[s, x], argTypes := #[24, 24] }) {lo : Nat} {ad : Option Addr} {n c : Nat} {vs : List SV} {xss : List (List Int)} (hown : OwnT w lo ad n c vs xss) (hs : a.eval s = .slice ad n c)
    {va : Option Addr} {vn vc : Nat} {ys : List Int} {t : TypeId} (hv : Own w lo va vn vc ys) (h1 : Apart ad va) (h2 : ∀ j, j < n → Apart va (vs.getD j svO).1) (hx : a.eval x = .slice (some ⟨w.heap.size, 0, none⟩) 1 1) (hlen : n + 1 ≤ 1000000000000) (hlo : lo ≤ w.heap.size)
    (h : ∀ g c' w', OwnT w' lo (some ⟨g, 0, none⟩) (n + 1) c' (vs ++ [(va, vn, vc)]) (xss ++ [ys]) → w.grownBy w' (Value.slice ad n c).ownBlock → ((Value.slice ad n c).ownBlock = some g ∨ w.heap.size ≤ g) → Below lo w w' → K (a.put o.dst (.slice (some ⟨g, 0, none⟩) (n + 1) c')) w') :
    if Region.wanted o (yielded ops a.tmps) = true then Oper.wp Tryz.prog o a (w.alloc (.cells #[.slice va vn vc] t)) K Q else E := by
  have hw : Region.wanted o (yielded ops a.tmps) = true := by simp [Region.wanted, hgd]
  rw [if_pos hw]
  exact wp_appT1 ho hown hs hv h1 h2 hx hlen hlo h
/-! ### two slices of slices -/
def ApT (a : Option Addr) (n : Nat) (vs : List SV) (a' : Option Addr) (n' : Nat) (vs' : List SV) : Prop := ∀ g, TblS a n vs g → ¬ TblS a' n' vs' g
theorem ApT.symm {a a' : Option Addr} {n n' : Nat} {vs vs' : List SV} (h : ApT a n vs a' n' vs') : ApT a' n' vs' a n vs := fun g h1 h2 => h g h2 h1
section
variable {w w' : World} {lo : Nat} {a a' : Option Addr} {n n' c c' : Nat} {vs vs' : List SV} {xss yss : List (List Int)}
theorem OwnT.ownBlk (h : OwnT w lo a n c vs xss) {g : Nat} (e : (Value.slice a n c).ownBlock = some g) : TblS a n vs g := by
  rcases h.block with ⟨r1, _⟩ | ⟨g2, cur, r1, _⟩
  · subst r1; simp [Value.ownBlock] at e
  · subst r1; simp [Value.ownBlock] at e; subst e; exact .inl rfl
theorem OwnT.other (h : OwnT w lo a n c vs xss) (h' : OwnT w lo a' n' c' vs' yss) (hap : ApT a n vs a' n' vs') (hg : w.grownBy w' (Value.slice a n c).ownBlock) : OwnT w' lo a' n' c' vs' yss :=
  h'.keep fun g hg' hlt => hg.block g hlt fun e => hap g (h.ownBlk e.symm) hg'
theorem ApT.snoc (h : OwnT w lo a n c vs xss) (h' : OwnT w lo a' n' c' vs' yss) (hap : ApT a n vs a' n' vs') {g : Nat} {v : SV} (hvl : vs.length = n) (hat : (Value.slice a n c).ownBlock = some g ∨ w.heap.size ≤ g) (hv : ∀ q, v.1 = some ⟨q, 0, none⟩ → ¬ TblS a' n' vs' q) : ApT (some ⟨g, 0, none⟩) (n + 1) (vs ++ [v]) a' n' vs' := by
  intro q hq h2
  rcases hq with e | ⟨i, hi, e⟩
  · cases e
    rcases hat with hat | hat
    · exact hap _ (h.ownBlk hat) h2
    · have := h'.uHi _ h2; omega
  · by_cases hin : i < n
    · have : (vs ++ [v]).getD i svO = vs.getD i svO := by simp [List.getD_eq_getElem?_getD, List.getElem?_append_left (show i < vs.length by omega)]
      rw [this] at e
      exact hap _ (.inr ⟨i, hin, e⟩) h2
    · obtain rfl : i = n := by omega
      have : (vs ++ [v]).getD i svO = v := by rw [← hvl]; simp [List.getD_eq_getElem?_getD]
      rw [this] at e
      exact hv _ e h2
end
theorem getD_eq_at {xs : List Int} {k : Nat} (h : k < xs.length) : xs.getD k 0 = xs[k] := by simp [List.getD_eq_getElem?_getD, List.getElem?_eq_getElem h]
set_option maxHeartbeats 400000 in
theorem l01Same_any (a1 a2 : Option Addr) (n1 n2 c1 c2 : Nat) (xs ys : List Int) (w : World) (h1 : Row w a1 n1 xs) (h2 : Row w a2 n2 ys) (hm : n1 ≤ 9223372036854775807) :
    Calls Tryz.prog 154 #[.slice a1 n1 c1, .slice a2 n2 c2] w fun e w' => e = .returned (.bool (decide (xs = ys))) ∧ ∃ n, w' = w.drewN n := by
  have hl1 := h1.len
  have hl2 := h2.len
  by_cases hl : n1 = n2
  · subst hl
    have HL := Lib.hid hl1; have HL2 := Lib.hid hl2; clear hl1 hl2
    have hb : ((n1 : Int) != (n1 : Int)) = false := by simp
    go_enter Tryz.func154, Tryz.ntmps154
    go_wp2
    clear hb
    go_loopw [5] (fun i wr => ∃ k : Nat, k ≤ n1 ∧ i = .int .i64 k ∧ xs.take k = ys.take k ∧ ∃ n, wr = w.drewN n) (fun i _ => n1 - (intOf i).toNat)
    case atStart => exact ⟨0, Nat.zero_le _, rfl, by simp, 0, rfl⟩
    case round =>
      obtain ⟨k, hk, rfl, ht, n, rfl⟩ := hrel
      have HT := Lib.hid ht; clear ht
      by_cases hlt : k < n1
      · obtain ⟨b1, o1, rfl, g1⟩ := h1.at k hlt
        obtain ⟨b2, o2, rfl, g2⟩ := h2.at k hlt
        have hx : k < xs.length := by have := HL.out; omega
        have hy : k < ys.length := by have := HL2.out; omega
        clear h1 h2
        go_wp2
        go_quiet (fail)
        go_wp2
        · go_ret
          refine ⟨ret_bool ?_, n + nq, by rw [World.drewN_drewN]⟩
          rename_i hne
          simp only [Bool.false_eq, decide_eq_false_iff_not]
          rintro rfl
          simp at hne
        · go_roundw
          case rel =>
            rename_i hne
            refine ⟨k + 1, by omega, by go_num, take_eq_succ hx hy HT.out (by simpa using hne), n + nq, rfl⟩
          case measure => simp [intOf]; omega
      · obtain rfl : k = n1 := by omega
        go_wp2
        go_ret
        refine ⟨ret_bool ?_, _, rfl⟩
        have := HT.out
        rw [List.take_of_length_le (by have := HL.out; omega), List.take_of_length_le (by have := HL2.out; omega)] at this
        simp [this]
  · have hb : ((n1 : Int) != (n2 : Int)) = true := by simp; omega
    have hne : ¬ xs = ys := by rintro rfl; omega
    clear hl1 hl2
    go_enter Tryz.func154, Tryz.ntmps154
    go_wp2
    go_ret
    exact ⟨ret_bool (by simp [hne]), 0, rfl⟩
set_option maxHeartbeats 1000000 in
theorem l01Index_any (a : Option Addr) (n c : Nat) (xs : List Int) (y : Int) (w : World) (h1 : Row w a n xs) (hm : n ≤ 1000000000000) :
    Calls Tryz.prog 65 #[.slice a n c, .int .i64 y] w fun e w' => ∃ r : Int, e = .returned (.int .i64 r) ∧ decide (0 ≤ r) = decide (y ∈ xs) ∧ w = w' := by
  have hl := h1.len
  have HL := Lib.hid hl; clear hl
  go_enter Tryz.func65, Tryz.ntmps65
  go_wp2
  go_loop [5] (fun i => ∃ k : Nat, k ≤ n ∧ i = .int .i64 k ∧ Hid (y ∉ xs.take k)) (fun i => n - (intOf i).toNat)
  case atStart => exact ⟨0, Nat.zero_le _, rfl, by simp [Hid]⟩
  case round =>
    obtain ⟨k, hk, rfl, hno⟩ := hrel
    by_cases hlt : k < n
    · obtain ⟨b, off, rfl, g1⟩ := h1.at k hlt
      have hx : k < xs.length := by have := HL.out; omega
      rw [getD_eq_at hx] at g1
      obtain ⟨X, hX⟩ : ∃ X, X = xs[k] := ⟨_, rfl⟩
      rw [← hX] at g1
      by_cases he : X = y
      · have hmem : y ∈ xs := by rw [← he, hX]; exact List.getElem_mem hx
        have HMm := Lib.hid hmem
        clear hmem hX
        subst he
        go_wp2
        go_ret
        exact ⟨_, rfl, by have := HMm.out; simp [this], rfl⟩
      · have hno2 : y ∉ xs.take (k + 1) := by
          rw [List.take_succ_eq_append_getElem hx]
          simp only [List.mem_append, List.mem_singleton, not_or]
          exact ⟨hno, fun e => he (hX.trans e.symm)⟩
        have HN := Lib.hid hno2
        have hb : (X == y) = false := by simpa using he
        clear hno2 hX
        go_wp2
        go_round
        case rel => exact ⟨k + 1, by omega, by go_num, HN⟩
        case measure => simp [intOf]; omega
    · obtain rfl : k = n := by omega
      have hno' : y ∉ xs := by
        have h := hno
        rw [List.take_of_length_le (by have := HL.out; omega)] at h
        exact h
      have HN := Lib.hid hno'; clear hno'
      go_wp2
      go_ret
      exact ⟨-1, rfl, by have := HN.out; simp [this], rfl⟩
theorem l01Has_any (a : Option Addr) (n c : Nat) (xs : List Int) (y : Int) (w : World) (h1 : Row w a n xs) (hm : n ≤ 1000000000000) :
    Calls Tryz.prog 127 #[.slice a n c, .int .i64 y] w fun e w' => e = .returned (.bool (decide (y ∈ xs))) ∧ w = w' := by
  go_enter Tryz.func127, Tryz.ntmps127
  go_wp2_with fail
  refine (l01Index_any _ _ _ xs y _ h1 hm).mono ?_
  rintro e w' ⟨r, rfl, hr, rfl⟩
  have HR := Lib.hid hr; clear hr
  go_wp2
  go_ret
  exact ⟨ret_bool HR.out, rfl⟩
theorem pow_bd {n m : Nat} (hn : n ≤ 7) (hm : m ≤ 7) : n ^ m ≤ 1000000 := by
  have h1 : n ^ m ≤ 7 ^ m := Nat.pow_le_pow_left hn m
  have h2 : 7 ^ m ≤ 7 ^ 7 := Nat.pow_le_pow_right (by omega) hm
  have h3 : (7 : Nat) ^ 7 ≤ 1000000 := by decide
  omega
def GrT (E : Nat → Prop) (w : World) (lo : Nat) (a : Option Addr) (n : Nat) (vs : List SV) (yss : List (List Int)) (e : Ending) (w' : World) : Prop :=
  ∃ a' n' c' vs', e = .returned (.slice a' n' c') ∧ OwnT w' lo a' n' c' vs' yss ∧ Marked (TblS a n vs) w w' ∧ ∀ g, TblS a' n' vs' g → TblS a n vs g ∨ E g ∨ w.heap.size ≤ g
theorem Marked.refl (S : Nat → Prop) (w : World) : Marked S w w := ⟨rfl, rfl, rfl, Nat.le_refl _, fun _ _ _ => rfl⟩
theorem Marked.ofB {S : Nat → Prop} {w w' : World} (h : Below w.heap.size w w') : Marked S w w' := ⟨h.os, h.tape, h.output, h.size, fun k hk _ => h.block k hk⟩
theorem Marked.then {S T : Nat → Prop} {a b c : World} (h : Marked S a b) (k : Marked T b c) (hT : ∀ g, T g → S g ∨ a.heap.size ≤ g) : Marked S a c :=
  ⟨k.os.trans h.os, k.tape.trans h.tape, k.output.trans h.output, Nat.le_trans h.size k.size, fun i hi hs => (k.block i (Nat.lt_of_lt_of_le hi h.size) (fun ht => by rcases hT i ht with h' | h'; exact hs h'; omega)).trans (h.block i hi hs)⟩
theorem Marked.grown {w w' : World} {lo : Nat} {a : Option Addr} {n c : Nat} {vs : List SV} {xss : List (List Int)} (h : OwnT w lo a n c vs xss) (hg : w.grownBy w' (Value.slice a n c).ownBlock) : Marked (TblS a n vs) w w' :=
  ⟨hg.os, hg.tape, hg.output, hg.size, fun k hk hs => hg.block k hk (fun e => hs (h.ownBlk e.symm))⟩
theorem Marked.own {w w' : World} {S : Nat → Prop} {lo : Nat} {a : Option Addr} {n c : Nat} {xs : List Int} (h : Own w lo a n c xs) (hm : Marked S w w') (hS : ∀ g, a = some ⟨g, 0, none⟩ → ¬ S g) : Own w' lo a n c xs := h.uKeep hm hS
theorem Marked.lowb {w w' : World} {S : Nat → Prop} {lo : Nat} (hm : Marked S w w') (hS : ∀ g, S g → lo ≤ g) (hlo : lo ≤ w.heap.size) : Below lo w w' := ⟨hm.os, hm.tape, hm.output, hm.size, fun k hk => hm.block k (by omega) (fun h => by have := hS k h; omega)⟩
theorem TblS.snoc {a : Option Addr} {n : Nat} {vs : List SV} {v : SV} {g q : Nat} (hl : vs.length = n) (h : TblS (some ⟨g, 0, none⟩) (n + 1) (vs ++ [v]) q) : q = g ∨ v.1 = some ⟨q, 0, none⟩ ∨ TblS a n vs q := by
  rcases h with e | ⟨i, hi, e⟩
  · cases e; exact .inl rfl
  · by_cases hin : i < n
    · have : (vs ++ [v]).getD i svO = vs.getD i svO := by simp [List.getD_eq_getElem?_getD, List.getElem?_append_left (show i < vs.length by omega)]
      rw [this] at e
      exact .inr (.inr (.inr ⟨i, hin, e⟩))
    · obtain rfl : i = n := by omega
      have : (vs ++ [v]).getD i svO = v := by rw [← hl]; simp [List.getD_eq_getElem?_getD]
      rw [this] at e
      exact .inr (.inl e)
end Go.Proofs.YtiliimkfobfbnaaGreat
namespace Go.Proofs.YtiliimkfobfbnaaGreat
set_option maxRecDepth 100000
set_option linter.unusedVariables false
set_option linter.unusedSimpArgs false
def RwOk (n : Nat) (r : List Int) : Prop := r = [] ∨ IsP n r
def RwsOk (n : Nat) (o : List (List Int)) : Prop := o.length = n ∧ ∀ i, i < n → RwOk n (o.getD i [])
theorem RwsOk.set {n : Nat} {o : List (List Int)} (h : RwsOk n o) (z : Nat) {r : List Int} (hr : RwOk n r) : RwsOk n (o.set z r) := by
  refine ⟨by rw [List.length_set]; exact h.1, fun i hi => ?_⟩
  rw [getD_set' o z i r [] (by rw [h.1]; exact hi)]
  split
  · exact hr
  · exact h.2 i hi
theorem IsP.at {n : Nat} {r : List Int} (h : IsP n r) {y : Nat} (hy : y < n) : ∃ z : Nat, r.getD y 0 = z ∧ z < n := by
  obtain ⟨f, g, hl, h1, h2⟩ := h
  exact ⟨f y, h2 y hy, (h1 y hy).1⟩
end Go.Proofs.YtiliimkfobfbnaaGreat
