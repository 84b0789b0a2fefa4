/-
  The guitar map: a nondegenerate solution and the twisted solution of its derived rack by the identity lead tuples alike; in plain lists.
  No condition.
-/
import Derived.Test.YtdkpalllfekiiaaGreatActP
import Derived.Test.YtdkpalllfekiiaaGreatBase3
import Derived.Test.YtdkpalllfekiiaaGreatBase5
namespace Go.Proofs.YtdkpalllfekiiaaGreat
set_option maxRecDepth 100000
set_option linter.unusedVariables false
set_option linter.unusedSimpArgs false

/-! ### tables as functions -/
/-- what a nondegenerate solution is, by the values of its tables -/
structure Ybe (n : Nat) (f g : List (List Int)) : Prop where
  sf : Sq n f
  sg : Sq n g
  pos : 1 ≤ n
  coll : collOk n f g = true
  one : ∀ x y z, x < n → y < n → z < n → tv f (tv f x y) (tv f (tv g x y) z) = tv f x (tv f y z)
  two : ∀ x y z, x < n → y < n → z < n → tv g (tv f x y) (tv f (tv g x y) z) = tv f (tv g x (tv f y z)) (tv g y z)
  three : ∀ x y z, x < n → y < n → z < n → tv g (tv g x y) z = tv g (tv g x (tv f y z)) (tv g y z)
  row : ∀ x, x < n → IsP n (f.getD x [])
theorem eqOk_at {n : Nat} {f g : List (List Int)} (h : eqOk n f g = true) {x y z : Nat} (hx : x < n) (hy : y < n) (hz : z < n) :
    tv f (tv f x y) (tv f (tv g x y) z) = tv f x (tv f y z) ∧ tv g (tv f x y) (tv f (tv g x y) z) = tv f (tv g x (tv f y z)) (tv g y z) ∧ tv g (tv g x y) z = tv g (tv g x (tv f y z)) (tv g y z) := by
  have := allN_get (allN_get (allN_get h hx) hy) hz
  unfold eqAt at this
  simp only [Bool.and_eq_true, decide_eq_true_eq] at this
  exact ⟨this.1.1, this.1.2, this.2⟩
theorem eqOk_of {n : Nat} {f g : List (List Int)} (h : ∀ x y z, x < n → y < n → z < n → tv f (tv f x y) (tv f (tv g x y) z) = tv f x (tv f y z) ∧ tv g (tv f x y) (tv f (tv g x y) z) = tv f (tv g x (tv f y z)) (tv g y z) ∧ tv g (tv g x y) z = tv g (tv g x (tv f y z)) (tv g y z)) : eqOk n f g = true := by
  unfold eqOk allN
  simp only [List.all_eq_true, List.mem_range]
  intro x hx y hy z hz
  obtain ⟨h1, h2, h3⟩ := h x y z hx hy hz
  unfold eqAt
  simp only [Bool.and_eq_true, decide_eq_true_eq]
  exact ⟨⟨h1, h2⟩, h3⟩
theorem coll_of {n : Nat} {f g : List (List Int)} (hn : 1 ≤ n) (hI : InjP n f g) : collOk n f g = true := by
  unfold collOk allN
  simp only [List.all_eq_true, List.mem_range]
  intro p hp q hq
  unfold collAt
  by_cases e : p = q
  · simp [e]
  · by_cases e1 : tv f (p / n) (p % n) = tv f (q / n) (q % n)
    · by_cases e2 : tv g (p / n) (p % n) = tv g (q / n) (q % n)
      · obtain ⟨h1, h2⟩ := hI _ _ _ _ (div_lt_sq hp) (Nat.mod_lt _ hn) (div_lt_sq hq) (Nat.mod_lt _ hn) e1 e2
        exact absurd (by rw [← Nat.div_add_mod p n, ← Nat.div_add_mod q n, h1, h2]) e
      · simp [e2]
    · simp [e1]
section
variable {n : Nat} {f g : List (List Int)}
/-- a row, taken back -/
def bkN (f : List (List Int)) (x y : Nat) : Nat := ((backF (f.getD x [])).getD y 0).toNat
theorem Ybe.bk (h : Ybe n f g) {x y : Nat} (hx : x < n) (hy : y < n) : bkN f x y < n ∧ tv f x (bkN f x y) = y := by
  obtain ⟨q, e1, hq, e2⟩ := backF_at (h.row x hx) y hy
  unfold bkN tv
  rw [e1, Int.toNat_natCast, e2, Int.toNat_natCast]
  exact ⟨hq, rfl⟩
theorem Ybe.inj (h : Ybe n f g) {x y z : Nat} (hx : x < n) (hy : y < n) (hz : z < n) (e : tv f x y = tv f x z) : y = z := by
  obtain ⟨F, G, hl, h1, h2⟩ := h.row x hx
  unfold tv at e
  rw [h2 y hy, h2 z hz, Int.toNat_natCast, Int.toNat_natCast] at e
  rw [← (h1 y hy).2.2.2, ← (h1 z hz).2.2.2, e]
theorem Ybe.bk_eq (h : Ybe n f g) {x y z : Nat} (hx : x < n) (hz : z < n) (e : tv f x z = y) : bkN f x y = z := by
  have hy : y < n := by rw [← e]; exact h.sf.lt hx hz
  obtain ⟨h1, h2⟩ := h.bk hx hy
  exact h.inj hx h1 hz (h2.trans e.symm)
/-- the derived rack -/
def drN (f g : List (List Int)) (x y : Nat) : Nat := tv f x (tv g y (bkN f y x))
def drL (n : Nat) (f g : List (List Int)) : List (List Int) := tabF n fun x y => ((drN f g x y : Nat) : Int)
/-- the twisted solution by the identity -/
def twF (n : Nat) : List (List Int) := tabF n fun _ y => ((y : Nat) : Int)
def twG (n : Nat) (f g : List (List Int)) : List (List Int) := tabF n fun x y => ((drN f g y x : Nat) : Int)
theorem Ybe.dr_lt (h : Ybe n f g) {x y : Nat} (hx : x < n) (hy : y < n) : drN f g x y < n := h.sf.lt hx (h.sg.lt hy (h.bk hy hx).1)
theorem tw_f {n x y : Nat} (hx : x < n) (hy : y < n) : tv (twF n) x y = y := tv_tab hx hy
theorem Ybe.tw_g (h : Ybe n f g) {x y : Nat} (hx : x < n) (hy : y < n) : tv (twG n f g) x y = drN f g y x := tv_tab (V := fun x y => drN f g y x) hx hy
theorem Ybe.sqF (h : Ybe n f g) : Sq n (twF n) := Sq.tab fun x y _ hy => hy
theorem Ybe.sqG (h : Ybe n f g) : Sq n (twG n f g) := Sq.tab fun x y hx hy => h.dr_lt hy hx
theorem Ybe.sqR (h : Ybe n f g) : Sq n (drL n f g) := Sq.tab fun x y hx hy => h.dr_lt hx hy
theorem Ybe.dr_at (h : Ybe n f g) {x y : Nat} (hx : x < n) (hy : y < n) : drN f g (tv f x y) x = tv f (tv f x y) (tv g x y) := by
  unfold drN; rw [h.bk_eq hx hy rfl]
/-- lambdas are automorphisms of the derived rack -/
theorem Ybe.aut (h : Ybe n f g) {a u x : Nat} (ha : a < n) (hu : u < n) (hx : x < n) : drN f g (tv f a u) (tv f a x) = tv f a (drN f g u x) := by
  obtain ⟨hy, ey⟩ := h.bk hx hu
  generalize bkN f x u = y at hy ey
  subst ey
  have h1 := h.sf.lt ha hx
  have h2 := h.sg.lt ha hx
  have h3 := h.sf.lt h2 hy
  have h4 := h.sf.lt hx hy
  have h5 := h.sg.lt hx hy
  rw [h.dr_at hx hy, ← h.one a x y ha hx hy, h.dr_at h1 h3, h.one a x y ha hx hy, h.two a x y ha hx hy]
  exact h.one a (tv f x y) (tv g x y) ha h4 h5

/-! ### the map of tuples -/
def guL (f : List (List Int)) : List Int → List Int
  | [] => []
  | x :: l => x :: (guL f l).map fun y => ((tv f x.toNat y.toNat : Nat) : Int)
theorem guL_len (f : List (List Int)) : ∀ l, (guL f l).length = l.length := by
  intro l
  induction l with
  | nil => rfl
  | cons x l ih => simp [guL, ih]
theorem less_cons {x : Int} {l : List Int} (h : Less n (x :: l)) : (∃ k : Nat, k < n ∧ x = (k : Int)) ∧ Less n l :=
  ⟨by obtain ⟨k, hk, e⟩ := h 0 (by simp); exact ⟨k, hk, by simpa using e⟩, fun i hi => by obtain ⟨k, hk, e⟩ := h (i + 1) (by simpa using hi); exact ⟨k, hk, by simpa using e⟩⟩
theorem cons_less {k : Nat} {l : List Int} (hk : k < n) (h : Less n l) : Less n ((k : Int) :: l) := fun i hi => by
  cases i with
  | zero => exact ⟨k, hk, rfl⟩
  | succ i => obtain ⟨q, hq, e⟩ := h i (by simpa using hi); exact ⟨q, hq, by simpa using e⟩
theorem map_less {l : List Int} {F : Nat → Nat} (hF : ∀ x, x < n → F x < n) (h : Less n l) : Less n (l.map fun y => ((F y.toNat : Nat) : Int)) := fun i hi => by
  have hi' : i < l.length := by simpa using hi
  obtain ⟨k, hk, e⟩ := h i hi'
  refine ⟨F k, hF k hk, ?_⟩
  rw [List.getD_eq_getElem?_getD, List.getElem?_map, List.getElem?_eq_getElem hi']
  rw [List.getD_eq_getElem?_getD, List.getElem?_eq_getElem hi', Option.getD_some] at e
  simp [e]
theorem Ybe.gu_less (h : Ybe n f g) : ∀ l, Less n l → Less n (guL f l) := by
  intro l
  induction l with
  | nil => intro h; exact h
  | cons x l ih =>
    intro hl
    obtain ⟨⟨k, hk, rfl⟩, h2⟩ := less_cons hl
    exact cons_less hk (map_less (F := fun y => tv f (k : Int).toNat y) (fun y hy => by rw [Int.toNat_natCast]; exact h.sf.lt hk hy) (ih h2))
theorem map_cg {l : List Int} {F G : Nat → Nat} (hl : Less n l) (e : ∀ x, x < n → F x = G x) : (l.map fun y => ((F y.toNat : Nat) : Int)) = l.map fun y => ((G y.toNat : Nat) : Int) := by
  refine List.map_congr_left fun y hy => ?_
  have := hl.mem y hy
  rw [e y.toNat (by omega)]
/-- tuples whose images are equal are equal -/
theorem Ybe.gu_inj (h : Ybe n f g) : ∀ l m, Less n l → Less n m → guL f l = guL f m → l = m := by
  intro l
  induction l with
  | nil =>
    intro m _ _ e
    cases m with
    | nil => rfl
    | cons y m => simp [guL] at e
  | cons x l ih =>
    intro m hl hm e
    cases m with
    | nil => simp [guL] at e
    | cons y m =>
      obtain ⟨⟨a, ha, rfl⟩, hl2⟩ := less_cons hl
      obtain ⟨⟨b, hb, rfl⟩, hm2⟩ := less_cons hm
      simp only [guL, List.cons.injEq] at e
      obtain ⟨e1, e2⟩ := e
      obtain rfl : a = b := by omega
      have el : guL f l = guL f m := by
        have hL := h.gu_less l hl2
        have hM := h.gu_less m hm2
        have hlen : (guL f l).length = (guL f m).length := by have := congrArg List.length e2; simpa using this
        refine list_ext0 hlen fun i hi => ?_
        have hi2 : i < (guL f m).length := by omega
        obtain ⟨p, hp, ep⟩ := hL i hi
        obtain ⟨q, hq, eq⟩ := hM i hi2
        have e3 := congrArg (fun L => L.getD i 0) e2
        simp only [List.getD_eq_getElem?_getD, List.getElem?_map, List.getElem?_eq_getElem hi, List.getElem?_eq_getElem hi2, Option.map_some, Option.getD_some] at e3
        rw [List.getD_eq_getElem?_getD, List.getElem?_eq_getElem hi, Option.getD_some] at ep
        rw [List.getD_eq_getElem?_getD, List.getElem?_eq_getElem hi2, Option.getD_some] at eq
        rw [ep, eq, Int.toNat_natCast, Int.toNat_natCast, Int.toNat_natCast] at e3
        rw [List.getD_eq_getElem?_getD, List.getElem?_eq_getElem hi, List.getD_eq_getElem?_getD, List.getElem?_eq_getElem hi2, Option.getD_some, Option.getD_some, ep, eq, h.inj ha hp hq (by omega)]
      rw [ih m hl2 hm2 el]
/-- each tuple is an image -/
theorem Ybe.gu_sur (h : Ybe n f g) : ∀ m, Less n m → ∃ l, Less n l ∧ l.length = m.length ∧ guL f l = m := by
  have key : ∀ (k : Nat) (m : List Int), m.length = k → Less n m → ∃ l, Less n l ∧ l.length = m.length ∧ guL f l = m := by
    intro k
    induction k with
    | zero => intro m hm hL; exact ⟨[], fun i hi => absurd hi (by simp), by simpa using hm.symm, by rw [List.eq_nil_of_length_eq_zero hm]; rfl⟩
    | succ k ih =>
      intro m hm hL
      cases m with
      | nil => simp at hm
      | cons x m =>
        obtain ⟨⟨a, ha, rfl⟩, hm2⟩ := less_cons hL
        obtain ⟨l, h1, h2, h3⟩ := ih (m.map fun y => ((bkN f a y.toNat : Nat) : Int)) (by simpa using hm) (map_less (F := fun y => bkN f a y) (fun y hy => (h.bk ha hy).1) hm2)
        refine ⟨(a : Int) :: l, cons_less ha h1, by simpa using h2, ?_⟩
        simp only [guL, h3, List.map_map]
        congr 1
        have : m = m.map id := by simp
        conv => rhs; rw [this]
        refine List.map_congr_left fun y hy => ?_
        have := hm2.mem y hy
        simp only [Function.comp, Int.toNat_natCast, id]
        rw [(h.bk ha (show y.toNat < n by omega)).2]; omega
  exact fun m hm => key m.length m rfl hm
theorem doF_cons (f g : List (List Int)) (i : Nat) (x : Int) (l : List Int) : doF f g (i + 1) (x :: l) = x :: doF f g i l := by simp [doF]
theorem doF_zero (f g : List (List Int)) (x y : Int) (l : List Int) : doF f g 0 (x :: y :: l) = ((tv f x.toNat y.toNat : Nat) : Int) :: ((tv g x.toNat y.toNat : Nat) : Int) :: l := by simp [doF]
/-- moves go through automorphisms -/
theorem doF_map {F : Nat → Nat} {p q : List (List Int)} (hF : ∀ x, x < n → F x < n) (hp : ∀ x y, x < n → y < n → tv p (F x) (F y) = F (tv p x y)) (hq : ∀ x y, x < n → y < n → tv q (F x) (F y) = F (tv q x y)) : ∀ (i : Nat) (l : List Int), i + 1 < l.length → Less n l →
    doF p q i (l.map fun y => ((F y.toNat : Nat) : Int)) = (doF p q i l).map fun y => ((F y.toNat : Nat) : Int) := by
  intro i
  induction i with
  | zero =>
    intro l hi hl
    match l, hi, hl with
    | x :: y :: l, _, hl =>
      obtain ⟨⟨a, ha, rfl⟩, hl2⟩ := less_cons hl
      obtain ⟨⟨b, hb, rfl⟩, hl3⟩ := less_cons hl2
      simp only [List.map_cons, doF_zero, Int.toNat_natCast, hp a b ha hb, hq a b ha hb]
  | succ i ih =>
    intro l hi hl
    cases l with
    | nil => simp at hi
    | cons x l =>
      obtain ⟨_, hl2⟩ := less_cons hl
      rw [List.map_cons, doF_cons, doF_cons, List.map_cons, ih l (by simpa using hi) hl2]
/-- the map of tuples leads moves to moves -/
theorem Ybe.gu_do (h : Ybe n f g) : ∀ (i : Nat) (l : List Int), i + 1 < l.length → Less n l → guL f (doF f g i l) = doF (twF n) (twG n f g) i (guL f l) := by
  intro i
  induction i with
  | zero =>
    intro l hi hl
    match l, hi, hl with
    | x :: y :: l, _, hl =>
      obtain ⟨⟨a, ha, rfl⟩, hl2⟩ := less_cons hl
      obtain ⟨⟨b, hb, rfl⟩, hl3⟩ := less_cons hl2
      have hL := h.gu_less l hl3
      have h1 := h.sf.lt ha hb
      have h2 := h.sg.lt ha hb
      simp only [doF_zero, guL, List.map_cons, List.map_map, Int.toNat_natCast]
      rw [tw_f ha h1, h.tw_g ha h1, h.dr_at ha hb]
      congr 2
      refine List.map_congr_left fun z hz => ?_
      have := hL.mem z hz
      simp only [Function.comp, Int.toNat_natCast]
      rw [h.one a b z.toNat ha hb (by omega)]
  | succ i ih =>
    intro l hi hl
    cases l with
    | nil => simp at hi
    | cons x l =>
      obtain ⟨⟨a, ha, rfl⟩, hl2⟩ := less_cons hl
      have hL := h.gu_less l hl2
      have hi2 : i + 1 < l.length := by simpa using hi
      rw [doF_cons]
      simp only [guL]
      rw [doF_cons, ih l hi2 hl2]
      congr 1
      symm
      refine doF_map (F := fun y => tv f (a : Int).toNat y) (n := n) (fun y hy => by rw [Int.toNat_natCast]; exact h.sf.lt ha hy) (fun x y hx hy => ?_) (fun x y hx hy => ?_) i (guL f l) (by rw [guL_len]; exact hi2) hL
      · simp only [Int.toNat_natCast]
        rw [tw_f (h.sf.lt ha hx) (h.sf.lt ha hy), tw_f hx hy]
      · simp only [Int.toNat_natCast]
        rw [h.tw_g (h.sf.lt ha hx) (h.sf.lt ha hy), h.tw_g hx hy]
        exact h.aut ha hy hx
end
end Go.Proofs.YtdkpalllfekiiaaGreat
