/-
  Walks and plain laws of this seat, some texts in one.
  No condition but bounds on lengths.
-/
import Derived.Test.YtiliimkfobfbnaaGreatPt15
import Derived.Test.YtiliimkfobfbnaaGreatPt6
import Derived.Test.YtiliimkfobfbnaaGreatPt3
import Derived.Deep.AppendSrc
import Derived.Test.YtiliimkfobfbnaaGreatPt2
import Derived.Deep.RegionLaw
import Derived.Deep.RegionHeld3
import Derived.Test.YtiliimkfobfbnaaGreatPt4
import Derived.Test.YtiliimkfobfbnaaGreatPt5
import Derived.Test.YtiliimkfobfbnaaGreatPt19
import Derived.Test.YtiliimkfobfbnaaGreatPt14
import Derived.Test.YtiliimkfobfbnaaGreatPt10
import Derived.Test.YtiliimkfobfbnaaGreatPt11
import Derived.Test.YtiliimkfobfbnaaGreatPt8
namespace Go.Proofs.YtiliimkfobfbnaaGreat
set_option maxRecDepth 100000
set_option linter.unusedVariables false
set_option linter.unusedSimpArgs false
open Go.RowKit
set_option maxHeartbeats 8000000 in
theorem quotientBrace_any (n s : Nat) (a a' : Option Addr) (c c' : Nat) (f g : List (List Int)) (w : World) (h1 : Tbl w a n f) (h2 : Tbl w a' n g) (hT : BrT n f g) (hs : s < 2 ^ n) (hL : Ldr n (ldC f s)) :
    Calls Tryz.prog 47 #[sAgg a n c a' n c', .int .i64 s] w fun e w' => ∃ a1 c1 vs a1' c1' vs', e = .returned (sAgg a1 (rkL (ldC f s) n) c1 a1' (rkL (ldC f s) n) c1') ∧ OwnS w' w.heap.size a1 (rkL (ldC f s) n) c1 vs (quT n (ldC f s) f) a1' (rkL (ldC f s) n) c1' vs' (quT n (ldC f s) g) ∧ Below w.heap.size w w' := by
  have HCO := Lib.hid (fun (w : World) (h1 : Tbl w a n f) => cosets_any n s a c f w h1 hT.sf hT.n1 hT.n12 hs hL)
  have HQA := Lib.hid (fun (ac : Option Addr) (cc : Nat) (w : World) (h1 : Tbl w a n f) (hr : Row w ac n (clsL n (ldC f s))) => quotientTable_any n (ldC f s) a ac c cc f w h1 hr hL hT.sf hT.n1 hT.n12)
  have HQC := Lib.hid (fun (ac : Option Addr) (cc : Nat) (w : World) (h2 : Tbl w a' n g) (hr : Row w ac n (clsL n (ldC f s))) => quotientTable_any n (ldC f s) a' ac c' cc g w h2 hr hL hT.sg hT.n1 hT.n12)
  have hco := HCO.out; have hqa := HQA.out; have hqc := HQC.out
  obtain ⟨M, HM⟩ : ∃ M, Hid (rkL (ldC f s) n = M) := ⟨_, Lib.hid rfl⟩
  rw [HM.out] at hqa hqc ⊢
  clear HCO HQA HQC
  have HCO := Lib.hid hco; have HQA := Lib.hid hqa; have HQC := Lib.hid hqc
  clear hco hqa hqc hT hL
  obtain ⟨w0, hw0⟩ : ∃ w0, (w.alloc (.cells #[.slice a n c, .slice a' n c'] 26)).alloc (.cells #[.slice none 0 0, .slice none 0 0] 26) = w0 := ⟨_, rfl⟩
  have hz0 : w0.heap.size = w.heap.size + 2 := by rw [← hw0]; simp
  have hB : Below w.heap.size w w0 := by rw [← hw0]; exact below_al (below_al (Below.refl _ _) _) _
  have hA : Loc w0 w.heap.size #[.slice a n c, .slice a' n c'] 26 := by rw [← hw0]; exact (Loc.new w rfl _ _).alloc _
  have hO : Loc w0 (w.heap.size + 1) #[.slice none 0 0, .slice none 0 0] 26 := by rw [← hw0]; exact Loc.new _ (by simp) _ _
  have HZ0 := Lib.hid hz0
  have lA := hA.two
  go_enter Tryz.func47, Tryz.ntmps47
  go_wp2_with fail
  try rw [hw0]
  refine (HCO.out _ (h1.below hB)).mono ?_
  rintro e w3 ⟨ak, ck, rfl, hok, hb1⟩
  have hz3 := hb1.size
  have hB3 := below_th hB hb1
  have hA3 := hA.below hb1 hA.lt
  have hO3 := hO.below hb1 hO.lt
  have lA3 := hA3.two
  have t1 := (h1.below hB3).drewN 1
  have hr1 := hok.row.drewN 1
  have hAlt := hA3.lt
  have hOlt := hO3.lt
  have tok1 : True := trivial
  clear hz0 hw0 lA
  have HOC := Lib.hid (fun (v : World) (hb : Below w3.heap.size w3 v) => (hO3.below hb hOlt).two)
  have HAC := Lib.hid (fun (v : World) (hb : Below w3.heap.size w3 v) => hA3.below hb hAlt)
  go_wp2
  go_region_held3 (fun w' => w'.cell? ⟨w.heap.size, 0, none⟩ = some (.slice a n c) ∧ w'.cell? ⟨w.heap.size, 1, none⟩ = some (.slice a' n c'))
    (first | exact l6 | exact l5 | exact l4 | exact ⟨lA3.1, lA3.2.1⟩ | go_keep)
    (first
      | (go_at_call 85; have _t := tok1; refine (HQA.out _ _ _ t1 hr1).mono ?_; rintro e w4 ⟨a4, c4, vs4, rfl, ho4, hb4'⟩; clear _t tok1; have tok2 : True := trivial; have hb4 : Below w3.heap.size w3 w4 := below_th (below_drewN (Below.refl _ _) 1) hb4'; have hA4 := HAC.out w4 hb4; have l4 : w4.cell? ⟨w.heap.size, 0, none⟩ = some (.slice a n c) ∧ w4.cell? ⟨w.heap.size, 1, none⟩ = some (.slice a' n c') := ⟨hA4.two.1, hA4.two.2.1⟩)
      | (go_at_call 85; have _t := tok2; refine (HQC.out _ _ _ (h2.below (below_th hB3 hb4)) (hok.row.below hb4)).mono ?_; rintro e w5 ⟨a5, c5, vs5, rfl, ho5, hb5'⟩; clear _t tok2; have hb5 : Below w3.heap.size w3 w5 := below_th hb4 hb5'; have hA5 := HAC.out w5 hb5; have lO5 := HOC.out w5 hb5; have l5 : w5.cell? ⟨w.heap.size, 0, none⟩ = some (.slice a n c) ∧ w5.cell? ⟨w.heap.size, 1, none⟩ = some (.slice a' n c') := ⟨hA5.two.1, hA5.two.2.1⟩; have hA6 := (hA5.setne (a := ⟨w.heap.size + 1, 0, none⟩) (by show w.heap.size ≠ w.heap.size + 1; omega) (.slice a4 M c4)).setne (a := ⟨w.heap.size + 1, 1, none⟩) (by show w.heap.size ≠ w.heap.size + 1; omega) (.slice a5 M c5); have l6 := And.intro hA6.two.1 hA6.two.2.1))
  all_goals
    have ho4b := ho4.below hb5'
    have hap : ∀ g, TblS a4 M vs4 g → ¬ TblS a5 M vs5 g := fun g h1 h2 => by have e1 := ho4.uHi g h1; have e2 := ho5.uLo g h2; omega
    have hz4 := hb4.size
    have hB5 := below_th hB3 hb5
    have hz0 := HZ0.out
    go_wp2
    refine bodyPost_ret (v := sAgg a4 M c4 a5 M c5) (by simp [results, Tryz.results47, go_sem, lO5]) rfl ⟨a4, c4, vs4, a5, c5, vs5, rfl, ⟨?_, ?_, hap⟩, ?_⟩
    · exact ((ho4b.setlo (by show w.heap.size + 1 < w3.heap.size; omega) _).setlo (by show w.heap.size + 1 < w3.heap.size; omega) _).mono (by show w.heap.size ≤ w3.heap.size; omega)
    · exact ((ho5.setlo (by show w.heap.size + 1 < w4.heap.size; omega) _).setlo (by show w.heap.size + 1 < w4.heap.size; omega) _).mono (by omega)
    · exact below_setne (below_setne hB5 (by show w.heap.size ≤ w.heap.size + 1; omega) _) (by show w.heap.size ≤ w.heap.size + 1; omega) _
set_option maxHeartbeats 8000000 in
theorem QuotientBrace_yes (n s : Nat) (a a' : Option Addr) (c c' : Nat) (f g : List (List Int)) (w : World) (h1 : Tbl w a n f) (h2 : Tbl w a' n g) (hT : BrT n f g) (hs : s < 2 ^ n) (h0 : s.testBit 0 = true) (hcl : ∀ x y, x < n → y < n → s.testBit x = true → s.testBit y = true → s.testBit (tv f x y) = true) (hlm : ∀ x z, x < n → z < n → s.testBit x = true → s.testBit (lamN f g z x) = true) (hna : ∀ x y, x < n → y < n → s.testBit y = true → s.testBit (tv f (tv f x y) (ivN f x)) = true) (hnc : ∀ x y, x < n → y < n → s.testBit y = true → s.testBit (tv g (tv g x y) (ivN g x)) = true) (hL : Ldr n (ldC f s)) :
    Calls Tryz.prog 17 #[sAgg a n c a' n c', .int .i64 s] w fun e w' => ∃ a1 c1 vs a1' c1' vs', e = .returned (.tuple #[sAgg a1 (rkL (ldC f s) n) c1 a1' (rkL (ldC f s) n) c1', .int .i64 0]) ∧ OwnS w' w.heap.size a1 (rkL (ldC f s) n) c1 vs (quT n (ldC f s) f) a1' (rkL (ldC f s) n) c1' vs' (quT n (ldC f s) g) ∧ Below w.heap.size w w' := by
  have HSL : Sq n (tabF n fun x y => ((lamN f g x y : Nat) : Int)) := Sq.tab fun x y hx hy => hT.b.lam_lt hx hy
  have HCK := Lib.hid (fun (w : World) (h1 : Tbl w a n f) (h2 : Tbl w a' n g) => checkBraceSet_yes n s a a' c c' f g w h1 h2 hT hs)
  have HLT := Lib.hid (fun (w : World) (h1 : Tbl w a n f) (h2 : Tbl w a' n g) => lambdaTable_any n a a' c c' f g w h1 h2 hT)
  have HID := Lib.hid (fun (al : Option Addr) (cl : Nat) (w : World) (h1 : Tbl w a n f) (h2 : Tbl w a' n g) (h3 : Tbl w al n (tabF n fun x y => ((lamN f g x y : Nat) : Int))) => isIdeal_yes n s a a' al c c' cl f g _ w h1 h2 h3 hT HSL hs h0 hcl (fun x z hx hz hb => by rw [tv_tab hz hx]; exact hlm x z hx hz hb) hna hnc)
  have HQB := Lib.hid (fun (w : World) (h1 : Tbl w a n f) (h2 : Tbl w a' n g) => quotientBrace_any n s a a' c c' f g w h1 h2 hT hs hL)
  obtain ⟨M, HM⟩ : ∃ M, Hid (rkL (ldC f s) n = M) := ⟨_, Lib.hid rfl⟩
  have hqb := HQB.out
  rw [HM.out] at hqb ⊢
  clear HQB
  have HQB := Lib.hid hqb
  clear hqb hT hs h0 hcl hlm hna hnc hL HSL
  obtain ⟨w0, hw0⟩ : ∃ w0, (w.alloc (.cells #[.slice a n c, .slice a' n c'] 26)).alloc (.cells #[.slice none 0 0, .slice none 0 0] 26) = w0 := ⟨_, rfl⟩
  have hz0 : w0.heap.size = w.heap.size + 2 := by rw [← hw0]; simp
  have hB : Below w.heap.size w w0 := by rw [← hw0]; exact below_al (below_al (Below.refl _ _) _) _
  have hA : Loc w0 w.heap.size #[.slice a n c, .slice a' n c'] 26 := by rw [← hw0]; exact (Loc.new w rfl _ _).alloc _
  have hO : Loc w0 (w.heap.size + 1) #[.slice none 0 0, .slice none 0 0] 26 := by rw [← hw0]; exact Loc.new _ (by simp) _ _
  have HZ0 := Lib.hid hz0
  have lA := hA.two
  go_enter Tryz.func17, Tryz.ntmps17
  go_wp2_with fail
  try rw [hw0]
  refine (HCK.out _ (h1.below hB) (h2.below hB)).mono ?_
  rintro e w3 ⟨rfl, hb1⟩
  have hz3 := hb1.size
  have hB3 := below_th hB hb1
  have hA3 := hA.below hb1 hA.lt
  have hO3 := hO.below hb1 hO.lt
  have lA3 := hA3.two
  have t1 := (h1.below hB3).drewN 1
  have t2 := (h2.below hB3).drewN 1
  have hAlt := hA3.lt
  have hOlt := hO3.lt
  clear hz0 hw0 lA
  have HAC := Lib.hid (fun (v : World) (hb : Below w3.heap.size w3 v) => hA3.below hb hAlt)
  go_wp2
  go_region_held3 (fun w' => w'.cell? ⟨w.heap.size, 0, none⟩ = some (.slice a n c) ∧ w'.cell? ⟨w.heap.size, 1, none⟩ = some (.slice a' n c'))
    (first | exact l5 | exact l4 | exact ⟨lA3.1, lA3.2.1⟩ | go_keep)
    (first
      | (go_at_call 46; refine (HLT.out _ t1 t2).mono ?_; rintro e w4 ⟨a4, c4, vs4, rfl, ho4, hb4'⟩; have hb4 : Below w3.heap.size w3 w4 := below_th (below_drewN (Below.refl _ _) 1) hb4'; have hA4 := HAC.out w4 hb4; have l4 : w4.cell? ⟨w.heap.size, 0, none⟩ = some (.slice a n c) ∧ w4.cell? ⟨w.heap.size, 1, none⟩ = some (.slice a' n c') := ⟨hA4.two.1, hA4.two.2.1⟩)
      | (go_at_call 45; refine (HID.out a4 c4 _ (h1.below (below_th hB3 hb4)) (h2.below (below_th hB3 hb4)) ho4.tbl).mono ?_; rintro e w5 ⟨rfl, hb5'⟩; have hb5 : Below w3.heap.size w3 w5 := below_th hb4 hb5'; have hA5 := HAC.out w5 hb5; have l5 : w5.cell? ⟨w.heap.size, 0, none⟩ = some (.slice a n c) ∧ w5.cell? ⟨w.heap.size, 1, none⟩ = some (.slice a' n c') := ⟨hA5.two.1, hA5.two.2.1⟩))
  all_goals
    have hB5 := below_th hB3 hb5
    have hO5 := hO3.below hb5 hOlt
    have lA5 := hA5.two
    have hz5 := hb5.size
    go_wp2_with fail
    refine (HQB.out _ (h1.below hB5) (h2.below hB5)).mono ?_
    rintro e w6 ⟨a1, c1, vs, a1', c1', vs', rfl, ho, hb6⟩
    have hB6 := below_th hB5 hb6
    have hO6 := hO5.below hb6 hO5.lt
    have lO := hO6.two
    have hz0 := HZ0.out
    go_wp2
    refine bodyPost_ret (v := .tuple #[sAgg a1 M c1 a1' M c1', .int .i64 0]) (by simp [results, Tryz.results17, go_sem, lO]) rfl ⟨a1, c1, vs, a1', c1', vs', rfl, ⟨?_, ?_, ho.ap⟩, ?_⟩
    · exact ((ho.f.setlo (by show w.heap.size + 1 < w5.heap.size; omega) _).setlo (by show w.heap.size + 1 < w5.heap.size; omega) _).mono (by omega)
    · exact ((ho.s.setlo (by show w.heap.size + 1 < w5.heap.size; omega) _).setlo (by show w.heap.size + 1 < w5.heap.size; omega) _).mono (by omega)
    · exact below_setne (below_setne hB6 (by show w.heap.size ≤ w.heap.size + 1; omega) _) (by show w.heap.size ≤ w.heap.size + 1; omega) _
def orbN (f : Nat → Nat) : Nat → List Nat → Nat → List Nat
  | 0, c, _ => c
  | m + 1, c, y => if y ∈ c then c else orbN f m (c ++ [y]) (f y)
def orbF (f : Nat → Nat) (n x : Nat) : List Nat := orbN f n [x] (f x)
theorem nodup_le : ∀ (n : Nat) (c : List Nat), c.Nodup → (∀ x ∈ c, x < n) → c.length ≤ n := by
  intro n
  induction n with
  | zero =>
    intro c _ h
    cases c with
    | nil => exact Nat.le_refl _
    | cons x c => exact absurd (h x List.mem_cons_self) (by omega)
  | succ n ih =>
    intro c hd h
    have h1 := ih (c.erase n) (hd.erase n) (fun x hx => by
      have h2 := (List.Nodup.mem_erase_iff hd).1 hx
      have := h x h2.2
      have := h2.1
      omega)
    by_cases hm : n ∈ c
    · rw [List.length_erase_of_mem hm] at h1; omega
    · rw [List.erase_of_not_mem hm] at h1; omega
structure OrbI (f : Nat → Nat) (n x : Nat) (c : List Nat) (l rem : Nat) : Prop where
  nd : c.Nodup
  lt : ∀ u ∈ c, u < n
  xm : x ∈ c
  lm : l ∈ c
  rm : rem + c.length = n + 1
  pre : ∀ z ∈ c, z ≠ x → ∃ u ∈ c, u ≠ l ∧ f u = z
  eq : orbF f n x = orbN f rem c (f l)
theorem OrbI.start (f : Nat → Nat) {n x : Nat} (h : x < n) : OrbI f n x [x] x n :=
  ⟨by simp, by simpa using h, by simp, by simp, by simp, fun z hz hne => absurd (by simpa using hz) hne, rfl⟩
theorem OrbI.le {f : Nat → Nat} {n x : Nat} {c : List Nat} {l rem : Nat} (h : OrbI f n x c l rem) : c.length ≤ n := nodup_le n c h.nd h.lt
theorem OrbI.step {f : Nat → Nat} {n x : Nat} {c : List Nat} {l rem : Nat} (h : OrbI f n x c l rem) (hm : f l ∉ c) (hl : f l < n) : OrbI f n x (c ++ [f l]) (f l) (rem - 1) := by
  have hle := h.le
  obtain ⟨m, rfl⟩ : ∃ m, rem = m + 1 := ⟨rem - 1, by have := h.rm; omega⟩
  refine ⟨?_, ?_, by simp [h.xm], by simp, by have := h.rm; simp; omega, ?_, ?_⟩
  · rw [List.nodup_append]
    refine ⟨h.nd, by simp, fun a ha b hb => ?_⟩
    simp at hb; subst hb
    exact fun e => hm (e ▸ ha)
  · intro u hu
    rcases List.mem_append.1 hu with hu | hu
    · exact h.lt u hu
    · simp at hu; subst hu; exact hl
  · intro z hz hne
    rcases List.mem_append.1 hz with hz | hz
    · obtain ⟨u, hu, _, he⟩ := h.pre z hz hne
      exact ⟨u, by simp [hu], fun e => hm (e ▸ hu), he⟩
    · simp at hz; subst hz
      exact ⟨l, by simp [h.lm], fun e => hm (e ▸ h.lm), rfl⟩
  · rw [h.eq]
    show (if f l ∈ c then c else orbN f m (c ++ [f l]) (f (f l))) = _
    rw [if_neg hm]; rfl
theorem OrbI.closed {f : Nat → Nat} {n x : Nat} {c : List Nat} {l rem : Nat} (h : OrbI f n x c l rem) (hm : f l ∈ c) (hinj : ∀ i j, i < n → j < n → f i = f j → i = j) : ∀ i, i < n → f i ∈ c → i ∈ c := by
  have hll := h.lt l h.lm
  have hx : f l = x := by
    by_cases e : f l = x
    · exact e
    · obtain ⟨u, hu, hne, he⟩ := h.pre _ hm e
      exact absurd (hinj u l (h.lt u hu) hll he) hne
  intro i hi hic
  by_cases e : f i = x
  · rw [hinj i l hi hll (e.trans hx.symm)]; exact h.lm
  · obtain ⟨u, hu, _, he⟩ := h.pre _ hic e
    rw [← hinj u i (h.lt u hu) hi he]; exact hu
def Que (w : World) (lo g off n c : Nat) (xs : List Int) : Prop :=
  n = xs.length ∧ lo ≤ g ∧ n ≤ c ∧ c ≤ 9223372036854775807 ∧ ∃ cur, Loc w g cur 2 ∧ off + c ≤ cur.size ∧ ∀ i, i < n → cur[off + i]? = some (.int .i64 (xs.getD i 0))
theorem Que.len {w : World} {lo g off n c : Nat} {xs : List Int} (h : Que w lo g off n c xs) : n = xs.length := h.1
theorem Que.cap {w : World} {lo g off n c : Nat} {xs : List Int} (h : Que w lo g off n c xs) : n ≤ c ∧ c ≤ 9223372036854775807 := ⟨h.2.2.1, h.2.2.2.1⟩
theorem Que.lt {w : World} {lo g off n c : Nat} {xs : List Int} (h : Que w lo g off n c xs) : lo ≤ g ∧ g < w.heap.size := by
  obtain ⟨_, h1, _, _, cur, h2, _⟩ := h; exact ⟨h1, h2.lt⟩
theorem Que.cells {w : World} {lo g off n c : Nat} {xs : List Int} (h : Que w lo g off n c xs) : ∀ i, i < n → w.cell? ⟨g, off + i, none⟩ = some (.int .i64 (xs.getD i 0)) := by
  obtain ⟨_, _, _, _, cur, h2, _, h3⟩ := h
  intro i hi
  exact h2.cell _ (h3 i hi)
theorem Que.tail {w : World} {lo g off n c : Nat} {x : Int} {xs : List Int} (h : Que w lo g off n c (x :: xs)) : Que w lo g (off + 1) (n - 1) (c - 1) xs := by
  obtain ⟨h0, h1, h2, h2', cur, h3, h4, h5⟩ := h
  simp at h0
  refine ⟨by omega, h1, by omega, by omega, cur, h3, by omega, fun i hi => ?_⟩
  have := h5 (i + 1) (by omega)
  rw [show off + 1 + i = off + (i + 1) by omega, this]
  simp [List.getD_eq_getElem?_getD]
theorem Que.below {w w' : World} {lo g off n c : Nat} {xs : List Int} (h : Que w lo g off n c xs) (hb : Below w.heap.size w w') : Que w' lo g off n c xs := by
  obtain ⟨h0, h1, h2, h2', cur, h3, h4⟩ := h
  exact ⟨h0, h1, h2, h2', cur, h3.below hb h3.lt, h4⟩
theorem Que.setne {w : World} {lo g off n c : Nat} {xs : List Int} (h : Que w lo g off n c xs) {a : Addr} (hne : g ≠ a.block) (u : Value) : Que (w.setCell a u) lo g off n c xs := by
  obtain ⟨h0, h1, h2, h2', cur, h3, h4⟩ := h
  exact ⟨h0, h1, h2, h2', cur, h3.setne hne u, h4⟩
theorem Que.one {w : World} {lo b : Nat} {x : Int} (hb : b = w.heap.size) (hlo : lo ≤ b) : Que (w.alloc (.cells #[.int .i64 x] 2)) lo b 0 1 1 [x] :=
  ⟨rfl, hlo, Nat.le_refl _, by decide, _, Loc.new w hb _ _, by simp, fun i (hi : i < 1) => by
    have e : i = 0 := by omega
    subst e
    rfl⟩
theorem least_ex (P : Nat → Prop) (h : ∃ m, P m) : ∃ m, P m ∧ ∀ k, P k → m ≤ k := by
  obtain ⟨m, hm⟩ := h
  induction m using Nat.strongRecOn with
  | ind m ih =>
    by_cases hk : ∃ k, k < m ∧ P k
    · obtain ⟨k, hlt, hp⟩ := hk
      exact ih k hlt hp
    · exact ⟨m, hm, fun k hp => by
        by_cases h : m ≤ k
        · exact h
        · exact absurd ⟨k, by omega, hp⟩ hk⟩
noncomputable def least (P : Nat → Prop) : Nat := open Classical in if h : ∃ m, P m then Classical.choose (least_ex P h) else 0
def natL (c : List Nat) : List Int := c.map fun x : Nat => (x : Int)
theorem IsP.own {n : Nat} {p : List Int} (h : IsP n p) : ∃ g, IsPf n p (fun i => (p.getD i 0).toNat) g := by
  obtain ⟨f, g, hl, h1, h2⟩ := h
  have e : ∀ i, i < n → (p.getD i 0).toNat = f i := fun i hi => by rw [h2 i hi]; simp
  refine ⟨g, hl, fun i hi => ?_, fun i hi => ?_⟩
  · have hh := h1 i hi
    refine ⟨by show (p.getD i 0).toNat < n; rw [e i hi]; exact hh.1, hh.2.1, ?_, ?_⟩
    · show (p.getD (g i) 0).toNat = i
      rw [e _ hh.2.1]; exact hh.2.2.1
    · show g ((p.getD i 0).toNat) = i
      rw [e i hi]; exact hh.2.2.2
  · show _ = (((p.getD i 0).toNat : Nat) : Int)
    rw [e i hi]; exact h2 i hi
theorem Tbl.single {w : World} {a : Option Addr} {n c b : Nat} {xs : List Int} {t : TypeId} (h : Row w a n xs) (hn : n ≤ 9223372036854775807) (hb : b = w.heap.size) : Tbl (w.alloc (.cells #[.slice a n c] t)) (some ⟨b, 0, none⟩) 1 [xs] :=
by
  refine ⟨rfl, fun i hi => ?_⟩
  have e : i = 0 := by omega
  subst e
  have hL := Loc.new w hb #[.slice a n c] t
  exact ⟨b, 0, a, n, c, rfl, hL.lt, hL.one.1, h.alloc _, hn⟩
end Go.Proofs.YtiliimkfobfbnaaGreat
namespace Go.Proofs.YtiliimkfobfbnaaGreat
set_option linter.unusedVariables false
set_option linter.unusedSimpArgs false
/-! ### tables by a function, one value of which turns -/
/-! ### labels are numbers of at least 0, and the greatest of them -/
/-! ### the numbers -/
end Go.Proofs.YtiliimkfobfbnaaGreat
namespace Go.Proofs.YtiliimkfobfbnaaGreat
set_option maxRecDepth 100000
set_option linter.unusedVariables false
set_option linter.unusedSimpArgs false
open Go.RowKit
set_option maxHeartbeats 400000 in
theorem likeInts_any (a1 a2 : Option Addr) (n1 n2 c1 c2 : Nat) (xs ys : List Int) (w : World) (h1 : Row w a1 n1 xs) (h2 : Row w a2 n2 ys) (hm : n1 ≤ 9223372036854775807) :
    Calls Tryz.prog 50 #[.slice a1 n1 c1, .slice a2 n2 c2] w fun e w' => e = .returned (.bool (decide (xs = ys))) ∧ ∃ n, w' = w.drewN n := by
  have hl1 := h1.len
  have hl2 := h2.len
  by_cases hl : n1 = n2
  · subst hl
    have HL := Lib.hid hl1; have HL2 := Lib.hid hl2; clear hl1 hl2
    have hb : ((n1 : Int) != (n1 : Int)) = false := by simp
    go_enter Tryz.func50, Tryz.ntmps50
    go_wp2
    clear hb
    go_loopw [5] (fun i wr => ∃ k : Nat, k ≤ n1 ∧ i = .int .i64 k ∧ xs.take k = ys.take k ∧ ∃ n, wr = w.drewN n) (fun i _ => n1 - (intOf i).toNat)
    case atStart => exact ⟨0, Nat.zero_le _, rfl, by simp, 0, rfl⟩
    case round =>
      obtain ⟨k, hk, rfl, ht, n, rfl⟩ := hrel
      have HT := Lib.hid ht; clear ht
      by_cases hlt : k < n1
      · obtain ⟨b1, o1, rfl, g1⟩ := h1.at k hlt
        obtain ⟨b2, o2, rfl, g2⟩ := h2.at k hlt
        have hx : k < xs.length := by have := HL.out; omega
        have hy : k < ys.length := by have := HL2.out; omega
        clear h1 h2
        go_wp2
        go_quiet (fail)
        go_wp2
        · go_ret
          refine ⟨ret_bool ?_, n + nq, by rw [World.drewN_drewN]⟩
          rename_i hne
          simp only [Bool.false_eq, decide_eq_false_iff_not]
          rintro rfl
          simp at hne
        · go_roundw
          case rel =>
            rename_i hne
            refine ⟨k + 1, by omega, by go_num, take_eq_succ hx hy HT.out (by simpa using hne), n + nq, rfl⟩
          case measure => simp [intOf]; omega
      · obtain rfl : k = n1 := by omega
        go_wp2
        go_ret
        refine ⟨ret_bool ?_, _, rfl⟩
        have := HT.out
        rw [List.take_of_length_le (by have := HL.out; omega), List.take_of_length_le (by have := HL2.out; omega)] at this
        simp [this]
  · have hb : ((n1 : Int) != (n2 : Int)) = true := by simp; omega
    have hne : ¬ xs = ys := by rintro rfl; omega
    clear hl1 hl2
    go_enter Tryz.func50, Tryz.ntmps50
    go_wp2
    go_ret
    exact ⟨ret_bool (by simp [hne]), 0, rfl⟩
set_option maxHeartbeats 1000000 in
theorem same9_any (a1 a2 : Option Addr) (n1 n2 c1 c2 : Nat) (xs ys : List (List Int)) (w : World) (h1 : Tbl w a1 n1 xs) (h2 : Tbl w a2 n2 ys) (hm : n1 ≤ 9223372036854775807) :
    Calls Tryz.prog 19 #[.slice a1 n1 c1, .slice a2 n2 c2] w fun e w' => e = .returned (.bool (decide (xs = ys))) ∧ ∃ n, w' = w.drewN n := by
  have hl1 := h1.len
  have hl2 := h2.len
  by_cases hl : n1 = n2
  · subst hl
    have HL := Lib.hid hl1; have HL2 := Lib.hid hl2; clear hl1 hl2
    have hb : ((n1 : Int) != (n1 : Int)) = false := by simp
    go_enter Tryz.func19, Tryz.ntmps19
    go_wp2
    clear hb
    go_loopw [5] (fun i wr => ∃ k : Nat, k ≤ n1 ∧ i = .int .i64 k ∧ Hid (xs.take k = ys.take k) ∧ Hid (∃ n, wr = w.drewN n)) (fun i _ => n1 - (intOf i).toNat)
    case atStart => exact ⟨0, Nat.zero_le _, rfl, by simp [Hid], ⟨0, rfl⟩⟩
    case round =>
      obtain ⟨k, hk, rfl, HT, HW⟩ := hrel
      obtain ⟨m, hm'⟩ := HW.out
      have h1' : Tbl wr a1 n1 xs := by rw [hm']; exact h1.drewN m
      have h2' : Tbl wr a2 n1 ys := by rw [hm']; exact h2.drewN m
      clear hm'
      by_cases hlt : k < n1
      · obtain ⟨b1, o1, a1', m1, c1', rfl, g1, r1, lm1⟩ := h1'.at k hlt
        obtain ⟨b2, o2, a2', m2, c2', rfl, g2, r2, lm2⟩ := h2'.at k hlt
        have hx : k < xs.length := by have := HL.out; omega
        have hy : k < ys.length := by have := HL2.out; omega
        rw [Tbl.getD hx] at r1
        rw [Tbl.getD hy] at r2
        clear h1' h2' h1 h2
        by_cases he : xs[k] = ys[k]
        · have hq : ∀ q, Calls Tryz.prog 50 #[.slice a1' m1 c1', .slice a2' m2 c2'] (wr.drewN q) fun e w' => e = .returned (.bool true) ∧ ∃ m, w' = (wr.drewN q).drewN m := fun q =>
            (likeInts_any _ _ _ _ _ _ _ _ _ (r1.drewN q) (r2.drewN q) lm1).mono fun e w' ⟨h, h'⟩ => ⟨h.trans (ret_bool (by simpa using he)), h'⟩
          have HQ := Lib.hid hq; have HE := Lib.hid he; clear hq he
          go_wp2
          go_quiet ((go_at_call 50; exact Calls.quiet_of (HQ.out _)))
          go_wp2
          go_roundw
          case rel =>
            refine ⟨k + 1, by omega, by go_num, ?_, ?_⟩
            · show xs.take (k + 1) = ys.take (k + 1)
              rw [List.take_succ_eq_append_getElem hx, List.take_succ_eq_append_getElem hy, HT.out, HE.out]
            · obtain ⟨m, hm⟩ := HW.out
              exact ⟨m + nq, by rw [hm, World.drewN_drewN]⟩
          case measure => simp [intOf]; omega
        · have hq : ∀ q, Calls Tryz.prog 50 #[.slice a1' m1 c1', .slice a2' m2 c2'] (wr.drewN q) fun e w' => e = .returned (.bool false) ∧ ∃ m, w' = (wr.drewN q).drewN m := fun q =>
            (likeInts_any _ _ _ _ _ _ _ _ _ (r1.drewN q) (r2.drewN q) lm1).mono fun e w' ⟨h, h'⟩ => ⟨h.trans (ret_bool (by simpa using he)), h'⟩
          have hne : ¬ xs = ys := by rintro rfl; exact he rfl
          have HQ := Lib.hid hq; have HE := Lib.hid hne; clear hq he hne
          go_wp2
          go_quiet ((go_at_call 50; exact Calls.quiet_of (HQ.out _)))
          go_wp2
          go_ret
          obtain ⟨m, hm⟩ := HW.out
          exact ⟨ret_bool (by simp [HE.out]), m + nq, by rw [hm, World.drewN_drewN]⟩
      · obtain rfl : k = n1 := by omega
        clear h1' h2' h1 h2
        go_wp2
        go_ret
        refine ⟨ret_bool ?_, HW.out⟩
        have := HT.out
        rw [List.take_of_length_le (by have := HL.out; omega), List.take_of_length_le (by have := HL2.out; omega)] at this
        simp [this]
  · have hb : ((n1 : Int) != (n2 : Int)) = true := by simp; omega
    have hne : ¬ xs = ys := by rintro rfl; omega
    clear hl1 hl2
    go_enter Tryz.func19, Tryz.ntmps19
    go_wp2
    go_ret
    exact ⟨ret_bool (by simp [hne]), 0, rfl⟩
theorem same9_same (a1 a2 : Option Addr) (n1 n2 c1 c2 : Nat) (xs : List (List Int)) (w : World) (h1 : Tbl w a1 n1 xs) (h2 : Tbl w a2 n2 xs) (hm : n1 ≤ 9223372036854775807) :
    Calls Tryz.prog 19 #[.slice a1 n1 c1, .slice a2 n2 c2] w fun e w' => e = .returned (.bool true) ∧ Below w.heap.size w w' :=
  (same9_any a1 a2 n1 n2 c1 c2 xs xs w h1 h2 hm).mono fun e w' ⟨he, m, hw⟩ => ⟨he.trans (ret_bool (by simp)), by rw [hw]; exact below_drewN (Below.refl _ _) m⟩
theorem big_any (a : Option Addr) (n c : Nat) (w : World) (hm : n ≤ 9223372036854775807) :
    Calls Tryz.prog 4 #[.slice a n c] w fun e w' => e = .returned (.bool (decide (4096 < n))) ∧ w = w' := by
  go_enter Tryz.func4, Tryz.ntmps4
  go_wp2
  go_ret
  refine ⟨ret_bool (by rw [Bool.eq_iff_iff]; simp; try omega), rfl⟩
set_option maxHeartbeats 2000000 in
theorem IsNondegenerate_ok (n : Nat) (a a' : Option Addr) (c c' : Nat) (f g : List (List Int)) (w : World) (h1 : Tbl w a n f) (h2 : Tbl w a' n g) (hpm : isPm f g = true) :
    Calls Tryz.prog 9 #[sAgg a n c a' n c'] w fun e w' => e = .returned (.tuple #[.bool (ndF f g), .int .i64 0]) ∧ Below w.heap.size w w' := by
  obtain ⟨hn1, hn, hf, hg⟩ := isPm_sqN hpm h1.len
  have HF := Lib.hid hf; have HG := Lib.hid hg; have HP := Lib.hid hpm
  clear hf hg hpm
  have hA := Loc.new w rfl #[.slice a n c, .slice a' n c'] 29
  have hB := below_al (Below.refl w.heap.size w) (.cells #[.slice a n c, .slice a' n c'] 29)
  have lA := hA.two
  go_enter Tryz.func9, Tryz.ntmps9
  generalize hw0 : w.alloc (.cells #[.slice a n c, .slice a' n c'] 29) = w0 at *
  go_wp2_with fail
  refine (isPairMap_any a n c a' n c' f g _ (h1.below hB) (h2.below hB) (by omega) (by omega)).mono ?_
  rintro e w1 ⟨rfl, hb1⟩
  rw [HP.out]
  have lA1 := (hA.below hb1 hA.lt).two
  have hB1 := below_th hB hb1
  go_wp2_with fail
  refine (isNondegenerate_any n a a' c c' f g _ (h1.below hB1) (h2.below hB1) HF.out HG.out hn).mono ?_
  rintro e w2 ⟨rfl, hb2⟩
  go_wp2
  go_ret2
  exact ⟨rfl, below_th hB1 hb2⟩
set_option maxHeartbeats 4000000 in
theorem solution9_same (n : Nat) (a a' b b' : Option Addr) (c c' d d' : Nat) (f g : List (List Int)) (w : World) (h1 : Tbl w a n f) (h2 : Tbl w a' n g) (k1 : Tbl w b n f) (k2 : Tbl w b' n g) (hn : n ≤ 9223372036854775807) :
    Calls Tryz.prog 8 #[sAgg a n c a' n c', sAgg b n d b' n d'] w fun e w' => e = .returned (.bool true) ∧ Below w.heap.size w w' := by
  have hA := (Loc.new w rfl #[.slice a n c, .slice a' n c'] 29).alloc (.cells #[.slice b n d, .slice b' n d'] 29)
  have hC := Loc.new (b := w.heap.size + 1) (w.alloc (.cells #[.slice a n c, .slice a' n c'] 29)) (by simp) #[.slice b n d, .slice b' n d'] 29
  have hB := below_al (below_al (Below.refl w.heap.size w) (.cells #[.slice a n c, .slice a' n c'] 29)) (.cells #[.slice b n d, .slice b' n d'] 29)
  have lA := hA.two
  have lC := hC.two
  go_enter Tryz.func8, Tryz.ntmps8
  generalize hw0 : (w.alloc (.cells #[.slice a n c, .slice a' n c'] 29)).alloc (.cells #[.slice b n d, .slice b' n d'] 29) = w0 at *
  go_wp2_with fail
  refine (same9_same a b n n c d f _ (h1.below hB) (k1.below hB) hn).mono ?_
  rintro e w1 ⟨rfl, hb1⟩
  have lA1 := (hA.below hb1 hA.lt).two
  have lC1 := (hC.below hb1 hC.lt).two
  have hB1 := below_th hB hb1
  go_wp2_with fail
  refine (same9_same a' b' n n c' d' g _ (h2.below hB1) (k2.below hB1) hn).mono ?_
  rintro e w2 ⟨rfl, hb2⟩
  go_wp2
  go_ret
  exact ⟨rfl, below_th hB1 hb2⟩
theorem Ybe.idx {n : Nat} {f g : List (List Int)} (h : Ybe n f g) {x y : Nat} (hx : x < n) (hy : y < n) : bkN f y x < n ∧ (f.getD y []).getD (bkN f y x) 0 = (x : Int) ∧ ∀ i, i < bkN f y x → (f.getD y []).getD i 0 ≠ (x : Int) := by
  obtain ⟨h1, h2⟩ := h.bk hy hx
  refine ⟨h1, by rw [h.sf.val hy h1, h2], fun i hi e => ?_⟩
  have hin : i < n := by omega
  rw [h.sf.val hy hin] at e
  have e2 : tv f y i = x := by omega
  have := h.inj hy hin h1 (e2.trans h2.symm)
  omega
set_option maxHeartbeats 4000000 in
theorem derivedRack1_any (n b : Nat) (t : TypeId) (a a' : Option Addr) (c c' : Nat) (f g : List (List Int)) (w : World) (hL : Loc w b #[.slice a n c, .slice a' n c'] t) (h1 : Tbl w a n f) (h2 : Tbl w a' n g) (h : Ybe n f g) (hn : n ≤ 12) (x y : Nat) (hx : x < n) (hy : y < n) :
    Calls Tryz.prog 71 #[.int .i64 x, .int .i64 y, .pointer (some ⟨b, 0, none⟩)] w fun e w' => e = .returned (.int .i64 ((drN f g x y : Nat) : Int)) ∧ ∃ m, w' = w.drewN m := by
  obtain ⟨bf, of, A, O, C, rfl, gf⟩ := h1.grid h.sf h.pos
  obtain ⟨bg, og, A', O', C', rfl, gg⟩ := h2.grid h.sg h.pos
  obtain ⟨b1, o1, ai, ni, ci, e1, ck, rk, lk⟩ := h1.at y hy
  cases e1
  obtain ⟨q1, q2, q3⟩ := h.idx hx hy
  have hni : n = ni := by have := rk.len; rw [h.sf.row hy] at this; exact this.symm
  subst hni
  have hv := h.sg.lt hy q1
  have hd : drN f g x y = tv f x (tv g y (bkN f y x)) := rfl
  rw [hd]
  obtain ⟨p, HP⟩ : ∃ p, Hid (f.getD y [] = p) := ⟨_, rfl⟩
  rw [HP.out] at rk q2 q3
  generalize bkN f y x = q at *
  have k2 := gg.look hy q1
  generalize tv g y q = v at *
  have k3 := gf.look hx hv
  generalize tv f x v = u at *
  have lA := hL.two
  have Q2 := Lib.hid q2; have Q3 := Lib.hid q3
  clear h q2 q3 hd
  have i1 : (0 : Int) ≤ (x : Int) := by omega
  have i2 : (x : Int) < (n : Int) := by omega
  have i3 : (0 : Int) ≤ (y : Int) := by omega
  have i4 : (y : Int) < (n : Int) := by omega
  have i5 : (0 : Int) ≤ (q : Int) := by omega
  have i6 : (q : Int) < (n : Int) := by omega
  have i7 : (0 : Int) ≤ (v : Int) := by omega
  have i8 : (v : Int) < (n : Int) := by omega
  go_enter Tryz.func71, Tryz.ntmps71
  go_wp2_with fail
  refine (indexIn_any _ n _ q p (x : Int) _ rk (by omega) q1 Q2.out Q3.out).mono ?_
  rintro e w1 ⟨rfl, rfl⟩
  go_wp2
  go_quiet (fail)
  go_wp2
  go_ret
  exact ⟨rfl, _, rfl⟩
theorem ent_der1 : Ent 71 := fun _ _ => rfl
set_option maxHeartbeats 4000000 in
theorem derivedRack_any (n : Nat) (a a' : Option Addr) (c c' : Nat) (f g : List (List Int)) (w : World) (h1 : Tbl w a n f) (h2 : Tbl w a' n g) (h : Ybe n f g) (hn : n ≤ 12) :
    Calls Tryz.prog 34 #[sAgg a n c a' n c'] w fun e w' => ∃ a1 c1 vs, e = .returned (rAgg a1 n c1) ∧ OwnT w' w.heap.size a1 n c1 vs (drL n f g) ∧ Below w.heap.size w w' := by
  have HY := Lib.hid h; clear h
  have hA := (Loc.new w rfl #[.slice a n c, .slice a' n c'] 29).alloc (.cells #[.slice none 0 0] 37)
  have hR := Loc.new (w.alloc (.cells #[.slice a n c, .slice a' n c'] 29)) rfl #[.slice none 0 0] 37
  rw [size_alloc] at hR
  have hB := below_al (below_al (Below.refl w.heap.size w) (.cells #[.slice a n c, .slice a' n c'] 29)) (.cells #[.slice none 0 0] 37)
  go_enter Tryz.func34, Tryz.ntmps34
  have lA := hA.two
  go_wp2_with fail
  generalize (w.alloc (.cells #[.slice a n c, .slice a' n c'] 29)).alloc (.cells #[.slice none 0 0] 37) = w0 at *
  have hc1 : Hid (∀ x y, x < n → y < n → ∀ w1, Below w0.heap.size w0 w1 → Calls Tryz.prog 71 (#[.int .i64 x, .int .i64 y] ++ #[.pointer (some ⟨w.heap.size, 0, none⟩)]) w1 fun e w' => e = .returned (.int .i64 ((drN f g x y : Nat) : Int)) ∧ Below w1.heap.size w1 w') := Lib.hid fun x y hx hy w1 hb1 =>
    (derivedRack1_any n _ _ a a' c c' f g w1 (hA.below hb1 hA.lt) (h1.below (below_th hB hb1)) (h2.below (below_th hB hb1)) HY.out hn x y hx hy).mono fun e w' ⟨he, k, hk⟩ => ⟨he, by rw [hk]; exact below_drewN (Below.refl _ _) k⟩
  refine (tableBy_any _ _ (fun x y => ((drN f g x y : Nat) : Int)) n _ (by omega) ent_der1 hc1.out).mono ?_
  rintro e w1 ⟨a1, c1, vs, rfl, ho1, hb1⟩
  have hB1 := below_th hB hb1
  have hR1 := hR.below hb1 hR.lt
  have lR := hR1.one
  have hz : w.heap.size + 1 < w0.heap.size := hR.lt
  go_wp2
  refine bodyPost_ret (v := rAgg a1 n c1) (by simp [results, Tryz.results34, go_sem, lR]) rfl ⟨a1, c1, vs, rfl, ?_, ?_⟩
  · exact (ho1.setlo (by show w.heap.size + 1 < w0.heap.size; omega) _).mono (by have := hB.size; omega)
  · exact below_setne hB1 (by show w.heap.size ≤ w.heap.size + 1; omega) _
def DerR (n : Nat) (f g : List (List Int)) (w : World) (e : Ending) (w' : World) : Prop :=
  (ndF f g = false ∧ e = .returned (.tuple #[rAgg none 0 0, .int .i64 5]) ∧ Below w.heap.size w w') ∨
  (ndF f g = true ∧ ∃ a1 c1 vs, e = .returned (.tuple #[rAgg a1 n c1, .int .i64 0]) ∧ OwnT w' w.heap.size a1 n c1 vs (drL n f g) ∧ Below w.heap.size w w')
set_option maxHeartbeats 4000000 in
theorem DerivedRack_any (n : Nat) (a a' : Option Addr) (c c' : Nat) (f g : List (List Int)) (w : World) (h1 : Tbl w a n f) (h2 : Tbl w a' n g) (h : isSol f g = true) (hn : n ≤ 12) :
    Calls Tryz.prog 12 #[sAgg a n c a' n c'] w (DerR n f g w) := by
  have hS := isSol_sq h
  have hY : ndF f g = true → Ybe n f g := fun hd => by
    have hr : f.all permOk = true := by unfold ndF at hd; rw [Bool.and_eq_true] at hd; exact hd.1
    have := ybe_of h hr
    rw [← h1.len] at this
    exact this
  have HS := Lib.hid h; have HY := Lib.hid hY
  have HF : Hid (Sq n f) := Lib.hid (by have := hS.2.2.1; rw [← h1.len] at this; exact this)
  have HG : Hid (Sq n g) := Lib.hid (by have := hS.2.2.2; rw [← h1.len] at this; exact this)
  clear h hS hY
  unfold DerR
  have hA := (Loc.new w rfl #[.slice a n c, .slice a' n c'] 29).alloc (.cells #[.slice none 0 0] 37)
  have hR := Loc.new (w.alloc (.cells #[.slice a n c, .slice a' n c'] 29)) rfl #[.slice none 0 0] 37
  rw [size_alloc] at hR
  have hB := below_al (below_al (Below.refl w.heap.size w) (.cells #[.slice a n c, .slice a' n c'] 29)) (.cells #[.slice none 0 0] 37)
  have lA := hA.two
  have hz0 : w.heap.size + 1 < ((w.alloc (.cells #[.slice a n c, .slice a' n c'] 29)).alloc (.cells #[.slice none 0 0] 37)).heap.size := hR.lt
  generalize hw0 : (w.alloc (.cells #[.slice a n c, .slice a' n c'] 29)).alloc (.cells #[.slice none 0 0] 37) = w0 at *
  cases hd : ndF f g with
  | false =>
    have HD := Lib.hid hd; clear hd
    go_enter Tryz.func12, Tryz.ntmps12
    go_wp2_with fail
    try rw [hw0]
    refine (isSolution_any _ _ _ _ _ _ f g _ (h1.below hB) (h2.below hB) (by omega) (by omega)).mono ?_
    rintro e w1 ⟨rfl, hb1⟩
    rw [HS.out]
    have lA1 := (hA.below hb1 hA.lt).two
    have hB1 := below_th hB hb1
    go_wp2_with fail
    refine (isNondegenerate_any n _ _ _ _ f g _ (h1.below hB1) (h2.below hB1) HF.out HG.out hn).mono ?_
    rintro e w2 ⟨rfl, hb2⟩
    rw [HD.out]
    have hR2 := (hR.below hb1 hR.lt).below hb2 (by have := hb1.size; omega)
    have lR := hR2.one
    have hB2 := below_th hB1 hb2
    go_wp2
    refine bodyPost_ret (v := .tuple #[rAgg none 0 0, .int .i64 5]) (by simp [results, Tryz.results12, go_sem, lR]) rfl (Or.inl ⟨trivial, rfl, ?_⟩)
    exact below_setne hB2 (by show w.heap.size ≤ w.heap.size + 1; omega) _
  | true =>
    have HD := Lib.hid hd; clear hd
    go_enter Tryz.func12, Tryz.ntmps12
    go_wp2_with fail
    try rw [hw0]
    refine (isSolution_any _ _ _ _ _ _ f g _ (h1.below hB) (h2.below hB) (by omega) (by omega)).mono ?_
    rintro e w1 ⟨rfl, hb1⟩
    rw [HS.out]
    have lA1 := (hA.below hb1 hA.lt).two
    have hB1 := below_th hB hb1
    go_wp2_with fail
    refine (isNondegenerate_any n _ _ _ _ f g _ (h1.below hB1) (h2.below hB1) HF.out HG.out hn).mono ?_
    rintro e w2 ⟨rfl, hb2⟩
    rw [HD.out]
    have hB2 := below_th hB1 hb2
    have hz1 := hb1.size
    have lA2 := ((hA.below hb1 hA.lt).below hb2 (by omega)).two
    go_wp2_with fail
    refine (derivedRack_any n _ _ _ _ f g _ (h1.below hB2) (h2.below hB2) (HY.out HD.out) hn).mono ?_
    rintro e w3 ⟨a1, c1, vs, rfl, ho, hb3⟩
    have hz2 := hb2.size
    have hR3 := ((hR.below hb1 hR.lt).below hb2 (by omega)).below hb3 (by omega)
    have lR := hR3.one
    have hB3 := below_th hB2 hb3
    go_wp2
    refine bodyPost_ret (v := .tuple #[rAgg a1 n c1, .int .i64 0]) (by simp [results, Tryz.results12, go_sem, lR]) rfl (Or.inr ⟨trivial, a1, c1, vs, rfl, ?_, ?_⟩)
    · exact (ho.setlo (by show w.heap.size + 1 < w2.heap.size; omega) _).mono (by have := hB.size; omega)
    · exact below_setne hB3 (by show w.heap.size ≤ w.heap.size + 1; omega) _
end Go.Proofs.YtiliimkfobfbnaaGreat
