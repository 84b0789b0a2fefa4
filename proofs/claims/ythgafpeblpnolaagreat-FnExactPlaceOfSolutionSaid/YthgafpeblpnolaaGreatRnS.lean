/-
  Renaming pair maps, in plain lists: all nondegenerate solutions of few elements are led to such ones.
  No condition.
-/
import Derived.Test.YthgafpeblpnolaaGreatRnA
import Derived.Test.YthgafpeblpnolaaGreatSlrL
namespace Go.Proofs.YthgafpeblpnolaaGreat
set_option maxRecDepth 100000
set_option linter.unusedVariables false
set_option linter.unusedSimpArgs false

/-- two squares -/
def Sq2 (n : Nat) (s : T2) : Prop := Sq n s.1 ∧ Sq n s.2
theorem rnS_wrk {n : Nat} (h1 : 1 ≤ n) (h4 : n ≤ 4) : Wrk (prmL n) (fun p s => rnS n s p) thL (Sq2 n) where
  nd := prm_nd ⟨n, by omega⟩
  st := fun t ht p hp => ⟨rnL_sq (prm_get h1 h4 hp) ht.1, rnL_sq (prm_get h1 h4 hp) ht.2⟩
  cm := fun p q hp hq => prm_put h4 (thL_isP (prm_get h1 h4 hp) (prm_get h1 h4 hq))
  ac := fun p q hp hq t ht => Prod.ext (rnL_th (prm_get h1 h4 hp) (prm_get h1 h4 hq) ht.1) (rnL_th (prm_get h1 h4 hp) (prm_get h1 h4 hq) ht.2)
  un := ⟨unitL n, prm_put h4 (unit_isP n), fun t ht => Prod.ext (rnL_unit ht.1) (rnL_unit ht.2)⟩
  bk := fun p hp => ⟨backF p, prm_put h4 (back_isP (prm_get h1 h4 hp)), fun t ht => Prod.ext (rnL_back (prm_get h1 h4 hp) ht.1) (rnL_back (prm_get h1 h4 hp) ht.2)⟩
  ij := fun p p' q hp hp' hq e => thL_inj (prm_get h1 h4 hp) (prm_get h1 h4 hp') (prm_get h1 h4 hq) e
theorem les_lfm (n : Nat) (s : T2) : lesL n s = lfm cmpS (fun p s => rnS n s p) (prmL n) s := by
  unfold lesL lfm minL
  rw [List.foldl_map]
  have : lesF n s = fun b p => if cmpS (rnS n s p) b < 0 then rnS n s p else b := by
    funext b p; exact lesF_cmp n s b p
  rw [this]

theorem trn_trn {n : Nat} {t : List (List Int)} (h : Sq n t) : trnL n (trnL n t) = t :=
  sq_ext (trnL_sq (trnL_sq h)) h fun x y hx hy => by rw [trnL_tv hx hy, trnL_tv hy hx]
theorem trn_rn {n : Nat} {t : List (List Int)} {p : List Int} (hp : IsP n p) (h : Sq n t) : trnL n (rnL n t p) = rnL n (trnL n t) p := by
  have s1 := trnL_sq (rnL_sq hp h)
  have s2 := rnL_sq hp (trnL_sq h)
  obtain ⟨f, g, hp⟩ := isP_of hp
  refine sq_ext s1 s2 fun x y hx hy => ?_
  rw [trnL_tv hx hy, rnL_tv hp h hy hx, rnL_tv hp (trnL_sq h) hx hy, trnL_tv (hp.2.1 x hx).2.1 (hp.2.1 y hy).2.1]
theorem allT_iff {n : Nat} (h1 : 1 ≤ n) (h4 : n ≤ 4) {t : List (List Int)} : t ∈ allT (prmL n) n [] ↔ t.length = n ∧ ∀ x, x < n → IsP n (t.getD x []) := by
  constructor
  · intro h
    obtain ⟨r, e, hl, hm⟩ := allT_mem _ _ _ h
    rw [List.nil_append] at e
    subst e
    refine ⟨hl, fun x hx => ?_⟩
    rw [List.getD_eq_getElem?_getD, List.getElem?_eq_getElem (by omega), Option.getD_some]
    exact prm_get h1 h4 (hm _ (List.getElem_mem _))
  · rintro ⟨hl, h⟩
    have := allT_of (ps := prmL n) n [] t hl (fun p hp => by
      obtain ⟨i, hi, rfl⟩ := List.getElem_of_mem hp
      have := h i (by omega)
      rw [List.getD_eq_getElem?_getD, List.getElem?_eq_getElem hi, Option.getD_some] at this
      exact prm_put h4 this)
    simpa using this
theorem rn_allT {n : Nat} (h1 : 1 ≤ n) (h4 : n ≤ 4) {t : List (List Int)} {p : List Int} (hs : Sq n t) (hp : IsP n p) (h : t ∈ allT (prmL n) n []) : rnL n t p ∈ allT (prmL n) n [] := by
  rw [allT_iff h1 h4] at h ⊢
  have hs2 := rnL_sq hp hs
  refine ⟨hs2.len, fun x hx => ?_⟩
  obtain ⟨f, g, hp⟩ := isP_of hp
  obtain ⟨F, G, hF⟩ := isP_of (h.2 (g x) (hp.2.1 x hx).2.1)
  refine ⟨fun y => f (F (g y)), fun y => f (G (g y)), hs2.row hx, fun y hy => ?_, fun y hy => ?_⟩
  · have a1 := hp.2.1 y hy
    have a2 := hF.2.1 (g y) a1.2.1
    have a3 := hp.2.1 (F (g y)) a2.1
    have a4 := hp.2.1 (G (g y)) a2.2.1
    refine ⟨a3.1, a4.1, ?_, ?_⟩
    · show f (F (g (f (G (g y))))) = y
      rw [a4.2.2.2, a2.2.2.1, a1.2.2.1]
    · show f (G (g (f (F (g y))))) = y
      rw [a3.2.2.2, a2.2.2.2, a1.2.2.1]
  · rw [hs2.val hx hy, rnL_tv hp hs hx hy]
    have a1 := (hp.2.1 y hy).2.1
    have := hF.2.2 (g y) a1
    rw [hs.val (hp.2.1 x hx).2.1 a1] at this
    have : tv t (g x) (g y) = F (g y) := Int.ofNat.inj this
    rw [this]
theorem eqOk_get {n : Nat} {f g : List (List Int)} (h : eqOk n f g = true) {x y z : Nat} (hx : x < n) (hy : y < n) (hz : z < n) : eqAt f g x y z = true := allN_get (allN_get (allN_get h hx) hy) hz
theorem allN_of {n : Nat} {P : Nat → Bool} (h : ∀ k, k < n → P k = true) : allN n P = true := List.all_eq_true.2 fun k hk => h k (List.mem_range.1 hk)
theorem eqOk_rn {n : Nat} {f g : List (List Int)} {p : List Int} (hf : Sq n f) (hg : Sq n g) (hp : IsP n p) (h : eqOk n f g = true) : eqOk n (rnL n f p) (rnL n g p) = true := by
  obtain ⟨φ, ψ, hp⟩ := isP_of hp
  have A := fun a b (ha : a < n) (hb : b < n) => rnL_tv hp hf (x := a) (y := b) ha hb
  have B := fun a b (ha : a < n) (hb : b < n) => rnL_tv hp hg (x := a) (y := b) ha hb
  have k1 := fun i (hi : i < n) => (hp.2.1 i hi).1
  have k2 := fun i (hi : i < n) => (hp.2.1 i hi).2.1
  have k3 := fun i (hi : i < n) => (hp.2.1 i hi).2.2.2
  have k4 := fun a b (ha : a < n) (hb : b < n) => hf.lt (x := a) (y := b) ha hb
  have k5 := fun a b (ha : a < n) (hb : b < n) => hg.lt (x := a) (y := b) ha hb
  refine allN_of fun x hx => allN_of fun y hy => allN_of fun z hz => ?_
  have e := eqOk_get h (k2 x hx) (k2 y hy) (k2 z hz)
  simp only [eqAt, Bool.and_eq_true, decide_eq_true_eq] at e ⊢
  have x' := k2 x hx
  have y' := k2 y hy
  have z' := k2 z hz
  generalize hX : ψ x = X at *
  generalize hY : ψ y = Y at *
  generalize hZ : ψ z = Z at *
  have a1 : tv (rnL n f p) x y = φ (tv f X Y) := by rw [A x y hx hy, hX, hY]
  have b1 : tv (rnL n g p) x y = φ (tv g X Y) := by rw [B x y hx hy, hX, hY]
  have ca1 := k4 X Y x' y'
  have cb1 := k5 X Y x' y'
  have b2 : tv (rnL n f p) (φ (tv g X Y)) z = φ (tv f (tv g X Y) Z) := by rw [A _ _ (k1 _ cb1) hz, k3 _ cb1, hZ]
  have c2 : tv (rnL n g p) (φ (tv g X Y)) z = φ (tv g (tv g X Y) Z) := by rw [B _ _ (k1 _ cb1) hz, k3 _ cb1, hZ]
  have cb2 := k4 _ _ cb1 z'
  have a3 : tv (rnL n f p) (φ (tv f X Y)) (φ (tv f (tv g X Y) Z)) = φ (tv f (tv f X Y) (tv f (tv g X Y) Z)) := by rw [A _ _ (k1 _ ca1) (k1 _ cb2), k3 _ ca1, k3 _ cb2]
  have b3 : tv (rnL n g p) (φ (tv f X Y)) (φ (tv f (tv g X Y) Z)) = φ (tv g (tv f X Y) (tv f (tv g X Y) Z)) := by rw [B _ _ (k1 _ ca1) (k1 _ cb2), k3 _ ca1, k3 _ cb2]
  have e1 : tv (rnL n f p) y z = φ (tv f Y Z) := by rw [A y z hy hz, hY, hZ]
  have f1 : tv (rnL n g p) y z = φ (tv g Y Z) := by rw [B y z hy hz, hY, hZ]
  have ce1 := k4 Y Z y' z'
  have cf1 := k5 Y Z y' z'
  have d2 : tv (rnL n f p) x (φ (tv f Y Z)) = φ (tv f X (tv f Y Z)) := by rw [A _ _ hx (k1 _ ce1), k3 _ ce1, hX]
  have e2 : tv (rnL n g p) x (φ (tv f Y Z)) = φ (tv g X (tv f Y Z)) := by rw [B _ _ hx (k1 _ ce1), k3 _ ce1, hX]
  have ce2 := k5 _ _ x' ce1
  have e3 : tv (rnL n f p) (φ (tv g X (tv f Y Z))) (φ (tv g Y Z)) = φ (tv f (tv g X (tv f Y Z)) (tv g Y Z)) := by rw [A _ _ (k1 _ ce2) (k1 _ cf1), k3 _ ce2, k3 _ cf1]
  have f3 : tv (rnL n g p) (φ (tv g X (tv f Y Z))) (φ (tv g Y Z)) = φ (tv g (tv g X (tv f Y Z)) (tv g Y Z)) := by rw [B _ _ (k1 _ ce2) (k1 _ cf1), k3 _ ce2, k3 _ cf1]
  rw [a1, b1, b2, c2, a3, b3, e1, f1, d2, e2, e3, f3, e.1.1, e.1.2, e.2]
  exact ⟨⟨rfl, rfl⟩, rfl⟩
theorem coll_iff {n : Nat} {f g : List (List Int)} : collOk n f g = true ↔ ∀ x y u v, x < n → y < n → u < n → v < n → tv f x y = tv f u v → tv g x y = tv g u v → x = u ∧ y = v := by
  constructor
  · intro h x y u v hx hy hu hv e1 e2
    have hn : 0 < n := by omega
    have q1 : x * n + y < n * n := by
      have := Nat.mul_le_mul_right n (show x + 1 ≤ n by omega)
      rw [Nat.succ_mul] at this; omega
    have q2 : u * n + v < n * n := by
      have := Nat.mul_le_mul_right n (show u + 1 ≤ n by omega)
      rw [Nat.succ_mul] at this; omega
    have d1 : (x * n + y) / n = x := by rw [Nat.mul_comm, Nat.mul_add_div hn, Nat.div_eq_of_lt hy, Nat.add_zero]
    have d2 : (x * n + y) % n = y := by rw [Nat.mul_comm, Nat.mul_add_mod, Nat.mod_eq_of_lt hy]
    have d3 : (u * n + v) / n = u := by rw [Nat.mul_comm, Nat.mul_add_div hn, Nat.div_eq_of_lt hv, Nat.add_zero]
    have d4 : (u * n + v) % n = v := by rw [Nat.mul_comm, Nat.mul_add_mod, Nat.mod_eq_of_lt hv]
    have := allN_get (allN_get h q1) q2
    unfold collAt at this
    rw [d1, d2, d3, d4, e1, e2] at this
    simp at this
    rw [this] at d1 d2
    exact ⟨by omega, by omega⟩
  · intro h
    refine allN_of fun p hp => allN_of fun q hq => ?_
    have hn : 0 < n := by
      rcases Nat.eq_zero_or_pos n with e | e
      · subst e; simp at hp
      · exact e
    have b1 : p / n < n := Nat.div_lt_of_lt_mul hp
    have b2 : q / n < n := Nat.div_lt_of_lt_mul hq
    have b3 := Nat.mod_lt p hn
    have b4 := Nat.mod_lt q hn
    cases hc : collAt n f g p q with
    | false => rfl
    | true =>
      exfalso
      unfold collAt at hc
      simp at hc
      obtain ⟨r1, r2⟩ := h _ _ _ _ b1 b3 b2 b4 hc.2.1 hc.2.2
      have e1 := Nat.div_add_mod p n
      have e2 := Nat.div_add_mod q n
      rw [r1, r2] at e1
      exact hc.1 (by omega)
theorem collOk_rn {n : Nat} {f g : List (List Int)} {p : List Int} (hf : Sq n f) (hg : Sq n g) (hp : IsP n p) (h : collOk n f g = true) : collOk n (rnL n f p) (rnL n g p) = true := by
  rw [coll_iff] at h ⊢
  obtain ⟨φ, ψ, hp⟩ := isP_of hp
  intro x y u v hx hy hu hv e1 e2
  rw [rnL_tv hp hf hx hy, rnL_tv hp hf hu hv] at e1
  rw [rnL_tv hp hg hx hy, rnL_tv hp hg hu hv] at e2
  have k := fun i (hi : i < n) => hp.2.1 i hi
  have inj : ∀ a b, a < n → b < n → φ a = φ b → a = b := fun a b ha hb e => by
    have := congrArg ψ e
    rwa [(k a ha).2.2.2, (k b hb).2.2.2] at this
  have e1 := inj _ _ (hf.lt (k x hx).2.1 (k y hy).2.1) (hf.lt (k u hu).2.1 (k v hv).2.1) e1
  have e2 := inj _ _ (hg.lt (k x hx).2.1 (k y hy).2.1) (hg.lt (k u hu).2.1 (k v hv).2.1) e2
  obtain ⟨r1, r2⟩ := h _ _ _ _ (k x hx).2.1 (k y hy).2.1 (k u hu).2.1 (k v hv).2.1 e1 e2
  have r1 := congrArg φ r1
  have r2 := congrArg φ r2
  rw [(k x hx).2.2.1, (k u hu).2.2.1] at r1
  rw [(k y hy).2.2.1, (k v hv).2.2.1] at r2
  exact ⟨r1, r2⟩
/-- what a member of the list of all solutions is -/
theorem sol_iff {n : Nat} (h1 : 1 ≤ n) (h3 : n ≤ 3) {s : T2} : s ∈ solL n ↔ Sq2 n s ∧ s.1 ∈ allT (prmL n) n [] ∧ trnL n s.2 ∈ allT (prmL n) n [] ∧ eqOk n s.1 s.2 = true ∧ collOk n s.1 s.2 = true := by
  constructor
  · intro h
    have hs := solL_sq h1 h3 s h
    unfold solL at h
    obtain ⟨f, hf, hs'⟩ := List.mem_flatMap.1 h
    unfold solG at hs'
    obtain ⟨r, hr, rfl⟩ := List.mem_map.1 hs'
    obtain ⟨hr, hb⟩ := List.mem_filter.1 hr
    unfold solF at hb
    rw [Bool.and_eq_true] at hb
    refine ⟨hs, hf, ?_, hb.1, hb.2⟩
    show trnL n (trnL n r) ∈ _
    rw [trn_trn (allT_sq h1 h3 r hr)]; exact hr
  · rintro ⟨hs, hf, hr, h4, h5⟩
    unfold solL
    refine List.mem_flatMap.2 ⟨s.1, hf, ?_⟩
    unfold solG
    refine List.mem_map.2 ⟨trnL n s.2, List.mem_filter.2 ⟨hr, ?_⟩, ?_⟩
    · unfold solF
      rw [trn_trn hs.2, h4, h5]; rfl
    · rw [trn_trn hs.2]
theorem sol_rn {n : Nat} (h1 : 1 ≤ n) (h3 : n ≤ 3) {s : T2} {p : List Int} (hp : IsP n p) (h : s ∈ solL n) : rnS n s p ∈ solL n := by
  rw [sol_iff h1 h3] at h ⊢
  obtain ⟨hs, hf, hr, h4, h5⟩ := h
  refine ⟨⟨rnL_sq hp hs.1, rnL_sq hp hs.2⟩, rn_allT h1 (by omega) hs.1 hp hf, ?_, eqOk_rn hs.1 hs.2 hp h4, collOk_rn hs.1 hs.2 hp h5⟩
  show trnL n (rnL n s.2 p) ∈ _
  rw [trn_rn hp hs.2]
  exact rn_allT h1 (by omega) (trnL_sq hs.2) hp hr
theorem les_in {n : Nat} (h1 : 1 ≤ n) (h3 : n ≤ 3) {s : T2} (h : s ∈ solL n) : lesL n s ∈ lstSo n := by
  have hs := ((sol_iff h1 h3).1 h).1
  have hw := rnS_wrk (n := n) h1 (by omega)
  obtain ⟨p, hp, e⟩ := lfm_at cmpS_cmp hw hs
  refine List.mem_filter.2 ⟨?_, ?_⟩
  · rw [les_lfm, e]
    exact sol_rn h1 h3 (prm_get h1 (by omega) hp) h
  · unfold ownB
    apply decide_eq_true
    rw [cmpS_cmp.eq, les_lfm n s, les_lfm, lfm_lfm cmpS_cmp hw hs]
theorem lea_two {n : Nat} {s : T2} (h1 : s.1.length = n) (h2 : s.2.length = n) : leaS n (prS s) = prS (lesL n s) := by
  have : ∀ (ps : List (List Int)) (b : T2), b.1.length = n → b.2.length = n → ps.foldl (leaF n (prS s)) (prS b) = prS (ps.foldl (lesF n s) b) := by
    intro ps
    induction ps with
    | nil => intro b _ _; rfl
    | cons p ps ih =>
      intro b hb1 hb2
      simp only [List.foldl_cons]
      have e : leaF n (prS s) (prS b) p = prS (lesF n s b p) := by
        rw [lesF_cmp]
        unfold leaF
        have : imgL n p (prS s) = prS (rnS n s p) := rfl
        rw [this, befS_two (by show (rnL n s.1 p).length = _; rw [rnL_len, hb1]) (by show (rnL n s.2 p).length = _; rw [rnL_len, hb2])]
        by_cases h : cmpS (rnS n s p) b < 0
        · rw [decide_eq_true h, if_pos rfl, if_pos h]
        · rw [decide_eq_false h, if_neg h]; rfl
      rw [e]
      rw [lesF_cmp]
      split
      · exact ih _ (rnL_len _ _ _) (rnL_len _ _ _)
      · exact ih _ hb1 hb2
  exact this _ _ h1 h2

/-! ### where a solution is in the list -/
def ndF (f g : List (List Int)) : Bool := f.all permOk && (trnL f.length g).all permOk
theorem rows_allT {n : Nat} (h1 : 1 ≤ n) (h4 : n ≤ 4) {t : List (List Int)} (hs : Sq n t) (h : t.all permOk = true) : t ∈ allT (prmL n) n [] := by
  rw [allT_iff h1 h4]
  refine ⟨hs.len, fun x hx => prm_get h1 h4 (prm_of h4 (hs.row hx) (fun v hv => ?_) ?_)⟩
  · obtain ⟨j, hj, rfl⟩ := List.getElem_of_mem hv
    rw [hs.row hx] at hj
    have a := hs.val hx hj
    have b := hs.lt hx hj
    rw [getD_at (by rw [hs.row hx]; exact hj)] at a
    omega
  · have : t.getD x [] ∈ t := by
      have := hs.len
      rw [List.getD_eq_getElem?_getD, List.getElem?_eq_getElem (by omega)]; exact List.getElem_mem _
    exact List.all_eq_true.1 h _ this
theorem sol_in {f g : List (List Int)} (h : isSol f g = true) (h3 : f.length ≤ 3) (hd : ndF f g = true) : (f, g) ∈ solL f.length := by
  obtain ⟨h1, _, s1, s2⟩ := isSol_sq h
  unfold isSol at h
  rw [Bool.and_eq_true, Bool.and_eq_true] at h
  unfold ndF at hd
  rw [Bool.and_eq_true] at hd
  rw [sol_iff h1 h3]
  exact ⟨⟨s1, s2⟩, rows_allT h1 (by omega) s1 hd.1, rows_allT h1 (by omega) (trnL_sq s2) hd.2, h.2.2, h.2.1⟩
/-- where a solution's least form is -/
def posI (s : T2) : Nat := (slrL s.1.length).findIdx fun u => decide (u = lesL s.1.length s)
theorem posI_of {s : T2} {k : Nat} (hk : k < (slrL s.1.length).length) (h1 : (slrL s.1.length).getD k t2O = lesL s.1.length s) (h2 : ∀ j, j < k → (slrL s.1.length).getD j t2O ≠ lesL s.1.length s) : posI s = k := by
  unfold posI
  rw [List.findIdx_eq hk]
  rw [List.getD_eq_getElem?_getD, List.getElem?_eq_getElem hk] at h1
  refine ⟨by simpa using h1, fun j hj => ?_⟩
  have := h2 j hj
  rw [List.getD_eq_getElem?_getD, List.getElem?_eq_getElem (by omega)] at this
  simpa using this
theorem pos_some {f g : List (List Int)} (h : isSol f g = true) (h3 : f.length ≤ 3) (hd : ndF f g = true) : ∃ k, k < (slrL f.length).length ∧ (slrL f.length).getD k t2O = lesL f.length (f, g) := by
  obtain ⟨h1, _⟩ := isSol_sq h
  have hm := les_in h1 h3 (sol_in h h3 hd)
  have hm := (slrL_map (solL_lens h1 h3)).2.1.mem_iff.2 hm
  obtain ⟨k, hk, e⟩ := List.getElem_of_mem hm
  refine ⟨k, hk, ?_⟩
  rw [List.getD_eq_getElem?_getD, List.getElem?_eq_getElem hk]; exact e
/-- what PlaceOfSolution answers -/
def posF (f g : List (List Int)) : Int × Int := if isSol f g = true then (if f.length ≤ 3 then (if ndF f g = true then (((posI (f, g) : Nat) : Int), 0) else (0, 5)) else (0, 3)) else (0, 1)
end Go.Proofs.YthgafpeblpnolaaGreat
