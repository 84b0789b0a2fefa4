/-
  Walks and plain laws of this seat, some texts in one.
  No condition but bounds on lengths.
-/
import Derived.Test.YtaddclaadbjnlaaGreatPs41
import Derived.Test.YtaddclaadbjnlaaGreatPs44
namespace Go.Proofs.YtaddclaadbjnlaaGreat
set_option maxRecDepth 100000
set_option linter.unusedVariables false
set_option linter.unusedSimpArgs false
def Sq2 (n : Nat) (s : T2) : Prop := Sq n s.1 ∧ Sq n s.2
theorem rnS_wrk {n : Nat} (h1 : 1 ≤ n) (h4 : n ≤ 4) : Wrk (prmL n) (fun p s => rnS n s p) thL (Sq2 n) where
  nd := prm_nd ⟨n, by omega⟩
  st := fun t ht p hp => ⟨rnL_sq (prm_get h1 h4 hp) ht.1, rnL_sq (prm_get h1 h4 hp) ht.2⟩
  cm := fun p q hp hq => prm_put h4 (thL_isP (prm_get h1 h4 hp) (prm_get h1 h4 hq))
  ac := fun p q hp hq t ht => Prod.ext (rnL_th (prm_get h1 h4 hp) (prm_get h1 h4 hq) ht.1) (rnL_th (prm_get h1 h4 hp) (prm_get h1 h4 hq) ht.2)
  un := ⟨unitL n, prm_put h4 (unit_isP n), fun t ht => Prod.ext (rnL_unit ht.1) (rnL_unit ht.2)⟩
  bk := fun p hp => ⟨backF p, prm_put h4 (back_isP (prm_get h1 h4 hp)), fun t ht => Prod.ext (rnL_back (prm_get h1 h4 hp) ht.1) (rnL_back (prm_get h1 h4 hp) ht.2)⟩
  ij := fun p p' q hp hp' hq e => thL_inj (prm_get h1 h4 hp) (prm_get h1 h4 hp') (prm_get h1 h4 hq) e
theorem les_lfm (n : Nat) (s : T2) : lesL n s = lfm cmpS (fun p s => rnS n s p) (prmL n) s := by
  unfold lesL lfm minL
  rw [List.foldl_map]
  have : lesF n s = fun b p => if cmpS (rnS n s p) b < 0 then rnS n s p else b := by
    funext b p; exact lesF_cmp n s b p
  rw [this]
theorem trn_trn {n : Nat} {t : List (List Int)} (h : Sq n t) : trnL n (trnL n t) = t :=
  sq_ext (trnL_sq (trnL_sq h)) h fun x y hx hy => by rw [trnL_tv hx hy, trnL_tv hy hx]
theorem trn_rn {n : Nat} {t : List (List Int)} {p : List Int} (hp : IsP n p) (h : Sq n t) : trnL n (rnL n t p) = rnL n (trnL n t) p := by
  have s1 := trnL_sq (rnL_sq hp h)
  have s2 := rnL_sq hp (trnL_sq h)
  obtain ⟨f, g, hp⟩ := isP_of hp
  refine sq_ext s1 s2 fun x y hx hy => ?_
  rw [trnL_tv hx hy, rnL_tv hp h hy hx, rnL_tv hp (trnL_sq h) hx hy, trnL_tv (hp.2.1 x hx).2.1 (hp.2.1 y hy).2.1]
theorem allT_iff {n : Nat} (h1 : 1 ≤ n) (h4 : n ≤ 4) {t : List (List Int)} : t ∈ allT (prmL n) n [] ↔ t.length = n ∧ ∀ x, x < n → IsP n (t.getD x []) := by
  constructor
  · intro h
    obtain ⟨r, e, hl, hm⟩ := allT_mem _ _ _ h
    rw [List.nil_append] at e
    subst e
    refine ⟨hl, fun x hx => ?_⟩
    rw [List.getD_eq_getElem?_getD, List.getElem?_eq_getElem (by omega), Option.getD_some]
    exact prm_get h1 h4 (hm _ (List.getElem_mem _))
  · rintro ⟨hl, h⟩
    have := allT_of (ps := prmL n) n [] t hl (fun p hp => by
      obtain ⟨i, hi, rfl⟩ := List.getElem_of_mem hp
      have := h i (by omega)
      rw [List.getD_eq_getElem?_getD, List.getElem?_eq_getElem hi, Option.getD_some] at this
      exact prm_put h4 this)
    simpa using this
theorem rn_allT {n : Nat} (h1 : 1 ≤ n) (h4 : n ≤ 4) {t : List (List Int)} {p : List Int} (hs : Sq n t) (hp : IsP n p) (h : t ∈ allT (prmL n) n []) : rnL n t p ∈ allT (prmL n) n [] := by
  rw [allT_iff h1 h4] at h ⊢
  have hs2 := rnL_sq hp hs
  refine ⟨hs2.len, fun x hx => ?_⟩
  obtain ⟨f, g, hp⟩ := isP_of hp
  obtain ⟨F, G, hF⟩ := isP_of (h.2 (g x) (hp.2.1 x hx).2.1)
  refine ⟨fun y => f (F (g y)), fun y => f (G (g y)), hs2.row hx, fun y hy => ?_, fun y hy => ?_⟩
  · have a1 := hp.2.1 y hy
    have a2 := hF.2.1 (g y) a1.2.1
    have a3 := hp.2.1 (F (g y)) a2.1
    have a4 := hp.2.1 (G (g y)) a2.2.1
    refine ⟨a3.1, a4.1, ?_, ?_⟩
    · show f (F (g (f (G (g y))))) = y
      rw [a4.2.2.2, a2.2.2.1, a1.2.2.1]
    · show f (G (g (f (F (g y))))) = y
      rw [a3.2.2.2, a2.2.2.2, a1.2.2.1]
  · rw [hs2.val hx hy, rnL_tv hp hs hx hy]
    have a1 := (hp.2.1 y hy).2.1
    have := hF.2.2 (g y) a1
    rw [hs.val (hp.2.1 x hx).2.1 a1] at this
    have : tv t (g x) (g y) = F (g y) := Int.ofNat.inj this
    rw [this]
theorem eqOk_get {n : Nat} {f g : List (List Int)} (h : eqOk n f g = true) {x y z : Nat} (hx : x < n) (hy : y < n) (hz : z < n) : eqAt f g x y z = true := allN_get (allN_get (allN_get h hx) hy) hz
theorem allN_of {n : Nat} {P : Nat → Bool} (h : ∀ k, k < n → P k = true) : allN n P = true := List.all_eq_true.2 fun k hk => h k (List.mem_range.1 hk)
theorem eqOk_rn {n : Nat} {f g : List (List Int)} {p : List Int} (hf : Sq n f) (hg : Sq n g) (hp : IsP n p) (h : eqOk n f g = true) : eqOk n (rnL n f p) (rnL n g p) = true := by
  obtain ⟨φ, ψ, hp⟩ := isP_of hp
  have A := fun a b (ha : a < n) (hb : b < n) => rnL_tv hp hf (x := a) (y := b) ha hb
  have B := fun a b (ha : a < n) (hb : b < n) => rnL_tv hp hg (x := a) (y := b) ha hb
  have k1 := fun i (hi : i < n) => (hp.2.1 i hi).1
  have k2 := fun i (hi : i < n) => (hp.2.1 i hi).2.1
  have k3 := fun i (hi : i < n) => (hp.2.1 i hi).2.2.2
  have k4 := fun a b (ha : a < n) (hb : b < n) => hf.lt (x := a) (y := b) ha hb
  have k5 := fun a b (ha : a < n) (hb : b < n) => hg.lt (x := a) (y := b) ha hb
  refine allN_of fun x hx => allN_of fun y hy => allN_of fun z hz => ?_
  have e := eqOk_get h (k2 x hx) (k2 y hy) (k2 z hz)
  simp only [eqAt, Bool.and_eq_true, decide_eq_true_eq] at e ⊢
  have x' := k2 x hx
  have y' := k2 y hy
  have z' := k2 z hz
  generalize hX : ψ x = X at *
  generalize hY : ψ y = Y at *
  generalize hZ : ψ z = Z at *
  have a1 : tv (rnL n f p) x y = φ (tv f X Y) := by rw [A x y hx hy, hX, hY]
  have b1 : tv (rnL n g p) x y = φ (tv g X Y) := by rw [B x y hx hy, hX, hY]
  have ca1 := k4 X Y x' y'
  have cb1 := k5 X Y x' y'
  have b2 : tv (rnL n f p) (φ (tv g X Y)) z = φ (tv f (tv g X Y) Z) := by rw [A _ _ (k1 _ cb1) hz, k3 _ cb1, hZ]
  have c2 : tv (rnL n g p) (φ (tv g X Y)) z = φ (tv g (tv g X Y) Z) := by rw [B _ _ (k1 _ cb1) hz, k3 _ cb1, hZ]
  have cb2 := k4 _ _ cb1 z'
  have a3 : tv (rnL n f p) (φ (tv f X Y)) (φ (tv f (tv g X Y) Z)) = φ (tv f (tv f X Y) (tv f (tv g X Y) Z)) := by rw [A _ _ (k1 _ ca1) (k1 _ cb2), k3 _ ca1, k3 _ cb2]
  have b3 : tv (rnL n g p) (φ (tv f X Y)) (φ (tv f (tv g X Y) Z)) = φ (tv g (tv f X Y) (tv f (tv g X Y) Z)) := by rw [B _ _ (k1 _ ca1) (k1 _ cb2), k3 _ ca1, k3 _ cb2]
  have e1 : tv (rnL n f p) y z = φ (tv f Y Z) := by rw [A y z hy hz, hY, hZ]
  have f1 : tv (rnL n g p) y z = φ (tv g Y Z) := by rw [B y z hy hz, hY, hZ]
  have ce1 := k4 Y Z y' z'
  have cf1 := k5 Y Z y' z'
  have d2 : tv (rnL n f p) x (φ (tv f Y Z)) = φ (tv f X (tv f Y Z)) := by rw [A _ _ hx (k1 _ ce1), k3 _ ce1, hX]
  have e2 : tv (rnL n g p) x (φ (tv f Y Z)) = φ (tv g X (tv f Y Z)) := by rw [B _ _ hx (k1 _ ce1), k3 _ ce1, hX]
  have ce2 := k5 _ _ x' ce1
  have e3 : tv (rnL n f p) (φ (tv g X (tv f Y Z))) (φ (tv g Y Z)) = φ (tv f (tv g X (tv f Y Z)) (tv g Y Z)) := by rw [A _ _ (k1 _ ce2) (k1 _ cf1), k3 _ ce2, k3 _ cf1]
  have f3 : tv (rnL n g p) (φ (tv g X (tv f Y Z))) (φ (tv g Y Z)) = φ (tv g (tv g X (tv f Y Z)) (tv g Y Z)) := by rw [B _ _ (k1 _ ce2) (k1 _ cf1), k3 _ ce2, k3 _ cf1]
  rw [a1, b1, b2, c2, a3, b3, e1, f1, d2, e2, e3, f3, e.1.1, e.1.2, e.2]
  exact ⟨⟨rfl, rfl⟩, rfl⟩
theorem coll_iff {n : Nat} {f g : List (List Int)} : collOk n f g = true ↔ ∀ x y u v, x < n → y < n → u < n → v < n → tv f x y = tv f u v → tv g x y = tv g u v → x = u ∧ y = v := by
  constructor
  · intro h x y u v hx hy hu hv e1 e2
    have hn : 0 < n := by omega
    have q1 : x * n + y < n * n := by
      have := Nat.mul_le_mul_right n (show x + 1 ≤ n by omega)
      rw [Nat.succ_mul] at this; omega
    have q2 : u * n + v < n * n := by
      have := Nat.mul_le_mul_right n (show u + 1 ≤ n by omega)
      rw [Nat.succ_mul] at this; omega
    have d1 : (x * n + y) / n = x := by rw [Nat.mul_comm, Nat.mul_add_div hn, Nat.div_eq_of_lt hy, Nat.add_zero]
    have d2 : (x * n + y) % n = y := by rw [Nat.mul_comm, Nat.mul_add_mod, Nat.mod_eq_of_lt hy]
    have d3 : (u * n + v) / n = u := by rw [Nat.mul_comm, Nat.mul_add_div hn, Nat.div_eq_of_lt hv, Nat.add_zero]
    have d4 : (u * n + v) % n = v := by rw [Nat.mul_comm, Nat.mul_add_mod, Nat.mod_eq_of_lt hv]
    have := allN_get (allN_get h q1) q2
    unfold collAt at this
    rw [d1, d2, d3, d4, e1, e2] at this
    simp at this
    rw [this] at d1 d2
    exact ⟨by omega, by omega⟩
  · intro h
    refine allN_of fun p hp => allN_of fun q hq => ?_
    have hn : 0 < n := by
      rcases Nat.eq_zero_or_pos n with e | e
      · subst e; simp at hp
      · exact e
    have b1 : p / n < n := Nat.div_lt_of_lt_mul hp
    have b2 : q / n < n := Nat.div_lt_of_lt_mul hq
    have b3 := Nat.mod_lt p hn
    have b4 := Nat.mod_lt q hn
    cases hc : collAt n f g p q with
    | false => rfl
    | true =>
      exfalso
      unfold collAt at hc
      simp at hc
      obtain ⟨r1, r2⟩ := h _ _ _ _ b1 b3 b2 b4 hc.2.1 hc.2.2
      have e1 := Nat.div_add_mod p n
      have e2 := Nat.div_add_mod q n
      rw [r1, r2] at e1
      exact hc.1 (by omega)
theorem collOk_rn {n : Nat} {f g : List (List Int)} {p : List Int} (hf : Sq n f) (hg : Sq n g) (hp : IsP n p) (h : collOk n f g = true) : collOk n (rnL n f p) (rnL n g p) = true := by
  rw [coll_iff] at h ⊢
  obtain ⟨φ, ψ, hp⟩ := isP_of hp
  intro x y u v hx hy hu hv e1 e2
  rw [rnL_tv hp hf hx hy, rnL_tv hp hf hu hv] at e1
  rw [rnL_tv hp hg hx hy, rnL_tv hp hg hu hv] at e2
  have k := fun i (hi : i < n) => hp.2.1 i hi
  have inj : ∀ a b, a < n → b < n → φ a = φ b → a = b := fun a b ha hb e => by
    have := congrArg ψ e
    rwa [(k a ha).2.2.2, (k b hb).2.2.2] at this
  have e1 := inj _ _ (hf.lt (k x hx).2.1 (k y hy).2.1) (hf.lt (k u hu).2.1 (k v hv).2.1) e1
  have e2 := inj _ _ (hg.lt (k x hx).2.1 (k y hy).2.1) (hg.lt (k u hu).2.1 (k v hv).2.1) e2
  obtain ⟨r1, r2⟩ := h _ _ _ _ (k x hx).2.1 (k y hy).2.1 (k u hu).2.1 (k v hv).2.1 e1 e2
  have r1 := congrArg φ r1
  have r2 := congrArg φ r2
  rw [(k x hx).2.2.1, (k u hu).2.2.1] at r1
  rw [(k y hy).2.2.1, (k v hv).2.2.1] at r2
  exact ⟨r1, r2⟩
theorem sol_iff {n : Nat} (h1 : 1 ≤ n) (h3 : n ≤ 3) {s : T2} : s ∈ solL n ↔ Sq2 n s ∧ s.1 ∈ allT (prmL n) n [] ∧ trnL n s.2 ∈ allT (prmL n) n [] ∧ eqOk n s.1 s.2 = true ∧ collOk n s.1 s.2 = true := by
  constructor
  · intro h
    have hs := solL_sq h1 h3 s h
    unfold solL at h
    obtain ⟨f, hf, hs'⟩ := List.mem_flatMap.1 h
    unfold solG at hs'
    obtain ⟨r, hr, rfl⟩ := List.mem_map.1 hs'
    obtain ⟨hr, hb⟩ := List.mem_filter.1 hr
    unfold solF at hb
    rw [Bool.and_eq_true] at hb
    refine ⟨hs, hf, ?_, hb.1, hb.2⟩
    show trnL n (trnL n r) ∈ _
    rw [trn_trn (allT_sq h1 h3 r hr)]; exact hr
  · rintro ⟨hs, hf, hr, h4, h5⟩
    unfold solL
    refine List.mem_flatMap.2 ⟨s.1, hf, ?_⟩
    unfold solG
    refine List.mem_map.2 ⟨trnL n s.2, List.mem_filter.2 ⟨hr, ?_⟩, ?_⟩
    · unfold solF
      rw [trn_trn hs.2, h4, h5]; rfl
    · rw [trn_trn hs.2]
theorem sol_rn {n : Nat} (h1 : 1 ≤ n) (h3 : n ≤ 3) {s : T2} {p : List Int} (hp : IsP n p) (h : s ∈ solL n) : rnS n s p ∈ solL n := by
  rw [sol_iff h1 h3] at h ⊢
  obtain ⟨hs, hf, hr, h4, h5⟩ := h
  refine ⟨⟨rnL_sq hp hs.1, rnL_sq hp hs.2⟩, rn_allT h1 (by omega) hs.1 hp hf, ?_, eqOk_rn hs.1 hs.2 hp h4, collOk_rn hs.1 hs.2 hp h5⟩
  show trnL n (rnL n s.2 p) ∈ _
  rw [trn_rn hp hs.2]
  exact rn_allT h1 (by omega) (trnL_sq hs.2) hp hr
theorem les_in {n : Nat} (h1 : 1 ≤ n) (h3 : n ≤ 3) {s : T2} (h : s ∈ solL n) : lesL n s ∈ lstSo n := by
  have hs := ((sol_iff h1 h3).1 h).1
  have hw := rnS_wrk (n := n) h1 (by omega)
  obtain ⟨p, hp, e⟩ := lfm_at cmpS_cmp hw hs
  refine List.mem_filter.2 ⟨?_, ?_⟩
  · rw [les_lfm, e]
    exact sol_rn h1 h3 (prm_get h1 (by omega) hp) h
  · unfold ownB
    apply decide_eq_true
    rw [cmpS_cmp.eq, les_lfm n s, les_lfm, lfm_lfm cmpS_cmp hw hs]
theorem lea_two {n : Nat} {s : T2} (h1 : s.1.length = n) (h2 : s.2.length = n) : leaS n (prS s) = prS (lesL n s) := by
  have : ∀ (ps : List (List Int)) (b : T2), b.1.length = n → b.2.length = n → ps.foldl (leaF n (prS s)) (prS b) = prS (ps.foldl (lesF n s) b) := by
    intro ps
    induction ps with
    | nil => intro b _ _; rfl
    | cons p ps ih =>
      intro b hb1 hb2
      simp only [List.foldl_cons]
      have e : leaF n (prS s) (prS b) p = prS (lesF n s b p) := by
        rw [lesF_cmp]
        unfold leaF
        have : imgL n p (prS s) = prS (rnS n s p) := rfl
        rw [this, befS_two (by show (rnL n s.1 p).length = _; rw [rnL_len, hb1]) (by show (rnL n s.2 p).length = _; rw [rnL_len, hb2])]
        by_cases h : cmpS (rnS n s p) b < 0
        · rw [decide_eq_true h, if_pos rfl, if_pos h]
        · rw [decide_eq_false h, if_neg h]; rfl
      rw [e]
      rw [lesF_cmp]
      split
      · exact ih _ (rnL_len _ _ _) (rnL_len _ _ _)
      · exact ih _ hb1 hb2
  exact this _ _ h1 h2
/-! ### where a solution is in the list -/
theorem rows_allT {n : Nat} (h1 : 1 ≤ n) (h4 : n ≤ 4) {t : List (List Int)} (hs : Sq n t) (h : t.all permOk = true) : t ∈ allT (prmL n) n [] := by
  rw [allT_iff h1 h4]
  refine ⟨hs.len, fun x hx => prm_get h1 h4 (prm_of h4 (hs.row hx) (fun v hv => ?_) ?_)⟩
  · obtain ⟨j, hj, rfl⟩ := List.getElem_of_mem hv
    rw [hs.row hx] at hj
    have a := hs.val hx hj
    have b := hs.lt hx hj
    rw [getD_at (by rw [hs.row hx]; exact hj)] at a
    omega
  · have : t.getD x [] ∈ t := by
      have := hs.len
      rw [List.getD_eq_getElem?_getD, List.getElem?_eq_getElem (by omega)]; exact List.getElem_mem _
    exact List.all_eq_true.1 h _ this
theorem sol_in {f g : List (List Int)} (h : isSol f g = true) (h3 : f.length ≤ 3) (hd : ndF f g = true) : (f, g) ∈ solL f.length := by
  obtain ⟨h1, _, s1, s2⟩ := isSol_sq h
  unfold isSol at h
  rw [Bool.and_eq_true, Bool.and_eq_true] at h
  unfold ndF at hd
  rw [Bool.and_eq_true] at hd
  rw [sol_iff h1 h3]
  exact ⟨⟨s1, s2⟩, rows_allT h1 (by omega) s1 hd.1, rows_allT h1 (by omega) (trnL_sq s2) hd.2, h.2.2, h.2.1⟩
def posI (s : T2) : Nat := (slrL s.1.length).findIdx fun u => decide (u = lesL s.1.length s)
theorem posI_of {s : T2} {k : Nat} (hk : k < (slrL s.1.length).length) (h1 : (slrL s.1.length).getD k t2O = lesL s.1.length s) (h2 : ∀ j, j < k → (slrL s.1.length).getD j t2O ≠ lesL s.1.length s) : posI s = k := by
  unfold posI
  rw [List.findIdx_eq hk]
  rw [List.getD_eq_getElem?_getD, List.getElem?_eq_getElem hk] at h1
  refine ⟨by simpa using h1, fun j hj => ?_⟩
  have := h2 j hj
  rw [List.getD_eq_getElem?_getD, List.getElem?_eq_getElem (by omega)] at this
  simpa using this
theorem pos_some {f g : List (List Int)} (h : isSol f g = true) (h3 : f.length ≤ 3) (hd : ndF f g = true) : ∃ k, k < (slrL f.length).length ∧ (slrL f.length).getD k t2O = lesL f.length (f, g) := by
  obtain ⟨h1, _⟩ := isSol_sq h
  have hm := les_in h1 h3 (sol_in h h3 hd)
  have hm := (slrL_map (solL_lens h1 h3)).2.1.mem_iff.2 hm
  obtain ⟨k, hk, e⟩ := List.getElem_of_mem hm
  refine ⟨k, hk, ?_⟩
  rw [List.getD_eq_getElem?_getD, List.getElem?_eq_getElem hk]; exact e
def posF (f g : List (List Int)) : Int × Int := if isSol f g = true then (if f.length ≤ 3 then (if ndF f g = true then (((posI (f, g) : Nat) : Int), 0) else (0, 5)) else (0, 3)) else (0, 1)
theorem isoS_rn {n : Nat} {t t' u u' : List (List Int)} {p : List Int} (hs : Sq n t) (hs' : Sq n t') (hu : Sq n u) (hu' : Sq n u') : IsoL n [t, t'] [u, u'] p ↔ IsP n p ∧ rnL n t p = u ∧ rnL n t' p = u' := by
  constructor
  · rintro ⟨hl, q, hq, hpq⟩
    have A : IsoL n [t] [u] p := ⟨hl, q, ⟨hq.lt, hq.inj, fun k hk a b ha hb => by
      obtain rfl : k = 0 := by simp at hk; exact hk
      exact hq.hom 0 (by simp) a b ha hb⟩, hpq⟩
    have B : IsoL n [t'] [u'] p := ⟨hl, q, ⟨hq.lt, hq.inj, fun k hk a b ha hb => by
      obtain rfl : k = 0 := by simp at hk; exact hk
      exact hq.hom 1 (by simp) a b ha hb⟩, hpq⟩
    exact ⟨((isoL_rn hs hu).1 A).1, ((isoL_rn hs hu).1 A).2, ((isoL_rn hs' hu').1 B).2⟩
  · rintro ⟨⟨f, g, hpf⟩, rfl, rfl⟩
    refine ⟨hpf.1, f, ⟨fun a ha => (hpf.2.1 a ha).1, fun a b ha hb e => ?_, fun k hk a b ha hb => ?_⟩, fun a ha => hpf.2.2 a ha⟩
    · have h1 := (hpf.2.1 a ha).2.2.2
      have h2 := (hpf.2.1 b hb).2.2.2
      rw [← h1, ← h2, e]
    · rcases (show k = 0 ∨ k = 1 by simp at hk; omega) with rfl | rfl
      · show f (tv t a b) = tv (rnL n t p) (f a) (f b)
        rw [rnL_tv hpf hs (hpf.2.1 a ha).1 (hpf.2.1 b hb).1, (hpf.2.1 a ha).2.2.2, (hpf.2.1 b hb).2.2.2]
      · show f (tv t' a b) = tv (rnL n t' p) (f a) (f b)
        rw [rnL_tv hpf hs' (hpf.2.1 a ha).1 (hpf.2.1 b hb).1, (hpf.2.1 a ha).2.2.2, (hpf.2.1 b hb).2.2.2]
theorem ya_lenS {n : Nat} (h1 : 1 ≤ n) (h4 : n ≤ 4) {s : T2} (hs : Sq2 n s) {Y : List (List Int)} (hY : YA n [s.1, s.2] [s.1, s.2] Y) : Y.length = kpN (fun p s => rnS n s p) (prmL n) s := by
  unfold kpN
  refine ((List.perm_ext_iff_of_nodup hY.1 ((prm_nd ⟨n, by omega⟩).filter _)).2 fun l => ?_).length_eq
  rw [hY.2 l, isoS_rn (p := l) hs.1 hs.2 hs.1 hs.2, List.mem_filter]
  have e : (rnS n s l = s) ↔ rnL n s.1 l = s.1 ∧ rnL n s.2 l = s.2 := by
    unfold rnS
    constructor
    · intro h; exact ⟨congrArg Prod.fst h, congrArg Prod.snd h⟩
    · rintro ⟨a, b⟩; rw [a, b]
  constructor
  · rintro ⟨q1, q2⟩; exact ⟨isP_in h4 q1, decide_eq_true (e.2 q2)⟩
  · rintro ⟨q1, q2⟩
    refine ⟨?_, e.1 (of_decide_eq_true q2)⟩
    obtain ⟨i, hi, e⟩ := List.getElem_of_mem q1
    have := prm_isP h1 h4 i hi
    rw [List.getD_eq_getElem?_getD, List.getElem?_eq_getElem hi, Option.getD_some, e] at this
    exact this
theorem nodup_flat {α β : Type} (f : α → List β) : ∀ {l : List α}, l.Nodup → (∀ a, a ∈ l → (f a).Nodup) → (∀ a b x, a ∈ l → b ∈ l → x ∈ f a → x ∈ f b → a = b) → (l.flatMap f).Nodup := by
  intro l
  induction l with
  | nil => intro _ _ _; simp
  | cons a l ih =>
    intro h1 h2 h3
    rw [List.nodup_cons] at h1
    rw [List.flatMap_cons, List.nodup_append]
    refine ⟨h2 a (by simp), ih h1.2 (fun b hb => h2 b (by simp [hb])) (fun b c x hb hc => h3 b c x (by simp [hb]) (by simp [hc])), fun x hx y hy e => ?_⟩
    subst e
    obtain ⟨b, hb, hxb⟩ := List.mem_flatMap.1 hy
    have := h3 a b x (by simp) (by simp [hb]) hx hxb
    subst this
    exact h1.1 hb
theorem solL_nd {n : Nat} (h1 : 1 ≤ n) (h3 : n ≤ 3) : (solL n).Nodup := by
  have hA : (allT (prmL n) n []).Nodup := by rw [← rowL_any h1]; exact rowL_nd (by omega) _
  unfold solL
  refine nodup_flat _ hA (fun f _ => ?_) fun f g x _ _ hf hg => ?_
  · unfold solG
    refine List.pairwise_map.2 ((List.Pairwise.and_mem.1 (hA.filter _)).imp ?_)
    rintro a b ⟨ha, hb, hab⟩ e
    have e2 := congrArg Prod.snd e
    have sa := allT_sq h1 h3 a (List.mem_filter.1 ha).1
    have sb := allT_sq h1 h3 b (List.mem_filter.1 hb).1
    have e3 : trnL n a = trnL n b := e2
    exact hab (by rw [← trn_trn sa, ← trn_trn sb, e3])
  · unfold solG at hf hg
    obtain ⟨r, _, rfl⟩ := List.mem_map.1 hf
    obtain ⟨r', _, e⟩ := List.mem_map.1 hg
    exact (congrArg Prod.fst e).symm
def gfS (n : Nat) (s : T2) : Nat := (prmL n).length / kpN (fun p s => rnS n s p) (prmL n) s
theorem sol_sum {n : Nat} (h1 : 1 ≤ n) (h3 : n ≤ 3) : ((slrL n).map (gfS n)).sum = (solL n).length := by
  have hw := rnS_wrk (n := n) h1 (by omega)
  have h := orbits cmpS_cmp hw (solL_nd h1 h3) (fun t ht => ((sol_iff h1 h3).1 ht).1) (fun t ht p hp => sol_rn h1 h3 (prm_get h1 (by omega) hp) ht)
  rw [← h]
  have hP := (slrL_map (solL_lens h1 h3)).2.1
  have e : lstSo n = (solL n).filter fun t => decide (t = lfm cmpS (fun p s => rnS n s p) (prmL n) t) := by
    unfold lstSo
    congr 1
    funext t
    unfold ownB
    rw [les_lfm]
    exact decide_eq_decide.2 (cmpS_cmp.eq _ _)
  rw [← e]
  exact (hP.map (gfS n)).sum_nat
theorem rowOk_ofK {n : Nat} {l : List Int} (hl : l.length = n) (h : ∀ i, i < n → 0 ≤ l.getD i 0 ∧ l.getD i 0 < n) : rowOk (n : Int) (n : Int) l = true := by
  unfold rowOk
  rw [Bool.and_eq_true]
  refine ⟨decide_eq_true (by omega), List.all_eq_true.2 fun x hx => ?_⟩
  obtain ⟨i, hi, rfl⟩ := List.getElem_of_mem hx
  have := h i (by omega)
  rw [List.getD_eq_getElem?_getD, List.getElem?_eq_getElem hi, Option.getD_some] at this
  unfold rngB
  simp; omega
theorem isTab_ofK {n : Nat} {t : List (List Int)} (h1 : 1 ≤ n) (h12 : n ≤ 12) (h : Sq n t) : isTab t = true := by
  unfold isTab
  rw [Bool.and_eq_true, h.len]
  refine ⟨by unfold rngB; simp; omega, List.all_eq_true.2 fun r hr => ?_⟩
  obtain ⟨i, hi, rfl⟩ := List.getElem_of_mem hr
  have hin : i < n := by rw [h.len] at hi; exact hi
  have e : t.getD i [] = t[i] := by simp [List.getD_eq_getElem?_getD, List.getElem?_eq_getElem hi]
  have hl := h.row hin
  rw [e] at hl
  refine rowOk_ofK hl fun y hy => ?_
  have := h.val hin hy
  have h2 := h.lt hin hy
  rw [e] at this
  omega
theorem sol_mem {n : Nat} (h1 : 1 ≤ n) (h3 : n ≤ 3) {s : T2} (h : s ∈ solL n) : isSol s.1 s.2 = true ∧ ndF s.1 s.2 = true ∧ Sq2 n s ∧ isPm s.1 s.2 = true := by
  obtain ⟨hs, hf, hr, h4, h5⟩ := (sol_iff h1 h3).1 h
  have hpm : isPm s.1 s.2 = true := by
    unfold isPm
    rw [isTab_ofK h1 (by omega) hs.1, isTab_ofK h1 (by omega) hs.2, hs.1.len, hs.2.len]; simp
  have hperm : ∀ t : List (List Int), t ∈ allT (prmL n) n [] → t.all permOk = true := fun t ht => List.all_eq_true.2 fun r hr => by
    obtain ⟨i, hi, rfl⟩ := List.getElem_of_mem hr
    obtain ⟨q1, q2⟩ := (allT_iff h1 (by omega)).1 ht
    have := q2 i (by rw [← q1]; exact hi)
    rw [List.getD_eq_getElem?_getD, List.getElem?_eq_getElem hi, Option.getD_some] at this
    exact isP_perm this
  refine ⟨?_, ?_, hs, hpm⟩
  · unfold isSol; rw [hpm, hs.1.len, h4, h5]; rfl
  · unfold ndF; rw [hs.1.len, hperm _ hf, hperm _ hr]; rfl
theorem slr_mem {n : Nat} (h1 : 1 ≤ n) (h3 : n ≤ 3) {s : T2} (h : s ∈ slrL n) : s ∈ solL n :=
  (List.mem_filter.1 ((slrL_map (solL_lens h1 h3)).2.1.mem_iff.1 h)).1
theorem sol_iso {f g : List (List Int)} {n : Nat} (hl : f.length = n) (h : isSol f g = true) (h3 : n ≤ 3) (hd : ndF f g = true) : 1 ≤ n ∧ Sq2 n (f, g) ∧ posI (f, g) < (slrL n).length ∧ (slrL n).getD (posI (f, g)) t2O ∈ solL n ∧ ∃ p, IsoL n [f, g] [((slrL n).getD (posI (f, g)) t2O).1, ((slrL n).getD (posI (f, g)) t2O).2] p := by
  subst hl
  obtain ⟨h1, _, s1, s2⟩ := isSol_sq h
  obtain ⟨k, hk, e⟩ := pos_some h h3 hd
  have hex : ∃ x ∈ slrL f.length, (decide (x = lesL f.length (f, g))) = true := ⟨_, by rw [List.getD_eq_getElem?_getD, List.getElem?_eq_getElem hk] at e; exact (List.getElem_mem hk), by simpa [List.getD_eq_getElem?_getD, List.getElem?_eq_getElem hk] using e⟩
  have hlt : posI (f, g) < (slrL f.length).length := List.findIdx_lt_length_of_exists hex
  have heq : (slrL f.length).getD (posI (f, g)) t2O = lesL f.length (f, g) := by
    have := List.findIdx_getElem (p := fun s => decide (s = lesL f.length (f, g))) (xs := slrL f.length) (w := hlt)
    rw [List.getD_eq_getElem?_getD, List.getElem?_eq_getElem hlt]
    exact of_decide_eq_true this
  have hm : (slrL f.length).getD (posI (f, g)) t2O ∈ slrL f.length := by rw [List.getD_eq_getElem?_getD, List.getElem?_eq_getElem hlt]; exact List.getElem_mem hlt
  have hm2 := slr_mem h1 h3 hm
  have hS2 : Sq2 f.length (f, g) := ⟨s1, s2⟩
  obtain ⟨p, hp, ep⟩ := lfm_at cmpS_cmp (rnS_wrk (n := f.length) h1 (by omega)) hS2
  have hP : IsP f.length p := prm_get h1 (by omega) hp
  refine ⟨h1, hS2, hlt, hm2, p, ?_⟩
  have e2 : (slrL f.length).getD (posI (f, g)) t2O = rnS f.length (f, g) p := by rw [heq, les_lfm, ep]
  rw [e2]
  exact (isoS_rn s1 s2 (rnL_sq hP s1) (rnL_sq hP s2)).2 ⟨hP, rfl, rfl⟩
end Go.Proofs.YtaddclaadbjnlaaGreat
