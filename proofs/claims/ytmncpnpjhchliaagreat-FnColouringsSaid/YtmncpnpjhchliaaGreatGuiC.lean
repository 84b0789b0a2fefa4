/-
  As many colourings by a nondegenerate solution as by the twisted solution of its derived rack by the identity; the derived rack is a rack; in plain lists.
  No condition.
-/
import Derived.Test.YtmncpnpjhchliaaGreatGuiL
import Derived.Test.YtmncpnpjhchliaaGreatPrPl
import Derived.Test.YtmncpnpjhchliaaGreatBacL
import Derived.Test.YtmncpnpjhchliaaGreatBase5
namespace Go.Proofs.YtmncpnpjhchliaaGreat
set_option maxRecDepth 100000
set_option linter.unusedVariables false
set_option linter.unusedSimpArgs false

theorem ybe_of {f g : List (List Int)} (h : isSol f g = true) (hr : f.all permOk = true) : Ybe f.length f g := by
  obtain ⟨h1, h12, sf, sg⟩ := isSol_sq h
  have hc := isSol_coll h
  have he : eqOk f.length f g = true := by unfold isSol at h; rw [Bool.and_eq_true, Bool.and_eq_true] at h; exact h.2.2
  refine ⟨sf, sg, h1, hc, fun x y z hx hy hz => (eqOk_at he hx hy hz).1, fun x y z hx hy hz => (eqOk_at he hx hy hz).2.1, fun x y z hx hy hz => (eqOk_at he hx hy hz).2.2, fun x hx => permOk_isP (sf.row hx) ?_⟩
  refine List.all_eq_true.1 hr _ ?_
  rw [List.getD_eq_getElem?_getD, List.getElem?_eq_getElem hx]
  exact List.getElem_mem hx
theorem less_pair {n a b : Nat} (ha : a < n) (hb : b < n) : Less n [(a : Int), (b : Int)] := cons_less ha (cons_less hb fun i hi => absurd hi (by simp))
section
variable {n : Nat} {f g : List (List Int)}
theorem Ybe.gu_pair (h : Ybe n f g) {a b : Nat} (ha : a < n) (hb : b < n) : guL f [(a : Int), ((bkN f a b : Nat) : Int)] = [(a : Int), (b : Int)] := by
  simp only [guL, List.map_cons, List.map_nil, Int.toNat_natCast, (h.bk ha hb).2]
theorem Ybe.injT (h : Ybe n f g) : InjP n (twF n) (twG n f g) := by
  intro a b c d ha hb hc hd h1 h2
  have l1 := less_pair ha (h.bk ha hb).1
  have l2 := less_pair hc (h.bk hc hd).1
  have e : guL f (doF f g 0 [(a : Int), ((bkN f a b : Nat) : Int)]) = guL f (doF f g 0 [(c : Int), ((bkN f c d : Nat) : Int)]) := by
    rw [h.gu_do 0 _ (by simp) l1, h.gu_do 0 _ (by simp) l2, h.gu_pair ha hb, h.gu_pair hc hd, doF_zero, doF_zero]
    simp only [Int.toNat_natCast, h1, h2]
  have e2 := h.gu_inj _ _ (l1.do_ h.sf h.sg 0 (by simp)) (l2.do_ h.sf h.sg 0 (by simp)) e
  have e3 := doF_inj (coll_injP h.pos h.coll) (by simp) (by simp) l1 l2 e2
  have e4 : guL f [(a : Int), ((bkN f a b : Nat) : Int)] = guL f [(c : Int), ((bkN f c d : Nat) : Int)] := by rw [e3]
  rw [h.gu_pair ha hb, h.gu_pair hc hd] at e4
  simp only [List.cons.injEq, and_true] at e4
  exact ⟨by omega, by omega⟩
theorem Ybe.collT (h : Ybe n f g) : collOk n (twF n) (twG n f g) = true := coll_of h.pos h.injT
theorem three_l (p q : List (List Int)) (x y z : Nat) : doF p q 0 (doF p q 1 (doF p q 0 [(x : Int), (y : Int), (z : Int)])) = [((tv p (tv p x y) (tv p (tv q x y) z) : Nat) : Int), ((tv q (tv p x y) (tv p (tv q x y) z) : Nat) : Int), ((tv q (tv q x y) z : Nat) : Int)] := by
  simp only [doF_zero, doF_cons, Int.toNat_natCast]
theorem three_r (p q : List (List Int)) (x y z : Nat) : doF p q 1 (doF p q 0 (doF p q 1 [(x : Int), (y : Int), (z : Int)])) = [((tv p x (tv p y z) : Nat) : Int), ((tv p (tv q x (tv p y z)) (tv q y z) : Nat) : Int), ((tv q (tv q x (tv p y z)) (tv q y z) : Nat) : Int)] := by
  simp only [doF_zero, doF_cons, Int.toNat_natCast]
theorem three_lit {l : List Int} (hl : l.length = 3) (h : Less n l) : ∃ x y z : Nat, x < n ∧ y < n ∧ z < n ∧ l = [(x : Int), (y : Int), (z : Int)] := by
  match l, hl, h with
  | [a, b, c], _, h =>
    obtain ⟨⟨x, hx, rfl⟩, h2⟩ := less_cons h
    obtain ⟨⟨y, hy, rfl⟩, h3⟩ := less_cons h2
    obtain ⟨⟨z, hz, rfl⟩, _⟩ := less_cons h3
    exact ⟨x, y, z, hx, hy, hz, rfl⟩
theorem Ybe.eqT (h : Ybe n f g) : eqOk n (twF n) (twG n f g) = true := by
  refine eqOk_of fun x y z hx hy hz => ?_
  obtain ⟨l, hl, hlen, el⟩ := h.gu_sur [(x : Int), (y : Int), (z : Int)] (cons_less hx (less_pair hy hz))
  obtain ⟨a, b, c, ha, hb, hc, rfl⟩ := three_lit (by simpa using hlen) hl
  have e : doF f g 0 (doF f g 1 (doF f g 0 [(a : Int), (b : Int), (c : Int)])) = doF f g 1 (doF f g 0 (doF f g 1 [(a : Int), (b : Int), (c : Int)])) := by
    rw [three_l, three_r, h.one a b c ha hb hc, h.two a b c ha hb hc, h.three a b c ha hb hc]
  have L := fun (i : Nat) (hi : i + 1 < 3) (m : List Int) (hm : m.length = 3) (hL : Less n m) => (⟨hL.do_ h.sf h.sg i (by omega), by rw [doF_len]; exact hm⟩ : Less n (doF f g i m) ∧ (doF f g i m).length = 3)
  have m0 : ([(a : Int), (b : Int), (c : Int)] : List Int).length = 3 := rfl
  obtain ⟨a1, a2⟩ := L 0 (by omega) _ m0 hl
  obtain ⟨a3, a4⟩ := L 1 (by omega) _ a2 a1
  obtain ⟨b1, b2⟩ := L 1 (by omega) _ m0 hl
  obtain ⟨b3, b4⟩ := L 0 (by omega) _ b2 b1
  have e2 := congrArg (guL f) e
  rw [h.gu_do 0 _ (by omega) a3, h.gu_do 1 _ (by omega) a1, h.gu_do 0 _ (by simp) hl, h.gu_do 1 _ (by omega) b3, h.gu_do 0 _ (by omega) b1, h.gu_do 1 _ (by simp) hl, el, three_l, three_r] at e2
  simp only [List.cons.injEq, and_true] at e2
  exact ⟨by omega, by omega, by omega⟩
theorem rowOk_of {m : Nat} {xs : List Int} (hl : xs.length = m) (h : ∀ y, y < m → 0 ≤ xs.getD y 0 ∧ xs.getD y 0 < m) : rowOk (m : Int) (m : Int) xs = true := by
  unfold rowOk
  rw [Bool.and_eq_true]
  refine ⟨decide_eq_true (by omega), List.all_eq_true.2 fun x hx => ?_⟩
  obtain ⟨i, hi, rfl⟩ := List.getElem_of_mem hx
  have := h i (by omega)
  rw [List.getD_eq_getElem?_getD, List.getElem?_eq_getElem hi, Option.getD_some] at this
  unfold rngB
  simp; omega
theorem isTab_of {t : List (List Int)} (h1 : 1 ≤ n) (h12 : n ≤ 12) (h : Sq n t) : isTab t = true := by
  unfold isTab
  rw [Bool.and_eq_true, h.len]
  refine ⟨by unfold rngB; simp; omega, List.all_eq_true.2 fun r hr => ?_⟩
  obtain ⟨i, hi, rfl⟩ := List.getElem_of_mem hr
  have hin : i < n := by rw [h.len] at hi; exact hi
  have e : t.getD i [] = t[i] := by simp [List.getD_eq_getElem?_getD, List.getElem?_eq_getElem hi]
  have hl := h.row hin
  rw [e] at hl
  refine rowOk_of hl fun y hy => ?_
  have := h.val hin hy
  have h2 := h.lt hin hy
  rw [e] at this
  omega
theorem isSol_of {p q : List (List Int)} (h1 : 1 ≤ n) (h12 : n ≤ 12) (hp : Sq n p) (hq : Sq n q) (hc : collOk n p q = true) (he : eqOk n p q = true) : isSol p q = true := by
  unfold isSol isPm
  rw [isTab_of h1 h12 hp, isTab_of h1 h12 hq, hp.len, hq.len, hc, he]
  simp
theorem Ybe.solT (h : Ybe n f g) (h12 : n ≤ 12) : isSol (twF n) (twG n f g) = true := isSol_of h.pos h12 h.sqF h.sqG h.collT h.eqT
theorem Ybe.gu_step (h : Ybe n f g) {x : Int} {l : List Int} (hx : x ≠ 0) (hi : (plc x).toNat + 1 < l.length) (hl : Less n l) : guL f (stepL n f g x l) = stepL n (twF n) (twG n f g) x (guL f l) := by
  have pos : ∀ {x : Int} {l : List Int}, 0 < x → (plc x).toNat + 1 < l.length → Less n l → guL f (stepL n f g x l) = stepL n (twF n) (twG n f g) x (guL f l) := by
    intro x l hx hi hl
    unfold stepL
    rw [if_pos hx, if_pos hx]
    exact h.gu_do _ l hi hl
  by_cases q : 0 < x
  · exact pos q hi hl
  · have h1 := hl.step h.pos h.sf h.sg h.coll x hi
    have hlen : (stepL n f g x l).length = l.length := stepL_len _ _ _ _ _
    have hi' : (plc (-x)).toNat + 1 < (stepL n f g x l).length := by rw [plc_neg hx, hlen]; exact hi
    have e := pos (x := -x) (by omega) hi' h1
    rw [step_back h.pos h.sf h.sg h.coll hx hi hl] at e
    rw [e]
    have hG := h.gu_less _ h1
    have := step_back h.pos h.sqF h.sqG h.collT (x := -x) (l := guL f (stepL n f g x l)) (by omega) (by rw [guL_len]; exact hi') hG
    rw [Int.neg_neg] at this
    exact this.symm
theorem Ybe.gu_act (h : Ybe n f g) : ∀ (xs l : List Int), (∀ x ∈ xs, x ≠ 0 ∧ (plc x).toNat + 1 < l.length) → Less n l → guL f (actL n f g xs l) = actL n (twF n) (twG n f g) xs (guL f l) := by
  intro xs
  induction xs with
  | nil => intro l _ _; rfl
  | cons x xs ih =>
    intro l hx hl
    have h0 := hx x (by simp)
    have e1 : actL n f g (x :: xs) l = actL n f g xs (stepL n f g x l) := rfl
    have e2 : ∀ m, actL n (twF n) (twG n f g) (x :: xs) m = actL n (twF n) (twG n f g) xs (stepL n (twF n) (twG n f g) x m) := fun m => rfl
    rw [e1, ih _ (fun y hy => by rw [stepL_len]; exact hx y (by simp [hy])) (hl.step h.pos h.sf h.sg h.coll x h0.2), h.gu_step h0.1 h0.2 hl, e2]
theorem filt_perm {K : Nat} {F : Nat → Nat} (h : PermN F K) {p q : Nat → Bool} (e : ∀ N, N < K → p N = q (F N)) : ((List.range K).filter p).length = ((List.range K).filter q).length := by
  have hnd : ((List.range K).map F).Nodup := by
    rw [List.nodup_iff_pairwise_ne, List.pairwise_map]
    refine List.Pairwise.imp_of_mem ?_ List.pairwise_lt_range
    intro a b ha hb hab e2
    have := h.inj a b (List.mem_range.1 ha) (List.mem_range.1 hb) e2
    omega
  have hp : ((List.range K).map F).Perm (List.range K) := (List.perm_ext_iff_of_nodup hnd List.nodup_range).2 fun a => by
    rw [List.mem_map, List.mem_range]
    constructor
    · rintro ⟨i, hi, rfl⟩
      exact h.lt i (List.mem_range.1 hi)
    · intro ha
      obtain ⟨i, hi, e3⟩ := inj_surj K F h.lt h.inj a ha
      exact ⟨i, List.mem_range.2 hi, e3⟩
  have h2 := (hp.filter q).length_eq
  rw [List.filter_map, List.length_map] at h2
  rw [← h2]
  congr 1
  exact List.filter_congr fun N hN => e N (List.mem_range.1 hN)
theorem Ybe.cnt (h : Ybe n f g) {s : Nat} {xs : List Int} (hx : ∀ x ∈ xs, x ≠ 0 ∧ (plc x).toNat + 1 < s) : (colsL n s (twF n) (twG n f g) xs).length = (colsL n s f g xs).length := by
  have hd : ∀ N, Less n (guL f (digL n s N)) ∧ (guL f (digL n s N)).length = s := fun N => ⟨h.gu_less _ (digL_less n s N h.pos), by rw [guL_len, digL_len]⟩
  have hF : PermN (fun N => numL n (guL f (digL n s N))) (n ^ s) := by
    refine ⟨fun i hi => ?_, fun i j hi hj e => ?_⟩
    · have := numL_lt h.pos (hd i).1
      rw [(hd i).2] at this; exact this
    · have e1 := (num_inj h.pos _ _ 0 0 (by rw [(hd i).2, (hd j).2]) (hd i).1.mem (hd j).1.mem e).2
      have e2 := h.gu_inj _ _ (digL_less n s i h.pos) (digL_less n s j h.pos) e1
      rw [← numL_dig s i hi, ← numL_dig s j hj, e2]
  unfold colsL colsK
  rw [List.length_map, List.length_map]
  symm
  refine filt_perm hF fun N hN => ?_
  unfold colAt
  rw [digL_num h.pos (hd N).2 (hd N).1, ← h.gu_act xs (digL n s N) (fun x hx' => by rw [digL_len]; exact hx x hx') (digL_less n s N h.pos)]
  have hact : Less n (actL n f g xs (digL n s N)) := (digL_less n s N h.pos).act h.pos h.sf h.sg h.coll xs fun x hx' => by rw [digL_len]; exact (hx x hx').2
  by_cases e : actL n f g xs (digL n s N) = digL n s N
  · rw [e]; simp
  · rw [decide_eq_false e]
    symm
    rw [decide_eq_false_iff_not]
    exact fun e2 => e (h.gu_inj _ _ hact (digL_less n s N h.pos) e2)
/-- the derived rack is a rack -/
theorem permOk_of {p : List Int} {F : Nat → Nat} (hl : p.length = n) (hv : ∀ i, i < n → p.getD i 0 = (F i : Int)) (h : PermN F n) : permOk p = true := by
  unfold permOk allN
  rw [hl, List.all_eq_true]
  intro x hx
  obtain ⟨i, hi, e⟩ := inj_surj n F h.lt h.inj x (List.mem_range.1 hx)
  rw [List.contains_iff_mem]
  have hi2 : i < p.length := by omega
  have := hv i hi
  rw [List.getD_eq_getElem?_getD, List.getElem?_eq_getElem hi2, Option.getD_some, e] at this
  rw [← this]
  exact List.getElem_mem hi2
theorem Ybe.rk (h : Ybe n f g) (h12 : n ≤ 12) : isRk (drL n f g) = true := by
  have hR : ∀ x y, x < n → y < n → tv (drL n f g) x y = drN f g x y := fun x y hx hy => tv_tab hx hy
  unfold isRk
  rw [isTab_of h.pos h12 h.sqR, Bool.true_and, Bool.and_eq_true, h.sqR.len]
  constructor
  · rw [List.all_eq_true]
    intro r hr
    obtain ⟨x, hx, rfl⟩ := List.getElem_of_mem hr
    have hxn : x < n := by rw [h.sqR.len] at hx; exact hx
    have e : (drL n f g).getD x [] = (drL n f g)[x] := by simp [List.getD_eq_getElem?_getD, List.getElem?_eq_getElem hx]
    rw [← e]
    refine permOk_of (F := fun y => drN f g x y) (h.sqR.row hxn) (fun y hy => by rw [h.sqR.val hxn hy, hR x y hxn hy]) ⟨fun y hy => h.dr_lt hxn hy, fun y z hy hz e2 => ?_⟩
    exact (h.injT y x z x hy hxn hz hxn (by rw [tw_f hy hxn, tw_f hz hxn]) (by rw [h.tw_g hy hxn, h.tw_g hz hxn]; exact e2)).1
  · unfold rkOk allN
    simp only [List.all_eq_true, List.mem_range]
    intro x hx y hy z hz
    unfold rkAt
    rw [decide_eq_true_eq, hR y z hy hz, hR x y hx hy, hR x z hx hz, hR _ _ hx (h.dr_lt hy hz), hR _ _ (h.dr_lt hx hy) (h.dr_lt hx hz)]
    have e := (eqOk_at h.eqT hz hy hx).2.2
    rw [tw_f hy hx, h.tw_g hz hy, h.tw_g hy hx, h.tw_g hz hx, h.tw_g (h.dr_lt hy hz) hx, h.tw_g (h.dr_lt hx hz) (h.dr_lt hx hy)] at e
    exact e
end
theorem isRk_sq {t : List (List Int)} (h : isRk t = true) : 1 ≤ t.length ∧ t.length ≤ 12 ∧ Sq t.length t := by
  unfold isRk at h; rw [Bool.and_eq_true] at h; exact isTab_sq h.1
/-- as many colourings, and the same code -/
theorem cnt_carried {f g : List (List Int)} (h : isSol f g = true) (hr : f.all permOk = true) (s : Int) (xs : List Int) : (colsF (twF f.length) (twG f.length f g) s xs).1.length = (colsF f g s xs).1.length ∧ (colsF (twF f.length) (twG f.length f g) s xs).2 = (colsF f g s xs).2 := by
  have hY := ybe_of h hr
  have h12 := (isSol_sq h).2.1
  have hT := hY.solT h12
  have hl : (twF f.length).length = f.length := hY.sqF.len
  unfold colsF codeF
  rw [h, hT, hl]
  by_cases hb : isBr s xs = true
  · rw [if_pos hb]
    simp only [if_true]
    unfold colsC
    split
    · obtain ⟨S, rfl⟩ : ∃ S : Nat, s = S := ⟨s.toNat, by have := (isBr_let hb).1; omega⟩
      refine ⟨?_, rfl⟩
      rw [Int.toNat_natCast]
      exact hY.cnt (br_plc hb)
    · exact ⟨rfl, rfl⟩
  · rw [if_neg hb]; simp
end Go.Proofs.YtmncpnpjhchliaaGreat
