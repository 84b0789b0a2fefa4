/-
  Words of permutations and of the powers of the half twist, as braids.
  No condition.
-/
import Derived.Test.YtdkpalllfekiiaaGreatGarL
namespace Go.Proofs.YtdkpalllfekiiaaGreat
set_option linter.unusedVariables false
set_option linter.unusedSimpArgs false

/-- a word whose letters, one after the other, are descents of a permutation -/
inductive Wd (n : Nat) : Pm → List Int → Prop
  | nil : Wd n Pm.one []
  | cons (q : Pm) (k : Nat) (ws : List Int) : St q k → Wd n ((Pm.s k).m q) ws → Wd n q (((k : Int) + 1) :: ws)
theorem plN_suc (k : Nat) : plN ((k : Int) + 1) = k := by unfold plN; rw [if_neg (by omega)]; omega
theorem act_suc (n : Nat) (s : Stt) (k : Nat) : actS n s ((k : Int) + 1) = (s.1, s.2 ++ [Pm.s k]) := by unfold actS; rw [if_pos (by omega), plN_suc]
theorem wd_ltr {n : Nat} {q : Pm} {ws : List Int} (h : Wd n q ws) : Fx n q → ∀ x ∈ ws, Ltr n x := by
  induction h with
  | nil => intro _ x hx; simp at hx
  | cons q k ws hs _ ih =>
    intro hq x hx
    have hk := hq.st hs
    rcases List.mem_cons.1 hx with e | e
    · rw [e]; exact ⟨by omega, by rw [plN_suc]; exact hk⟩
    · exact ih ((Fx.s hk).m hq) x e
/-- the word of a permutation is its permutation braid -/
theorem wd_sim {n : Nat} {q : Pm} {ws : List Int} (h : Wd n q ws) : Fx n q → ∀ s : Stt, AFx n s.2 → Sim n (begS n s ws) (s.1, s.2 ++ [q]) := by
  induction h with
  | nil => intro _ s hs; exact (sim_one n s.1 s.2).symm
  | cons q k ws hst _ ih =>
    intro hq s hs
    have hk := hq.st hst
    have hf := Fx.s (n := n) hk
    have hL : AFx n (s.2 ++ [Pm.s k]) := hs.app fun p hp => by simp at hp; rw [hp]; exact hf
    have h1 := ih (hf.m hq) (s.1, s.2 ++ [Pm.s k]) hL
    have e1 : begS n s (((k : Int) + 1) :: ws) = begS n (s.1, s.2 ++ [Pm.s k]) ws := by
      show begS n (actS n s ((k : Int) + 1)) ws = _
      rw [act_suc]
    rw [e1]
    have h2 : Sim n (s.1, (s.2 ++ [Pm.s k]) ++ [(Pm.s k).m q]) (s.1, (s.2 ++ [q]) ++ [Pm.one]) := Sim.of (by
      have := (letter_join hq hst).ctx s.2 []
      simpa using this)
    have hq1 : AFx n (s.2 ++ [q]) := hs.app fun p hp => by simp at hp; rw [hp]; exact hq
    have hA : AFx n ((s.2 ++ [Pm.s k]) ++ [(Pm.s k).m q]) := hL.app fun p hp => by simp at hp; rw [hp]; exact hf.m hq
    have hB : AFx n ((s.2 ++ [q]) ++ [Pm.one]) := hq1.app fun p hp => by simp at hp; rw [hp]; exact Fx.one n
    exact Sim.trans hA h1 (Sim.trans hB h2 (sim_one n s.1 (s.2 ++ [q])))
/-- the opposite letters in reverse order -/
def invL (ws : List Int) : List Int := (ws.map fun x => -x).reverse
theorem inv_sim {n : Nat} : ∀ (ws : List Int) (s : Stt), AFx n s.2 → (∀ x ∈ ws, Ltr n x) → Sim n (begS n (begS n s ws) (invL ws)) s := by
  intro ws
  induction ws with
  | nil => intro s _ _; exact Sim.refl _ _
  | cons x ws ih =>
    intro s hs hx
    have hx0 := hx x (by simp)
    have hxs : ∀ y ∈ ws, Ltr n y := fun y hy => hx y (by simp [hy])
    have ha := act_fx hs hx0
    have e1 : begS n (begS n s (x :: ws)) (invL (x :: ws)) = actS n (begS n (begS n (actS n s x) ws) (invL ws)) (-x) := by
      have : invL (x :: ws) = invL ws ++ [-x] := by simp [invL]
      rw [this, beg_app]; rfl
    rw [e1]
    have hi : ∀ y ∈ invL ws, Ltr n y := fun y hy => by
      simp only [invL, List.mem_reverse, List.mem_map] at hy
      obtain ⟨z, hz, rfl⟩ := hy
      exact (hxs z hz).neg
    have h1 := (ih (actS n s x) ha hxs).act (beg_fx _ _ (beg_fx _ _ ha hxs) hi) ha hx0.neg
    exact Sim.trans (act_fx ha hx0.neg) h1 (sim_cancel hs hx0)
/-- the half twist's word raises the exponent by one, its inverse's lowers it -/
theorem tws_sim {n : Nat} {ws : List Int} (h : Wd n (Pm.tw n) ws) (e : Int) : Sim n (begS n (e, []) ws) (e + 1, []) := by
  have h0 : AFx n ([] : List Pm) := fun p hp => by simp at hp
  have h1 := wd_sim h (tw_fx n) (e, []) h0
  exact Sim.trans (fun p hp => by simp at hp; rw [hp]; exact tw_fx n) h1 (sim_tw n e [])
theorem twi_sim {n : Nat} {ws : List Int} (h : Wd n (Pm.tw n) ws) (e : Int) : Sim n (begS n (e, []) (invL ws)) (e - 1, []) := by
  have h0 : AFx n ([] : List Pm) := fun p hp => by simp at hp
  have hl := wd_ltr h (tw_fx n)
  have hi : ∀ y ∈ invL ws, Ltr n y := fun y hy => by
    simp only [invL, List.mem_reverse, List.mem_map] at hy
    obtain ⟨z, hz, rfl⟩ := hy
    exact (hl z hz).neg
  have h1 := tws_sim h (e - 1)
  rw [show e - 1 + 1 = e by omega] at h1
  have hb := beg_fx (n := n) ws (e - 1, []) h0 hl
  have h2 := Sim.beg (invL ws) h0 hb hi h1.symm
  exact Sim.trans (beg_fx _ _ hb hi) h2 (inv_sim ws (e - 1, []) h0 hl)
/-- the half twist's own normal form -/
theorem twn_nfo {n : Nat} (h2 : 2 ≤ n) {ws : List Int} (h : Wd n (Pm.tw n) ws) : NFo n (begS n (0, []) ws) (1, []) := by
  have h0 : AFx n ([] : List Pm) := fun p hp => by simp at hp
  have hl := wd_ltr h (tw_fx n)
  have hb := beg_fx (n := n) ws (0, []) h0 hl
  obtain ⟨r, hr⟩ := nfo_ex hb
  have h3 : NFo n ((1 : Int), ([] : List Pm)) (1, []) := ⟨[], .refl _, chn_nf trivial, by simp [stripL]⟩
  have := nfo_sim h2 hb h0 (tws_sim h 0) hr h3
  rw [← this]; exact hr
/-- a letter before the half twist is the turned letter behind it -/
theorem turn_sim {n k : Nat} (h2 : 2 ≤ n) {ws : List Int} (h : Wd n (Pm.tw n) ws) (hk : k + 1 < n) :
    Sim n (begS n (0, []) (((k : Int) + 1) :: ws)) (begS n (0, []) (ws ++ [((n - 2 - k : Nat) : Int) + 1])) := by
  have h0 : AFx n ([] : List Pm) := fun p hp => by simp at hp
  have hl := wd_ltr h (tw_fx n)
  have hf := Fx.s (n := n) hk
  have hf' : Fx n (Pm.s (n - 2 - k)) := Fx.s (by omega)
  have htw := tw_fx n
  have e1 : begS n (0, []) (((k : Int) + 1) :: ws) = begS n (0, [Pm.s k]) ws := by
    show begS n (actS n (0, []) ((k : Int) + 1)) ws = _
    rw [act_suc]; rfl
  have hk1 : AFx n [Pm.s k] := fun p hp => by simp at hp; rw [hp]; exact hf
  have a1 := wd_sim h htw (0, [Pm.s k]) hk1
  have a2 : Sim n ((0 : Int), [Pm.s k] ++ [Pm.tw n]) (0, [Pm.tw n, Pm.s (n - 2 - k)]) := Sim.of (.of (by
    have := tw_join hf
    rw [tau_s hk] at this
    simpa using this))
  have a3 := wd_sim h htw (0, []) h0
  have hx : Ltr n (((n - 2 - k : Nat) : Int) + 1) := ⟨by omega, by rw [plN_suc]; omega⟩
  have htl : AFx n (([] : List Pm) ++ [Pm.tw n]) := fun p hp => by simp at hp; rw [hp]; exact htw
  have a4 := a3.act (beg_fx _ _ h0 hl) htl hx
  have e4 : actS n ((0 : Int), ([] : List Pm) ++ [Pm.tw n]) (((n - 2 - k : Nat) : Int) + 1) = (0, [Pm.tw n, Pm.s (n - 2 - k)]) := by rw [act_suc]; rfl
  rw [e4] at a4
  rw [e1, beg_app]
  have hA : AFx n ([Pm.s k] ++ [Pm.tw n]) := hk1.app fun p hp => by simp at hp; rw [hp]; exact htw
  have hB : AFx n [Pm.tw n, Pm.s (n - 2 - k)] := fun p hp => by
    simp at hp; rcases hp with rfl | rfl
    · exact htw
    · exact hf'
  exact Sim.trans hA a1 (Sim.trans hB a2 a4.symm)
/-- identities stand at the end of a normal list -/
theorem filt_back {n : Nat} : ∀ Y : List Pm, AFx n Y → Chn Y → ∃ (Z : List Pm) (j : Nat), Y = Z ++ rp j Pm.one ∧ (Y.map (toL n)).filter (fun p => !decide (p = toL n Pm.one)) = Z.map (toL n) := by
  intro Y
  induction Y with
  | nil => intro _ _; exact ⟨[], 0, rfl, rfl⟩
  | cons p Y ih =>
    intro hA hC
    have hA' : AFx n Y := fun q hq => hA q (by simp [hq])
    by_cases hp : p = Pm.one
    · subst hp
      have hall := chn_one hA' hC
      have hY : Y = rp Y.length Pm.one := by
        unfold rp
        exact List.eq_replicate_of_mem hall
      refine ⟨[], Y.length + 1, ?_, ?_⟩
      · conv => lhs; rw [hY]
        unfold rp; rw [List.replicate_succ]; rfl
      · rw [List.filter_eq_nil_iff.2]; rfl
        intro a ha
        obtain ⟨q, hq, rfl⟩ := List.mem_map.1 ha
        rcases List.mem_cons.1 hq with e | e
        · rw [e]; simp
        · rw [hall q e]; simp
    · obtain ⟨Z, j, h1, h2⟩ := ih hA' (chn_tail hC)
      have hne : toL n p ≠ toL n Pm.one := fun e => hp (toL_inj (hA p (by simp)) (Fx.one n) e)
      refine ⟨p :: Z, j, by rw [h1]; rfl, ?_⟩
      rw [List.map_cons, List.filter_cons, if_pos (by simp [hne]), h2]; rfl
theorem sim_ones (n : Nat) (e : Int) (L : List Pm) (j : Nat) : Sim n (e, L ++ rp j Pm.one) (e, L) := ⟨0, 0, 0, j, rfl, by simpa [rp] using Join.refl _⟩
theorem strip_back {n : Nat} : ∀ (Y : List Pm) (e : Int), AFx n Y → Chn Y → ∃ Z : List Pm, AFx n Z ∧ (stripL n e (Y.map (toL n))).2 = Z.map (toL n) ∧ Sim n (e, Y) ((stripL n e (Y.map (toL n))).1, Z) := by
  intro Y
  induction Y with
  | nil =>
    intro e hA _
    refine ⟨[], hA, rfl, ?_⟩
    have : (stripL n e (([] : List Pm).map (toL n))).1 = e := by simp [stripL]
    rw [this]; exact Sim.refl _ _
  | cons p Y ih =>
    intro e hA hC
    have hA' : AFx n Y := fun q hq => hA q (by simp [hq])
    by_cases hp : p = Pm.tw n
    · subst hp
      have hs := strip_tw n (e + 1) (Y.map (toL n)) 1
      have e1 : e + 1 - ((1 : Nat) : Int) = e := by omega
      rw [e1] at hs
      have e2 : (Pm.tw n :: Y).map (toL n) = List.replicate 1 (toL n (Pm.tw n)) ++ Y.map (toL n) := rfl
      obtain ⟨Z, z1, z2, z3⟩ := ih (e + 1) hA' (chn_tail hC)
      rw [e2, hs]
      exact ⟨Z, z1, z2, Sim.trans hA' (sim_tw n e Y) z3⟩
    · have hne : toL n p ≠ toL n (Pm.tw n) := fun h => hp (toL_inj (hA p (by simp)) (tw_fx n) h)
      obtain ⟨Z, j, h1, h2⟩ := filt_back (p :: Y) hA hC
      have hst : stripL n e ((p :: Y).map (toL n)) = (e, Z.map (toL n)) := by
        unfold stripL
        rw [List.map_cons, List.takeWhile_cons, List.dropWhile_cons, if_neg (by simp [hne]), if_neg (by simp [hne])]
        rw [List.map_cons] at h2
        rw [h2]; simp
      rw [hst]
      refine ⟨Z, fun q hq => hA q (by rw [h1]; simp [hq]), rfl, ?_⟩
      have := sim_ones n e Z j
      rw [← h1] at this
      exact this
/-- a braid is the power of the half twist and the permutation braids that its normal form tells -/
theorem nfo_back {n : Nat} {s : Stt} {r : Int × List (List Int)} (hs : AFx n s.2) (h : NFo n s r) : ∃ Z : List Pm, AFx n Z ∧ r.2 = Z.map (toL n) ∧ Sim n s (r.1, Z) := by
  obtain ⟨Y, y1, y2, rfl⟩ := h
  have hY := hs.star y1
  obtain ⟨Z, z1, z2, z3⟩ := strip_back Y s.1 hY (nf_chn _ y2)
  exact ⟨Z, z1, z2, Sim.trans hY (Sim.of (.of y1)) z3⟩
/-- the words of permutations, one behind the other -/
theorem wds_sim {n : Nat} : ∀ (Z : List Pm) (wss : List (List Int)) (s : Stt), AFx n s.2 → AFx n Z → wss.length = Z.length → (∀ i, i < Z.length → Wd n (Z.getD i Pm.one) (wss.getD i [])) → Sim n (begS n s wss.flatten) (s.1, s.2 ++ Z) := by
  intro Z
  induction Z with
  | nil =>
    intro wss s _ _ hl _
    have : wss = [] := List.eq_nil_of_length_eq_zero hl
    subst this
    rw [List.append_nil]; exact Sim.refl _ _
  | cons q Z ih =>
    intro wss s hs hZ hl hw
    match wss, hl, hw with
    | ws :: wss, hl, hw =>
      have hq := hZ q (by simp)
      have hZ' : AFx n Z := fun p hp => hZ p (by simp [hp])
      have h0 : Wd n q ws := hw 0 (by simp)
      have h1 := wd_sim h0 hq s hs
      have hl0 := wd_ltr h0 hq
      have hA : AFx n (s.2 ++ [q]) := hs.app fun p hp => by simp at hp; rw [hp]; exact hq
      have hlt : ∀ x ∈ wss.flatten, Ltr n x := fun x hx => by
        obtain ⟨l, hl1, hl2⟩ := List.mem_flatten.1 hx
        obtain ⟨i, hi, rfl⟩ := List.getElem_of_mem hl1
        have hi' : i < Z.length := by simp at hl; omega
        have hwi := hw (i + 1) (by simp; omega)
        simp only [List.getD_eq_getElem?_getD, List.getElem?_cons_succ, List.getElem?_eq_getElem hi, List.getElem?_eq_getElem hi', Option.getD_some] at hwi
        exact wd_ltr hwi (hZ' _ (List.getElem_mem hi')) x hl2
      have h2 := Sim.beg wss.flatten (beg_fx ws s hs hl0) hA hlt h1
      have h3 := ih wss (s.1, s.2 ++ [q]) hA hZ' (by simpa using hl) (fun i hi => by simpa using hw (i + 1) (by simpa using hi))
      have e1 : begS n s (ws :: wss).flatten = begS n (begS n s ws) wss.flatten := by rw [List.flatten_cons, beg_app]
      rw [e1]
      have := Sim.trans (beg_fx _ _ hA hlt) h2 h3
      simpa using this
end Go.Proofs.YtdkpalllfekiiaaGreat
