/-
  Walks and plain laws of this seat, some texts in one.
  No condition but bounds on lengths.
-/
import Derived.Test.YtaddclaadbjnlaaGreatPs29
import Derived.Test.YtaddclaadbjnlaaGreatPs7
import Derived.Test.YtaddclaadbjnlaaGreatPs6
import Derived.Test.YtaddclaadbjnlaaGreatPs12
import Derived.Test.YtaddclaadbjnlaaGreatPs2
import Derived.BigRegion
namespace Go.Proofs.YtaddclaadbjnlaaGreat
set_option maxRecDepth 100000
set_option linter.unusedVariables false
set_option linter.unusedSimpArgs false
open Go.RowKit
theorem OwnTT.tbS {w : World} {lo : Nat} {a : Option Addr} {n c : Nat} {us : List TV} {ts : List (List (List Int))} (h : OwnTT w lo a n c us ts) : TbS w a n ts := by
  refine ⟨h.len, fun i hi => ?_⟩
  obtain ⟨g, h1, h2, h3, _⟩ := h.cells (by omega)
  have hv := h.tab i hi
  exact ⟨g, 0, _, _, _, h1, h2, by rw [Nat.zero_add]; exact h3 i hi, OwnT.tbl hv, by have := OwnT.cap hv; omega⟩
def imgL (n : Nat) (p : List Int) (us : List (List (List Int))) : List (List (List Int)) := us.map fun t => rnL n t p
def onlP (n : Nat) (us : List (List (List Int))) (p : List Int) : Bool := !befS (imgL n p us) us
def onlL (n : Nat) (ps : List (List Int)) (us : List (List (List Int))) : Bool := (List.range ps.length).all fun i => onlP n us (ps.getD i [])
theorem rnL_len (n : Nat) (t : List (List Int)) (p : List Int) : (rnL n t p).length = n := tabF_len _ _
theorem imgL_take {n : Nat} {p : List Int} {us : List (List (List Int))} {k : Nat} (h : k < us.length) : imgL n p (us.take (k + 1)) = imgL n p (us.take k) ++ [rnL n (us.getD k []) p] := by
  unfold imgL
  rw [List.take_succ_eq_append_getElem h, List.map_append]
  simp [List.getD_eq_getElem?_getD, List.getElem?_eq_getElem h]
set_option maxHeartbeats 8000000 in
theorem l19Own_any (n m P : Nat) (a1 a2 : Option Addr) (c1 c2 : Nat) (us : List (List (List Int))) (ps : List (List Int)) (w : World) (h1 : TbS w a1 m us) (h2 : Tbl w a2 P ps) (hn0 : 1 ≤ n) (hn : n ≤ 12) (hm : m ≤ 1000000) (hP : P ≤ 1000000)
    (hs : ∀ k, k < m → Sq n (us.getD k [])) (hps : ∀ i, i < P → IsP n (ps.getD i [])) :
    Calls Tryz.prog 84 #[.slice a1 m c1, .slice a2 P c2] w fun e w' => e = .returned (.bool (onlL n ps us)) ∧ Below w.heap.size w w' := by
  have HL1 := Lib.hid h1.len; have HL2 := Lib.hid h2.len; have HS := Lib.hid hs; have HPS := Lib.hid hps
  clear hs hps
  go_enter Tryz.func84, Tryz.ntmps84
  go_wp2
  go_loopw [5, 6, 7] (fun i _ _ wr => ∃ x : Nat, x ≤ P ∧ i = .int .i64 x ∧ Below w.heap.size w wr ∧ Hid (∀ x', x' < x → onlP n us (ps.getD x' []) = true)) (fun i _ _ _ => P - (intOf i).toNat)
  case atStart => exact ⟨0, Nat.zero_le _, rfl, Below.refl _ _, Lib.hid fun x' hx => absurd hx (by omega)⟩
  case round =>
    obtain ⟨x, hx, rfl, hq, HX⟩ := hrel
    by_cases hlt : x < P
    · have hwq := hq.size
      have hpx := HPS.out x hlt
      obtain ⟨p, HPP⟩ : ∃ p, Hid (ps.getD x [] = p) := ⟨_, rfl⟩
      rw [HPP.out] at hpx
      have HPX := Lib.hid hpx
      have i1 : (0 : Int) ≤ (x : Int) := by omega
      have i2 : (x : Int) < (P : Int) := by omega
      obtain ⟨w1, hw1⟩ : ∃ w1, wr.alloc (.cells #[] 32) = w1 := ⟨_, rfl⟩
      have hz1 : w1.heap.size = wr.heap.size + 1 := by rw [← hw1]; simp
      have hB1 : Below w.heap.size w w1 := by rw [← hw1]; exact below_al hq _
      obtain ⟨B0, hB0⟩ : ∃ B0, B0 = wr.heap.size := ⟨_, rfl⟩
      have hwB : w.heap.size ≤ B0 := by omega
      have hO1 : OwnTT w1 B0 (some ⟨wr.heap.size, 0, none⟩) 0 0 [] [] := by
        rw [← hw1, hB0]
        exact ⟨rfl, rfl, ownsRowT_mk rfl (Nat.le_refl _) (Loc.new wr rfl _ _) (Nat.le_refl _) (by unfold maxLen; omega) rfl rfl, fun i h => absurd h (by omega), fun i h => absurd h (by omega), fun i j h => absurd h (by omega)⟩
      clear hpx
      go_wp2
      go_loopw [6, 7] (fun s i wr2 => ∃ (k : Nat) (a' : Option Addr) (c' : Nat) (vs : List TV), k ≤ m ∧ i = .int .i64 k ∧ s = .slice a' k c' ∧ OwnTT wr2 B0 a' k c' vs (imgL n p (us.take k)) ∧ Below w.heap.size w wr2 ∧ B0 ≤ wr2.heap.size) (fun _ i _ => m - (intOf i).toNat)
      case atStart => exact ⟨0, _, 0, [], Nat.zero_le _, rfl, rfl, by simpa [imgL] using hO1, hB1, by omega⟩
      case round =>
        clear hO1 hB1 hz1 hw1 hq
        obtain ⟨k, a', c', vs, hk, rfl, rfl, hO, hq, hwz⟩ := hrel
        by_cases hlk : k < m
        · have h1r := h1.below hq
          have h2r := h2.below hq
          obtain ⟨b1, o1, at_, nt, ct, rfl, g1, t1, l1⟩ := h1r.at k hlk
          obtain ⟨b2, o2, ap, np, cp, rfl, g2, r2, l2⟩ := h2r.at x hlt
          rw [HPP.out] at r2
          obtain ⟨t, HT⟩ : ∃ t, Hid (us.getD k [] = t) := ⟨_, rfl⟩
          rw [HT.out] at t1
          have hsq : Sq n t := by rw [← HT.out]; exact HS.out k hlk
          obtain rfl : n = nt := by have := t1.len; rw [hsq.1] at this; exact this.symm
          obtain rfl : n = np := by have := r2.len; rw [HPX.out.len] at this; exact this.symm
          have HSQ := Lib.hid hsq
          have HIT : Hid (imgL n p (us.take (k + 1)) = imgL n p (us.take k) ++ [rnL n t p]) := Lib.hid (by rw [imgL_take (by have := HL1.out; omega), HT.out])
          have HOU := Lib.hid hO.uHi
          have HOB := Lib.hid (fun g (e : (Value.slice a' k c').ownBlock = some g) => hO.ownBlk e)
          have j1 : (0 : Int) ≤ (k : Int) := by omega
          have j2 : (k : Int) < (m : Int) := by omega
          have hO1 := hO.drewN 1
          have t1d := t1.drewN 1
          have r2d := r2.drewN 1
          clear hsq h1r h2r
          go_wp2
          go_region_law (first
            | (refine step_appTTn rfl rfl hO3 rfl ho3 HQ3.out rfl ?_ ?_ ?_; (omega); (omega); intro g' cc w8 hO8 hg8 hat8 hb8)
            | (go_simp; go_at_call 108; refine (l03Image_any n at_ ap ct cp t p _ t1d r2d HSQ.out HPX.out hn0 hn).mono ?_; rintro e w3 ⟨a3, c3, vs3, rfl, ho3', hb3⟩; have hz3 : B0 ≤ w3.heap.size := Nat.le_trans hwz hb3.size; have ho3 : OwnT w3 B0 a3 n c3 vs3 (rnL n t p) := ho3'.mono hwz; have hO3 := hO1.below hb3; have HQ3 : Hid (∀ q, TblS a3 n vs3 q → ¬ TTS a' k vs q) := Lib.hid (fun q h1 h2 => by have := ho3'.uLo q h1; have h4 := HOU.out q h2; have : wr.heap.size ≤ q := this; omega)))
          all_goals
            go_wp2
            go_roundw
            case rel => exact ⟨k + 1, _, cc, _, by omega, by go_num, rfl, by rw [HIT.out]; exact hO8, (below_drewN hq 1).trans ((hb3.mono (show w.heap.size ≤ (wr.drewN 1).heap.size by exact Nat.le_trans hwB hwz)).trans (hb8.mono hwB)), Nat.le_trans hz3 hb8.size⟩
            case measure => simp [intOf]; omega
        · obtain rfl : m = k := by omega
          have hE : us.take m = us := by rw [List.take_of_length_le (by have := HL1.out; omega)]
          rw [hE] at hO
          have hlens : ∀ k, k < m → ((imgL n p us).getD k []).length ≤ (us.getD k []).length := fun k hk => by
            have hk' : k < us.length := by have := HL1.out; omega
            have : (imgL n p us).getD k [] = rnL n (us.getD k []) p := by
              unfold imgL
              simp [List.getD_eq_getElem?_getD, List.getElem?_eq_getElem hk']
            rw [this, rnL_len, (HS.out k hk).1]; exact Nat.le_refl _
          have HLN := Lib.hid hlens
          obtain ⟨B, HB⟩ : ∃ B, Hid (befS (imgL n p us) us = B) := ⟨_, rfl⟩
          clear hE hlens
          cases B with
          | true =>
            have HC : Hid (onlL n ps us = false) := Lib.hid (rng_no (y := x) (by have := HL2.out; omega) (by unfold onlP; rw [HPP.out, HB.out]; rfl))
            go_wp2_with fail
            refine (l03Before_any _ _ _ _ _ _ _ _ _ hO.tbS (h1.below hq) (Nat.le_refl _) (by omega) HLN.out).mono ?_
            rintro e w5 ⟨rfl, hw5⟩
            rw [HB.out]
            go_wp2
            go_ret
            exact ⟨ret_bool HC.out.symm, by obtain ⟨k, hk⟩ := hw5; rw [hk]; exact below_drewN hq k⟩
          | false =>
            have HC : Hid (onlP n us (ps.getD x []) = true) := Lib.hid (by unfold onlP; rw [HPP.out, HB.out]; rfl)
            go_wp2_with fail
            refine (l03Before_any _ _ _ _ _ _ _ _ _ hO.tbS (h1.below hq) (Nat.le_refl _) (by omega) HLN.out).mono ?_
            rintro e w5 ⟨rfl, hw5⟩
            rw [HB.out]
            have hq5 : Below w.heap.size w w5 := by obtain ⟨k, hk⟩ := hw5; rw [hk]; exact below_drewN hq k
            clear hw5
            go_wp2
            go_roundw
            case rel => exact ⟨x + 1, by omega, by go_num, hq5, Lib.hid (step_lt HX.out HC.out)⟩
            case measure => simp [intOf]; omega
    · obtain rfl : P = x := by omega
      have HC : Hid (onlL n ps us = true) := Lib.hid (rng_of fun x hx => HX.out x (by have := HL2.out; omega))
      go_wp2
      go_ret
      exact ⟨ret_bool HC.out.symm, hq⟩
theorem info_qs : (Tryz.prog.info? 70).map (fun i => (i.zero, i.size, i.bytes)) = some (some (.slice none 0 0), 1, 24) := by kernel_rfl
theorem und_qs : Tryz.prog.underlying 97 = some (.slice 70) := by kernel_rfl
theorem ownsRowQ_mk {w : World} {lo g n c : Nat} {vs : List SV} {cur : Array Value} (hn : vs.length = n) (h1 : lo ≤ g) (h2 : Loc w g cur 70) (h3 : n ≤ c) (h4 : c ≤ maxLen) (h5 : cur.size = c) (h6 : cur.toList.take n = vs.map sl) :
    w.ownsRow lo 70 1 (.slice (some ⟨g, 0, none⟩) n c) n (vs.map sl) :=
  ⟨by simp [hn], .inr ⟨g, c, cur, rfl, h1, h2, h3, h4, by simpa using h5, by simpa using h6⟩⟩
def Hq (w : World) (lo : Nat) (a : Option Addr) (n c : Nat) (vs : List SV) : Prop := vs.length = n ∧ w.ownsRow lo 70 1 (.slice a n c) n (vs.map sl)
section
variable {w w' : World} {lo : Nat} {a : Option Addr} {n c : Nat} {vs : List SV}
theorem Hq.nil (w : World) (lo : Nat) : Hq w lo none 0 0 [] := ⟨rfl, World.ownsRow_nil w lo _ 1⟩
theorem Hq.block (h : Hq w lo a n c vs) : (a = none ∧ n = 0 ∧ c = 0) ∨ ∃ g cur, a = some ⟨g, 0, none⟩ ∧ lo ≤ g ∧ Loc w g cur 70 ∧ n ≤ c ∧ c ≤ maxLen ∧ cur.size = c ∧ cur.toList.take n = vs.map sl := by
  rcases h.2.2 with ⟨h1, h2⟩ | ⟨g, cap, cur, h1, h2, h3, h4, h5, h6, h7⟩
  · cases h1; exact .inl ⟨rfl, rfl, rfl⟩
  · cases h1; exact .inr ⟨g, cur, rfl, h2, h3, h4, h5, by simpa using h6, by simpa using h7⟩
theorem Hq.hi (h : Hq w lo a n c vs) : ∀ g, a = some ⟨g, 0, none⟩ → g < w.heap.size := by
  intro g hg
  rcases h.block with ⟨h1, _⟩ | ⟨g', cur, h1, h2, h3, _⟩
  · rw [h1] at hg; cases hg
  · rw [h1] at hg; cases hg; exact h3.lt
theorem Hq.low (h : Hq w lo a n c vs) : ∀ g, a = some ⟨g, 0, none⟩ → lo ≤ g := by
  intro g hg
  rcases h.block with ⟨h1, _⟩ | ⟨g', cur, h1, h2, h3, _⟩
  · rw [h1] at hg; cases hg
  · rw [h1] at hg; cases hg; exact h2
theorem Hq.keep (h : Hq w lo a n c vs) (hk : ∀ g, a = some ⟨g, 0, none⟩ → g < w.heap.size → w'.heap[g]? = w.heap[g]?) : Hq w' lo a n c vs := by
  rcases h.block with ⟨h1, h2, h3⟩ | ⟨g, cur, h1, h2, h3, h4, h5, h6, h7⟩
  · subst h1 h2 h3
    have : vs = [] := List.eq_nil_of_length_eq_zero h.1
    subst this; exact Hq.nil _ _
  · subst h1
    exact ⟨h.1, ownsRowQ_mk h.1 h2 ((hk g rfl h3.lt).trans h3) h4 h5 h6 h7⟩
theorem Hq.below (h : Hq w lo a n c vs) (hb : Below w.heap.size w w') : Hq w' lo a n c vs := h.keep fun g _ hlt => hb.block g hlt
theorem Hq.alloc (h : Hq w lo a n c vs) (o : Obj) : Hq (w.alloc o) lo a n c vs := h.below ((Below.refl _ _).alloc (Nat.le_refl _) o)
theorem Hq.drewN (h : Hq w lo a n c vs) (k : Nat) : Hq (w.drewN k) lo a n c vs := h.keep fun _ _ _ => rfl
theorem Hq.mono {lo' : Nat} (h : Hq w lo a n c vs) (hl : lo' ≤ lo) : Hq w lo' a n c vs := by
  rcases h.block with ⟨h1, h2, h3⟩ | ⟨g, cur, h1, h2, h3, h4, h5, h6, h7⟩
  · subst h1 h2 h3
    have : vs = [] := List.eq_nil_of_length_eq_zero h.1
    subst this; exact Hq.nil _ _
  · subst h1; exact ⟨h.1, ownsRowQ_mk h.1 (Nat.le_trans hl h2) h3 h4 h5 h6 h7⟩
theorem Hq.marked (h : Hq w lo a n c vs) {S : Nat → Prop} (hm : Marked S w w') (hS : ∀ g, a = some ⟨g, 0, none⟩ → ¬ S g) : Hq w' lo a n c vs := h.keep fun g hg hlt => hm.block g hlt (hS g hg)
theorem Hq.read (h : Hq w lo a n c vs) : HdR w a n vs := by
  refine ⟨h.1, fun i hi => ?_⟩
  rcases h.block with ⟨h1, h2, h3⟩ | ⟨g, cur, h1, h2, h3, h4, h5, h6, h7⟩
  · omega
  · refine ⟨g, 0, h1, h3.lt, ?_⟩
    rw [Nat.zero_add]
    refine h3.cell i ?_
    have hx : (cur.toList.take n)[i]? = (vs.map sl)[i]? := by rw [h7]
    have hxi : i < vs.length := by have := h.1; omega
    rw [List.getElem?_take, if_pos hi] at hx
    simp [List.getElem?_eq_getElem hxi] at hx
    simp [List.getD_eq_getElem?_getD, List.getElem?_eq_getElem hxi, hx]
end
theorem Hq.fresh (w : World) {b : Nat} (hb : b = w.heap.size) : Hq (w.alloc (.cells #[] 70)) w.heap.size (some ⟨b, 0, none⟩) 0 0 [] :=
  ⟨rfl, ownsRowQ_mk rfl (by omega) (Loc.new _ hb _ _) (Nat.le_refl _) (by unfold maxLen; omega) rfl rfl⟩
theorem wp_appQ {o : Oper} {a : Act} {K : Act → World → Prop} {Q : Exit → Act → World → Prop} {w : World} {s x : Operand}
    (ho : o.op = .call { callee := .builtin .append, args := #[s, x], argTypes := #[97, 97] }) {lo : Nat} {ad : Option Addr} {n c : Nat} {vs : List SV} (hown : Hq w lo ad n c vs) (hs : a.eval s = .slice ad n c)
    {ad2 : Option Addr} {m c2 : Nat} {us : List SV} (hr : HdR w ad2 m us) (hx : a.eval x = .slice ad2 m c2) (hlen : n + m ≤ 1000000000000) (hlo : lo ≤ w.heap.size)
    (h : ∀ ad' c' w', Hq w' lo ad' (n + m) c' (vs ++ us) → w.grownBy w' (Value.slice ad n c).ownBlock → Below lo w w' → K (a.put o.dst (.slice ad' (n + m) c')) w') :
    o.wp Tryz.prog a w K Q := by
  obtain ⟨i0, hi, hz0, hz1, hz2⟩ := info_parts info_qs
  obtain ⟨hn, hw⟩ := hown
  cases ad2 with
  | none =>
    obtain ⟨rfl, rfl⟩ := hr.none_nil
    have hrun := run_append_none_any (P := Tryz.prog) w lo 97 o.type 70 i0 1 und_qs hi _ n c2 _ hw
    unfold Oper.wp
    simp [execOp, ho, resolve, invoke, builtin, hs, hx, hrun, Result.andThen]
    have hh := h ad c w ⟨by simpa using hn, by simpa using hw⟩ (World.grownBy.refl _ _) (Below.refl _ _)
    exact hh
  | some p =>
    refine wp_append_own _ s x 97 ho lo 70 i0 (.slice none 0 0) 1 24 und_qs hi hz0 hz1 hz2 rfl (by decide) _ n (vs.map sl) hs hw p m c2 (us.map sl) hx (by simp [hr.1]) ?_ ?_ ?_ ?_ hlo ?_
    · intro j u hj
      have hjm : j < m := by
        have := (List.getElem?_eq_some_iff.1 hj).1
        rw [List.length_map] at this; have := hr.1; omega
      obtain ⟨b, off, h1, _, h2⟩ := hr.2 j hjm
      cases h1
      have e : (⟨b, off, none⟩ : Addr).add j = ⟨b, off + j, none⟩ := by unfold Addr.add; split <;> simp_all
      have hjy : j < us.length := by have := hr.1; omega
      rw [e, h2, ← hj]
      simp [List.getD_eq_getElem?_getD, List.getElem?_eq_getElem hjy]
    · intro u hu
      rw [List.mem_map] at hu
      obtain ⟨y, _, rfl⟩ := hu; rfl
    · unfold maxLen; omega
    · omega
    · intro v' w' ho' hg hv'
      have hb : Below lo w w' := (Below.refl _ _).grown hg hlo (fun k hk => (World.ownsRow.lt hw k hk).1)
      have ho2 := ho'
      obtain ⟨hl, h2⟩ := ho'
      rcases h2 with ⟨rfl, h2⟩ | ⟨g, cap, cur, rfl, h2⟩
      · have hn0 : n = 0 := by omega
        have hm0 : m = 0 := by omega
        subst hn0 hm0
        have hx0 : vs = [] := List.eq_nil_of_length_eq_zero hn
        have hy0 : us = [] := List.eq_nil_of_length_eq_zero hr.1
        subst hx0 hy0
        exact h none 0 w' (Hq.nil _ _) hg hb
      · exact h _ _ w' ⟨by simp [hn, hr.1], by simpa using ho2⟩ hg hb
theorem appQ {ops : Array Oper} {rest : List Oper} {o : Oper} {a : Act} {Q : Exit → Act → World → Prop} {w : World} (hgd : o.guard = none) {s x : Operand}
    (ho : o.op = .call { callee := .builtin .append, args := #[s, x], argTypes := #[97, 97] }) {lo : Nat} {ad : Option Addr} {n c : Nat} {vs : List SV} (hown : Hq w lo ad n c vs) (hs : a.eval s = .slice ad n c)
    {ad2 : Option Addr} {m c2 : Nat} {us : List SV} (hr : HdR w ad2 m us) (hx : a.eval x = .slice ad2 m c2) (hlen : n + m ≤ 1000000000000) (hlo : lo ≤ w.heap.size)
    (h : ∀ ad' c' w', Hq w' lo ad' (n + m) c' (vs ++ us) → w.grownBy w' (Value.slice ad n c).ownBlock → Below lo w w' → wpList Tryz.prog ops Q rest (a.put o.dst (.slice ad' (n + m) c')) w') :
    wpList Tryz.prog ops Q (o :: rest) a w :=
  wpList_plain hgd fun _ hK => wp_appQ ho hown hs hr hx hlen hlo fun _ _ _ h1 h2 h3 => hK _ _ (h _ _ _ h1 h2 h3)
theorem wp_appQ1 {o : Oper} {a : Act} {K : Act → World → Prop} {Q : Exit → Act → World → Prop} {w : World} {s x : Operand}
    (ho : o.op = .call { callee := .builtin .append, args := #[s, x], argTypes := #[97, 97] }) {lo : Nat} {ad : Option Addr} {n c : Nat} {vs : List SV} (hown : Hq w lo ad n c vs) (hs : a.eval s = .slice ad n c)
    {va : Option Addr} {vn vc : Nat} {t : TypeId} (hx : a.eval x = .slice (some ⟨w.heap.size, 0, none⟩) 1 1) (hlen : n + 1 ≤ 1000000000000) (hlo : lo ≤ w.heap.size)
    (h : ∀ g c' w', Hq w' lo (some ⟨g, 0, none⟩) (n + 1) c' (vs ++ [(va, vn, vc)]) → w.grownBy w' (Value.slice ad n c).ownBlock → ((Value.slice ad n c).ownBlock = some g ∨ w.heap.size ≤ g) → Below lo w w' → K (a.put o.dst (.slice (some ⟨g, 0, none⟩) (n + 1) c')) w') :
    Oper.wp Tryz.prog o a (w.alloc (.cells #[.slice va vn vc] t)) K Q := by
  obtain ⟨i0, hi, hz0, hz1, hz2⟩ := info_parts info_qs
  refine wp_append_lies _ s x 97 ho lo 70 i0 (.slice none 0 0) 1 24 und_qs hi hz0 hz1 hz2 rfl (by decide) _ n (vs.map sl) hs (hown.2.alloc _) ⟨w.heap.size, 0, none⟩ 1 1 [.slice va vn vc] hx rfl (cell_one_new _ _ _) ?_ (by omega) ?_ ?_ ?_ (w.heap.size + 1) (by simp) ?_
  · intro u hu; simp at hu; subst hu; rfl
  · unfold maxLen; omega
  · omega
  · simp; omega
  · intro g cap w' ho' hg hat hlt
    have hg' : w.grownBy w' (Value.slice ad n c).ownBlock := by
      have h1 := World.grownBy_alloc w (.cells #[.slice va vn vc] t) (Value.slice ad n c).ownBlock
      exact ⟨hg.os.trans h1.os, hg.tape.trans h1.tape, hg.output.trans h1.output, Nat.le_trans h1.size hg.size, fun k hk hn => (hg.block k (Nat.lt_of_lt_of_le hk h1.size) hn).trans (h1.block k hk hn)⟩
    have hat' : (Value.slice ad n c).ownBlock = some g ∨ w.heap.size ≤ g := by
      rcases hat with hat | hat
      · exact .inl hat
      · exact .inr (by omega)
    exact h g cap w' ⟨by simp [hown.1], by simpa [sl] using ho'⟩ hg' hat' ((Below.refl _ _).grown hg' hlo (fun k hk => (World.ownsRow.lt hown.2 k hk).1))
theorem appQ1 {ops : Array Oper} {rest : List Oper} {o : Oper} {a : Act} {Q : Exit → Act → World → Prop} {w : World} (hgd : o.guard = none) {s x : Operand}
    (ho : o.op = .call { callee := .builtin .append, args := #[s, x], argTypes := #[97, 97] }) {lo : Nat} {ad : Option Addr} {n c : Nat} {vs : List SV} (hown : Hq w lo ad n c vs) (hs : a.eval s = .slice ad n c)
    {va : Option Addr} {vn vc : Nat} {t : TypeId} (hx : a.eval x = .slice (some ⟨w.heap.size, 0, none⟩) 1 1) (hlen : n + 1 ≤ 1000000000000) (hlo : lo ≤ w.heap.size)
    (h : ∀ g c' w', Hq w' lo (some ⟨g, 0, none⟩) (n + 1) c' (vs ++ [(va, vn, vc)]) → w.grownBy w' (Value.slice ad n c).ownBlock → ((Value.slice ad n c).ownBlock = some g ∨ w.heap.size ≤ g) → Below lo w w' → wpList Tryz.prog ops Q rest (a.put o.dst (.slice (some ⟨g, 0, none⟩) (n + 1) c')) w') :
    wpList Tryz.prog ops Q (o :: rest) a (w.alloc (.cells #[.slice va vn vc] t)) :=
  wpList_plain hgd fun _ hK => wp_appQ1 ho hown hs hx hlen hlo fun g c' w' a b c d => hK _ _ (h g c' w' a b c d)
theorem Hq.one (w : World) {b : Nat} (hb : b = w.heap.size) (v : SV) : Hq (w.alloc (.cells #[.slice v.1 v.2.1 v.2.2] 70)) w.heap.size (some ⟨b, 0, none⟩) 1 1 [v] :=
  ⟨rfl, ownsRowQ_mk rfl (by omega) (Loc.new _ hb _ _) (Nat.le_refl _) (by unfold maxLen; omega) rfl rfl⟩
theorem HdR.take {w : World} {a : Option Addr} {n k : Nat} {vs : List SV} (h : HdR w a n vs) (hk : k ≤ n) : HdR w a k (vs.take k) := by
  refine ⟨by rw [List.length_take]; have := h.1; omega, fun i hi => ?_⟩
  obtain ⟨b, off, h1, h2, h3⟩ := h.2 i (by omega)
  exact ⟨b, off, h1, h2, by rw [h3]; simp [List.getD_eq_getElem?_getD, List.getElem?_take, hi]⟩
theorem HdR.drop {w : World} {b off n k : Nat} {vs : List SV} (h : HdR w (some ⟨b, off, none⟩) n vs) (hk : k ≤ n) : HdR w (some ⟨b, off + k, none⟩) (n - k) (vs.drop k) := by
  refine ⟨by rw [List.length_drop]; have := h.1; omega, fun i hi => ?_⟩
  obtain ⟨b', off', h1, h2, h3⟩ := h.2 (k + i) (by omega)
  cases h1
  exact ⟨b, off + k, rfl, h2, by rw [Nat.add_assoc, h3]; simp [List.getD_eq_getElem?_getD, List.getElem?_drop]⟩
theorem HdR.nil {w : World} (a : Option Addr) : HdR w a 0 [] := ⟨rfl, fun i h => absurd h (by omega)⟩
structure LstQ (w : World) (a : Option Addr) (n : Nat) (vs : List SV) (L : List (List (List (List Int)))) : Prop where
  hd : HdR w a n vs
  len : n = L.length
  el : ∀ i, i < n → TbS w (vs.getD i svO).1 (vs.getD i svO).2.1 (L.getD i []) ∧ (vs.getD i svO).2.1 ≤ 9223372036854775807
theorem LstQ.below {w w' : World} {a : Option Addr} {n : Nat} {vs : List SV} {L : List (List (List (List Int)))} (h : LstQ w a n vs L) (hb : Below w.heap.size w w') : LstQ w' a n vs L :=
  ⟨h.hd.below hb, h.len, fun i hi => ⟨(h.el i hi).1.below hb, (h.el i hi).2⟩⟩
def insQ (A : List (List (List Int))) (L : List (List (List (List Int)))) : List (List (List (List Int))) := L.takeWhile (fun t => befS t A) ++ A :: L.dropWhile (fun t => befS t A)
theorem insQ_at {A : List (List (List Int))} {L : List (List (List (List Int)))} {k : Nat} (hk : k ≤ L.length) (h1 : ∀ i, i < k → befS (L.getD i []) A = true) (h2 : k = L.length ∨ befS (L.getD k []) A = false) : insQ A L = L.take k ++ A :: L.drop k := by
  induction L generalizing k with
  | nil => simp at hk; subst hk; rfl
  | cons t L ih =>
    cases k with
    | zero =>
      rcases h2 with h2 | h2
      · simp at h2
      · have : befS t A = false := by simpa using h2
        simp [insQ, this]
    | succ k =>
      have h0 : befS t A = true := by simpa using h1 0 (by omega)
      have := ih (k := k) (by simpa using hk) (fun i hi => by simpa using h1 (i + 1) (by omega)) (by rcases h2 with h2 | h2; exact .inl (by simpa using h2); exact .inr (by simpa using h2))
      unfold insQ at this ⊢
      simp [h0, this]
def Shp (m n : Nat) (A : List (List (List Int))) : Prop := A.length = m ∧ ∀ k, k < m → (A.getD k []).length = n
theorem finQ {m N k lo c8 n8 : Nat} {a aa ad : Option Addr} {ca : Nat} {vs : List SV} {L : List (List (List (List Int)))} {A : List (List (List Int))} {w w8 : World} (h : LstQ w a N vs L) (hA : TbS w aa m A) (hb : Below w.heap.size w w8)
    (hO : Hq w8 lo ad n8 c8 ([] ++ vs.take k ++ ([(aa, m, ca)] ++ vs.drop k))) (hk : k ≤ N) (e : insQ A L = L.take k ++ A :: L.drop k) (hl : (insQ A L).length = N + 1) (hm : m ≤ 9223372036854775807) :
    ∃ g, ad = some ⟨g, 0, none⟩ ∧ N + 1 ≤ c8 ∧ c8 ≤ 9223372036854775807 ∧ LstQ w8 (some ⟨g, 0, none⟩) (N + 1) (vs.take k ++ (aa, m, ca) :: vs.drop k) (insQ A L) := by
  have hvl := h.hd.1
  have hLl := h.len
  have hn : n8 = N + 1 := by rw [← hO.1]; simp; omega
  subst hn
  rcases hO.block with ⟨h1, h2, _⟩ | ⟨g, cur, h1, h2, h3, h4, h5, h6, h7⟩
  · omega
  · subst h1
    refine ⟨g, rfl, h4, by unfold maxLen at h5; omega, ⟨by simpa using hO.read, hl.symm, fun i hi => ?_⟩⟩
    rw [e]
    have tk : (vs.take k).length = k := by rw [List.length_take]; omega
    have tL : (L.take k).length = k := by rw [List.length_take]; omega
    rcases Nat.lt_trichotomy i k with hik | hik | hik
    · have e1 : (vs.take k ++ (aa, m, ca) :: vs.drop k).getD i svO = vs.getD i svO := by
        rw [List.getD_eq_getElem?_getD, List.getElem?_append_left (by omega), List.getElem?_take, if_pos hik, List.getD_eq_getElem?_getD]
      have e2 : (L.take k ++ A :: L.drop k).getD i [] = L.getD i [] := by
        rw [List.getD_eq_getElem?_getD, List.getElem?_append_left (by omega), List.getElem?_take, if_pos hik, List.getD_eq_getElem?_getD]
      rw [e1, e2]
      exact ⟨(h.el i (by omega)).1.below hb, (h.el i (by omega)).2⟩
    · subst hik
      have e1 : (vs.take i ++ (aa, m, ca) :: vs.drop i).getD i svO = (aa, m, ca) := by
        rw [List.getD_eq_getElem?_getD, List.getElem?_append_right (by omega), tk, Nat.sub_self]; rfl
      have e2 : (L.take i ++ A :: L.drop i).getD i [] = A := by
        rw [List.getD_eq_getElem?_getD, List.getElem?_append_right (by omega), tL, Nat.sub_self]; rfl
      rw [e1, e2]
      exact ⟨hA.below hb, hm⟩
    · obtain ⟨j, rfl⟩ : ∃ j, i = k + 1 + j := ⟨i - k - 1, by omega⟩
      have e1 : (vs.take k ++ (aa, m, ca) :: vs.drop k).getD (k + 1 + j) svO = vs.getD (k + j) svO := by
        rw [List.getD_eq_getElem?_getD, List.getElem?_append_right (by omega), tk, show k + 1 + j - k = j + 1 by omega, List.getElem?_cons_succ, List.getElem?_drop, List.getD_eq_getElem?_getD]
      have e2 : (L.take k ++ A :: L.drop k).getD (k + 1 + j) [] = L.getD (k + j) [] := by
        rw [List.getD_eq_getElem?_getD, List.getElem?_append_right (by omega), tL, show k + 1 + j - k = j + 1 by omega, List.getElem?_cons_succ, List.getElem?_drop, List.getD_eq_getElem?_getD]
      rw [e1, e2]
      exact ⟨(h.el (k + j) (by omega)).1.below hb, (h.el (k + j) (by omega)).2⟩
set_option maxHeartbeats 8000000 in
theorem l19Sort_any (m n N c : Nat) (a aa : Option Addr) (ca : Nat) (vs : List SV) (L : List (List (List (List Int)))) (A : List (List (List Int))) (w : World) (h : LstQ w a N vs L) (hc : N ≤ c) (hc2 : c ≤ 9223372036854775807) (hsome : ∃ b off, a = some ⟨b, off, none⟩) (hA : TbS w aa m A) (hN : N ≤ 1000000) (hm : m ≤ 1000000) (hL : ∀ i, i < N → Shp m n (L.getD i [])) (hSA : Shp m n A) :
    Calls Tryz.prog 85 #[.slice a N c, .slice aa m ca] w fun e w' => ∃ g c' vs', e = .returned (.slice (some ⟨g, 0, none⟩) (N + 1) c') ∧ N + 1 ≤ c' ∧ c' ≤ 9223372036854775807 ∧ LstQ w' (some ⟨g, 0, none⟩) (N + 1) vs' (insQ A L) ∧ Below w.heap.size w w' := by
  obtain ⟨b, off, rfl⟩ := hsome
  have HLL := Lib.hid h.len; have HL := Lib.hid hL; have HSA := Lib.hid hSA
  clear hL hSA
  go_enter Tryz.func85, Tryz.ntmps85
  go_wp2
  go_loopw [5] (fun i wr => ∃ k : Nat, k ≤ N ∧ i = .int .i64 k ∧ Hid (∀ i, i < k → befS (L.getD i []) A = true) ∧ Below w.heap.size w wr) (fun i _ => N - (intOf i).toNat)
  case atStart => exact ⟨0, Nat.zero_le _, rfl, Lib.hid (fun i hi => absurd hi (by omega)), Below.refl _ _⟩
  case round =>
    obtain ⟨k, hk, rfl, HK, hq⟩ := hrel
    have hd := h.hd.below hq
    have hEnd : Hid ((k = N ∨ befS (L.getD k []) A = false) → insQ A L = L.take k ++ A :: L.drop k) := Lib.hid fun h2 => insQ_at (by have := HLL.out; omega) HK.out (by rcases h2 with h2 | h2; exact .inl (by have := HLL.out; omega); exact .inr h2)
    by_cases hlt : k < N
    · obtain ⟨b', off', e', _, g1⟩ := hd.2 k hlt
      cases e'
      obtain ⟨hel, hel2⟩ := h.el k hlt
      obtain ⟨⟨va, vn, vc⟩, HV⟩ : ∃ v, Hid (vs.getD k svO = v) := ⟨_, rfl⟩
      rw [HV.out] at g1 hel hel2
      change wr.cell? _ = some (.slice va vn vc) at g1
      have hshp := HL.out k hlt
      obtain ⟨T, HT⟩ : ∃ T, Hid (L.getD k [] = T) := ⟨_, rfl⟩
      rw [HT.out] at hel hshp
      obtain rfl : m = vn := by have := hel.len; rw [hshp.1] at this; exact this.symm
      have HLN : Hid (∀ k, k < m → (T.getD k []).length ≤ (A.getD k []).length) := Lib.hid fun k hk => by rw [hshp.2 k hk, HSA.out.2 k hk]; exact Nat.le_refl _
      have hTb := TbS.below hel hq
      have hAb := hA.below hq
      have i1 : (0 : Int) ≤ (k : Int) := by omega
      have i2 : (k : Int) < (N : Int) := by omega
      obtain ⟨B, HB⟩ : ∃ B, Hid (befS T A = B) := ⟨_, rfl⟩
      clear hshp hel
      cases B with
      | true =>
        have HKN : Hid (∀ i, i < k + 1 → befS (L.getD i []) A = true) := Lib.hid (step_lt HK.out (by rw [HT.out, HB.out]))
        go_wp2_with fail
        refine (l03Before_any _ _ _ _ _ _ _ _ _ hTb hAb (Nat.le_refl _) (by omega) HLN.out).mono ?_
        rintro e w5 ⟨rfl, hw5⟩
        rw [HB.out]
        have hq5 : Below w.heap.size w w5 := by obtain ⟨k, hk⟩ := hw5; rw [hk]; exact below_drewN hq k
        clear hw5
        go_wp2
        go_roundw
        case rel => exact ⟨k + 1, by omega, by go_num, HKN, hq5⟩
        case measure => simp [intOf]; omega
      | false =>
        have HIN : Hid (insQ A L = L.take k ++ A :: L.drop k) := Lib.hid (hEnd.out (.inr (by rw [HT.out, HB.out])))
        go_wp2_with fail
        refine (l03Before_any _ _ _ _ _ _ _ _ _ hTb hAb (Nat.le_refl _) (by omega) HLN.out).mono ?_
        rintro e w5 ⟨rfl, hw5⟩
        rw [HB.out]
        have hq5 : Below w.heap.size w w5 := by obtain ⟨k, hk⟩ := hw5; rw [hk]; exact below_drewN hq k
        clear hw5 g1 hTb hAb
        have hd5 := h.hd.below hq5
        have hlit := Hq.one w5 rfl (aa, m, ca)
        have hdr := (hd5.drop hk).alloc (.cells #[.slice aa m ca] 70)
        have hA5 := hA.below hq5
        go_wp2_with (at_builtin; first
          | (refine appQ rfl rfl hlit rfl hdr rfl (by omega) (by simp) ?_; intro ad1 cc1 w6 hO1 hg1 hb1; have hb15 : Below w5.heap.size w5 w6 := (below_al (Below.refl _ _) _).trans hb1; have hd6 := ((hd5.take hk).below hb15).alloc (.cells #[] 70); have hz6 := hb15.size)
          | (refine appQ rfl rfl (Hq.fresh w6 rfl) rfl hd6 rfl (by omega) (by simp) ?_; intro ad2 cc2 w7 hO2 hg2 hb2; rw [Nat.zero_add] at hO2 ⊢; have hb26 : Below w6.heap.size w6 w7 := (below_al (Below.refl _ _) _).trans hb2; have hO17 := (hO1.below hb26).read; have hz7 := hb26.size)
          | (refine appQ rfl rfl hO2 rfl hO17 rfl (by omega) hz7 ?_; intro ad3 cc3 w8 hO3 hg3 hb3))
        have hb57 : Below w5.heap.size w5 w8 := hb15.trans ((hb26.mono hz6).trans (hb3.mono hz6))
        have hfin := finQ (h.below hq5) (hA.below hq5) hb57 hO3 hk HIN.out (by rw [HIN.out]; simp; have := HLL.out; omega) (by omega)
        obtain ⟨g8, rfl, hn8, hc8, hl8⟩ := hfin
        go_ret
        exact ⟨g8, cc3, _, by show Ending.returned (.slice _ (k + (1 + (N - k))) _) = _; rw [show k + (1 + (N - k)) = N + 1 by omega], hn8, hc8, hl8, hq5.trans (hb57.mono hq5.size)⟩
    · obtain rfl : N = k := by omega
      have HIN : Hid (insQ A L = L.take N ++ A :: L.drop N) := Lib.hid (hEnd.out (.inl rfl))
      have hvd : vs.drop N = [] := by rw [List.drop_of_length_le (by have := h.hd.1; omega)]
      have hdX : ∀ X, HdR (wr.alloc (.cells #[.slice aa m ca] 70)) X 0 (vs.drop N) := fun X => by rw [hvd]; exact HdR.nil _
      have hlit := Hq.one wr rfl (aa, m, ca)
      have hkk : N ≤ N := Nat.le_refl _
      have hzr := hq.size
      have i3 : (N : Int) ≤ (N : Int) := by omega
      have i4 : (0 : Int) ≤ (N : Int) := by omega
      have hdL := h.hd.below hq
      have HHQ := Lib.hid h
      clear hvd h
      by_cases hcN : c = N
      · subst hcN
        go_wp2_with (at_builtin; first
          | (refine appQ rfl rfl hlit rfl (hdX _) rfl (by omega) (by simp) ?_; intro ad1 cc1 w6 hO1 hg1 hb1; have hb15 : Below wr.heap.size wr w6 := (below_al (Below.refl _ _) _).trans hb1; have hd6 := ((hdL.take hkk).below hb15).alloc (.cells #[] 70); have hz6 := hb15.size)
          | (refine appQ rfl rfl (Hq.fresh w6 rfl) rfl hd6 rfl (by omega) (by simp) ?_; intro ad2 cc2 w7 hO2 hg2 hb2; rw [Nat.zero_add] at hO2 ⊢; have hb26 : Below w6.heap.size w6 w7 := (below_al (Below.refl _ _) _).trans hb2; have hO17 := (hO1.below hb26).read; have hz7 := hb26.size)
          | (refine appQ rfl rfl hO2 rfl hO17 rfl (by omega) hz7 ?_; intro ad3 cc3 w8 hO3 hg3 hb3))
        have hb57 : Below wr.heap.size wr w8 := hb15.trans ((hb26.mono hz6).trans (hb3.mono hz6))
        have hfin := finQ (HHQ.out.below hq) (hA.below hq) hb57 hO3 hkk HIN.out (by rw [HIN.out]; simp; have := HLL.out; omega) (by omega)
        obtain ⟨g8, rfl, hn8, hc8, hl8⟩ := hfin
        go_ret
        exact ⟨g8, cc3, rfl, hn8, hc8, ⟨_, hl8⟩, hq.trans (hb57.mono hq.size)⟩
      · go_wp2_with (at_builtin; first
          | (refine appQ rfl rfl hlit rfl (hdX _) rfl (by omega) (by simp) ?_; intro ad1 cc1 w6 hO1 hg1 hb1; have hb15 : Below wr.heap.size wr w6 := (below_al (Below.refl _ _) _).trans hb1; have hd6 := ((hdL.take hkk).below hb15).alloc (.cells #[] 70); have hz6 := hb15.size)
          | (refine appQ rfl rfl (Hq.fresh w6 rfl) rfl hd6 rfl (by omega) (by simp) ?_; intro ad2 cc2 w7 hO2 hg2 hb2; rw [Nat.zero_add] at hO2 ⊢; have hb26 : Below w6.heap.size w6 w7 := (below_al (Below.refl _ _) _).trans hb2; have hO17 := (hO1.below hb26).read; have hz7 := hb26.size)
          | (refine appQ rfl rfl hO2 rfl hO17 rfl (by omega) hz7 ?_; intro ad3 cc3 w8 hO3 hg3 hb3))
        have hb57 : Below wr.heap.size wr w8 := hb15.trans ((hb26.mono hz6).trans (hb3.mono hz6))
        have hfin := finQ (HHQ.out.below hq) (hA.below hq) hb57 hO3 hkk HIN.out (by rw [HIN.out]; simp; have := HLL.out; omega) (by omega)
        obtain ⟨g8, rfl, hn8, hc8, hl8⟩ := hfin
        go_ret
        exact ⟨g8, cc3, rfl, hn8, hc8, ⟨_, hl8⟩, hq.trans (hb57.mono hq.size)⟩
def revK (xs : List Int) (k : Nat) : List Int := (List.range xs.length).map fun i => if i < k ∨ xs.length ≤ i + k then xs.getD (xs.length - 1 - i) 0 else xs.getD i 0
theorem revK_len (xs : List Int) (k : Nat) : (revK xs k).length = xs.length := by simp [revK]
theorem revK_getD (xs : List Int) (k i : Nat) (h : i < xs.length) : (revK xs k).getD i 0 = if i < k ∨ xs.length ≤ i + k then xs.getD (xs.length - 1 - i) 0 else xs.getD i 0 := by
  simp [revK, List.getD_eq_getElem?_getD, List.getElem?_map, h]
theorem getD_ext {xs ys : List Int} (hl : xs.length = ys.length) (h : ∀ i, i < xs.length → xs.getD i 0 = ys.getD i 0) : xs = ys := by
  refine List.ext_getElem hl fun i h1 h2 => ?_
  have := h i h1
  simpa [List.getD_eq_getElem?_getD, h1, h2] using this
theorem revK_zero (xs : List Int) : revK xs 0 = xs := by
  refine getD_ext (by rw [revK_len]) fun i hi => ?_
  rw [revK_len] at hi
  rw [revK_getD _ _ _ hi, if_neg (by omega)]
theorem revK_end (xs : List Int) (k : Nat) (h : xs.length ≤ 2 * k + 1) : revK xs k = xs.reverse := by
  refine getD_ext (by rw [revK_len, List.length_reverse]) fun i hi => ?_
  rw [revK_len] at hi
  rw [revK_getD _ _ _ hi]
  have e : xs.reverse.getD i 0 = xs.getD (xs.length - 1 - i) 0 := by
    simp [List.getD_eq_getElem?_getD, List.getElem?_reverse hi]
  rw [e]
  by_cases hc : i < k ∨ xs.length ≤ i + k
  · rw [if_pos hc]
  · rw [if_neg hc]
    have : xs.length - 1 - i = i := by omega
    rw [this]
theorem getD_set (xs : List Int) (j i : Nat) (x : Int) (h : i < xs.length) : (xs.set j x).getD i 0 = if i = j then x else xs.getD i 0 := by
  simp only [List.getD_eq_getElem?_getD, List.getElem?_set]
  by_cases e : i = j
  · subst e; simp [h]
  · rw [if_neg e, if_neg (fun h => e h.symm)]
theorem revK_step (xs : List Int) (k : Nat) (h : 2 * k + 1 < xs.length) :
    ((revK xs k).set k (xs.getD (xs.length - 1 - k) 0)).set (xs.length - 1 - k) (xs.getD k 0) = revK xs (k + 1) := by
  refine getD_ext (by simp [revK_len]) fun i hi => ?_
  simp [revK_len] at hi
  rw [getD_set _ _ _ _ (by simpa [revK_len] using hi), getD_set _ _ _ _ (by simpa [revK_len] using hi), revK_getD _ _ _ hi, revK_getD _ _ _ hi]
  by_cases h1 : i = xs.length - 1 - k
  · subst h1
    rw [if_pos rfl, if_pos (by omega)]
    congr 1; omega
  · rw [if_neg h1]
    by_cases h2 : i = k
    · subst h2
      rw [if_pos rfl, if_pos (by omega)]
    · rw [if_neg h2]
      by_cases h3 : i < k ∨ xs.length ≤ i + k
      · rw [if_pos h3, if_pos (by omega)]
      · rw [if_neg h3, if_neg (by omega)]
end Go.Proofs.YtaddclaadbjnlaaGreat
