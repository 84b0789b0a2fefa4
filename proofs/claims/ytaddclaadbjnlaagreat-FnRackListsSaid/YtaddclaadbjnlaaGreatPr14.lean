/-
  Walks and plain laws of this seat, some texts in one.
  No condition but bounds on lengths.
-/
import Derived.Test.YtaddclaadbjnlaaGreatPr13
import Derived.Test.YtaddclaadbjnlaaGreatPr10
import Derived.Test.YtaddclaadbjnlaaGreatPr4
import Derived.Test.YtaddclaadbjnlaaGreatPr5
import Derived.Test.YtaddclaadbjnlaaGreatPr11
import Derived.Test.YtaddclaadbjnlaaGreatPr8
namespace Go.Proofs.YtaddclaadbjnlaaGreat
set_option maxRecDepth 100000
set_option linter.unusedVariables false
set_option linter.unusedSimpArgs false
open Go.RowKit
theorem sq_tabF {n : Nat} {t : List (List Int)} (h : Sq n t) : tabF n (fun x y => (t.getD x []).getD y 0) = t := by
  apply List.ext_getElem
  · simp [tabF, h.1]
  · intro i h1 h2
    have hi : i < n := by simpa [tabF] using h1
    have hl := (h.2 i hi).1
    rw [List.getD_eq_getElem?_getD, List.getElem?_eq_getElem h2, Option.getD_some] at hl
    apply List.ext_getElem
    · simp [tabF, hl]
    · intro j h3 h4
      simp [tabF, List.getD_eq_getElem?_getD, List.getElem?_eq_getElem h2, List.getElem?_eq_getElem h4]
def imgI (t : List (List Int)) (p : List Int) (x y : Nat) : Int := p.getD (tv t x y) 0
def ImgK (n : Nat) (t : List (List Int)) (p : List Int) (V : Nat → Nat → Int) (x y : Nat) : Prop := ∀ x' y', x' < n → y' < n → (x' < x ∨ x' = x ∧ y' < y) → V (p.getD x' 0).toNat (p.getD y' 0).toNat = imgI t p x' y'
theorem ImgK.step {n : Nat} {t : List (List Int)} {p : List Int} {V : Nat → Nat → Int} {x y u v : Nat} (hP : IsP n p) (h : ImgK n t p V x y) (hx : x < n) (hy : y < n) (hu : (p.getD x 0).toNat = u) (hv : (p.getD y 0).toNat = v) : ImgK n t p (updQ V u v (imgI t p x y)) x (y + 1) := by
  obtain ⟨f, g, hl, h1, h2⟩ := hP
  have hf : ∀ i, i < n → (p.getD i 0).toNat = f i := fun i hi => by rw [h2 i hi, Int.toNat_natCast]
  have inj : ∀ i j, i < n → j < n → f i = f j → i = j := fun i j hi hj e => by rw [← (h1 i hi).2.2.2, ← (h1 j hj).2.2.2, e]
  intro x' y' hx' hy' hq
  unfold updQ
  by_cases e : x' = x ∧ y' = y
  · obtain ⟨rfl, rfl⟩ := e
    rw [if_pos ⟨hu, hv⟩]
  · rw [if_neg, h x' y' hx' hy' (by omega)]
    rintro ⟨e1, e2⟩
    rw [← hu, hf _ hx', hf _ hx] at e1
    rw [← hv, hf _ hy', hf _ hy] at e2
    exact e ⟨inj _ _ hx' hx e1, inj _ _ hy' hy e2⟩
theorem ImgK.next {n : Nat} {t : List (List Int)} {p : List Int} {V : Nat → Nat → Int} {x : Nat} (h : ImgK n t p V x n) : ImgK n t p V (x + 1) 0 := fun x' y' hx' hy' hq => h x' y' hx' hy' (by omega)
theorem backF_at {n : Nat} {p : List Int} (hP : IsP n p) : ∀ u, u < n → ∃ q : Nat, (backF p).getD u 0 = q ∧ q < n ∧ p.getD q 0 = u := by
  obtain ⟨f, g, hp⟩ := hP
  have hb := backK_get n p f g hp n (Nat.le_refl _)
  obtain ⟨hl, h1, h2⟩ := hp
  intro u hu
  refine ⟨g u, ?_, (h1 u hu).2.1, ?_⟩
  · unfold backF; rw [hl, hb u hu, if_pos (h1 u hu).2.1]
  · rw [h2 (g u) (h1 u hu).2.1, (h1 u hu).2.2.1]
theorem ImgK.done {n : Nat} {t : List (List Int)} {p : List Int} {V : Nat → Nat → Int} (hP : IsP n p) (h : ImgK n t p V n 0) : tabF n V = rnL n t p := by
  refine tabQ_congr fun u v hu hv => ?_
  obtain ⟨q, e1, h1, e2⟩ := backF_at hP u hu
  obtain ⟨r, e3, h3, e4⟩ := backF_at hP v hv
  have := h q r h1 h3 (.inl h1)
  rw [e2, e4, Int.toNat_natCast, Int.toNat_natCast] at this
  rw [this]
  unfold rnV imgI
  rw [e1, e3, Int.toNat_natCast, Int.toNat_natCast]
set_option maxHeartbeats 16000000 in
theorem l03Image_any (n : Nat) (at_ ap : Option Addr) (ct cp : Nat) (t : List (List Int)) (p : List Int) (w : World) (h1 : Tbl w at_ n t) (h2 : Row w ap n p) (hs : Sq n t) (hP : IsP n p) (hn0 : 1 ≤ n) (hn : n ≤ 12) :
    Calls Tryz.prog 108 #[.slice at_ n ct, .slice ap n cp] w fun e w' => ∃ a c vs, e = .returned (.slice a n c) ∧ OwnT w' w.heap.size a n c vs (rnL n t p) ∧ Below w.heap.size w w' := by
  have HP := Lib.hid hP
  have hlen : ∀ x ∈ t, x.length ≤ 1000000 := fun x hx => by
    obtain ⟨i, hi, rfl⟩ := List.getElem_of_mem hx
    have := (hs.2 i (by rw [← hs.1]; exact hi)).1
    rw [List.getD_eq_getElem?_getD, List.getElem?_eq_getElem hi] at this
    simp at this; omega
  have HS := Lib.hid hs; have HLEN := Lib.hid hlen
  clear hlen hs hP
  go_enter Tryz.func108, Tryz.ntmps108
  go_wp2_with fail
  refine (l01Own2_any _ _ _ t _ h1 (by omega) HLEN.out).mono ?_
  rintro e w1 ⟨a1, c1, vs1, rfl, ho1, hb1⟩
  rw [← sq_tabF HS.out] at ho1
  have hz1 := hb1.size
  obtain ⟨gm, rfl, _⟩ := ho1.cells (by omega)
  have HLO := Lib.hid ho1.uLo
  go_wp2
  go_loopw [6, 7] (fun i _ wr => ∃ (x : Nat) (V : Nat → Nat → Int), x ≤ n ∧ i = .int .i64 x ∧ OwnT wr w.heap.size (some ⟨gm, 0, none⟩) n c1 vs1 (tabF n V) ∧ Hid (ImgK n t p V x 0) ∧ Below w.heap.size w wr) (fun i _ _ => n - (intOf i).toNat)
  case atStart => exact ⟨0, _, Nat.zero_le _, rfl, ho1, Lib.hid (fun x' y' _ _ h => by omega), hb1⟩
  case round =>
    clear ho1
    obtain ⟨x, V, hx, rfl, ho, HV, hq⟩ := hrel
    by_cases hlt : x < n
    · go_wp2
      go_loopw [7] (fun j wr => ∃ (y : Nat) (V : Nat → Nat → Int), y ≤ n ∧ j = .int .i64 y ∧ OwnT wr w.heap.size (some ⟨gm, 0, none⟩) n c1 vs1 (tabF n V) ∧ Hid (ImgK n t p V x y) ∧ Below w.heap.size w wr) (fun j _ => n - (intOf j).toNat)
      case atStart => exact ⟨0, V, Nat.zero_le _, rfl, ho, HV, hq⟩
      case round =>
        clear ho hq
        obtain ⟨y, V, hy, rfl, ho, HV, hq⟩ := hrel
        by_cases hly : y < n
        · obtain ⟨b, off, A, O, C, rfl, G0⟩ := h1.grid HS.out (by omega)
          have G := (G0.below hq).look hlt hly
          obtain ⟨u, hu, hun⟩ := HP.out.at hlt
          obtain ⟨v, hv, hvn⟩ := HP.out.at hly
          obtain ⟨bp, op, rfl, gu⟩ := (h2.below hq).at x hlt
          obtain ⟨bp', op', e', gv⟩ := (h2.below hq).at y hly
          cases e'
          have hz := HS.out.lt hlt hly
          obtain ⟨z, HZ⟩ : ∃ z, Hid (tv t x y = z) := ⟨_, rfl⟩
          rw [HZ.out] at G hz
          obtain ⟨bp'', op'', e'', gz⟩ := (h2.below hq).at z hz
          cases e''
          obtain ⟨Z, HZZ⟩ : ∃ Z, Hid (p.getD z 0 = Z) := ⟨_, rfl⟩
          rw [HZZ.out] at gz
          rw [hu] at gu
          rw [hv] at gv
          obtain ⟨gm', g1, cg, e3, ev, r1, hc1, ht1⟩ := ho.spotQ hun
          cases e3
          have k1 := (hc1 v hvn).1
          have f1 := (hc1 v hvn).2
          have hput := ho.putQ hun hvn ev Z
          have HST : Hid (ImgK n t p (updQ V u v Z) x (y + 1)) := Lib.hid (by
            have := ImgK.step HP.out HV.out hlt hly (u := u) (v := v) (by rw [hu, Int.toNat_natCast]) (by rw [hv, Int.toNat_natCast])
            rw [show imgI t p x y = Z by unfold imgI; rw [HZ.out, HZZ.out]] at this
            exact this)
          have hg1 : w.heap.size ≤ g1 := HLO.out g1 ht1
          have HPUT := Lib.hid hput
          have i1 : (0 : Int) ≤ (x : Int) := by omega
          have i2 : (x : Int) < (n : Int) := by omega
          have i3 : (0 : Int) ≤ (y : Int) := by omega
          have i4 : (y : Int) < (n : Int) := by omega
          have i5 : (0 : Int) ≤ (u : Int) := by omega
          have i6 : (u : Int) < (n : Int) := by omega
          have i7 : (0 : Int) ≤ (v : Int) := by omega
          have i8 : (v : Int) < (n : Int) := by omega
          have i9 : (0 : Int) ≤ (z : Int) := by omega
          have i10 : (z : Int) < (n : Int) := by omega
          obtain ⟨G1, G2⟩ := G
          have hq8 : Below w.heap.size w wr.drew := hq.drew
          have hput8 : Hid (OwnT (wr.drew.setCell ⟨g1, v, none⟩ (.int .i64 Z)) w.heap.size (some ⟨gm, 0, none⟩) n c1 vs1 (tabF n (updQ V u v Z))) := Lib.hid (hput.drewN 1)
          clear hu hv hc1 hput ho hq HPUT
          go_wp2
          refine wp_region_still_tail 22 (by kernel_rfl) (by kernel_rfl) ?_
          change wpStill _ _ wr.drew (fun a' => wpList _ _ _ _ a' wr.drew) _ _
          have G18 : wr.drew.cell? _ = _ := G1
          have G28 : wr.drew.cell? _ = _ := G2
          have gu8 : wr.drew.cell? _ = _ := gu
          have gv8 : wr.drew.cell? _ = _ := gv
          have gz8 : wr.drew.cell? _ = _ := gz
          have r18 : wr.drew.cell? _ = _ := r1
          have k18 : wr.drew.cell? _ = _ := k1
          have f18 : wr.drew.frozen? ⟨g1, v, none⟩ = false := f1
          clear G1 G2 gu gv gz r1 k1 f1
          generalize wr.drew = w8 at *
          simp only [List.take_succ_cons, List.take_zero, List.drop_succ_cons, List.drop_zero]
          repeat still_step
          refine wpStill_nil ?_
          go_wp2
          go_roundw
          case rel => exact ⟨y + 1, _, by omega, by go_num, hput8.out, HST, below_setne hq8 hg1 _⟩
          case measure => simp [intOf]; omega
        · obtain rfl : n = y := by omega
          go_wp2
          go_roundw
          case rel => exact ⟨x + 1, V, by omega, by go_num, ho, Lib.hid HV.out.next, hq⟩
          case measure => simp [intOf]; omega
    · obtain rfl : n = x := by omega
      go_wp2
      go_ret
      exact ⟨_, _, _, rfl, by rw [← ImgK.done HP.out HV.out]; exact ho, hq⟩
end Go.Proofs.YtaddclaadbjnlaaGreat

namespace Go.Proofs.YtaddclaadbjnlaaGreat
set_option maxRecDepth 100000
set_option linter.unusedVariables false
set_option linter.unusedSimpArgs false
open Go.RowKit
theorem OwnTT.tbS {w : World} {lo : Nat} {a : Option Addr} {n c : Nat} {us : List TV} {ts : List (List (List Int))} (h : OwnTT w lo a n c us ts) : TbS w a n ts := by
  refine ⟨h.len, fun i hi => ?_⟩
  obtain ⟨g, h1, h2, h3, _⟩ := h.cells (by omega)
  have hv := h.tab i hi
  exact ⟨g, 0, _, _, _, h1, h2, by rw [Nat.zero_add]; exact h3 i hi, OwnT.tbl hv, by have := OwnT.cap hv; omega⟩
def imgL (n : Nat) (p : List Int) (us : List (List (List Int))) : List (List (List Int)) := us.map fun t => rnL n t p
def onlP (n : Nat) (us : List (List (List Int))) (p : List Int) : Bool := !befS (imgL n p us) us
def onlL (n : Nat) (ps : List (List Int)) (us : List (List (List Int))) : Bool := (List.range ps.length).all fun i => onlP n us (ps.getD i [])
theorem rnL_len (n : Nat) (t : List (List Int)) (p : List Int) : (rnL n t p).length = n := tabF_len _ _
theorem imgL_take {n : Nat} {p : List Int} {us : List (List (List Int))} {k : Nat} (h : k < us.length) : imgL n p (us.take (k + 1)) = imgL n p (us.take k) ++ [rnL n (us.getD k []) p] := by
  unfold imgL
  rw [List.take_succ_eq_append_getElem h, List.map_append]
  simp [List.getD_eq_getElem?_getD, List.getElem?_eq_getElem h]
set_option maxHeartbeats 8000000 in
theorem l19Own_any (n m P : Nat) (a1 a2 : Option Addr) (c1 c2 : Nat) (us : List (List (List Int))) (ps : List (List Int)) (w : World) (h1 : TbS w a1 m us) (h2 : Tbl w a2 P ps) (hn0 : 1 ≤ n) (hn : n ≤ 12) (hm : m ≤ 1000000) (hP : P ≤ 1000000)
    (hs : ∀ k, k < m → Sq n (us.getD k [])) (hps : ∀ i, i < P → IsP n (ps.getD i [])) :
    Calls Tryz.prog 84 #[.slice a1 m c1, .slice a2 P c2] w fun e w' => e = .returned (.bool (onlL n ps us)) ∧ Below w.heap.size w w' := by
  have HL1 := Lib.hid h1.len; have HL2 := Lib.hid h2.len; have HS := Lib.hid hs; have HPS := Lib.hid hps
  clear hs hps
  go_enter Tryz.func84, Tryz.ntmps84
  go_wp2
  go_loopw [5, 6, 7] (fun i _ _ wr => ∃ x : Nat, x ≤ P ∧ i = .int .i64 x ∧ Below w.heap.size w wr ∧ Hid (∀ x', x' < x → onlP n us (ps.getD x' []) = true)) (fun i _ _ _ => P - (intOf i).toNat)
  case atStart => exact ⟨0, Nat.zero_le _, rfl, Below.refl _ _, Lib.hid fun x' hx => absurd hx (by omega)⟩
  case round =>
    obtain ⟨x, hx, rfl, hq, HX⟩ := hrel
    by_cases hlt : x < P
    · have hwq := hq.size
      have hpx := HPS.out x hlt
      obtain ⟨p, HPP⟩ : ∃ p, Hid (ps.getD x [] = p) := ⟨_, rfl⟩
      rw [HPP.out] at hpx
      have HPX := Lib.hid hpx
      have i1 : (0 : Int) ≤ (x : Int) := by omega
      have i2 : (x : Int) < (P : Int) := by omega
      obtain ⟨w1, hw1⟩ : ∃ w1, wr.alloc (.cells #[] 32) = w1 := ⟨_, rfl⟩
      have hz1 : w1.heap.size = wr.heap.size + 1 := by rw [← hw1]; simp
      have hB1 : Below w.heap.size w w1 := by rw [← hw1]; exact below_al hq _
      obtain ⟨B0, hB0⟩ : ∃ B0, B0 = wr.heap.size := ⟨_, rfl⟩
      have hwB : w.heap.size ≤ B0 := by omega
      have hO1 : OwnTT w1 B0 (some ⟨wr.heap.size, 0, none⟩) 0 0 [] [] := by
        rw [← hw1, hB0]
        exact ⟨rfl, rfl, ownsRowT_mk rfl (Nat.le_refl _) (Loc.new wr rfl _ _) (Nat.le_refl _) (by unfold maxLen; omega) rfl rfl, fun i h => absurd h (by omega), fun i h => absurd h (by omega), fun i j h => absurd h (by omega)⟩
      clear hpx
      go_wp2
      go_loopw [6, 7] (fun s i wr2 => ∃ (k : Nat) (a' : Option Addr) (c' : Nat) (vs : List TV), k ≤ m ∧ i = .int .i64 k ∧ s = .slice a' k c' ∧ OwnTT wr2 B0 a' k c' vs (imgL n p (us.take k)) ∧ Below w.heap.size w wr2 ∧ B0 ≤ wr2.heap.size) (fun _ i _ => m - (intOf i).toNat)
      case atStart => exact ⟨0, _, 0, [], Nat.zero_le _, rfl, rfl, by simpa [imgL] using hO1, hB1, by omega⟩
      case round =>
        clear hO1 hB1 hz1 hw1 hq
        obtain ⟨k, a', c', vs, hk, rfl, rfl, hO, hq, hwz⟩ := hrel
        by_cases hlk : k < m
        · have h1r := h1.below hq
          have h2r := h2.below hq
          obtain ⟨b1, o1, at_, nt, ct, rfl, g1, t1, l1⟩ := h1r.at k hlk
          obtain ⟨b2, o2, ap, np, cp, rfl, g2, r2, l2⟩ := h2r.at x hlt
          rw [HPP.out] at r2
          obtain ⟨t, HT⟩ : ∃ t, Hid (us.getD k [] = t) := ⟨_, rfl⟩
          rw [HT.out] at t1
          have hsq : Sq n t := by rw [← HT.out]; exact HS.out k hlk
          obtain rfl : n = nt := by have := t1.len; rw [hsq.1] at this; exact this.symm
          obtain rfl : n = np := by have := r2.len; rw [HPX.out.len] at this; exact this.symm
          have HSQ := Lib.hid hsq
          have HIT : Hid (imgL n p (us.take (k + 1)) = imgL n p (us.take k) ++ [rnL n t p]) := Lib.hid (by rw [imgL_take (by have := HL1.out; omega), HT.out])
          have HOU := Lib.hid hO.uHi
          have HOB := Lib.hid (fun g (e : (Value.slice a' k c').ownBlock = some g) => hO.ownBlk e)
          have j1 : (0 : Int) ≤ (k : Int) := by omega
          have j2 : (k : Int) < (m : Int) := by omega
          have hO1 := hO.drewN 1
          have t1d := t1.drewN 1
          have r2d := r2.drewN 1
          clear hsq h1r h2r
          go_wp2
          go_region_law (first
            | (refine step_appTTn rfl rfl hO3 rfl ho3 HQ3.out rfl ?_ ?_ ?_; (omega); (omega); intro g' cc w8 hO8 hg8 hat8 hb8)
            | (go_simp; go_at_call 108; refine (l03Image_any n at_ ap ct cp t p _ t1d r2d HSQ.out HPX.out hn0 hn).mono ?_; rintro e w3 ⟨a3, c3, vs3, rfl, ho3', hb3⟩; have hz3 : B0 ≤ w3.heap.size := Nat.le_trans hwz hb3.size; have ho3 : OwnT w3 B0 a3 n c3 vs3 (rnL n t p) := ho3'.mono hwz; have hO3 := hO1.below hb3; have HQ3 : Hid (∀ q, TblS a3 n vs3 q → ¬ TTS a' k vs q) := Lib.hid (fun q h1 h2 => by have := ho3'.uLo q h1; have h4 := HOU.out q h2; have : wr.heap.size ≤ q := this; omega)))
          all_goals
            go_wp2
            go_roundw
            case rel => exact ⟨k + 1, _, cc, _, by omega, by go_num, rfl, by rw [HIT.out]; exact hO8, (below_drewN hq 1).trans ((hb3.mono (show w.heap.size ≤ (wr.drewN 1).heap.size by exact Nat.le_trans hwB hwz)).trans (hb8.mono hwB)), Nat.le_trans hz3 hb8.size⟩
            case measure => simp [intOf]; omega
        · obtain rfl : m = k := by omega
          have hE : us.take m = us := by rw [List.take_of_length_le (by have := HL1.out; omega)]
          rw [hE] at hO
          have hlens : ∀ k, k < m → ((imgL n p us).getD k []).length ≤ (us.getD k []).length := fun k hk => by
            have hk' : k < us.length := by have := HL1.out; omega
            have : (imgL n p us).getD k [] = rnL n (us.getD k []) p := by
              unfold imgL
              simp [List.getD_eq_getElem?_getD, List.getElem?_eq_getElem hk']
            rw [this, rnL_len, (HS.out k hk).1]; exact Nat.le_refl _
          have HLN := Lib.hid hlens
          obtain ⟨B, HB⟩ : ∃ B, Hid (befS (imgL n p us) us = B) := ⟨_, rfl⟩
          clear hE hlens
          cases B with
          | true =>
            have HC : Hid (onlL n ps us = false) := Lib.hid (rng_no (y := x) (by have := HL2.out; omega) (by unfold onlP; rw [HPP.out, HB.out]; rfl))
            go_wp2_with fail
            refine (l03Before_any _ _ _ _ _ _ _ _ _ hO.tbS (h1.below hq) (Nat.le_refl _) (by omega) HLN.out).mono ?_
            rintro e w5 ⟨rfl, hw5⟩
            rw [HB.out]
            go_wp2
            go_ret
            exact ⟨ret_bool HC.out.symm, by obtain ⟨k, hk⟩ := hw5; rw [hk]; exact below_drewN hq k⟩
          | false =>
            have HC : Hid (onlP n us (ps.getD x []) = true) := Lib.hid (by unfold onlP; rw [HPP.out, HB.out]; rfl)
            go_wp2_with fail
            refine (l03Before_any _ _ _ _ _ _ _ _ _ hO.tbS (h1.below hq) (Nat.le_refl _) (by omega) HLN.out).mono ?_
            rintro e w5 ⟨rfl, hw5⟩
            rw [HB.out]
            have hq5 : Below w.heap.size w w5 := by obtain ⟨k, hk⟩ := hw5; rw [hk]; exact below_drewN hq k
            clear hw5
            go_wp2
            go_roundw
            case rel => exact ⟨x + 1, by omega, by go_num, hq5, Lib.hid (step_lt HX.out HC.out)⟩
            case measure => simp [intOf]; omega
    · obtain rfl : P = x := by omega
      have HC : Hid (onlL n ps us = true) := Lib.hid (rng_of fun x hx => HX.out x (by have := HL2.out; omega))
      go_wp2
      go_ret
      exact ⟨ret_bool HC.out.symm, hq⟩
end Go.Proofs.YtaddclaadbjnlaaGreat

namespace Go.Proofs.YtaddclaadbjnlaaGreat
set_option maxRecDepth 100000
set_option linter.unusedVariables false
set_option linter.unusedSimpArgs false
open Go.RowKit
theorem info_qs : (Tryz.prog.info? 70).map (fun i => (i.zero, i.size, i.bytes)) = some (some (.slice none 0 0), 1, 24) := by kernel_rfl
theorem und_qs : Tryz.prog.underlying 97 = some (.slice 70) := by kernel_rfl
theorem ownsRowQ_mk {w : World} {lo g n c : Nat} {vs : List SV} {cur : Array Value} (hn : vs.length = n) (h1 : lo ≤ g) (h2 : Loc w g cur 70) (h3 : n ≤ c) (h4 : c ≤ maxLen) (h5 : cur.size = c) (h6 : cur.toList.take n = vs.map sl) :
    w.ownsRow lo 70 1 (.slice (some ⟨g, 0, none⟩) n c) n (vs.map sl) :=
  ⟨by simp [hn], .inr ⟨g, c, cur, rfl, h1, h2, h3, h4, by simpa using h5, by simpa using h6⟩⟩
def Hq (w : World) (lo : Nat) (a : Option Addr) (n c : Nat) (vs : List SV) : Prop := vs.length = n ∧ w.ownsRow lo 70 1 (.slice a n c) n (vs.map sl)
section
variable {w w' : World} {lo : Nat} {a : Option Addr} {n c : Nat} {vs : List SV}
theorem Hq.nil (w : World) (lo : Nat) : Hq w lo none 0 0 [] := ⟨rfl, World.ownsRow_nil w lo _ 1⟩
theorem Hq.block (h : Hq w lo a n c vs) : (a = none ∧ n = 0 ∧ c = 0) ∨ ∃ g cur, a = some ⟨g, 0, none⟩ ∧ lo ≤ g ∧ Loc w g cur 70 ∧ n ≤ c ∧ c ≤ maxLen ∧ cur.size = c ∧ cur.toList.take n = vs.map sl := by
  rcases h.2.2 with ⟨h1, h2⟩ | ⟨g, cap, cur, h1, h2, h3, h4, h5, h6, h7⟩
  · cases h1; exact .inl ⟨rfl, rfl, rfl⟩
  · cases h1; exact .inr ⟨g, cur, rfl, h2, h3, h4, h5, by simpa using h6, by simpa using h7⟩
theorem Hq.hi (h : Hq w lo a n c vs) : ∀ g, a = some ⟨g, 0, none⟩ → g < w.heap.size := by
  intro g hg
  rcases h.block with ⟨h1, _⟩ | ⟨g', cur, h1, h2, h3, _⟩
  · rw [h1] at hg; cases hg
  · rw [h1] at hg; cases hg; exact h3.lt
theorem Hq.low (h : Hq w lo a n c vs) : ∀ g, a = some ⟨g, 0, none⟩ → lo ≤ g := by
  intro g hg
  rcases h.block with ⟨h1, _⟩ | ⟨g', cur, h1, h2, h3, _⟩
  · rw [h1] at hg; cases hg
  · rw [h1] at hg; cases hg; exact h2
theorem Hq.keep (h : Hq w lo a n c vs) (hk : ∀ g, a = some ⟨g, 0, none⟩ → g < w.heap.size → w'.heap[g]? = w.heap[g]?) : Hq w' lo a n c vs := by
  rcases h.block with ⟨h1, h2, h3⟩ | ⟨g, cur, h1, h2, h3, h4, h5, h6, h7⟩
  · subst h1 h2 h3
    have : vs = [] := List.eq_nil_of_length_eq_zero h.1
    subst this; exact Hq.nil _ _
  · subst h1
    exact ⟨h.1, ownsRowQ_mk h.1 h2 ((hk g rfl h3.lt).trans h3) h4 h5 h6 h7⟩
theorem Hq.below (h : Hq w lo a n c vs) (hb : Below w.heap.size w w') : Hq w' lo a n c vs := h.keep fun g _ hlt => hb.block g hlt
theorem Hq.alloc (h : Hq w lo a n c vs) (o : Obj) : Hq (w.alloc o) lo a n c vs := h.below ((Below.refl _ _).alloc (Nat.le_refl _) o)
theorem Hq.drewN (h : Hq w lo a n c vs) (k : Nat) : Hq (w.drewN k) lo a n c vs := h.keep fun _ _ _ => rfl
theorem Hq.mono {lo' : Nat} (h : Hq w lo a n c vs) (hl : lo' ≤ lo) : Hq w lo' a n c vs := by
  rcases h.block with ⟨h1, h2, h3⟩ | ⟨g, cur, h1, h2, h3, h4, h5, h6, h7⟩
  · subst h1 h2 h3
    have : vs = [] := List.eq_nil_of_length_eq_zero h.1
    subst this; exact Hq.nil _ _
  · subst h1; exact ⟨h.1, ownsRowQ_mk h.1 (Nat.le_trans hl h2) h3 h4 h5 h6 h7⟩
theorem Hq.marked (h : Hq w lo a n c vs) {S : Nat → Prop} (hm : Marked S w w') (hS : ∀ g, a = some ⟨g, 0, none⟩ → ¬ S g) : Hq w' lo a n c vs := h.keep fun g hg hlt => hm.block g hlt (hS g hg)
theorem Hq.read (h : Hq w lo a n c vs) : HdR w a n vs := by
  refine ⟨h.1, fun i hi => ?_⟩
  rcases h.block with ⟨h1, h2, h3⟩ | ⟨g, cur, h1, h2, h3, h4, h5, h6, h7⟩
  · omega
  · refine ⟨g, 0, h1, h3.lt, ?_⟩
    rw [Nat.zero_add]
    refine h3.cell i ?_
    have hx : (cur.toList.take n)[i]? = (vs.map sl)[i]? := by rw [h7]
    have hxi : i < vs.length := by have := h.1; omega
    rw [List.getElem?_take, if_pos hi] at hx
    simp [List.getElem?_eq_getElem hxi] at hx
    simp [List.getD_eq_getElem?_getD, List.getElem?_eq_getElem hxi, hx]
end
theorem Hq.fresh (w : World) {b : Nat} (hb : b = w.heap.size) : Hq (w.alloc (.cells #[] 70)) w.heap.size (some ⟨b, 0, none⟩) 0 0 [] :=
  ⟨rfl, ownsRowQ_mk rfl (by omega) (Loc.new _ hb _ _) (Nat.le_refl _) (by unfold maxLen; omega) rfl rfl⟩
theorem wp_appQ {o : Oper} {a : Act} {K : Act → World → Prop} {Q : Exit → Act → World → Prop} {w : World} {s x : Operand}
    (ho : o.op = .call { callee := .builtin .append, args := #[s, x], argTypes := #[97, 97] }) {lo : Nat} {ad : Option Addr} {n c : Nat} {vs : List SV} (hown : Hq w lo ad n c vs) (hs : a.eval s = .slice ad n c)
    {ad2 : Option Addr} {m c2 : Nat} {us : List SV} (hr : HdR w ad2 m us) (hx : a.eval x = .slice ad2 m c2) (hlen : n + m ≤ 1000000000000) (hlo : lo ≤ w.heap.size)
    (h : ∀ ad' c' w', Hq w' lo ad' (n + m) c' (vs ++ us) → w.grownBy w' (Value.slice ad n c).ownBlock → Below lo w w' → K (a.put o.dst (.slice ad' (n + m) c')) w') :
    o.wp Tryz.prog a w K Q := by
  obtain ⟨i0, hi, hz0, hz1, hz2⟩ := info_parts info_qs
  obtain ⟨hn, hw⟩ := hown
  cases ad2 with
  | none =>
    obtain ⟨rfl, rfl⟩ := hr.none_nil
    have hrun := run_append_none_any (P := Tryz.prog) w lo 97 o.type 70 i0 1 und_qs hi _ n c2 _ hw
    unfold Oper.wp
    simp [execOp, ho, resolve, invoke, builtin, hs, hx, hrun, Result.andThen]
    have hh := h ad c w ⟨by simpa using hn, by simpa using hw⟩ (World.grownBy.refl _ _) (Below.refl _ _)
    exact hh
  | some p =>
    refine wp_append_own _ s x 97 ho lo 70 i0 (.slice none 0 0) 1 24 und_qs hi hz0 hz1 hz2 rfl (by decide) _ n (vs.map sl) hs hw p m c2 (us.map sl) hx (by simp [hr.1]) ?_ ?_ ?_ ?_ hlo ?_
    · intro j u hj
      have hjm : j < m := by
        have := (List.getElem?_eq_some_iff.1 hj).1
        rw [List.length_map] at this; have := hr.1; omega
      obtain ⟨b, off, h1, _, h2⟩ := hr.2 j hjm
      cases h1
      have e : (⟨b, off, none⟩ : Addr).add j = ⟨b, off + j, none⟩ := by unfold Addr.add; split <;> simp_all
      have hjy : j < us.length := by have := hr.1; omega
      rw [e, h2, ← hj]
      simp [List.getD_eq_getElem?_getD, List.getElem?_eq_getElem hjy]
    · intro u hu
      rw [List.mem_map] at hu
      obtain ⟨y, _, rfl⟩ := hu; rfl
    · unfold maxLen; omega
    · omega
    · intro v' w' ho' hg hv'
      have hb : Below lo w w' := (Below.refl _ _).grown hg hlo (fun k hk => (World.ownsRow.lt hw k hk).1)
      have ho2 := ho'
      obtain ⟨hl, h2⟩ := ho'
      rcases h2 with ⟨rfl, h2⟩ | ⟨g, cap, cur, rfl, h2⟩
      · have hn0 : n = 0 := by omega
        have hm0 : m = 0 := by omega
        subst hn0 hm0
        have hx0 : vs = [] := List.eq_nil_of_length_eq_zero hn
        have hy0 : us = [] := List.eq_nil_of_length_eq_zero hr.1
        subst hx0 hy0
        exact h none 0 w' (Hq.nil _ _) hg hb
      · exact h _ _ w' ⟨by simp [hn, hr.1], by simpa using ho2⟩ hg hb
theorem appQ {ops : Array Oper} {rest : List Oper} {o : Oper} {a : Act} {Q : Exit → Act → World → Prop} {w : World} (hgd : o.guard = none) {s x : Operand}
    (ho : o.op = .call { callee := .builtin .append, args := #[s, x], argTypes := #[97, 97] }) {lo : Nat} {ad : Option Addr} {n c : Nat} {vs : List SV} (hown : Hq w lo ad n c vs) (hs : a.eval s = .slice ad n c)
    {ad2 : Option Addr} {m c2 : Nat} {us : List SV} (hr : HdR w ad2 m us) (hx : a.eval x = .slice ad2 m c2) (hlen : n + m ≤ 1000000000000) (hlo : lo ≤ w.heap.size)
    (h : ∀ ad' c' w', Hq w' lo ad' (n + m) c' (vs ++ us) → w.grownBy w' (Value.slice ad n c).ownBlock → Below lo w w' → wpList Tryz.prog ops Q rest (a.put o.dst (.slice ad' (n + m) c')) w') :
    wpList Tryz.prog ops Q (o :: rest) a w :=
  wpList_plain hgd fun _ hK => wp_appQ ho hown hs hr hx hlen hlo fun _ _ _ h1 h2 h3 => hK _ _ (h _ _ _ h1 h2 h3)
theorem Hq.one (w : World) {b : Nat} (hb : b = w.heap.size) (v : SV) : Hq (w.alloc (.cells #[.slice v.1 v.2.1 v.2.2] 70)) w.heap.size (some ⟨b, 0, none⟩) 1 1 [v] :=
  ⟨rfl, ownsRowQ_mk rfl (by omega) (Loc.new _ hb _ _) (Nat.le_refl _) (by unfold maxLen; omega) rfl rfl⟩
theorem HdR.take {w : World} {a : Option Addr} {n k : Nat} {vs : List SV} (h : HdR w a n vs) (hk : k ≤ n) : HdR w a k (vs.take k) := by
  refine ⟨by rw [List.length_take]; have := h.1; omega, fun i hi => ?_⟩
  obtain ⟨b, off, h1, h2, h3⟩ := h.2 i (by omega)
  exact ⟨b, off, h1, h2, by rw [h3]; simp [List.getD_eq_getElem?_getD, List.getElem?_take, hi]⟩
theorem HdR.drop {w : World} {b off n k : Nat} {vs : List SV} (h : HdR w (some ⟨b, off, none⟩) n vs) (hk : k ≤ n) : HdR w (some ⟨b, off + k, none⟩) (n - k) (vs.drop k) := by
  refine ⟨by rw [List.length_drop]; have := h.1; omega, fun i hi => ?_⟩
  obtain ⟨b', off', h1, h2, h3⟩ := h.2 (k + i) (by omega)
  cases h1
  exact ⟨b, off + k, rfl, h2, by rw [Nat.add_assoc, h3]; simp [List.getD_eq_getElem?_getD, List.getElem?_drop]⟩
theorem HdR.nil {w : World} (a : Option Addr) : HdR w a 0 [] := ⟨rfl, fun i h => absurd h (by omega)⟩
structure LstQ (w : World) (a : Option Addr) (n : Nat) (vs : List SV) (L : List (List (List (List Int)))) : Prop where
  hd : HdR w a n vs
  len : n = L.length
  el : ∀ i, i < n → TbS w (vs.getD i svO).1 (vs.getD i svO).2.1 (L.getD i []) ∧ (vs.getD i svO).2.1 ≤ 9223372036854775807
theorem LstQ.below {w w' : World} {a : Option Addr} {n : Nat} {vs : List SV} {L : List (List (List (List Int)))} (h : LstQ w a n vs L) (hb : Below w.heap.size w w') : LstQ w' a n vs L :=
  ⟨h.hd.below hb, h.len, fun i hi => ⟨(h.el i hi).1.below hb, (h.el i hi).2⟩⟩
def insQ (A : List (List (List Int))) (L : List (List (List (List Int)))) : List (List (List (List Int))) := L.takeWhile (fun t => befS t A) ++ A :: L.dropWhile (fun t => befS t A)
theorem insQ_at {A : List (List (List Int))} {L : List (List (List (List Int)))} {k : Nat} (hk : k ≤ L.length) (h1 : ∀ i, i < k → befS (L.getD i []) A = true) (h2 : k = L.length ∨ befS (L.getD k []) A = false) : insQ A L = L.take k ++ A :: L.drop k := by
  induction L generalizing k with
  | nil => simp at hk; subst hk; rfl
  | cons t L ih =>
    cases k with
    | zero =>
      rcases h2 with h2 | h2
      · simp at h2
      · have : befS t A = false := by simpa using h2
        simp [insQ, this]
    | succ k =>
      have h0 : befS t A = true := by simpa using h1 0 (by omega)
      have := ih (k := k) (by simpa using hk) (fun i hi => by simpa using h1 (i + 1) (by omega)) (by rcases h2 with h2 | h2; exact .inl (by simpa using h2); exact .inr (by simpa using h2))
      unfold insQ at this ⊢
      simp [h0, this]
end Go.Proofs.YtaddclaadbjnlaaGreat
