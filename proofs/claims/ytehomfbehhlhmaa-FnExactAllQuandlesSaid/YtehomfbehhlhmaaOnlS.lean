/-
  Are tables the first of all their images? what the reference's function answers.
  No condition but bounds.
-/
import Derived.Test.YtehomfbehhlhmaaBefS
import Derived.Test.YtehomfbehhlhmaaImgS
import Derived.Test.YtehomfbehhlhmaaBase
import Derived.Test.YtehomfbehhlhmaaCykI
namespace Go.Proofs.Ytehomfbehhlhmaa
set_option maxRecDepth 100000
set_option linter.unusedVariables false
set_option linter.unusedSimpArgs false
open Go.RowKit

theorem OwnTT.tbS {w : World} {lo : Nat} {a : Option Addr} {n c : Nat} {us : List TV} {ts : List (List (List Int))} (h : OwnTT w lo a n c us ts) : TbS w a n ts := by
  refine ⟨h.len, fun i hi => ?_⟩
  obtain ⟨g, h1, h2, h3, _⟩ := h.cells (by omega)
  have hv := h.tab i hi
  exact ⟨g, 0, _, _, _, h1, h2, by rw [Nat.zero_add]; exact h3 i hi, OwnT.tbl hv, by have := OwnT.cap hv; omega⟩
def imgL (n : Nat) (p : List Int) (us : List (List (List Int))) : List (List (List Int)) := us.map fun t => rnL n t p
/-- no image comes before the tables -/
def onlP (n : Nat) (us : List (List (List Int))) (p : List Int) : Bool := !befS (imgL n p us) us
def onlL (n : Nat) (ps : List (List Int)) (us : List (List (List Int))) : Bool := (List.range ps.length).all fun i => onlP n us (ps.getD i [])
theorem rnL_len (n : Nat) (t : List (List Int)) (p : List Int) : (rnL n t p).length = n := tabF_len _ _
theorem imgL_take {n : Nat} {p : List Int} {us : List (List (List Int))} {k : Nat} (h : k < us.length) : imgL n p (us.take (k + 1)) = imgL n p (us.take k) ++ [rnL n (us.getD k []) p] := by
  unfold imgL
  rw [List.take_succ_eq_append_getElem h, List.map_append]
  simp [List.getD_eq_getElem?_getD, List.getElem?_eq_getElem h]

set_option maxHeartbeats 8000000 in
theorem l19Own_any (n m P : Nat) (a1 a2 : Option Addr) (c1 c2 : Nat) (us : List (List (List Int))) (ps : List (List Int)) (w : World) (h1 : TbS w a1 m us) (h2 : Tbl w a2 P ps) (hn0 : 1 ≤ n) (hn : n ≤ 12) (hm : m ≤ 1000000) (hP : P ≤ 1000000)
    (hs : ∀ k, k < m → Sq n (us.getD k [])) (hps : ∀ i, i < P → IsP n (ps.getD i [])) :
    Calls Try.prog 122 #[.slice a1 m c1, .slice a2 P c2] w fun e w' => e = .returned (.bool (onlL n ps us)) ∧ Below w.heap.size w w' := by
  have HL1 := Lib.hid h1.len; have HL2 := Lib.hid h2.len; have HS := Lib.hid hs; have HPS := Lib.hid hps
  clear hs hps
  go_enter Try.func122, Try.ntmps122
  go_wp2
  go_loopw [5, 6, 7] (fun i _ _ wr => ∃ x : Nat, x ≤ P ∧ i = .int .i64 x ∧ Below w.heap.size w wr ∧ Hid (∀ x', x' < x → onlP n us (ps.getD x' []) = true)) (fun i _ _ _ => P - (intOf i).toNat)
  case atStart => exact ⟨0, Nat.zero_le _, rfl, Below.refl _ _, Lib.hid fun x' hx => absurd hx (by omega)⟩
  case round =>
    obtain ⟨x, hx, rfl, hq, HX⟩ := hrel
    by_cases hlt : x < P
    · have hwq := hq.size
      have hpx := HPS.out x hlt
      obtain ⟨p, HPP⟩ : ∃ p, Hid (ps.getD x [] = p) := ⟨_, rfl⟩
      rw [HPP.out] at hpx
      have HPX := Lib.hid hpx
      have i1 : (0 : Int) ≤ (x : Int) := by omega
      have i2 : (x : Int) < (P : Int) := by omega
      obtain ⟨w1, hw1⟩ : ∃ w1, wr.alloc (.cells #[] 43) = w1 := ⟨_, rfl⟩
      have hz1 : w1.heap.size = wr.heap.size + 1 := by rw [← hw1]; simp
      have hB1 : Below w.heap.size w w1 := by rw [← hw1]; exact below_al hq _
      obtain ⟨B0, hB0⟩ : ∃ B0, B0 = wr.heap.size := ⟨_, rfl⟩
      have hwB : w.heap.size ≤ B0 := by omega
      have hO1 : OwnTT w1 B0 (some ⟨wr.heap.size, 0, none⟩) 0 0 [] [] := by
        rw [← hw1, hB0]
        exact ⟨rfl, rfl, ownsRowT_mk rfl (Nat.le_refl _) (Loc.new wr rfl _ _) (Nat.le_refl _) (by unfold maxLen; omega) rfl rfl, fun i h => absurd h (by omega), fun i h => absurd h (by omega), fun i j h => absurd h (by omega)⟩
      clear hpx
      go_wp2
      go_loopw [6, 7] (fun s i wr2 => ∃ (k : Nat) (a' : Option Addr) (c' : Nat) (vs : List TV), k ≤ m ∧ i = .int .i64 k ∧ s = .slice a' k c' ∧ OwnTT wr2 B0 a' k c' vs (imgL n p (us.take k)) ∧ Below w.heap.size w wr2 ∧ B0 ≤ wr2.heap.size) (fun _ i _ => m - (intOf i).toNat)
      case atStart => exact ⟨0, _, 0, [], Nat.zero_le _, rfl, rfl, by simpa [imgL] using hO1, hB1, by omega⟩
      case round =>
        clear hO1 hB1 hz1 hw1 hq
        obtain ⟨k, a', c', vs, hk, rfl, rfl, hO, hq, hwz⟩ := hrel
        by_cases hlk : k < m
        · have h1r := h1.below hq
          have h2r := h2.below hq
          obtain ⟨b1, o1, at_, nt, ct, rfl, g1, t1, l1⟩ := h1r.at k hlk
          obtain ⟨b2, o2, ap, np, cp, rfl, g2, r2, l2⟩ := h2r.at x hlt
          rw [HPP.out] at r2
          obtain ⟨t, HT⟩ : ∃ t, Hid (us.getD k [] = t) := ⟨_, rfl⟩
          rw [HT.out] at t1
          have hsq : Sq n t := by rw [← HT.out]; exact HS.out k hlk
          obtain rfl : n = nt := by have := t1.len; rw [hsq.1] at this; exact this.symm
          obtain rfl : n = np := by have := r2.len; rw [HPX.out.len] at this; exact this.symm
          have HSQ := Lib.hid hsq
          have HIT : Hid (imgL n p (us.take (k + 1)) = imgL n p (us.take k) ++ [rnL n t p]) := Lib.hid (by rw [imgL_take (by have := HL1.out; omega), HT.out])
          have HOU := Lib.hid hO.uHi
          have HOB := Lib.hid (fun g (e : (Value.slice a' k c').ownBlock = some g) => hO.ownBlk e)
          have j1 : (0 : Int) ≤ (k : Int) := by omega
          have j2 : (k : Int) < (m : Int) := by omega
          have hO1 := hO.drewN 1
          have t1d := t1.drewN 1
          have r2d := r2.drewN 1
          clear hsq h1r h2r
          go_wp2
          go_region_law (first
            | (refine step_appTTn rfl rfl hO3 rfl ho3 HQ3.out rfl ?_ ?_ ?_; (omega); (omega); intro g' cc w8 hO8 hg8 hat8 hb8)
            | (go_simp; go_at_call 169; refine (l03Image_any n at_ ap ct cp t p _ t1d r2d HSQ.out HPX.out hn0 hn).mono ?_; rintro e w3 ⟨a3, c3, vs3, rfl, ho3', hb3⟩; have hz3 : B0 ≤ w3.heap.size := Nat.le_trans hwz hb3.size; have ho3 : OwnT w3 B0 a3 n c3 vs3 (rnL n t p) := ho3'.mono hwz; have hO3 := hO1.below hb3; have HQ3 : Hid (∀ q, TblS a3 n vs3 q → ¬ TTS a' k vs q) := Lib.hid (fun q h1 h2 => by have := ho3'.uLo q h1; have h4 := HOU.out q h2; have : wr.heap.size ≤ q := this; omega)))
          all_goals
            go_wp2
            go_roundw
            case rel => exact ⟨k + 1, _, cc, _, by omega, by go_num, rfl, by rw [HIT.out]; exact hO8, (below_drewN hq 1).trans ((hb3.mono (show w.heap.size ≤ (wr.drewN 1).heap.size by exact Nat.le_trans hwB hwz)).trans (hb8.mono hwB)), Nat.le_trans hz3 hb8.size⟩
            case measure => simp [intOf]; omega
        · obtain rfl : m = k := by omega
          have hE : us.take m = us := by rw [List.take_of_length_le (by have := HL1.out; omega)]
          rw [hE] at hO
          have hlens : ∀ k, k < m → ((imgL n p us).getD k []).length ≤ (us.getD k []).length := fun k hk => by
            have hk' : k < us.length := by have := HL1.out; omega
            have : (imgL n p us).getD k [] = rnL n (us.getD k []) p := by
              unfold imgL
              simp [List.getD_eq_getElem?_getD, List.getElem?_eq_getElem hk']
            rw [this, rnL_len, (HS.out k hk).1]; exact Nat.le_refl _
          have HLN := Lib.hid hlens
          obtain ⟨B, HB⟩ : ∃ B, Hid (befS (imgL n p us) us = B) := ⟨_, rfl⟩
          clear hE hlens
          cases B with
          | true =>
            have HC : Hid (onlL n ps us = false) := Lib.hid (rng_no (y := x) (by have := HL2.out; omega) (by unfold onlP; rw [HPP.out, HB.out]; rfl))
            go_wp2_with fail
            refine (l03Before_any _ _ _ _ _ _ _ _ _ hO.tbS (h1.below hq) (Nat.le_refl _) (by omega) HLN.out).mono ?_
            rintro e w5 ⟨rfl, hw5⟩
            rw [HB.out]
            go_wp2
            go_ret
            exact ⟨ret_bool HC.out.symm, by obtain ⟨k, hk⟩ := hw5; rw [hk]; exact below_drewN hq k⟩
          | false =>
            have HC : Hid (onlP n us (ps.getD x []) = true) := Lib.hid (by unfold onlP; rw [HPP.out, HB.out]; rfl)
            go_wp2_with fail
            refine (l03Before_any _ _ _ _ _ _ _ _ _ hO.tbS (h1.below hq) (Nat.le_refl _) (by omega) HLN.out).mono ?_
            rintro e w5 ⟨rfl, hw5⟩
            rw [HB.out]
            have hq5 : Below w.heap.size w w5 := by obtain ⟨k, hk⟩ := hw5; rw [hk]; exact below_drewN hq k
            clear hw5
            go_wp2
            go_roundw
            case rel => exact ⟨x + 1, by omega, by go_num, hq5, Lib.hid (step_lt HX.out HC.out)⟩
            case measure => simp [intOf]; omega
    · obtain rfl : P = x := by omega
      have HC : Hid (onlL n ps us = true) := Lib.hid (rng_of fun x hx => HX.out x (by have := HL2.out; omega))
      go_wp2
      go_ret
      exact ⟨ret_bool HC.out.symm, hq⟩
end Go.Proofs.Ytehomfbehhlhmaa
