/-
  BraidAction: what the program's function computes.
  No condition but bounds on lengths.
-/
import Derived.Test.YtjhdbgohdmdpeaaGreatBase2
namespace Go.Proofs.YtjhdbgohdmdpeaaGreat
set_option maxRecDepth 100000
set_option linter.unusedVariables false
set_option linter.unusedSimpArgs false
open Go.RowKit

set_option maxHeartbeats 4000000 in
theorem impl_Bac_l (a : Option Addr) (n c : Nat) (f : List (List Int)) (a' : Option Addr) (n' c' : Nat) (g : List (List Int)) (s : Int) (ab : Option Addr) (nb cb : Nat) (xs : List Int) (al : Option Addr) (m cl : Nat) (l : List Int) (w : World)
    (h1 : Sol w a n f a' n' g) (hm : n ≤ 9223372036854775807 ∧ n' ≤ 9223372036854775807) (hs : I64 s) (hr : Row w ab nb xs) (hnb : nb ≤ 9223372036854775807) (hx : I64s xs) (hl : Row w al m l) (hml : m ≤ 9223372036854775807) (hxl : I64s l) :
    Calls Tryz.prog 15 #[sAgg a n c a' n' c', bAgg s ab nb cb, .slice al m cl] w (RetR w (bacF f g s xs l).1 (bacF f g s xs l).2) := by
  obtain ⟨hm1, hm2⟩ := hm
  have hA := (Loc.new w rfl #[.slice a n c, .slice a' n' c'] 26).alloc (.cells #[.int .i64 s, .slice ab nb cb] 29)
  have hE := Loc.new (w.alloc (.cells #[.slice a n c, .slice a' n' c'] 26)) rfl #[.int .i64 s, .slice ab nb cb] 29
  rw [size_alloc] at hE
  have hB := below_al (below_al (Below.refl w.heap.size w) (.cells #[.slice a n c, .slice a' n' c'] 26)) (.cells #[.int .i64 s, .slice ab nb cb] 29)
  by_cases hz : ckF f g s xs l = 0
  · obtain ⟨q1, q2, q3, q4⟩ := ckF_zero hz
    have hq : bacF f g s xs l = (actL f.length f g xs l, 0) := by unfold bacF; rw [if_pos hz]
    rw [hq]
    obtain ⟨hn1, hn12, sf, sg⟩ := isSol_sq q1
    have hcc := isSol_coll q1
    have hfl := h1.f.len
    have hl2 : n' = n := by rw [h1.s.len, hfl]; have := sg.len; omega
    subst hl2
    have hml2 := hl.len
    obtain rfl : s = (m : Int) := by omega
    rw [← hfl] at hn1 hn12 sf sg hcc q4 ⊢
    have HSF := Lib.hid sf; have HSG := Lib.hid sg; have HC := Lib.hid hcc; have H1 := Lib.hid q1; have H2 := Lib.hid q2; have HZ := Lib.hid hz; have HLE := Lib.hid q4
    clear q1 q2 q3 q4 hz sf sg hcc hfl hml2 hq
    go_enter Tryz.func15, Tryz.ntmps15
    go_wp2_with fail
    generalize (w.alloc (.cells #[.slice a n' c, .slice a' n' c'] 26)).alloc (.cells #[.int .i64 m, .slice ab nb cb] 29) = w0 at *
    refine (checkAction_any _ _ _ _ _ _ f g _ _ _ _ xs _ _ _ l _ (h1.f.below hB) (h1.s.below hB) hm1 hm2 hs (hr.below hB) hnb (hl.below hB) hml).mono ?_
    rintro e w1 ⟨rfl, hb1⟩
    rw [HZ.out]
    have hA1 := hA.below hb1 hA.lt
    have hE1 := hE.below hb1 hE.lt
    have hB1 := below_th hB hb1
    have lA := hA1.two
    have lE := hE1.two
    clear hA hE hB hb1
    have tok1 : True := trivial
    go_wp2
    go_region_held3 (fun w' => (w'.cell? ⟨w.heap.size, 0, none⟩ = some (.slice a n' c) ∧ w'.cell? ⟨w.heap.size, 1, none⟩ = some (.slice a' n' c')) ∧ w'.cell? ⟨w.heap.size + 1, 0, none⟩ = some (.int .i64 m) ∧ w'.cell? ⟨w.heap.size + 1, 1, none⟩ = some (.slice ab nb cb))
      (first | exact ⟨⟨lA3.1, lA3.2.1⟩, lE3.1, lE3.2.1⟩ | exact ⟨⟨lA2.1, lA2.2.1⟩, lE2.1, lE2.2.1⟩ | exact ⟨⟨lA.1, lA.2.1⟩, lE.1, lE.2.1⟩)
      (first
        | (go_at_call 88; refine (newAction_any _ _ _ _ _ f g _ ((h1.f.below hB1).drewN 1) ((h1.s.below hB1).drewN 1) H1.out hn12).mono ?_; rintro e w2 ⟨b, d, vs, b', d', vs', rfl, ho, hb2⟩; have hq2 : Below w1.heap.size w1 w2 := (Below.drew (Below.refl _ _)).trans hb2; have lA2 := (hA1.below hq2 hA1.lt).two; have lE2 := (hE1.below hq2 hE1.lt).two)
        | (go_at_call 89; refine (lead_any _ _ _ _ _ _ _ _ _ f g m _ _ _ xs _ _ l _ (h1.f.below (below_th hB1 hq2)) (h1.s.below (below_th hB1 hq2)) ho.f.tbl ho.s.tbl hn1 HSF.out HSG.out HC.out (hr.below (below_th hB1 hq2)) H2.out (hl.below (below_th hB1 hq2)) HLE.out).mono ?_; rintro e w3 ⟨ao, co, rfl, ho3, hb3⟩; have hq3 := below_th hq2 hb3; have lA3 := (hA1.below hq3 hA1.lt).two; have lE3 := (hE1.below hq3 hE1.lt).two))
    all_goals
      go_wp2
      go_ret2
      exact ⟨_, _, _, rfl, ho3.mono (below_th hB1 hq2).size, below_th hB1 hq3⟩
  · have hq : bacF f g s xs l = ([], ckF f g s xs l) := by unfold bacF; rw [if_neg hz]
    rw [hq]
    generalize hK : ckF f g s xs l = K at *
    have hb : (K != 0) = true := by simpa using hz
    have HK := Lib.hid hK
    clear hq hz hK
    go_enter Tryz.func15, Tryz.ntmps15
    go_wp2_with fail
    generalize (w.alloc (.cells #[.slice a n c, .slice a' n' c'] 26)).alloc (.cells #[.int .i64 s, .slice ab nb cb] 29) = w0 at *
    refine (checkAction_any _ _ _ _ _ _ f g _ _ _ _ xs _ _ _ l _ (h1.f.below hB) (h1.s.below hB) hm1 hm2 hs (hr.below hB) hnb (hl.below hB) hml).mono ?_
    rintro e w1 ⟨rfl, hb1⟩
    rw [HK.out]
    go_wp2
    go_ret2
    exact ⟨none, 0, 0, rfl, Own.nil _ _, below_th hB hb1⟩

end Go.Proofs.YtjhdbgohdmdpeaaGreat
