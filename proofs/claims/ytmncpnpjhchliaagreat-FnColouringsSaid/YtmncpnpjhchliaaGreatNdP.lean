/-
  Is a solution nondegenerate? What the program answers.
  No condition but bounds.
-/
import Derived.Test.YtmncpnpjhchliaaGreatTrnI
import Derived.Test.YtmncpnpjhchliaaGreatBase3
namespace Go.Proofs.YtmncpnpjhchliaaGreat
set_option maxRecDepth 100000
set_option linter.unusedVariables false
set_option linter.unusedSimpArgs false
open Go.RowKit

set_option maxHeartbeats 4000000 in
theorem isNondegenerate_any (n : Nat) (a a' : Option Addr) (c c' : Nat) (f g : List (List Int)) (w : World) (h1 : Tbl w a n f) (h2 : Tbl w a' n g) (hf : Sq n f) (hg : Sq n g) (hn : n ≤ 12) :
    Calls Tryz.prog 48 #[sAgg a n c a' n c'] w fun e w' => e = .returned (.bool (ndF f g)) ∧ Below w.heap.size w w' := by
  have hA := Loc.new w rfl #[.slice a n c, .slice a' n c'] 26
  have hB := below_al (Below.refl w.heap.size w) (.cells #[.slice a n c, .slice a' n c'] 26)
  have lA := hA.two
  have hR : ∀ (t : List (List Int)), Sq n t → ∀ x ∈ t, x.length ≤ 1000000 := fun t ht x hx => by
    obtain ⟨i, hi, rfl⟩ := List.getElem_of_mem hx
    have := ht.row (x := i) (by rw [← ht.len]; exact hi)
    rw [List.getD_eq_getElem?_getD, List.getElem?_eq_getElem hi, Option.getD_some] at this
    omega
  have HR1 := Lib.hid (hR f hf)
  have HR2 := Lib.hid (hR _ (trnL_sq hg))
  have HG := Lib.hid hg
  have HN : Hid (ndF f g = (f.all permOk && (trnL n g).all permOk)) := Lib.hid (by unfold ndF; rw [hf.len])
  clear hR hf hg
  rw [HN.out]
  cases hp : f.all permOk with
  | false =>
    have HP := Lib.hid hp; clear hp
    go_enter Tryz.func48, Tryz.ntmps48
    go_wp2_with fail
    refine (permutationRows_any _ _ _ f _ (h1.below hB) (by omega) HR1.out).mono ?_
    rintro e w1 ⟨rfl, hb1⟩
    rw [HP.out]
    go_wp2
    go_ret
    exact ⟨rfl, below_th hB hb1⟩
  | true =>
    have HP := Lib.hid hp; clear hp
    go_enter Tryz.func48, Tryz.ntmps48
    go_wp2_with fail
    refine (permutationRows_any _ _ _ f _ (h1.below hB) (by omega) HR1.out).mono ?_
    rintro e w1 ⟨rfl, hb1⟩
    rw [HP.out]
    have lA1 := (hA.below hb1 hA.lt).two
    have hB1 := below_th hB hb1
    go_wp2_with fail
    refine (transposed_any n _ _ g _ (h2.below hB1) HG.out hn).mono ?_
    rintro e w2 ⟨a2, c2, vs2, rfl, ho2, hb2⟩
    have hB2 := below_th hB1 hb2
    go_wp2_with fail
    refine (permutationRows_any _ _ _ _ _ ho2.tbl (by omega) HR2.out).mono ?_
    rintro e w3 ⟨rfl, hb3⟩
    go_wp2
    go_ret
    exact ⟨ret_bool rfl, below_th hB2 hb3⟩
end Go.Proofs.YtmncpnpjhchliaaGreat
