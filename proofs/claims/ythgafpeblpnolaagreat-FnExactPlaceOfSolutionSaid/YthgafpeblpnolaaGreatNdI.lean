/-
  Is a solution nondegenerate? What both sides answer.
  No condition but bounds.
-/
import Derived.Test.YthgafpeblpnolaaGreatTrnI
import Derived.Test.YthgafpeblpnolaaGreatTurS
import Derived.Test.YthgafpeblpnolaaGreatBase3
import Derived.Test.YthgafpeblpnolaaGreatRnS
namespace Go.Proofs.YthgafpeblpnolaaGreat
set_option maxRecDepth 100000
set_option linter.unusedVariables false
set_option linter.unusedSimpArgs false
open Go.RowKit

set_option maxHeartbeats 4000000 in
theorem isNondegenerate_any (n : Nat) (a a' : Option Addr) (c c' : Nat) (f g : List (List Int)) (w : World) (h1 : Tbl w a n f) (h2 : Tbl w a' n g) (hf : Sq n f) (hg : Sq n g) (hn : n ≤ 12) :
    Calls Tryz.prog 46 #[sAgg a n c a' n c'] w fun e w' => e = .returned (.bool (ndF f g)) ∧ Below w.heap.size w w' := by
  have hA := Loc.new w rfl #[.slice a n c, .slice a' n c'] 28
  have hB := below_al (Below.refl w.heap.size w) (.cells #[.slice a n c, .slice a' n c'] 28)
  have lA := hA.two
  have hR : ∀ (t : List (List Int)), Sq n t → ∀ x ∈ t, x.length ≤ 1000000 := fun t ht x hx => by
    obtain ⟨i, hi, rfl⟩ := List.getElem_of_mem hx
    have := ht.row (x := i) (by rw [← ht.len]; exact hi)
    rw [List.getD_eq_getElem?_getD, List.getElem?_eq_getElem hi, Option.getD_some] at this
    omega
  have HR1 := Lib.hid (hR f hf)
  have HR2 := Lib.hid (hR _ (trnL_sq hg))
  have HG := Lib.hid hg
  have HN : Hid (ndF f g = (f.all permOk && (trnL n g).all permOk)) := Lib.hid (by unfold ndF; rw [hf.len])
  clear hR hf hg
  rw [HN.out]
  cases hp : f.all permOk with
  | false =>
    have HP := Lib.hid hp; clear hp
    go_enter Tryz.func46, Tryz.ntmps46
    go_wp2_with fail
    refine (permutationRows_any _ _ _ f _ (h1.below hB) (by omega) HR1.out).mono ?_
    rintro e w1 ⟨rfl, hb1⟩
    rw [HP.out]
    go_wp2
    go_ret
    exact ⟨rfl, below_th hB hb1⟩
  | true =>
    have HP := Lib.hid hp; clear hp
    go_enter Tryz.func46, Tryz.ntmps46
    go_wp2_with fail
    refine (permutationRows_any _ _ _ f _ (h1.below hB) (by omega) HR1.out).mono ?_
    rintro e w1 ⟨rfl, hb1⟩
    rw [HP.out]
    have lA1 := (hA.below hb1 hA.lt).two
    have hB1 := below_th hB hb1
    go_wp2_with fail
    refine (transposed_any n _ _ g _ (h2.below hB1) HG.out hn).mono ?_
    rintro e w2 ⟨a2, c2, vs2, rfl, ho2, hb2⟩
    have hB2 := below_th hB1 hb2
    go_wp2_with fail
    refine (permutationRows_any _ _ _ _ _ ho2.tbl (by omega) HR2.out).mono ?_
    rintro e w3 ⟨rfl, hb3⟩
    go_wp2
    go_ret
    exact ⟨ret_bool rfl, below_th hB2 hb3⟩

/-- the first k rows and columns are permutations -/
def ndK (n : Nat) (f g : List (List Int)) (k : Nat) : Bool := allN k fun x => permOk (f.getD x []) && permOk (colL n g x)
theorem ndK_all {n : Nat} {f g : List (List Int)} (hf : Sq n f) : ndF f g = ndK n f g n := by
  unfold ndF ndK
  rw [hf.len, Bool.eq_iff_iff, Bool.and_eq_true, List.all_eq_true, List.all_eq_true]
  constructor
  · rintro ⟨h1, h2⟩
    refine allN_of fun x hx => ?_
    rw [Bool.and_eq_true]
    refine ⟨h1 _ ?_, h2 _ ?_⟩
    · have := hf.len
      rw [List.getD_eq_getElem?_getD, List.getElem?_eq_getElem (by omega)]; exact List.getElem_mem _
    · rw [trnL_col]; exact List.mem_map.2 ⟨x, List.mem_range.2 hx, rfl⟩
  · intro h
    refine ⟨fun p hp => ?_, fun p hp => ?_⟩
    · obtain ⟨i, hi, rfl⟩ := List.getElem_of_mem hp
      have := allN_get h (k := i) (by rw [← hf.len]; exact hi)
      rw [Bool.and_eq_true, List.getD_eq_getElem?_getD, List.getElem?_eq_getElem hi] at this
      exact this.1
    · rw [trnL_col] at hp
      obtain ⟨x, hx, rfl⟩ := List.mem_map.1 hp
      have := allN_get h (List.mem_range.1 hx)
      rw [Bool.and_eq_true] at this
      exact this.2
set_option maxHeartbeats 4000000 in
theorem l06Plain_any (n : Nat) (a a' : Option Addr) (c c' : Nat) (f g : List (List Int)) (w : World) (h1 : Tbl w a n f) (h2 : Tbl w a' n g) (hf : Sq n f) (hg : Sq n g) (hn1 : 1 ≤ n) (hn : n ≤ 12) :
    Calls Tryz.prog 41 #[sAgg a n c a' n c'] w fun e w' => e = .returned (.bool (ndF f g)) ∧ Below w.heap.size w w' := by
  have hA := Loc.new w rfl #[.slice a n c, .slice a' n c'] 28
  have hB := below_al (Below.refl w.heap.size w) (.cells #[.slice a n c, .slice a' n c'] 28)
  obtain ⟨w0, hw0⟩ : ∃ w0, w.alloc (.cells #[.slice a n c, .slice a' n c'] 28) = w0 := ⟨_, rfl⟩
  rw [hw0] at hA hB
  obtain ⟨bA, hbA⟩ : ∃ b, b = w.heap.size := ⟨_, rfl⟩
  have HG := Lib.hid hg
  have HF := Lib.hid hf
  have HL := Lib.hid h1.len
  have HRG : Hid (rngB 1 12 n = true) := Lib.hid (by unfold rngB; simp; omega)
  rw [ndK_all hf]
  clear hf hg
  go_enter Tryz.func41, Tryz.ntmps41
  go_wp2
  try rw [hw0]
  go_loopw [3] (fun i wr => ∃ k : Nat, k ≤ n ∧ i = .int .i64 k ∧ Below w.heap.size w wr ∧ Below w0.heap.size w0 wr ∧ Hid (ndK n f g k = true)) (fun i _ => n - (intOf i).toNat)
  case atStart => exact ⟨0, Nat.zero_le _, rfl, hB, Below.refl _ _, Lib.hid rfl⟩
  case round =>
    obtain ⟨k, hk, rfl, hq, hq0, HK⟩ := hrel
    have lA := (hA.below hq0 hA.lt).two
    by_cases hlt : k < n
    · obtain ⟨b1, o1, ai, ni, ci, e1, ck, rk, lk⟩ := (h1.below hq).at k hlt
      cases e1
      obtain ⟨p, HP⟩ : ∃ p, Hid (f.getD k [] = p) := ⟨_, rfl⟩
      rw [HP.out] at rk
      obtain rfl : n = ni := by have := rk.len; rw [← HP.out, HF.out.row hlt] at this; exact this.symm
      have i1 : (0 : Int) ≤ (k : Int) := by omega
      have i2 : (k : Int) < (n : Int) := by omega
      have HKN : Hid (ndK n f g (k + 1) = (permOk p && permOk (colL n g k))) := Lib.hid (by
        unfold ndK allN at *
        rw [List.range_succ, List.all_append, HK.out, ← HP.out]; simp)
      cases hp : permOk p with
      | false =>
        have HPP := Lib.hid hp; clear hp
        have HN : Hid (ndK n f g n = false) := Lib.hid (allN_no hlt (by rw [HP.out, HPP.out]; rfl))
        go_wp2_with fail
        refine (l01Perm_any _ _ _ p _ rk (by omega)).mono ?_
        rintro e w2 ⟨rfl, rfl⟩
        rw [HRG.out, HPP.out]
        go_wp2
        go_ret
        exact ⟨ret_bool (by rw [HN.out]), hq⟩
      | true =>
        have HPP := Lib.hid hp; clear hp
        go_wp2_with fail
        refine (l01Perm_any _ _ _ p _ rk (by omega)).mono ?_
        rintro e w2 ⟨rfl, rfl⟩
        rw [HRG.out, HPP.out]
        go_wp2_with fail
        refine (l01Column_any n k _ _ g _ (h2.below hq) HG.out hn1 hn hlt).mono ?_
        rintro e w3 ⟨a3, c3, rfl, ho3, hb3⟩
        obtain ⟨B, HB⟩ : ∃ B, Hid (permOk (colL n g k) = B) := ⟨_, rfl⟩
        go_wp2_with fail
        refine (l01Perm_any _ _ _ _ _ ho3.row (by omega)).mono ?_
        rintro e w4 ⟨rfl, rfl⟩
        rw [HRG.out, HB.out]
        cases B with
        | false =>
          have HN : Hid (ndK n f g n = false) := Lib.hid (allN_no hlt (by rw [HP.out, HPP.out, HB.out]; rfl))
          go_wp2
          go_ret
          exact ⟨ret_bool (by rw [HN.out]), below_th hq hb3⟩
        | true =>
          go_wp2
          go_roundw
          case rel => exact ⟨k + 1, by omega, by go_num, below_th hq hb3, below_th hq0 hb3, Lib.hid (by rw [HKN.out, HPP.out, HB.out]; rfl)⟩
          case measure => simp [intOf]; omega
    · obtain rfl : k = n := by omega
      go_wp2
      go_ret
      exact ⟨ret_bool HK.out.symm, hq⟩
end Go.Proofs.YthgafpeblpnolaaGreat
