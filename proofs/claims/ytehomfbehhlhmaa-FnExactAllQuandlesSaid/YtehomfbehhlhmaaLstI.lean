/-
  The program's test for a table that is its own least form; all racks in their order.
  No condition but bounds.
-/
import Derived.Test.YtehomfbehhlhmaaLeaI
import Derived.Test.YtehomfbehhlhmaaCrkI
import Derived.Test.YtehomfbehhlhmaaCyiS
import Derived.Test.YtehomfbehhlhmaaTabRk
namespace Go.Proofs.Ytehomfbehhlhmaa
set_option maxRecDepth 100000
set_option linter.unusedVariables false
set_option linter.unusedSimpArgs false
open Go.RowKit

/-- is a table its own least form? -/
def lstB (n : Nat) (t : List (List Int)) : Bool := decide (t = leastL n t)
set_option maxHeartbeats 2000000 in
theorem isLeast_any (N : Nat) (at_ : Option Addr) (ct : Nat) (t : List (List Int)) (w : World) (h1 : 1 ≤ N) (h4 : N ≤ 4) (hT : Tbl w at_ N t) (hs : Sq N t) :
    Calls Try.prog 125 #[.slice at_ N ct] w fun e w' => e = .returned (.bool (lstB N t)) ∧ Below w.heap.size w w' := by
  have HS := Lib.hid hs; clear hs
  obtain ⟨B, HB⟩ : ∃ B, Hid (lstB N t = B) := ⟨_, rfl⟩
  rw [HB.out]
  go_enter Try.func125, Try.ntmps125
  go_wp2_with fail
  refine (leastTable_any N at_ ct t w h1 h4 hT HS.out).mono ?_
  rintro e w1 ⟨a, c, vs, rfl, ho, hb⟩
  go_wp2_with fail
  refine (equalTables_any _ _ _ _ _ _ _ _ w1 (hT.below hb) ho.tbl (by omega)).mono ?_
  rintro e w2 ⟨rfl, rfl⟩
  go_wp2
  go_ret
  exact ⟨ret_bool (by rw [← HB.out]; rfl), hb⟩

theorem rowG_mem {ps : List (List Int)} {fits : List (List Int) → Bool} : ∀ (m : Nat) (o t : List (List Int)), t ∈ rowG ps fits m o → ∃ r, t = o ++ r ∧ r.length = m ∧ ∀ p ∈ r, p ∈ ps := by
  intro m
  induction m with
  | zero => intro o t h; simp [rowG] at h; exact ⟨[], by simp [h], rfl, by simp⟩
  | succ m ih =>
    intro o t h
    simp only [rowG, List.mem_flatMap] at h
    obtain ⟨p, hp, ht⟩ := h
    split at ht
    · obtain ⟨r, h1, h2, h3⟩ := ih _ _ ht
      exact ⟨p :: r, by rw [h1]; simp, by simp [h2], fun q hq => by
        rcases List.mem_cons.1 hq with e | e
        · rw [e]; exact hp
        · exact h3 q e⟩
    · simp at ht
theorem rows_rwsP {n : Nat} (h1 : 1 ≤ n) (h4 : n ≤ 4) {r : List (List Int)} (hl : r.length = n) (hm : ∀ p ∈ r, p ∈ prmL n) : RwsP n r := by
  refine ⟨hl, fun i hi => ?_⟩
  have := hm r[i] (List.getElem_mem (by omega))
  obtain ⟨j, hj, ej⟩ := List.getElem_of_mem this
  have h := prm_isP h1 h4 j hj
  rw [List.getD_eq_getElem?_getD, List.getElem?_eq_getElem hj, Option.getD_some, ej] at h
  rw [List.getD_eq_getElem?_getD, List.getElem?_eq_getElem (by omega), Option.getD_some]
  exact h
theorem rowL_rwsP {n : Nat} (h1 : 1 ≤ n) (h4 : n ≤ 4) {fits : List (List Int) → Bool} {i : Nat} (hi : i < (rowL n fits).length) : RwsP n ((rowL n fits).getD i []) := by
  rw [List.getD_eq_getElem?_getD, List.getElem?_eq_getElem hi, Option.getD_some]
  obtain ⟨r, e, hl, hm⟩ := rowG_mem _ _ _ (List.getElem_mem hi)
  rw [List.nil_append] at e
  rw [e]
  exact rows_rwsP h1 h4 hl hm
theorem filter_take_succ {α : Type} (p : α → Bool) (l : List α) (d : α) {k : Nat} (h : k < l.length) : (l.take (k + 1)).filter p = (l.take k).filter p ++ if p (l.getD k d) then [l.getD k d] else [] := by
  rw [List.take_succ_eq_append_getElem h, List.filter_append]
  simp only [List.getD_eq_getElem?_getD, List.getElem?_eq_getElem h, Option.getD_some, List.filter_cons, List.filter_nil]

set_option maxHeartbeats 16000000 in
theorem allRacks_any (n : Nat) (w : World) (h1 : 1 ≤ n) (h4 : n ≤ 4) :
    Calls Try.prog 114 #[.int .i64 n] w fun e w' => ∃ a k c us, e = .returned (.slice a k c) ∧ OwnRk w' w.heap.size a k c us ((rowL n chkR).filter (lstB n)) ∧ Below w.heap.size w w' := by
  obtain ⟨L, HLL⟩ : ∃ L, Hid (rowL n chkR = L) := ⟨_, rfl⟩
  rw [HLL.out]
  go_enter Try.func114, Try.ntmps114
  go_wp2_with fail
  refine (rowTables_any n _ _ chkR w h1 h4 (rackRows_fit h4)).mono ?_
  rintro e w1 ⟨a1, K, c1, us, rfl, ht1, hb1⟩
  have hz1 := hb1.size
  have HKL := Lib.hid ht1.len
  have HFS := Lib.hid (fun k (h : k < (rowL n chkR).length) => filter_take_succ (lstB n) (rowL n chkR) [] h)
  have HRP := Lib.hid (fun i (hi : i < (rowL n chkR).length) => rowL_rwsP h1 h4 (fits := chkR) hi)
  have HAL : Hid ((rowL n chkR).take K = rowL n chkR) := Lib.hid (by rw [HKL.out, List.take_length])
  have hKc : K ≤ 9223372036854775807 := by have := ht1.cap; omega
  have hKb : K ≤ 1000000 := by
    have h := rowG_bd (prmL n) chkR n []
    have e1 := prm_bd h1 h4
    have e2 : (prmL n).length ^ n ≤ 24 ^ n := Nat.pow_le_pow_left e1.1 n
    have e3 : (24 : Nat) ^ n ≤ 24 ^ 4 := Nat.pow_le_pow_right (by omega) h4
    have e4 : (24 : Nat) ^ 4 ≤ 1000000 := by decide
    have e5 := HKL.out
    unfold rowL at e5
    omega
  rw [HLL.out] at HKL HFS HRP HAL ht1
  go_wp2
  go_loopw [3, 5, 9] (fun s3 _ i wr => ∃ (j : Nat) (a' : Option Addr) (m c' : Nat) (us' : List TV), j ≤ K ∧ i = .int .i64 j ∧ s3 = .slice a' m c' ∧ OwnRk wr w.heap.size a' m c' us' ((L.take j).filter (lstB n)) ∧ OwnTT wr w.heap.size a1 K c1 us L ∧ Hid (∀ g, a' = some ⟨g, 0, none⟩ → ¬ TTS a1 K us g) ∧ Hid (∀ i, i < m → ∃ j', j' < j ∧ us'.getD i tvO = us.getD j' tvO) ∧ m ≤ j ∧ Below w.heap.size w wr) (fun _ _ i _ => K - (intOf i).toNat)
  case atStart => exact ⟨0, none, 0, 0, [], Nat.zero_le _, rfl, rfl, OwnRk.nil _ _, ht1, Lib.hid (fun g h => by cases h), Lib.hid (fun i h => absurd h (by omega)), Nat.le_refl _, hb1⟩
  case round =>
    obtain ⟨j, a', m, c', us', hj, rfl, rfl, hR, hT, HA, HU, hmj, hq⟩ := hrel
    by_cases hlt : j < K
    · obtain ⟨g1, rfl, hg1, hcell, _⟩ := hT.cells (by omega)
      have cj := hcell j hlt
      have hv := hT.tab j hlt
      obtain ⟨⟨⟨va, vn, vc⟩, vv⟩, HV⟩ : ∃ u, Hid (us.getD j tvO = u) := ⟨_, rfl⟩
      rw [HV.out] at cj hv
      change wr.cell? _ = some (.slice va vn vc) at cj
      have hrp := HRP.out j (by have := HKL.out; omega)
      have hl5 : n = vn := by have := OwnT.len hv; rw [hrp.1] at this; exact this.symm
      subst hl5
      have HSQ := Lib.hid hrp.sq
      have i1 : (0 : Int) ≤ (j : Int) := by omega
      have i2 : (j : Int) < (K : Int) := by omega
      have HF := Lib.hid (HFS.out j (by have := HKL.out; omega))
      obtain ⟨t, HTT⟩ : ∃ t, Hid (L.getD j [] = t) := ⟨_, rfl⟩
      rw [HTT.out] at HF HSQ hv
      clear hcell hrp
      cases hb : lstB n t with
      | true =>
        have HF1 : Hid ((L.take (j + 1)).filter (lstB n) = (L.take j).filter (lstB n) ++ [t]) := Lib.hid (by rw [HF.out, hb]; rfl)
        have HBB := Lib.hid hb
        clear hb
        go_wp2_with fail
        refine (isLeast_any n va vc t wr h1 h4 (OwnT.tbl hv) HSQ.out).mono ?_
        rintro e w3 ⟨rfl, hb3⟩
        rw [HBB.out]
        have hR3 := hR.below hb3
        have hT3 := hT.below hb3
        have hv3 : OwnT w3 w.heap.size va n vc vv t := OwnT.below hv hb3
        have hz3 : w.heap.size ≤ w3.heap.size := Nat.le_trans hq.size hb3.size
        have HAP : Hid (∀ q, TblS va n vv q → ¬ TTS a' m us' q) := Lib.hid fun q h1 h2 => by
          have h3 : TvS (us.getD j tvO) q := by rw [HV.out]; exact h1
          rcases h2 with h2 | ⟨i, hi, h2⟩
          · exact HA.out q h2 (.inr ⟨j, hlt, h3⟩)
          · obtain ⟨j', hj', e⟩ := HU.out i hi
            rw [e] at h2
            exact hT.pw j' j (by omega) hlt (by omega) q h2 h3
        have HUL := Lib.hid hR.ulen
        have HHI := Lib.hid hT.uHi
        go_wp2_with (at_builtin; refine appRk rfl rfl hR3 rfl hv3 HAP.out rfl (by omega) hz3 ?_; intro g' cc w8 hO hg8 hat8 hb8)
        go_roundw
        case rel =>
          refine ⟨j + 1, _, m + 1, cc, _, by omega, by go_num, rfl, by rw [HF1.out]; exact hO, hT3.keep (fun g hg hlt => hg8.block g hlt (fun e => HA.out g (hR3.ownBlk e.symm) hg)), Lib.hid (fun g h => ?_), Lib.hid (fun i hi => ?_), by omega, (hq.trans (hb3.mono hq.size)).trans hb8⟩
          · cases h
            rcases hat8 with h2 | h2
            · exact HA.out _ (hR3.ownBlk h2)
            · intro h3; have := HHI.out _ h3; have := hb3.size; omega
          · by_cases e : i < m
            · obtain ⟨j', hj', e'⟩ := HU.out i e
              exact ⟨j', by omega, by rw [← e']; simp [List.getD_eq_getElem?_getD, List.getElem?_append_left (show i < us'.length by have := HUL.out; omega)]⟩
            · obtain rfl : i = m := by omega
              exact ⟨j, by omega, by rw [HV.out, ← HUL.out]; simp [List.getD_eq_getElem?_getD]⟩
        case measure => simp [intOf]; omega
      | false =>
        have HF1 : Hid ((L.take (j + 1)).filter (lstB n) = (L.take j).filter (lstB n)) := Lib.hid (by rw [HF.out, hb]; simp)
        have HBB := Lib.hid hb
        clear hb
        go_wp2_with fail
        refine (isLeast_any n va vc t wr h1 h4 (OwnT.tbl hv) HSQ.out).mono ?_
        rintro e w3 ⟨rfl, hb3⟩
        rw [HBB.out]
        go_wp2
        go_roundw
        case rel => exact ⟨j + 1, a', m, c', us', by omega, by go_num, rfl, by rw [HF1.out]; exact hR.below hb3, hT.below hb3, HA, Lib.hid (fun i hi => by obtain ⟨j', h1, h2⟩ := HU.out i hi; exact ⟨j', by omega, h2⟩), by omega, hq.trans (hb3.mono hq.size)⟩
        case measure => simp [intOf]; omega
    · obtain rfl : K = j := by omega
      go_wp2
      go_ret
      exact ⟨a', m, c', us', rfl, by rw [HAL.out] at hR; exact hR, hq⟩
end Go.Proofs.Ytehomfbehhlhmaa
