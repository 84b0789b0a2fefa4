/-
  Walks and plain laws of this seat, some texts in one.
  No condition but bounds on lengths.
-/
import Derived.Test.YtaddclaadbjnlaaGreatPr10
import Derived.Test.YtaddclaadbjnlaaGreatPr6
import Derived.Test.YtaddclaadbjnlaaGreatPr30
import Derived.Test.YtaddclaadbjnlaaGreatPr11
import Derived.Test.YtaddclaadbjnlaaGreatPr12
import Derived.Test.YtaddclaadbjnlaaGreatPr13
import Derived.Test.YtaddclaadbjnlaaGreatPr7
namespace Go.Proofs.YtaddclaadbjnlaaGreat
set_option maxRecDepth 100000
set_option linter.unusedVariables false
set_option linter.unusedSimpArgs false
open Go.RowKit
theorem rackRows_fit {N : Nat} (h4 : N ≤ 4) : FitH 46 #[] chkR N :=
  ⟨enters_of Tryz.func46 (by kernel_rfl) rfl, fun w a k c rows h hk hp => rackRows_any N N a k c rows w h hk (by omega) hp⟩
set_option maxHeartbeats 4000000 in
theorem impl_Crk_l (x : Int) (w : World) (hx : I64 x) :
    Calls Tryz.prog 10 #[.int .i64 x] w (RetI w (crkF x).1 (crkF x).2) := by
  have hin := fun w => within_any x 1 4 w
  by_cases h : 1 ≤ x ∧ x ≤ 4
  · obtain ⟨n, rfl⟩ : ∃ n : Nat, x = n := ⟨x.toNat, by omega⟩
    obtain ⟨K, HK⟩ : ∃ K : Nat, Hid ((rckN n).length = K) := ⟨_, rfl⟩
    have hq : crkF n = ((K : Int), 0) := by unfold crkF; rw [if_pos h, Int.toNat_natCast, HK.out]
    rw [hq]
    clear hq
    have hd : (decide ((1 : Int) ≤ n) && decide ((n : Int) ≤ 4)) = true := by simp; omega
    rw [hd] at hin
    have HIN := Lib.hid hin
    clear hin hd
    have h1 : 1 ≤ n := by omega
    have h4 : n ≤ 4 := by omega
    clear h
    go_enter Tryz.func10, Tryz.ntmps10
    go_wp2_with fail
    refine (HIN.out _).mono ?_
    rintro e w1 ⟨rfl, rfl⟩
    go_wp2_with fail
    refine (rowTables_any n _ _ chkR _ h1 h4 (rackRows_fit h4)).mono ?_
    rintro e w2 ⟨a, k, c, us, rfl, ht, hb⟩
    obtain rfl : K = k := by rw [← HK.out, ← rck_eq ⟨n, by omega⟩ h1]; exact ht.len.symm
    go_wp2
    go_ret2
    exact ⟨rfl, hb⟩
  · have hq : crkF x = (0, 2) := by unfold crkF; rw [if_neg h]
    rw [hq]
    clear hq
    have hd : (decide ((1 : Int) ≤ x) && decide (x ≤ 4)) = false := by simp; omega
    rw [hd] at hin
    have HIN := Lib.hid hin
    clear hin hd
    go_enter Tryz.func10, Tryz.ntmps10
    go_wp2_with fail
    refine (HIN.out _).mono ?_
    rintro e w1 ⟨rfl, rfl⟩
    go_wp2
    go_ret2
    exact ⟨rfl, Below.refl _ _⟩
end Go.Proofs.YtaddclaadbjnlaaGreat

namespace Go.Proofs.YtaddclaadbjnlaaGreat
set_option maxRecDepth 100000
set_option linter.unusedVariables false
set_option linter.unusedSimpArgs false
open Go.RowKit
def lstB (n : Nat) (t : List (List Int)) : Bool := decide (t = leastL n t)
set_option maxHeartbeats 2000000 in
theorem isLeast_any (N : Nat) (at_ : Option Addr) (ct : Nat) (t : List (List Int)) (w : World) (h1 : 1 ≤ N) (h4 : N ≤ 4) (hT : Tbl w at_ N t) (hs : Sq N t) :
    Calls Tryz.prog 67 #[.slice at_ N ct] w fun e w' => e = .returned (.bool (lstB N t)) ∧ Below w.heap.size w w' := by
  have HS := Lib.hid hs; clear hs
  obtain ⟨B, HB⟩ : ∃ B, Hid (lstB N t = B) := ⟨_, rfl⟩
  rw [HB.out]
  go_enter Tryz.func67, Tryz.ntmps67
  go_wp2_with fail
  refine (leastTable_any N at_ ct t w h1 h4 hT HS.out).mono ?_
  rintro e w1 ⟨a, c, vs, rfl, ho, hb⟩
  go_wp2_with fail
  refine (equalTables_any _ _ _ _ _ _ _ _ w1 (hT.below hb) ho.tbl (by omega)).mono ?_
  rintro e w2 ⟨rfl, rfl⟩
  go_wp2
  go_ret
  exact ⟨ret_bool (by rw [← HB.out]; rfl), hb⟩
theorem rowG_mem {ps : List (List Int)} {fits : List (List Int) → Bool} : ∀ (m : Nat) (o t : List (List Int)), t ∈ rowG ps fits m o → ∃ r, t = o ++ r ∧ r.length = m ∧ ∀ p ∈ r, p ∈ ps := by
  intro m
  induction m with
  | zero => intro o t h; simp [rowG] at h; exact ⟨[], by simp [h], rfl, by simp⟩
  | succ m ih =>
    intro o t h
    simp only [rowG, List.mem_flatMap] at h
    obtain ⟨p, hp, ht⟩ := h
    split at ht
    · obtain ⟨r, h1, h2, h3⟩ := ih _ _ ht
      exact ⟨p :: r, by rw [h1]; simp, by simp [h2], fun q hq => by
        rcases List.mem_cons.1 hq with e | e
        · rw [e]; exact hp
        · exact h3 q e⟩
    · simp at ht
theorem rows_rwsP {n : Nat} (h1 : 1 ≤ n) (h4 : n ≤ 4) {r : List (List Int)} (hl : r.length = n) (hm : ∀ p ∈ r, p ∈ prmL n) : RwsP n r := by
  refine ⟨hl, fun i hi => ?_⟩
  have := hm r[i] (List.getElem_mem (by omega))
  obtain ⟨j, hj, ej⟩ := List.getElem_of_mem this
  have h := prm_isP h1 h4 j hj
  rw [List.getD_eq_getElem?_getD, List.getElem?_eq_getElem hj, Option.getD_some, ej] at h
  rw [List.getD_eq_getElem?_getD, List.getElem?_eq_getElem (by omega), Option.getD_some]
  exact h
theorem rowL_rwsP {n : Nat} (h1 : 1 ≤ n) (h4 : n ≤ 4) {fits : List (List Int) → Bool} {i : Nat} (hi : i < (rowL n fits).length) : RwsP n ((rowL n fits).getD i []) := by
  rw [List.getD_eq_getElem?_getD, List.getElem?_eq_getElem hi, Option.getD_some]
  obtain ⟨r, e, hl, hm⟩ := rowG_mem _ _ _ (List.getElem_mem hi)
  rw [List.nil_append] at e
  rw [e]
  exact rows_rwsP h1 h4 hl hm
theorem filter_take_succ {α : Type} (p : α → Bool) (l : List α) (d : α) {k : Nat} (h : k < l.length) : (l.take (k + 1)).filter p = (l.take k).filter p ++ if p (l.getD k d) then [l.getD k d] else [] := by
  rw [List.take_succ_eq_append_getElem h, List.filter_append]
  simp only [List.getD_eq_getElem?_getD, List.getElem?_eq_getElem h, Option.getD_some, List.filter_cons, List.filter_nil]
set_option maxHeartbeats 16000000 in
theorem allRacks_any (n : Nat) (w : World) (h1 : 1 ≤ n) (h4 : n ≤ 4) :
    Calls Tryz.prog 38 #[.int .i64 n] w fun e w' => ∃ a k c us, e = .returned (.slice a k c) ∧ OwnRk w' w.heap.size a k c us ((rowL n chkR).filter (lstB n)) ∧ Below w.heap.size w w' := by
  obtain ⟨L, HLL⟩ : ∃ L, Hid (rowL n chkR = L) := ⟨_, rfl⟩
  rw [HLL.out]
  go_enter Tryz.func38, Tryz.ntmps38
  go_wp2_with fail
  refine (rowTables_any n _ _ chkR w h1 h4 (rackRows_fit h4)).mono ?_
  rintro e w1 ⟨a1, K, c1, us, rfl, ht1, hb1⟩
  have hz1 := hb1.size
  have HKL := Lib.hid ht1.len
  have HFS := Lib.hid (fun k (h : k < (rowL n chkR).length) => filter_take_succ (lstB n) (rowL n chkR) [] h)
  have HRP := Lib.hid (fun i (hi : i < (rowL n chkR).length) => rowL_rwsP h1 h4 (fits := chkR) hi)
  have HAL : Hid ((rowL n chkR).take K = rowL n chkR) := Lib.hid (by rw [HKL.out, List.take_length])
  have hKc : K ≤ 9223372036854775807 := by have := ht1.cap; omega
  have hKb : K ≤ 1000000 := by
    have h := rowG_bd (prmL n) chkR n []
    have e1 := prm_bd h1 h4
    have e2 : (prmL n).length ^ n ≤ 24 ^ n := Nat.pow_le_pow_left e1.1 n
    have e3 : (24 : Nat) ^ n ≤ 24 ^ 4 := Nat.pow_le_pow_right (by omega) h4
    have e4 : (24 : Nat) ^ 4 ≤ 1000000 := by decide
    have e5 := HKL.out
    unfold rowL at e5
    omega
  rw [HLL.out] at HKL HFS HRP HAL ht1
  go_wp2
  go_loopw [3, 5, 9] (fun s3 _ i wr => ∃ (j : Nat) (a' : Option Addr) (m c' : Nat) (us' : List TV), j ≤ K ∧ i = .int .i64 j ∧ s3 = .slice a' m c' ∧ OwnRk wr w.heap.size a' m c' us' ((L.take j).filter (lstB n)) ∧ OwnTT wr w.heap.size a1 K c1 us L ∧ Hid (∀ g, a' = some ⟨g, 0, none⟩ → ¬ TTS a1 K us g) ∧ Hid (∀ i, i < m → ∃ j', j' < j ∧ us'.getD i tvO = us.getD j' tvO) ∧ m ≤ j ∧ Below w.heap.size w wr) (fun _ _ i _ => K - (intOf i).toNat)
  case atStart => exact ⟨0, none, 0, 0, [], Nat.zero_le _, rfl, rfl, OwnRk.nil _ _, ht1, Lib.hid (fun g h => by cases h), Lib.hid (fun i h => absurd h (by omega)), Nat.le_refl _, hb1⟩
  case round =>
    obtain ⟨j, a', m, c', us', hj, rfl, rfl, hR, hT, HA, HU, hmj, hq⟩ := hrel
    by_cases hlt : j < K
    · obtain ⟨g1, rfl, hg1, hcell, _⟩ := hT.cells (by omega)
      have cj := hcell j hlt
      have hv := hT.tab j hlt
      obtain ⟨⟨⟨va, vn, vc⟩, vv⟩, HV⟩ : ∃ u, Hid (us.getD j tvO = u) := ⟨_, rfl⟩
      rw [HV.out] at cj hv
      change wr.cell? _ = some (.slice va vn vc) at cj
      have hrp := HRP.out j (by have := HKL.out; omega)
      have hl5 : n = vn := by have := OwnT.len hv; rw [hrp.1] at this; exact this.symm
      subst hl5
      have HSQ := Lib.hid hrp.sq
      have i1 : (0 : Int) ≤ (j : Int) := by omega
      have i2 : (j : Int) < (K : Int) := by omega
      have HF := Lib.hid (HFS.out j (by have := HKL.out; omega))
      obtain ⟨t, HTT⟩ : ∃ t, Hid (L.getD j [] = t) := ⟨_, rfl⟩
      rw [HTT.out] at HF HSQ hv
      clear hcell hrp
      cases hb : lstB n t with
      | true =>
        have HF1 : Hid ((L.take (j + 1)).filter (lstB n) = (L.take j).filter (lstB n) ++ [t]) := Lib.hid (by rw [HF.out, hb]; rfl)
        have HBB := Lib.hid hb
        clear hb
        go_wp2_with fail
        refine (isLeast_any n va vc t wr h1 h4 (OwnT.tbl hv) HSQ.out).mono ?_
        rintro e w3 ⟨rfl, hb3⟩
        rw [HBB.out]
        have hR3 := hR.below hb3
        have hT3 := hT.below hb3
        have hv3 : OwnT w3 w.heap.size va n vc vv t := OwnT.below hv hb3
        have hz3 : w.heap.size ≤ w3.heap.size := Nat.le_trans hq.size hb3.size
        have HAP : Hid (∀ q, TblS va n vv q → ¬ TTS a' m us' q) := Lib.hid fun q h1 h2 => by
          have h3 : TvS (us.getD j tvO) q := by rw [HV.out]; exact h1
          rcases h2 with h2 | ⟨i, hi, h2⟩
          · exact HA.out q h2 (.inr ⟨j, hlt, h3⟩)
          · obtain ⟨j', hj', e⟩ := HU.out i hi
            rw [e] at h2
            exact hT.pw j' j (by omega) hlt (by omega) q h2 h3
        have HUL := Lib.hid hR.ulen
        have HHI := Lib.hid hT.uHi
        go_wp2_with (at_builtin; refine appRk rfl rfl hR3 rfl hv3 HAP.out rfl (by omega) hz3 ?_; intro g' cc w8 hO hg8 hat8 hb8)
        go_roundw
        case rel =>
          refine ⟨j + 1, _, m + 1, cc, _, by omega, by go_num, rfl, by rw [HF1.out]; exact hO, hT3.keep (fun g hg hlt => hg8.block g hlt (fun e => HA.out g (hR3.ownBlk e.symm) hg)), Lib.hid (fun g h => ?_), Lib.hid (fun i hi => ?_), by omega, (hq.trans (hb3.mono hq.size)).trans hb8⟩
          · cases h
            rcases hat8 with h2 | h2
            · exact HA.out _ (hR3.ownBlk h2)
            · intro h3; have := HHI.out _ h3; have := hb3.size; omega
          · by_cases e : i < m
            · obtain ⟨j', hj', e'⟩ := HU.out i e
              exact ⟨j', by omega, by rw [← e']; simp [List.getD_eq_getElem?_getD, List.getElem?_append_left (show i < us'.length by have := HUL.out; omega)]⟩
            · obtain rfl : i = m := by omega
              exact ⟨j, by omega, by rw [HV.out, ← HUL.out]; simp [List.getD_eq_getElem?_getD]⟩
        case measure => simp [intOf]; omega
      | false =>
        have HF1 : Hid ((L.take (j + 1)).filter (lstB n) = (L.take j).filter (lstB n)) := Lib.hid (by rw [HF.out, hb]; simp)
        have HBB := Lib.hid hb
        clear hb
        go_wp2_with fail
        refine (isLeast_any n va vc t wr h1 h4 (OwnT.tbl hv) HSQ.out).mono ?_
        rintro e w3 ⟨rfl, hb3⟩
        rw [HBB.out]
        go_wp2
        go_roundw
        case rel => exact ⟨j + 1, a', m, c', us', by omega, by go_num, rfl, by rw [HF1.out]; exact hR.below hb3, hT.below hb3, HA, Lib.hid (fun i hi => by obtain ⟨j', h1, h2⟩ := HU.out i hi; exact ⟨j', by omega, h2⟩), by omega, hq.trans (hb3.mono hq.size)⟩
        case measure => simp [intOf]; omega
    · obtain rfl : K = j := by omega
      go_wp2
      go_ret
      exact ⟨a', m, c', us', rfl, by rw [HAL.out] at hR; exact hR, hq⟩
end Go.Proofs.YtaddclaadbjnlaaGreat

namespace Go.Proofs.YtaddclaadbjnlaaGreat
set_option maxRecDepth 100000
set_option linter.unusedVariables false
set_option linter.unusedSimpArgs false
def allRw (n : Nat) : Nat → List (List Int)
  | 0 => [[]]
  | m + 1 => (List.range n).flatMap fun (x : Nat) => (allRw n m).map fun l => (x : Int) :: l
theorem allRw_of {n : Nat} : ∀ (m : Nat) (p : List Int), p.length = m → (∀ x ∈ p, 0 ≤ x ∧ x < n) → p ∈ allRw n m := by
  intro m
  induction m with
  | zero => intro p h _; rw [List.length_eq_zero_iff] at h; subst h; simp [allRw]
  | succ m ih =>
    intro p h hp
    match p, h with
    | x :: p, h =>
      have hx := hp x (by simp)
      simp only [allRw, List.mem_flatMap, List.mem_range, List.mem_map]
      exact ⟨x.toNat, by omega, p, ih p (by simpa using h) (fun y hy => hp y (by simp [hy])), by rw [show ((x.toNat : Nat) : Int) = x by omega]⟩
theorem rw_prm : ∀ n : Fin 5, ((allRw n.1 n.1).all fun p => !permOk p || (prmL n.1).contains p) = true := by decide +kernel
theorem prm_of {n : Nat} (h4 : n ≤ 4) {p : List Int} (hl : p.length = n) (hp : ∀ x ∈ p, 0 ≤ x ∧ x < n) (h : permOk p = true) : p ∈ prmL n := by
  have := List.all_eq_true.1 (rw_prm ⟨n, by omega⟩) p (allRw_of n p hl hp)
  rw [h] at this
  simpa using this
theorem allT_of {ps : List (List Int)} : ∀ (m : Nat) (o r : List (List Int)), r.length = m → (∀ p ∈ r, p ∈ ps) → o ++ r ∈ allT ps m o := by
  intro m
  induction m with
  | zero => intro o r h _; rw [List.length_eq_zero_iff] at h; subst h; simp [allT]
  | succ m ih =>
    intro o r h hp
    match r, h with
    | p :: r, h =>
      simp only [allT, List.mem_flatMap]
      refine ⟨p, hp p (by simp), ?_⟩
      have := ih (o ++ [p]) r (by simpa using h) (fun q hq => hp q (by simp [hq]))
      simpa using this
theorem chkR_mono (o r : List (List Int)) (h : chkR (o ++ r) = true) : chkR o = true := by
  have hd : ∀ x, x < o.length → (o ++ r).getD x [] = o.getD x [] := fun x hx => by simp [List.getD_eq_getElem?_getD, List.getElem?_append_left hx]
  refine chkR_of fun x hx => chkX_of fun y hy => ?_
  have h1 := List.all_eq_true.1 h x (List.mem_range.2 (by simp; omega))
  have h2 := List.all_eq_true.1 h1 y (List.mem_range.2 (by simp; omega))
  simp only [chkP, hd x hx, hd y hy] at h2 ⊢
  generalize ((o.getD x []).getD y 0).toNat = z at h2 ⊢
  by_cases hz : o.length ≤ z
  · rw [decide_eq_true hz]; rfl
  · rw [hd _ (by omega)] at h2
    rw [decide_eq_false (show ¬ (o ++ r).length ≤ z by simp; omega), Bool.false_or] at h2
    rw [h2, Bool.or_true]
theorem rk_chk {t : List (List Int)} (hs : Sq t.length t) (h : rkOk t.length t = true) : chkR t = true := by
  refine chkR_of fun x hx => chkX_of fun y hy => ?_
  have hz := (hs.2 x hx).2 y hy
  have e : ((t.getD x []).getD y 0).toNat = tv t x y := rfl
  simp only [chkP, e]
  rw [Bool.or_eq_true]
  refine .inr (decide_eq_true ?_)
  apply List.ext_getElem
  · rw [thL_len, thL_len, (hs.2 x hx).1, (hs.2 y hy).1]
  · intro i h1 h2
    rw [thL_len, (hs.2 x hx).1] at h1
    have hr := of_decide_eq_true (allN_get (allN_get (allN_get h hx) hy) h1)
    have g1 : ∀ a b, a < t.length → b < t.length → (t.getD a []).getD b 0 = ((tv t a b : Nat) : Int) := fun a b ha hb => ((hs.2 a ha).2 b hb).2
    have g2 : ∀ a b (hb : b < (t.getD a []).length), a < t.length → (t.getD a [])[b] = ((tv t a b : Nat) : Int) := fun a b hb ha => by
      rw [← g1 a b ha (by rw [(hs.2 a ha).1] at hb; exact hb), List.getD_eq_getElem?_getD (l := t.getD a []), List.getElem?_eq_getElem hb]; rfl
    simp only [thL, List.getElem_map]
    rw [g2 _ _ _ hx, g2 _ _ _ hy, Int.toNat_natCast, Int.toNat_natCast, g1 _ _ hz.1 ((hs.2 x hx).2 i h1).1, g1 _ _ hx ((hs.2 y hy).2 i h1).1, hr]
theorem rk_in {t : List (List Int)} (h : isRk t = true) (h4 : t.length ≤ 4) : t ∈ rowL t.length chkR := by
  obtain ⟨q1, q2, q3⟩ := isRk_parts h
  obtain ⟨h1, _, hs⟩ := isTab_sq q1
  rw [rowL_filter h1 chkR_mono, List.mem_filter]
  refine ⟨?_, rk_chk hs q3⟩
  have := allT_of (ps := prmL t.length) t.length [] t rfl (fun p hp => ?_)
  · simpa using this
  · obtain ⟨i, hi, rfl⟩ := List.getElem_of_mem hp
    have hh := hs.2 i hi
    rw [List.getD_eq_getElem?_getD, List.getElem?_eq_getElem hi] at hh
    simp only [Option.getD_some] at hh
    refine prm_of h4 hh.1 (fun x hx => ?_) (List.all_eq_true.1 q2 _ hp)
    obtain ⟨j, hj, rfl⟩ := List.getElem_of_mem hx
    have := hh.2 j (by omega)
    rw [List.getD_eq_getElem?_getD, List.getElem?_eq_getElem hj] at this
    simp only [Option.getD_some] at this
    rw [this.2]; omega
end Go.Proofs.YtaddclaadbjnlaaGreat

namespace Go.Proofs.YtaddclaadbjnlaaGreat
set_option maxRecDepth 100000
set_option linter.unusedVariables false
set_option linter.unusedSimpArgs false
theorem lst_in : ∀ n : Fin 5, 1 ≤ n.1 → ((rowL n.1 chkR).all fun t => (rowL n.1 chkR).contains (leastL n.1 t) && lstB n.1 (leastL n.1 t)) = true := by decide +kernel
theorem least_in {t : List (List Int)} (h : isRk t = true) (h4 : t.length ≤ 4) : leastL t.length t ∈ (rowL t.length chkR).filter (lstB t.length) := by
  have h1 := (isTab_sq (isRk_parts h).1).1
  have := List.all_eq_true.1 (lst_in ⟨t.length, by omega⟩ h1) t (rk_in h h4)
  rw [Bool.and_eq_true] at this
  exact List.mem_filter.2 ⟨by simpa using this.1, this.2⟩
end Go.Proofs.YtaddclaadbjnlaaGreat
