/-
  Walks and plain laws of this seat, some texts in one.
  No condition but bounds on lengths.
-/
import Derived.Test.YtaddclaadbjnlaaGreatPs39
import Derived.Deep.RegionHeld3
import Derived.Test.YtaddclaadbjnlaaGreatPs7
import Derived.Test.YtaddclaadbjnlaaGreatPs3
import Derived.Test.YtaddclaadbjnlaaGreatPs5
import Derived.Test.YtaddclaadbjnlaaGreatPs1
import Derived.Test.YtaddclaadbjnlaaGreatPs38
import Derived.Test.YtaddclaadbjnlaaGreatPs34
import Derived.Test.YtaddclaadbjnlaaGreatPs29
import Derived.Test.YtaddclaadbjnlaaGreatPs33
import Derived.Test.YtaddclaadbjnlaaGreatPs2
import Derived.Test.YtaddclaadbjnlaaGreatPs31
import Derived.Test.YtaddclaadbjnlaaGreatPs14
import Derived.Test.YtaddclaadbjnlaaGreatPs30
import Derived.Test.YtaddclaadbjnlaaGreatPs4
namespace Go.Proofs.YtaddclaadbjnlaaGreat
set_option maxRecDepth 100000
set_option linter.unusedVariables false
set_option linter.unusedSimpArgs false
open Go.RowKit
theorem IsP.own {n : Nat} {p : List Int} (h : IsP n p) : ∃ g, IsPf n p (fun i => (p.getD i 0).toNat) g := by
  obtain ⟨f, g, hl, h1, h2⟩ := h
  have e : ∀ i, i < n → (p.getD i 0).toNat = f i := fun i hi => by rw [h2 i hi]; simp
  refine ⟨g, hl, fun i hi => ?_, fun i hi => ?_⟩
  · have hh := h1 i hi
    refine ⟨by show (p.getD i 0).toNat < n; rw [e i hi]; exact hh.1, hh.2.1, ?_, ?_⟩
    · show (p.getD (g i) 0).toNat = i
      rw [e _ hh.2.1]; exact hh.2.2.1
    · show g ((p.getD i 0).toNat) = i
      rw [e i hi]; exact hh.2.2.2
  · show _ = (((p.getD i 0).toNat : Nat) : Int)
    rw [e i hi]; exact h2 i hi
theorem Tbl.single {w : World} {a : Option Addr} {n c b : Nat} {xs : List Int} {t : TypeId} (h : Row w a n xs) (hn : n ≤ 9223372036854775807) (hb : b = w.heap.size) : Tbl (w.alloc (.cells #[.slice a n c] t)) (some ⟨b, 0, none⟩) 1 [xs] :=
by
  refine ⟨rfl, fun i hi => ?_⟩
  have e : i = 0 := by omega
  subst e
  have hL := Loc.new w hb #[.slice a n c] t
  exact ⟨b, 0, a, n, c, rfl, hL.lt, hL.one.1, h.alloc _, hn⟩
end Go.Proofs.YtaddclaadbjnlaaGreat
namespace Go.Proofs.YtaddclaadbjnlaaGreat
set_option linter.unusedVariables false
set_option linter.unusedSimpArgs false
/-! ### tables by a function, one value of which turns -/
/-! ### labels are numbers of at least 0, and the greatest of them -/
/-! ### the numbers -/
end Go.Proofs.YtaddclaadbjnlaaGreat
namespace Go.Proofs.YtaddclaadbjnlaaGreat
set_option maxRecDepth 100000
set_option linter.unusedVariables false
set_option linter.unusedSimpArgs false
open Go.RowKit
set_option maxHeartbeats 400000 in
theorem likeInts_any (a1 a2 : Option Addr) (n1 n2 c1 c2 : Nat) (xs ys : List Int) (w : World) (h1 : Row w a1 n1 xs) (h2 : Row w a2 n2 ys) (hm : n1 ≤ 9223372036854775807) :
    Calls Tryz.prog 52 #[.slice a1 n1 c1, .slice a2 n2 c2] w fun e w' => e = .returned (.bool (decide (xs = ys))) ∧ ∃ n, w' = w.drewN n := by
  have hl1 := h1.len
  have hl2 := h2.len
  by_cases hl : n1 = n2
  · subst hl
    have HL := Lib.hid hl1; have HL2 := Lib.hid hl2; clear hl1 hl2
    have hb : ((n1 : Int) != (n1 : Int)) = false := by simp
    go_enter Tryz.func52, Tryz.ntmps52
    go_wp2
    clear hb
    go_loopw [5] (fun i wr => ∃ k : Nat, k ≤ n1 ∧ i = .int .i64 k ∧ xs.take k = ys.take k ∧ ∃ n, wr = w.drewN n) (fun i _ => n1 - (intOf i).toNat)
    case atStart => exact ⟨0, Nat.zero_le _, rfl, by simp, 0, rfl⟩
    case round =>
      obtain ⟨k, hk, rfl, ht, n, rfl⟩ := hrel
      have HT := Lib.hid ht; clear ht
      by_cases hlt : k < n1
      · obtain ⟨b1, o1, rfl, g1⟩ := h1.at k hlt
        obtain ⟨b2, o2, rfl, g2⟩ := h2.at k hlt
        have hx : k < xs.length := by have := HL.out; omega
        have hy : k < ys.length := by have := HL2.out; omega
        clear h1 h2
        go_wp2
        go_quiet (fail)
        go_wp2
        · go_ret
          refine ⟨ret_bool ?_, n + nq, by rw [World.drewN_drewN]⟩
          rename_i hne
          simp only [Bool.false_eq, decide_eq_false_iff_not]
          rintro rfl
          simp at hne
        · go_roundw
          case rel =>
            rename_i hne
            refine ⟨k + 1, by omega, by go_num, take_eq_succ hx hy HT.out (by simpa using hne), n + nq, rfl⟩
          case measure => simp [intOf]; omega
      · obtain rfl : k = n1 := by omega
        go_wp2
        go_ret
        refine ⟨ret_bool ?_, _, rfl⟩
        have := HT.out
        rw [List.take_of_length_le (by have := HL.out; omega), List.take_of_length_le (by have := HL2.out; omega)] at this
        simp [this]
  · have hb : ((n1 : Int) != (n2 : Int)) = true := by simp; omega
    have hne : ¬ xs = ys := by rintro rfl; omega
    clear hl1 hl2
    go_enter Tryz.func52, Tryz.ntmps52
    go_wp2
    go_ret
    exact ⟨ret_bool (by simp [hne]), 0, rfl⟩
set_option maxHeartbeats 1000000 in
theorem same9_any (a1 a2 : Option Addr) (n1 n2 c1 c2 : Nat) (xs ys : List (List Int)) (w : World) (h1 : Tbl w a1 n1 xs) (h2 : Tbl w a2 n2 ys) (hm : n1 ≤ 9223372036854775807) :
    Calls Tryz.prog 13 #[.slice a1 n1 c1, .slice a2 n2 c2] w fun e w' => e = .returned (.bool (decide (xs = ys))) ∧ ∃ n, w' = w.drewN n := by
  have hl1 := h1.len
  have hl2 := h2.len
  by_cases hl : n1 = n2
  · subst hl
    have HL := Lib.hid hl1; have HL2 := Lib.hid hl2; clear hl1 hl2
    have hb : ((n1 : Int) != (n1 : Int)) = false := by simp
    go_enter Tryz.func13, Tryz.ntmps13
    go_wp2
    clear hb
    go_loopw [5] (fun i wr => ∃ k : Nat, k ≤ n1 ∧ i = .int .i64 k ∧ Hid (xs.take k = ys.take k) ∧ Hid (∃ n, wr = w.drewN n)) (fun i _ => n1 - (intOf i).toNat)
    case atStart => exact ⟨0, Nat.zero_le _, rfl, by simp [Hid], ⟨0, rfl⟩⟩
    case round =>
      obtain ⟨k, hk, rfl, HT, HW⟩ := hrel
      obtain ⟨m, hm'⟩ := HW.out
      have h1' : Tbl wr a1 n1 xs := by rw [hm']; exact h1.drewN m
      have h2' : Tbl wr a2 n1 ys := by rw [hm']; exact h2.drewN m
      clear hm'
      by_cases hlt : k < n1
      · obtain ⟨b1, o1, a1', m1, c1', rfl, g1, r1, lm1⟩ := h1'.at k hlt
        obtain ⟨b2, o2, a2', m2, c2', rfl, g2, r2, lm2⟩ := h2'.at k hlt
        have hx : k < xs.length := by have := HL.out; omega
        have hy : k < ys.length := by have := HL2.out; omega
        rw [Tbl.getD hx] at r1
        rw [Tbl.getD hy] at r2
        clear h1' h2' h1 h2
        by_cases he : xs[k] = ys[k]
        · have hq : ∀ q, Calls Tryz.prog 52 #[.slice a1' m1 c1', .slice a2' m2 c2'] (wr.drewN q) fun e w' => e = .returned (.bool true) ∧ ∃ m, w' = (wr.drewN q).drewN m := fun q =>
            (likeInts_any _ _ _ _ _ _ _ _ _ (r1.drewN q) (r2.drewN q) lm1).mono fun e w' ⟨h, h'⟩ => ⟨h.trans (ret_bool (by simpa using he)), h'⟩
          have HQ := Lib.hid hq; have HE := Lib.hid he; clear hq he
          go_wp2
          go_quiet ((go_at_call 52; exact Calls.quiet_of (HQ.out _)))
          go_wp2
          go_roundw
          case rel =>
            refine ⟨k + 1, by omega, by go_num, ?_, ?_⟩
            · show xs.take (k + 1) = ys.take (k + 1)
              rw [List.take_succ_eq_append_getElem hx, List.take_succ_eq_append_getElem hy, HT.out, HE.out]
            · obtain ⟨m, hm⟩ := HW.out
              exact ⟨m + nq, by rw [hm, World.drewN_drewN]⟩
          case measure => simp [intOf]; omega
        · have hq : ∀ q, Calls Tryz.prog 52 #[.slice a1' m1 c1', .slice a2' m2 c2'] (wr.drewN q) fun e w' => e = .returned (.bool false) ∧ ∃ m, w' = (wr.drewN q).drewN m := fun q =>
            (likeInts_any _ _ _ _ _ _ _ _ _ (r1.drewN q) (r2.drewN q) lm1).mono fun e w' ⟨h, h'⟩ => ⟨h.trans (ret_bool (by simpa using he)), h'⟩
          have hne : ¬ xs = ys := by rintro rfl; exact he rfl
          have HQ := Lib.hid hq; have HE := Lib.hid hne; clear hq he hne
          go_wp2
          go_quiet ((go_at_call 52; exact Calls.quiet_of (HQ.out _)))
          go_wp2
          go_ret
          obtain ⟨m, hm⟩ := HW.out
          exact ⟨ret_bool (by simp [HE.out]), m + nq, by rw [hm, World.drewN_drewN]⟩
      · obtain rfl : k = n1 := by omega
        clear h1' h2' h1 h2
        go_wp2
        go_ret
        refine ⟨ret_bool ?_, HW.out⟩
        have := HT.out
        rw [List.take_of_length_le (by have := HL.out; omega), List.take_of_length_le (by have := HL2.out; omega)] at this
        simp [this]
  · have hb : ((n1 : Int) != (n2 : Int)) = true := by simp; omega
    have hne : ¬ xs = ys := by rintro rfl; omega
    clear hl1 hl2
    go_enter Tryz.func13, Tryz.ntmps13
    go_wp2
    go_ret
    exact ⟨ret_bool (by simp [hne]), 0, rfl⟩
theorem same9_same (a1 a2 : Option Addr) (n1 n2 c1 c2 : Nat) (xs : List (List Int)) (w : World) (h1 : Tbl w a1 n1 xs) (h2 : Tbl w a2 n2 xs) (hm : n1 ≤ 9223372036854775807) :
    Calls Tryz.prog 13 #[.slice a1 n1 c1, .slice a2 n2 c2] w fun e w' => e = .returned (.bool true) ∧ Below w.heap.size w w' :=
  (same9_any a1 a2 n1 n2 c1 c2 xs xs w h1 h2 hm).mono fun e w' ⟨he, m, hw⟩ => ⟨he.trans (ret_bool (by simp)), by rw [hw]; exact below_drewN (Below.refl _ _) m⟩
theorem big_any (a : Option Addr) (n c : Nat) (w : World) (hm : n ≤ 9223372036854775807) :
    Calls Tryz.prog 5 #[.slice a n c] w fun e w' => e = .returned (.bool (decide (4096 < n))) ∧ w = w' := by
  go_enter Tryz.func5, Tryz.ntmps5
  go_wp2
  go_ret
  refine ⟨ret_bool (by rw [Bool.eq_iff_iff]; simp; try omega), rfl⟩
set_option maxHeartbeats 2000000 in
theorem IsNondegenerate_ok (n : Nat) (a a' : Option Addr) (c c' : Nat) (f g : List (List Int)) (w : World) (h1 : Tbl w a n f) (h2 : Tbl w a' n g) (hpm : isPm f g = true) :
    Calls Tryz.prog 26 #[sAgg a n c a' n c'] w fun e w' => e = .returned (.tuple #[.bool (ndF f g), .int .i64 0]) ∧ Below w.heap.size w w' := by
  obtain ⟨hn1, hn, hf, hg⟩ := isPm_sqN hpm h1.len
  have HF := Lib.hid hf; have HG := Lib.hid hg; have HP := Lib.hid hpm
  clear hf hg hpm
  have hA := Loc.new w rfl #[.slice a n c, .slice a' n c'] 53
  have hB := below_al (Below.refl w.heap.size w) (.cells #[.slice a n c, .slice a' n c'] 53)
  have lA := hA.two
  go_enter Tryz.func26, Tryz.ntmps26
  generalize hw0 : w.alloc (.cells #[.slice a n c, .slice a' n c'] 53) = w0 at *
  go_wp2_with fail
  refine (isPairMap_any a n c a' n c' f g _ (h1.below hB) (h2.below hB) (by omega) (by omega)).mono ?_
  rintro e w1 ⟨rfl, hb1⟩
  rw [HP.out]
  have lA1 := (hA.below hb1 hA.lt).two
  have hB1 := below_th hB hb1
  go_wp2_with fail
  refine (isNondegenerate_any n a a' c c' f g _ (h1.below hB1) (h2.below hB1) HF.out HG.out hn).mono ?_
  rintro e w2 ⟨rfl, hb2⟩
  go_wp2
  go_ret2
  exact ⟨rfl, below_th hB1 hb2⟩
set_option maxHeartbeats 4000000 in
theorem solution9_same (n : Nat) (a a' b b' : Option Addr) (c c' d d' : Nat) (f g : List (List Int)) (w : World) (h1 : Tbl w a n f) (h2 : Tbl w a' n g) (k1 : Tbl w b n f) (k2 : Tbl w b' n g) (hn : n ≤ 9223372036854775807) :
    Calls Tryz.prog 30 #[sAgg a n c a' n c', sAgg b n d b' n d'] w fun e w' => e = .returned (.bool true) ∧ Below w.heap.size w w' := by
  have hA := (Loc.new w rfl #[.slice a n c, .slice a' n c'] 53).alloc (.cells #[.slice b n d, .slice b' n d'] 53)
  have hC := Loc.new (b := w.heap.size + 1) (w.alloc (.cells #[.slice a n c, .slice a' n c'] 53)) (by simp) #[.slice b n d, .slice b' n d'] 53
  have hB := below_al (below_al (Below.refl w.heap.size w) (.cells #[.slice a n c, .slice a' n c'] 53)) (.cells #[.slice b n d, .slice b' n d'] 53)
  have lA := hA.two
  have lC := hC.two
  go_enter Tryz.func30, Tryz.ntmps30
  generalize hw0 : (w.alloc (.cells #[.slice a n c, .slice a' n c'] 53)).alloc (.cells #[.slice b n d, .slice b' n d'] 53) = w0 at *
  go_wp2_with fail
  refine (same9_same a b n n c d f _ (h1.below hB) (k1.below hB) hn).mono ?_
  rintro e w1 ⟨rfl, hb1⟩
  have lA1 := (hA.below hb1 hA.lt).two
  have lC1 := (hC.below hb1 hC.lt).two
  have hB1 := below_th hB hb1
  go_wp2_with fail
  refine (same9_same a' b' n n c' d' g _ (h2.below hB1) (k2.below hB1) hn).mono ?_
  rintro e w2 ⟨rfl, hb2⟩
  go_wp2
  go_ret
  exact ⟨rfl, below_th hB1 hb2⟩
set_option maxHeartbeats 2000000 in
theorem DrawAllSolutions_ok (a : Option Addr) (n c : Nat) (xs : List Int) (w : World) (h : Bts w a n xs) (hn : n ≤ 9223372036854775807) :
    Calls Tryz.prog 21 #[.slice a n c] w fun e w' => ∃ q, e = .returned (.int .i64 q) ∧ q ∈ ([1, 2, 2, 3, 0, 4] : List Int) ∧ Below w.heap.size w w' := by
  go_enter Tryz.func21, Tryz.ntmps21
  go_wp2_with fail
  refine (l01From_ok a n c xs _ h hn).mono ?_
  rintro e w1 ⟨b, rfl, hb, hs, hb1⟩
  have hlt := hs.lt
  go_wp2_with fail
  refine (l01Pick_ok b _ _ _ [1, 2, 2, 3, 0, 4] _ (hs.below (below_al (Below.refl _ _) _)) (row_lit w1 _ _ _ rfl) (by decide) (by decide) (fun g o e => by cases e; omega)).mono ?_
  rintro e w3 ⟨q, rfl, hq, hs3, hg3⟩
  go_wp2
  go_ret
  exact ⟨_, rfl, hq, (below_al hb1 _).grown hg3 (below_al hb1 _).size (fun k hk => by cases hk; exact hb)⟩
def TstSo (w : World) (F : FuncId) (lb : Array Value) (p : T2 → Bool) (ts : List T2) : Prop :=
  (∀ (args : Array Value) (w : World), (callFunc F args).run Tryz.prog w = .ok (.enter F args) w) ∧ ∀ i, i < ts.length → ∀ w', Below w.heap.size w w' → ∀ a n c a' n' c', Sol w' a n (ts.getD i t2O).1 a' n' (ts.getD i t2O).2 → Calls Tryz.prog F (#[.agg #[.slice a n c, .slice a' n' c']] ++ lb) w' fun e w'' => e = .returned (.bool (p (ts.getD i t2O))) ∧ Below w'.heap.size w' w''
def IdxSo (p : T2 → Bool) (ts : List T2) (r : Int) : Prop := (∃ k, k < ts.length ∧ r = (k : Int) ∧ p (ts.getD k t2O) = true ∧ ∀ j, j < k → p (ts.getD j t2O) = false) ∨ (r = -1 ∧ ∀ j, j < ts.length → p (ts.getD j t2O) = false)
set_option maxHeartbeats 4000000 in
theorem indexSo_any (F : FuncId) (lb : Array Value) (p : T2 → Bool) (a : Option Addr) (n c : Nat) (ts : List T2) (w : World) (h : SbS w a n ts) (hn : n ≤ 1000000000) (hf : TstSo w F lb p ts) :
    Calls Tryz.prog 76 #[.slice a n c, .func (.func F) #[] lb] w fun e w' => (∃ r, e = .returned (.int .i64 r) ∧ IdxSo p ts r) ∧ Below w.heap.size w w' := by
  have HL := Lib.hid h.len
  have EG := hf.1
  have HF := Lib.hid hf.2
  clear hf
  go_enter Tryz.func76, Tryz.ntmps76
  go_wp2
  go_loopw [5, 8] (fun _ i wr => ∃ k : Nat, k ≤ n ∧ i = .int .i64 k ∧ Below w.heap.size w wr ∧ Hid (∀ j, j < k → p (ts.getD j t2O) = false)) (fun _ i _ => n - (intOf i).toNat)
  case atStart => exact ⟨0, Nat.zero_le _, rfl, Below.refl _ _, Lib.hid fun j hj => absurd hj (by omega)⟩
  case round =>
    obtain ⟨k, hk, rfl, hq, HK⟩ := hrel
    by_cases hlt : k < n
    · obtain ⟨b, va, vn, vc, va', vn', vc', rfl, lb0, ck, ck', tk, lk, lk'⟩ := (h.below hq).2 k hlt
      have i1 : (0 : Int) ≤ (k : Int) := by omega
      have i2 : (k : Int) < (n : Int) := by omega
      obtain ⟨B, HB⟩ : ∃ B, Hid (p (ts.getD k t2O) = B) := ⟨_, rfl⟩
      have HC := Lib.hid (HF.out k (by have := HL.out; omega) wr hq va vn vc va' vn' vc' tk)
      cases B with
      | true =>
        go_wp2_with fail
        refine HC.out.mono ?_
        rintro e w3 ⟨rfl, hb3⟩
        rw [HB.out]
        go_wp2
        go_ret
        exact ⟨⟨_, rfl, .inl ⟨k, by have := HL.out; omega, rfl, HB.out, HK.out⟩⟩, below_th hq hb3⟩
      | false =>
        go_wp2_with fail
        refine HC.out.mono ?_
        rintro e w3 ⟨rfl, hb3⟩
        rw [HB.out]
        go_wp2
        go_roundw
        case rel => exact ⟨k + 1, by omega, by go_num, below_th hq hb3, Lib.hid fun j hj => by
          by_cases e : j = k
          · subst e; exact HB.out
          · exact HK.out j (by omega)⟩
        case measure => simp [intOf]; omega
    · obtain rfl : n = k := by omega
      go_wp2
      go_ret
      exact ⟨⟨_, rfl, .inr ⟨rfl, fun j hj => HK.out j (by have := HL.out; omega)⟩⟩, hq⟩
def lstB (n : Nat) (t : List (List Int)) : Bool := decide (t = leastL n t)
set_option maxHeartbeats 2000000 in
theorem isLeast_any (N : Nat) (at_ : Option Addr) (ct : Nat) (t : List (List Int)) (w : World) (h1 : 1 ≤ N) (h4 : N ≤ 4) (hT : Tbl w at_ N t) (hs : Sq N t) :
    Calls Tryz.prog 67 #[.slice at_ N ct] w fun e w' => e = .returned (.bool (lstB N t)) ∧ Below w.heap.size w w' := by
  have HS := Lib.hid hs; clear hs
  obtain ⟨B, HB⟩ : ∃ B, Hid (lstB N t = B) := ⟨_, rfl⟩
  rw [HB.out]
  go_enter Tryz.func67, Tryz.ntmps67
  go_wp2_with fail
  refine (leastTable_any N at_ ct t w h1 h4 hT HS.out).mono ?_
  rintro e w1 ⟨a, c, vs, rfl, ho, hb⟩
  go_wp2_with fail
  refine (equalTables_any _ _ _ _ _ _ _ _ w1 (hT.below hb) ho.tbl (by omega)).mono ?_
  rintro e w2 ⟨rfl, rfl⟩
  go_wp2
  go_ret
  exact ⟨ret_bool (by rw [← HB.out]; rfl), hb⟩
theorem rowG_mem {ps : List (List Int)} {fits : List (List Int) → Bool} : ∀ (m : Nat) (o t : List (List Int)), t ∈ rowG ps fits m o → ∃ r, t = o ++ r ∧ r.length = m ∧ ∀ p ∈ r, p ∈ ps := by
  intro m
  induction m with
  | zero => intro o t h; simp [rowG] at h; exact ⟨[], by simp [h], rfl, by simp⟩
  | succ m ih =>
    intro o t h
    simp only [rowG, List.mem_flatMap] at h
    obtain ⟨p, hp, ht⟩ := h
    split at ht
    · obtain ⟨r, h1, h2, h3⟩ := ih _ _ ht
      exact ⟨p :: r, by rw [h1]; simp, by simp [h2], fun q hq => by
        rcases List.mem_cons.1 hq with e | e
        · rw [e]; exact hp
        · exact h3 q e⟩
    · simp at ht
theorem rows_rwsP {n : Nat} (h1 : 1 ≤ n) (h4 : n ≤ 4) {r : List (List Int)} (hl : r.length = n) (hm : ∀ p ∈ r, p ∈ prmL n) : RwsP n r := by
  refine ⟨hl, fun i hi => ?_⟩
  have := hm r[i] (List.getElem_mem (by omega))
  obtain ⟨j, hj, ej⟩ := List.getElem_of_mem this
  have h := prm_isP h1 h4 j hj
  rw [List.getD_eq_getElem?_getD, List.getElem?_eq_getElem hj, Option.getD_some, ej] at h
  rw [List.getD_eq_getElem?_getD, List.getElem?_eq_getElem (by omega), Option.getD_some]
  exact h
theorem rowL_rwsP {n : Nat} (h1 : 1 ≤ n) (h4 : n ≤ 4) {fits : List (List Int) → Bool} {i : Nat} (hi : i < (rowL n fits).length) : RwsP n ((rowL n fits).getD i []) := by
  rw [List.getD_eq_getElem?_getD, List.getElem?_eq_getElem hi, Option.getD_some]
  obtain ⟨r, e, hl, hm⟩ := rowG_mem _ _ _ (List.getElem_mem hi)
  rw [List.nil_append] at e
  rw [e]
  exact rows_rwsP h1 h4 hl hm
theorem filter_take_succ {α : Type} (p : α → Bool) (l : List α) (d : α) {k : Nat} (h : k < l.length) : (l.take (k + 1)).filter p = (l.take k).filter p ++ if p (l.getD k d) then [l.getD k d] else [] := by
  rw [List.take_succ_eq_append_getElem h, List.filter_append]
  simp only [List.getD_eq_getElem?_getD, List.getElem?_eq_getElem h, Option.getD_some, List.filter_cons, List.filter_nil]
theorem TbS.one {w : World} {b : Nat} (hb : b = w.heap.size) {a : Option Addr} {n c : Nat} {t : List (List Int)} (h : Tbl w a n t) (hn : n ≤ 9223372036854775807) (ty : TypeId) : TbS (w.alloc (.cells #[.slice a n c] ty)) (some ⟨b, 0, none⟩) 1 [t] := by
  refine ⟨rfl, fun i hi => ?_⟩
  obtain rfl : i = 0 := by omega
  exact ⟨b, 0, a, n, c, rfl, by simp; omega, (Loc.new w hb _ _).cell 0 rfl, h.alloc _, hn⟩
theorem LstQ.fresh (w : World) {b : Nat} (hb : b = w.heap.size) (ty : TypeId) : LstQ (w.alloc (.cells #[] ty)) (some ⟨b, 0, none⟩) 0 [] [] := ⟨HdR.nil _, rfl, fun i h => absurd h (by omega)⟩
theorem OwnRk.fresh (w : World) {b : Nat} (hb : b = w.heap.size) : OwnRk (w.alloc (.cells #[] 34)) w.heap.size (some ⟨b, 0, none⟩) 0 0 [] [] :=
  ⟨rfl, rfl, ownsRowRk_mk rfl (by omega) (Loc.new w hb _ _) (Nat.le_refl _) (by unfold maxLen; omega) rfl rfl, fun i h => absurd h (by omega), fun i h => absurd h (by omega), fun i j h => absurd h (by omega)⟩
theorem insQ_mem {A B : List (List (List Int))} {L : List (List (List (List Int)))} (h : B ∈ insQ A L) : B = A ∨ B ∈ L := by
  unfold insQ at h
  rcases List.mem_append.1 h with h | h
  · exact .inr ((List.takeWhile_sublist _).subset h)
  · rcases List.mem_cons.1 h with h | h
    · exact .inl h
    · exact .inr ((List.dropWhile_sublist _).subset h)
theorem insQ_len (A : List (List (List Int))) (L : List (List (List (List Int)))) : (insQ A L).length = L.length + 1 := by
  have := congrArg List.length (List.takeWhile_append_dropWhile (p := fun t => befS t A) (l := L))
  unfold insQ
  rw [List.length_append] at this ⊢
  simp; omega
end Go.Proofs.YtaddclaadbjnlaaGreat
namespace Go.Proofs.YtaddclaadbjnlaaGreat
set_option maxRecDepth 100000
set_option linter.unusedVariables false
set_option linter.unusedSimpArgs false
theorem cmpT_cmp : Cmp cmpT := cmpG_cmp cmpL_cmp
theorem Cmp.le_lt {α : Type} {c : α → α → Int} (h : Cmp c) {x y z : α} (h1 : ¬ c y x < 0) (h2 : c y z < 0) : c x z < 0 := by
  by_cases e : c x y = 0
  · rw [(h.eq _ _).1 e]; exact h2
  · exact h.trans x y z (by have := h.anti x y; omega) h2
theorem cmpG_append {α : Type} {c : α → α → Int} (h : Cmp c) (o x y : List α) : cmpG c (o ++ x) (o ++ y) = cmpG c x y := by
  induction o with
  | nil => rfl
  | cons a o ih => simp only [List.cons_append, cmpG]; rw [if_pos (h.refl a)]; exact ih
theorem lst_keep {n : Nat} {t : List (List Int)} : ∀ (ps : List (List Int)), (∀ p ∈ ps, ¬ cmpT (rnL n t p) t < 0) → ps.foldl (lstF n t) t = t := by
  intro ps
  induction ps with
  | nil => intro _; rfl
  | cons p ps ih =>
    intro h
    simp only [List.foldl_cons]
    have : lstF n t t p = t := by unfold lstF; rw [if_neg (h p (by simp))]
    rw [this]
    exact ih fun q hq => h q (by simp [hq])
theorem rowG_sorted {ps : List (List Int)} {fits : List (List Int) → Bool} (hps : ps.Pairwise fun p q => cmpL p q < 0) : ∀ (m : Nat) (o : List (List Int)), (rowG ps fits m o).Pairwise fun x y => cmpT x y < 0 := by
  intro m
  induction m with
  | zero => intro o; simp [rowG]
  | succ m ih =>
    intro o
    unfold rowG
    rw [List.pairwise_flatMap]
    refine ⟨fun p _ => ?_, hps.imp fun {p q} hpq x hx y hy => ?_⟩
    · split
      · exact ih _
      · exact List.Pairwise.nil
    · split at hx
      · split at hy
        · obtain ⟨r, e1, _, _⟩ := rowG_mem _ _ _ hx
          obtain ⟨s, e2, _, _⟩ := rowG_mem _ _ _ hy
          rw [e1, e2, List.append_assoc, List.append_assoc]
          show cmpG cmpL _ _ < 0
          rw [cmpG_append cmpL_cmp]
          simp only [List.cons_append, List.nil_append, cmpG]
          rw [if_neg (by omega)]; exact hpq
        · simp at hy
      · simp at hx
theorem prm_sorted : ∀ n : Fin 5, (prmL n.1).Pairwise fun p q => cmpL p q < 0 := by decide +kernel
structure Wrk {α γ : Type} (G : List γ) (act : γ → α → α) (cp : γ → γ → γ) (S : α → Prop) : Prop where
  nd : G.Nodup
  st : ∀ t, S t → ∀ p, p ∈ G → S (act p t)
  cm : ∀ p q, p ∈ G → q ∈ G → cp p q ∈ G
  ac : ∀ p q, p ∈ G → q ∈ G → ∀ t, S t → act q (act p t) = act (cp p q) t
  un : ∃ e, e ∈ G ∧ ∀ t, S t → act e t = t
  bk : ∀ p, p ∈ G → ∃ r, r ∈ G ∧ ∀ t, S t → act r (act p t) = t
  ij : ∀ p p' q, p ∈ G → p' ∈ G → q ∈ G → cp p q = cp p' q → p = p'
section
variable {α γ : Type} {G : List γ} {act : γ → α → α} {cp : γ → γ → γ} {S : α → Prop} {c : α → α → Int}
def minL (c : α → α → Int) (b : α) (l : List α) : α := l.foldl (fun b x => if c x b < 0 then x else b) b
theorem minL_spec (hc : Cmp c) : ∀ (l : List α) (b : α), (minL c b l = b ∨ minL c b l ∈ l) ∧ ¬ c b (minL c b l) < 0 ∧ ∀ x, x ∈ l → ¬ c x (minL c b l) < 0 := by
  intro l
  induction l with
  | nil =>
    intro b
    refine ⟨.inl rfl, ?_, fun x h => by simp at h⟩
    show ¬ c b b < 0
    rw [hc.refl]; omega
  | cons x l ih =>
    intro b
    have e : minL c b (x :: l) = minL c (if c x b < 0 then x else b) l := rfl
    rw [e]
    by_cases h : c x b < 0
    · rw [if_pos h]
      obtain ⟨h1, h2, h3⟩ := ih x
      refine ⟨?_, ?_, ?_⟩
      · rcases h1 with h1 | h1
        · exact .inr (by rw [h1]; simp)
        · exact .inr (by simp [h1])
      · intro h4
        exact h2 (hc.trans _ _ _ h h4)
      · intro y hy
        rcases List.mem_cons.1 hy with r | r
        · rw [r]; exact h2
        · exact h3 y r
    · rw [if_neg h]
      obtain ⟨h1, h2, h3⟩ := ih b
      refine ⟨?_, h2, ?_⟩
      · rcases h1 with h1 | h1
        · exact .inl h1
        · exact .inr (by simp [h1])
      · intro y hy
        rcases List.mem_cons.1 hy with r | r
        · rw [r]; intro h4
          exact h2 (hc.le_lt h h4)
        · exact h3 y r
def lfm (c : α → α → Int) (act : γ → α → α) (G : List γ) (t : α) : α := minL c t (G.map fun p => act p t)
theorem lfm_at (hc : Cmp c) (hw : Wrk G act cp S) {t : α} (h : S t) : ∃ p, p ∈ G ∧ lfm c act G t = act p t := by
  rcases (minL_spec hc (G.map fun p => act p t) t).1 with e | e
  · obtain ⟨u, hu, hu2⟩ := hw.un
    exact ⟨u, hu, by unfold lfm; rw [e, hu2 t h]⟩
  · obtain ⟨p, hp, e⟩ := List.mem_map.1 e
    exact ⟨p, hp, e.symm⟩
theorem lfm_le (hc : Cmp c) {t : α} {p : γ} (hp : p ∈ G) : ¬ c (act p t) (lfm c act G t) < 0 :=
  (minL_spec hc (G.map fun p => act p t) t).2.2 _ (List.mem_map.2 ⟨p, hp, rfl⟩)
theorem lfm_act (hc : Cmp c) (hw : Wrk G act cp S) {t : α} (h : S t) {p : γ} (hp : p ∈ G) : lfm c act G (act p t) = lfm c act G t := by
  obtain ⟨q, hq, e1⟩ := lfm_at hc hw (hw.st t h p hp)
  obtain ⟨r, hr, e2⟩ := lfm_at hc hw h
  have a1 : ¬ c (lfm c act G (act p t)) (lfm c act G t) < 0 := by
    rw [e1, hw.ac p q hp hq t h]
    exact lfm_le hc (hw.cm p q hp hq)
  have a2 : ¬ c (lfm c act G t) (lfm c act G (act p t)) < 0 := by
    obtain ⟨i, hi, hb⟩ := hw.bk p hp
    have : act r t = act (cp i r) (act p t) := by
      rw [← hw.ac i r hi hr _ (hw.st t h p hp), hb t h]
    rw [e2, this]
    exact lfm_le hc (hw.cm i r hi hr)
  have := hc.anti (lfm c act G (act p t)) (lfm c act G t)
  exact (hc.eq _ _).1 (by omega)
theorem lfm_lfm (hc : Cmp c) (hw : Wrk G act cp S) {t : α} (h : S t) : lfm c act G (lfm c act G t) = lfm c act G t := by
  obtain ⟨p, hp, e⟩ := lfm_at hc hw h
  conv => lhs; rw [e]
  exact lfm_act hc hw h hp
theorem lfm_one (hc : Cmp c) (hw : Wrk G act cp S) {t s : α} (h : S t) (hs : S s) (e : lfm c act G t = lfm c act G s) : ∃ p, p ∈ G ∧ act p t = s := by
  obtain ⟨p, hp, e1⟩ := lfm_at hc hw h
  obtain ⟨q, hq, e2⟩ := lfm_at hc hw hs
  obtain ⟨r, hr, hb⟩ := hw.bk q hq
  refine ⟨cp p r, hw.cm p r hp hr, ?_⟩
  rw [← hw.ac p r hp hr t h, ← e1, e, e2, hb s hs]
/-! ### counting -/
theorem sum_zero {β : Type} : ∀ R : List β, (R.map fun _ => 0).sum = 0 := by
  intro R
  induction R with
  | nil => rfl
  | cons a R ih => rw [List.map_cons, List.sum_cons, ih]
theorem sub_perm {β : Type} : ∀ {l m : List β}, l.Nodup → (∀ x, x ∈ l → x ∈ m) → m.length ≤ l.length → l.Perm m := by
  intro l
  induction l with
  | nil => intro m _ _ h; rw [List.eq_nil_of_length_eq_zero (Nat.le_zero.1 h)]
  | cons a l ih =>
    intro m hn hs hl
    rw [List.nodup_cons] at hn
    obtain ⟨s, t, rfl⟩ := List.append_of_mem (hs a (by simp))
    refine List.Perm.trans ?_ List.perm_middle.symm
    refine List.Perm.cons a (ih hn.2 (fun x hx => ?_) (by simp at hl ⊢; omega))
    have := hs x (by simp [hx])
    rw [List.mem_append, List.mem_cons] at this
    rw [List.mem_append]
    rcases this with h | h | h
    · exact .inl h
    · exact absurd (h ▸ hx) hn.1
    · exact .inr h
theorem count_one {β : Type} [DecidableEq β] : ∀ (R : List β) (b : β), R.Nodup → b ∈ R → (R.map fun r => if b = r then 1 else 0).sum = 1 := by
  intro R
  induction R with
  | nil => intro b _ h; simp at h
  | cons a R ih =>
    intro b hn hb
    rw [List.nodup_cons] at hn
    rw [List.map_cons, List.sum_cons]
    by_cases e : b = a
    · rw [if_pos e]
      have : (R.map fun r => if b = r then 1 else 0).sum = 0 := by
        have hz : ∀ r ∈ R, (if b = r then 1 else 0) = 0 := fun r hr => if_neg (fun e2 => hn.1 (by rw [← e, e2]; exact hr))
        rw [List.map_congr_left hz, sum_zero]
      omega
    · rw [if_neg e, ih b hn.2 (by rcases List.mem_cons.1 hb with r | r; exact absurd r e; exact r)]
theorem sum_add {β : Type} (f g : β → Nat) : ∀ R : List β, (R.map fun r => f r + g r).sum = (R.map f).sum + (R.map g).sum := by
  intro R
  induction R with
  | nil => rfl
  | cons a R ih => simp only [List.map_cons, List.sum_cons, ih]; omega
theorem part_len {β : Type} [DecidableEq β] (f : α → β) {R : List β} (hR : R.Nodup) : ∀ l : List α, (∀ x, x ∈ l → f x ∈ R) → (R.map fun r => (l.filter fun x => decide (f x = r)).length).sum = l.length := by
  intro l
  induction l with
  | nil =>
    intro _
    simp only [List.filter_nil, List.length_nil]
    exact sum_zero R
  | cons x l ih =>
    intro h
    have e : ∀ r, ((x :: l).filter fun y => decide (f y = r)).length = (if f x = r then 1 else 0) + (l.filter fun y => decide (f y = r)).length := fun r => by
      rw [List.filter_cons]
      by_cases e : f x = r
      · rw [if_pos (by simpa using e), if_pos e, List.length_cons]; omega
      · rw [if_neg (by simpa using e), if_neg e]; omega
    rw [List.map_congr_left (fun r _ => e r), sum_add, count_one R (f x) hR (h x (by simp)), ih fun y hy => h y (by simp [hy]), List.length_cons]
    omega
theorem sum_const (k : Nat) : ∀ (l : List α) (f : α → Nat), (∀ x, x ∈ l → f x = k) → (l.map f).sum = l.length * k := by
  intro l
  induction l with
  | nil => intro f _; simp
  | cons x l ih =>
    intro f h
    rw [List.map_cons, List.sum_cons, ih f fun y hy => h y (by simp [hy]), h x (by simp), List.length_cons, Nat.succ_mul]
    omega
variable [DecidableEq α]
def kpN (act : γ → α → α) (G : List γ) (t : α) : Nat := (G.filter fun p => decide (act p t = t)).length
theorem filt_perm {l m : List γ} (h : l.Perm m) (P : γ → Bool) : (l.filter P).length = (m.filter P).length := (h.filter P).length_eq
theorem kp_at (hw : Wrk G act cp S) {t : α} (h : S t) {q : γ} (hq : q ∈ G) : (G.filter fun p => decide (act p t = act q t)).length = kpN act G t := by
  have hp : (G.map fun p => cp p q).Perm G := by
    have hnd : (G.map fun p => cp p q).Nodup := by
      rw [List.nodup_iff_pairwise_ne] at *
      rw [List.pairwise_map]
      have := hw.nd
      rw [List.nodup_iff_pairwise_ne] at this
      refine List.Pairwise.imp_of_mem ?_ this
      intro a b ha hb hne e
      exact hne (hw.ij a b q ha hb hq e)
    refine sub_perm hnd (fun x hx => ?_) (by simp)
    obtain ⟨p, hp, rfl⟩ := List.mem_map.1 hx
    exact hw.cm p q hp hq
  rw [← filt_perm hp, List.filter_map, List.length_map]
  unfold kpN
  congr 1
  refine List.filter_congr fun p hp => ?_
  show decide (act (cp p q) t = act q t) = decide (act p t = t)
  rw [← hw.ac p q hp hq t h]
  apply decide_eq_decide.2
  constructor
  · intro e
    obtain ⟨r, hr, hb⟩ := hw.bk q hq
    have := congrArg (act r) e
    rwa [hb _ (hw.st t h p hp), hb t h] at this
  · intro e; rw [e]
theorem kp_pos (hw : Wrk G act cp S) {t : α} (h : S t) : 1 ≤ kpN act G t := by
  obtain ⟨e, he, hu⟩ := hw.un
  have : e ∈ G.filter fun p => decide (act p t = t) := List.mem_filter.2 ⟨he, by simpa using hu t h⟩
  exact List.length_pos_of_mem this
theorem orbits (hc : Cmp c) (hw : Wrk G act cp S) {T : List α} (hT : T.Nodup) (hs : ∀ t, t ∈ T → S t) (hcl : ∀ t, t ∈ T → ∀ p, p ∈ G → act p t ∈ T) :
    ((T.filter fun t => decide (t = lfm c act G t)).map fun t => G.length / kpN act G t).sum = T.length := by
  have hR : (T.filter fun t => decide (t = lfm c act G t)).Nodup := hT.filter _
  have hin : ∀ t, t ∈ T → lfm c act G t ∈ T.filter fun t => decide (t = lfm c act G t) := fun t ht => by
    obtain ⟨p, hp, e⟩ := lfm_at hc hw (hs t ht)
    refine List.mem_filter.2 ⟨by rw [e]; exact hcl t ht p hp, ?_⟩
    rw [lfm_lfm hc hw (hs t ht)]; simp
  rw [← part_len (lfm c act G) hR T hin]
  congr 1
  refine List.map_congr_left fun r hr => ?_
  obtain ⟨hrT, hre⟩ := List.mem_filter.1 hr
  have hre : r = lfm c act G r := by simpa using hre
  have hsr := hs r hrT
  have hO : (T.filter fun t => decide (lfm c act G t = r)).Nodup := hT.filter _
  have h1 := part_len (fun p => act p r) hO G (fun p hp => List.mem_filter.2 ⟨hcl r hrT p hp, by
    have := lfm_act hc hw hsr hp
    simp [this, ← hre]⟩)
  rw [sum_const (kpN act G r)] at h1
  · rw [← h1]
    exact Nat.mul_div_cancel _ (kp_pos hw hsr)
  · intro t ht
    obtain ⟨htT, hte⟩ := List.mem_filter.1 ht
    have hte : lfm c act G t = r := by simpa using hte
    obtain ⟨q, hq, e⟩ := lfm_one hc hw hsr (hs t htT) (by rw [← hre, hte])
    rw [← e]
    exact kp_at hw hsr hq
end
def allRw (n : Nat) : Nat → List (List Int)
  | 0 => [[]]
  | m + 1 => (List.range n).flatMap fun (x : Nat) => (allRw n m).map fun l => (x : Int) :: l
theorem allRw_of {n : Nat} : ∀ (m : Nat) (p : List Int), p.length = m → (∀ x ∈ p, 0 ≤ x ∧ x < n) → p ∈ allRw n m := by
  intro m
  induction m with
  | zero => intro p h _; rw [List.length_eq_zero_iff] at h; subst h; simp [allRw]
  | succ m ih =>
    intro p h hp
    match p, h with
    | x :: p, h =>
      have hx := hp x (by simp)
      simp only [allRw, List.mem_flatMap, List.mem_range, List.mem_map]
      exact ⟨x.toNat, by omega, p, ih p (by simpa using h) (fun y hy => hp y (by simp [hy])), by rw [show ((x.toNat : Nat) : Int) = x by omega]⟩
theorem rw_prm : ∀ n : Fin 5, ((allRw n.1 n.1).all fun p => !permOk p || (prmL n.1).contains p) = true := by decide +kernel
theorem prm_of {n : Nat} (h4 : n ≤ 4) {p : List Int} (hl : p.length = n) (hp : ∀ x ∈ p, 0 ≤ x ∧ x < n) (h : permOk p = true) : p ∈ prmL n := by
  have := List.all_eq_true.1 (rw_prm ⟨n, by omega⟩) p (allRw_of n p hl hp)
  rw [h] at this
  simpa using this
theorem allT_of {ps : List (List Int)} : ∀ (m : Nat) (o r : List (List Int)), r.length = m → (∀ p ∈ r, p ∈ ps) → o ++ r ∈ allT ps m o := by
  intro m
  induction m with
  | zero => intro o r h _; rw [List.length_eq_zero_iff] at h; subst h; simp [allT]
  | succ m ih =>
    intro o r h hp
    match r, h with
    | p :: r, h =>
      simp only [allT, List.mem_flatMap]
      refine ⟨p, hp p (by simp), ?_⟩
      have := ih (o ++ [p]) r (by simpa using h) (fun q hq => hp q (by simp [hq]))
      simpa using this
end Go.Proofs.YtaddclaadbjnlaaGreat
