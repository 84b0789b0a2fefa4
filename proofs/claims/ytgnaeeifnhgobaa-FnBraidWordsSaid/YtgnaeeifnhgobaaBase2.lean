/-
  Walks and plain laws of this seat, some texts in one.
  No condition but bounds on lengths.
-/
import Derived.Test.YtgnaeeifnhgobaaBPmI
import Derived.Test.YtgnaeeifnhgobaaThen
import Derived.Test.YtgnaeeifnhgobaaRackI
import Derived.Test.YtgnaeeifnhgobaaNfI
import Derived.Test.YtgnaeeifnhgobaaGarL
import Derived.Test.YtgnaeeifnhgobaaBase
import Derived.Test.YtgnaeeifnhgobaaTimI
import Derived.Test.YtgnaeeifnhgobaaNamS
import Derived.Test.YtgnaeeifnhgobaaNamI
import Derived.Test.YtgnaeeifnhgobaaDrawC
import Derived.Test.YtgnaeeifnhgobaaDrawN
namespace Go.Proofs.Ytgnaeeifnhgobaa
set_option maxRecDepth 100000
set_option linter.unusedVariables false
set_option linter.unusedSimpArgs false
open Go.RowKit

theorem isP_permOk {n : Nat} {p : List Int} (h : IsP n p) : permOk p = true := by
  obtain ⟨f, g, hl, h1, h2⟩ := h
  refine permTo_ok ⟨fun i hi => ?_, fun i j hi hj e => ?_⟩
  · rw [h2 i (by omega)]; have := (h1 i (by omega)).1; omega
  · rw [h2 i (by omega), h2 j (by omega)] at e
    have e2 : f i = f j := by omega
    rw [← (h1 i (by omega)).2.2.2, e2, (h1 j (by omega)).2.2.2]
set_option maxHeartbeats 1000000 in
theorem isPermutation_ok (a : Option Addr) (n c : Nat) (p : List Int) (w : World) (h1 : Row w a n p) (hp : IsP n p) (h2 : 1 ≤ n) (h6 : n ≤ 12) :
    Calls Try.prog 39 #[.slice a n c] w fun e w' => e = .returned (.bool true) ∧ Below w.heap.size w w' := by
  have HP := Lib.hid (isP_permOk hp)
  have k1 : decide ((1 : Int) ≤ n) = true := by simp; omega
  have k2 : decide ((n : Int) ≤ 12) = true := by simp; omega
  go_enter Try.func39, Try.ntmps39
  go_wp2_with fail
  refine (within_any _ _ _ _).mono ?_
  rintro e w' ⟨rfl, rfl⟩
  go_wp2_with fail
  refine (isPermuted_any a n c p _ h1 (by omega)).mono ?_
  rintro e w2 ⟨rfl, hb⟩
  rw [HP.out]
  go_wp2
  go_ret
  exact ⟨rfl, hb⟩
set_option maxHeartbeats 1000000 in
theorem impl_Thp_ok (a1 a2 : Option Addr) (n c1 c2 : Nat) (p q : List Int) (w : World) (h1 : Row w a1 n p) (h2 : Row w a2 n q) (hp : IsP n p) (hq : IsP n q) (hn : 1 ≤ n) (h6 : n ≤ 12) :
    Calls Try.prog 11 #[.slice a1 n c1, .slice a2 n c2] w fun e w' => ∃ a' c', e = .returned (.tuple #[.slice a' n c', .int .i64 0]) ∧ Own w' w.heap.size a' n c' (thL p q) ∧ Below w.heap.size w w' := by
  have k1 : ((n : Int) != (n : Int)) = false := by simp
  go_enter Try.func11, Try.ntmps11
  go_wp2_with fail
  refine (isPermutation_ok a1 n c1 p _ h1 hp hn h6).mono ?_
  rintro e w1 ⟨rfl, hb1⟩
  go_wp2_with fail
  refine (isPermutation_ok a2 n c2 q _ (h2.below hb1) hq hn h6).mono ?_
  rintro e w2 ⟨rfl, hb2⟩
  have hb := below_th hb1 hb2
  have hz := hb.size
  go_wp2_with fail
  refine (then_any a1 a2 n n c1 c2 p q _ (h1.below hb) (h2.below hb) (by omega) hp.mem).mono ?_
  rintro e w3 ⟨a', c', rfl, ho, hb3⟩
  go_wp2
  go_ret2
  exact ⟨a', c', rfl, ho.mono hz, below_th hb hb3⟩
set_option maxHeartbeats 1000000 in
theorem impl_Pur_ok (s : Nat) (a : Option Addr) (n c : Nat) (xs : List Int) (w : World) (h1 : Row w a n xs) (hb : isBr s xs = true) :
    Calls Try.prog 13 #[bAgg s a n c] w fun e w' => e = .returned (.tuple #[.bool (incOk (brP s xs)), .int .i64 0]) ∧ Below w.heap.size w w' := by
  have HB := Lib.hid hb
  have hm : n ≤ 9223372036854775807 := by have := (isBr_let hb).2.1; have := h1.len; omega
  have hs6 : s ≤ 6 := by have := (isBr_let hb).1; omega
  clear hb
  have hA := Loc.new w rfl #[.int .i64 s, .slice a n c] 26
  go_enter Try.func13, Try.ntmps13
  go_wp2_with fail
  refine (isBraid_any _ _ _ _ xs _ (h1.alloc _) hm).mono ?_
  rintro e w1 ⟨rfl, hb1⟩
  rw [HB.out]
  have hB1 : Below w.heap.size w w1 := below_alth (Below.refl _ _) hb1
  have hA1 := hA.below hb1 hA.lt
  have lA1 := hA1.two
  have hr1 := (h1.alloc (.cells #[.int .i64 s, .slice a n c] 26)).below hb1
  go_wp2_with fail
  refine (braidPermutation_any s a n c xs _ hr1 HB.out).mono ?_
  rintro e w2 ⟨a', c', rfl, ho, hb2⟩
  have hB2 := below_th hB1 hb2
  go_wp2_with fail
  refine (isIdentity_any a' s c' _ w2 ho.row (by omega)).mono ?_
  rintro e w3 ⟨rfl, hb3⟩
  go_wp2
  go_ret2
  exact ⟨rfl, below_th hB2 hb3⟩

/-! ### the plain law -/
theorem strd_app (s : Nat) (xs ys : List Int) : strd s (xs ++ ys) = ys.foldl (fun a x => swp a (plc x).toNat) (strd s xs) := by
  unfold strd; rw [List.foldl_append]
theorem thL_get {p q : List Int} {i : Nat} (h : i < p.length) : (thL p q).getD i 0 = q.getD (p.getD i 0).toNat 0 := by
  simp [thL, List.getD_eq_getElem?_getD, List.getElem?_eq_getElem h]
theorem thL_swp {p q : List Int} {k : Nat} (h : k + 1 < p.length) : thL (swp p k) q = swp (thL p q) k := by
  apply List.ext_getElem
  · simp [thL, swp]
  intro i h1 h2
  have hi : i < p.length := by simpa [thL, swp] using h1
  have e1 : (thL (swp p k) q).getD i 0 = (swp (thL p q) k).getD i 0 := by
    rw [thL_get (by simpa [swp] using hi), swp_get _ _ _ h hi, swp_get _ _ _ (by simpa [thL] using h) (by simpa [thL] using hi)]
    rw [thL_get (sig_lt k i p.length h hi)]
  simpa [List.getD_eq_getElem?_getD, List.getElem?_eq_getElem h1, List.getElem?_eq_getElem h2] using e1
/-- doing both is reading the places of the one behind at the one ahead -/
theorem strd_th (s : Nat) (xs : List Int) (hx : (strd s xs).length = s) : ∀ (ys p : List Int), p.length = s → (∀ y ∈ ys, 0 ≤ plc y ∧ plc y + 1 < s) → thL (ys.foldl (fun a x => swp a (plc x).toNat) p) (strd s xs) = ys.foldl (fun a x => swp a (plc x).toNat) (thL p (strd s xs)) := by
  intro ys
  induction ys with
  | nil => intro p _ _; rfl
  | cons y ys ih =>
    intro p hp hy
    have h0 := hy y (by simp)
    simp only [List.foldl_cons]
    rw [ih (swp p (plc y).toNat) (by rw [swp_len]; exact hp) fun z hz => hy z (by simp [hz]), thL_swp (by omega)]
theorem thL_unit {s : Nat} {q : List Int} (h : q.length = s) : thL (unitL s) q = q := by
  apply List.ext_getElem
  · rw [thL_len, unitL_len, h]
  intro i h1 h2
  have hi : i < s := by omega
  have : (thL (unitL s) q).getD i 0 = q.getD i 0 := by
    rw [thL_get (by rw [unitL_len]; exact hi), unitL_get s i hi, Int.toNat_natCast]
  simpa [List.getD_eq_getElem?_getD, List.getElem?_eq_getElem h1, List.getElem?_eq_getElem h2] using this
theorem strd_len (s : Nat) (xs : List Int) (hx : ∀ x ∈ xs, 0 ≤ plc x ∧ plc x + 1 < s) : (strd s xs).length = s := (strd_isP s xs hx).len
theorem strd_both (s : Nat) (xs ys : List Int) (hx : ∀ x ∈ xs, 0 ≤ plc x ∧ plc x + 1 < s) (hy : ∀ x ∈ ys, 0 ≤ plc x ∧ plc x + 1 < s) : strd s (xs ++ ys) = thL (strd s ys) (strd s xs) := by
  rw [strd_app]
  have h1 := strd_len s xs hx
  have := strd_th s xs h1 ys (unitL s) (unitL_len s) hy
  rw [thL_unit h1] at this
  exact this.symm
theorem brP_both (s : Nat) (xs ys : List Int) (hx : ∀ x ∈ xs, 0 ≤ plc x ∧ plc x + 1 < s) (hy : ∀ x ∈ ys, 0 ≤ plc x ∧ plc x + 1 < s) : thL (brP s xs) (brP s ys) = brP s (xs ++ ys) := by
  obtain ⟨p, hp, ep⟩ := isP_pm (strd_isP s xs hx)
  obtain ⟨q, hq, eq⟩ := isP_pm (strd_isP s ys hy)
  unfold brP
  have hv : Fx s p.iv := hp.iv
  rw [strd_both s xs ys hx hy, ep, eq, back_toL hp, back_toL hq, th_toL hq, th_toL hv, back_toL (hq.m hp)]
  rfl
theorem still_inc {n : Nat} {p : List Int} (h : IsP n p) : incOk p = allN n fun i => decide (p.getD i 0 = (i : Int)) := by
  rw [Bool.eq_iff_iff, inc_id h.len (fun i hi => by have := h.mem _ (getD_mem (show i < p.length by rw [h.len]; exact hi)); exact this)]
  simp [allN]
end Go.Proofs.Ytgnaeeifnhgobaa

namespace Go.Proofs.Ytgnaeeifnhgobaa
set_option maxRecDepth 100000
set_option linter.unusedVariables false
set_option linter.unusedSimpArgs false
open Go.RowKit

/-- a slice cut short -/
theorem Own.cut {w : World} {lo : Nat} {a : Option Addr} {n c : Nat} {xs : List Int} (h : Own w lo a n c xs) {m : Nat} (hm : m ≤ n) : Own w lo a m c (xs.take m) := by
  rcases h.block with ⟨rfl, rfl, rfl⟩ | ⟨g, cur, rfl, h2, h3, h4, h5, h6, h7⟩
  · obtain rfl : m = 0 := by omega
    exact Own.nil _ _
  · refine Own.mk (by rw [List.length_take]; have := h.1; omega) h2 h3 (by omega) h5 h6 ?_
    have := congrArg (List.take m) h7
    rw [List.take_take, Nat.min_eq_left hm] at this
    rw [this, List.map_take]
theorem redF_no {ys : List Int} {x : Int} (h : ys.length = 0 ∨ ys.getD (ys.length - 1) 0 ≠ -x) : redF ys x = ys ++ [x] := by
  unfold redF
  rw [if_neg]
  intro e
  rw [List.getLast?_eq_getElem?] at e
  obtain ⟨hl, e2⟩ := List.getElem?_eq_some_iff.1 e
  rcases h with h | h
  · omega
  · exact h (by rw [List.getD_eq_getElem?_getD, e]; rfl)
theorem redF_yes {ys : List Int} {x : Int} {q : Nat} (hl : ys.length = q + 1) (h : ys.getD q 0 = -x) : redF ys x = ys.take q := by
  unfold redF
  rw [if_pos]
  · rw [List.dropLast_eq_take, hl]; rfl
  · rw [List.getLast?_eq_getElem?, hl]
    rw [List.getD_eq_getElem?_getD, Nat.add_sub_cancel, List.getElem?_eq_getElem (by omega)] at *
    simpa using h
theorem redF_len (ys : List Int) (x : Int) : (redF ys x).length ≤ ys.length + 1 := by
  unfold redF; split
  · simp; omega
  · simp
theorem red_succ (xs : List Int) (k : Nat) (h : k < xs.length) : (xs.take (k + 1)).foldl redF [] = redF ((xs.take k).foldl redF []) xs[k] := by
  rw [List.take_succ_eq_append_getElem h, List.foldl_append]; rfl
theorem red_len (xs : List Int) : ∀ k, k ≤ xs.length → ((xs.take k).foldl redF []).length ≤ k := by
  intro k
  induction k with
  | zero => intro _; simp
  | succ k ih => intro h; rw [red_succ xs k (by omega)]; have := ih (by omega); have := redF_len ((xs.take k).foldl redF []) xs[k]; omega

set_option maxHeartbeats 4000000 in
theorem impl_Red_ok (s : Int) (a : Option Addr) (n c : Nat) (xs : List Int) (w : World) (h1 : Row w a n xs) (hm : n ≤ 9223372036854775807) (hb : isBr s xs = true) :
    Calls Try.prog 16 #[bAgg s a n c] w (RetB w s (redL xs) 0) := by
  have HB := Lib.hid hb
  have hbr := isBr_let hb
  have HL := Lib.hid h1.len
  have hn30 : n ≤ 30 := by have := h1.len; omega
  have HRL := Lib.hid (red_len xs)
  have HLB : Hid (∀ k (h : k < xs.length), -6 ≤ xs[k] ∧ xs[k] ≤ 6) := Lib.hid fun k h => by have := hbr.2.2 _ (List.getElem_mem h); omega
  clear hb hbr
  obtain ⟨w0, hw0⟩ : ∃ w0, (w.alloc (.cells #[.int .i64 s, .slice a n c] 26)).alloc (.cells #[.int .i64 0, .slice none 0 0] 26) = w0 := ⟨_, rfl⟩
  have hA : Loc w0 w.heap.size #[.int .i64 s, .slice a n c] 26 := by rw [← hw0]; exact (Loc.new w rfl _ _).alloc _
  have hR : Loc w0 (w.heap.size + 1) #[.int .i64 0, .slice none 0 0] 26 := by rw [← hw0]; exact Loc.new _ (by simp) _ _
  have hB0 : Below w.heap.size w w0 := by rw [← hw0]; exact below_al (below_al (Below.refl _ _) _) _
  have hz0 : w0.heap.size = w.heap.size + 2 := by rw [← hw0]; simp
  have hr0 := h1.below hB0
  have HW0 := Lib.hid hw0
  have HZ0 := Lib.hid hz0
  clear hw0 hz0
  have lA0 := hA.two
  go_enter Try.func16, Try.ntmps16
  go_wp2_with fail
  rw [HW0.out]
  refine (isBraid_any _ _ _ _ xs _ hr0 hm).mono ?_
  rintro e w1 ⟨rfl, hb1⟩
  rw [HB.out]
  replace hA := hA.below hb1 hA.lt
  replace hR := hR.below hb1 hR.lt
  have hB1 := below_th hB0 hb1
  have lA1 := hA.two
  have hz1 : w.heap.size + 2 ≤ w1.heap.size := by have := hb1.size; have := HZ0.out; omega
  have hr1 := hr0.below hb1
  have hrw := hr1.alloc (.cells #[.int .i64 s, .slice none 0 0] 26)
  have lA2 := (hA.alloc (.cells #[.int .i64 s, .slice none 0 0] 26)).two
  clear lA0
  go_wp2
  go_loopw [6, 7, 18] (fun _ _ i wr => ∃ (k : Nat) (a' : Option Addr) (m c' : Nat), k ≤ n ∧ i = .int .i64 k ∧ Loc wr w.heap.size #[.int .i64 s, .slice a n c] 26 ∧ Loc wr (w.heap.size + 1) #[.int .i64 0, .slice none 0 0] 26 ∧ Loc wr w1.heap.size #[.int .i64 s, .slice a' m c'] 26 ∧
    Own wr (w1.heap.size + 1) a' m c' ((xs.take k).foldl redF []) ∧ Below w.heap.size w wr ∧ w1.heap.size + 1 ≤ wr.heap.size) (fun _ _ i _ => n - (intOf i).toNat)
  case atStart => exact ⟨0, none, 0, 0, Nat.zero_le _, rfl, hA.alloc _, hR.alloc _, Loc.new w1 rfl _ _, Own.nil _ _, below_al hB1 _, by simp⟩
  case round =>
    clear hA hR lA1 lA2
    obtain ⟨k, a', m, c', hk, rfl, hA, hR, hL, ho, hB, hz⟩ := hrel
    have lL := hL.two
    have lR := hR.two
    by_cases hlt : k < n
    · obtain ⟨b, off, rfl, g1⟩ := (h1.below hB).at k hlt
      have hx : k < xs.length := by have := HL.out; omega
      have hm30 : m ≤ 30 := by have := ho.len; have := HRL.out k (by omega); omega
      have hy := HLB.out k hx
      have hS := red_succ xs k hx
      rw [getD_at hx] at g1
      obtain ⟨X, HX⟩ : ∃ X, Hid (xs[k] = X) := ⟨_, Lib.hid rfl⟩
      rw [HX.out] at g1 hy hS
      obtain ⟨hy1, hy2⟩ := hy
      have hng : IntKind.i64.wrap (-X) = -X := IntWalk.i64_in _ ⟨by omega, by omega⟩
      have i1 : (0 : Int) ≤ (k : Int) := by omega
      have i2 : (k : Int) < (n : Int) := by omega
      have HLE := Lib.hid ho.len
      obtain ⟨ys, HYS⟩ : ∃ ys, Hid ((xs.take k).foldl redF [] = ys) := ⟨_, rfl⟩
      rw [HYS.out] at ho hS HLE
      clear lR
      rcases m with _ | q
      · have HS := Lib.hid (hS.trans (redF_no (.inl HLE.out.symm)))
        clear hS
        go_wp2_with (at_builtin; refine app1 rfl rfl ho rfl rfl (by omega) (by omega) ?_; intro g' cc w8 hO hg8 hs8 hb8; have hL8 := hL.below hb8 (by omega); have lL8 := hL8.two)
        go_roundw
        case rel =>
          refine ⟨k + 1, some ⟨g', 0, none⟩, 0 + 1, cc, by omega, by go_num, (hA.below hb8 (by omega)).setne (by simp; omega) _, (hR.below hb8 (by omega)).setne (by simp; omega) _, hL8.set 1 _, ?_, (hB.trans (hb8.mono (by omega))).setCell (by simp; omega) _, by rw [size_set]; omega⟩
          rw [HS.out]
          exact hO.setlo (by simp) _
        case measure => simp [intOf]; omega
      · obtain ⟨gy, oy, rfl, g2⟩ := ho.row.at q (by omega)
        have hc := ho.cap
        have hw1 : IntKind.i64.wrap (((q + 1 : Nat) : Int) - 1) = (q : Int) := (IntWalk.i64_in _ ⟨by omega, by omega⟩).trans (by omega)
        obtain ⟨Y, HY⟩ : ∃ Y, Hid (ys.getD q 0 = Y) := ⟨_, rfl⟩
        rw [HY.out] at g2
        have i3 : (0 : Int) ≤ (q : Int) := by omega
        have i4 : (q : Int) < ((q + 1 : Nat) : Int) := by omega
        have i5 : (q : Int) ≤ (c' : Int) := by omega
        by_cases hyx : Y = -X
        · have HS := Lib.hid (hS.trans (redF_yes HLE.out.symm (HY.out.trans hyx)))
          subst hyx
          clear hS
          have hcut := ho.cut (show q ≤ q + 1 by omega)
          go_wp2
          go_roundw
          case rel =>
            refine ⟨k + 1, some ⟨gy, oy, none⟩, q, c', by omega, by go_num, hA.setne (by simp; omega) _, hR.setne (by simp; omega) _, hL.set 1 _, ?_, hB.setCell (by simp; omega) _, by rw [size_set]; exact hz⟩
            rw [HS.out]
            exact hcut.setlo (by simp) _
          case measure => simp [intOf]; omega
        · have HS := Lib.hid (hS.trans (redF_no (.inr (by rw [← HLE.out, Nat.add_sub_cancel, HY.out]; exact hyx))))
          have hyx2 : (Y == -X) = false := by simpa using hyx
          clear hS
          go_wp2_with (at_builtin; refine app1 rfl rfl ho rfl rfl (by omega) (by omega) ?_; intro g' cc w8 hO hg8 hs8 hb8; have hL8 := hL.below hb8 (by omega); have lL8 := hL8.two)
          go_roundw
          case rel =>
            refine ⟨k + 1, some ⟨g', 0, none⟩, (q + 1) + 1, cc, by omega, by go_num, (hA.below hb8 (by omega)).setne (by simp; omega) _, (hR.below hb8 (by omega)).setne (by simp; omega) _, hL8.set 1 _, ?_, (hB.trans (hb8.mono (by omega))).setCell (by simp; omega) _, by rw [size_set]; omega⟩
            rw [HS.out]
            exact hO.setlo (by simp) _
          case measure => simp [intOf]; omega
    · obtain rfl : n = k := by omega
      have HE : Hid ((xs.take n).foldl redF [] = redL xs) := Lib.hid (by rw [List.take_of_length_le (by have := HL.out; omega)]; rfl)
      rw [HE.out] at ho
      go_wp2
      refine bodyPost_ret (v := .tuple #[bAgg s a' m c', .int .i64 0]) (by simp [results, Try.results16, go_sem, lL, lR]) rfl ⟨a', m, c', rfl, ?_, ?_⟩
      · exact ((ho.setlo (by simp; omega) _).setlo (by simp; omega) _).mono (by omega)
      · exact (hB.setCell (by simp) _).setCell (by simp) _
theorem impl_Red_no (s : Int) (a : Option Addr) (n c : Nat) (xs : List Int) (w : World) (h1 : Row w a n xs) (hm : n ≤ 9223372036854775807) (hb : isBr s xs = false) :
    Calls Try.prog 16 #[bAgg s a n c] w (RetB w 0 [] 1) := by
  have HB := Lib.hid hb; clear hb
  obtain ⟨w0, hw0⟩ : ∃ w0, (w.alloc (.cells #[.int .i64 s, .slice a n c] 26)).alloc (.cells #[.int .i64 0, .slice none 0 0] 26) = w0 := ⟨_, rfl⟩
  have hA : Loc w0 w.heap.size #[.int .i64 s, .slice a n c] 26 := by rw [← hw0]; exact (Loc.new w rfl _ _).alloc _
  have hR : Loc w0 (w.heap.size + 1) #[.int .i64 0, .slice none 0 0] 26 := by rw [← hw0]; exact Loc.new _ (by simp) _ _
  have hB0 : Below w.heap.size w w0 := by rw [← hw0]; exact below_al (below_al (Below.refl _ _) _) _
  have hr0 := h1.below hB0
  have HW0 := Lib.hid hw0
  clear hw0
  have lA0 := hA.two
  go_enter Try.func16, Try.ntmps16
  go_wp2_with fail
  rw [HW0.out]
  refine (isBraid_any _ _ _ _ xs _ hr0 hm).mono ?_
  rintro e w1 ⟨rfl, hb1⟩
  rw [HB.out]
  replace hR := hR.below hb1 hR.lt
  have hB1 := below_th hB0 hb1
  have lR := hR.two
  clear lA0
  go_wp2
  refine bodyPost_ret (v := .tuple #[bAgg 0 none 0 0, .int .i64 1]) (by simp [results, Try.results16, go_sem, lR]) rfl ⟨none, 0, 0, rfl, Own.nil _ _, ?_⟩
  exact (hB1.setCell (by simp) _).setCell (by simp) _
end Go.Proofs.Ytgnaeeifnhgobaa

namespace Go.Proofs.Ytgnaeeifnhgobaa
set_option maxRecDepth 100000
set_option linter.unusedVariables false
set_option linter.unusedSimpArgs false
open Go.RowKit

set_option maxHeartbeats 8000000 in
theorem spec_Red_ok (s : Int) (a : Option Addr) (n c : Nat) (xs : List Int) (w : World) (h1 : Row w a n xs) (hm : n ≤ 9223372036854775807) (hb : isBr s xs = true) :
    Calls Try.prog 17 #[bAgg s a n c] w (RetB w s (redL xs) 0) := by
  have HB := Lib.hid hb
  have hbr := isBr_let hb
  have HL := Lib.hid h1.len
  have hn30 : n ≤ 30 := by have := h1.len; omega
  have HRL := Lib.hid (red_len xs)
  have HLB : Hid (∀ k (h : k < xs.length), -6 ≤ xs[k] ∧ xs[k] ≤ 6) := Lib.hid fun k h => by have := hbr.2.2 _ (List.getElem_mem h); omega
  have hsI : I64 s := ⟨by omega, by omega⟩
  clear hb hbr
  obtain ⟨w0, hw0⟩ : ∃ w0, (w.alloc (.cells #[.int .i64 s, .slice a n c] 26)).alloc (.cells #[.int .i64 0, .slice none 0 0] 26) = w0 := ⟨_, rfl⟩
  have hA : Loc w0 w.heap.size #[.int .i64 s, .slice a n c] 26 := by rw [← hw0]; exact (Loc.new w rfl _ _).alloc _
  have hR : Loc w0 (w.heap.size + 1) #[.int .i64 0, .slice none 0 0] 26 := by rw [← hw0]; exact Loc.new _ (by simp) _ _
  have hB0 : Below w.heap.size w w0 := by rw [← hw0]; exact below_al (below_al (Below.refl _ _) _) _
  have hz0 : w0.heap.size = w.heap.size + 2 := by rw [← hw0]; simp
  have hr0 := h1.below hB0
  have HW0 := Lib.hid hw0
  have HZ0 := Lib.hid hz0
  clear hw0 hz0
  have lA0 := hA.two
  go_enter Try.func17, Try.ntmps17
  go_wp2_with fail
  rw [HW0.out]
  refine (l16Is_any _ _ _ _ xs _ hr0 hm hsI).mono ?_
  rintro e w1 ⟨rfl, hb1⟩
  rw [HB.out]
  replace hA := hA.below hb1 hA.lt
  replace hR := hR.below hb1 hR.lt
  have hB1 := below_th hB0 hb1
  have lA1 := hA.two
  have hz1 : w.heap.size + 2 ≤ w1.heap.size := by have := hb1.size; have := HZ0.out; omega
  clear lA0 hsI
  go_wp2
  go_loopw [4, 5, 6] (fun o' i _ wr => ∃ (k : Nat) (a' : Option Addr) (m c' : Nat), k ≤ n ∧ i = .int .i64 k ∧ o' = .slice a' m c' ∧ Loc wr w.heap.size #[.int .i64 s, .slice a n c] 26 ∧ Loc wr (w.heap.size + 1) #[.int .i64 0, .slice none 0 0] 26 ∧
    Own wr w1.heap.size a' m c' ((xs.take k).foldl redF []) ∧ Below w.heap.size w wr ∧ w1.heap.size ≤ wr.heap.size) (fun _ i _ _ => n - (intOf i).toNat)
  case atStart => exact ⟨0, some ⟨w1.heap.size, 0, none⟩, 0, 0, Nat.zero_le _, rfl, rfl, hA.alloc _, hR.alloc _, Own.fresh w1 rfl, below_al hB1 _, by simp⟩
  case round =>
    clear hA hR lA1
    obtain ⟨k, a', m, c', hk, rfl, rfl, hA, hR, ho, hB, hz⟩ := hrel
    have lA := hA.two
    by_cases hlt : k < n
    · obtain ⟨b, off, rfl, g1⟩ := (h1.below hB).at k hlt
      have hx : k < xs.length := by have := HL.out; omega
      have hm30 : m ≤ 30 := by have := ho.len; have := HRL.out k (by omega); omega
      have hy := HLB.out k hx
      have hS := red_succ xs k hx
      rw [getD_at hx] at g1
      obtain ⟨X, HX⟩ : ∃ X, Hid (xs[k] = X) := ⟨_, Lib.hid rfl⟩
      rw [HX.out] at g1 hy hS
      obtain ⟨hy1, hy2⟩ := hy
      have hng : IntKind.i64.wrap (-X) = -X := IntWalk.i64_in _ ⟨by omega, by omega⟩
      have i1 : (0 : Int) ≤ (k : Int) := by omega
      have i2 : (k : Int) < (n : Int) := by omega
      have HLE := Lib.hid ho.len
      obtain ⟨ys, HYS⟩ : ∃ ys, Hid ((xs.take k).foldl redF [] = ys) := ⟨_, Lib.hid rfl⟩
      rw [HYS.out] at ho hS HLE
      rcases m with _ | q
      · have HS := Lib.hid (hS.trans (redF_no (.inl HLE.out.symm)))
        clear hS
        go_wp2
        go_quiet (fail)
        have hoD := ho.drewN nq
        have hAD := hA.drewN nq
        have hRD := hR.drewN nq
        have hBD := below_drewN hB nq
        have hzD : w1.heap.size ≤ (wr.drewN nq).heap.size := hz
        have g1D : (wr.drewN nq).cell? ⟨b, off + k, none⟩ = some (.int .i64 X) := g1
        have lAD := hAD.two
        clear ho hA hR hB hz g1 lA
        generalize wr.drewN nq = V at *
        go_wp2_with (at_builtin; refine app1 rfl rfl hoD rfl rfl (by omega) (by omega) ?_; intro g' cc w8 hO hg8 hs8 hb8)
        go_roundw
        case rel =>
          refine ⟨k + 1, some ⟨g', 0, none⟩, 0 + 1, cc, by omega, by go_num, rfl, hAD.below hb8 (by omega), hRD.below hb8 (by omega), ?_, hBD.trans (hb8.mono (by omega)), by omega⟩
          rw [HS.out]
          exact hO
        case measure => simp [intOf]; omega
      · obtain ⟨gy, oy, rfl, g2⟩ := ho.row.at q (by omega)
        have hc := ho.cap
        have hw1 : IntKind.i64.wrap (((q + 1 : Nat) : Int) - 1) = (q : Int) := (IntWalk.i64_in _ ⟨by omega, by omega⟩).trans (by omega)
        obtain ⟨Y, HY⟩ : ∃ Y, Hid (ys.getD q 0 = Y) := ⟨_, Lib.hid rfl⟩
        rw [HY.out] at g2
        have i3 : (0 : Int) ≤ (q : Int) := by omega
        have i4 : (q : Int) < ((q + 1 : Nat) : Int) := by omega
        have i5 : (q : Int) ≤ (c' : Int) := by omega
        have i6 : (0 : Int) < ((q + 1 : Nat) : Int) := by omega
        by_cases hyx : Y = -X
        · have HS := Lib.hid (hS.trans (redF_yes HLE.out.symm (HY.out.trans hyx)))
          subst hyx
          clear hS
          have hcut := ho.cut (show q ≤ q + 1 by omega)
          go_wp2
          go_quiet (fail)
          go_wp2
          go_roundw
          case rel => exact ⟨k + 1, some ⟨gy, oy, none⟩, q, c', by omega, by go_num, rfl, hA.drewN _, hR.drewN _, by rw [HS.out]; exact hcut.drewN _, below_drewN hB _, hz⟩
          case measure => simp [intOf]; omega
        · have HS := Lib.hid (hS.trans (redF_no (.inr (by rw [← HLE.out, Nat.add_sub_cancel, HY.out]; exact hyx))))
          have hyx2 : (Y == -X) = false := by simpa using hyx
          clear hS
          go_wp2
          go_quiet (fail)
          have hoD := ho.drewN nq
          have hAD := hA.drewN nq
          have hRD := hR.drewN nq
          have hBD := below_drewN hB nq
          have hzD : w1.heap.size ≤ (wr.drewN nq).heap.size := hz
          have g1D : (wr.drewN nq).cell? ⟨b, off + k, none⟩ = some (.int .i64 X) := g1
          have lAD := hAD.two
          clear ho hA hR hB hz g1 lA
          generalize wr.drewN nq = V at *
          go_wp2_with (at_builtin; refine app1 rfl rfl hoD rfl rfl (by omega) (by omega) ?_; intro g' cc w8 hO hg8 hs8 hb8)
          go_roundw
          case rel =>
            refine ⟨k + 1, some ⟨g', 0, none⟩, (q + 1) + 1, cc, by omega, by go_num, rfl, hAD.below hb8 (by omega), hRD.below hb8 (by omega), ?_, hBD.trans (hb8.mono (by omega)), by omega⟩
            rw [HS.out]
            exact hO
          case measure => simp [intOf]; omega
    · obtain rfl : n = k := by omega
      have HE : Hid ((xs.take n).foldl redF [] = redL xs) := Lib.hid (by rw [List.take_of_length_le (by have := HL.out; omega)]; rfl)
      have hm30 : m ≤ 30 := by have := ho.len; have := HRL.out n (by have := HL.out; omega); omega
      rw [HE.out] at ho
      go_wp2
      go_region_held3 (fun w' => w'.cell? ⟨w.heap.size, 0, none⟩ = some (.int .i64 s))
        (first | exact lA2.1 | exact lA.1 | go_keep)
        (first | (go_at_call 37; refine (l01Own_any a' m c' _ _ (ho.row.drewN 1) (by omega)).mono ?_; rintro e w2 ⟨a2, c2, rfl, hO2, hb2⟩; have hb3 : Below wr.heap.size wr w2 := (Below.drew (Below.refl _ _)).trans hb2; have lA2 := (hA.below hb3 hA.lt).two; have lR2 := (hR.below hb3 hR.lt).two))
      all_goals
        go_wp2
        refine bodyPost_ret (v := .tuple #[bAgg s a2 m c2, .int .i64 0]) (by simp [results, Try.results17, go_sem, lR2]) rfl ⟨a2, m, c2, rfl, ?_, ?_⟩
        · exact ((hO2.setlo (by show w.heap.size + 1 < wr.heap.size; omega) _).setlo (by show w.heap.size + 1 < wr.heap.size; omega) _).mono (by show w.heap.size ≤ wr.heap.size; omega)
        · exact ((hB.trans (hb3.mono (by omega))).setCell (by simp) _).setCell (by simp) _
theorem spec_Red_no (s : Int) (a : Option Addr) (n c : Nat) (xs : List Int) (w : World) (h1 : Row w a n xs) (hm : n ≤ 9223372036854775807) (hs : I64 s) (hb : isBr s xs = false) :
    Calls Try.prog 17 #[bAgg s a n c] w (RetB w 0 [] 1) := by
  have HB := Lib.hid hb; clear hb
  obtain ⟨w0, hw0⟩ : ∃ w0, (w.alloc (.cells #[.int .i64 s, .slice a n c] 26)).alloc (.cells #[.int .i64 0, .slice none 0 0] 26) = w0 := ⟨_, rfl⟩
  have hA : Loc w0 w.heap.size #[.int .i64 s, .slice a n c] 26 := by rw [← hw0]; exact (Loc.new w rfl _ _).alloc _
  have hR : Loc w0 (w.heap.size + 1) #[.int .i64 0, .slice none 0 0] 26 := by rw [← hw0]; exact Loc.new _ (by simp) _ _
  have hB0 : Below w.heap.size w w0 := by rw [← hw0]; exact below_al (below_al (Below.refl _ _) _) _
  have hr0 := h1.below hB0
  have HW0 := Lib.hid hw0
  clear hw0
  have lA0 := hA.two
  go_enter Try.func17, Try.ntmps17
  go_wp2_with fail
  rw [HW0.out]
  refine (l16Is_any _ _ _ _ xs _ hr0 hm hs).mono ?_
  rintro e w1 ⟨rfl, hb1⟩
  rw [HB.out]
  replace hR := hR.below hb1 hR.lt
  have hB1 := below_th hB0 hb1
  have lR := hR.two
  clear lA0
  go_wp2
  refine bodyPost_ret (v := .tuple #[bAgg 0 none 0 0, .int .i64 1]) (by simp [results, Try.results17, go_sem, lR]) rfl ⟨none, 0, 0, rfl, Own.nil _ _, ?_⟩
  exact (hB1.setCell (by simp) _).setCell (by simp) _
end Go.Proofs.Ytgnaeeifnhgobaa

namespace Go.Proofs.Ytgnaeeifnhgobaa
set_option maxRecDepth 100000
set_option linter.unusedVariables false
set_option linter.unusedSimpArgs false
open Go.RowKit

/-- the error of two braids -/
def twoF (s : Int) (xs : List Int) (t : Int) (ys : List Int) : Int := if isBr s xs && isBr t ys && decide (s = t) then 0 else 1

set_option maxHeartbeats 2000000 in
theorem l16Two_any (s t : Int) (a a' : Option Addr) (N N' c c' : Nat) (xs ys : List Int) (w : World) (h1 : Row w a N xs) (h2 : Row w a' N' ys) (hm : N ≤ 9223372036854775807) (hm' : N' ≤ 9223372036854775807) (hs : I64 s) (ht : I64 t) :
    Calls Try.prog 36 #[bAgg s a N c, bAgg t a' N' c'] w fun e w' => e = .returned (.int .i64 (twoF s xs t ys)) ∧ Below w.heap.size w w' := by
  obtain ⟨w0, hw0⟩ : ∃ w0, (w.alloc (.cells #[.int .i64 s, .slice a N c] 26)).alloc (.cells #[.int .i64 t, .slice a' N' c'] 26) = w0 := ⟨_, rfl⟩
  have hA : Loc w0 w.heap.size #[.int .i64 s, .slice a N c] 26 := by rw [← hw0]; exact (Loc.new w rfl _ _).alloc _
  have hC : Loc w0 (w.heap.size + 1) #[.int .i64 t, .slice a' N' c'] 26 := by rw [← hw0]; exact Loc.new _ (by simp) _ _
  have hB0 : Below w.heap.size w w0 := by rw [← hw0]; exact below_al (below_al (Below.refl _ _) _) _
  have HW0 := Lib.hid hw0
  clear hw0
  have lA := hA.two
  have lC := hC.two
  cases hb : isBr s xs with
  | false =>
    have HB := Lib.hid hb
    have HT : Hid (twoF s xs t ys = 1) := Lib.hid (by simp [twoF, hb])
    clear hb
    rw [HT.out]
    go_enter Try.func36, Try.ntmps36
    go_wp2_with fail
    rw [HW0.out]
    refine (l16Is_any s a N c xs w0 (h1.below hB0) hm hs).mono ?_
    rintro e w1 ⟨rfl, hb1⟩
    rw [HB.out]
    go_wp2
    go_ret
    exact ⟨rfl, below_th hB0 hb1⟩
  | true =>
    have HB := Lib.hid hb
    cases hb' : isBr t ys with
    | false =>
      have HB' := Lib.hid hb'
      have HT : Hid (twoF s xs t ys = 1) := Lib.hid (by simp [twoF, hb, hb'])
      clear hb hb'
      rw [HT.out]
      go_enter Try.func36, Try.ntmps36
      go_wp2_with fail
      rw [HW0.out]
      refine (l16Is_any s a N c xs w0 (h1.below hB0) hm hs).mono ?_
      rintro e w1 ⟨rfl, hb1⟩
      rw [HB.out]
      have lA1 := (hA.below hb1 hA.lt).two
      have lC1 := (hC.below hb1 hC.lt).two
      have hB1 := below_th hB0 hb1
      clear lA lC
      go_wp2_with fail
      refine (l16Is_any t a' N' c' ys w1 (h2.below hB1) hm' ht).mono ?_
      rintro e w2 ⟨rfl, hb2⟩
      rw [HB'.out]
      go_wp2
      go_ret
      exact ⟨rfl, below_th hB1 hb2⟩
    | true =>
      have HB' := Lib.hid hb'
      by_cases hst : s = t
      · have HT : Hid (twoF s xs t ys = 0) := Lib.hid (by unfold twoF; rw [hb, hb']; simp [hst])
        have hne : (s != t) = false := by simpa using hst
        clear hb hb' hst
        rw [HT.out]
        go_enter Try.func36, Try.ntmps36
        go_wp2_with fail
        rw [HW0.out]
        refine (l16Is_any s a N c xs w0 (h1.below hB0) hm hs).mono ?_
        rintro e w1 ⟨rfl, hb1⟩
        rw [HB.out]
        have hA1 := hA.below hb1 hA.lt
        have hC1 := hC.below hb1 hC.lt
        have lA1 := hA1.two
        have lC1 := hC1.two
        have hB1 := below_th hB0 hb1
        clear lA lC
        go_wp2_with fail
        refine (l16Is_any t a' N' c' ys w1 (h2.below hB1) hm' ht).mono ?_
        rintro e w2 ⟨rfl, hb2⟩
        rw [HB'.out]
        have lA2 := (hA1.below hb2 hA1.lt).two
        have lC2 := (hC1.below hb2 hC1.lt).two
        clear lA1 lC1
        go_wp2
        go_ret
        exact ⟨rfl, below_th hB1 hb2⟩
      · have HT : Hid (twoF s xs t ys = 1) := Lib.hid (by unfold twoF; rw [hb, hb']; simp [hst])
        have hne : (s != t) = true := by simpa using hst
        clear hb hb' hst
        rw [HT.out]
        go_enter Try.func36, Try.ntmps36
        go_wp2_with fail
        rw [HW0.out]
        refine (l16Is_any s a N c xs w0 (h1.below hB0) hm hs).mono ?_
        rintro e w1 ⟨rfl, hb1⟩
        rw [HB.out]
        have hA1 := hA.below hb1 hA.lt
        have hC1 := hC.below hb1 hC.lt
        have lA1 := hA1.two
        have lC1 := hC1.two
        have hB1 := below_th hB0 hb1
        clear lA lC
        go_wp2_with fail
        refine (l16Is_any t a' N' c' ys w1 (h2.below hB1) hm' ht).mono ?_
        rintro e w2 ⟨rfl, hb2⟩
        rw [HB'.out]
        have lA2 := (hA1.below hb2 hA1.lt).two
        have lC2 := (hC1.below hb2 hC1.lt).two
        clear lA1 lC1
        go_wp2
        go_ret
        exact ⟨rfl, below_th hB1 hb2⟩

set_option maxHeartbeats 2000000 in
theorem spec_Tim_no (s t : Int) (a a' : Option Addr) (N N' c c' : Nat) (xs ys : List Int) (w : World) (h1 : Row w a N xs) (h2 : Row w a' N' ys) (hm : N ≤ 9223372036854775807) (hm' : N' ≤ 9223372036854775807) (hs : I64 s) (ht : I64 t) (hT : twoF s xs t ys = 1) :
    Calls Try.prog 8 #[bAgg s a N c, bAgg t a' N' c'] w (RetB w 0 [] 1) := by
  have HT := Lib.hid hT; clear hT
  obtain ⟨w0, hw0⟩ : ∃ w0, ((w.alloc (.cells #[.int .i64 s, .slice a N c] 26)).alloc (.cells #[.int .i64 t, .slice a' N' c'] 26)).alloc (.cells #[.int .i64 0, .slice none 0 0] 26) = w0 := ⟨_, rfl⟩
  have hA : Loc w0 w.heap.size #[.int .i64 s, .slice a N c] 26 := by rw [← hw0]; exact ((Loc.new w rfl _ _).alloc _).alloc _
  have hC : Loc w0 (w.heap.size + 1) #[.int .i64 t, .slice a' N' c'] 26 := by rw [← hw0]; exact (Loc.new _ (by simp) _ _).alloc _
  have hR : Loc w0 (w.heap.size + 2) #[.int .i64 0, .slice none 0 0] 26 := by rw [← hw0]; exact Loc.new _ (by simp) _ _
  have hB0 : Below w.heap.size w w0 := by rw [← hw0]; exact below_al (below_al (below_al (Below.refl _ _) _) _) _
  have HW0 := Lib.hid hw0
  clear hw0
  have lA := hA.two
  have lC := hC.two
  go_enter Try.func8, Try.ntmps8
  go_wp2_with fail
  rw [HW0.out]
  refine (l16Two_any s t a a' N N' c c' xs ys w0 (h1.below hB0) (h2.below hB0) hm hm' hs ht).mono ?_
  rintro e w1 ⟨rfl, hb1⟩
  have hA1 := hA.below hb1 hA.lt
  have hC1 := hC.below hb1 hC.lt
  have hR1 := hR.below hb1 hR.lt
  have lA1 := hA1.two
  have lC1 := hC1.two
  have lR1 := hR1.two
  have hB1 := below_th hB0 hb1
  have z1 : w.heap.size + 2 < w1.heap.size := hR1.lt
  clear lA lC
  rw [HT.out]
  go_wp2
  refine bodyPost_ret (v := .tuple #[bAgg 0 none 0 0, .int .i64 1]) (by simp [results, Try.results8, go_sem, lR1]) rfl ⟨none, 0, 0, rfl, Own.nil _ _, ?_⟩
  exact (hB1.setCell (by show w.heap.size ≤ w.heap.size + 2; omega) _).setCell (by show w.heap.size ≤ w.heap.size + 2; omega) _

set_option maxHeartbeats 2000000 in
theorem spec_Tim_limit (s t : Int) (a a' : Option Addr) (N N' c c' : Nat) (xs ys : List Int) (w : World) (h1 : Row w a N xs) (h2 : Row w a' N' ys) (hm : N ≤ 9223372036854775807) (hm' : N' ≤ 9223372036854775807) (hs : I64 s) (ht : I64 t) (hT : twoF s xs t ys = 0) (h30 : ¬ N + N' ≤ 30) (hN : N ≤ 30) (hN' : N' ≤ 30) :
    Calls Try.prog 8 #[bAgg s a N c, bAgg t a' N' c'] w (RetB w 0 [] 3) := by
  have HT := Lib.hid hT; clear hT
  have k1 : (30 : Int) < (N : Int) + (N' : Int) := by omega
  obtain ⟨w0, hw0⟩ : ∃ w0, ((w.alloc (.cells #[.int .i64 s, .slice a N c] 26)).alloc (.cells #[.int .i64 t, .slice a' N' c'] 26)).alloc (.cells #[.int .i64 0, .slice none 0 0] 26) = w0 := ⟨_, rfl⟩
  have hA : Loc w0 w.heap.size #[.int .i64 s, .slice a N c] 26 := by rw [← hw0]; exact ((Loc.new w rfl _ _).alloc _).alloc _
  have hC : Loc w0 (w.heap.size + 1) #[.int .i64 t, .slice a' N' c'] 26 := by rw [← hw0]; exact (Loc.new _ (by simp) _ _).alloc _
  have hR : Loc w0 (w.heap.size + 2) #[.int .i64 0, .slice none 0 0] 26 := by rw [← hw0]; exact Loc.new _ (by simp) _ _
  have hB0 : Below w.heap.size w w0 := by rw [← hw0]; exact below_al (below_al (below_al (Below.refl _ _) _) _) _
  have HW0 := Lib.hid hw0
  clear hw0
  have lA := hA.two
  have lC := hC.two
  go_enter Try.func8, Try.ntmps8
  go_wp2_with fail
  rw [HW0.out]
  refine (l16Two_any s t a a' N N' c c' xs ys w0 (h1.below hB0) (h2.below hB0) hm hm' hs ht).mono ?_
  rintro e w1 ⟨rfl, hb1⟩
  have hA1 := hA.below hb1 hA.lt
  have hC1 := hC.below hb1 hC.lt
  have hR1 := hR.below hb1 hR.lt
  have lA1 := hA1.two
  have lC1 := hC1.two
  have lR1 := hR1.two
  have hB1 := below_th hB0 hb1
  have z1 : w.heap.size + 2 < w1.heap.size := hR1.lt
  clear lA lC
  rw [HT.out]
  go_wp2
  refine bodyPost_ret (v := .tuple #[bAgg 0 none 0 0, .int .i64 3]) (by simp [results, Try.results8, go_sem, lR1]) rfl ⟨none, 0, 0, rfl, Own.nil _ _, ?_⟩
  exact (hB1.setCell (by show w.heap.size ≤ w.heap.size + 2; omega) _).setCell (by show w.heap.size ≤ w.heap.size + 2; omega) _

set_option maxHeartbeats 2000000 in
theorem spec_Tim_ok (s t : Int) (a a' : Option Addr) (N N' c c' : Nat) (xs ys : List Int) (w : World) (h1 : Row w a N xs) (h2 : Row w a' N' ys) (hm : N ≤ 9223372036854775807) (hm' : N' ≤ 9223372036854775807) (hs : I64 s) (ht : I64 t) (hT : twoF s xs t ys = 0) (h30 : N + N' ≤ 30) :
    Calls Try.prog 8 #[bAgg s a N c, bAgg t a' N' c'] w (RetB w s (xs ++ ys) 0) := by
  have HT := Lib.hid hT; clear hT
  have k1 : ¬ (30 : Int) < (N : Int) + (N' : Int) := by omega
  obtain ⟨w0, hw0⟩ : ∃ w0, ((w.alloc (.cells #[.int .i64 s, .slice a N c] 26)).alloc (.cells #[.int .i64 t, .slice a' N' c'] 26)).alloc (.cells #[.int .i64 0, .slice none 0 0] 26) = w0 := ⟨_, rfl⟩
  have hA : Loc w0 w.heap.size #[.int .i64 s, .slice a N c] 26 := by rw [← hw0]; exact ((Loc.new w rfl _ _).alloc _).alloc _
  have hC : Loc w0 (w.heap.size + 1) #[.int .i64 t, .slice a' N' c'] 26 := by rw [← hw0]; exact (Loc.new _ (by simp) _ _).alloc _
  have hR : Loc w0 (w.heap.size + 2) #[.int .i64 0, .slice none 0 0] 26 := by rw [← hw0]; exact Loc.new _ (by simp) _ _
  have hB0 : Below w.heap.size w w0 := by rw [← hw0]; exact below_al (below_al (below_al (Below.refl _ _) _) _) _
  have HW0 := Lib.hid hw0
  clear hw0
  have lA := hA.two
  have lC := hC.two
  go_enter Try.func8, Try.ntmps8
  go_wp2_with fail
  rw [HW0.out]
  refine (l16Two_any s t a a' N N' c c' xs ys w0 (h1.below hB0) (h2.below hB0) hm hm' hs ht).mono ?_
  rintro e w1 ⟨rfl, hb1⟩
  have hA1 := hA.below hb1 hA.lt
  have hC1 := hC.below hb1 hC.lt
  have hR1 := hR.below hb1 hR.lt
  have lA1 := hA1.two
  have lC1 := hC1.two
  have lR1 := hR1.two
  have hB1 := below_th hB0 hb1
  have z1 : w.heap.size + 2 < w1.heap.size := hR1.lt
  clear lA lC
  have hr1 := h1.below hB1
  have hr2 := h2.below hB1
  rw [HT.out]
  go_wp2
  go_region_held3 (fun w' => w'.cell? ⟨w.heap.size, 0, none⟩ = some (.int .i64 s) ∧ w'.cell? ⟨w.heap.size, 1, none⟩ = some (.slice a N c) ∧ w'.cell? ⟨w.heap.size + 1, 1, none⟩ = some (.slice a' N' c'))
    (first | exact ⟨lA3.1, lA3.2.1, lC3.2.1⟩ | exact ⟨lA2.1, lA2.2.1, lC2.2.1⟩ | exact ⟨lA1.1, lA1.2.1, lC1.2.1⟩ | exact ⟨((hA3.setne (by simp <;> omega) _).setne (by simp <;> omega) _).cell 0 rfl, ((hA3.setne (by simp <;> omega) _).setne (by simp <;> omega) _).cell 1 rfl, ((hC3.setne (by simp <;> omega) _).setne (by simp <;> omega) _).cell 1 rfl⟩ | go_keep)
    (first
    | (refine step_appL rfl rfl ho rfl (hr2b) rfl ?_ ?_ ?_; (omega); (exact hb2.size); intro a5 c5 w3 hO hg3 hb3; have hR3 : Loc w3 (w.heap.size + 2) _ _ := hR2.below hb3 (by first | omega | (simp <;> omega)); have hA3 : Loc w3 w.heap.size _ _ := hA2.below hb3 (by first | omega | (simp <;> omega)); have hC3 : Loc w3 (w.heap.size + 1) _ _ := hC2.below hb3 (by first | omega | (simp <;> omega)); have lR3 := hR3.two; have lA3 := hA3.two; have lC3 := hC3.two; have hB3 := hB2.trans (hb3.mono (by first | omega | (simp <;> omega))))
    | (go_at_call 37; refine (l01Own_any a N c xs _ (hr1.drewN 1) (by omega)).mono ?_; rintro e w2 ⟨a4, c4, rfl, ho, hb2⟩; have hA2 : Loc w2 w.heap.size _ _ := (hA1.drewN 1).below hb2 (by simp <;> omega); have hC2 : Loc w2 (w.heap.size + 1) _ _ := (hC1.drewN 1).below hb2 (by simp <;> omega); have hR2 : Loc w2 (w.heap.size + 2) _ _ := (hR1.drewN 1).below hb2 (by simp <;> omega); have lA2 := hA2.two; have lC2 := hC2.two; have lR2 := hR2.two; have hB2 : Below w.heap.size w w2 := (below_drewN hB1 1).trans (hb2.mono (by simp <;> omega)); have hr2b := (hr2.drewN 1).below hb2))
  all_goals
    go_wp2
    refine bodyPost_ret (v := .tuple #[bAgg s a5 (N + N') c5, .int .i64 0]) (by simp [results, Try.results8, go_sem, lR3]) rfl ⟨a5, _, c5, rfl, ?_, ?_⟩
    · exact ((hO.setlo (by simp <;> omega) _).setlo (by simp <;> omega) _).mono (by simp <;> omega)
    · exact (hB3.setCell (by show w.heap.size ≤ w.heap.size + 2; omega) _).setCell (by show w.heap.size ≤ w.heap.size + 2; omega) _

theorem spec_Tim_any (s t : Int) (a a' : Option Addr) (N N' c c' : Nat) (xs ys : List Int) (w : World) (h1 : Row w a N xs) (h2 : Row w a' N' ys) (hm : N ≤ 9223372036854775807) (hm' : N' ≤ 9223372036854775807) (hs : I64 s) (ht : I64 t) :
    Calls Try.prog 8 #[bAgg s a N c, bAgg t a' N' c'] w (RetB w (timF s xs t ys).1 (timF s xs t ys).2.1 (timF s xs t ys).2.2) := by
  by_cases h : isBr s xs && isBr t ys && decide (s = t)
  · have hT : twoF s xs t ys = 0 := if_pos h
    have h' := h
    simp only [Bool.and_eq_true] at h'
    have hl1 := (isBr_let h'.1.1).2.1
    have hl2 := (isBr_let h'.1.2).2.1
    have e1 := h1.len
    have e2 := h2.len
    by_cases h30 : xs.length + ys.length ≤ 30
    · have hF : timF s xs t ys = (s, xs ++ ys, 0) := by unfold timF; rw [if_pos h, if_pos h30]
      rw [hF]; exact spec_Tim_ok s t a a' N N' c c' xs ys w h1 h2 hm hm' hs ht hT (by omega)
    · have hF : timF s xs t ys = (0, [], 3) := by unfold timF; rw [if_pos h, if_neg h30]
      rw [hF]; exact spec_Tim_limit s t a a' N N' c c' xs ys w h1 h2 hm hm' hs ht hT (by omega) (by omega) (by omega)
  · have hT : twoF s xs t ys = 1 := if_neg h
    have hF : timF s xs t ys = (0, [], 1) := by unfold timF; rw [if_neg h]
    rw [hF]; exact spec_Tim_no s t a a' N N' c c' xs ys w h1 h2 hm hm' hs ht hT
end Go.Proofs.Ytgnaeeifnhgobaa

namespace Go.Proofs.Ytgnaeeifnhgobaa
set_option maxRecDepth 100000
set_option linter.unusedVariables false
set_option linter.unusedSimpArgs false
open Go.RowKit

theorem info_By : (Try.prog.info? 5).map (fun i => (i.zero, i.size, i.bytes)) = some (some (Value.int .u8 0), 1, 1) := by kernel_rfl
theorem und_By : Try.prog.underlying 22 = some (.slice 5) := by kernel_rfl

/-! ### A slice of numbers that is read -/
/-- the slice (a, n, c) reads in w as the numbers xs -/
def RowBy (w : World) (a : Option Addr) (n : Nat) (xs : List Int) : Prop :=
  n = xs.length ∧ ∀ i, i < n → ∃ b off, a = some ⟨b, off, none⟩ ∧ b < w.heap.size ∧ w.cell? ⟨b, off + i, none⟩ = some (Value.int .u8 (xs.getD i 0))

theorem RowBy.nil (w : World) (a : Option Addr) : RowBy w a 0 [] := ⟨rfl, fun i h => absurd h (by omega)⟩
theorem RowBy.len {w : World} {a : Option Addr} {n : Nat} {xs : List Int} (h : RowBy w a n xs) : n = xs.length := h.1
theorem RowBy.at {w : World} {a : Option Addr} {n : Nat} {xs : List Int} (h : RowBy w a n xs) (i : Nat) (hi : i < n) : ∃ b off, a = some ⟨b, off, none⟩ ∧ w.cell? ⟨b, off + i, none⟩ = some (Value.int .u8 (xs.getD i 0)) := by
  obtain ⟨b, off, h1, _, h2⟩ := h.2 i hi; exact ⟨b, off, h1, h2⟩
/-- a slice with an element: all its cells -/
theorem RowBy.all {w : World} {a : Option Addr} {n : Nat} {xs : List Int} (h : RowBy w a n xs) (hn : 0 < n) : ∃ b off, a = some ⟨b, off, none⟩ ∧ b < w.heap.size ∧ ∀ i, i < n → w.cell? ⟨b, off + i, none⟩ = some (Value.int .u8 (xs.getD i 0)) := by
  obtain ⟨b, off, h1, h3, h2⟩ := h.2 0 hn
  refine ⟨b, off, h1, h3, fun i hi => ?_⟩
  obtain ⟨b', off', h4, _, h5⟩ := h.2 i hi
  rw [h1] at h4; cases h4; exact h5
theorem RowBy.below {w w' : World} {a : Option Addr} {n : Nat} {xs : List Int} (h : RowBy w a n xs) (hb : Below w.heap.size w w') : RowBy w' a n xs :=
  ⟨h.1, fun i hi => by obtain ⟨b, off, h1, h3, h2⟩ := h.2 i hi; exact ⟨b, off, h1, Nat.lt_of_lt_of_le h3 hb.size, (hb.cell (p := ⟨b, off + i, none⟩) h3).trans h2⟩⟩
theorem RowBy.drewN {w : World} {a : Option Addr} {n : Nat} {xs : List Int} (h : RowBy w a n xs) (k : Nat) : RowBy (w.drewN k) a n xs := h
theorem RowBy.alloc {w : World} {a : Option Addr} {n : Nat} {xs : List Int} (h : RowBy w a n xs) (o : Obj) : RowBy (w.alloc o) a n xs := h.below ((Below.refl _ _).alloc (Nat.le_refl _) o)

/-! ### A slice of numbers that the call owns (its block lies from 'lo' on) -/
def OwnBy (w : World) (lo : Nat) (a : Option Addr) (n c : Nat) (xs : List Int) : Prop := n = xs.length ∧ w.ownsRow lo 5 1 (.slice a n c) n (xs.map (Value.int .u8))

theorem OwnBy.nil (w : World) (lo : Nat) : OwnBy w lo none 0 0 [] := ⟨rfl, World.ownsRow_nil w lo _ 1⟩
theorem OwnBy.len {w : World} {lo : Nat} {a : Option Addr} {n c : Nat} {xs : List Int} (h : OwnBy w lo a n c xs) : n = xs.length := h.1
theorem OwnBy.alloc {w : World} {lo : Nat} {a : Option Addr} {n c : Nat} {xs : List Int} (h : OwnBy w lo a n c xs) (o : Obj) : OwnBy (w.alloc o) lo a n c xs := ⟨h.1, h.2.alloc o⟩
theorem OwnBy.drew {w : World} {lo : Nat} {a : Option Addr} {n c : Nat} {xs : List Int} (h : OwnBy w lo a n c xs) : OwnBy w.drew lo a n c xs := h
theorem OwnBy.drewN {w : World} {lo : Nat} {a : Option Addr} {n c : Nat} {xs : List Int} (h : OwnBy w lo a n c xs) (k : Nat) : OwnBy (w.drewN k) lo a n c xs := h
/-- the block of a slice that is owned -/
theorem OwnBy.block {w : World} {lo : Nat} {a : Option Addr} {n c : Nat} {xs : List Int} (h : OwnBy w lo a n c xs) : (a = none ∧ n = 0 ∧ c = 0) ∨ ∃ g cur, a = some ⟨g, 0, none⟩ ∧ lo ≤ g ∧ Loc w g cur 5 ∧ n ≤ c ∧ c ≤ maxLen ∧ cur.size = c ∧ cur.toList.take n = xs.map (Value.int .u8) := by
  rcases h.2.2 with ⟨h1, h2⟩ | ⟨g, cap, cur, h1, h2, h3, h4, h5, h6, h7⟩
  · cases h1; exact .inl ⟨rfl, rfl, rfl⟩
  · cases h1; exact .inr ⟨g, cur, rfl, h2, h3, h4, h5, by simpa using h6, by simpa using h7⟩
theorem OwnBy.mk {w : World} {lo : Nat} {g n c : Nat} {xs : List Int} {cur : Array Value} (hn : n = xs.length) (h1 : lo ≤ g) (h2 : Loc w g cur 5) (h3 : n ≤ c) (h4 : c ≤ maxLen) (h5 : cur.size = c) (h6 : cur.toList.take n = xs.map (Value.int .u8)) : OwnBy w lo (some ⟨g, 0, none⟩) n c xs :=
  ⟨hn, by simp [hn], .inr ⟨g, c, cur, rfl, h1, h2, h3, h4, by simpa using h5, by simpa using h6⟩⟩
theorem OwnBy.lt {w : World} {lo : Nat} {g o n c : Nat} {xs : List Int} (h : OwnBy w lo (some ⟨g, o, none⟩) n c xs) : lo ≤ g ∧ g < w.heap.size := by
  rcases h.block with ⟨h1, _⟩ | ⟨g', cur, h1, h2, h3, _⟩
  · cases h1
  · cases h1; exact ⟨h2, h3.lt⟩
theorem OwnBy.mono {w : World} {lo lo' : Nat} {a : Option Addr} {n c : Nat} {xs : List Int} (h : OwnBy w lo a n c xs) (hl : lo' ≤ lo) : OwnBy w lo' a n c xs := by
  rcases h.block with ⟨rfl, rfl, rfl⟩ | ⟨g, cur, rfl, h2, h3, h4, h5, h6, h7⟩
  · have : xs = [] := List.eq_nil_of_length_eq_zero h.1.symm
    subst this; exact OwnBy.nil _ _
  · exact OwnBy.mk h.1 (by omega) h3 h4 h5 h6 h7
theorem OwnBy.keep {w w' : World} {lo : Nat} {a : Option Addr} {n c : Nat} {xs : List Int} (h : OwnBy w lo a n c xs) (hk : ∀ g, a = some ⟨g, 0, none⟩ → g < w.heap.size → w'.heap[g]? = w.heap[g]?) : OwnBy w' lo a n c xs := by
  rcases h.block with ⟨rfl, rfl, rfl⟩ | ⟨g, cur, rfl, h2, h3, h4, h5, h6, h7⟩
  · have : xs = [] := List.eq_nil_of_length_eq_zero h.1.symm
    subst this; exact OwnBy.nil _ _
  · exact OwnBy.mk h.1 h2 ((hk g rfl h3.lt).trans h3) h4 h5 h6 h7
theorem OwnBy.below {w w' : World} {lo : Nat} {a : Option Addr} {n c : Nat} {xs : List Int} (h : OwnBy w lo a n c xs) (hb : Below w.heap.size w w') : OwnBy w' lo a n c xs := h.keep fun g _ hlt => hb.block g hlt
theorem OwnBy.setne {w : World} {lo : Nat} {a : Option Addr} {n c : Nat} {xs : List Int} (h : OwnBy w lo a n c xs) {p : Addr} (hp : ∀ g, a = some ⟨g, 0, none⟩ → g ≠ p.block) (u : Value) : OwnBy (w.setCell p u) lo a n c xs := h.keep fun g hg _ => Below.heap_setCell _ _ _ _ (hp g hg)
theorem OwnBy.setlo {w : World} {lo : Nat} {a : Option Addr} {n c : Nat} {xs : List Int} (h : OwnBy w lo a n c xs) {p : Addr} (hp : p.block < lo) (u : Value) : OwnBy (w.setCell p u) lo a n c xs := by
  refine h.setne (fun g hg => ?_) u
  subst hg; have := h.lt; omega
theorem OwnBy.grown {w w' : World} {lo : Nat} {a : Option Addr} {n c : Nat} {xs : List Int} {row : Option Nat} (h : OwnBy w lo a n c xs) (hg : w.grownBy w' row) (hne : ∀ g, a = some ⟨g, 0, none⟩ → some g ≠ row) : OwnBy w' lo a n c xs := h.keep fun g hg' hlt => hg.block g hlt (hne g hg')
theorem OwnBy.cap {w : World} {lo : Nat} {a : Option Addr} {n c : Nat} {xs : List Int} (h : OwnBy w lo a n c xs) : n ≤ c ∧ c ≤ 9223372036854775807 := by
  rcases h.block with ⟨rfl, rfl, rfl⟩ | ⟨g, cur, rfl, h2, h3, h4, h5, h6, h7⟩
  · omega
  · unfold maxLen at h5; omega
theorem OwnBy.cells {w : World} {lo : Nat} {g o n c : Nat} {xs : List Int} (h : OwnBy w lo (some ⟨g, o, none⟩) n c xs) : o = 0 ∧ (∀ i, i < n → w.cell? ⟨g, i, none⟩ = some (Value.int .u8 (xs.getD i 0))) ∧ (∀ i, w.frozen? ⟨g, i, none⟩ = false) := by
  rcases h.block with ⟨h1, _⟩ | ⟨g', cur, h1, h2, h3, h4, h5, h6, h7⟩
  · cases h1
  · cases h1
    refine ⟨rfl, fun i hi => h3.cell i ?_, fun i => h3.free i⟩
    have hx : (cur.toList.take n)[i]? = (xs.map (Value.int .u8))[i]? := by rw [h7]
    have hxi : i < xs.length := by have := h.1; omega
    rw [List.getElem?_take, if_pos hi] at hx
    simp [List.getElem?_eq_getElem hxi] at hx
    simp [List.getD_eq_getElem?_getD, List.getElem?_eq_getElem hxi, hx]
theorem OwnBy.row {w : World} {lo : Nat} {a : Option Addr} {n c : Nat} {xs : List Int} (h : OwnBy w lo a n c xs) : RowBy w a n xs := by
  refine ⟨h.1, fun i hi => ?_⟩
  rcases h.block with ⟨rfl, rfl, rfl⟩ | ⟨g, cur, rfl, h2, h3, _⟩
  · omega
  · exact ⟨g, 0, rfl, h3.lt, by simpa using h.cells.2.1 i hi⟩
/-- a store into a slice that is owned -/
theorem OwnBy.set {w : World} {lo : Nat} {g n c : Nat} {xs : List Int} (h : OwnBy w lo (some ⟨g, 0, none⟩) n c xs) (i : Nat) (x : Int) : OwnBy (w.setCell ⟨g, i, none⟩ (Value.int .u8 x)) lo (some ⟨g, 0, none⟩) n c (xs.set i x) := by
  rcases h.block with ⟨h1, _⟩ | ⟨g', cur, h1, h2, h3, h4, h5, h6, h7⟩
  · cases h1
  · cases h1
    refine OwnBy.mk (by simp [h.1]) h2 (h3.set i _) h4 h5 (by simpa using h6) ?_
    rw [Array.toList_setIfInBounds, List.take_set, h7, List.map_set]

theorem OwnBy.hi {w : World} {lo : Nat} {a : Option Addr} {n c : Nat} {xs : List Int} (h : OwnBy w lo a n c xs) : ∀ g, a = some ⟨g, 0, none⟩ → g < w.heap.size := fun g hg => by subst hg; exact h.lt.2
theorem OwnBy.lo {w : World} {lo : Nat} {a : Option Addr} {n c : Nat} {xs : List Int} (h : OwnBy w lo a n c xs) : ∀ g, a = some ⟨g, 0, none⟩ → lo ≤ g := fun g hg => by subst hg; exact h.lt.1

/-- append of one number -/
theorem app1By {ops : Array Oper} {rest : List Oper} {o : Oper} {a : Act} {Q : Exit → Act → World → Prop} {w : World} (hgd : o.guard = none) {s x : Operand}
    (ho : o.op = .call { callee := .builtin .append, args := #[s, x], argTypes := #[22, 22] }) {lo : Nat} {ad : Option Addr} {n c : Nat} {xs : List Int} (hown : OwnBy w lo ad n c xs) (hs : a.eval s = .slice ad n c)
    {y : Int} {t : TypeId} (hx : a.eval x = .slice (some ⟨w.heap.size, 0, none⟩) 1 1) (hlen : n + 1 ≤ 1000000000000) (hlo : lo ≤ w.heap.size)
    (h : ∀ g c' w', OwnBy w' lo (some ⟨g, 0, none⟩) (n + 1) c' (xs ++ [y]) → w.grownBy w' (Value.slice ad n c).ownBlock → w.heap.size < w'.heap.size → Below lo w w' → wpList Try.prog ops Q rest (a.put o.dst (.slice (some ⟨g, 0, none⟩) (n + 1) c')) w') :
    wpList Try.prog ops Q (o :: rest) a (w.alloc (.cells #[Value.int .u8 y] t)) := by
  obtain ⟨i0, hi, hz0, hz1, hz2⟩ := info_parts info_By
  obtain ⟨hn, hown⟩ := hown
  refine wpList_append_own _ hgd s x 22 ho lo 5 i0 (Value.int .u8 0) 1 1 und_By hi hz0 hz1 hz2 rfl (by decide) _ n (xs.map (Value.int .u8)) hs (hown.alloc _) ⟨w.heap.size, 0, none⟩ 1 1 [Value.int .u8 y] hx rfl (cell_one_new _ _ _) ?_ ?_ ?_ ?_ ?_
  · intro u hu; simp at hu; subst hu; rfl
  · unfold maxLen; omega
  · omega
  · simp; omega
  · intro v' w' ho' hg hv'
    have hg' : w.grownBy w' (Value.slice ad n c).ownBlock := by
      have h1 := World.grownBy_alloc w (.cells #[Value.int .u8 y] t) (Value.slice ad n c).ownBlock
      exact ⟨hg.os.trans h1.os, hg.tape.trans h1.tape, hg.output.trans h1.output, Nat.le_trans h1.size hg.size, fun k hk hn => (hg.block k (by have := h1.size; omega) hn).trans (h1.block k hk hn)⟩
    obtain ⟨hl, h2⟩ := ho'
    rcases h2 with ⟨rfl, h2⟩ | ⟨g, cap, cur, rfl, h2⟩
    · simp at h2
    · refine h g cap w' ⟨by simp [hn], by simpa using hl, .inr ⟨g, cap, cur, rfl, ?_⟩⟩ hg' ?_ ?_
      · simpa using h2
      · have := hg.size; simp at this; omega
      · exact (Below.refl _ _).grown hg' hlo (fun k hk => (World.ownsRow.lt hown k hk).1)

/-- make of n numbers -/
theorem make1By {ops : Array Oper} {rest : List Oper} {o : Oper} {a : Act} {Q : Exit → Act → World → Prop} {w : World} (hgd : o.guard = none) {l c : Operand}
    (ho : o.op = Op.makeSlice 22 l c) {n : Nat} (hl : a.eval l = .int .i64 n) (hc : a.eval c = .int .i64 n) (hn : n ≤ 1000000000000)
    (h : ∀ w', OwnBy w' w.heap.size (some ⟨w.heap.size, 0, none⟩) n n (List.replicate n 0) → w.heap.size < w'.heap.size → Below w.heap.size w w' → wpList Try.prog ops Q rest (a.put o.dst (.slice (some ⟨w.heap.size, 0, none⟩) n n)) w') :
    wpList Try.prog ops Q (o :: rest) a w := by
  obtain ⟨i0, hi, hz0, hz1, hz2⟩ := info_parts info_By
  refine wpList_make_full w hgd l c 22 ho w.heap.size 5 i0 (Value.int .u8 0) 1 und_By hi hz0 hz1 .i64 .i64 n n n hl hc rfl rfl (by rw [hz2]; omega) (by unfold maxLen; omega) (Nat.le_refl _) ?_
  intro w' ho' hg
  refine h w' ⟨by simp, ?_⟩ ?_ ((Below.refl _ _).grown hg (Nat.le_refl _) (by simp))
  · have e : (madeCells (Value.int .u8 0).cells (n * 1)).toList = (List.replicate n (0 : Int)).map (Value.int .u8) := by
      rw [Nat.mul_one, List.map_replicate]; exact toList_madeCells_one _ _
    rw [e] at ho'; exact ho'
  · rcases ho'.2 with ⟨h1, _⟩ | ⟨g, cap, cur, h1, h2, h3, _⟩
    · cases h1
    · cases h1; exact lt_of_block h3

/-- append of one number, as a step of a region that draws its order -/
theorem step_app1By {ops : Array Oper} {o : Oper} {a : Act} {K : Act → World → Prop} {Q : Exit → Act → World → Prop} {E : Prop} {w : World} (hgd : o.guard = none) {s x : Operand}
    (ho : o.op = .call { callee := .builtin .append, args := #[s, x], argTypes := #[22, 22] }) {lo : Nat} {ad : Option Addr} {n c : Nat} {xs : List Int} (hown : OwnBy w lo ad n c xs) (hs : a.eval s = .slice ad n c)
    {y : Int} {t : TypeId} (hx : a.eval x = .slice (some ⟨w.heap.size, 0, none⟩) 1 1) (hlen : n + 1 ≤ 1000000000000) (hlo : lo ≤ w.heap.size)
    (h : ∀ g c' w', OwnBy w' lo (some ⟨g, 0, none⟩) (n + 1) c' (xs ++ [y]) → w.grownBy w' (Value.slice ad n c).ownBlock → w.heap.size < w'.heap.size → Below lo w w' → K (a.put o.dst (.slice (some ⟨g, 0, none⟩) (n + 1) c')) w') :
    if Region.wanted o (yielded ops a.tmps) = true then Oper.wp Try.prog o a (w.alloc (.cells #[Value.int .u8 y] t)).drew K Q else E := by
  have hw : Region.wanted o (yielded ops a.tmps) = true := by simp [Region.wanted, hgd]
  rw [if_pos hw]
  obtain ⟨i0, hi, hz0, hz1, hz2⟩ := info_parts info_By
  obtain ⟨hn, hown⟩ := hown
  refine wp_append_own _ s x 22 ho lo 5 i0 (Value.int .u8 0) 1 1 und_By hi hz0 hz1 hz2 rfl (by decide) _ n (xs.map (Value.int .u8)) hs ((hown.alloc _).drew) ⟨w.heap.size, 0, none⟩ 1 1 [Value.int .u8 y] hx rfl (cell_one_new _ _ _) ?_ ?_ ?_ ?_ ?_
  · intro u hu; simp at hu; subst hu; rfl
  · unfold maxLen; omega
  · omega
  · simp; omega
  · intro v' w' ho' hg hv'
    have hg' : w.grownBy w' (Value.slice ad n c).ownBlock := by
      have h1 := World.grownBy_alloc w (.cells #[Value.int .u8 y] t) (Value.slice ad n c).ownBlock
      exact ⟨hg.os.trans h1.os, hg.tape.trans h1.tape, hg.output.trans h1.output, Nat.le_trans h1.size hg.size, fun k hk hn => (hg.block k (Nat.lt_of_lt_of_le hk h1.size) hn).trans (h1.block k hk hn)⟩
    obtain ⟨hl, h2⟩ := ho'
    rcases h2 with ⟨rfl, h2⟩ | ⟨g, cap, cur, rfl, h2⟩
    · simp at h2
    · refine h g cap w' ⟨by simp [hn], by simpa using hl, .inr ⟨g, cap, cur, rfl, ?_⟩⟩ hg' ?_ ?_
      · simpa using h2
      · have := hg.size; simp at this; omega
      · exact (Below.refl _ _).grown hg' hlo (fun k hk => (World.ownsRow.lt hown k hk).1)

/-- a new slice of one number -/
theorem OwnBy.single (w : World) {b : Nat} (hb : b = w.heap.size) (y : Int) : OwnBy (w.alloc (.cells #[Value.int .u8 y] 5)) w.heap.size (some ⟨b, 0, none⟩) 1 1 [y] :=
  OwnBy.mk rfl (by omega) (Loc.new _ hb _ _) (Nat.le_refl _) (by unfold maxLen; omega) rfl rfl

/-- append of one number, as a step of a region that draws its order, behind a call -/
theorem step_app1nBy {ops : Array Oper} {o : Oper} {a : Act} {K : Act → World → Prop} {Q : Exit → Act → World → Prop} {E : Prop} {w : World} (hgd : o.guard = none) {s x : Operand}
    (ho : o.op = .call { callee := .builtin .append, args := #[s, x], argTypes := #[22, 22] }) {lo : Nat} {ad : Option Addr} {n c : Nat} {xs : List Int} (hown : OwnBy w lo ad n c xs) (hs : a.eval s = .slice ad n c)
    {y : Int} {t : TypeId} (hx : a.eval x = .slice (some ⟨w.heap.size, 0, none⟩) 1 1) (hlen : n + 1 ≤ 1000000000000) (hlo : lo ≤ w.heap.size)
    (h : ∀ g c' w', OwnBy w' lo (some ⟨g, 0, none⟩) (n + 1) c' (xs ++ [y]) → w.grownBy w' (Value.slice ad n c).ownBlock → w.heap.size < w'.heap.size → Below lo w w' → K (a.put o.dst (.slice (some ⟨g, 0, none⟩) (n + 1) c')) w') :
    if Region.wanted o (yielded ops a.tmps) = true then Oper.wp Try.prog o a (w.alloc (.cells #[Value.int .u8 y] t)) K Q else E := by
  have hw : Region.wanted o (yielded ops a.tmps) = true := by simp [Region.wanted, hgd]
  rw [if_pos hw]
  obtain ⟨i0, hi, hz0, hz1, hz2⟩ := info_parts info_By
  obtain ⟨hn, hown⟩ := hown
  refine wp_append_own _ s x 22 ho lo 5 i0 (Value.int .u8 0) 1 1 und_By hi hz0 hz1 hz2 rfl (by decide) _ n (xs.map (Value.int .u8)) hs (hown.alloc _) ⟨w.heap.size, 0, none⟩ 1 1 [Value.int .u8 y] hx rfl (cell_one_new _ _ _) ?_ ?_ ?_ ?_ ?_
  · intro u hu; simp at hu; subst hu; rfl
  · unfold maxLen; omega
  · omega
  · simp; omega
  · intro v' w' ho' hg hv'
    have hg' : w.grownBy w' (Value.slice ad n c).ownBlock := by
      have h1 := World.grownBy_alloc w (.cells #[Value.int .u8 y] t) (Value.slice ad n c).ownBlock
      exact ⟨hg.os.trans h1.os, hg.tape.trans h1.tape, hg.output.trans h1.output, Nat.le_trans h1.size hg.size, fun k hk hn => (hg.block k (Nat.lt_of_lt_of_le hk h1.size) hn).trans (h1.block k hk hn)⟩
    obtain ⟨hl, h2⟩ := ho'
    rcases h2 with ⟨rfl, h2⟩ | ⟨g, cap, cur, rfl, h2⟩
    · simp at h2
    · refine h g cap w' ⟨by simp [hn], by simpa using hl, .inr ⟨g, cap, cur, rfl, ?_⟩⟩ hg' ?_ ?_
      · simpa using h2
      · have := hg.size; simp at this; omega
      · exact (Below.refl _ _).grown hg' hlo (fun k hk => (World.ownsRow.lt hown k hk).1)

theorem OwnBy.fresh (w : World) {b : Nat} (hb : b = w.heap.size) : OwnBy (w.alloc (.cells #[] 5)) w.heap.size (some ⟨b, 0, none⟩) 0 0 [] :=
  OwnBy.mk rfl (by omega) (Loc.new _ hb _ _) (Nat.le_refl _) (by unfold maxLen; omega) rfl rfl

end Go.Proofs.Ytgnaeeifnhgobaa

namespace Go.Proofs.Ytgnaeeifnhgobaa
set_option maxRecDepth 100000
set_option linter.unusedVariables false
set_option linter.unusedSimpArgs false
open Go.RowKit

/-- the byte of a letter, as a number -/
def chrI (x : Int) : Int := if x < 0 then 64 - x else 96 + x
theorem chrB_of (x : Int) : chrB x = UInt8.ofNat (chrI x).toNat := by unfold chrB chrI; split <;> rfl
theorem txtB_bytes (s : Nat) (xs : List Int) : txtB s xs = ⟨(((48 + (s : Int)) :: 58 :: xs.map chrI).map fun x => UInt8.ofNat x.toNat).toArray⟩ := by
  unfold txtB
  apply ByteArray.ext
  apply Array.ext'
  simp [chrB_of, List.map_map]
  rw [show (48 + (s : Int)).toNat = 48 + s by omega]
  simp

set_option maxHeartbeats 4000000 in
theorem impl_Btx_ok (s : Nat) (a : Option Addr) (n c : Nat) (xs : List Int) (w : World) (h1 : Row w a n xs) (hb : isBr s xs = true) :
    Calls Try.prog 22 #[bAgg s a n c] w fun e w' => e = .returned (.tuple #[.string (txtB s xs), .int .i64 0]) ∧ Below w.heap.size w w' := by
  have HB := Lib.hid hb
  have hbr := isBr_let hb
  have HL := Lib.hid h1.len
  have hn30 : n ≤ 30 := by have := h1.len; omega
  have hs6 : s ≤ 6 := by omega
  have HLB : Hid (∀ k (h : k < xs.length), xs[k] ≠ 0 ∧ -5 ≤ xs[k] ∧ xs[k] ≤ 5) := Lib.hid fun k h => by have := hbr.2.2 _ (List.getElem_mem h); omega
  have hm : n ≤ 9223372036854775807 := by omega
  clear hb hbr
  have hA := Loc.new w rfl #[.int .i64 s, .slice a n c] 26
  go_enter Try.func22, Try.ntmps22
  go_wp2_with fail
  refine (isBraid_any _ _ _ _ xs _ (h1.alloc _) hm).mono ?_
  rintro e w1 ⟨rfl, hb1⟩
  rw [HB.out]
  have hB1 : Below w.heap.size w w1 := below_alth (Below.refl _ _) hb1
  have hA1 := hA.below hb1 hA.lt
  have lA1 := hA1.two
  have k1 : IntKind.u8.wrap (s : Int) = s := by rw [IntKind.wrap_u8]; omega
  have k2 : IntKind.u8.wrap (48 + (s : Int)) = 48 + (s : Int) := by rw [IntKind.wrap_u8]; omega
  have lA2 := (hA1.alloc (.cells #[.int .u8 (48 + (s : Int)), .int .u8 58] 5)).two
  go_wp2
  go_loopw [4, 6, 18] (fun tx _ i wr => ∃ (k : Nat) (a' : Option Addr) (c' : Nat), k ≤ n ∧ i = .int .i64 k ∧ tx = .slice a' (k + 2) c' ∧ OwnBy wr w1.heap.size a' (k + 2) c' ((48 + (s : Int)) :: 58 :: (xs.take k).map chrI) ∧ Below w.heap.size w wr ∧ w1.heap.size ≤ wr.heap.size) (fun _ _ i _ => n - (intOf i).toNat)
  case atStart => exact ⟨0, _, 2, Nat.zero_le _, rfl, rfl, OwnBy.mk (by simp) (Nat.le_refl _) (Loc.new w1 rfl _ _) (Nat.le_refl _) (by unfold maxLen; omega) rfl rfl, below_al hB1 _, by simp⟩
  case round =>
    clear lA1 lA2
    obtain ⟨k, a', c', hk, rfl, rfl, ho, hB, hz⟩ := hrel
    obtain ⟨V, rfl⟩ : ∃ V : World, V = wr := ⟨_, rfl⟩
    by_cases hlt : k < n
    · obtain ⟨b, off, rfl, g1⟩ := (h1.below hB).at k hlt
      have hx : k < xs.length := by have := HL.out; omega
      have hy := HLB.out k hx
      have HS : Hid ((xs.take (k + 1)).map chrI = (xs.take k).map chrI ++ [chrI xs[k]]) := Lib.hid (by rw [List.take_succ_eq_append_getElem hx, List.map_append]; rfl)
      rw [getD_at hx] at g1
      obtain ⟨X, HX⟩ : ∃ X, Hid (xs[k] = X) := ⟨_, Lib.hid rfl⟩
      rw [HX.out] at g1 hy HS
      obtain ⟨hy0, hy1, hy2⟩ := hy
      have i1 : (0 : Int) ≤ (k : Int) := by omega
      have i2 : (k : Int) < (n : Int) := by omega
      by_cases hp : 0 < X
      · have HC : Hid (chrI X = 96 + X) := Lib.hid (by unfold chrI; rw [if_neg (by omega)])
        have k3 : IntKind.u8.wrap X = X := by rw [IntKind.wrap_u8]; omega
        have k4 : IntKind.u8.wrap (97 + X) = 97 + X := by rw [IntKind.wrap_u8]; omega
        have k5 : IntKind.u8.wrap (97 + X - 1) = 96 + X := by rw [IntKind.wrap_u8]; omega
        go_wp2_with (at_builtin; refine app1By rfl rfl ho rfl rfl (by omega) (by omega) ?_; intro g' cc w8 hO hg8 hs8 hb8)
        go_roundw
        case rel =>
          refine ⟨k + 1, some ⟨g', 0, none⟩, cc, by omega, by go_num, rfl, ?_, hB.trans (hb8.mono (by have := hB1.size; omega)), by omega⟩
          rw [HS.out, HC.out]
          exact hO
        case measure => simp [intOf]; omega
      · have HC : Hid (chrI X = 64 - X) := Lib.hid (by unfold chrI; rw [if_pos (by omega)])
        have k2 : IntKind.i64.wrap (-X) = -X := IntWalk.i64_in _ ⟨by omega, by omega⟩
        have k3 : IntKind.u8.wrap (-X) = -X := by rw [IntKind.wrap_u8]; omega
        have k4 : IntKind.u8.wrap (65 + -X) = 65 + -X := by rw [IntKind.wrap_u8]; omega
        have k5 : IntKind.u8.wrap (65 + -X - 1) = 64 - X := by rw [IntKind.wrap_u8]; omega
        go_wp2_with (at_builtin; refine app1By rfl rfl ho rfl rfl (by omega) (by omega) ?_; intro g' cc w8 hO hg8 hs8 hb8)
        go_roundw
        case rel =>
          refine ⟨k + 1, some ⟨g', 0, none⟩, cc, by omega, by go_num, rfl, ?_, hB.trans (hb8.mono (by have := hB1.size; omega)), by omega⟩
          rw [HS.out, HC.out]
          exact hO
        case measure => simp [intOf]; omega
    · obtain rfl : n = k := by omega
      have hT : xs.take n = xs := List.take_of_length_le (by have := HL.out; omega)
      rw [hT] at ho
      obtain ⟨g, o, rfl, _⟩ := ho.row.at 0 (by omega)
      obtain ⟨rfl, hc, _⟩ := ho.cells
      have HCV := run_convert_bytes_arg (P := Try.prog) V _ _ und_bytes und_u8 g 0 (n + 2) c' ((48 + (s : Int)) :: 58 :: xs.map chrI) ho.len.symm (by simpa using hc) _ und_str
      have e : strOfNums ((48 + (s : Int)) :: 58 :: xs.map chrI) = txtB s xs := (txtB_bytes s xs).symm
      rw [e] at HCV
      clear e hc hT
      go_wp2
      go_ret2
      exact ⟨rfl, hB⟩
end Go.Proofs.Ytgnaeeifnhgobaa

namespace Go.Proofs.Ytgnaeeifnhgobaa
set_option maxRecDepth 100000
set_option linter.unusedVariables false
set_option linter.unusedSimpArgs false
open Go.RowKit

/-- the texts of braids -/
def PrsT (t : ByteArray) : Prop := ∃ h2 : 2 ≤ t.size, t[1].toNat = 58 ∧ LetT t ∧ isBr ((t[0].toNat : Int) - 48) (wrdK t (t.size - 2)) = true
def ltrB (c : Nat) : Bool := (decide (97 ≤ c) && decide (c ≤ 101)) || (decide (65 ≤ c) && decide (c ≤ 69))
theorem ltrB_yes {c : Nat} (h : ltrB c = true) : (97 ≤ c ∧ c ≤ 101) ∨ (65 ≤ c ∧ c ≤ 69) := by simpa [ltrB] using h
theorem ltrB_no {c : Nat} (h : ltrB c = false) : c < 65 ∨ (69 < c ∧ c < 97) ∨ 101 < c := by simp [ltrB] at h; omega

set_option maxHeartbeats 8000000 in
theorem readBraid_bad (t : ByteArray) (w : World) (h2 : 2 ≤ t.size) (h3 : t.size ≤ 1000) (hc : t[1].toNat = 58) (q : Nat) (hq : q + 2 < t.size) (hall : ∀ i (h : i < t.size), 2 ≤ i → i < q + 2 → ltrB t[i].toNat = true) (hbad : ltrB t[q + 2].toNat = false) :
    Calls Try.prog 50 #[.string t] w fun e w' => e = .returned (.tuple #[bAgg 0 none 0 0, .bool false]) ∧ Below w.heap.size w w' := by
  have HC := Lib.hid hc; have HALL := Lib.hid hall; have HBAD := Lib.hid (ltrB_no hbad)
  have hc2 : ((t[1].toNat : Int) != 58) = false := by simp; omega
  have hc3 : ((t[1].toNat : Int) == 58) = true := by simp; omega
  have i1 : ¬ ((t.size : Int) < 2) := by omega
  have i2 : (2 : Int) ≤ (t.size : Int) := by omega
  have hz1 : wrap64 (t[0].toNat : Int) = t[0].toNat := by have := t[0].toNat_lt; exact IntWalk.wrap64_in _ ⟨by omega, by omega⟩
  obtain ⟨s, hs⟩ : ∃ s : Int, s = (t[0].toNat : Int) - 48 := ⟨_, rfl⟩
  have hz2 : wrap64 (wrap64 (t[0].toNat : Int) - 48) = s := by rw [hz1, hs]; have := t[0].toNat_lt; exact IntWalk.wrap64_in _ ⟨by omega, by omega⟩
  have HZ := Lib.hid hz2
  clear hc hall hz1 hz2 hbad hs
  go_enter Try.func50, Try.ntmps50
  go_wp2
  go_loopw [5, 6] (fun i _ wr => ∃ (k : Nat) (a' : Option Addr) (n' c' : Nat), k ≤ q ∧ i = .int .i64 ((k + 2 : Nat) : Int) ∧ Loc wr w.heap.size #[.int .i64 0, .slice none 0 0] 26 ∧
    Loc wr (w.heap.size + 1) #[.int .i64 s, .slice a' n' c'] 26 ∧ Own wr (w.heap.size + 2) a' n' c' (wrdK t k) ∧ Below w.heap.size w wr ∧ w.heap.size + 2 ≤ wr.heap.size) (fun i _ _ => t.size - (intOf i).toNat)
  case atStart =>
    rw [HZ.out]
    exact ⟨0, none, 0, 0, by omega, rfl, (Loc.new _ rfl _ _).alloc _, Loc.new _ (by simp) _ _, Own.nil _ _, below_al (below_al (Below.refl _ _) _) _, by simp⟩
  case round =>
    obtain ⟨k, a', n', c', hk, rfl, hR, hL, ho, hbl, hsz⟩ := hrel
    have lL := hL.two
    have lR := hR.two
    have hln : n' + 1 ≤ 1000000000000 := by
      have := ho.len
      simp [wrdK] at this; omega
    have hlt : k + 2 < t.size := by omega
    by_cases hkq : k < q
    · have HS := Lib.hid (wrdK_succ t k hlt)
      have hx := ltrB_yes (HALL.out (k + 2) hlt (by omega) (by omega))
      have hwq : w.heap.size + 2 ≤ wr.heap.size := hsz
      rcases hx with hx | hx
      · have e1 : letW t[k + 2] = (t[k + 2].toNat : Int) - 97 + 1 := by unfold letW; rw [if_pos hx]; omega
        rw [e1] at HS
        obtain ⟨hx1, hx2⟩ := hx
        clear e1 lR
        go_wp2_with (at_builtin; refine app1 rfl rfl ho rfl rfl (by omega) hwq ?_; intro g' cc w8 hO hg8 hs8 hb8; have hL8 := hL.below hb8 (by omega); have lL8 := hL8.two)
        go_roundw
        case rel =>
          refine ⟨k + 1, _, _, _, by omega, by go_num, (hR.below hb8 (by omega)).setne (by simp <;> omega) _, hL8.set 1 _, ?_, (hbl.trans (hb8.mono (by omega))).setCell (by simp) _, by rw [size_set]; omega⟩
          rw [HS.out]
          exact hO.setlo (by simp) _
        case measure => simp [intOf]; omega
      · have e1 : letW t[k + 2] = -((t[k + 2].toNat : Int) - 65) - 1 := by unfold letW; rw [if_neg (by omega), if_pos hx]; omega
        rw [e1] at HS
        obtain ⟨hx1, hx2⟩ := hx
        clear e1 lR
        go_wp2_with (at_builtin; refine app1 rfl rfl ho rfl rfl (by omega) hwq ?_; intro g' cc w8 hO hg8 hs8 hb8; have hL8 := hL.below hb8 (by omega); have lL8 := hL8.two)
        go_roundw
        case rel =>
          refine ⟨k + 1, _, _, _, by omega, by go_num, (hR.below hb8 (by omega)).setne (by simp <;> omega) _, hL8.set 1 _, ?_, (hbl.trans (hb8.mono (by omega))).setCell (by simp) _, by rw [size_set]; omega⟩
          rw [HS.out]
          exact hO.setlo (by simp) _
        case measure => simp [intOf]; omega
    · obtain rfl : k = q := by omega
      rcases HBAD.out with hx | ⟨hx1, hx2⟩ | hx
      all_goals
        go_wp2
        refine bodyPost_ret (v := .tuple #[bAgg 0 none 0 0, .bool false]) (by simp [results, Try.results50, go_sem, lR]) rfl ⟨rfl, ?_⟩
        exact (hbl.setCell (by simp) _).setCell (by simp) _
set_option maxHeartbeats 2000000 in
theorem readBraid_head (t : ByteArray) (w : World) (h3 : t.size ≤ 1000) (h : ¬ ∃ h2 : 2 ≤ t.size, t[1].toNat = 58) :
    Calls Try.prog 50 #[.string t] w fun e w' => e = .returned (.tuple #[bAgg 0 none 0 0, .bool false]) ∧ Below w.heap.size w w' := by
  have lR := (Loc.new w rfl #[.int .i64 0, .slice none 0 0] 26).two
  by_cases h2 : 2 ≤ t.size
  · have hc : t[1].toNat ≠ 58 := fun e => h ⟨h2, e⟩
    have hc2 : ((t[1].toNat : Int) != 58) = true := by simp; omega
    have hc3 : ((t[1].toNat : Int) == 58) = false := by simp; omega
    have i1 : ¬ ((t.size : Int) < 2) := by omega
    have i2 : (1 : Int) < (t.size : Int) := by omega
    clear h hc
    go_enter Try.func50, Try.ntmps50
    go_wp2
    refine bodyPost_ret (v := .tuple #[bAgg 0 none 0 0, .bool false]) (by simp [results, Try.results50, go_sem, lR]) rfl ⟨rfl, ?_⟩
    exact below_al (Below.refl _ _) _
  · have i1 : ((t.size : Int) < 2) := by omega
    clear h h2
    go_enter Try.func50, Try.ntmps50
    go_wp2
    refine bodyPost_ret (v := .tuple #[bAgg 0 none 0 0, .bool false]) (by simp [results, Try.results50, go_sem, lR]) rfl ⟨rfl, ?_⟩
    exact below_al (Below.refl _ _) _
theorem readBraid_no (t : ByteArray) (w : World) (h3 : t.size ≤ 1000) (h : ¬ PrsT t) :
    Calls Try.prog 50 #[.string t] w fun e w' => ∃ s a n c, e = .returned (.tuple #[bAgg s a n c, .bool false]) ∧ Below w.heap.size w w' := by
  by_cases hh : ∃ h2 : 2 ≤ t.size, t[1].toNat = 58
  · obtain ⟨h2, hc⟩ := hh
    obtain ⟨q, q1, q2, q3⟩ := first_ex (fun i => !ltrB (t.data.toList.getD (i + 2) 0).toNat) (t.size - 2)
    have hget : ∀ i (h : i < t.size), t.data.toList.getD i 0 = t[i] := fun i h => by
      rw [List.getD_eq_getElem?_getD, List.getElem?_eq_getElem (by exact h)]; rfl
    have hgood : ∀ i (h : i < t.size), 2 ≤ i → i < q + 2 → ltrB t[i].toNat = true := fun i hi h2 hq => by
      have := q2 (i - 2) (by omega)
      rw [show i - 2 + 2 = i by omega, hget i hi] at this
      simpa using this
    by_cases e : q < t.size - 2
    · have hb := q3 e
      rw [hget (q + 2) (by omega)] at hb
      exact (readBraid_bad t w h2 h3 hc q (by omega) hgood (by simpa using hb)).mono fun e w' ⟨h1, h2⟩ => ⟨0, none, 0, 0, h1, h2⟩
    · have hL : LetT t := fun i hi h2 => ltrB_yes (hgood i hi h2 (by omega))
      have hbr : isBr ((t[0].toNat : Int) - 48) (wrdK t (t.size - 2)) = false := by
        cases e : isBr ((t[0].toNat : Int) - 48) (wrdK t (t.size - 2)) with
        | false => rfl
        | true => exact absurd ⟨h2, hc, hL, e⟩ h
      have := t[0].toNat_lt
      exact (readBraid_ok t w h2 h3 hc hL _ rfl ⟨by omega, by omega⟩).mono fun e w' ⟨a, n, c, h1, _, h4⟩ => ⟨(t[0].toNat : Int) - 48, a, n, c, by rw [hbr] at h1; exact h1, h4⟩
  · exact (readBraid_head t w h3 hh).mono fun e w' ⟨h1, h2⟩ => ⟨0, none, 0, 0, h1, h2⟩

set_option maxHeartbeats 2000000 in
theorem impl_Prs_ok (t : ByteArray) (w : World) (h3 : t.size ≤ 1000) (h2 : 2 ≤ t.size) (hc : t[1].toNat = 58) (hL : LetT t) (hb : isBr ((t[0].toNat : Int) - 48) (wrdK t (t.size - 2)) = true) :
    Calls Try.prog 20 #[.string t] w (RetB w ((t[0].toNat : Int) - 48) (wrdK t (t.size - 2)) 0) := by
  have HR : Hid (∀ w, Calls Try.prog 50 #[.string t] w fun e w' => ∃ a n c, e = .returned (.tuple #[bAgg ((t[0].toNat : Int) - 48) a n c, .bool true]) ∧ Own w' w.heap.size a n c (wrdK t (t.size - 2)) ∧ Below w.heap.size w w') := Lib.hid fun w => by
    have := t[0].toNat_lt
    have h := readBraid_ok t w h2 h3 hc hL _ rfl ⟨by omega, by omega⟩
    rw [hb] at h; exact h
  obtain ⟨s, HS⟩ : ∃ s : Int, Hid ((t[0].toNat : Int) - 48 = s) := ⟨_, Lib.hid rfl⟩
  obtain ⟨xs, HX⟩ : ∃ xs, Hid (wrdK t (t.size - 2) = xs) := ⟨_, Lib.hid rfl⟩
  rw [HS.out, HX.out] at HR
  rw [HS.out, HX.out]
  clear hc hL hb
  have hR := Loc.new w rfl #[.int .i64 0, .slice none 0 0] 26
  go_enter Try.func20, Try.ntmps20
  go_wp2_with fail
  refine (HR.out _).mono ?_
  rintro e w1 ⟨a, n, c, rfl, ho, hb1⟩
  have hR1 := hR.below hb1 hR.lt
  have hB1 := below_alth (Below.refl _ _) hb1
  have hL1 := Loc.new w1 rfl #[.int .i64 s, .slice a n c] 26
  have lL1 := hL1.two
  have lR1 := (hR1.alloc (.cells #[.int .i64 s, .slice a n c] 26)).two
  have lR0 := hR1.two
  have hz : w.heap.size < w1.heap.size := hR1.lt
  rw [size_alloc] at ho
  have lF := (((hR1.set 0 (.int .i64 s)).set 1 (.slice a n c)).alloc (.cells #[.int .i64 s, .slice a n c] 26)).two
  go_wp2
  refine bodyPost_ret (v := .tuple #[bAgg s a n c, .int .i64 0]) (by simp [results, Try.results20, go_sem, lR1, lR0, lF]) rfl ⟨a, n, c, rfl, ?_, ?_⟩
  · exact (((ho.setlo (by simp) _).setlo (by simp) _).alloc _).mono (by omega)
  · exact below_al ((hB1.setCell (by simp) _).setCell (by simp) _) _
set_option maxHeartbeats 2000000 in
theorem impl_Prs_no (t : ByteArray) (w : World) (h3 : t.size ≤ 1000) (h : ¬ PrsT t) :
    Calls Try.prog 20 #[.string t] w (RetB w 0 [] 6) := by
  have HR := Lib.hid fun w => readBraid_no t w h3 h
  clear h
  have hR := Loc.new w rfl #[.int .i64 0, .slice none 0 0] 26
  go_enter Try.func20, Try.ntmps20
  go_wp2_with fail
  refine (HR.out _).mono ?_
  rintro e w1 ⟨s, a, n, c, rfl, hb1⟩
  have hR1 := hR.below hb1 hR.lt
  have hB1 := below_alth (Below.refl _ _) hb1
  have lR1 := (hR1.alloc (.cells #[.int .i64 s, .slice a n c] 26)).two
  have lR0 := hR1.two
  go_wp2
  refine bodyPost_ret (v := .tuple #[bAgg 0 none 0 0, .int .i64 6]) (by simp [results, Try.results20, go_sem, lR1, lR0]) rfl ⟨none, 0, 0, rfl, Own.nil _ _, ?_⟩
  exact ((below_al hB1 _).setCell (by simp) _).setCell (by simp) _
end Go.Proofs.Ytgnaeeifnhgobaa

namespace Go.Proofs.Ytgnaeeifnhgobaa
set_option maxRecDepth 100000
set_option linter.unusedVariables false
set_option linter.unusedSimpArgs false
open Go.RowKit

/-- what splitting at colons leaves, after k bytes: colons met, begin of the last part, parts -/
def SplK (t : ByteArray) (k m at' : Nat) (xs : List ByteArray) : Prop :=
  at' ≤ k ∧ ((m = 0 ∧ at' = 0 ∧ xs = [] ∧ ∀ i (h : i < t.size), i < k → t[i].toNat ≠ 58) ∨
    (m = 1 ∧ ∃ p, ∃ hp : p < t.size, p < k ∧ t[p].toNat = 58 ∧ at' = p + 1 ∧ xs = [t.extract 0 p] ∧ ∀ i (h : i < t.size), i < k → i ≠ p → t[i].toNat ≠ 58) ∨ (2 ≤ m ∧ ∃ p1 p2, ∃ h1 : p1 < t.size, ∃ h2 : p2 < t.size, p1 ≠ p2 ∧ t[p1].toNat = 58 ∧ t[p2].toNat = 58))
set_option maxHeartbeats 8000000 in
theorem l01Split_any (t : ByteArray) (w : World) (h3 : t.size ≤ 1000) :
    Calls Try.prog 51 #[.string t, .int .u8 58] w fun e w' => ∃ a m c L, e = .returned (.slice a m c) ∧ OwnSt w' w.heap.size a m c L ∧ Below w.heap.size w w' ∧ m ≤ 1001 ∧
      (m = 2 → ∃ p, ∃ hp : p < t.size, t[p].toNat = 58 ∧ L = [t.extract 0 p, t.extract (p + 1) t.size] ∧ ∀ i (h : i < t.size), i ≠ p → t[i].toNat ≠ 58) ∧
      (m ≠ 2 → ∀ p (hp : p < t.size), t[p].toNat = 58 → (∀ i (h : i < t.size), i ≠ p → t[i].toNat ≠ 58) → False) := by
  have hF : OwnSt (w.alloc (.cells #[] 9)) w.heap.size (some ⟨w.heap.size, 0, none⟩) 0 0 [] := OwnSt.mk rfl (Nat.le_refl _) (Loc.new w rfl _ _) (Nat.le_refl _) (by unfold maxLen; omega) rfl rfl
  go_enter Try.func51, Try.ntmps51
  go_wp2
  go_loopw [5, 6, 7] (fun o m' i wr => ∃ (k : Nat) (a : Option Addr) (n c : Nat) (xs : List ByteArray) (at' : Nat), k ≤ t.size ∧ i = .int .i64 k ∧ m' = .int .i64 at' ∧ o = .slice a n c ∧ OwnSt wr w.heap.size a n c xs ∧ at' ≤ k ∧ n ≤ k ∧ Hid (SplK t k n at' xs) ∧ Below w.heap.size w wr) (fun _ _ i _ => t.size - (intOf i).toNat)
  case atStart => exact ⟨0, _, 0, 0, [], 0, by omega, rfl, rfl, rfl, hF, by omega, by omega, Lib.hid ⟨by omega, .inl ⟨rfl, rfl, rfl, fun i h hk => absurd hk (by omega)⟩⟩, below_al (Below.refl _ _) _⟩
  case round =>
    obtain ⟨k, a, n, c, xs, at', hk, rfl, rfl, rfl, ho, hat, hnk, HK, hq⟩ := hrel
    have hwq : w.heap.size ≤ wr.heap.size := hq.size
    by_cases hlt : k < t.size
    · by_cases hc : t[k].toNat = 58
      · have e58 : ((t[k].toNat : Int) == 58) = true := by simp; omega
        have HC := Lib.hid hc
        clear hc
        have i1 : (0 : Int) ≤ (at' : Int) := by omega
        have i2 : (at' : Int) ≤ (k : Int) := by omega
        have i3 : (k : Int) ≤ (t.size : Int) := by omega
        go_wp2_with (at_builtin; refine app1St rfl rfl ho rfl rfl (by omega) hwq ?_; intro g' cc w8 hO hg8 hs8 hb8)
        go_roundw
        case rel =>
          refine ⟨k + 1, _, n + 1, cc, _, k + 1, by omega, by go_num, by go_num, rfl, hO, by omega, by omega, Lib.hid ?_, hq.trans hb8⟩
          obtain ⟨_, h | ⟨h1, p, hp, hpk, h58, h2, h4, h5⟩ | h⟩ := HK.out
          · obtain ⟨rfl, rfl, rfl, h4⟩ := h
            refine ⟨by omega, .inr (.inl ⟨rfl, k, hlt, by omega, HC.out, rfl, rfl, fun i hi hik hne => h4 i hi (by omega)⟩)⟩
          · exact ⟨by omega, .inr (.inr ⟨by omega, p, k, hp, hlt, by omega, h58, HC.out⟩)⟩
          · exact ⟨by omega, .inr (.inr ⟨by omega, h.2⟩)⟩
        case measure => simp [intOf]; omega
      · have e58 : ((t[k].toNat : Int) == 58) = false := by simp; omega
        have HC := Lib.hid hc
        clear hc
        go_wp2
        go_roundw
        case rel =>
          refine ⟨k + 1, a, n, c, xs, at', by omega, by go_num, rfl, rfl, ho, by omega, by omega, Lib.hid ?_, hq⟩
          obtain ⟨_, h | ⟨h1, p, hp, hpk, h58, h2, h4, h5⟩ | h⟩ := HK.out
          · obtain ⟨rfl, rfl, rfl, h4⟩ := h
            exact ⟨by omega, .inl ⟨rfl, rfl, rfl, fun i hi hik => by
              by_cases e : i = k
              · subst e; exact HC.out
              · exact h4 i hi (by omega)⟩⟩
          · exact ⟨by omega, .inr (.inl ⟨h1, p, hp, by omega, h58, h2, h4, fun i hi hik hne => by
              by_cases e : i = k
              · subst e; exact HC.out
              · exact h5 i hi (by omega) hne⟩)⟩
          · exact ⟨by omega, .inr (.inr h)⟩
        case measure => simp [intOf]; omega
    · obtain rfl : t.size = k := by omega
      have i1 : (0 : Int) ≤ (at' : Int) := by omega
      have i2 : (at' : Int) ≤ (t.size : Int) := by omega
      go_wp2_with (at_builtin; refine app1St rfl rfl ho rfl rfl (by omega) hwq ?_; intro g' cc w8 hO hg8 hs8 hb8)
      go_ret
      refine ⟨_, _, _, _, rfl, hO, hq.trans hb8, by omega, fun h2 => ?_, fun h2 p' hp' hp58 hall => ?_⟩
      rotate_left
      · obtain ⟨_, h | ⟨h1, p, hp, hpk, h58, h6, h4, h5⟩ | ⟨h, p1, p2, q1, q2, hne, c1, c2⟩⟩ := HK.out
        · exact h.2.2.2 p' hp' hp' hp58
        · omega
        · by_cases e : p1 = p'
          · exact hall p2 q2 (by omega) c2
          · exact hall p1 q1 e c1
      obtain ⟨_, h | ⟨h1, p, hp, hpk, h58, h6, h4, h5⟩ | h⟩ := HK.out
      · omega
      · refine ⟨p, hp, h58, ?_, fun i hi hne => h5 i hi hi hne⟩
        rw [h4]
        simp only [List.cons_append, List.nil_append]
        first | (rw [h6]; rfl) | (subst h6; simp)
      · omega

/-- the value of a text -/
def ValV (t : ByteArray) (v : Int) : Prop := -1 ≤ v ∧ v ≤ 1000000000 ∧ (∀ h : t.size = 1, (v = -1 ∧ (t[0].toNat < 48 ∨ 57 < t[0].toNat)) ∨ v = (t[0].toNat : Int) - 48) ∧ (t.size ≠ 1 → v = -1 ∨ 10 ≤ v)
theorem pow_step {n k : Nat} {d : Nat} (h : n < 10 ^ k) (hd : d ≤ 9) : n * 10 + d < 10 ^ (k + 1) := by rw [Nat.pow_succ]; omega
theorem pow_nine {k : Nat} (h : k ≤ 9) : (10 : Nat) ^ k ≤ 1000000000 := by
  have := Nat.pow_le_pow_right (n := 10) (by omega) h
  omega
set_option maxHeartbeats 8000000 in
theorem l01Value_any (t : ByteArray) (w : World) (h3 : t.size ≤ 1000) :
    Calls Try.prog 52 #[.string t] w fun e w' => ∃ v, e = .returned (.int .i64 v) ∧ ValV t v ∧ w = w' := by
  by_cases h0 : t.size = 0
  · have i1 : ((t.size : Int) == 0) = true := beq_iff_eq.2 (by omega)
    go_enter Try.func52, Try.ntmps52
    go_wp2
    go_ret
    exact ⟨-1, rfl, ⟨by omega, by omega, fun h => absurd h (by omega), fun _ => .inl rfl⟩, rfl⟩
  by_cases h9 : 9 < t.size
  · have i1 : ((t.size : Int) == 0) = false := beq_eq_false_iff_ne.2 (by omega)
    have i2 : (9 : Int) < (t.size : Int) := by omega
    go_enter Try.func52, Try.ntmps52
    go_wp2
    go_ret
    exact ⟨-1, rfl, ⟨by omega, by omega, fun h => absurd h (by omega), fun _ => .inl rfl⟩, rfl⟩
  have i1 : ((t.size : Int) == 0) = false := beq_eq_false_iff_ne.2 (by omega)
  have i1' : ¬ (t.size : Int) = 0 := by omega
  have i2 : ¬ (9 : Int) < (t.size : Int) := by omega
  have hpos : 0 < t.size := by omega
  have main : ∀ (hz : t.size = 1 ∨ (1 < t.size ∧ ((t[0]'hpos).toNat : Int) ≠ 48)), Calls Try.prog 52 #[.string t] w fun e w' => ∃ v, e = .returned (.int .i64 v) ∧ ValV t v ∧ w = w' := by
    intro hz
    have k0 : (1 < (t.size : Int) ∧ (((t[0]'hpos).toNat : Int) == 48) = false) ∨ ¬ 1 < (t.size : Int) := by
      rcases hz with h | ⟨h, h'⟩
      · exact .inr (by omega)
      · exact .inl ⟨by omega, by simpa using h'⟩
    have HNZ : Hid (1 < t.size → 49 ≤ (t[0]'hpos).toNat ∨ (t[0]'hpos).toNat < 48) := Lib.hid (fun h => by omega)
    clear hz
    rcases k0 with ⟨k1, k2⟩ | k1
    all_goals
      go_enter Try.func52, Try.ntmps52
      go_wp2
      go_loop [3, 4] (fun m i => ∃ (k n : Nat), k ≤ t.size ∧ i = .int .i64 k ∧ m = .int .i64 n ∧ n ≤ 1000000000 ∧ Hid (n < 10 ^ k) ∧ Hid (k = 1 → ∀ h : 0 < t.size, n = t[0].toNat - 48 ∧ 48 ≤ t[0].toNat) ∧ Hid (2 ≤ k → 1 < t.size → 10 ≤ n) ∧ Hid (k = 0 → n = 0)) (fun _ i => t.size - (intOf i).toNat)
      case atStart => exact ⟨0, 0, by omega, rfl, rfl, by omega, Lib.hid (by simp), Lib.hid (fun h => absurd h (by omega)), Lib.hid (fun h => absurd h (by omega)), Lib.hid (fun _ => rfl)⟩
      case round =>
        obtain ⟨k, n, hk, rfl, rfl, hn9, HP, H1, H2, HN0⟩ := hrel
        by_cases hlt : k < t.size
        · have hb := t[k].toNat_lt
          by_cases hlo : t[k].toNat < 48
          · have d1 : ((t[k].toNat : Int)) < 48 := by omega
            go_wp2
            go_ret
            exact ⟨-1, rfl, ⟨by omega, by omega, fun h => .inl ⟨rfl, by have hk0 : k = 0 := (by omega); subst hk0; omega⟩, fun _ => .inl rfl⟩, rfl⟩
          · by_cases hhi : 57 < t[k].toNat
            · have d1 : ¬ ((t[k].toNat : Int)) < 48 := by omega
              have d2 : (57 : Int) < ((t[k].toNat : Int)) := by omega
              go_wp2
              go_ret
              exact ⟨-1, rfl, ⟨by omega, by omega, fun h => .inl ⟨rfl, by have hk0 : k = 0 := (by omega); subst hk0; omega⟩, fun _ => .inl rfl⟩, rfl⟩
            · have d1 : ¬ ((t[k].toNat : Int)) < 48 := by omega
              have d2 : ¬ (57 : Int) < ((t[k].toNat : Int)) := by omega
              obtain ⟨d, hd⟩ : ∃ d : Nat, d = t[k].toNat - 48 := ⟨_, rfl⟩
              have hd9 : d ≤ 9 := by omega
              have hps := pow_step HP.out hd9
              have hp9 := pow_nine (show k + 1 ≤ 9 by omega)
              have hn9' : n * 10 + d ≤ 1000000000 := by omega
              have q1 : IntKind.u8.wrap ((t[k].toNat : Int) - 48) = (d : Int) := by rw [IntKind.wrap_u8]; omega
              have q2 : IntKind.i64.wrap ((n : Int) * 10) = ((n * 10 : Nat) : Int) := (IntWalk.i64_in _ ⟨by omega, by omega⟩).trans (by omega)
              have q3 : IntKind.i64.wrap (((n * 10 : Nat) : Int) + (d : Int)) = ((n * 10 + d : Nat) : Int) := (IntWalk.i64_in _ ⟨by omega, by omega⟩).trans (by omega)
              have HPS := Lib.hid hps
              have HD : Hid (t[k].toNat = d + 48) := Lib.hid (by omega)
              clear hps hp9 hd
              have HQ3 := Lib.hid q3
              go_wp2
              go_round
              case rel =>
                refine ⟨k + 1, n * 10 + d, by omega, by go_num, ?_, hn9', HPS, Lib.hid (fun h hp => ?_), Lib.hid (fun h h1 => ?_), Lib.hid (fun h => absurd h (by omega))⟩
                · first | rfl | (rw [← HQ3.out]; rfl) | simp
                · obtain rfl : k = 0 := by omega
                  have := HN0.out rfl; have := HD.out; omega
                · by_cases e1 : k = 1
                  · subst e1
                    have := H1.out rfl hpos
                    have := HNZ.out h1; omega
                  · have := H2.out (by omega) h1; omega
              case measure => simp [intOf]; omega
        · obtain rfl : t.size = k := by omega
          go_wp2
          go_ret
          refine ⟨_, rfl, ⟨by omega, by omega, fun h => ?_, fun h => ?_⟩, rfl⟩
          · have := H1.out h (by omega); exact .inr (by omega)
          · have := H2.out (by omega) (by omega); exact .inr (by omega)
  by_cases hs : t.size = 1
  · exact main (.inl hs)
  · by_cases h48 : ((t[0]'hpos).toNat : Int) = 48
    · have k1 : 1 < (t.size : Int) := by omega
      have k2 : (((t[0]'hpos).toNat : Int) == 48) = true := by simpa using h48
      go_enter Try.func52, Try.ntmps52
      go_wp2
      go_ret
      exact ⟨-1, rfl, ⟨by omega, by omega, fun h => absurd h (by omega), fun _ => .inl rfl⟩, rfl⟩
    · exact main (.inr ⟨by omega, h48⟩)

theorem ext_list (t : ByteArray) (a : Nat) : (t.extract a t.size).data.toList = t.data.toList.drop a := by
  simp only [ByteArray.data_extract, Array.toList_extract, List.extract_eq_take_drop]
  exact List.take_of_length_le (by rw [List.length_drop]; exact Nat.le_refl _)
/-- the first k letters of a text -/
def wrdU (u : ByteArray) (k : Nat) : List Int := (u.data.toList.take k).map letW
theorem wrdU_succ (u : ByteArray) (k : Nat) (h : k < u.size) : wrdU u (k + 1) = wrdU u k ++ [letW u[k]] := by
  unfold wrdU
  have hl : k < u.data.toList.length := h
  rw [List.take_succ_eq_append_getElem hl, List.map_append]; rfl
theorem wrdU_ext (t : ByteArray) (k : Nat) : wrdU (t.extract 2 t.size) k = wrdK t k := by
  unfold wrdU wrdK; rw [ext_list]
theorem chr_let {c : UInt8} (h : (97 ≤ c.toNat ∧ c.toNat ≤ 101) ∨ (65 ≤ c.toNat ∧ c.toNat ≤ 69)) : chrB (letW c) = c := by
  rcases h with h | h
  · have e : letW c = (c.toNat : Int) - 96 := by unfold letW; rw [if_pos h]
    rw [e]; unfold chrB
    rw [if_neg (by omega), show (96 + ((c.toNat : Int) - 96)).toNat = c.toNat by omega]; exact UInt8.ofNat_toNat
  · have e : letW c = 64 - (c.toNat : Int) := by unfold letW; rw [if_neg (by omega), if_pos h]
    rw [e]; unfold chrB
    rw [if_pos (by omega), show (64 - (64 - (c.toNat : Int))).toNat = c.toNat by omega]; exact UInt8.ofNat_toNat
theorem txt_back (t : ByteArray) (h2 : 2 ≤ t.size) (hc : t[1].toNat = 58) (hL : LetT t) (s : Nat) (hs : t[0].toNat = 48 + s) : txtB s (wrdK t (t.size - 2)) = t := by
  unfold txtB wrdK
  apply ByteArray.ext
  apply Array.ext'
  have hl : t.data.toList.length = t.size := rfl
  rw [List.take_of_length_le (by rw [List.length_drop]; omega)]
  have e0 : UInt8.ofNat (48 + s) = t[0] := by rw [← hs]; exact UInt8.ofNat_toNat
  have e1 : (58 : UInt8) = t[1] := by
    have : UInt8.ofNat t[1].toNat = t[1] := UInt8.ofNat_toNat
    rw [hc] at this; exact this
  have e2 : ((t.data.toList.drop 2).map letW).map chrB = t.data.toList.drop 2 := by
    rw [List.map_map]
    conv => rhs; rw [← List.map_id (t.data.toList.drop 2)]
    apply List.map_congr_left
    intro c hcm
    obtain ⟨i, hi, rfl⟩ := List.getElem_of_mem hcm
    rw [List.length_drop] at hi
    have := hL (i + 2) (by omega) (by omega)
    rw [List.getElem_drop]
    show chrB (letW _) = _
    have e3 : t.data.toList[2 + i]'(by omega) = t[i + 2]'(by omega) := by
      have : 2 + i = i + 2 := by omega
      simp only [this]; rfl
    rw [e3]; exact chr_let this
  rw [e2, e0, e1]
  have e3 : t.data.toList = t[0] :: t[1] :: t.data.toList.drop 2 := by
    conv => lhs; rw [← List.drop_zero (l := t.data.toList), List.drop_eq_getElem_cons (show 0 < t.data.toList.length by omega), List.drop_eq_getElem_cons (show 0 + 1 < t.data.toList.length by omega)]
    rfl
  conv => rhs; rw [e3]
  simp
set_option maxHeartbeats 8000000 in
theorem spec_Prs_any (t : ByteArray) (w : World) (h3 : t.size ≤ 1000) (S : Int) (X : List Int) (K : Int)
    (hF : (∃ h2 : 2 ≤ t.size, t[1].toNat = 58 ∧ LetT t ∧ isBr ((t[0].toNat : Int) - 48) (wrdK t (t.size - 2)) = true ∧ S = (t[0].toNat : Int) - 48 ∧ X = wrdK t (t.size - 2) ∧ K = 0) ∨ (¬ PrsT t ∧ S = 0 ∧ X = [] ∧ K = 6)) :
    Calls Try.prog 21 #[.string t] w (RetB w S X K) := by
  have hBad : ¬ PrsT t → S = 0 ∧ X = [] ∧ K = 6 := fun h => by
    rcases hF with ⟨h2, h58, hL, hb, _⟩ | hF
    · exact absurd ⟨h2, h58, hL, hb⟩ h
    · exact hF.2
  have hGood : ∀ h2 : 2 ≤ t.size, t[1].toNat = 58 → LetT t → isBr ((t[0].toNat : Int) - 48) (wrdK t (t.size - 2)) = true → S = (t[0].toNat : Int) - 48 ∧ X = wrdK t (t.size - 2) ∧ K = 0 := fun h2 h58 hL hb => by
    rcases hF with ⟨_, _, _, _, h⟩ | hF
    · exact h
    · exact absurd ⟨h2, h58, hL, hb⟩ hF.1
  have HBAD := Lib.hid hBad; have HGOOD := Lib.hid hGood
  clear hF hBad hGood
  have hA := Loc.new w rfl #[.int .i64 0, .slice none 0 0] 26
  go_enter Try.func21, Try.ntmps21
  go_wp2_with fail
  refine (l01Split_any t _ h3).mono ?_
  rintro e w1 ⟨a, m, c, L, rfl, ho, hb1, hm1, hm2, hmn⟩
  have hA1 := hA.below hb1 hA.lt
  have hB1 : Below w.heap.size w w1 := below_alth (Below.refl _ _) hb1
  have y0 : w.heap.size < w1.heap.size := hA1.lt
  have lA1 := hA1.two
  by_cases hm : m = 2
  rotate_left
  · have k1 : ((m : Int) != 2) = true := by simp; omega
    obtain ⟨rfl, rfl, rfl⟩ := HBAD.out (fun ⟨h2, hc, hL, hb⟩ => hmn hm 1 (by omega) hc (fun i hi hne => by
      rcases Nat.lt_or_ge i 2 with h | h
      · obtain rfl : i = 0 := by omega
        have := (isBr_let hb).1; omega
      · have := hL i hi h; omega))
    clear hm hm2 hmn
    go_wp2
    refine bodyPost_ret (v := .tuple #[bAgg 0 none 0 0, .int .i64 6]) (by simp [results, Try.results21, go_sem, lA1]) rfl ⟨none, 0, 0, rfl, Own.nil _ _, ?_⟩
    first | exact hB1 | exact (hB1.setCell (by simp) _).setCell (by simp) _
  subst hm
  obtain ⟨p, hp, hp58, rfl, hpu⟩ := hm2 rfl
  clear hm2 hmn
  obtain ⟨b, off, rfl, hbl, hcell⟩ := ho.row.all (by omega)
  have g0 : w1.cell? ⟨b, off, none⟩ = some (.string (t.extract 0 p)) := hcell 0 (by omega)
  have g1 : w1.cell? ⟨b, off + 1, none⟩ = some (.string (t.extract (p + 1) t.size)) := hcell 1 (by omega)
  clear hcell
  go_wp2_with fail
  refine (l01Value_any (t.extract 0 p) _ (by simp; omega)).mono ?_
  rintro e w2 ⟨v, rfl, hv, rfl⟩
  have hV : (p = 1 ∧ ((v = -1 ∧ ((t[0]'(by omega)).toNat < 48 ∨ 57 < (t[0]'(by omega)).toNat)) ∨ v = ((t[0]'(by omega)).toNat : Int) - 48)) ∨ (p ≠ 1 ∧ (v = -1 ∨ 10 ≤ v)) := by
    have hsz : (t.extract 0 p).size = p := by simp; omega
    obtain ⟨_, _, h1, h2⟩ := hv
    by_cases e : p = 1
    · refine .inl ⟨e, ?_⟩
      have := h1 (by omega)
      have e0 : (t.extract 0 p)[0]'(by omega) = t[0]'(by omega) := by simp [ByteArray.getElem_extract]
      rw [e0] at this; exact this
    · exact .inr ⟨e, h2 (by omega)⟩
  have hvb : -1 ≤ v ∧ v ≤ 1000000000 := ⟨hv.1, hv.2.1⟩
  obtain ⟨hv1, hv2⟩ := hvb
  have hP1 : PrsT t → p = 1 := fun ⟨h2, hc, _, _⟩ => by
    by_cases e : 1 = p
    · exact e.symm
    · exact absurd hc (hpu 1 (by omega) e)
  obtain ⟨u, HU⟩ : ∃ u, u = t.extract (p + 1) t.size := ⟨_, rfl⟩
  have hU1 : p = 1 → u = t.extract 2 t.size := fun e => by rw [HU, e]
  have hus : u.size ≤ 1000 := by rw [HU]; simp; omega
  rw [← HU] at g1
  have HV := Lib.hid hV; have HP1 := Lib.hid hP1; have HU1 := Lib.hid hU1; have HPU := Lib.hid hpu; have HP58 := Lib.hid hp58
  clear hV hP1 hU1 HU hpu hp58 hv
  have hbad : (∃ i, ∃ h : i < u.size, ltrB u[i].toNat = false) → ¬ PrsT t := fun ⟨i, hi, hb⟩ hp => by
    have e := HU1.out (HP1.out hp)
    obtain ⟨h2, hc, hL, _⟩ := hp
    subst e
    have hi' : i + 2 < t.size := by simp at hi; omega
    have := hL (i + 2) hi' (by omega)
    have e2 : (t.extract 2 t.size)[i] = t[i + 2] := by simp [ByteArray.getElem_extract, Nat.add_comm]
    rw [e2] at hb
    have := ltrB_no hb
    omega
  have HBD := Lib.hid hbad
  clear hbad
  obtain ⟨q, q1, q2, q3⟩ := first_ex (fun i => !ltrB (u.data.toList.getD i 0).toNat) u.size
  have hget : ∀ i (h : i < u.size), u.data.toList.getD i 0 = u[i] := fun i h => by
    rw [List.getD_eq_getElem?_getD, List.getElem?_eq_getElem (by exact h)]; rfl
  have hgood : ∀ i (h : i < u.size), i < q → ltrB u[i].toNat = true := fun i hi hq => by
    have := q2 i hq
    rw [hget i hi] at this
    simpa using this
  have hqb : ∀ h : q < u.size, ltrB u[q].toNat = false := fun h => by
    have := q3 h
    rw [hget q h] at this
    simpa using this
  have HG := Lib.hid hgood; have HQB := Lib.hid hqb
  clear q2 q3 hget hgood hqb lA1
  go_wp2
  go_loopw [6, 7] (fun i _ wr => ∃ (k : Nat) (a' : Option Addr) (n' c' : Nat), k ≤ q ∧ i = .int .i64 k ∧
    Loc wr w1.heap.size #[.int .i64 v, .slice a' n' c'] 26 ∧ Own wr (w1.heap.size + 1) a' n' c' (wrdU u k) ∧ Below w1.heap.size w1 wr ∧ w1.heap.size + 1 ≤ wr.heap.size) (fun i _ _ => u.size - (intOf i).toNat)
  case atStart => exact ⟨0, none, 0, 0, by omega, rfl, Loc.new _ rfl _ _, Own.nil _ _, below_al (Below.refl _ _) _, by simp⟩
  case round =>
    obtain ⟨k, a', n', c', hk, rfl, hL, ho', hbl', hsz⟩ := hrel
    have lL := hL.two
    have hA2 := hA1.below hbl' y0
    have lR := hA2.two
    obtain ⟨bc, bf⟩ := bcell hbl'
    have g1' : wr.cell? ⟨b, off + 1, none⟩ = some (.string u) := (bc _ _ hbl).trans g1
    clear bc bf
    have hln : n' + 1 ≤ 1000000000000 := by
      have := ho'.len
      simp [wrdU] at this; omega
    by_cases hlt : k < u.size
    · by_cases hkq : k < q
      · have HS := Lib.hid (wrdU_succ u k hlt)
        have hx := ltrB_yes (HG.out k hlt hkq)
        have hwq : w1.heap.size + 1 ≤ wr.heap.size := hsz
        clear lR
        rcases hx with hx | hx
        · have e1 : letW u[k] = (u[k].toNat : Int) - 97 + 1 := by unfold letW; rw [if_pos hx]; omega
          rw [e1] at HS
          obtain ⟨hx1, hx2⟩ := hx
          clear e1
          go_wp2_with (at_builtin; refine app1 rfl rfl ho' rfl rfl (by omega) hwq ?_; intro g' cc w8 hO hg8 hs8 hb8; have hL8 := hL.below hb8 (by omega); have lL8 := hL8.two)
          go_roundw
          case rel =>
            refine ⟨k + 1, _, _, _, by omega, by go_num, hL8.set 1 _, ?_, (hbl'.trans (hb8.mono (by omega))).setCell (by simp) _, by rw [size_set]; omega⟩
            rw [HS.out]
            exact hO.setlo (by simp) _
          case measure => simp [intOf]; omega
        · have e1 : letW u[k] = -((u[k].toNat : Int) - 65) - 1 := by unfold letW; rw [if_neg (by omega), if_pos hx]; omega
          rw [e1] at HS
          obtain ⟨hx1, hx2⟩ := hx
          clear e1
          go_wp2_with (at_builtin; refine app1 rfl rfl ho' rfl rfl (by omega) hwq ?_; intro g' cc w8 hO hg8 hs8 hb8; have hL8 := hL.below hb8 (by omega); have lL8 := hL8.two)
          go_roundw
          case rel =>
            refine ⟨k + 1, _, _, _, by omega, by go_num, hL8.set 1 _, ?_, (hbl'.trans (hb8.mono (by omega))).setCell (by simp) _, by rw [size_set]; omega⟩
            rw [HS.out]
            exact hO.setlo (by simp) _
          case measure => simp [intOf]; omega
      · obtain rfl : k = q := by omega
        have hbq := HQB.out hlt
        obtain ⟨rfl, rfl, rfl⟩ := HBAD.out (HBD.out ⟨k, hlt, hbq⟩)
        have HX := Lib.hid (ltrB_no hbq)
        clear hbq
        rcases HX.out with hx | ⟨hx1, hx2⟩ | hx
        all_goals
          go_wp2
          refine bodyPost_ret (v := .tuple #[bAgg 0 none 0 0, .int .i64 6]) (by simp [results, Try.results21, go_sem, lR]) rfl ⟨none, 0, 0, rfl, Own.nil _ _, ?_⟩
          first | exact hB1.trans (hbl'.mono (by omega)) | exact (((hB1.trans (hbl'.mono (by omega))).setCell (by simp) _).setCell (by simp) _)
    · have hkq : k = q := by omega
      have hkz : k = u.size := by omega
      have hr1 := ho'.row
      go_wp2_with fail
      refine (l16Is_any _ _ _ _ (wrdU u k) _ ho'.row (by omega) ⟨by omega, by omega⟩).mono ?_
      rintro e w5 ⟨rfl, hb5⟩
      have hL5 := hL.below hb5 hL.lt
      have lL5 := hL5.two
      have hA5 := hA2.below hb5 (by omega)
      have lA5 := hA5.two
      have ho5 := ho'.below hb5
      have hb15 : Below w1.heap.size w1 w5 := hbl'.trans (hb5.mono (by omega))
      cases hbr : isBr v (wrdU u k) with
      | false =>
        have hnp : ¬ PrsT t := fun hp => by
          have hp1 := HP1.out hp
          have hu := HU1.out hp1
          obtain ⟨h2, hc, hLt, hb⟩ := hp
          rcases HV.out with ⟨_, h | h⟩ | ⟨h, _⟩
          · have := (isBr_let hb).1; omega
          · have e : wrdU u k = wrdK t (t.size - 2) := by rw [hkz, hu, wrdU_ext]; simp
            rw [e, h, hb] at hbr; cases hbr
          · exact h hp1
        obtain ⟨rfl, rfl, rfl⟩ := HBAD.out hnp
        clear hnp hkq hkz
        go_wp2
        refine bodyPost_ret (v := .tuple #[bAgg 0 none 0 0, .int .i64 6]) (by simp [results, Try.results21, go_sem, lA5]) rfl ⟨none, 0, 0, rfl, Own.nil _ _, ?_⟩
        first | exact hB1.trans (hb15.mono (by omega)) | exact (((hB1.trans (hb15.mono (by omega))).setCell (by simp) _).setCell (by simp) _)
      | true =>
        have hbl2 := isBr_let hbr
        obtain ⟨s, hs⟩ : ∃ s : Nat, v = s := ⟨v.toNat, by omega⟩
        subst hs
        have hpv : p = 1 ∧ (s : Int) = ((t[0]'(by omega)).toNat : Int) - 48 := by
          rcases HV.out with ⟨h1, h | h⟩ | ⟨h, h'⟩
          · omega
          · exact ⟨h1, h⟩
          · omega
        obtain ⟨hp1, hs0⟩ := hpv
        have hu := HU1.out hp1
        have h2 : 2 ≤ t.size := by omega
        have hc58 : t[1].toNat = 58 := by
          have := HP58.out
          simp only [hp1] at this; exact this
        have hLt : LetT t := fun i hi hi2 => by
          have hi' : i - 2 < u.size := by rw [hu]; simp; omega
          have := ltrB_yes (HG.out (i - 2) hi' (by omega))
          have e2 : u[i - 2] = t[i] := by
            subst hu
            simp only [ByteArray.getElem_extract]
            congr 1; omega
          rw [e2] at this; exact this
        have ew : wrdU u k = wrdK t (t.size - 2) := by rw [hkz, hu, wrdU_ext]; simp
        rw [ew] at hbr
        obtain ⟨rfl, rfl, rfl⟩ := HGOOD.out h2 hc58 hLt (by rw [← hs0]; exact hbr)
        have HTX := Lib.hid (txt_back t h2 hc58 hLt s (by omega))
        rw [ew] at ho5
        have hx5 : ∀ x ∈ wrdK t (t.size - 2), x ≠ 0 ∧ -5 ≤ x ∧ x ≤ 5 := by
          intro x hx
          have := (isBr_let hbr).2.2 x hx
          omega
        have hn30 : n' ≤ 30 := by have := (isBr_let hbr).2.1; have := ho5.len; omega
        have hs6 : s ≤ 6 := by omega
        have HS0 := Lib.hid hs0
        clear hbl2 hkq hkz ew hbr hp1 hu hc58 hLt hs0
        go_wp2_with fail
        refine (l16Text_ok s _ _ _ (wrdK t (t.size - 2)) _ ho5.row hs6 hn30 hx5).mono ?_
        rintro e w6 ⟨rfl, hb6⟩
        rw [HTX.out]
        have hL6 := hL5.below hb6 hL5.lt
        have lL6 := hL6.two
        have lR6 := (hA5.below hb6 hA5.lt).two
        have hO6 := ho5.below hb6
        have hb16 : Below w1.heap.size w1 w6 := hb15.trans (hb6.mono (by have := hb5.size; omega))
        go_wp2
        refine bodyPost_ret (v := .tuple #[bAgg s a' n' c', .int .i64 0]) (by simp [results, Try.results21, go_sem, lR6]) rfl ⟨a', n', c', by rw [HS0.out], ?_, ?_⟩
        · exact ((hO6.setlo (by simp <;> omega) _).setlo (by simp <;> omega) _).mono (by omega)
        · exact ((hB1.trans (hb16.mono (by omega))).setCell (by simp) _).setCell (by simp) _
end Go.Proofs.Ytgnaeeifnhgobaa

namespace Go.Proofs.Ytgnaeeifnhgobaa
set_option linter.unusedVariables false
set_option linter.unusedSimpArgs false
set_option maxRecDepth 100000
open Go.RowKit

/-- letters of so many strands -/
def Slt (S : Int) (xs : List Int) : Prop := ∀ x ∈ xs, x ≠ 0 ∧ 1 - S ≤ x ∧ x ≤ S - 1
theorem Slt.snoc {S : Int} {xs : List Int} (h : Slt S xs) {x : Int} (h0 : x ≠ 0) (h1 : 1 - S ≤ x) (h2 : x ≤ S - 1) : Slt S (xs ++ [x]) := fun y hy => by
  rcases List.mem_append.1 hy with hy | hy
  · exact h y hy
  · simp at hy; subst hy; exact ⟨h0, h1, h2⟩
/-- what drawing a braid leaves -/
def DrL (b : Nat) (w : World) (hi : Int) (m : Nat) (e : Ending) (w' : World) : Prop :=
  ∃ (S : Int) (a : Option Addr) (n c : Nat) (xs : List Int), e = .returned (bAgg S a n c) ∧ 2 ≤ S ∧ S ≤ hi ∧ n ≤ m ∧ Slt S xs ∧ Own w' w.heap.size a n c xs ∧ Src w' b ∧ w.grownBy w' (some b)
set_option maxHeartbeats 8000000 in
theorem l16Draw_let (b : Nat) (s m : Nat) (w : World) (h : Src w b) (h1 : 2 ≤ s) (h2 : s ≤ 10) (hm : m ≤ 20) :
    Calls Try.prog 47 #[.pointer (some ⟨b, 0, none⟩), .int .i64 s, .int .i64 m] w (DrL b w s m) := by
  have hlt := h.lt
  go_enter Try.func47, Try.ntmps47
  have hR := Loc.new w rfl #[.int .i64 0, .slice none 0 0] 26
  go_wp2_with fail
  refine (l01Next_ok b ((s : Int) - 1) _ (h.below (below_al (Below.refl _ _) _)) ⟨by omega, by omega⟩).mono ?_
  rintro e w1 ⟨x, rfl, _, hx, hs1, hg1⟩
  obtain ⟨hx1, hx2⟩ := hx (by omega)
  obtain ⟨k, rfl⟩ : ∃ k : Nat, x = k := ⟨x.toNat, by omega⟩
  have hG1 := grown_trans (World.grownBy_alloc w (.cells #[.int .i64 0, .slice none 0 0] 26) (some b)) hg1
  have hR1 := hR.grown hg1 (by simp; omega)
  have hRl := hR1.lt
  clear hx hR
  go_wp2_with fail
  refine (l01Next_ok b ((m : Int) + 1) _ (hs1.below (below_al (Below.refl _ _) (.cells #[.int .i64 (2 + (k : Int)), .slice none 0 0] 26))) ⟨by omega, by omega⟩).mono ?_
  rintro e w2 ⟨y, rfl, _, hy, hs2, hg2⟩
  obtain ⟨hy1, hy2⟩ := hy (by omega)
  obtain ⟨j0, rfl⟩ : ∃ j : Nat, y = j := ⟨y.toNat, by omega⟩
  have hb1 : b < w1.heap.size := hs1.lt
  have hL2 := (Loc.new w1 rfl #[.int .i64 (2 + (k : Int)), .slice none 0 0] 26).grown hg2 (by simp; omega)
  have hR2 := (hR1.alloc (.cells #[.int .i64 (2 + (k : Int)), .slice none 0 0] 26)).grown hg2 (by simp; omega)
  have hG2 := grown_trans (grown_alloc hG1 (.cells #[.int .i64 (2 + (k : Int)), .slice none 0 0] 26)) hg2
  have z1 : w1.heap.size + 1 ≤ w2.heap.size := by have := hg2.size; simpa using this
  clear hy
  go_wp2
  go_loopw [8, 9] (fun i _ wr => ∃ (j : Nat) (a' : Option Addr) (n' c' : Nat) (xs : List Int), j ≤ j0 ∧ i = .int .i64 j ∧ n' + j = j0 ∧ Hid (Slt (2 + (k : Int)) xs) ∧ Src wr b ∧ Loc wr w.heap.size #[.int .i64 0, .slice none 0 0] 26 ∧
    Loc wr w1.heap.size #[.int .i64 (2 + (k : Int)), .slice a' n' c'] 26 ∧ Own wr (w1.heap.size + 1) a' n' c' xs ∧ w.grownBy wr (some b) ∧ w1.heap.size + 1 ≤ wr.heap.size) (fun i _ _ => (intOf i).toNat)
  case atStart => exact ⟨j0, none, 0, 0, [], Nat.le_refl _, rfl, by omega, Lib.hid (fun x hx => by simp at hx), hs2, hR2, hL2, Own.nil _ _, hG2, z1⟩
  case round =>
    obtain ⟨j, a', n', c', xs, hj, rfl, hnj, hsm, hs, hR, hL, ho, hG, hz⟩ := hrel
    have lL := hL.two
    rcases j with _ | j
    rotate_left
    · go_wp2_with fail
      refine (l01Next_ok b (2 + (k : Int) - 1) _ hs ⟨by omega, by omega⟩).mono ?_
      rintro e w3 ⟨x, rfl, _, hx, hs3, hg3⟩
      obtain ⟨hx1, hx2⟩ := hx (by omega)
      clear hx
      have hL3 := hL.grown hg3 (by simp; omega)
      have hR3 := hR.grown hg3 (by simp; omega)
      have ho3 := ho.grown hg3 (fun g e => by have := ho.lo g e; simp; omega)
      have hG3 := grown_trans hG hg3
      have z3 := hg3.size
      go_wp2_with fail
      refine (l01Next_ok b 3 _ hs3 ⟨by omega, by omega⟩).mono ?_
      rintro e w4 ⟨v, rfl, _, hv, hs4, hg4⟩
      clear hv
      have hL4 := hL3.grown hg4 (by simp; omega)
      have hR4 := hR3.grown hg4 (by simp; omega)
      have ho4 := ho3.grown hg4 (fun g e => by have := ho3.lo g e; simp; omega)
      have hG4 := grown_trans hG3 hg4
      have z4 := hg4.size
      have lL4 := hL4.two
      have hwq : w1.heap.size + 1 ≤ w4.heap.size := by omega
      have hln : n' + 1 ≤ 1000000000000 := by omega
      clear lL
      by_cases hv0 : v = 0
      · subst hv0
        go_wp2_with (at_builtin; refine app1 rfl rfl ho4 rfl rfl (by omega) hwq ?_; intro g' cc w8 hO hg8 hs8 hb8; have hL8 := hL4.below hb8 (by omega); have lL8 := hL8.two)
        go_roundw
        case rel =>
          refine ⟨j, _, _, _, _, by omega, by go_num, by omega, Lib.hid (hsm.out.snoc (by omega) (by omega) (by omega)), (hs4.keepB hb8 (by omega)).setne (by simp; omega) _, (hR4.below hb8 (by omega)).setne (by simp; omega) _, hL8.set 1 _, hO.setlo (by simp) _, ?_, by rw [size_set]; omega⟩
          exact grown_set (grown_below hG4 hb8 (by omega)) (.inr (by simp; omega)) _
        case measure => simp [intOf]; try omega
      · go_wp2_with (at_builtin; refine app1 rfl rfl ho4 rfl rfl (by omega) hwq ?_; intro g' cc w8 hO hg8 hs8 hb8; have hL8 := hL4.below hb8 (by omega); have lL8 := hL8.two)
        go_roundw
        case rel =>
          refine ⟨j, _, _, _, _, by omega, by go_num, by omega, Lib.hid (hsm.out.snoc (by omega) (by omega) (by omega)), (hs4.keepB hb8 (by omega)).setne (by simp; omega) _, (hR4.below hb8 (by omega)).setne (by simp; omega) _, hL8.set 1 _, hO.setlo (by simp) _, ?_, by rw [size_set]; omega⟩
          exact grown_set (grown_below hG4 hb8 (by omega)) (.inr (by simp; omega)) _
        case measure => simp [intOf]; try omega
    · have lR := hR.two
      go_wp2
      refine bodyPost_ret (v := bAgg (2 + (k : Int)) a' n' c') (by simp [results, Try.results47, go_sem, lR]) rfl ⟨_, a', n', c', xs, rfl, by omega, by omega, by omega, hsm.out, ?_, ?_, ?_⟩
      · exact ((ho.setlo (by simp <;> omega) _).setlo (by simp <;> omega) _).mono (by omega)
      · exact (hs.setne (by simp; omega) _).setne (by simp; omega) _
      · exact grown_set (grown_set hG (.inr (by simp)) _) (.inr (by simp)) _


theorem txtB_size (s : Nat) (xs : List Int) : (txtB s xs).size = xs.length + 2 := by
  show (#[UInt8.ofNat (48 + s), 58] ++ (xs.map chrB).toArray).size = _
  simp
set_option maxHeartbeats 4000000 in
theorem DrawParseBraid_ok (a : Option Addr) (n c : Nat) (xs : List Int) (w : World) (h : Bts w a n xs) (hn : n ≤ 9223372036854775807) :
    Calls Try.prog 19 #[.slice a n c] w fun e w' => ∃ u, e = .returned (.string u) ∧ u.size ≤ 1000 ∧ Below w.heap.size w w' := by
  go_enter Try.func19, Try.ntmps19
  go_wp2_with fail
  refine (l01From_ok a n c xs _ h hn).mono ?_
  rintro e w1 ⟨b, rfl, hb, hs1, hb1⟩
  go_wp2_with fail
  refine (l16Draw_let b 6 10 _ hs1 (by omega) (by omega) (by omega)).mono ?_
  rintro e w2 ⟨S, a2, n2, c2, ys, rfl, hS1, hS2, hn2, hsl, ho, hs2, hg2⟩
  have hB2 := hb1.grown hg2 hb1.size (fun k hk => by cases hk; exact hb)
  obtain ⟨s, rfl⟩ : ∃ s : Nat, S = s := ⟨S.toNat, by omega⟩
  have HL := Lib.hid ho.len
  have HX5 : Hid (∀ x ∈ ys, x ≠ 0 ∧ -5 ≤ x ∧ x ≤ 5) := Lib.hid fun x hx => by have := hsl x hx; omega
  clear hsl
  go_wp2_with fail
  refine (l16Text_ok s a2 n2 c2 ys _ ho.row (by omega) (by omega) HX5.out).mono ?_
  rintro e w3 ⟨rfl, hb3⟩
  have hs3 := hs2.below hb3
  have hB3 := below_th hB2 hb3
  have hz := txtB_size s ys
  obtain ⟨T, HT⟩ : ∃ T, Hid (txtB s ys = T) := ⟨_, Lib.hid rfl⟩
  rw [HT.out] at hz
  rw [HT.out]
  have hT : T.size ≤ 12 := by have := HL.out; omega
  clear hz HX5 HL
  go_wp2_with fail
  refine (l01Next_ok b 3 _ hs3 ⟨by omega, by omega⟩).mono ?_
  rintro e w4 ⟨y, rfl, _, hy, hs4, hg4⟩
  have hB4 := hB3.grown hg4 hB3.size (fun k hk => by cases hk; exact hb)
  clear hy
  by_cases hy0 : y = 0
  · subst hy0
    go_wp2_with fail
    refine (l01Damage_ok b T _ hs4 (by omega)).mono ?_
    rintro e w5 ⟨u, rfl, hu, hs5, hg5⟩
    go_wp2
    go_ret
    exact ⟨u, rfl, by omega, hB4.grown hg5 hB4.size (fun k hk => by cases hk; exact hb)⟩
  · go_wp2
    go_ret
    exact ⟨T, rfl, by omega, hB4⟩
end Go.Proofs.Ytgnaeeifnhgobaa

namespace Go.Proofs.Ytgnaeeifnhgobaa
set_option linter.unusedVariables false
set_option linter.unusedSimpArgs false
set_option maxRecDepth 100000
open Go.RowKit


/-- what a function that draws two braids out of a code leaves -/
def DrTT (w : World) (e : Ending) (w' : World) : Prop :=
  ∃ (S : Int) (a : Option Addr) (n c : Nat) (xs : List Int) (S' : Int) (a' : Option Addr) (n' c' : Nat) (xs' : List Int), e = .returned (.tuple #[bAgg S a n c, bAgg S' a' n' c']) ∧ 0 ≤ S ∧ S ≤ 10 ∧ n ≤ 31 ∧ Sml xs ∧ 0 ≤ S' ∧ S' ≤ 10 ∧ n' ≤ 31 ∧ Sml xs' ∧ Own w' w.heap.size a n c xs ∧ Own w' w.heap.size a' n' c' xs' ∧ Below w.heap.size w w'
set_option maxHeartbeats 8000000 in
theorem DrawTimesBraid_ok (a : Option Addr) (n c : Nat) (xs : List Int) (w : World) (h : Bts w a n xs) (hn : n ≤ 9223372036854775807) :
    Calls Try.prog 6 #[.slice a n c] w (DrTT w) := by
  go_enter Try.func6, Try.ntmps6
  have hP := (Loc.new w rfl #[.int .i64 0, .slice none 0 0] 26).alloc (.cells #[.int .i64 0, .slice none 0 0] 26)
  have hR := Loc.new (w.alloc (.cells #[.int .i64 0, .slice none 0 0] 26)) rfl #[.int .i64 0, .slice none 0 0] 26
  have hB0 := below_al (below_al (Below.refl w.heap.size w) (.cells #[.int .i64 0, .slice none 0 0] 26)) (.cells #[.int .i64 0, .slice none 0 0] 26)
  rw [size_alloc] at hR
  go_wp2_with fail
  refine (l01From_ok a n c xs _ (h.below hB0) hn).mono ?_
  rintro e w1 ⟨b, rfl, hb, hs1, hb1⟩
  have hP1 := hP.below hb1 hP.lt
  have hR1 := hR.below hb1 hR.lt
  have hB1 := below_th hB0 hb1
  rw [size_alloc, size_alloc] at hb
  clear hP hR hB0
  go_wp2_with fail
  refine (l16DrawAny_ok b 5 14 _ hs1 (by omega) (by omega) (by omega)).mono ?_
  rintro e w2 ⟨S, a2, n2, c2, ys, rfl, hS1, hS2, hn2, hsm, ho, hs2, hg2⟩
  have hP2 := hP1.grown hg2 (by simp; omega)
  have hR2 := hR1.grown hg2 (by simp; omega)
  have hB2 := below_grown hB1 hg2 (by omega)
  have hz1 := hs1.lt
  have hz2 := hg2.size
  go_wp2_with fail
  refine (l16DrawAny_ok b 5 17 _ hs2 (by omega) (by omega) (by omega)).mono ?_
  rintro e w3 ⟨S', a3, n3, c3, zs, rfl, hS1', hS2', hn3, hsm', ho', hs3, hg3⟩
  have hP3 := hP2.grown hg3 (by simp; omega)
  have hR3 := hR2.grown hg3 (by simp; omega)
  have hB3 := below_grown hB2 hg3 (by omega)
  have ho3 := ho.grown hg3 (fun g e => by have := ho.lo g e; simp; omega)
  have hz3 := hg3.size
  obtain ⟨w4, hw4⟩ : ∃ w4, (w3.alloc (.cells #[.int .i64 S, .slice a2 n2 c2] 26)).alloc (.cells #[.int .i64 S', .slice a3 n3 c3] 26) = w4 := ⟨_, rfl⟩
  have hC4 : Loc w4 w3.heap.size #[.int .i64 S, .slice a2 n2 c2] 26 := by rw [← hw4]; exact (Loc.new w3 rfl _ _).alloc _
  have hD4 : Loc w4 (w3.heap.size + 1) #[.int .i64 S', .slice a3 n3 c3] 26 := by rw [← hw4]; exact Loc.new _ (by simp) _ _
  have hb4 : Below w3.heap.size w3 w4 := by rw [← hw4]; exact below_al (below_al (Below.refl _ _) _) _
  have hP4 := hP3.below hb4 hP3.lt
  have hR4 := hR3.below hb4 hR3.lt
  have hB4 := below_th hB3 hb4
  have ho4 := ho3.below hb4
  have hq4 := (ho'.mono (lo' := w1.heap.size) (by omega)).below hb4
  have hs4 := hs3.below hb4
  have hz4 : w4.heap.size = w3.heap.size + 2 := by rw [← hw4]; simp
  have HN4 : Hid (∀ g, a2 = some ⟨g, 0, none⟩ → g < w3.heap.size) := Lib.hid fun g e => ho3.hi g e
  have HN5 : Hid (∀ g, a3 = some ⟨g, 0, none⟩ → g < w3.heap.size) := Lib.hid fun g e => ho'.hi g e
  have HW4 := Lib.hid hw4
  clear hw4 hP1 hP2 hP3 hR1 hR2 hR3 hB1 hB2 hB3 ho ho' ho3 hs1 hs2 hs3 hg2 hg3 hb1 hb4
  go_wp2
  rw [HW4.out]
  go_loopw [7] (fun k' wr => ∃ (k : Nat) (S' : Int) (a3 : Option Addr) (n3 c3 : Nat) (zs : List Int), k ≤ 6 ∧ k' = .int .i64 k ∧ 0 ≤ S' ∧ S' ≤ 10 ∧ n3 ≤ 31 ∧ Sml zs ∧ Src wr b ∧ Loc wr w3.heap.size #[.int .i64 S, .slice a2 n2 c2] 26 ∧ Loc wr (w3.heap.size + 1) #[.int .i64 S', .slice a3 n3 c3] 26 ∧
    Loc wr w.heap.size #[.int .i64 0, .slice none 0 0] 26 ∧ Loc wr (w.heap.size + 1) #[.int .i64 0, .slice none 0 0] 26 ∧ Own wr w1.heap.size a2 n2 c2 ys ∧ Own wr w1.heap.size a3 n3 c3 zs ∧ (∀ g, a3 = some ⟨g, 0, none⟩ → g ≠ w3.heap.size ∧ g ≠ w3.heap.size + 1) ∧ Below w.heap.size w wr ∧ w3.heap.size + 2 ≤ wr.heap.size) (fun k' _ => 6 - (intOf k').toNat)
  case atStart => exact ⟨0, S', a3, n3, c3, zs, by omega, rfl, hS1', hS2', hn3, hsm', hs4, hC4, hD4, hP4, hR4, ho4, hq4, (fun g e => by have := HN5.out g e; omega), hB4, by omega⟩
  case round =>
    clear hC4 hD4 hP4 hR4 ho4 hq4 hs4 hB4 hS1' hS2' hn3 hsm'
    obtain ⟨k, T, a5, n5, c5, us, hk, rfl, hT1, hT2, hn5, hsm5, hs, hC, hD, hP, hR, ho, hq, hne, hB, hz⟩ := hrel
    obtain ⟨V, rfl⟩ : ∃ V : World, V = wr := ⟨_, rfl⟩
    have HNE := Lib.hid hne
    clear hne
    have lC := hC.two
    have lD := hD.two
    have lP := hP.two
    have lR := hR.two
    by_cases hlt : k < 6 ∧ T ≠ S
    · obtain ⟨hk6, hTS⟩ := hlt
      have q1 : (T != S) = true := by simpa using hTS
      clear lP lR
      go_wp2_with fail
      refine (l16DrawAny_ok b 5 17 _ hs (by omega) (by omega) (by omega)).mono ?_
      rintro e w6 ⟨S6, a6, n6, c6, vs, rfl, h61, h62, hn6, hsm6, ho6, hs6, hg6⟩
      have hC6 := hC.grown hg6 (by simp; omega)
      have hD6 := hD.grown hg6 (by simp; omega)
      have hP6 := hP.grown hg6 (by simp; omega)
      have hR6 := hR.grown hg6 (by simp; omega)
      have hB6 := below_grown hB hg6 (by omega)
      have hp6 := ho.grown hg6 (fun g e => by have := ho.lo g e; simp; omega)
      have hz6 := hg6.size
      have lD6 := hD6.two
      clear lC lD
      go_wp2
      go_roundw
      case rel =>
        refine ⟨k + 1, S6, a6, n6, c6, vs, by omega, by go_num, h61, h62, hn6, hsm6, ?_, ?_, ?_, ?_, ?_, ?_, ?_, ?_, ?_, ?_⟩
        · exact (hs6.setne (by simp; omega) _).setne (by simp; omega) _
        · exact (hC6.setne (by simp) _).setne (by simp) _
        · exact (hD6.set 0 _).set 1 _
        · exact (hP6.setne (by simp; omega) _).setne (by simp; omega) _
        · exact (hR6.setne (by simp; omega) _).setne (by simp; omega) _
        · exact (hp6.setne (fun g e => by have := HN4.out g e; simp; omega) _).setne (fun g e => by have := HN4.out g e; simp; omega) _
        · exact ((ho6.setlo (by simp; omega) _).setlo (by simp; omega) _).mono (by omega)
        · exact fun g e => by have := ho6.lo g e; omega
        · exact (hB6.setCell (by simp; omega) _).setCell (by simp; omega) _
        · rw [size_set, size_set]; omega
      case measure => simp [intOf]; omega
    · have q : k = 6 ∨ (k < 6 ∧ (T != S) = false) := by
        by_cases e : k < 6
        · exact .inr ⟨e, by simpa using fun h => hlt ⟨e, h⟩⟩
        · exact .inl (by omega)
      clear hlt
      have fin : ∀ V' : World, V' = (((V.drew.setCell ⟨w.heap.size, 0, none⟩ (.int .i64 S)).setCell ⟨w.heap.size, 1, none⟩ (.slice a2 n2 c2)).setCell ⟨w.heap.size + 1, 0, none⟩ (.int .i64 T)).setCell ⟨w.heap.size + 1, 1, none⟩ (.slice a5 n5 c5) → Own V' w.heap.size a2 n2 c2 ys ∧ Own V' w.heap.size a5 n5 c5 us ∧ Below w.heap.size w V' := by
        intro V' e
        subst e
        refine ⟨?_, ?_, ?_⟩
        · exact ((((((ho.drew).setlo (by simp; omega) _).setlo (by simp; omega) _).setlo (by simp; omega) _).setlo (by simp; omega) _)).mono (by omega)
        · exact ((((((hq.drew).setlo (by simp; omega) _).setlo (by simp; omega) _).setlo (by simp; omega) _).setlo (by simp; omega) _)).mono (by omega)
        · exact ((((below_drewN hB 1).setCell (by simp) _).setCell (by simp) _).setCell (by simp) _).setCell (by simp) _
      rcases q with rfl | ⟨hk6, q2⟩
      all_goals
        go_wp2
        go_region
        all_goals go_wp2
        all_goals
          obtain ⟨f1, f2, f3⟩ := fin _ rfl
          exact bodyPost_ret (v := .tuple #[bAgg S a2 n2 c2, bAgg T a5 n5 c5]) (by simp [results, Try.results6, go_sem, lP, lR]) rfl ⟨S, a2, n2, c2, ys, T, a5, n5, c5, us, rfl, hS1, hS2, hn2, hsm, hT1, hT2, hn5, hsm5, f1, f2, f3⟩
end Go.Proofs.Ytgnaeeifnhgobaa
