/-
  What the laws' own helpers compute over slices of slices of numbers.
  No condition but bounds on lengths.
-/
import Derived.Test.YtehomfbehhlhmaaTabO
import Derived.Test.YtehomfbehhlhmaaBraidH
namespace Go.Proofs.Ytehomfbehhlhmaa
set_option maxRecDepth 100000
set_option linter.unusedVariables false
set_option linter.unusedSimpArgs false
open Go.RowKit

/-- how many numbers -/
def tot (xss : List (List Int)) : Nat := (xss.map List.length).sum
theorem tot_succ {xss : List (List Int)} {k : Nat} (h : k < xss.length) : tot (xss.take (k + 1)) = tot (xss.take k) + xss[k].length := by
  simp only [tot, List.take_succ_eq_append_getElem h, List.map_append, List.sum_append, List.map_cons, List.map_nil, List.sum_cons, List.sum_nil, Nat.add_zero]
theorem tot_le {xss : List (List Int)} (k : Nat) : tot (xss.take k) ≤ tot xss := by
  have h : xss = xss.take k ++ xss.drop k := (List.take_append_drop k xss).symm
  have : tot xss = tot (xss.take k) + tot (xss.drop k) := by
    conv => lhs; rw [h]
    simp only [tot, List.map_append, List.sum_append]
  omega
/-- the marks of rows of these lengths from k on -/
def markT (k : Int) : List (List Int) → List (List Int)
  | [] => []
  | xs :: r => markL k xs.length :: markT (k + xs.length) r
theorem markT_length (k : Int) (xss : List (List Int)) : (markT k xss).length = xss.length := by
  induction xss generalizing k with
  | nil => rfl
  | cons x r ih => simp [markT, ih]
theorem markT_get (k : Int) (xss : List (List Int)) (i : Nat) (h : i < xss.length) : (markT k xss).getD i [] = markL (k + tot (xss.take i)) (xss.getD i []).length := by
  induction xss generalizing k i with
  | nil => simp at h
  | cons x r ih =>
    cases i with
    | zero => simp [markT, tot]
    | succ i =>
      simp only [List.length_cons] at h
      have := ih (k + x.length) i (by omega)
      simp only [List.getD_eq_getElem?_getD] at this ⊢
      simp only [markT, List.getElem?_cons_succ, List.take_succ_cons]
      rw [this]
      simp only [tot, List.map_cons, List.sum_cons]
      congr 1
      omega

/-! ### sz -/
set_option maxHeartbeats 400000 in
theorem szInt64SS_ok (a : Option Addr) (n c : Nat) (xss : List (List Int)) (L : Int) (w : World) (hr : Tbl w a n xss) (h0 : (n : Int) + tot xss ≤ L) (h1 : L ≤ 1048576) :
    Calls Try.prog 127 #[.slice a n c, .int .i64 L] w fun e w' => e = .returned (.int .i64 (L - n - tot xss)) ∧ w = w' := by
  have hl := hr.len
  have HL := Lib.hid hl; clear hl
  go_enter Try.func127, Try.ntmps127
  go_wp2
  go_loop [1, 5] (fun z i => ∃ k : Nat, k ≤ n ∧ i = .int .i64 k ∧ z = .int .i64 (L - n - (tot (xss.take k) : Nat))) (fun _ i => n - (intOf i).toNat)
  case atStart => exact ⟨0, Nat.zero_le _, rfl, by simp [tot]⟩
  case round =>
    obtain ⟨k, hk, rfl, rfl⟩ := hrel
    by_cases hlt : k < n
    · obtain ⟨b, off, ai, ni, ci, rfl, g1, hri, hni⟩ := hr.at k hlt
      have hx : k < xss.length := by have := HL.out; omega
      have hs := tot_succ hx
      rw [← Tbl.getD hx, ← hri.len] at hs
      have hle := tot_le (xss := xss) (k + 1)
      rw [hs] at hle
      have HS := Lib.hid hs; clear hs
      obtain ⟨z, hz⟩ : ∃ z, z = tot (xss.take k) := ⟨_, rfl⟩
      rw [← hz] at hle ⊢
      have HZ := Lib.hid hz; clear hz
      clear hr
      go_wp2_with fail
      refine (szInt64S_ok _ _ _ _ _ (by omega) (by omega)).mono ?_
      rintro e w' ⟨rfl, rfl⟩
      go_wp2
      go_round
      case rel =>
        refine ⟨k + 1, by omega, by go_num, ?_⟩
        rw [HS.out, ← HZ.out]
        exact congrArg (Value.int .i64) (by omega)
      case measure => simp [intOf]; omega
    · obtain rfl : k = n := by omega
      go_wp2
      go_ret
      exact ⟨ret_int (by rw [List.take_of_length_le (by have := HL.out; omega)]), rfl⟩

set_option maxHeartbeats 400000 in
theorem szInt64SS_no (a : Option Addr) (n c : Nat) (xss : List (List Int)) (L : Int) (w : World) (hr : Tbl w a n xss) (h0 : L < (n : Int) + tot xss) (h1 : L ≤ 1048576) (h2 : 0 ≤ L) (hn : n ≤ 9223372036854775807) :
    Calls Try.prog 127 #[.slice a n c, .int .i64 L] w fun e w' => e = .returned (.int .i64 (-1)) ∧ w = w' := by
  by_cases hb : L < (n : Int)
  · go_enter Try.func127, Try.ntmps127
    go_wp2
    go_ret
    exact ⟨rfl, rfl⟩
  · have hl := hr.len
    have HL := Lib.hid hl; clear hl
    go_enter Try.func127, Try.ntmps127
    go_wp2
    go_loop [1, 5] (fun z i => ∃ k : Nat, k ≤ n ∧ i = .int .i64 k ∧ z = .int .i64 (L - n - (tot (xss.take k) : Nat)) ∧ (n : Int) + tot (xss.take k) ≤ L) (fun _ i => n - (intOf i).toNat)
    case atStart => exact ⟨0, Nat.zero_le _, rfl, by simp [tot], by simp [tot]; omega⟩
    case round =>
      obtain ⟨k, hk, rfl, rfl, hle⟩ := hrel
      by_cases hlt : k < n
      · obtain ⟨b, off, ai, ni, ci, rfl, g1, hri, hni⟩ := hr.at k hlt
        have hx : k < xss.length := by have := HL.out; omega
        have hs := tot_succ hx
        rw [← Tbl.getD hx, ← hri.len] at hs
        have HS := Lib.hid hs; clear hs
        obtain ⟨z, hz⟩ : ∃ z, z = tot (xss.take k) := ⟨_, rfl⟩
        rw [← hz] at hle ⊢
        have HZ := Lib.hid hz; clear hz
        clear hr
        by_cases hc : (n : Int) + (z + ni : Nat) ≤ L
        · go_wp2_with fail
          refine (szInt64S_ok _ _ _ _ _ (by omega) (by omega)).mono ?_
          rintro e w' ⟨rfl, rfl⟩
          go_wp2
          go_round
          case rel =>
            refine ⟨k + 1, by omega, by go_num, ?_, ?_⟩
            · rw [HS.out, ← HZ.out]
              exact congrArg (Value.int .i64) (by omega)
            · rw [HS.out, ← HZ.out]; omega
          case measure => simp [intOf]; omega
        · go_wp2_with fail
          refine (szInt64S_no _ _ _ _ _ (by omega) (by omega) (by omega) hni).mono ?_
          rintro e w' ⟨rfl, rfl⟩
          go_wp2
          go_ret
          exact ⟨rfl, rfl⟩
      · exfalso
        have := HL.out
        rw [List.take_of_length_le (by omega)] at hle
        omega

/-! ### eq -/
set_option maxHeartbeats 1000000 in
theorem eqInt64SS_any (a1 a2 : Option Addr) (n1 n2 c1 c2 : Nat) (xs ys : List (List Int)) (w : World) (h1 : Tbl w a1 n1 xs) (h2 : Tbl w a2 n2 ys) (hm : n1 ≤ 9223372036854775807) :
    Calls Try.prog 137 #[.slice a1 n1 c1, .slice a2 n2 c2] w fun e w' => e = .returned (.bool (decide (xs = ys))) ∧ ∃ n, w' = w.drewN n := by
  have hl1 := h1.len
  have hl2 := h2.len
  by_cases hl : n1 = n2
  · subst hl
    have HL := Lib.hid hl1; have HL2 := Lib.hid hl2; clear hl1 hl2
    have hb : ((n1 : Int) != (n1 : Int)) = false := by simp
    go_enter Try.func137, Try.ntmps137
    go_wp2
    clear hb
    go_loopw [5] (fun i wr => ∃ k : Nat, k ≤ n1 ∧ i = .int .i64 k ∧ Hid (xs.take k = ys.take k) ∧ Hid (∃ n, wr = w.drewN n)) (fun i _ => n1 - (intOf i).toNat)
    case atStart => exact ⟨0, Nat.zero_le _, rfl, by simp [Hid], ⟨0, rfl⟩⟩
    case round =>
      obtain ⟨k, hk, rfl, HT, HW⟩ := hrel
      obtain ⟨m, hm'⟩ := HW.out
      have h1' : Tbl wr a1 n1 xs := by rw [hm']; exact h1.drewN m
      have h2' : Tbl wr a2 n1 ys := by rw [hm']; exact h2.drewN m
      clear hm'
      by_cases hlt : k < n1
      · obtain ⟨b1, o1, a1', m1, c1', rfl, g1, r1, lm1⟩ := h1'.at k hlt
        obtain ⟨b2, o2, a2', m2, c2', rfl, g2, r2, lm2⟩ := h2'.at k hlt
        have hx : k < xs.length := by have := HL.out; omega
        have hy : k < ys.length := by have := HL2.out; omega
        rw [Tbl.getD hx] at r1
        rw [Tbl.getD hy] at r2
        clear h1' h2' h1 h2
        by_cases he : xs[k] = ys[k]
        · have hq : ∀ q, Calls Try.prog 74 #[.slice a1' m1 c1', .slice a2' m2 c2'] (wr.drewN q) fun e w' => e = .returned (.bool true) ∧ ∃ m, w' = (wr.drewN q).drewN m := fun q =>
            (eqInt64S_any _ _ _ _ _ _ _ _ _ (r1.drewN q) (r2.drewN q) lm1).mono fun e w' ⟨h, h'⟩ => ⟨h.trans (ret_bool (by simpa using he)), h'⟩
          have HQ := Lib.hid hq; have HE := Lib.hid he; clear hq he
          go_wp2
          go_quiet ((go_at_call 74; exact Calls.quiet_of (HQ.out _)))
          go_wp2
          go_roundw
          case rel =>
            refine ⟨k + 1, by omega, by go_num, ?_, ?_⟩
            · show xs.take (k + 1) = ys.take (k + 1)
              rw [List.take_succ_eq_append_getElem hx, List.take_succ_eq_append_getElem hy, HT.out, HE.out]
            · obtain ⟨m, hm⟩ := HW.out
              exact ⟨m + nq, by rw [hm, World.drewN_drewN]⟩
          case measure => simp [intOf]; omega
        · have hq : ∀ q, Calls Try.prog 74 #[.slice a1' m1 c1', .slice a2' m2 c2'] (wr.drewN q) fun e w' => e = .returned (.bool false) ∧ ∃ m, w' = (wr.drewN q).drewN m := fun q =>
            (eqInt64S_any _ _ _ _ _ _ _ _ _ (r1.drewN q) (r2.drewN q) lm1).mono fun e w' ⟨h, h'⟩ => ⟨h.trans (ret_bool (by simpa using he)), h'⟩
          have hne : ¬ xs = ys := by rintro rfl; exact he rfl
          have HQ := Lib.hid hq; have HE := Lib.hid hne; clear hq he hne
          go_wp2
          go_quiet ((go_at_call 74; exact Calls.quiet_of (HQ.out _)))
          go_wp2
          go_ret
          obtain ⟨m, hm⟩ := HW.out
          exact ⟨ret_bool (by simp [HE.out]), m + nq, by rw [hm, World.drewN_drewN]⟩
      · obtain rfl : k = n1 := by omega
        clear h1' h2' h1 h2
        go_wp2
        go_ret
        refine ⟨ret_bool ?_, HW.out⟩
        have := HT.out
        rw [List.take_of_length_le (by have := HL.out; omega), List.take_of_length_le (by have := HL2.out; omega)] at this
        simp [this]
  · have hb : ((n1 : Int) != (n2 : Int)) = true := by simp; omega
    have hne : ¬ xs = ys := by rintro rfl; omega
    clear hl1 hl2
    go_enter Try.func137, Try.ntmps137
    go_wp2
    go_ret
    exact ⟨ret_bool (by simp [hne]), 0, rfl⟩
theorem eqInt64SS_same (a1 a2 : Option Addr) (n1 n2 c1 c2 : Nat) (xs : List (List Int)) (w : World) (h1 : Tbl w a1 n1 xs) (h2 : Tbl w a2 n2 xs) (hm : n1 ≤ 9223372036854775807) :
    Calls Try.prog 137 #[.slice a1 n1 c1, .slice a2 n2 c2] w fun e w' => e = .returned (.bool true) ∧ ∃ n, w' = w.drewN n :=
  (eqInt64SS_any a1 a2 n1 n2 c1 c2 xs xs w h1 h2 hm).mono fun e w' ⟨he, hb⟩ => ⟨he.trans (ret_bool (by simp)), hb⟩

/-! ### held -/
set_option maxHeartbeats 1000000 in
theorem heldInt64SS_any (a : Option Addr) (n c : Nat) (xss : List (List Int)) (k0 : Int) (w : World) (h1 : Tbl w a n (markT k0 xss)) (hk0 : 0 ≤ k0) (hm : k0 + tot xss ≤ 9000000000000000000) (hn : n ≤ 9223372036854775807) :
    Calls Try.prog 116 #[.slice a n c, .int .i64 k0] w fun e w' => e = .returned (.int .i64 (k0 + tot xss)) ∧ ∃ m, w' = w.drewN m := by
  have hl := h1.len
  rw [markT_length] at hl
  have HL := Lib.hid hl; clear hl
  go_enter Try.func116, Try.ntmps116
  go_wp2
  go_loopw [1, 5] (fun z i wr => ∃ k : Nat, k ≤ n ∧ i = .int .i64 k ∧ z = .int .i64 (k0 + (tot (xss.take k) : Nat)) ∧ Hid (∃ m, wr = w.drewN m)) (fun _ i _ => n - (intOf i).toNat)
  case atStart => exact ⟨0, Nat.zero_le _, rfl, by simp [tot], ⟨0, rfl⟩⟩
  case round =>
    obtain ⟨k, hk, rfl, rfl, HW⟩ := hrel
    obtain ⟨m, hm'⟩ := HW.out
    have h1' : Tbl wr a n (markT k0 xss) := by rw [hm']; exact h1.drewN m
    clear hm'
    by_cases hlt : k < n
    · obtain ⟨b, off, ai, ni, ci, rfl, g1, hri, hni⟩ := h1'.at k hlt
      have hx : k < xss.length := by have := HL.out; omega
      rw [markT_get k0 xss k hx, Tbl.getD hx] at hri
      have hnl := hri.len
      rw [markL_length] at hnl
      have hs := tot_succ hx
      have hle := tot_le (xss := xss) (k + 1)
      rw [← hnl] at hs hri
      rw [hs] at hle
      have HS := Lib.hid hs; clear hs hnl
      obtain ⟨z, hz⟩ : ∃ z, z = tot (xss.take k) := ⟨_, rfl⟩
      rw [← hz] at hle hri ⊢
      have HZ := Lib.hid hz; clear hz
      clear h1' h1
      go_wp2_with fail
      refine (heldInt64S_any _ _ _ _ _ hri (by omega) (by omega)).mono ?_
      rintro e w' ⟨rfl, m, rfl⟩
      go_wp2
      go_roundw
      case rel =>
        refine ⟨k + 1, by omega, by go_num, ?_, ?_⟩
        · rw [HS.out, ← HZ.out]
          exact congrArg (Value.int .i64) (by omega)
        · obtain ⟨m', hm⟩ := HW.out
          exact ⟨m' + m, by rw [hm, World.drewN_drewN]⟩
      case measure => simp [intOf]; omega
    · obtain rfl : k = n := by omega
      clear h1' h1
      go_wp2
      go_ret
      exact ⟨ret_int (by rw [List.take_of_length_le (by have := HL.out; omega)]), HW.out⟩

/-! ### mark -/
theorem OwnT.markrow {w w' : World} {lo : Nat} {a : Option Addr} {n c : Nat} {vs : List SV} {xss : List (List Int)} (h : OwnT w lo a n c vs xss) (i : Nat) (hi : i < n) {ys : List Int} (ho : Own w' lo (vs.getD i svO).1 (vs.getD i svO).2.1 (vs.getD i svO).2.2 ys)
    (ht : Touch (fun g => (vs.getD i svO).1 = some ⟨g, 0, none⟩) w w') : OwnT w' lo a n c vs (xss.set i ys) := by
  have hl := h.len
  refine ⟨by simp [hl], h.vlen, ?_, fun k hk => ?_, h.ap, h.pw⟩
  · rcases h.block with ⟨h1, h2, h3⟩ | ⟨g', cur, e1, e2, e3, e4, e5, e6, e7⟩
    · omega
    · subst e1
      exact ownsRow_mk h.vlen e2 ((ht.block g' (fun e => h.ap i hi g' rfl e)).trans e3) e4 e5 e6 e7
  · rw [getD_set' _ _ _ _ _ (by omega)]
    by_cases e : k = i
    · subst e; rw [if_pos rfl]; exact ho
    · rw [if_neg e]
      exact (h.row k hk).keep fun g hg _ => ht.block g (fun e' => h.pw k i hk hi e g hg e')
theorem markT_step (k0 : Int) (xss : List (List Int)) (k : Nat) (h : k < xss.length) :
    ((markT k0 xss).take k ++ xss.drop k).set k (markL (k0 + tot (xss.take k)) xss[k].length) = (markT k0 xss).take (k + 1) ++ xss.drop (k + 1) := by
  have hm : k < (markT k0 xss).length := by rw [markT_length]; exact h
  have e : ((markT k0 xss).take k).length = k := by rw [List.length_take, markT_length]; omega
  rw [List.set_append_right _ _ (by omega), e, Nat.sub_self, List.take_succ_eq_append_getElem hm, List.append_assoc]
  congr 1
  have hg := markT_get k0 xss k h
  rw [Tbl.getD h, Tbl.getD hm] at hg
  rw [List.drop_eq_getElem_cons h, hg]
  rfl

set_option maxHeartbeats 1000000 in
theorem markInt64SS_any (a : Option Addr) (n c lo : Nat) (vs : List SV) (xss : List (List Int)) (k0 : Int) (w : World) (h1 : OwnT w lo a n c vs xss) (hk0 : 0 ≤ k0) (hm : k0 + tot xss ≤ 9000000000000000000) :
    Calls Try.prog 115 #[.slice a n c, .int .i64 k0] w fun e w' => e = .returned (.int .i64 (k0 + tot xss)) ∧ OwnT w' lo a n c vs (markT k0 xss) ∧ Touch (fun g => ∃ i, i < n ∧ (vs.getD i svO).1 = some ⟨g, 0, none⟩) w w' := by
  have hl := h1.len
  have hcap := h1.cap
  have HL := Lib.hid hl; clear hl
  go_enter Try.func115, Try.ntmps115
  go_wp2
  go_loopw [1, 5] (fun z i wr => ∃ k : Nat, k ≤ n ∧ i = .int .i64 k ∧ z = .int .i64 (k0 + (tot (xss.take k) : Nat)) ∧ OwnT wr lo a n c vs ((markT k0 xss).take k ++ xss.drop k) ∧ Touch (fun g => ∃ i, i < n ∧ (vs.getD i svO).1 = some ⟨g, 0, none⟩) w wr) (fun _ i _ => n - (intOf i).toNat)
  case atStart => exact ⟨0, Nat.zero_le _, rfl, by simp [tot], by simpa using h1, Touch.refl _ _⟩
  case round =>
    obtain ⟨k, hk, rfl, rfl, ho, ht⟩ := hrel
    by_cases hlt : k < n
    · obtain ⟨g, rfl, hg, hc, _⟩ := ho.cells (by omega)
      have hck := hc k hlt
      have hor := ho.row k hlt
      have hx : k < xss.length := by have := HL.out; omega
      have e1 : ((markT k0 xss).take k ++ xss.drop k).getD k [] = xss[k] := by
        have e : ((markT k0 xss).take k).length = k := by rw [List.length_take, markT_length]; omega
        rw [List.getD_eq_getElem?_getD, List.getElem?_append_right (by omega), e, Nat.sub_self, List.drop_eq_getElem_cons hx]; rfl
      rw [e1] at hor
      have hnl := hor.len
      have hs := tot_succ hx
      have hle := tot_le (xss := xss) (k + 1)
      rw [← hnl] at hs
      rw [hs] at hle
      have HN := Lib.hid hnl
      have HS := Lib.hid hs; clear hs hnl e1
      obtain ⟨z, hz⟩ : ∃ z, z = tot (xss.take k) := ⟨_, rfl⟩
      rw [← hz] at hle ⊢
      have HZ := Lib.hid hz; clear hz
      obtain ⟨v, hv⟩ : ∃ v, v = vs.getD k svO := ⟨_, rfl⟩
      have HV := Lib.hid hv
      rw [← hv] at hck hor hle HN HS
      clear hc hv
      go_wp2_with fail
      refine (markInt64S_any _ _ _ _ _ _ _ hor (by omega) (by omega)).mono ?_
      rintro e w' ⟨rfl, ho', ht'⟩
      go_wp2
      go_roundw
      case rel =>
        refine ⟨k + 1, by omega, by go_num, ?_, ?_, ?_⟩
        · rw [HS.out, ← HZ.out]
          exact congrArg (Value.int .i64) (by omega)
        · have := HV.out
          subst this
          have hmk := ho.markrow k hlt ho' ht'
          rw [HN.out, HZ.out, markT_step k0 xss k hx] at hmk
          exact hmk
        · exact ht.trans (ht'.mono fun g hg => ⟨k, hlt, by rw [← HV.out]; exact hg⟩)
      case measure => simp [intOf]; omega
    · obtain rfl : k = n := by omega
      go_wp2
      go_ret
      have e1 : (markT k0 xss).take k ++ xss.drop k = markT k0 xss := by
        rw [List.take_of_length_le (by rw [markT_length]; have := HL.out; omega), List.drop_of_length_le (by have := HL.out; omega), List.append_nil]
      rw [e1] at ho
      exact ⟨ret_int (by rw [List.take_of_length_le (by have := HL.out; omega)]), ho, ht⟩

/-! ### to -/
theorem copyT_step (xss : List (List Int)) (n k : Nat) (hl : n = xss.length) (hx : k < xss.length) : (xss.take k ++ List.replicate (n - k) []).set k xss[k] = xss.take (k + 1) ++ List.replicate (n - (k + 1)) [] := by
  have e : (xss.take k).length = k := by rw [List.length_take]; omega
  rw [List.set_append_right _ _ (by omega), e, Nat.sub_self, List.take_succ_eq_append_getElem hx, List.append_assoc]
  congr 1
  obtain ⟨m, hm⟩ : ∃ m, n - k = m + 1 := ⟨n - k - 1, by omega⟩
  have hm' : n - (k + 1) = m := by omega
  rw [hm, hm', List.replicate_succ]
  rfl

set_option maxHeartbeats 1000000 in
theorem toInt64SS_any (a : Option Addr) (n c : Nat) (xss : List (List Int)) (w : World) (h1 : Tbl w a n xss) (hm : n + tot xss ≤ 1048576) :
    Calls Try.prog 131 #[.slice a n c] w fun e w' => ∃ a' c' vs, e = .returned (.slice a' n c') ∧ OwnT w' w.heap.size a' n c' vs xss ∧ Below w.heap.size w w' := by
  have hl := h1.len
  have HL := Lib.hid hl; clear hl
  go_enter Try.func131, Try.ntmps131
  go_wp2_with (at_make; refine makeT rfl rfl rfl rfl (by omega) ?_; intro w1 ho hs hb)
  go_loopw [4] (fun i wr => ∃ (k : Nat) (vs : List SV), k ≤ n ∧ i = .int .i64 k ∧ OwnT wr w.heap.size (some ⟨w.heap.size, 0, none⟩) n n vs (xss.take k ++ List.replicate (n - k) []) ∧ Below w.heap.size w wr) (fun i _ => n - (intOf i).toNat)
  case atStart => exact ⟨0, _, Nat.zero_le _, rfl, by simpa using ho, hb⟩
  case round =>
    clear ho hb
    obtain ⟨k, vs, hk, rfl, ho, hb⟩ := hrel
    by_cases hlt : k < n
    · have hr := h1.below hb
      obtain ⟨b, off, ai, ni, ci, rfl, g1, hri, hni⟩ := hr.at k hlt
      have hx : k < xss.length := by have := HL.out; omega
      rw [Tbl.getD hx] at hri
      have hle : ni ≤ 1048576 := by
        have h2 := tot_succ hx
        have h3 := tot_le (xss := xss) (k + 1)
        have := hri.len
        omega
      obtain ⟨g, hg, hgl, hc, hf⟩ := ho.cells (by omega)
      cases hg
      clear h1 hr hc
      go_wp2_with fail
      refine (toInt64S_any _ _ _ _ _ hri hle).mono ?_
      rintro e w2 ⟨a2, c2, rfl, ho2, hb2⟩
      have hot := ho.below hb2
      obtain ⟨g', hg', hgl', hc', hf'⟩ := hot.cells (by omega)
      cases hg'
      have hc1 := hc' k hlt
      have hf1 := hf' k
      clear hc' hf' hf
      go_wp2
      go_roundw
      case rel =>
        have hlo : w.heap.size ≤ wr.heap.size := hb.size
        refine ⟨k + 1, vs.set k (a2, ni, c2), by omega, by go_num, ?_, ?_⟩
        · have hp := hot.put k hlt (v := (a2, ni, c2)) (ho2.mono hlo) (fun e => by have := ho2.lo _ e; omega) (fun j hj _ g1 h1 h2 => by have h3 := ho2.lo _ h1; have h4 := (ho.row j hj).hi _ h2; omega)
          rw [copyT_step xss n k HL.out hx] at hp
          exact hp
        · exact (hb.trans (hb2.mono hlo)).setCell (Nat.le_refl _) _
      case measure => simp [intOf]; omega
    · obtain rfl : k = n := by omega
      go_wp2
      go_ret
      have e1 : xss.take k ++ List.replicate (k - k) [] = xss := by
        rw [List.take_of_length_le (by have := HL.out; omega), Nat.sub_self, List.replicate_zero, List.append_nil]
      rw [e1] at ho
      exact ⟨_, _, _, rfl, ho, hb⟩

/-! ### in one form: 'Below' -/
theorem eqInt64SS_sameB (a1 a2 : Option Addr) (n1 n2 c1 c2 : Nat) (xs : List (List Int)) (w : World) (h1 : Tbl w a1 n1 xs) (h2 : Tbl w a2 n2 xs) (hm : n1 ≤ 9223372036854775807) :
    Calls Try.prog 137 #[.slice a1 n1 c1, .slice a2 n2 c2] w fun e w' => e = .returned (.bool true) ∧ Below w.heap.size w w' :=
  (eqInt64SS_same a1 a2 n1 n2 c1 c2 xs w h1 h2 hm).mono fun e w' ⟨he, m, hb⟩ => ⟨he, by rw [hb]; exact below_drewN (Below.refl _ _) m⟩
theorem eqInt64S_sameB (a1 a2 : Option Addr) (n1 n2 c1 c2 : Nat) (xs : List Int) (w : World) (h1 : Row w a1 n1 xs) (h2 : Row w a2 n2 xs) (hm : n1 ≤ 9223372036854775807) :
    Calls Try.prog 74 #[.slice a1 n1 c1, .slice a2 n2 c2] w fun e w' => e = .returned (.bool true) ∧ Below w.heap.size w w' :=
  (eqInt64S_any a1 a2 n1 n2 c1 c2 xs xs w h1 h2 hm).mono fun e w' ⟨he, m, hb⟩ => ⟨he.trans (ret_bool (by simp)), by rw [hb]; exact below_drewN (Below.refl _ _) m⟩
theorem heldInt64SS_anyB (a : Option Addr) (n c : Nat) (xss : List (List Int)) (k0 : Int) (w : World) (h1 : Tbl w a n (markT k0 xss)) (hk0 : 0 ≤ k0) (hm : k0 + tot xss ≤ 9000000000000000000) (hn : n ≤ 9223372036854775807) :
    Calls Try.prog 116 #[.slice a n c, .int .i64 k0] w fun e w' => e = .returned (.int .i64 (k0 + tot xss)) ∧ Below w.heap.size w w' :=
  (heldInt64SS_any a n c xss k0 w h1 hk0 hm hn).mono fun e w' ⟨he, m, hb⟩ => ⟨he, by rw [hb]; exact below_drewN (Below.refl _ _) m⟩
theorem heldInt64S_anyB (a : Option Addr) (n c : Nat) (k0 : Int) (w : World) (h1 : Row w a n (markL k0 n)) (hk0 : 0 ≤ k0) (hm : k0 + n ≤ 9000000000000000000) :
    Calls Try.prog 76 #[.slice a n c, .int .i64 k0] w fun e w' => e = .returned (.int .i64 (k0 + n)) ∧ Below w.heap.size w w' :=
  (heldInt64S_any a n c k0 w h1 hk0 hm).mono fun e w' ⟨he, m, hb⟩ => ⟨he, by rw [hb]; exact below_drewN (Below.refl _ _) m⟩

/-- a table and a code handed back in new memory -/
def RetT (w : World) (xss : List (List Int)) (code : Int) (e : Ending) (w' : World) : Prop :=
  ∃ a n c vs, e = .returned (.tuple #[.slice a n c, .int .i64 code]) ∧ OwnT w' w.heap.size a n c vs xss ∧ Below w.heap.size w w'
/-- a list and a code -/
def RetR (w : World) (xs : List Int) (code : Int) (e : Ending) (w' : World) : Prop :=
  ∃ a n c, e = .returned (.tuple #[.slice a n c, .int .i64 code]) ∧ Own w' w.heap.size a n c xs ∧ Below w.heap.size w w'
/-- a number and a code -/
def RetI (w : World) (x : Int) (code : Int) (e : Ending) (w' : World) : Prop := e = .returned (.tuple #[.int .i64 x, .int .i64 code]) ∧ Below w.heap.size w w'
/-- a truth and a code -/
def RetO (w : World) (x : Bool) (code : Int) (e : Ending) (w' : World) : Prop := e = .returned (.tuple #[.bool x, .int .i64 code]) ∧ Below w.heap.size w w'

end Go.Proofs.Ytehomfbehhlhmaa
