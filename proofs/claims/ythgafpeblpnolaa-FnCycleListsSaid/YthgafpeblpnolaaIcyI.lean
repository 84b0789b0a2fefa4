/-
  The program's test for cycle sets says yes at a cycle set.
  No condition but bounds.
-/
import Derived.Test.YthgafpeblpnolaaBase3
import Derived.Test.YthgafpeblpnolaaBase
namespace Go.Proofs.Ythgafpeblpnolaa
set_option maxRecDepth 100000
set_option linter.unusedVariables false
set_option linter.unusedSimpArgs false
open Go.RowKit

theorem sqr_step {n k : Nat} {t : List (List Int)} (h : k < n) : (sqrL k t ++ List.replicate (n - k) 0).set k (cyV t k k) = sqrL (k + 1) t ++ List.replicate (n - (k + 1)) 0 := by
  rw [sqrL_succ, List.set_append_right _ _ (by rw [sqrL_len]; exact Nat.le_refl _), sqrL_len, Nat.sub_self]
  have : n - k = (n - (k + 1)) + 1 := by omega
  rw [this, List.replicate_succ, List.set_cons_zero]
  simp
set_option maxHeartbeats 4000000 in
theorem squaresOf_any (n : Nat) (a : Option Addr) (c : Nat) (t : List (List Int)) (w : World) (h1 : Tbl w a n t) (hs : Sq n t) (hn1 : 1 ≤ n) (hn : n ≤ 12) :
    Calls Try.prog 43 #[rAgg a n c] w fun e w' => ∃ a' c', e = .returned (.slice a' n c') ∧ Own w' w.heap.size a' n c' (sqrL n t) ∧ Below w.heap.size w w' := by
  obtain ⟨b, off, A, O, C, rfl, G0⟩ := h1.grid hs hn1
  have HS := Lib.hid hs
  clear h1 hs
  obtain ⟨w0, hw0⟩ : ∃ w0, w.alloc (.cells #[.slice (some ⟨b, off, none⟩) n c] 43) = w0 := ⟨_, rfl⟩
  have hB0 : Below w.heap.size w w0 := by rw [← hw0]; exact below_al (Below.refl _ _) _
  have hA : Loc w0 w.heap.size #[.slice (some ⟨b, off, none⟩) n c] 43 := by rw [← hw0]; exact Loc.new w rfl _ _
  have hz0 : w0.heap.size = w.heap.size + 1 := by rw [← hw0]; simp
  have lA := hA.one
  go_enter Try.func43, Try.ntmps43
  go_wp2_with (at_make; refine make1 rfl rfl rfl rfl (by omega) ?_; intro w1 ho hs hb)
  try rw [hw0] at ho hs hb
  have hB1 := below_th hB0 hb
  have hLL : ∀ wr, Below w0.heap.size w0 wr → wr.cell? ⟨w.heap.size, 0, none⟩ = some (.slice (some ⟨b, off, none⟩) n c) ∧ wr.frozen? ⟨w.heap.size, 0, none⟩ = false := fun wr h => (hA.below h hA.lt).one
  rw [hz0] at ho hs hb hLL
  have HLL := Lib.hid hLL
  clear hw0 hz0 hLL hA
  go_loopw [11] (fun i wr => ∃ (k : Nat), k ≤ n ∧ i = .int .i64 k ∧ Own wr (w.heap.size + 1) (some ⟨w.heap.size + 1, 0, none⟩) n n (sqrL k t ++ List.replicate (n - k) 0) ∧ Below w.heap.size w wr ∧ Below (w.heap.size + 1) w0 wr) (fun i _ => n - (intOf i).toNat)
  case atStart => exact ⟨0, Nat.zero_le _, rfl, by simpa [sqrL] using ho, hB1, hb⟩
  case round =>
    clear ho hB1
    obtain ⟨k, hk, rfl, ho, hq, hq0⟩ := hrel
    have lA := HLL.out wr hq0
    by_cases hlt : k < n
    · have hs := ho.set k (cyV t k k)
      rw [sqr_step hlt] at hs
      have hcf := ho.cells.2.2 k
      have hcc := ho.cells.2.1 k hlt
      obtain ⟨g1, g2⟩ := (G0.below hq).look hlt hlt
      have hv : cyV t k k = ((tv t k k : Nat) : Int) := by unfold cyV; rw [HS.out.val hlt hlt]
      rw [hv] at hs
      obtain ⟨v, HV⟩ : ∃ v, Hid (tv t k k = v) := ⟨_, rfl⟩
      rw [HV.out] at hs g2
      have HSS := Lib.hid hs; clear hs hv
      have i1 : (0 : Int) ≤ (k : Int) := by omega
      have i2 : (k : Int) < (n : Int) := by omega
      have hne : (⟨w.heap.size, 0, none⟩ : Addr).block ≠ (⟨w.heap.size + 1, k, none⟩ : Addr).block := by show w.heap.size ≠ w.heap.size + 1; omega
      go_wp2
      go_roundw
      case rel => exact ⟨k + 1, by omega, by go_num, HSS.out, hq.setCell (by show w.heap.size ≤ w.heap.size + 1; omega) _, hq0.setCell (Nat.le_refl _) _⟩
      case measure => simp [intOf]; omega
    · obtain rfl : k = n := by omega
      go_wp2
      go_ret
      rw [Nat.sub_self, List.replicate_zero, List.append_nil] at ho
      exact ⟨_, _, rfl, ho.mono (Nat.le_succ _), hq⟩

set_option maxHeartbeats 8000000 in
theorem cycleFault_ok (n : Nat) (a : Option Addr) (c : Nat) (t : List (List Int)) (w : World) (h1 : Tbl w a n t) (hf : Sq n t) (hn1 : 1 ≤ n) (hn : n ≤ 12) (hc : cyfOk n t = true) :
    Calls Try.prog 44 #[.slice a n c] w fun e w' => e = .returned (.slice none 0 0) ∧ Below w.heap.size w w' := by
  obtain ⟨bf, of, A, O, C, rfl, gf⟩ := h1.grid hf hn1
  have HC : Hid (∀ x y z, x < n → y < n → z < n → tv t (tv t x y) (tv t x z) = tv t (tv t y x) (tv t y z)) := Lib.hid fun x y z hx hy hz => by
    have q := List.all_eq_true.1 (List.all_eq_true.1 (List.all_eq_true.1 hc x (List.mem_range.2 hx)) y (List.mem_range.2 hy)) z (List.mem_range.2 hz)
    have q := of_decide_eq_true q
    have v : ∀ u v, u < n → v < n → cyV t u v = ((tv t u v : Nat) : Int) := fun u v hu hv => by unfold cyV; exact hf.val hu hv
    rw [v x y hx hy, v x z hx hz, v y x hy hx, v y z hy hz, Int.toNat_natCast, Int.toNat_natCast, Int.toNat_natCast, Int.toNat_natCast, v _ _ (hf.lt hx hy) (hf.lt hx hz), v _ _ (hf.lt hy hx) (hf.lt hy hz)] at q
    exact Int.ofNat.inj q
  clear h1 hc
  go_enter Try.func44, Try.ntmps44
  go_wp2
  go_loopw [10] (fun i wr => ∃ k : Nat, k ≤ n ∧ i = .int .i64 k ∧ ∃ m, wr = w.drewN m) (fun i _ => n - (intOf i).toNat)
  case atStart => exact ⟨0, Nat.zero_le _, rfl, 0, rfl⟩
  case round =>
    obtain ⟨x, hx, rfl, m1, rfl⟩ := hrel
    by_cases hlt : x < n
    · go_wp2
      go_loopw [14] (fun i wr => ∃ k : Nat, k ≤ n ∧ i = .int .i64 k ∧ ∃ m, wr = w.drewN m) (fun i _ => n - (intOf i).toNat)
      case atStart => exact ⟨0, Nat.zero_le _, rfl, m1, rfl⟩
      case round =>
        obtain ⟨y, hy, rfl, m2, rfl⟩ := hrel
        by_cases hlty : y < n
        · go_wp2
          go_loopw [18] (fun i wr => ∃ k : Nat, k ≤ n ∧ i = .int .i64 k ∧ ∃ m, wr = w.drewN m) (fun i _ => n - (intOf i).toNat)
          case atStart => exact ⟨0, Nat.zero_le _, rfl, m2, rfl⟩
          case round =>
            obtain ⟨z, hz, rfl, m3, rfl⟩ := hrel
            by_cases hltz : z < n
            · have l1 := hf.lt hlt hlty
              have l2 := hf.lt hlt hltz
              have l3 := hf.lt hlty hlt
              have l4 := hf.lt hlty hltz
              obtain ⟨r1, k1⟩ := gf.look hlt hlty
              have k2 := gf.cell _ _ hlt hltz
              obtain ⟨r3, k3⟩ := gf.look hlty hlt
              have k4 := gf.cell _ _ hlty hltz
              obtain ⟨r5, k5⟩ := gf.look l1 l2
              obtain ⟨r6, k6⟩ := gf.look l3 l4
              have hE := HC.out x y z hlt hlty hltz
              rw [hE] at k5
              generalize tv t x y = q1 at *
              generalize tv t x z = q2 at *
              generalize tv t y x = q3 at *
              generalize tv t y z = q4 at *
              generalize tv t q3 q4 = A1 at *
              clear hE gf hf
              have u1 : ((A1 : Int) != (A1 : Int)) = false := by simp
              have j1 : (x : Int) < (n : Int) := by omega
              have j2 : (y : Int) < (n : Int) := by omega
              have j3 : (z : Int) < (n : Int) := by omega
              have j4 : (q1 : Int) < (n : Int) := by omega
              have j5 : (q2 : Int) < (n : Int) := by omega
              have j6 : (q3 : Int) < (n : Int) := by omega
              have j7 : (q4 : Int) < (n : Int) := by omega
              have z1 : (0 : Int) ≤ (x : Int) := by omega
              have z2 : (0 : Int) ≤ (y : Int) := by omega
              have z3 : (0 : Int) ≤ (z : Int) := by omega
              have z4 : (0 : Int) ≤ (q1 : Int) := by omega
              have z5 : (0 : Int) ≤ (q2 : Int) := by omega
              have z6 : (0 : Int) ≤ (q3 : Int) := by omega
              have z7 : (0 : Int) ≤ (q4 : Int) := by omega
              go_wp2
              go_quiet (fail)
              go_wp2
              go_roundw
              case rel => exact ⟨z + 1, by omega, by go_num, m3 + nq, rfl⟩
              case measure => simp [intOf]; omega
            · obtain rfl : z = n := by omega
              go_wp2
              go_roundw
              case rel => exact ⟨y + 1, by omega, by go_num, m3, rfl⟩
              case measure => simp [intOf]; omega
        · obtain rfl : y = n := by omega
          go_wp2
          go_roundw
          case rel => exact ⟨x + 1, by omega, by go_num, m2, rfl⟩
          case measure => simp [intOf]; omega
    · obtain rfl : x = n := by omega
      go_wp2
      go_ret
      exact ⟨rfl, below_drewN (Below.refl _ _) _⟩

set_option maxHeartbeats 8000000 in
theorem isCycleSet_yes (n : Nat) (a : Option Addr) (c : Nat) (t : List (List Int)) (w : World) (h1 : Tbl w a n t) (hp : RwsP n t) (hn1 : 1 ≤ n) (hn : n ≤ 12) (hc : isCyc n t = true) :
    Calls Try.prog 18 #[rAgg a n c] w fun e w' => e = .returned (.bool true) ∧ Below w.heap.size w w' := by
  have hs := hp.sq
  have HT : Hid (isTab t = true) := Lib.hid (sq_isTab hs hn1 hn)
  have HR : Hid (t.all permOk = true) := Lib.hid (List.all_eq_true.2 fun p hm => by
    obtain ⟨i, hi, rfl⟩ := List.getElem_of_mem hm
    have := hp.2 i (by rw [← hp.1]; exact hi)
    rw [List.getD_eq_getElem?_getD, List.getElem?_eq_getElem hi, Option.getD_some] at this
    exact isP_perm this)
  have HX : Hid (∀ x ∈ t, x.length ≤ 1000000) := Lib.hid fun p hm => by
    obtain ⟨i, hi, rfl⟩ := List.getElem_of_mem hm
    have := (hp.2 i (by rw [← hp.1]; exact hi)).len
    rw [List.getD_eq_getElem?_getD, List.getElem?_eq_getElem hi, Option.getD_some] at this
    omega
  unfold isCyc at hc
  rw [Bool.and_eq_true] at hc
  have HP := Lib.hid hc.1
  have HF := Lib.hid hc.2
  have HS := Lib.hid hs
  clear hc hs hp
  have hA := Loc.new w rfl #[.slice a n c] 43
  have hB := below_al (Below.refl w.heap.size w) (.cells #[.slice a n c] 43)
  have lA := hA.one
  go_enter Try.func18, Try.ntmps18
  go_wp2_with fail
  refine (isTable_any a n c t _ (h1.below hB) (by omega)).mono ?_
  rintro e w1 ⟨rfl, hb1⟩
  rw [HT.out]
  have hB1 := below_th hB hb1
  have hA1 := hA.below hb1 hA.lt
  have lA1 := hA1.one
  go_wp2_with fail
  refine (permutationRows_any a n c t _ (h1.below hB1) (by omega) HX.out).mono ?_
  rintro e w2 ⟨rfl, hb2⟩
  rw [HR.out]
  have hB2 := below_th hB1 hb2
  have hA2 := hA1.below hb2 hA1.lt
  have lA2 := hA2.one
  go_wp2_with fail
  refine (squaresOf_any n a c t _ (h1.below hB2) HS.out hn1 hn).mono ?_
  rintro e w3 ⟨a3, c3, rfl, ho3, hb3⟩
  have hB3 := below_th hB2 hb3
  have hA3 := hA2.below hb3 hA2.lt
  go_wp2_with fail
  refine (isPermuted_any a3 n c3 _ _ ho3.row (by omega)).mono ?_
  rintro e w4 ⟨rfl, hb4⟩
  rw [HP.out]
  have hB4 := below_th hB3 hb4
  have hA4 := hA3.below hb4 hA3.lt
  have lA4 := hA4.one
  go_wp2_with fail
  refine (cycleFault_ok n a c t _ (h1.below hB4) HS.out hn1 hn HF.out).mono ?_
  rintro e w5 ⟨rfl, hb5⟩
  have hnil : ∀ w : World, (binOp .eql 46 (.slice none 0 0) (.slice none 0 0)).run Try.prog w = .ok (.bool true) w := fun w => rfl
  go_wp2
  go_ret
  exact ⟨rfl, below_th hB4 hb5⟩
end Go.Proofs.Ythgafpeblpnolaa
