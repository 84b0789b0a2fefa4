/-
  The laws' own small functions: equal lists of rows, lists out of the dice, sums.
  No condition but bounds on lengths.
-/
import Derived.Test.YtnlgmhckjpifiaaGreatBase4
namespace Go.Proofs.YtnlgmhckjpifiaaGreat
set_option maxRecDepth 100000
set_option linter.unusedVariables false
set_option linter.unusedSimpArgs false
open Go.RowKit

set_option maxHeartbeats 1000000 in
theorem likeRows5_any (a1 a2 : Option Addr) (n1 n2 c1 c2 : Nat) (xs ys : List (List Int)) (w : World) (h1 : Tbl w a1 n1 xs) (h2 : Tbl w a2 n2 ys) (hm : n1 ≤ 9223372036854775807) :
    Calls Tryz.prog 31 #[.slice a1 n1 c1, .slice a2 n2 c2] w fun e w' => e = .returned (.bool (decide (xs = ys))) ∧ ∃ n, w' = w.drewN n := by
  have hl1 := h1.len
  have hl2 := h2.len
  by_cases hl : n1 = n2
  · subst hl
    have HL := Lib.hid hl1; have HL2 := Lib.hid hl2; clear hl1 hl2
    have hb : ((n1 : Int) != (n1 : Int)) = false := by simp
    go_enter Tryz.func31, Tryz.ntmps31
    go_wp2
    clear hb
    go_loopw [5] (fun i wr => ∃ k : Nat, k ≤ n1 ∧ i = .int .i64 k ∧ Hid (xs.take k = ys.take k) ∧ Hid (∃ n, wr = w.drewN n)) (fun i _ => n1 - (intOf i).toNat)
    case atStart => exact ⟨0, Nat.zero_le _, rfl, by simp [Hid], ⟨0, rfl⟩⟩
    case round =>
      obtain ⟨k, hk, rfl, HT, HW⟩ := hrel
      obtain ⟨m, hm'⟩ := HW.out
      have h1' : Tbl wr a1 n1 xs := by rw [hm']; exact h1.drewN m
      have h2' : Tbl wr a2 n1 ys := by rw [hm']; exact h2.drewN m
      clear hm'
      by_cases hlt : k < n1
      · obtain ⟨b1, o1, a1', m1, c1', rfl, g1, r1, lm1⟩ := h1'.at k hlt
        obtain ⟨b2, o2, a2', m2, c2', rfl, g2, r2, lm2⟩ := h2'.at k hlt
        have hx : k < xs.length := by have := HL.out; omega
        have hy : k < ys.length := by have := HL2.out; omega
        rw [Tbl.getD hx] at r1
        rw [Tbl.getD hy] at r2
        clear h1' h2' h1 h2
        by_cases he : xs[k] = ys[k]
        · have hq : ∀ q, Calls Tryz.prog 36 #[.slice a1' m1 c1', .slice a2' m2 c2'] (wr.drewN q) fun e w' => e = .returned (.bool true) ∧ ∃ m, w' = (wr.drewN q).drewN m := fun q =>
            (likeInts_any _ _ _ _ _ _ _ _ _ (r1.drewN q) (r2.drewN q) lm1).mono fun e w' ⟨h, h'⟩ => ⟨h.trans (ret_bool (by simpa using he)), h'⟩
          have HQ := Lib.hid hq; have HE := Lib.hid he; clear hq he
          go_wp2
          go_quiet ((go_at_call 36; exact Calls.quiet_of (HQ.out _)))
          go_wp2
          go_roundw
          case rel =>
            refine ⟨k + 1, by omega, by go_num, ?_, ?_⟩
            · show xs.take (k + 1) = ys.take (k + 1)
              rw [List.take_succ_eq_append_getElem hx, List.take_succ_eq_append_getElem hy, HT.out, HE.out]
            · obtain ⟨m, hm⟩ := HW.out
              exact ⟨m + nq, by rw [hm, World.drewN_drewN]⟩
          case measure => simp [intOf]; omega
        · have hq : ∀ q, Calls Tryz.prog 36 #[.slice a1' m1 c1', .slice a2' m2 c2'] (wr.drewN q) fun e w' => e = .returned (.bool false) ∧ ∃ m, w' = (wr.drewN q).drewN m := fun q =>
            (likeInts_any _ _ _ _ _ _ _ _ _ (r1.drewN q) (r2.drewN q) lm1).mono fun e w' ⟨h, h'⟩ => ⟨h.trans (ret_bool (by simpa using he)), h'⟩
          have hne : ¬ xs = ys := by rintro rfl; exact he rfl
          have HQ := Lib.hid hq; have HE := Lib.hid hne; clear hq he hne
          go_wp2
          go_quiet ((go_at_call 36; exact Calls.quiet_of (HQ.out _)))
          go_wp2
          go_ret
          obtain ⟨m, hm⟩ := HW.out
          exact ⟨ret_bool (by simp [HE.out]), m + nq, by rw [hm, World.drewN_drewN]⟩
      · obtain rfl : k = n1 := by omega
        clear h1' h2' h1 h2
        go_wp2
        go_ret
        refine ⟨ret_bool ?_, HW.out⟩
        have := HT.out
        rw [List.take_of_length_le (by have := HL.out; omega), List.take_of_length_le (by have := HL2.out; omega)] at this
        simp [this]
  · have hb : ((n1 : Int) != (n2 : Int)) = true := by simp; omega
    have hne : ¬ xs = ys := by rintro rfl; omega
    clear hl1 hl2
    go_enter Tryz.func31, Tryz.ntmps31
    go_wp2
    go_ret
    exact ⟨ret_bool (by simp [hne]), 0, rfl⟩


theorem likeRows5_same (a1 a2 : Option Addr) (n1 n2 c1 c2 : Nat) (xs : List (List Int)) (w : World) (h1 : Tbl w a1 n1 xs) (h2 : Tbl w a2 n2 xs) (hm : n1 ≤ 9223372036854775807) :
    Calls Tryz.prog 31 #[.slice a1 n1 c1, .slice a2 n2 c2] w fun e w' => e = .returned (.bool true) ∧ Below w.heap.size w w' :=
  (likeRows5_any a1 a2 n1 n2 c1 c2 xs xs w h1 h2 hm).mono fun e w' ⟨he, m, hw⟩ => ⟨he.trans (ret_bool (by simp)), by rw [hw]; exact below_drewN (Below.refl _ _) m⟩
theorem Dic.keepB {w w' : World} {b B : Nat} (h : Dic w b) (hb : Below B w w') (hlt : b < B) : Dic w' b := by
  obtain ⟨a, n, c, xs, i, g, h1, h2, h3, h4, hB, hg, hL⟩ := h
  refine ⟨a, n, c, xs, i, g, h1, h2, h3, h4, ⟨hB.1, fun j hj => ?_, hB.2.2⟩, hg, hL.below hb hlt⟩
  obtain ⟨q, off, e1, e2, e3⟩ := hB.2.1 j hj
  exact ⟨q, off, e1, Nat.lt_of_lt_of_le e2 hb.size, (hb.cell (p := ⟨q, off + j, none⟩) (by have := hg (by omega) q off e1; show q < B; omega)).trans e3⟩
theorem Dic.setneD {w : World} {b : Nat} (h : Dic w b) {p : Addr} (hp : b < p.block) (u : Value) : Dic (w.setCell p u) b := h.keepB (below_setne (Below.refl (b + 1) w) (by omega) u) (by omega)

set_option maxHeartbeats 4000000 in
theorem list5_ok (b N : Nat) (m : Int) (w : World) (h : Dic w b) (hm : I64 m) (hN : N ≤ 1000000) :
    Calls Tryz.prog 20 #[.pointer (some ⟨b, 0, none⟩), .int .i64 N, .int .i64 m] w fun e w' => ∃ a c xs, e = .returned (.slice a N c) ∧ (1 ≤ m → ∀ x ∈ xs, 0 ≤ x ∧ x < m) ∧ (m < 1 → ∀ x ∈ xs, x = 0) ∧ Own w' w.heap.size a N c xs ∧ Dic w' b ∧ w.grownBy w' (some b) := by
  have hlt := h.lt
  go_enter Tryz.func20, Tryz.ntmps20
  have hO := Own.fresh w rfl
  have hd := h.below (below_al (Below.refl w.heap.size w) (.cells #[] 2))
  have hG := World.grownBy_alloc w (.cells #[] 2) (some b)
  go_wp2
  go_loopw [1, 7] (fun z o wr => ∃ (j : Nat) (a : Option Addr) (c : Nat) (xs : List Int), j ≤ N ∧ z = .int .i64 ((N : Int) - (j : Int)) ∧ o = .slice a j c ∧ Hid ((1 ≤ m → ∀ x ∈ xs, 0 ≤ x ∧ x < m) ∧ (m < 1 → ∀ x ∈ xs, x = 0)) ∧ Own wr w.heap.size a j c xs ∧ Dic wr b ∧ w.grownBy wr (some b)) (fun z _ _ => (intOf z).toNat)
  case atStart => exact ⟨0, _, 0, [], Nat.zero_le _, by go_num, rfl, Lib.hid ⟨fun _ x hx => (by cases hx), fun _ x hx => (by cases hx)⟩, hO, hd, hG⟩
  case round =>
    clear hO hd hG
    obtain ⟨j, a, c, xs, hj, rfl, rfl, HX, ho, hd, hG⟩ := hrel
    obtain ⟨V, rfl⟩ : ∃ V : World, V = wr := ⟨_, rfl⟩
    have hzV := hG.size
    obtain ⟨k, hk⟩ : ∃ k : Nat, (N : Int) - (j : Int) = (k : Int) := ⟨N - j, by omega⟩
    rw [hk]
    by_cases hlt2 : 0 < k
    · have hk0 : (0 : Int) < (k : Int) := by omega
      have hwk : IntKind.i64.wrap ((k : Int) - 1) = (k : Int) - 1 := IntWalk.i64_in _ (by omega)
      have HK := Lib.hid hk
      clear hk
      go_wp2_with fail
      refine (below_ok b m _ hd hm).mono ?_
      rintro e w7 ⟨y, rfl, hy1, hy2, hd7, hg7⟩
      have ho7 := ho.grown hg7 (fun g e => by have := ho.lo g e; simp; omega)
      have hz7 := hg7.size
      have hG7 := grown_trans hG hg7
      have HY := Lib.hid (And.intro hy1 hy2)
      clear hy1 hy2 hd hG ho
      have hjb : j + 1 ≤ 1000000000000 := by have := HK.out; omega
      go_wp2_with (at_builtin; refine app1 rfl rfl ho7 rfl rfl hjb (by omega) ?_; intro g' cc w8 hO8 hg8 hs8 hb8)
      go_roundw
      case rel =>
        have hkk := HK.out
        refine ⟨j + 1, _, cc, _, by omega, by congr 1; omega, rfl, Lib.hid ⟨fun q x hx => ?_, fun q x hx => ?_⟩, hO8, hd7.keepB hb8 (by omega), grown_below hG7 hb8 (Nat.le_refl _)⟩
        · rcases List.mem_append.1 hx with hx | hx
          · exact HX.out.1 q x hx
          · rw [List.mem_singleton.1 hx]; exact HY.out.2 q
        · rcases List.mem_append.1 hx with hx | hx
          · exact HX.out.2 q x hx
          · rw [List.mem_singleton.1 hx]; exact HY.out.1 q
      case measure => simp [intOf]; omega
    · obtain rfl : k = 0 := by omega
      obtain rfl : j = N := by omega
      clear hk
      go_wp2
      go_ret
      exact ⟨_, c, xs, rfl, HX.out.1, HX.out.2, ho, hd, hG⟩

theorem sum_take_succ {xs : List Int} {k : Nat} (h : k < xs.length) : (xs.take (k + 1)).sum = (xs.take k).sum + xs.getD k 0 := by
  rw [List.take_succ_eq_append_getElem h, List.sum_append, List.getD_eq_getElem?_getD, List.getElem?_eq_getElem h]; simp
theorem sum_bd {xs : List Int} {B : Int} (hx : ∀ x ∈ xs, 0 ≤ x ∧ x ≤ B) : 0 ≤ xs.sum ∧ xs.sum ≤ xs.length * B := by
  induction xs with
  | nil => simp
  | cons x xs ih =>
    have h1 := hx x (by simp)
    have h2 := ih fun y hy => hx y (by simp [hy])
    rw [List.sum_cons, List.length_cons]
    have : ((xs.length + 1 : Nat) : Int) * B = xs.length * B + B := by rw [Int.natCast_add, Int.add_mul]; simp
    omega
set_option maxHeartbeats 2000000 in
theorem sum_any (a : Option Addr) (n c : Nat) (xs : List Int) (w : World) (h : Row w a n xs) (hm : n ≤ 1000000000) (hx : ∀ x ∈ xs, 0 ≤ x ∧ x ≤ 1000000000) :
    Calls Tryz.prog 32 #[.slice a n c] w fun e w' => e = .returned (.int .i64 xs.sum) ∧ w = w' := by
  have hl := h.len
  go_enter Tryz.func32, Tryz.ntmps32
  go_wp2
  have HL := Lib.hid hl
  clear hl
  go_loopw [3, 4] (fun s i wr => ∃ k : Nat, k ≤ n ∧ i = .int .i64 k ∧ s = .int .i64 (xs.take k).sum ∧ wr = w) (fun _ i _ => n - (intOf i).toNat)
  case atStart => exact ⟨0, Nat.zero_le _, rfl, by simp, by first | trivial | rfl⟩
  case round =>
    obtain ⟨k, hk, rfl, rfl, rfl⟩ := hrel
    by_cases hlt : k < n
    · have hkl : k < xs.length := by have := HL.out; omega
      obtain ⟨b, off, rfl, hc⟩ := h.at k hlt
      have hb1 := sum_bd (xs := xs.take k) (B := 1000000000) fun x hx' => hx x (List.mem_of_mem_take hx')
      have hb2 := hx (xs.getD k 0) (by rw [List.getD_eq_getElem?_getD, List.getElem?_eq_getElem hkl]; exact List.getElem_mem hkl)
      have hlen : ((xs.take k).length : Int) ≤ 1000000000 := by rw [List.length_take]; omega
      have hmul : ((xs.take k).length : Int) * 1000000000 ≤ 1000000000 * 1000000000 := Int.mul_le_mul_of_nonneg_right hlen (by omega)
      have hs := sum_take_succ hkl
      have hgd : xs.getD k 0 = xs[k] := by rw [List.getD_eq_getElem?_getD, List.getElem?_eq_getElem hkl]; rfl
      try rw [hgd] at hc
      rw [hgd] at hb2 hs
      obtain ⟨X, hX⟩ : ∃ X, xs[k] = X := ⟨_, rfl⟩
      rw [hX] at hb2 hs hc
      obtain ⟨T, hT⟩ : ∃ T, (xs.take k).sum = T := ⟨_, rfl⟩
      rw [hT] at hs hb1 ⊢
      have hw1 : IntKind.i64.wrap (T + X) = T + X := IntWalk.i64_in _ (by omega)
      have HS := Lib.hid hs
      clear hs hgd hX hT h hx
      go_wp2
      go_roundw
      case rel => exact ⟨k + 1, by omega, by go_num, by rw [HS.out], by first | trivial | rfl⟩
      case measure => simp [intOf]; omega
    · obtain rfl : k = n := by omega
      go_wp2
      go_ret
      exact ⟨ret_int (by rw [List.take_of_length_le (by have := HL.out; omega)]), by first | trivial | rfl⟩
end Go.Proofs.YtnlgmhckjpifiaaGreat
