/-
  Walks and plain laws of this seat, some texts in one.
  No condition but bounds on lengths.
-/
import Derived.Test.YtkjpkdmnjbjjaaaGreatPq9
import Derived.Test.YtkjpkdmnjbjjaaaGreatPq35
import Derived.Test.YtkjpkdmnjbjjaaaGreatPq6
import Derived.Test.YtkjpkdmnjbjjaaaGreatPq7
import Derived.Test.YtkjpkdmnjbjjaaaGreatPq5
import Derived.Test.YtkjpkdmnjbjjaaaGreatPq8
import Derived.Shelf.Abstract
import Derived.Test.YtkjpkdmnjbjjaaaGreatPq1
import Derived.Test.YtkjpkdmnjbjjaaaGreatPq3
import Derived.Test.YtkjpkdmnjbjjaaaGreatPq2
import Derived.BigRegion
namespace Go.Proofs.YtkjpkdmnjbjjaaaGreat
set_option linter.unusedVariables false
set_option linter.unusedSimpArgs false
set_option maxRecDepth 100000
open Go.RowKit
def Dic (w : World) (b : Nat) : Prop := ∃ (a : Option Addr) (n c : Nat) (xs : List Int) (i : Nat) (h : Int), n ≤ 9223372036854775807 ∧ i ≤ n ∧ 0 ≤ h ∧ h < 18446744073709551616 ∧ Bts w a n xs ∧ (0 < n → ∀ g o, a = some ⟨g, o, none⟩ → g < b) ∧
  Loc w b #[.slice a n c, .int .i64 i, .int .u64 h] 99
theorem Dic.lt {w : World} {b : Nat} (h : Dic w b) : b < w.heap.size := by obtain ⟨a, n, c, xs, i, h, _, _, _, _, _, _, hL⟩ := h; exact hL.lt
theorem Dic.below {w w' : World} {b : Nat} (h : Dic w b) (hb : Below w.heap.size w w') : Dic w' b := by
  obtain ⟨a, n, c, xs, i, h, h1, h2, h3, h4, hB, hg, hL⟩ := h
  exact ⟨a, n, c, xs, i, h, h1, h2, h3, h4, hB.below hb, hg, hL.below hb hL.lt⟩
set_option maxHeartbeats 2000000 in
theorem below_ok (b : Nat) (n : Int) (w : World) (h : Dic w b) (hn : I64 n) :
    Calls Tryz.prog 15 #[.pointer (some ⟨b, 0, none⟩), .int .i64 n] w fun e w' => ∃ x, e = .returned (.int .i64 x) ∧ (n < 1 → x = 0) ∧ (1 ≤ n → 0 ≤ x ∧ x < n) ∧ Dic w' b ∧ w.grownBy w' (some b) := by
  obtain ⟨a, m, c, xs, i, g, h1, h2, h3, h4, hB, hg, hL⟩ := h
  by_cases hn1 : n < 1
  · go_enter Tryz.func15, Tryz.ntmps15
    go_wp2
    go_ret
    exact ⟨_, rfl, fun _ => rfl, fun h => absurd h (by omega), ⟨a, m, c, xs, i, g, h1, h2, h3, h4, hB, hg, hL⟩, grown_refl _ _⟩
  · have lL := hL.three
    obtain ⟨hn2, hn3⟩ := hn
    have hn4 : 1 ≤ n := by omega
    clear hn1
    go_enter Tryz.func15, Tryz.ntmps15
    go_wp2
    obtain ⟨G, HG⟩ : ∃ G, Hid (IntKind.u64.wrap (IntKind.u64.wrap (g * 6364136223846793005) + 1442695040888963407) = G) := ⟨_, rfl⟩
    have hG := u64_rng (IntKind.u64.wrap (g * 6364136223846793005) + 1442695040888963407)
    rw [HG.out] at hG
    rw [HG.out]
    obtain ⟨hG1, hG2⟩ := hG
    obtain ⟨hX1, hX2⟩ := mask24 G hG1 hG2
    obtain ⟨X, HX⟩ : ∃ X, Hid (wrap64 (bits BinOp.and IntKind.u64 (G / 8589934592) 16777215) = X) := ⟨_, rfl⟩
    rw [HX.out] at hX1 hX2
    rw [HX.out]
    have hL2 := hL.set 2 (.int .u64 G)
    have lL2 := hL2.three
    have hg2 := grown_set (grown_refl w (some b)) (p := ⟨b, 2, none⟩) (.inl rfl) (.int .u64 G)
    have hB2 : Bts (w.setCell ⟨b, 2, none⟩ (.int .u64 G)) a m xs := ⟨hB.1, fun j hj => by
      obtain ⟨q, off, e1, e2, e3⟩ := hB.2.1 j hj
      exact ⟨q, off, e1, by rw [size_set]; exact e2, cell_setne e3 (by have := hg (by omega) q off e1; simp; omega) _⟩, hB.2.2⟩
    generalize w.setCell ⟨b, 2, none⟩ (.int .u64 G) = w2 at *
    by_cases hi : i < m
    · obtain ⟨q, off, rfl, hc⟩ := hB2.at i hi
      have hxr := hB2.2.2 i
      obtain ⟨V, HV⟩ : ∃ V, Hid (xs.getD i 0 = V) := ⟨_, rfl⟩
      rw [HV.out] at hc hxr
      obtain ⟨v1, v2⟩ := hxr
      have s1 : (0 : Int) ≤ (i : Int) := by omega
      have s2 : (i : Int) < (m : Int) := by omega
      go_quiet (fail)
      go_wp2
      have s3 : IntKind.i64.wrap (X + V) = X + V := IntWalk.i64_in _ ⟨by omega, by omega⟩
      have s4 : IntKind.i64.wrap V = V := IntWalk.i64_in _ ⟨by omega, by omega⟩
      go_quiet (fail)
      clear s3 s4
      go_wp2
      go_ret
      rename_i nq0
      have hL3 := (hL2.drewN (nq0 + nq)).set 1 (.int .i64 (i + 1))
      refine ⟨_, rfl, fun h => absurd h (by omega), fun _ => ⟨Int.emod_nonneg _ (by omega), Int.emod_lt_of_pos _ (by omega)⟩, ?_, grown_set (grown_drewN hg2 _) (.inl rfl) _⟩
      refine ⟨some ⟨q, off, none⟩, m, c, xs, i + 1, G, h1, by omega, hG1, hG2, ?_, hg, hL3⟩
      exact ⟨hB2.1, fun j hj => by
        obtain ⟨q', off', e1, e2, e3⟩ := hB2.2.1 j hj
        exact ⟨q', off', e1, by rw [size_set]; exact e2, cell_setne (w := w2.drewN _) e3 (by have := hg (by omega) q' off' e1; simp; omega) _⟩, hB2.2.2⟩
    · go_quiet (fail)
      go_wp2
      go_ret
      refine ⟨_, rfl, fun h => absurd h (by omega), fun _ => ⟨Int.emod_nonneg _ (by omega), Int.emod_lt_of_pos _ (by omega)⟩, ?_, grown_drewN hg2 _⟩
      exact ⟨a, m, c, xs, i, G, h1, h2, hG1, hG2, hB2.below (below_drewN (Below.refl _ _) _), hg, hL2.drewN _⟩
set_option maxHeartbeats 2000000 in
theorem roll_ok (a : Option Addr) (n c : Nat) (xs : List Int) (s : Int) (w : World) (h : Bts w a n xs) (hn : n ≤ 9223372036854775807) :
    Calls Tryz.prog 14 #[.slice a n c, .int .u64 s] w fun e w' => ∃ b, e = .returned (.pointer (some ⟨b, 0, none⟩)) ∧ w.heap.size ≤ b ∧ Dic w' b ∧ Below w.heap.size w w' := by
  go_enter Tryz.func14, Tryz.ntmps14
  go_wp2
  go_loopw [6] (fun i wr => ∃ (k : Nat) (g : Int), k ≤ n ∧ i = .int .i64 k ∧ 0 ≤ g ∧ g < 18446744073709551616 ∧ Loc wr w.heap.size #[.slice a n c, .int .i64 0, .int .u64 g] 99 ∧ Below w.heap.size w wr) (fun i _ => n - (intOf i).toNat)
  case atStart => exact ⟨0, _, by omega, rfl, (u64_rng _).1, (u64_rng _).2, Loc.new w rfl _ _, below_al (Below.refl _ _) _⟩
  case round =>
    obtain ⟨k, g, hk, rfl, hg1, hg2, hL, hq⟩ := hrel
    by_cases hlt : k < n
    · obtain ⟨q, off, rfl, hc⟩ := (h.below hq).at k hlt
      obtain ⟨V, HV⟩ : ∃ V, Hid (xs.getD k 0 = V) := ⟨_, rfl⟩
      have hxr := h.2.2 k
      rw [HV.out] at hc hxr
      obtain ⟨v1, v2⟩ := hxr
      have s1 : (0 : Int) ≤ (k : Int) := by omega
      have s2 : (k : Int) < (n : Int) := by omega
      have lL := hL.three
      go_wp2
      refine wp_region_still_tail 15 (by kernel_rfl) (by kernel_rfl) ?_
      change wpStill _ _ wr.drew (fun a' => wpList _ _ _ _ a' wr.drew) _ _
      replace hL := hL.drew
      replace lL := hL.three
      replace hc : wr.drew.cell? ⟨q, off + k, none⟩ = some (.int .u8 V) := hc
      replace hq : Below w.heap.size w wr.drew := hq.drew
      generalize wr.drew = w2 at *
      simp only [List.take_succ_cons, List.take_zero, List.drop_succ_cons, List.drop_zero]
      repeat still_step
      refine wpStill_nil ?_
      go_wp2
      go_roundw
      case rel =>
        have hu := u64_rng (IntKind.u64.wrap (IntKind.u64.wrap (g * 1099511628211) + V) + 5)
        exact ⟨k + 1, _, by omega, by go_num, hu.1, hu.2, hL.set 2 _, hq.setCell (Nat.le_refl _) _⟩
      case measure => simp [intOf]; omega
    · go_wp2
      go_ret
      exact ⟨_, rfl, Nat.le_refl _, ⟨a, n, c, xs, 0, g, hn, by omega, hg1, hg2, h.below hq, fun hn q o e => by obtain ⟨b', o', e1, e2, _⟩ := h.2.1 0 hn; rw [e1] at e; cases e; exact e2, hL⟩, hq⟩
end Go.Proofs.YtkjpkdmnjbjjaaaGreat

namespace Go.Proofs.YtkjpkdmnjbjjaaaGreat
set_option maxRecDepth 100000
set_option linter.unusedVariables false
set_option linter.unusedSimpArgs false
open Go.RowKit
theorem Dic.keepB {w w' : World} {b B : Nat} (h : Dic w b) (hb : Below B w w') (hlt : b < B) : Dic w' b := by
  obtain ⟨a, n, c, xs, i, g, h1, h2, h3, h4, hB, hg, hL⟩ := h
  refine ⟨a, n, c, xs, i, g, h1, h2, h3, h4, ⟨hB.1, fun j hj => ?_, hB.2.2⟩, hg, hL.below hb hlt⟩
  obtain ⟨q, off, e1, e2, e3⟩ := hB.2.1 j hj
  exact ⟨q, off, e1, Nat.lt_of_lt_of_le e2 hb.size, (hb.cell (p := ⟨q, off + j, none⟩) (by have := hg (by omega) q off e1; show q < B; omega)).trans e3⟩
set_option maxHeartbeats 4000000 in
theorem list5_ok (b N : Nat) (m : Int) (w : World) (h : Dic w b) (hm : I64 m) (hN : N ≤ 1000000) :
    Calls Tryz.prog 17 #[.pointer (some ⟨b, 0, none⟩), .int .i64 N, .int .i64 m] w fun e w' => ∃ a c xs, e = .returned (.slice a N c) ∧ (1 ≤ m → ∀ x ∈ xs, 0 ≤ x ∧ x < m) ∧ (m < 1 → ∀ x ∈ xs, x = 0) ∧ Own w' w.heap.size a N c xs ∧ Dic w' b ∧ w.grownBy w' (some b) := by
  have hlt := h.lt
  go_enter Tryz.func17, Tryz.ntmps17
  have hO := Own.fresh w rfl
  have hd := h.below (below_al (Below.refl w.heap.size w) (.cells #[] 2))
  have hG := World.grownBy_alloc w (.cells #[] 2) (some b)
  go_wp2
  go_loopw [1, 7] (fun z o wr => ∃ (j : Nat) (a : Option Addr) (c : Nat) (xs : List Int), j ≤ N ∧ z = .int .i64 ((N : Int) - (j : Int)) ∧ o = .slice a j c ∧ Hid ((1 ≤ m → ∀ x ∈ xs, 0 ≤ x ∧ x < m) ∧ (m < 1 → ∀ x ∈ xs, x = 0)) ∧ Own wr w.heap.size a j c xs ∧ Dic wr b ∧ w.grownBy wr (some b)) (fun z _ _ => (intOf z).toNat)
  case atStart => exact ⟨0, _, 0, [], Nat.zero_le _, by go_num, rfl, Lib.hid ⟨fun _ x hx => (by cases hx), fun _ x hx => (by cases hx)⟩, hO, hd, hG⟩
  case round =>
    clear hO hd hG
    obtain ⟨j, a, c, xs, hj, rfl, rfl, HX, ho, hd, hG⟩ := hrel
    obtain ⟨V, rfl⟩ : ∃ V : World, V = wr := ⟨_, rfl⟩
    have hzV := hG.size
    obtain ⟨k, hk⟩ : ∃ k : Nat, (N : Int) - (j : Int) = (k : Int) := ⟨N - j, by omega⟩
    rw [hk]
    by_cases hlt2 : 0 < k
    · have hk0 : (0 : Int) < (k : Int) := by omega
      have hwk : IntKind.i64.wrap ((k : Int) - 1) = (k : Int) - 1 := IntWalk.i64_in _ (by omega)
      have HK := Lib.hid hk
      clear hk
      go_wp2_with fail
      refine (below_ok b m _ hd hm).mono ?_
      rintro e w7 ⟨y, rfl, hy1, hy2, hd7, hg7⟩
      have ho7 := ho.grown hg7 (fun g e => by have := ho.lo g e; simp; omega)
      have hz7 := hg7.size
      have hG7 := grown_trans hG hg7
      have HY := Lib.hid (And.intro hy1 hy2)
      clear hy1 hy2 hd hG ho
      have hjb : j + 1 ≤ 1000000000000 := by have := HK.out; omega
      go_wp2_with (at_builtin; refine app1 rfl rfl ho7 rfl rfl hjb (by omega) ?_; intro g' cc w8 hO8 hg8 hs8 hb8)
      go_roundw
      case rel =>
        have hkk := HK.out
        refine ⟨j + 1, _, cc, _, by omega, by congr 1; omega, rfl, Lib.hid ⟨fun q x hx => ?_, fun q x hx => ?_⟩, hO8, hd7.keepB hb8 (by omega), grown_below hG7 hb8 (Nat.le_refl _)⟩
        · rcases List.mem_append.1 hx with hx | hx
          · exact HX.out.1 q x hx
          · rw [List.mem_singleton.1 hx]; exact HY.out.2 q
        · rcases List.mem_append.1 hx with hx | hx
          · exact HX.out.2 q x hx
          · rw [List.mem_singleton.1 hx]; exact HY.out.1 q
      case measure => simp [intOf]; omega
    · obtain rfl : k = 0 := by omega
      obtain rfl : j = N := by omega
      clear hk
      go_wp2
      go_ret
      exact ⟨_, c, xs, rfl, HX.out.1, HX.out.2, ho, hd, hG⟩
theorem sum_take_succ {xs : List Int} {k : Nat} (h : k < xs.length) : (xs.take (k + 1)).sum = (xs.take k).sum + xs.getD k 0 := by
  rw [List.take_succ_eq_append_getElem h, List.sum_append, List.getD_eq_getElem?_getD, List.getElem?_eq_getElem h]; simp
theorem sum_bd {xs : List Int} {B : Int} (hx : ∀ x ∈ xs, 0 ≤ x ∧ x ≤ B) : 0 ≤ xs.sum ∧ xs.sum ≤ xs.length * B := by
  induction xs with
  | nil => simp
  | cons x xs ih =>
    have h1 := hx x (by simp)
    have h2 := ih fun y hy => hx y (by simp [hy])
    rw [List.sum_cons, List.length_cons]
    have : ((xs.length + 1 : Nat) : Int) * B = xs.length * B + B := by rw [Int.natCast_add, Int.add_mul]; simp
    omega
set_option maxHeartbeats 2000000 in
theorem sum_any (a : Option Addr) (n c : Nat) (xs : List Int) (w : World) (h : Row w a n xs) (hm : n ≤ 1000000000) (hx : ∀ x ∈ xs, 0 ≤ x ∧ x ≤ 1000000000) :
    Calls Tryz.prog 18 #[.slice a n c] w fun e w' => e = .returned (.int .i64 xs.sum) ∧ w = w' := by
  have hl := h.len
  go_enter Tryz.func18, Tryz.ntmps18
  go_wp2
  have HL := Lib.hid hl
  clear hl
  go_loopw [3, 4] (fun s i wr => ∃ k : Nat, k ≤ n ∧ i = .int .i64 k ∧ s = .int .i64 (xs.take k).sum ∧ wr = w) (fun _ i _ => n - (intOf i).toNat)
  case atStart => exact ⟨0, Nat.zero_le _, rfl, by simp, by first | trivial | rfl⟩
  case round =>
    obtain ⟨k, hk, rfl, rfl, rfl⟩ := hrel
    by_cases hlt : k < n
    · have hkl : k < xs.length := by have := HL.out; omega
      obtain ⟨b, off, rfl, hc⟩ := h.at k hlt
      have hb1 := sum_bd (xs := xs.take k) (B := 1000000000) fun x hx' => hx x (List.mem_of_mem_take hx')
      have hb2 := hx (xs.getD k 0) (by rw [List.getD_eq_getElem?_getD, List.getElem?_eq_getElem hkl]; exact List.getElem_mem hkl)
      have hlen : ((xs.take k).length : Int) ≤ 1000000000 := by rw [List.length_take]; omega
      have hmul : ((xs.take k).length : Int) * 1000000000 ≤ 1000000000 * 1000000000 := Int.mul_le_mul_of_nonneg_right hlen (by omega)
      have hs := sum_take_succ hkl
      have hgd : xs.getD k 0 = xs[k] := by rw [List.getD_eq_getElem?_getD, List.getElem?_eq_getElem hkl]; rfl
      try rw [hgd] at hc
      rw [hgd] at hb2 hs
      obtain ⟨X, hX⟩ : ∃ X, xs[k] = X := ⟨_, rfl⟩
      rw [hX] at hb2 hs hc
      obtain ⟨T, hT⟩ : ∃ T, (xs.take k).sum = T := ⟨_, rfl⟩
      rw [hT] at hs hb1 ⊢
      have hw1 : IntKind.i64.wrap (T + X) = T + X := IntWalk.i64_in _ (by omega)
      have HS := Lib.hid hs
      clear hs hgd hX hT h hx
      go_wp2
      go_roundw
      case rel => exact ⟨k + 1, by omega, by go_num, by rw [HS.out], by first | trivial | rfl⟩
      case measure => simp [intOf]; omega
    · obtain rfl : k = n := by omega
      go_wp2
      go_ret
      exact ⟨ret_int (by rw [List.take_of_length_le (by have := HL.out; omega)]), by first | trivial | rfl⟩
end Go.Proofs.YtkjpkdmnjbjjaaaGreat

namespace Go.Proofs.YtkjpkdmnjbjjaaaGreat
set_option maxRecDepth 100000
set_option linter.unusedVariables false
set_option linter.unusedSimpArgs false
open Go.RowKit
theorem TbS.one {w : World} {b : Nat} (hb : b = w.heap.size) {a : Option Addr} {n c : Nat} {t : List (List Int)} (h : Tbl w a n t) (hn : n ≤ 9223372036854775807) (ty : TypeId) : TbS (w.alloc (.cells #[.slice a n c] ty)) (some ⟨b, 0, none⟩) 1 [t] := by
  refine ⟨rfl, fun i hi => ?_⟩
  obtain rfl : i = 0 := by omega
  exact ⟨b, 0, a, n, c, rfl, by simp; omega, (Loc.new w hb _ _).cell 0 rfl, h.alloc _, hn⟩
theorem LstQ.fresh (w : World) {b : Nat} (hb : b = w.heap.size) (ty : TypeId) : LstQ (w.alloc (.cells #[] ty)) (some ⟨b, 0, none⟩) 0 [] [] := ⟨HdR.nil _, rfl, fun i h => absurd h (by omega)⟩
theorem OwnRk.fresh (w : World) {b : Nat} (hb : b = w.heap.size) : OwnRk (w.alloc (.cells #[] 58)) w.heap.size (some ⟨b, 0, none⟩) 0 0 [] [] :=
  ⟨rfl, rfl, ownsRowRk_mk rfl (by omega) (Loc.new w hb _ _) (Nat.le_refl _) (by unfold maxLen; omega) rfl rfl, fun i h => absurd h (by omega), fun i h => absurd h (by omega), fun i j h => absurd h (by omega)⟩
end Go.Proofs.YtkjpkdmnjbjjaaaGreat

namespace Go.Proofs.YtkjpkdmnjbjjaaaGreat
set_option maxRecDepth 100000
set_option linter.unusedVariables false
set_option linter.unusedSimpArgs false
theorem Cmp.le_lt {α : Type} {c : α → α → Int} (h : Cmp c) {x y z : α} (h1 : ¬ c y x < 0) (h2 : c y z < 0) : c x z < 0 := by
  by_cases e : c x y = 0
  · rw [(h.eq _ _).1 e]; exact h2
  · exact h.trans x y z (by have := h.anti x y; omega) h2
end Go.Proofs.YtkjpkdmnjbjjaaaGreat

namespace Go.Proofs.YtkjpkdmnjbjjaaaGreat
set_option maxRecDepth 100000
set_option linter.unusedVariables false
set_option linter.unusedSimpArgs false
structure Wrk {α γ : Type} (G : List γ) (act : γ → α → α) (cp : γ → γ → γ) (S : α → Prop) : Prop where
  nd : G.Nodup
  st : ∀ t, S t → ∀ p, p ∈ G → S (act p t)
  cm : ∀ p q, p ∈ G → q ∈ G → cp p q ∈ G
  ac : ∀ p q, p ∈ G → q ∈ G → ∀ t, S t → act q (act p t) = act (cp p q) t
  un : ∃ e, e ∈ G ∧ ∀ t, S t → act e t = t
  bk : ∀ p, p ∈ G → ∃ r, r ∈ G ∧ ∀ t, S t → act r (act p t) = t
  ij : ∀ p p' q, p ∈ G → p' ∈ G → q ∈ G → cp p q = cp p' q → p = p'
section
variable {α γ : Type} {G : List γ} {act : γ → α → α} {cp : γ → γ → γ} {S : α → Prop} {c : α → α → Int}
def minL (c : α → α → Int) (b : α) (l : List α) : α := l.foldl (fun b x => if c x b < 0 then x else b) b
theorem minL_spec (hc : Cmp c) : ∀ (l : List α) (b : α), (minL c b l = b ∨ minL c b l ∈ l) ∧ ¬ c b (minL c b l) < 0 ∧ ∀ x, x ∈ l → ¬ c x (minL c b l) < 0 := by
  intro l
  induction l with
  | nil =>
    intro b
    refine ⟨.inl rfl, ?_, fun x h => by simp at h⟩
    show ¬ c b b < 0
    rw [hc.refl]; omega
  | cons x l ih =>
    intro b
    have e : minL c b (x :: l) = minL c (if c x b < 0 then x else b) l := rfl
    rw [e]
    by_cases h : c x b < 0
    · rw [if_pos h]
      obtain ⟨h1, h2, h3⟩ := ih x
      refine ⟨?_, ?_, ?_⟩
      · rcases h1 with h1 | h1
        · exact .inr (by rw [h1]; simp)
        · exact .inr (by simp [h1])
      · intro h4
        exact h2 (hc.trans _ _ _ h h4)
      · intro y hy
        rcases List.mem_cons.1 hy with r | r
        · rw [r]; exact h2
        · exact h3 y r
    · rw [if_neg h]
      obtain ⟨h1, h2, h3⟩ := ih b
      refine ⟨?_, h2, ?_⟩
      · rcases h1 with h1 | h1
        · exact .inl h1
        · exact .inr (by simp [h1])
      · intro y hy
        rcases List.mem_cons.1 hy with r | r
        · rw [r]; intro h4
          exact h2 (hc.le_lt h h4)
        · exact h3 y r
def lfm (c : α → α → Int) (act : γ → α → α) (G : List γ) (t : α) : α := minL c t (G.map fun p => act p t)
theorem lfm_at (hc : Cmp c) (hw : Wrk G act cp S) {t : α} (h : S t) : ∃ p, p ∈ G ∧ lfm c act G t = act p t := by
  rcases (minL_spec hc (G.map fun p => act p t) t).1 with e | e
  · obtain ⟨u, hu, hu2⟩ := hw.un
    exact ⟨u, hu, by unfold lfm; rw [e, hu2 t h]⟩
  · obtain ⟨p, hp, e⟩ := List.mem_map.1 e
    exact ⟨p, hp, e.symm⟩
theorem lfm_le (hc : Cmp c) {t : α} {p : γ} (hp : p ∈ G) : ¬ c (act p t) (lfm c act G t) < 0 :=
  (minL_spec hc (G.map fun p => act p t) t).2.2 _ (List.mem_map.2 ⟨p, hp, rfl⟩)
theorem lfm_act (hc : Cmp c) (hw : Wrk G act cp S) {t : α} (h : S t) {p : γ} (hp : p ∈ G) : lfm c act G (act p t) = lfm c act G t := by
  obtain ⟨q, hq, e1⟩ := lfm_at hc hw (hw.st t h p hp)
  obtain ⟨r, hr, e2⟩ := lfm_at hc hw h
  have a1 : ¬ c (lfm c act G (act p t)) (lfm c act G t) < 0 := by
    rw [e1, hw.ac p q hp hq t h]
    exact lfm_le hc (hw.cm p q hp hq)
  have a2 : ¬ c (lfm c act G t) (lfm c act G (act p t)) < 0 := by
    obtain ⟨i, hi, hb⟩ := hw.bk p hp
    have : act r t = act (cp i r) (act p t) := by
      rw [← hw.ac i r hi hr _ (hw.st t h p hp), hb t h]
    rw [e2, this]
    exact lfm_le hc (hw.cm i r hi hr)
  have := hc.anti (lfm c act G (act p t)) (lfm c act G t)
  exact (hc.eq _ _).1 (by omega)
theorem lfm_lfm (hc : Cmp c) (hw : Wrk G act cp S) {t : α} (h : S t) : lfm c act G (lfm c act G t) = lfm c act G t := by
  obtain ⟨p, hp, e⟩ := lfm_at hc hw h
  conv => lhs; rw [e]
  exact lfm_act hc hw h hp
theorem lfm_one (hc : Cmp c) (hw : Wrk G act cp S) {t s : α} (h : S t) (hs : S s) (e : lfm c act G t = lfm c act G s) : ∃ p, p ∈ G ∧ act p t = s := by
  obtain ⟨p, hp, e1⟩ := lfm_at hc hw h
  obtain ⟨q, hq, e2⟩ := lfm_at hc hw hs
  obtain ⟨r, hr, hb⟩ := hw.bk q hq
  refine ⟨cp p r, hw.cm p r hp hr, ?_⟩
  rw [← hw.ac p r hp hr t h, ← e1, e, e2, hb s hs]
/-! ### counting -/
theorem sum_zero {β : Type} : ∀ R : List β, (R.map fun _ => 0).sum = 0 := by
  intro R
  induction R with
  | nil => rfl
  | cons a R ih => rw [List.map_cons, List.sum_cons, ih]
theorem sub_perm {β : Type} : ∀ {l m : List β}, l.Nodup → (∀ x, x ∈ l → x ∈ m) → m.length ≤ l.length → l.Perm m := by
  intro l
  induction l with
  | nil => intro m _ _ h; rw [List.eq_nil_of_length_eq_zero (Nat.le_zero.1 h)]
  | cons a l ih =>
    intro m hn hs hl
    rw [List.nodup_cons] at hn
    obtain ⟨s, t, rfl⟩ := List.append_of_mem (hs a (by simp))
    refine List.Perm.trans ?_ List.perm_middle.symm
    refine List.Perm.cons a (ih hn.2 (fun x hx => ?_) (by simp at hl ⊢; omega))
    have := hs x (by simp [hx])
    rw [List.mem_append, List.mem_cons] at this
    rw [List.mem_append]
    rcases this with h | h | h
    · exact .inl h
    · exact absurd (h ▸ hx) hn.1
    · exact .inr h
theorem count_one {β : Type} [DecidableEq β] : ∀ (R : List β) (b : β), R.Nodup → b ∈ R → (R.map fun r => if b = r then 1 else 0).sum = 1 := by
  intro R
  induction R with
  | nil => intro b _ h; simp at h
  | cons a R ih =>
    intro b hn hb
    rw [List.nodup_cons] at hn
    rw [List.map_cons, List.sum_cons]
    by_cases e : b = a
    · rw [if_pos e]
      have : (R.map fun r => if b = r then 1 else 0).sum = 0 := by
        have hz : ∀ r ∈ R, (if b = r then 1 else 0) = 0 := fun r hr => if_neg (fun e2 => hn.1 (by rw [← e, e2]; exact hr))
        rw [List.map_congr_left hz, sum_zero]
      omega
    · rw [if_neg e, ih b hn.2 (by rcases List.mem_cons.1 hb with r | r; exact absurd r e; exact r)]
theorem sum_add {β : Type} (f g : β → Nat) : ∀ R : List β, (R.map fun r => f r + g r).sum = (R.map f).sum + (R.map g).sum := by
  intro R
  induction R with
  | nil => rfl
  | cons a R ih => simp only [List.map_cons, List.sum_cons, ih]; omega
theorem part_len {β : Type} [DecidableEq β] (f : α → β) {R : List β} (hR : R.Nodup) : ∀ l : List α, (∀ x, x ∈ l → f x ∈ R) → (R.map fun r => (l.filter fun x => decide (f x = r)).length).sum = l.length := by
  intro l
  induction l with
  | nil =>
    intro _
    simp only [List.filter_nil, List.length_nil]
    exact sum_zero R
  | cons x l ih =>
    intro h
    have e : ∀ r, ((x :: l).filter fun y => decide (f y = r)).length = (if f x = r then 1 else 0) + (l.filter fun y => decide (f y = r)).length := fun r => by
      rw [List.filter_cons]
      by_cases e : f x = r
      · rw [if_pos (by simpa using e), if_pos e, List.length_cons]; omega
      · rw [if_neg (by simpa using e), if_neg e]; omega
    rw [List.map_congr_left (fun r _ => e r), sum_add, count_one R (f x) hR (h x (by simp)), ih fun y hy => h y (by simp [hy]), List.length_cons]
    omega
theorem sum_const (k : Nat) : ∀ (l : List α) (f : α → Nat), (∀ x, x ∈ l → f x = k) → (l.map f).sum = l.length * k := by
  intro l
  induction l with
  | nil => intro f _; simp
  | cons x l ih =>
    intro f h
    rw [List.map_cons, List.sum_cons, ih f fun y hy => h y (by simp [hy]), h x (by simp), List.length_cons, Nat.succ_mul]
    omega
variable [DecidableEq α]
def kpN (act : γ → α → α) (G : List γ) (t : α) : Nat := (G.filter fun p => decide (act p t = t)).length
theorem filt_perm {l m : List γ} (h : l.Perm m) (P : γ → Bool) : (l.filter P).length = (m.filter P).length := (h.filter P).length_eq
theorem kp_at (hw : Wrk G act cp S) {t : α} (h : S t) {q : γ} (hq : q ∈ G) : (G.filter fun p => decide (act p t = act q t)).length = kpN act G t := by
  have hp : (G.map fun p => cp p q).Perm G := by
    have hnd : (G.map fun p => cp p q).Nodup := by
      rw [List.nodup_iff_pairwise_ne] at *
      rw [List.pairwise_map]
      have := hw.nd
      rw [List.nodup_iff_pairwise_ne] at this
      refine List.Pairwise.imp_of_mem ?_ this
      intro a b ha hb hne e
      exact hne (hw.ij a b q ha hb hq e)
    refine sub_perm hnd (fun x hx => ?_) (by simp)
    obtain ⟨p, hp, rfl⟩ := List.mem_map.1 hx
    exact hw.cm p q hp hq
  rw [← filt_perm hp, List.filter_map, List.length_map]
  unfold kpN
  congr 1
  refine List.filter_congr fun p hp => ?_
  show decide (act (cp p q) t = act q t) = decide (act p t = t)
  rw [← hw.ac p q hp hq t h]
  apply decide_eq_decide.2
  constructor
  · intro e
    obtain ⟨r, hr, hb⟩ := hw.bk q hq
    have := congrArg (act r) e
    rwa [hb _ (hw.st t h p hp), hb t h] at this
  · intro e; rw [e]
theorem kp_pos (hw : Wrk G act cp S) {t : α} (h : S t) : 1 ≤ kpN act G t := by
  obtain ⟨e, he, hu⟩ := hw.un
  have : e ∈ G.filter fun p => decide (act p t = t) := List.mem_filter.2 ⟨he, by simpa using hu t h⟩
  exact List.length_pos_of_mem this
theorem orbits (hc : Cmp c) (hw : Wrk G act cp S) {T : List α} (hT : T.Nodup) (hs : ∀ t, t ∈ T → S t) (hcl : ∀ t, t ∈ T → ∀ p, p ∈ G → act p t ∈ T) :
    ((T.filter fun t => decide (t = lfm c act G t)).map fun t => G.length / kpN act G t).sum = T.length := by
  have hR : (T.filter fun t => decide (t = lfm c act G t)).Nodup := hT.filter _
  have hin : ∀ t, t ∈ T → lfm c act G t ∈ T.filter fun t => decide (t = lfm c act G t) := fun t ht => by
    obtain ⟨p, hp, e⟩ := lfm_at hc hw (hs t ht)
    refine List.mem_filter.2 ⟨by rw [e]; exact hcl t ht p hp, ?_⟩
    rw [lfm_lfm hc hw (hs t ht)]; simp
  rw [← part_len (lfm c act G) hR T hin]
  congr 1
  refine List.map_congr_left fun r hr => ?_
  obtain ⟨hrT, hre⟩ := List.mem_filter.1 hr
  have hre : r = lfm c act G r := by simpa using hre
  have hsr := hs r hrT
  have hO : (T.filter fun t => decide (lfm c act G t = r)).Nodup := hT.filter _
  have h1 := part_len (fun p => act p r) hO G (fun p hp => List.mem_filter.2 ⟨hcl r hrT p hp, by
    have := lfm_act hc hw hsr hp
    simp [this, ← hre]⟩)
  rw [sum_const (kpN act G r)] at h1
  · rw [← h1]
    exact Nat.mul_div_cancel _ (kp_pos hw hsr)
  · intro t ht
    obtain ⟨htT, hte⟩ := List.mem_filter.1 ht
    have hte : lfm c act G t = r := by simpa using hte
    obtain ⟨q, hq, e⟩ := lfm_one hc hw hsr (hs t htT) (by rw [← hre, hte])
    rw [← e]
    exact kp_at hw hsr hq
end
end Go.Proofs.YtkjpkdmnjbjjaaaGreat
