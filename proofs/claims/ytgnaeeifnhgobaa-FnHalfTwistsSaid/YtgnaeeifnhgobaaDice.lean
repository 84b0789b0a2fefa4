/-
  The dice of the laws: what they leave, whatever number they hand out.
  No condition but bounds.
-/
import Derived.Test.YtgnaeeifnhgobaaDraw
namespace Go.Proofs.Ytgnaeeifnhgobaa
set_option linter.unusedVariables false
set_option linter.unusedSimpArgs false
set_option maxRecDepth 100000
open Go.RowKit

/-- the dice in block b -/
def Dic (w : World) (b : Nat) : Prop := ∃ (a : Option Addr) (n c : Nat) (xs : List Int) (i : Nat) (h : Int), n ≤ 9223372036854775807 ∧ i ≤ n ∧ 0 ≤ h ∧ h < 18446744073709551616 ∧ Bts w a n xs ∧ (0 < n → ∀ g o, a = some ⟨g, o, none⟩ → g < b) ∧
  Loc w b #[.slice a n c, .int .i64 i, .int .u64 h] 80
theorem Dic.lt {w : World} {b : Nat} (h : Dic w b) : b < w.heap.size := by obtain ⟨a, n, c, xs, i, h, _, _, _, _, _, _, hL⟩ := h; exact hL.lt
theorem Dic.below {w w' : World} {b : Nat} (h : Dic w b) (hb : Below w.heap.size w w') : Dic w' b := by
  obtain ⟨a, n, c, xs, i, h, h1, h2, h3, h4, hB, hg, hL⟩ := h
  exact ⟨a, n, c, xs, i, h, h1, h2, h3, h4, hB.below hb, hg, hL.below hb hL.lt⟩

set_option maxHeartbeats 2000000 in
theorem below_ok (b : Nat) (n : Int) (w : World) (h : Dic w b) (hn : I64 n) :
    Calls Try.prog 28 #[.pointer (some ⟨b, 0, none⟩), .int .i64 n] w fun e w' => ∃ x, e = .returned (.int .i64 x) ∧ (n < 1 → x = 0) ∧ (1 ≤ n → 0 ≤ x ∧ x < n) ∧ Dic w' b ∧ w.grownBy w' (some b) := by
  obtain ⟨a, m, c, xs, i, g, h1, h2, h3, h4, hB, hg, hL⟩ := h
  by_cases hn1 : n < 1
  · go_enter Try.func28, Try.ntmps28
    go_wp2
    go_ret
    exact ⟨_, rfl, fun _ => rfl, fun h => absurd h (by omega), ⟨a, m, c, xs, i, g, h1, h2, h3, h4, hB, hg, hL⟩, grown_refl _ _⟩
  · have lL := hL.three
    obtain ⟨hn2, hn3⟩ := hn
    have hn4 : 1 ≤ n := by omega
    clear hn1
    go_enter Try.func28, Try.ntmps28
    go_wp2
    obtain ⟨G, HG⟩ : ∃ G, Hid (IntKind.u64.wrap (IntKind.u64.wrap (g * 6364136223846793005) + 1442695040888963407) = G) := ⟨_, rfl⟩
    have hG := u64_rng (IntKind.u64.wrap (g * 6364136223846793005) + 1442695040888963407)
    rw [HG.out] at hG
    rw [HG.out]
    obtain ⟨hG1, hG2⟩ := hG
    obtain ⟨hX1, hX2⟩ := mask24 G hG1 hG2
    obtain ⟨X, HX⟩ : ∃ X, Hid (wrap64 (bits BinOp.and IntKind.u64 (G / 8589934592) 16777215) = X) := ⟨_, rfl⟩
    rw [HX.out] at hX1 hX2
    rw [HX.out]
    have hL2 := hL.set 2 (.int .u64 G)
    have lL2 := hL2.three
    have hg2 := grown_set (grown_refl w (some b)) (p := ⟨b, 2, none⟩) (.inl rfl) (.int .u64 G)
    have hB2 : Bts (w.setCell ⟨b, 2, none⟩ (.int .u64 G)) a m xs := ⟨hB.1, fun j hj => by
      obtain ⟨q, off, e1, e2, e3⟩ := hB.2.1 j hj
      exact ⟨q, off, e1, by rw [size_set]; exact e2, cell_setne e3 (by have := hg (by omega) q off e1; simp; omega) _⟩, hB.2.2⟩
    generalize w.setCell ⟨b, 2, none⟩ (.int .u64 G) = w2 at *
    by_cases hi : i < m
    · obtain ⟨q, off, rfl, hc⟩ := hB2.at i hi
      have hxr := hB2.2.2 i
      obtain ⟨V, HV⟩ : ∃ V, Hid (xs.getD i 0 = V) := ⟨_, rfl⟩
      rw [HV.out] at hc hxr
      obtain ⟨v1, v2⟩ := hxr
      have s1 : (0 : Int) ≤ (i : Int) := by omega
      have s2 : (i : Int) < (m : Int) := by omega
      go_quiet (fail)
      go_wp2
      have s3 : IntKind.i64.wrap (X + V) = X + V := IntWalk.i64_in _ ⟨by omega, by omega⟩
      have s4 : IntKind.i64.wrap V = V := IntWalk.i64_in _ ⟨by omega, by omega⟩
      go_quiet (fail)
      clear s3 s4
      go_wp2
      go_ret
      rename_i nq0
      have hL3 := (hL2.drewN (nq0 + nq)).set 1 (.int .i64 (i + 1))
      refine ⟨_, rfl, fun h => absurd h (by omega), fun _ => ⟨Int.emod_nonneg _ (by omega), Int.emod_lt_of_pos _ (by omega)⟩, ?_, grown_set (grown_drewN hg2 _) (.inl rfl) _⟩
      refine ⟨some ⟨q, off, none⟩, m, c, xs, i + 1, G, h1, by omega, hG1, hG2, ?_, hg, hL3⟩
      exact ⟨hB2.1, fun j hj => by
        obtain ⟨q', off', e1, e2, e3⟩ := hB2.2.1 j hj
        exact ⟨q', off', e1, by rw [size_set]; exact e2, cell_setne (w := w2.drewN _) e3 (by have := hg (by omega) q' off' e1; simp; omega) _⟩, hB2.2.2⟩
    · go_quiet (fail)
      go_wp2
      go_ret
      refine ⟨_, rfl, fun h => absurd h (by omega), fun _ => ⟨Int.emod_nonneg _ (by omega), Int.emod_lt_of_pos _ (by omega)⟩, ?_, grown_drewN hg2 _⟩
      exact ⟨a, m, c, xs, i, G, h1, h2, hG1, hG2, hB2.below (below_drewN (Below.refl _ _) _), hg, hL2.drewN _⟩

set_option maxHeartbeats 2000000 in
theorem roll_ok (a : Option Addr) (n c : Nat) (xs : List Int) (s : Int) (w : World) (h : Bts w a n xs) (hn : n ≤ 9223372036854775807) :
    Calls Try.prog 27 #[.slice a n c, .int .u64 s] w fun e w' => ∃ b, e = .returned (.pointer (some ⟨b, 0, none⟩)) ∧ w.heap.size ≤ b ∧ Dic w' b ∧ Below w.heap.size w w' := by
  go_enter Try.func27, Try.ntmps27
  go_wp2
  go_loopw [6] (fun i wr => ∃ (k : Nat) (g : Int), k ≤ n ∧ i = .int .i64 k ∧ 0 ≤ g ∧ g < 18446744073709551616 ∧ Loc wr w.heap.size #[.slice a n c, .int .i64 0, .int .u64 g] 80 ∧ Below w.heap.size w wr) (fun i _ => n - (intOf i).toNat)
  case atStart => exact ⟨0, _, by omega, rfl, (u64_rng _).1, (u64_rng _).2, Loc.new w rfl _ _, below_al (Below.refl _ _) _⟩
  case round =>
    obtain ⟨k, g, hk, rfl, hg1, hg2, hL, hq⟩ := hrel
    by_cases hlt : k < n
    · obtain ⟨q, off, rfl, hc⟩ := (h.below hq).at k hlt
      obtain ⟨V, HV⟩ : ∃ V, Hid (xs.getD k 0 = V) := ⟨_, rfl⟩
      have hxr := h.2.2 k
      rw [HV.out] at hc hxr
      obtain ⟨v1, v2⟩ := hxr
      have s1 : (0 : Int) ≤ (k : Int) := by omega
      have s2 : (k : Int) < (n : Int) := by omega
      have lL := hL.three
      go_wp2
      refine wp_region_still_tail 15 (by kernel_rfl) (by kernel_rfl) ?_
      change wpStill _ _ wr.drew (fun a' => wpList _ _ _ _ a' wr.drew) _ _
      replace hL := hL.drew
      replace lL := hL.three
      replace hc : wr.drew.cell? ⟨q, off + k, none⟩ = some (.int .u8 V) := hc
      replace hq : Below w.heap.size w wr.drew := hq.drew
      generalize wr.drew = w2 at *
      simp only [List.take_succ_cons, List.take_zero, List.drop_succ_cons, List.drop_zero]
      repeat still_step
      refine wpStill_nil ?_
      go_wp2
      go_roundw
      case rel =>
        have hu := u64_rng (IntKind.u64.wrap (IntKind.u64.wrap (g * 1099511628211) + V) + 5)
        exact ⟨k + 1, _, by omega, by go_num, hu.1, hu.2, hL.set 2 _, hq.setCell (Nat.le_refl _) _⟩
      case measure => simp [intOf]; omega
    · go_wp2
      go_ret
      exact ⟨_, rfl, Nat.le_refl _, ⟨a, n, c, xs, 0, g, hn, by omega, hg1, hg2, h.below hq, fun hn q o e => by obtain ⟨b', o', e1, e2, _⟩ := h.2.1 0 hn; rw [e1] at e; cases e; exact e2, hL⟩, hq⟩

end Go.Proofs.Ytgnaeeifnhgobaa
