/-
  Walks and plain laws of this seat, some texts in one.
  No condition but bounds on lengths.
-/
import Derived.Test.YtkjpkdmnjbjjaaaGreatPk20
import Derived.Test.YtkjpkdmnjbjjaaaGreatPk9
import Derived.Test.YtkjpkdmnjbjjaaaGreatPk8
import Derived.Test.YtkjpkdmnjbjjaaaGreatPk11
import Derived.Test.YtkjpkdmnjbjjaaaGreatPk1
import Derived.Test.YtkjpkdmnjbjjaaaGreatPk3
import Derived.Test.YtkjpkdmnjbjjaaaGreatPk26
import Derived.Test.YtkjpkdmnjbjjaaaGreatPk4
import Derived.Test.YtkjpkdmnjbjjaaaGreatPk12
import Derived.Test.YtkjpkdmnjbjjaaaGreatPk7
import Derived.Test.YtkjpkdmnjbjjaaaGreatPk21
namespace Go.Proofs.YtkjpkdmnjbjjaaaGreat
set_option linter.unusedVariables false
set_option linter.unusedSimpArgs false
set_option maxRecDepth 100000
open Go.RowKit
def Dic (w : World) (b : Nat) : Prop := ∃ (a : Option Addr) (n c : Nat) (xs : List Int) (i : Nat) (h : Int), n ≤ 9223372036854775807 ∧ i ≤ n ∧ 0 ≤ h ∧ h < 18446744073709551616 ∧ Bts w a n xs ∧ (0 < n → ∀ g o, a = some ⟨g, o, none⟩ → g < b) ∧
  Loc w b #[.slice a n c, .int .i64 i, .int .u64 h] 99
theorem Dic.lt {w : World} {b : Nat} (h : Dic w b) : b < w.heap.size := by obtain ⟨a, n, c, xs, i, h, _, _, _, _, _, _, hL⟩ := h; exact hL.lt
theorem Dic.below {w w' : World} {b : Nat} (h : Dic w b) (hb : Below w.heap.size w w') : Dic w' b := by
  obtain ⟨a, n, c, xs, i, h, h1, h2, h3, h4, hB, hg, hL⟩ := h
  exact ⟨a, n, c, xs, i, h, h1, h2, h3, h4, hB.below hb, hg, hL.below hb hL.lt⟩
set_option maxHeartbeats 2000000 in
theorem below_ok (b : Nat) (n : Int) (w : World) (h : Dic w b) (hn : I64 n) :
    Calls Tryz.prog 15 #[.pointer (some ⟨b, 0, none⟩), .int .i64 n] w fun e w' => ∃ x, e = .returned (.int .i64 x) ∧ (n < 1 → x = 0) ∧ (1 ≤ n → 0 ≤ x ∧ x < n) ∧ Dic w' b ∧ w.grownBy w' (some b) := by
  obtain ⟨a, m, c, xs, i, g, h1, h2, h3, h4, hB, hg, hL⟩ := h
  by_cases hn1 : n < 1
  · go_enter Tryz.func15, Tryz.ntmps15
    go_wp2
    go_ret
    exact ⟨_, rfl, fun _ => rfl, fun h => absurd h (by omega), ⟨a, m, c, xs, i, g, h1, h2, h3, h4, hB, hg, hL⟩, grown_refl _ _⟩
  · have lL := hL.three
    obtain ⟨hn2, hn3⟩ := hn
    have hn4 : 1 ≤ n := by omega
    clear hn1
    go_enter Tryz.func15, Tryz.ntmps15
    go_wp2
    obtain ⟨G, HG⟩ : ∃ G, Hid (IntKind.u64.wrap (IntKind.u64.wrap (g * 6364136223846793005) + 1442695040888963407) = G) := ⟨_, rfl⟩
    have hG := u64_rng (IntKind.u64.wrap (g * 6364136223846793005) + 1442695040888963407)
    rw [HG.out] at hG
    rw [HG.out]
    obtain ⟨hG1, hG2⟩ := hG
    obtain ⟨hX1, hX2⟩ := mask24 G hG1 hG2
    obtain ⟨X, HX⟩ : ∃ X, Hid (wrap64 (bits BinOp.and IntKind.u64 (G / 8589934592) 16777215) = X) := ⟨_, rfl⟩
    rw [HX.out] at hX1 hX2
    rw [HX.out]
    have hL2 := hL.set 2 (.int .u64 G)
    have lL2 := hL2.three
    have hg2 := grown_set (grown_refl w (some b)) (p := ⟨b, 2, none⟩) (.inl rfl) (.int .u64 G)
    have hB2 : Bts (w.setCell ⟨b, 2, none⟩ (.int .u64 G)) a m xs := ⟨hB.1, fun j hj => by
      obtain ⟨q, off, e1, e2, e3⟩ := hB.2.1 j hj
      exact ⟨q, off, e1, by rw [size_set]; exact e2, cell_setne e3 (by have := hg (by omega) q off e1; simp; omega) _⟩, hB.2.2⟩
    generalize w.setCell ⟨b, 2, none⟩ (.int .u64 G) = w2 at *
    by_cases hi : i < m
    · obtain ⟨q, off, rfl, hc⟩ := hB2.at i hi
      have hxr := hB2.2.2 i
      obtain ⟨V, HV⟩ : ∃ V, Hid (xs.getD i 0 = V) := ⟨_, rfl⟩
      rw [HV.out] at hc hxr
      obtain ⟨v1, v2⟩ := hxr
      have s1 : (0 : Int) ≤ (i : Int) := by omega
      have s2 : (i : Int) < (m : Int) := by omega
      go_quiet (fail)
      go_wp2
      have s3 : IntKind.i64.wrap (X + V) = X + V := IntWalk.i64_in _ ⟨by omega, by omega⟩
      have s4 : IntKind.i64.wrap V = V := IntWalk.i64_in _ ⟨by omega, by omega⟩
      go_quiet (fail)
      clear s3 s4
      go_wp2
      go_ret
      rename_i nq0
      have hL3 := (hL2.drewN (nq0 + nq)).set 1 (.int .i64 (i + 1))
      refine ⟨_, rfl, fun h => absurd h (by omega), fun _ => ⟨Int.emod_nonneg _ (by omega), Int.emod_lt_of_pos _ (by omega)⟩, ?_, grown_set (grown_drewN hg2 _) (.inl rfl) _⟩
      refine ⟨some ⟨q, off, none⟩, m, c, xs, i + 1, G, h1, by omega, hG1, hG2, ?_, hg, hL3⟩
      exact ⟨hB2.1, fun j hj => by
        obtain ⟨q', off', e1, e2, e3⟩ := hB2.2.1 j hj
        exact ⟨q', off', e1, by rw [size_set]; exact e2, cell_setne (w := w2.drewN _) e3 (by have := hg (by omega) q' off' e1; simp; omega) _⟩, hB2.2.2⟩
    · go_quiet (fail)
      go_wp2
      go_ret
      refine ⟨_, rfl, fun h => absurd h (by omega), fun _ => ⟨Int.emod_nonneg _ (by omega), Int.emod_lt_of_pos _ (by omega)⟩, ?_, grown_drewN hg2 _⟩
      exact ⟨a, m, c, xs, i, G, h1, h2, hG1, hG2, hB2.below (below_drewN (Below.refl _ _) _), hg, hL2.drewN _⟩
set_option maxHeartbeats 2000000 in
theorem roll_ok (a : Option Addr) (n c : Nat) (xs : List Int) (s : Int) (w : World) (h : Bts w a n xs) (hn : n ≤ 9223372036854775807) :
    Calls Tryz.prog 14 #[.slice a n c, .int .u64 s] w fun e w' => ∃ b, e = .returned (.pointer (some ⟨b, 0, none⟩)) ∧ w.heap.size ≤ b ∧ Dic w' b ∧ Below w.heap.size w w' := by
  go_enter Tryz.func14, Tryz.ntmps14
  go_wp2
  go_loopw [6] (fun i wr => ∃ (k : Nat) (g : Int), k ≤ n ∧ i = .int .i64 k ∧ 0 ≤ g ∧ g < 18446744073709551616 ∧ Loc wr w.heap.size #[.slice a n c, .int .i64 0, .int .u64 g] 99 ∧ Below w.heap.size w wr) (fun i _ => n - (intOf i).toNat)
  case atStart => exact ⟨0, _, by omega, rfl, (u64_rng _).1, (u64_rng _).2, Loc.new w rfl _ _, below_al (Below.refl _ _) _⟩
  case round =>
    obtain ⟨k, g, hk, rfl, hg1, hg2, hL, hq⟩ := hrel
    by_cases hlt : k < n
    · obtain ⟨q, off, rfl, hc⟩ := (h.below hq).at k hlt
      obtain ⟨V, HV⟩ : ∃ V, Hid (xs.getD k 0 = V) := ⟨_, rfl⟩
      have hxr := h.2.2 k
      rw [HV.out] at hc hxr
      obtain ⟨v1, v2⟩ := hxr
      have s1 : (0 : Int) ≤ (k : Int) := by omega
      have s2 : (k : Int) < (n : Int) := by omega
      have lL := hL.three
      go_wp2
      refine wp_region_still_tail 15 (by kernel_rfl) (by kernel_rfl) ?_
      change wpStill _ _ wr.drew (fun a' => wpList _ _ _ _ a' wr.drew) _ _
      replace hL := hL.drew
      replace lL := hL.three
      replace hc : wr.drew.cell? ⟨q, off + k, none⟩ = some (.int .u8 V) := hc
      replace hq : Below w.heap.size w wr.drew := hq.drew
      generalize wr.drew = w2 at *
      simp only [List.take_succ_cons, List.take_zero, List.drop_succ_cons, List.drop_zero]
      repeat still_step
      refine wpStill_nil ?_
      go_wp2
      go_roundw
      case rel =>
        have hu := u64_rng (IntKind.u64.wrap (IntKind.u64.wrap (g * 1099511628211) + V) + 5)
        exact ⟨k + 1, _, by omega, by go_num, hu.1, hu.2, hL.set 2 _, hq.setCell (Nat.le_refl _) _⟩
      case measure => simp [intOf]; omega
    · go_wp2
      go_ret
      exact ⟨_, rfl, Nat.le_refl _, ⟨a, n, c, xs, 0, g, hn, by omega, hg1, hg2, h.below hq, fun hn q o e => by obtain ⟨b', o', e1, e2, _⟩ := h.2.1 0 hn; rw [e1] at e; cases e; exact e2, hL⟩, hq⟩
end Go.Proofs.YtkjpkdmnjbjjaaaGreat

namespace Go.Proofs.YtkjpkdmnjbjjaaaGreat
set_option maxRecDepth 100000
set_option linter.unusedVariables false
set_option linter.unusedSimpArgs false
open Go.RowKit
theorem big_any (a : Option Addr) (n c : Nat) (w : World) (hm : n ≤ 9223372036854775807) :
    Calls Tryz.prog 9 #[.slice a n c] w fun e w' => e = .returned (.bool (decide (4096 < n))) ∧ w = w' := by
  go_enter Tryz.func9, Tryz.ntmps9
  go_wp2
  go_ret
  refine ⟨ret_bool (by rw [Bool.eq_iff_iff]; simp; try omega), rfl⟩
end Go.Proofs.YtkjpkdmnjbjjaaaGreat

namespace Go.Proofs.YtkjpkdmnjbjjaaaGreat
set_option maxRecDepth 100000
set_option linter.unusedVariables false
set_option linter.unusedSimpArgs false
open Go.RowKit
theorem Dic.keepB {w w' : World} {b B : Nat} (h : Dic w b) (hb : Below B w w') (hlt : b < B) : Dic w' b := by
  obtain ⟨a, n, c, xs, i, g, h1, h2, h3, h4, hB, hg, hL⟩ := h
  refine ⟨a, n, c, xs, i, g, h1, h2, h3, h4, ⟨hB.1, fun j hj => ?_, hB.2.2⟩, hg, hL.below hb hlt⟩
  obtain ⟨q, off, e1, e2, e3⟩ := hB.2.1 j hj
  exact ⟨q, off, e1, Nat.lt_of_lt_of_le e2 hb.size, (hb.cell (p := ⟨q, off + j, none⟩) (by have := hg (by omega) q off e1; show q < B; omega)).trans e3⟩
set_option maxHeartbeats 4000000 in
theorem list5_ok (b N : Nat) (m : Int) (w : World) (h : Dic w b) (hm : I64 m) (hN : N ≤ 1000000) :
    Calls Tryz.prog 17 #[.pointer (some ⟨b, 0, none⟩), .int .i64 N, .int .i64 m] w fun e w' => ∃ a c xs, e = .returned (.slice a N c) ∧ (1 ≤ m → ∀ x ∈ xs, 0 ≤ x ∧ x < m) ∧ (m < 1 → ∀ x ∈ xs, x = 0) ∧ Own w' w.heap.size a N c xs ∧ Dic w' b ∧ w.grownBy w' (some b) := by
  have hlt := h.lt
  go_enter Tryz.func17, Tryz.ntmps17
  have hO := Own.fresh w rfl
  have hd := h.below (below_al (Below.refl w.heap.size w) (.cells #[] 2))
  have hG := World.grownBy_alloc w (.cells #[] 2) (some b)
  go_wp2
  go_loopw [1, 7] (fun z o wr => ∃ (j : Nat) (a : Option Addr) (c : Nat) (xs : List Int), j ≤ N ∧ z = .int .i64 ((N : Int) - (j : Int)) ∧ o = .slice a j c ∧ Hid ((1 ≤ m → ∀ x ∈ xs, 0 ≤ x ∧ x < m) ∧ (m < 1 → ∀ x ∈ xs, x = 0)) ∧ Own wr w.heap.size a j c xs ∧ Dic wr b ∧ w.grownBy wr (some b)) (fun z _ _ => (intOf z).toNat)
  case atStart => exact ⟨0, _, 0, [], Nat.zero_le _, by go_num, rfl, Lib.hid ⟨fun _ x hx => (by cases hx), fun _ x hx => (by cases hx)⟩, hO, hd, hG⟩
  case round =>
    clear hO hd hG
    obtain ⟨j, a, c, xs, hj, rfl, rfl, HX, ho, hd, hG⟩ := hrel
    obtain ⟨V, rfl⟩ : ∃ V : World, V = wr := ⟨_, rfl⟩
    have hzV := hG.size
    obtain ⟨k, hk⟩ : ∃ k : Nat, (N : Int) - (j : Int) = (k : Int) := ⟨N - j, by omega⟩
    rw [hk]
    by_cases hlt2 : 0 < k
    · have hk0 : (0 : Int) < (k : Int) := by omega
      have hwk : IntKind.i64.wrap ((k : Int) - 1) = (k : Int) - 1 := IntWalk.i64_in _ (by omega)
      have HK := Lib.hid hk
      clear hk
      go_wp2_with fail
      refine (below_ok b m _ hd hm).mono ?_
      rintro e w7 ⟨y, rfl, hy1, hy2, hd7, hg7⟩
      have ho7 := ho.grown hg7 (fun g e => by have := ho.lo g e; simp; omega)
      have hz7 := hg7.size
      have hG7 := grown_trans hG hg7
      have HY := Lib.hid (And.intro hy1 hy2)
      clear hy1 hy2 hd hG ho
      have hjb : j + 1 ≤ 1000000000000 := by have := HK.out; omega
      go_wp2_with (at_builtin; refine app1 rfl rfl ho7 rfl rfl hjb (by omega) ?_; intro g' cc w8 hO8 hg8 hs8 hb8)
      go_roundw
      case rel =>
        have hkk := HK.out
        refine ⟨j + 1, _, cc, _, by omega, by congr 1; omega, rfl, Lib.hid ⟨fun q x hx => ?_, fun q x hx => ?_⟩, hO8, hd7.keepB hb8 (by omega), grown_below hG7 hb8 (Nat.le_refl _)⟩
        · rcases List.mem_append.1 hx with hx | hx
          · exact HX.out.1 q x hx
          · rw [List.mem_singleton.1 hx]; exact HY.out.2 q
        · rcases List.mem_append.1 hx with hx | hx
          · exact HX.out.2 q x hx
          · rw [List.mem_singleton.1 hx]; exact HY.out.1 q
      case measure => simp [intOf]; omega
    · obtain rfl : k = 0 := by omega
      obtain rfl : j = N := by omega
      clear hk
      go_wp2
      go_ret
      exact ⟨_, c, xs, rfl, HX.out.1, HX.out.2, ho, hd, hG⟩
end Go.Proofs.YtkjpkdmnjbjjaaaGreat

namespace Go.Proofs.YtkjpkdmnjbjjaaaGreat
set_option maxRecDepth 100000
set_option linter.unusedVariables false
set_option linter.unusedSimpArgs false
open Go.RowKit
theorem step_appP {ops : Array Oper} {o : Oper} {a : Act} {K : Act → World → Prop} {Q : Exit → Act → World → Prop} {E : Prop} {w : World} (hgd : o.guard = none) {s x : Operand}
    (ho : o.op = .call { callee := .builtin .append, args := #[s, x], argTypes := #[35, 35] }) {lo : Nat} {ad : Option Addr} {n c : Nat} {xs : List Int} (hown : Own w lo ad n c xs) (hs : a.eval s = .slice ad n c)
    {ad2 : Option Addr} {m c2 : Nat} {ys : List Int} (hr : Row w ad2 m ys) (hx : a.eval x = .slice ad2 m c2) (hlen : n + m ≤ 1000000000000) (hlo : lo ≤ w.heap.size)
    (h : ∀ ad' c' w', Own w lo ad n c xs → Own w' lo ad' (n + m) c' (xs ++ ys) → w.grownBy w' (Value.slice ad n c).ownBlock → Below lo w w' → K (a.put o.dst (.slice ad' (n + m) c')) w') :
    if Region.wanted o (yielded ops a.tmps) = true then Oper.wp Tryz.prog o a w K Q else E :=
  step_appL hgd ho hown hs hr hx hlen hlo fun ad' c' w' h1 h2 h3 => h ad' c' w' hown h1 h2 h3
theorem pick3h (w : World) {b : Nat} (hb : b = w.heap.size) (x y z : Int) (t : TypeId) : Row (w.alloc (.cells #[.int .i64 x, .int .i64 y, .int .i64 z] t)) (some ⟨b, 0, none⟩) 3 [x, y, z] := by
  subst hb; exact pick3 w x y z t
theorem Loc.grownO {w w' : World} {b : Nat} {cs : Array Value} {t : TypeId} (h : Loc w b cs t) {lo : Nat} {a : Option Addr} {n c : Nat} {xs : List Int} (ho : Own w lo a n c xs) (hg : w.grownBy w' (Value.slice a n c).ownBlock) (ht : t ≠ 2) : Loc w' b cs t :=
  h.grown hg (ho.blk_ne fun q e => by subst e; exact ho.ne_loc h ht)
theorem rowTakeB {w : World} {a : Option Addr} {n : Nat} {xs : List Int} (h : Row w a n xs) (m : Nat) (hm : m ≤ n) : Row w a m (xs.take m) := by
  refine ⟨by rw [List.length_take, ← h.len]; omega, fun i hi => ?_⟩
  obtain ⟨b, off, e1, e2, e3⟩ := h.2 i (by omega)
  refine ⟨b, off, e1, e2, ?_⟩
  rw [e3]
  simp [List.getD_eq_getElem?_getD, List.getElem?_take, hi]
theorem rowDropB {w : World} {g o n : Nat} {xs : List Int} (h : Row w (some ⟨g, o, none⟩) n xs) (q : Nat) (hq : q ≤ n) : Row w (some ⟨g, o + q, none⟩) (n - q) (xs.drop q) := by
  refine ⟨by rw [List.length_drop, h.len], fun i hi => ?_⟩
  obtain ⟨b, off, e1, e2, e3⟩ := h.2 (q + i) (by omega)
  cases e1
  refine ⟨g, o + q, rfl, e2, ?_⟩
  rw [show o + q + i = o + (q + i) by omega, e3]
  simp [List.getD_eq_getElem?_getD]
theorem Row.drewM {w : World} {a : Option Addr} {n : Nat} {xs : List Int} (h : Row w a n xs) : Row w.drew a n xs := h
theorem size_drewM (w : World) : w.drew.heap.size = w.heap.size := rfl
theorem size_drewNM (w : World) (n : Nat) : (w.drewN n).heap.size = w.heap.size := rfl
theorem slice_to (a : Option Addr) (n c q : Nat) (hq : q ≤ c) (v : World) : (Instr.slice 35 (.slice a n c) none (some (.int .i64 q)) none).run Tryz.prog v = .ok (.slice a q c) v := by
  have e1 : ((0 : Nat) : Int) ≤ (q : Int) := by omega
  have e2 : (q : Int) ≤ (c : Int) := by omega
  have e3 : q ≤ c := hq
  simp [go_sem, e2, e3]
theorem slice_from (a : Option Addr) (n c q : Nat) (hq : q ≤ n) : ∃ aT, (∀ v : World, (Instr.slice 35 (.slice a n c) (some (.int .i64 q)) none none).run Tryz.prog v = .ok (.slice aT (n - q) (c - q)) v) ∧ ∀ (w : World) (xs : List Int), n ≤ c → Row w a n xs → Row w aT (n - q) (xs.drop q) := by
  have e2 : (q : Int) ≤ (n : Int) := by omega
  refine ⟨if c = q then a else a.map (·.add q), fun v => ?_, fun w xs hc hr => ?_⟩
  · simp [go_sem, e2, hq]
  · by_cases h0 : n - q = 0
    · rw [h0, List.drop_eq_nil_of_le (by have := hr.len; omega)]
      exact Row.nil _ _
    · obtain ⟨g, o, rfl, _, _⟩ := hr.2 0 (by omega)
      rw [if_neg (by omega)]
      by_cases q0 : q = 0
      · subst q0; simpa [Addr.add] using hr
      · simpa [Addr.add, q0] using rowDropB hr q hq
end Go.Proofs.YtkjpkdmnjbjjaaaGreat

namespace Go.Proofs.YtkjpkdmnjbjjaaaGreat
set_option maxRecDepth 100000
set_option linter.unusedVariables false
set_option linter.unusedSimpArgs false
open Go.RowKit
set_option maxHeartbeats 4000000 in
theorem matrix5_ok (b N : Nat) (m : Int) (w : World) (h : Dic w b) (hm : 1 ≤ m ∧ m ≤ 12) (hN : N ≤ 1000) :
    Calls Tryz.prog 22 #[.pointer (some ⟨b, 0, none⟩), .int .i64 N, .int .i64 m] w fun e w' => ∃ a c vs F, e = .returned (.slice a N c) ∧ isMx N m F = true ∧ OwnT w' w.heap.size a N c vs F ∧ Dic w' b ∧ w.grownBy w' (some b) := by
  have hlt := h.lt
  obtain ⟨hm1, hm2⟩ := hm
  go_enter Tryz.func22, Tryz.ntmps22
  have hO := OwnT.fresh w rfl
  have hd := h.below (below_al (Below.refl w.heap.size w) (.cells #[] 35))
  have hG := World.grownBy_alloc w (.cells #[] 35) (some b)
  go_wp2
  go_loopw [7, 8] (fun o i wr => ∃ (k : Nat) (a : Option Addr) (c : Nat) (vs : List SV) (F : List (List Int)), k ≤ N ∧ i = .int .i64 k ∧ o = .slice a k c ∧ Hid (∀ r ∈ F, rowOk N m r = true) ∧ OwnT wr w.heap.size a k c vs F ∧ Dic wr b ∧ w.grownBy wr (some b)) (fun _ i _ => N - (intOf i).toNat)
  case atStart => exact ⟨0, _, 0, [], [], Nat.zero_le _, rfl, rfl, Lib.hid (fun r hr => (by cases hr)), hO, hd, hG⟩
  case round =>
    clear hO hd hG
    obtain ⟨k, a, c, vs, F, hk, rfl, rfl, HX, ho, hd, hG⟩ := hrel
    obtain ⟨V, rfl⟩ : ∃ V : World, V = wr := ⟨_, rfl⟩
    have hzV := hG.size
    by_cases hlt2 : k < N
    · go_wp2_with fail
      refine (list5_ok b N m _ hd ⟨by omega, by omega⟩ (by omega)).mono ?_
      rintro e w7 ⟨a7, c7, xs, rfl, hx1, _, ho7, hd7, hg7⟩
      have hoT := ho.grownS hg7 (by omega)
      have hz7 := hg7.size
      have hG7 := grown_trans hG hg7
      have HR : Hid (rowOk N m xs = true) := Lib.hid (by
        have hl := ho7.len
        unfold rowOk
        rw [Bool.and_eq_true]
        refine ⟨by simp; omega, ?_⟩
        rw [List.all_eq_true]
        intro x hx
        have := hx1 hm1 x hx
        unfold rngB; simp; omega)
      clear hx1 hd hG
      have hap1 : Apart a a7 := fun g h1 h2 => by have h3 := ho.high _ h1; have h4 := ho7.lo _ h2; omega
      have hap2 : ∀ j, j < k → Apart a7 (vs.getD j svO).1 := fun j hj g h1 h2 => by have h3 := ho7.lo _ h1; have h4 := ho.uHi g (.inr ⟨j, hj, h2⟩); omega
      clear ho
      go_wp2_with (at_builtin; refine appT1 rfl rfl hoT rfl (ho7.mono hzV) hap1 hap2 rfl (by omega) (by omega) ?_; intro g' cc w8 hO8 hb8)
      go_roundw
      case rel =>
        refine ⟨k + 1, _, cc, _, _, by omega, by go_num, rfl, Lib.hid (fun r hr => ?_), hO8, hd7.keepB hb8 (by omega), grown_below hG7 hb8 (Nat.le_refl _)⟩
        rcases List.mem_append.1 hr with hr | hr
        · exact HX.out r hr
        · rw [List.mem_singleton.1 hr]; exact HR.out
      case measure => simp [intOf]; omega
    · obtain rfl : k = N := by omega
      have hl := ho.tbl.len
      have HM : Hid (isMx k m F = true) := Lib.hid (by
        unfold isMx
        rw [Bool.and_eq_true, Bool.and_eq_true]
        refine ⟨by unfold rngB; simp; omega, by simp; omega, ?_⟩
        rw [List.all_eq_true]
        exact HX.out)
      clear hl
      go_wp2
      go_ret
      exact ⟨_, c, vs, F, rfl, HM.out, ho, hd, hG⟩
set_option maxHeartbeats 2000000 in
theorem top5_any (a : Option Addr) (n c : Nat) (xs : List Int) (w : World) (h : Row w a n xs) (hm : n ≤ 1000000000) (hx : ∀ x ∈ xs, 0 ≤ x ∧ x ≤ 1000000000) :
    Calls Tryz.prog 26 #[.slice a n c] w fun e w' => e = .returned (.int .i64 (grtL xs)) ∧ w = w' := by
  have hl := h.len
  go_enter Tryz.func26, Tryz.ntmps26
  go_wp2
  have HL := Lib.hid hl
  clear hl
  go_loopw [3, 4] (fun s i wr => ∃ (k : Nat) (T : Int), k ≤ n ∧ i = .int .i64 k ∧ s = .int .i64 T ∧ Hid (T = grtL (xs.take k)) ∧ 0 ≤ T ∧ T ≤ 1000000001 ∧ wr = w) (fun _ i _ => n - (intOf i).toNat)
  case atStart => exact ⟨0, 0, Nat.zero_le _, rfl, rfl, Lib.hid (by simp [grtL]), by omega, by omega, by first | trivial | rfl⟩
  case round =>
    obtain ⟨k, T, hk, rfl, rfl, HT, hT0, hT1, rfl⟩ := hrel
    by_cases hlt : k < n
    · have hkl : k < xs.length := by have := HL.out; omega
      obtain ⟨b, off, rfl, hc⟩ := h.at k hlt
      have hb2 := hx (xs.getD k 0) (by rw [List.getD_eq_getElem?_getD, List.getElem?_eq_getElem hkl]; exact List.getElem_mem hkl)
      have HS := Lib.hid (grtL_take hkl)
      obtain ⟨X, hX⟩ : ∃ X, xs.getD k 0 = X := ⟨_, rfl⟩
      rw [hX] at hb2 hc HS
      clear hX h hx
      by_cases hle : T ≤ X
      · have hw1 : IntKind.i64.wrap (X + 1) = X + 1 := IntWalk.i64_in _ (by omega)
        go_wp2
        go_roundw
        case rel => exact ⟨k + 1, X + 1, by omega, by go_num, rfl, Lib.hid (by rw [HS.out, if_pos (by rw [← HT.out]; exact hle)]), by omega, by omega, by first | trivial | rfl⟩
        case measure => simp [intOf]; omega
      · have hle' : ¬ X ≥ T := by omega
        go_wp2
        go_roundw
        case rel => exact ⟨k + 1, T, by omega, by go_num, rfl, Lib.hid (by rw [HS.out, if_neg (by rw [← HT.out]; exact hle), HT.out]), by omega, by omega, by first | trivial | rfl⟩
        case measure => simp [intOf]; omega
    · obtain rfl : k = n := by omega
      go_wp2
      go_ret
      exact ⟨ret_int (by rw [HT.out, List.take_of_length_le (by have := HL.out; omega)]), by first | trivial | rfl⟩
end Go.Proofs.YtkjpkdmnjbjjaaaGreat

namespace Go.Proofs.YtkjpkdmnjbjjaaaGreat
set_option maxRecDepth 100000
set_option linter.unusedVariables false
set_option linter.unusedSimpArgs false
open Go.RowKit
def compF (s : Int) (xs : List Int) : List Int × Int := if isBr s xs then (compL s.toNat xs, 0) else ([], 1)
set_option maxHeartbeats 1000000 in
theorem impl_Comp_any (s : Int) (a : Option Addr) (n c : Nat) (xs : List Int) (w : World) (h1 : Row w a n xs) (hm : n ≤ 9223372036854775807) (hs : I64 s) :
    Calls Tryz.prog 24 #[bAgg s a n c] w (RetR w (compF s xs).1 (compF s xs).2) := by
  cases hb : isBr s xs with
  | false =>
    have e : compF s xs = ([], 1) := by unfold compF; rw [hb]; rfl
    rw [e]; clear e
    have HB := Lib.hid hb; clear hb
    go_enter Tryz.func24, Tryz.ntmps24
    go_wp2_with fail
    refine (isBraid_any _ _ _ _ xs _ (h1.alloc _) hm).mono ?_
    rintro e w1 ⟨rfl, hb1⟩
    rw [HB.out]
    have hB1 : Below w.heap.size w w1 := below_alth (Below.refl _ _) hb1
    go_wp2
    exact bodyPost_ret (v := .tuple #[.slice none 0 0, .int .i64 1]) (by simp [results, Tryz.results24, go_sem]) rfl ⟨none, 0, 0, rfl, Own.nil _ _, hB1⟩
  | true =>
    have e : compF s xs = (compL s.toNat xs, 0) := by unfold compF; rw [hb]; rfl
    rw [e]; clear e
    obtain ⟨h26, _⟩ := isBr_let hb
    obtain ⟨S, rfl⟩ : ∃ S : Nat, s = S := ⟨s.toNat, by omega⟩
    rw [Int.toNat_natCast]
    have HB := Lib.hid hb; clear hb
    go_enter Tryz.func24, Tryz.ntmps24
    have hA := Loc.new w rfl #[.int .i64 S, .slice a n c] 42
    go_wp2_with fail
    refine (isBraid_any _ _ _ _ xs _ (h1.alloc _) hm).mono ?_
    rintro e w1 ⟨rfl, hb1⟩
    rw [HB.out]
    have hB1 : Below w.heap.size w w1 := below_alth (Below.refl _ _) hb1
    have hA1 := hA.below hb1 (by simp)
    have lA1 := hA1.two
    have hr1 := (h1.alloc _).below hb1
    go_wp2_with fail
    refine (componentsOf_any S _ _ _ xs _ hr1 HB.out).mono ?_
    rintro e w2 ⟨a2, c2, rfl, ho2, hb2⟩
    go_wp2
    exact bodyPost_ret (v := .tuple #[.slice a2 S c2, .int .i64 0]) (by simp [results, Tryz.results24, go_sem]) rfl ⟨_, _, _, rfl, ho2.mono hB1.size, below_th hB1 hb2⟩
end Go.Proofs.YtkjpkdmnjbjjaaaGreat

namespace Go.Proofs.YtkjpkdmnjbjjaaaGreat
set_option maxRecDepth 100000
set_option linter.unusedVariables false
set_option linter.unusedSimpArgs false
open Go.RowKit
def PairAt (f : FuncId) (caps : Array Value) (v1 v2 : Nat → Nat → Int) (n : Nat) (w : World) : Prop :=
  ∀ x y, x < n → y < n → ∀ w1, Below w.heap.size w w1 → Calls Tryz.prog f (#[.int .i64 x, .int .i64 y] ++ caps) w1 fun e w' => e = .returned (.tuple #[.int .i64 (v1 x y), .int .i64 (v2 x y)]) ∧ Below w1.heap.size w1 w'
theorem PairAt.below {f : FuncId} {caps : Array Value} {v1 v2 : Nat → Nat → Int} {n : Nat} {w w' : World} (h : PairAt f caps v1 v2 n w) (hb : Below w.heap.size w w') : PairAt f caps v1 v2 n w' :=
  fun x y hx hy w1 h1 => h x y hx hy w1 (below_th hb h1)
set_option maxHeartbeats 400000 in
theorem solutionBy1_any (f : FuncId) (caps : Array Value) (v1 v2 : Nat → Nat → Int) (n b : Nat) (t : TypeId) (x y : Nat) (w : World) (hL : Loc w b #[.func (.func f) #[] caps] t) (hcf : Ent f) (hf : PairAt f caps v1 v2 n w) (hx : x < n) (hy : y < n) :
    Calls Tryz.prog 201 #[.int .i64 x, .int .i64 y, .pointer (some ⟨b, 0, none⟩)] w fun e w' => e = .returned (.int .i64 (v1 x y)) ∧ Below w.heap.size w w' := by
  have hcf' : ∀ (args : Array Value) (w : World), (callFunc f args).run Tryz.prog w = .ok (.enter f args) w := hcf
  have HF := Lib.hid (hf x y hx hy w (Below.refl _ _))
  have lL := hL.one
  clear hf
  go_enter Tryz.func201, Tryz.ntmps201
  go_wp2_with fail
  refine HF.out.mono ?_
  rintro e w1 ⟨rfl, hb⟩
  go_wp2
  go_ret
  exact ⟨rfl, hb⟩
set_option maxHeartbeats 400000 in
theorem solutionBy2_any (f : FuncId) (caps : Array Value) (v1 v2 : Nat → Nat → Int) (n b : Nat) (t : TypeId) (x y : Nat) (w : World) (hL : Loc w b #[.func (.func f) #[] caps] t) (hcf : Ent f) (hf : PairAt f caps v1 v2 n w) (hx : x < n) (hy : y < n) :
    Calls Tryz.prog 202 #[.int .i64 x, .int .i64 y, .pointer (some ⟨b, 0, none⟩)] w fun e w' => e = .returned (.int .i64 (v2 x y)) ∧ Below w.heap.size w w' := by
  have hcf' : ∀ (args : Array Value) (w : World), (callFunc f args).run Tryz.prog w = .ok (.enter f args) w := hcf
  have HF := Lib.hid (hf x y hx hy w (Below.refl _ _))
  have lL := hL.one
  clear hf
  go_enter Tryz.func202, Tryz.ntmps202
  go_wp2_with fail
  refine HF.out.mono ?_
  rintro e w1 ⟨rfl, hb⟩
  go_wp2
  go_ret
  exact ⟨rfl, hb⟩
theorem ent_sb1 : Ent 201 := fun _ _ => rfl
theorem ent_sb2 : Ent 202 := fun _ _ => rfl
set_option maxHeartbeats 2000000 in
theorem solutionBy_any (f : FuncId) (caps : Array Value) (v1 v2 : Nat → Nat → Int) (n : Nat) (w : World) (hn : n ≤ 1000000) (hcf : Ent f) (hf : PairAt f caps v1 v2 n w) :
    Calls Tryz.prog 160 #[.int .i64 n, .func (.func f) #[] caps] w fun e w' => ∃ a c vs a' c' vs', e = .returned (sAgg a n c a' n c') ∧ OwnS w' w.heap.size a n c vs (tabF n v1) a' n c' vs' (tabF n v2) ∧ Below w.heap.size w w' := by
  have hA := (Loc.new w rfl #[.func (.func f) #[] caps] 157).alloc (.cells #[.slice none 0 0, .slice none 0 0] 26)
  have hR := Loc.new (w.alloc (.cells #[.func (.func f) #[] caps] 157)) rfl #[.slice none 0 0, .slice none 0 0] 26
  rw [size_alloc] at hR
  have hB := below_al (below_al (Below.refl w.heap.size w) (.cells #[.func (.func f) #[] caps] 157)) (.cells #[.slice none 0 0, .slice none 0 0] 26)
  have HF := Lib.hid hf; clear hf
  go_enter Tryz.func160, Tryz.ntmps160
  go_wp2_with fail
  generalize (w.alloc (.cells #[.func (.func f) #[] caps] 157)).alloc (.cells #[.slice none 0 0, .slice none 0 0] 26) = w0 at *
  have hc1 : Hid (∀ x y, x < n → y < n → ∀ w1, Below w0.heap.size w0 w1 → Calls Tryz.prog 201 (#[.int .i64 x, .int .i64 y] ++ #[.pointer (some ⟨w.heap.size, 0, none⟩)]) w1 fun e w' => e = .returned (.int .i64 (v1 x y)) ∧ Below w1.heap.size w1 w') := Lib.hid fun x y hx hy w1 hb1 =>
    solutionBy1_any f caps v1 v2 n _ _ x y w1 (hA.below hb1 hA.lt) hcf (HF.out.below (below_th hB hb1)) hx hy
  refine (tableBy_any _ _ v1 n _ hn ent_sb1 hc1.out).mono ?_
  rintro e w1 ⟨a, c, vs, rfl, ho1, hb1⟩
  have hB1 := below_th hB hb1
  have hA1 := hA.below hb1 hA.lt
  have hR1 := hR.below hb1 hR.lt
  have hc2 : Hid (∀ x y, x < n → y < n → ∀ w2, Below w1.heap.size w1 w2 → Calls Tryz.prog 202 (#[.int .i64 x, .int .i64 y] ++ #[.pointer (some ⟨w.heap.size, 0, none⟩)]) w2 fun e w' => e = .returned (.int .i64 (v2 x y)) ∧ Below w2.heap.size w2 w') := Lib.hid fun x y hx hy w2 hb2 =>
    solutionBy2_any f caps v1 v2 n _ _ x y w2 (hA1.below hb2 hA1.lt) hcf (HF.out.below (below_th hB1 hb2)) hx hy
  go_wp2_with fail
  refine (tableBy_any _ _ v2 n _ hn ent_sb2 hc2.out).mono ?_
  rintro e w2 ⟨a', c', vs', rfl, ho2, hb2⟩
  have hB2 := below_th hB1 hb2
  have hR2 := hR1.below hb2 hR1.lt
  have hz : w.heap.size + 1 < w0.heap.size := hR.lt
  have hz1 := hb1.size
  have ho1' := ho1.below hb2
  have lR := hR2.two
  have hap : ∀ g, TblS a n vs g → ¬ TblS a' n vs' g := fun g h1 h2 => by have e1 := ho1.uHi g h1; have e2 := ho2.uLo g h2; omega
  go_wp2
  refine bodyPost_ret (v := sAgg a n c a' n c') (by simp [results, Tryz.results160, go_sem, lR]) rfl ⟨a, c, vs, a', c', vs', rfl, ⟨?_, ?_, hap⟩, ?_⟩
  · exact ((ho1'.setlo (by show w.heap.size + 1 < w0.heap.size; omega) _).setlo (by show w.heap.size + 1 < w0.heap.size; omega) _).mono (by have := hB.size; omega)
  · exact ((ho2.setlo (by show w.heap.size + 1 < w1.heap.size; omega) _).setlo (by show w.heap.size + 1 < w1.heap.size; omega) _).mono (by have := hB1.size; omega)
  · exact below_setne (below_setne hB2 (by show w.heap.size ≤ w.heap.size + 1; omega) _) (by show w.heap.size ≤ w.heap.size + 1; omega) _
end Go.Proofs.YtkjpkdmnjbjjaaaGreat

namespace Go.Proofs.YtkjpkdmnjbjjaaaGreat
set_option maxRecDepth 100000
set_option linter.unusedVariables false
set_option linter.unusedSimpArgs false
open Go.RowKit
set_option maxHeartbeats 400000 in
theorem twist1_any (b1 b2 : Nat) (t1 t2 : TypeId) (a : Option Addr) (n c : Nat) (p : List Int) (a' : Option Addr) (c' : Nat) (q : List Int) (x y : Nat) (w : World) (hL1 : Loc w b1 #[.slice a n c] t1) (hL2 : Loc w b2 #[.slice a' n c'] t2) (hp : Row w a n p) (hq : Row w a' n q) (hx : x < n) (hy : y < n) :
    Calls Tryz.prog 161 #[.int .i64 x, .int .i64 y, .pointer (some ⟨b1, 0, none⟩), .pointer (some ⟨b2, 0, none⟩)] w fun e w' => e = .returned (.tuple #[.int .i64 (p.getD y 0), .int .i64 (q.getD x 0)]) ∧ Below w.heap.size w w' := by
  have l1 := hL1.one
  have l2 := hL2.one
  obtain ⟨bp, op, rfl, g1⟩ := hp.at y hy
  obtain ⟨bq, oq, rfl, g2⟩ := hq.at x hx
  have i1 : (0 : Int) ≤ (x : Int) := by omega
  have i2 : (x : Int) < (n : Int) := by omega
  have i3 : (0 : Int) ≤ (y : Int) := by omega
  have i4 : (y : Int) < (n : Int) := by omega
  clear hp hq
  generalize p.getD y 0 = P at *
  generalize q.getD x 0 = Q at *
  go_enter Tryz.func161, Tryz.ntmps161
  go_wp2
  go_quiet (fail)
  go_wp2
  go_ret2
  exact ⟨rfl, below_drewN (Below.refl _ _) _⟩
theorem ent_tw1 : Ent 161 := fun _ _ => rfl
set_option maxHeartbeats 1000000 in
theorem twist_any (a : Option Addr) (n c : Nat) (p : List Int) (a' : Option Addr) (c' : Nat) (q : List Int) (w : World) (hp : Row w a n p) (hq : Row w a' n q) (hn : n ≤ 1000) :
    Calls Tryz.prog 87 #[.slice a n c, .slice a' n c'] w fun e w' => ∃ a1 c1 vs a1' c1' vs', e = .returned (sAgg a1 n c1 a1' n c1') ∧ OwnS w' w.heap.size a1 n c1 vs (tabF n fun _ y => p.getD y 0) a1' n c1' vs' (tabF n fun x _ => q.getD x 0) ∧ Below w.heap.size w w' := by
  have hA := ((Loc.new w rfl #[.slice a n c] 35).alloc (.cells #[.slice a' n c'] 35)).alloc (.cells #[.slice none 0 0, .slice none 0 0] 26)
  have hC := (Loc.new (w.alloc (.cells #[.slice a n c] 35)) rfl #[.slice a' n c'] 35).alloc (.cells #[.slice none 0 0, .slice none 0 0] 26)
  have hR := Loc.new ((w.alloc (.cells #[.slice a n c] 35)).alloc (.cells #[.slice a' n c'] 35)) rfl #[.slice none 0 0, .slice none 0 0] 26
  rw [size_alloc] at hC
  rw [size_alloc, size_alloc] at hR
  have hB := below_al (below_al (below_al (Below.refl w.heap.size w) (.cells #[.slice a n c] 35)) (.cells #[.slice a' n c'] 35)) (.cells #[.slice none 0 0, .slice none 0 0] 26)
  go_enter Tryz.func87, Tryz.ntmps87
  have lA := hA.one
  go_wp2_with fail
  generalize ((w.alloc (.cells #[.slice a n c] 35)).alloc (.cells #[.slice a' n c'] 35)).alloc (.cells #[.slice none 0 0, .slice none 0 0] 26) = w0 at *
  have hpr : PairAt 161 #[.pointer (some ⟨w.heap.size, 0, none⟩), .pointer (some ⟨w.heap.size + 1, 0, none⟩)] (fun _ y => p.getD y 0) (fun x _ => q.getD x 0) n w0 := fun x y hx hy w1 hb1 =>
    twist1_any _ _ _ _ _ n _ p _ _ q x y w1 (hA.below hb1 hA.lt) (hC.below hb1 hC.lt) ((hp.below hB).below hb1) ((hq.below hB).below hb1) hx hy
  refine (solutionBy_any _ _ _ _ n _ (by omega) ent_tw1 hpr).mono ?_
  rintro e w1 ⟨a1, c1, vs, a1', c1', vs', rfl, ho, hb1⟩
  have hB1 := below_th hB hb1
  have hR1 := hR.below hb1 hR.lt
  have hz : w.heap.size + 1 + 1 < w0.heap.size := hR.lt
  have lR := hR1.two
  clear lA
  go_wp2
  refine bodyPost_ret (v := sAgg a1 n c1 a1' n c1') (by simp [results, Tryz.results87, go_sem, lR]) rfl ⟨a1, c1, vs, a1', c1', vs', rfl, ⟨?_, ?_, ho.ap⟩, ?_⟩
  · exact ((ho.f.setlo (by show w.heap.size + 1 + 1 < w0.heap.size; omega) _).setlo (by show w.heap.size + 1 + 1 < w0.heap.size; omega) _).mono (by have := hB.size; omega)
  · exact ((ho.s.setlo (by show w.heap.size + 1 + 1 < w0.heap.size; omega) _).setlo (by show w.heap.size + 1 + 1 < w0.heap.size; omega) _).mono (by have := hB.size; omega)
  · exact below_setne (below_setne hB1 (by show w.heap.size ≤ w.heap.size + 1 + 1; omega) _) (by show w.heap.size ≤ w.heap.size + 1 + 1; omega) _
/-! ### a rack by values -/
end Go.Proofs.YtkjpkdmnjbjjaaaGreat

namespace Go.Proofs.YtkjpkdmnjbjjaaaGreat
set_option maxRecDepth 100000
set_option linter.unusedVariables false
set_option linter.unusedSimpArgs false
open Go.RowKit
def flA (n : Nat) : List (List Int) := tabF n fun _ y => (unitL n).getD y 0
def flB (n : Nat) : List (List Int) := tabF n fun x _ => (unitL n).getD x 0
set_option maxHeartbeats 4000000 in
theorem impl_Flp_ok (n : Nat) (w : World) (h1 : 1 ≤ n) (h2 : n ≤ 12) :
    Calls Tryz.prog 23 #[.int .i64 n] w fun e w' => ∃ a1 c1 vs a1' c1' vs', e = .returned (.tuple #[sAgg a1 n c1 a1' n c1', .int .i64 0]) ∧ OwnS w' w.heap.size a1 n c1 vs (flA n) a1' n c1' vs' (flB n) ∧ Below w.heap.size w w' := by
  have hR := Loc.new w rfl #[.slice none 0 0, .slice none 0 0] 26
  have hB := below_al (Below.refl w.heap.size w) (.cells #[.slice none 0 0, .slice none 0 0] 26)
  have hq : rngB 1 12 (n : Int) = true := by unfold rngB; simp; omega
  have HQ := Lib.hid hq; clear hq
  go_enter Tryz.func23, Tryz.ntmps23
  go_wp2_with fail
  generalize w.alloc (.cells #[.slice none 0 0, .slice none 0 0] 26) = w0 at *
  refine (within_b n 1 12 true HQ.out _).mono ?_
  rintro e w00 ⟨rfl, rfl⟩
  have lR := hR.two
  go_wp2_with fail
  refine (identity_any n _ (by omega)).mono ?_
  rintro e w1 ⟨a1, c1, rfl, ho1, hb1⟩
  go_wp2_with fail
  refine (identity_any n _ (by omega)).mono ?_
  rintro e w2 ⟨a2, c2, rfl, ho2, hb2⟩
  go_wp2_with fail
  refine (twist_any _ n _ (unitL n) _ _ (unitL n) _ (ho1.below hb2).row ho2.row (by omega)).mono ?_
  rintro e w3 ⟨a3, c3, vs3, a3', c3', vs3', rfl, ho3, hb3⟩
  have hB3 := below_th (below_th (below_th hB hb1) hb2) hb3
  have hR1 := hR.below hb1 hR.lt
  have hR2 := hR1.below hb2 hR1.lt
  have hR3 := hR2.below hb3 hR2.lt
  have hz2 := hR2.lt
  have lR3 := hR3.two
  go_wp2
  refine bodyPost_ret (v := .tuple #[sAgg a3 n c3 a3' n c3', .int .i64 0]) (by simp [results, Tryz.results23, go_sem, lR3]) rfl ⟨a3, c3, vs3, a3', c3', vs3', rfl, ⟨?_, ?_, ho3.ap⟩, ?_⟩
  · exact ((ho3.f.setlo hz2 _).setlo hz2 _).mono (by omega)
  · exact ((ho3.s.setlo hz2 _).setlo hz2 _).mono (by omega)
  · exact below_setne (below_setne hB3 (Nat.le_refl _) _) (Nat.le_refl _) _
end Go.Proofs.YtkjpkdmnjbjjaaaGreat
