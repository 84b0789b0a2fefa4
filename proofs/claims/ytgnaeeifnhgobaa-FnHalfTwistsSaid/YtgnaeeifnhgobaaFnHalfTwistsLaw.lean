/-
  The walk of the law of half twists: it answers true.
  No condition.
-/
import Derived.Test.YtgnaeeifnhgobaaHwL
import Derived.Test.YtgnaeeifnhgobaaApp1h
import Derived.Test.YtgnaeeifnhgobaaBPmI
import Derived.Test.YtgnaeeifnhgobaaHtS
import Derived.Test.YtgnaeeifnhgobaaNbS
import Derived.Test.YtgnaeeifnhgobaaTimI
import Derived.Test.YtgnaeeifnhgobaaDrawH
import Derived.Test.YtgnaeeifnhgobaaDice
import Derived.Test.YtgnaeeifnhgobaaLaw9
namespace Go.Proofs.Ytgnaeeifnhgobaa
set_option maxRecDepth 100000
set_option linter.unusedVariables false
set_option linter.unusedSimpArgs false
open Go.RowKit

theorem Bts.alloc {w : World} {a : Option Addr} {n : Nat} {xs : List Int} (h : Bts w a n xs) (o : Obj) : Bts (w.alloc o) a n xs := h.below (below_al (Below.refl _ _) _)
theorem ht_tbl {w : World} {a : Option Addr} {m : Nat} (h : Tbl w a m []) : m = 0 := by simpa using h.len
set_option maxHeartbeats 64000000 in
theorem law_Ht (a : Option Addr) (n c : Nat) (xs : List Int) (w : World) (h : Bts w a n xs) (hn : n ≤ 9223372036854775807) :
    Calls Try.prog 4 #[.slice a n c] w fun e w' => e = .returned (.bool true) ∧ Below w.heap.size w w' := by
  have hB : Below w.heap.size w w := Below.refl _ _
  go_enter Try.func4, Try.ntmps4
  go_wp2_with fail
  refine (big_any a n c _ hn).mono ?_
  rintro e w0 ⟨rfl, rfl⟩
  by_cases hbig : 4096 < n
  · have hd : decide (4096 < n) = true := by simpa using hbig
    rw [hd]
    go_wp2
    go_ret
    exact ⟨rfl, Below.refl _ _⟩
  have hd : decide (4096 < n) = false := by simpa using hbig
  rw [hd]
  clear hd hbig
  go_wp2_with fail
  refine (DrawHalfTwist_ok a n c xs _ (h.below hB) hn).mono ?_
  rintro e w1 ⟨x, rfl, hx0, hx9, hbw1⟩
  replace hB := below_th hB hbw1
  by_cases hx : 2 ≤ x ∧ x ≤ 6
  · have hd2 : (2 : Int) ≤ x := hx.1
    obtain ⟨N, rfl⟩ : ∃ N : Nat, x = N := ⟨x.toNat, by omega⟩
    have h2 : 2 ≤ N := by omega
    have h6 : N ≤ 6 := by omega
    have HWD := Lib.hid (htW_wd h2 h6)
    have HBR : Hid (isBr N (htW N) = true) := Lib.hid (htW_br ⟨N, by omega⟩ h2)
    have HLN : Hid ((htW N).length = N * (N - 1) / 2) := Lib.hid (htW_len ⟨N, by omega⟩)
    have HNF := Lib.hid (twn_nfo h2 (htW_wd h2 h6))
    have HBP : Hid (brP N (htW N) = (unitL N).reverse) := Lib.hid (brP_ht ⟨N, by omega⟩)
    clear hx hd2
    go_wp2_with fail
    refine (impl_Ht_ok N _ h2 h6).mono ?_
    rintro e w2 ⟨a4, n4, c4, rfl, ho4, hbw2⟩
    replace hB := below_th hB hbw2
    have m4 := (Loc.new w2 rfl #[.int .i64 N, .slice a4 n4 c4] 26).two
    go_wp2_with fail
    refine (spec_Ht_ok N _ h2 h6).mono ?_
    rintro e w3 ⟨a6, n6, c6, rfl, ho6, hbw3⟩
    clear m4
    have hL4 := (Loc.new w2 rfl #[.int .i64 N, .slice a4 n4 c4] 26).below hbw3 (Loc.new w2 rfl #[.int .i64 N, .slice a4 n4 c4] 26).lt
    have l4 := hL4.two
    replace ho4 := (ho4.alloc (.cells #[.int .i64 N, .slice a4 n4 c4] 26)).below hbw3
    replace hB := below_th (below_al hB (.cells #[.int .i64 N, .slice a4 n4 c4] 26)) hbw3
    have HN4 : Hid (n4 = N * (N - 1) / 2) := Lib.hid (by have := ho4.len; have := HLN.out; omega)
    have hn15 : n4 ≤ 15 := by rw [HN4.out]; exact htW_bd ⟨N, by omega⟩
    have m4 := (hL4.alloc (.cells #[.int .i64 N, .slice a6 n6 c6] 26)).two
    have m6 := (Loc.new w3 rfl #[.int .i64 N, .slice a6 n6 c6] 26).two
    go_wp2_with fail
    refine (braid9_same _ _ _ _ _ _ _ (htW N) _ (ho4.alloc (.cells #[.int .i64 N, .slice a6 n6 c6] 26)).row (ho6.alloc (.cells #[.int .i64 N, .slice a6 n6 c6] 26)).row (by omega)).mono ?_
    rintro e w4 ⟨rfl, hbw4⟩
    clear m4 m6
    replace hL4 := (hL4.alloc (.cells #[.int .i64 N, .slice a6 n6 c6] 26)).below hbw4 (hL4.alloc (.cells #[.int .i64 N, .slice a6 n6 c6] 26)).lt
    replace l4 := hL4.two
    have hL6 := (Loc.new w3 rfl #[.int .i64 N, .slice a6 n6 c6] 26).below hbw4 (Loc.new w3 rfl #[.int .i64 N, .slice a6 n6 c6] 26).lt
    have l6 := hL6.two
    replace ho4 := (ho4.alloc (.cells #[.int .i64 N, .slice a6 n6 c6] 26)).below hbw4
    replace ho6 := (ho6.alloc (.cells #[.int .i64 N, .slice a6 n6 c6] 26)).below hbw4
    replace hB := below_th (below_al hB (.cells #[.int .i64 N, .slice a6 n6 c6] 26)) hbw4
    clear hL6 l6
    go_wp2_with fail
    refine (normalBraid_ok N a4 n4 c4 (htW N) (1, []) _ ho4.row HBR.out HNF.out).mono ?_
    rintro e w5 ⟨a9, m9, c9, rfl, ht9, hbw5, _, _, _, _⟩
    replace hL4 := hL4.below hbw5 hL4.lt
    replace l4 := hL4.two
    replace ho4 := ho4.below hbw5
    replace hB := below_th hB hbw5
    obtain rfl : m9 = 0 := ht_tbl ht9
    clear ht9
    go_wp2_with fail
    refine (impl_Bpm_ok N a4 n4 c4 (htW N) _ ho4.row HBR.out).mono ?_
    rintro e w6 ⟨a11, c11, rfl, ho11, hbw6⟩
    replace hL4 := hL4.below hbw6 hL4.lt
    replace l4 := hL4.two
    replace ho4 := ho4.below hbw6
    replace hB := below_th hB hbw6
    rw [HBP.out] at ho11
    have s1 : IntKind.i64.wrap ((N : Int) - 1) = ((N - 1 : Nat) : Int) := (IntWalk.i64_in _ ⟨by omega, by omega⟩).trans (by omega)
    have hNN : N * (N - 1) ≤ 30 := by have := Nat.mul_le_mul h6 (show N - 1 ≤ 5 by omega); omega
    have s2 : IntKind.i64.wrap ((N : Int) * ((N - 1 : Nat) : Int)) = ((N * (N - 1) : Nat) : Int) := by rw [show (N : Int) * ((N - 1 : Nat) : Int) = ((N * (N - 1) : Nat) : Int) by simp]; exact IntWalk.i64_in _ ⟨by omega, by omega⟩
    have s3 : ((n4 : Int) != (N : Int) * ((N - 1 : Nat) : Int) / 2) = false := by rw [HN4.out]; simp
    have s4 : ((n4 : Int) != (n4 : Int)) = false := by simp
    have s5 : ((N : Int) != (N : Int)) = false := by simp
    go_wp2
    go_loop [13] (fun x => ∃ i : Nat, i ≤ N ∧ x = .int .i64 i) (fun x => N - (intOf x).toNat)
    case atStart => exact ⟨0, Nat.zero_le _, rfl⟩
    case round =>
      obtain ⟨i, hi, rfl⟩ := hrel
      by_cases hlt : i < N
      · obtain ⟨b, off, rfl, g1⟩ := ho11.row.at i hlt
        rw [ht_get N i hlt] at g1
        have i1 : (0 : Int) ≤ (i : Int) := by omega
        have i2 : (i : Int) < (N : Int) := by omega
        have i3 : IntKind.i64.wrap (((N - 1 : Nat) : Int) - (i : Int)) = ((N - 1 - i : Nat) : Int) := (IntWalk.i64_in _ ⟨by omega, by omega⟩).trans (by omega)
        have i4 : (((N - 1 - i : Nat) : Int) != ((N - 1 - i : Nat) : Int)) = false := by simp
        go_wp2
        go_round
        case rel => exact ⟨i + 1, by omega, by go_num⟩
        case measure => simp [intOf]; omega
      · obtain rfl : N = i := by omega
        clear ho11 s3 s4 s5
        have HI4 := Lib.hid ho4.hi
        have hlt4 := hL4.lt
        have hltB := hB.size
        go_wp2_with fail
        refine (roll_ok a n c xs 1402 _ (h.below hB) hn).mono ?_
        rintro e w7 ⟨bd, rfl, hbd, hdc, hbw7⟩
        replace hL4 := hL4.below hbw7 hL4.lt
        replace l4 := hL4.two
        replace ho4 := ho4.below hbw7
        replace hB := below_th hB hbw7
        go_wp2_with fail
        refine (below_ok bd ((N - 1 : Nat) : Int) _ hdc ⟨by omega, by omega⟩).mono ?_
        rintro e w8 ⟨l, rfl, _, hl, hdc2, hg_9⟩
        obtain ⟨hl1, hl2⟩ := hl (by omega)
        obtain ⟨k, rfl⟩ : ∃ k : Nat, l = k := ⟨l.toNat, by omega⟩
        clear hl
        have hL4x := hL4.grown hg_9 (by simp; omega)
        replace hL4 := hL4x
        clear hL4x
        replace l4 := hL4.two
        replace ho4 := ho4.grown hg_9 (fun g e => by have := HI4.out g e; simp; omega)
        replace hB := below_grown hB hg_9 (by omega)
        clear hdc hdc2 hg_9 HI4
        have s6 : IntKind.i64.wrap (1 + (k : Int)) = (k : Int) + 1 := (IntWalk.i64_in _ ⟨by omega, by omega⟩).trans (by omega)
        have s7 : IntKind.i64.wrap ((N : Int) - ((k : Int) + 1)) = ((N - 2 - k : Nat) : Int) + 1 := (IntWalk.i64_in _ ⟨by omega, by omega⟩).trans (by omega)
        have hkN : k + 1 < N := by omega
        have HI1 : Hid (isBr N [(k : Int) + 1] = true) := Lib.hid (ltr_br h2 h6 (fun x hx => by simp at hx; rw [hx]; exact ⟨by omega, by rw [plN_suc]; omega⟩) (by simp))
        have HI2 : Hid (isBr N [((N - 2 - k : Nat) : Int) + 1] = true) := Lib.hid (ltr_br h2 h6 (fun x hx => by simp at hx; rw [hx]; exact ⟨by omega, by rw [plN_suc]; omega⟩) (by simp))
        have hlh := wd_ltr HWD.out (tw_fx N)
        have HI3 : Hid (isBr N ([(k : Int) + 1] ++ htW N) = true) := Lib.hid (ltr_br h2 h6 (ltr_app (fun x hx => by simp at hx; rw [hx]; exact ⟨by omega, by rw [plN_suc]; omega⟩) hlh) (by have := ho4.len; simp; omega))
        have HI4 : Hid (isBr N (htW N ++ [((N - 2 - k : Nat) : Int) + 1]) = true) := Lib.hid (ltr_br h2 h6 (ltr_app hlh (fun x hx => by simp at hx; rw [hx]; exact ⟨by omega, by rw [plN_suc]; omega⟩)) (by have := ho4.len; simp; omega))
        have HLL : Hid ((htW N).length ≤ 15) := Lib.hid (by have := ho4.len; omega)
        have HTS := Lib.hid (turn_sim h2 HWD.out hkN)
        clear hlh
        have m4 := (hL4.alloc (.cells #[.int .i64 ((k : Int) + 1)] 2)).two
        have m14 := (Loc.new w8 rfl #[.int .i64 ((k : Int) + 1)] 2).one
        go_wp2_with fail
        refine (impl_Tim_ok N N (some ⟨w8.heap.size, 0, none⟩) a4 1 n4 1 c4 [(k : Int) + 1] (htW N) _ (Row.one _ rfl _ _) (ho4.alloc (.cells #[.int .i64 ((k : Int) + 1)] 2)).row (by omega) (by omega) HI1.out HBR.out rfl (by have := HLL.out; simp; omega)).mono ?_
        rintro e w9 ⟨a15, n15, c15, rfl, ho15, hbw9⟩
        clear m4 m14
        replace hL4 := (hL4.alloc (.cells #[.int .i64 ((k : Int) + 1)] 2)).below hbw9 (hL4.alloc (.cells #[.int .i64 ((k : Int) + 1)] 2)).lt
        replace l4 := hL4.two
        have hL14 := (Loc.new w8 rfl #[.int .i64 ((k : Int) + 1)] 2).below hbw9 (Loc.new w8 rfl #[.int .i64 ((k : Int) + 1)] 2).lt
        have l14 := hL14.one
        replace ho4 := (ho4.alloc (.cells #[.int .i64 ((k : Int) + 1)] 2)).below hbw9
        replace hB := below_th (below_al hB (.cells #[.int .i64 ((k : Int) + 1)] 2)) hbw9
        clear hL14 l14
        have l4b := (hL4.alloc (.cells #[.int .i64 N, .slice a15 n15 c15] 26)).two
        have m4 := ((hL4.alloc (.cells #[.int .i64 N, .slice a15 n15 c15] 26)).alloc (.cells #[.int .i64 (((N - 2 - k : Nat) : Int) + 1)] 2)).two
        have m15 := ((Loc.new w9 rfl #[.int .i64 N, .slice a15 n15 c15] 26).alloc (.cells #[.int .i64 (((N - 2 - k : Nat) : Int) + 1)] 2)).two
        have m16 := (Loc.new (w9.alloc (.cells #[.int .i64 N, .slice a15 n15 c15] 26)) rfl #[.int .i64 (((N - 2 - k : Nat) : Int) + 1)] 2).one
        go_wp2_with fail
        refine (impl_Tim_ok N N a4 (some ⟨w9.heap.size + 1, 0, none⟩) n4 1 c4 1 (htW N) [((N - 2 - k : Nat) : Int) + 1] _ ((ho4.alloc (.cells #[.int .i64 N, .slice a15 n15 c15] 26)).alloc (.cells #[.int .i64 (((N - 2 - k : Nat) : Int) + 1)] 2)).row (Row.one _ (by simp) _ _) (by omega) (by omega) HBR.out HI2.out rfl (by have := HLL.out; simp; omega)).mono ?_
        rintro e w10 ⟨a17, n17, c17, rfl, ho17, hbw10⟩
        clear m4 m15 m16
        replace hL4 := ((hL4.alloc (.cells #[.int .i64 N, .slice a15 n15 c15] 26)).alloc (.cells #[.int .i64 (((N - 2 - k : Nat) : Int) + 1)] 2)).below hbw10 ((hL4.alloc (.cells #[.int .i64 N, .slice a15 n15 c15] 26)).alloc (.cells #[.int .i64 (((N - 2 - k : Nat) : Int) + 1)] 2)).lt
        replace l4 := hL4.two
        have hL15 := ((Loc.new w9 rfl #[.int .i64 N, .slice a15 n15 c15] 26).alloc (.cells #[.int .i64 (((N - 2 - k : Nat) : Int) + 1)] 2)).below hbw10 ((Loc.new w9 rfl #[.int .i64 N, .slice a15 n15 c15] 26).alloc (.cells #[.int .i64 (((N - 2 - k : Nat) : Int) + 1)] 2)).lt
        have l15 := hL15.two
        have hL16 := (Loc.new (w9.alloc (.cells #[.int .i64 N, .slice a15 n15 c15] 26)) rfl #[.int .i64 (((N - 2 - k : Nat) : Int) + 1)] 2).below hbw10 (Loc.new (w9.alloc (.cells #[.int .i64 N, .slice a15 n15 c15] 26)) rfl #[.int .i64 (((N - 2 - k : Nat) : Int) + 1)] 2).lt
        have l16 := hL16.one
        replace ho4 := ((ho4.alloc (.cells #[.int .i64 N, .slice a15 n15 c15] 26)).alloc (.cells #[.int .i64 (((N - 2 - k : Nat) : Int) + 1)] 2)).below hbw10
        replace ho15 := ((ho15.alloc (.cells #[.int .i64 N, .slice a15 n15 c15] 26)).alloc (.cells #[.int .i64 (((N - 2 - k : Nat) : Int) + 1)] 2)).below hbw10
        replace hB := below_th (below_al (below_al hB (.cells #[.int .i64 N, .slice a15 n15 c15] 26)) (.cells #[.int .i64 (((N - 2 - k : Nat) : Int) + 1)] 2)) hbw10
        clear l4b
        clear hL4 l4 hL16 l16
        obtain ⟨r1, hr1⟩ := br_nfo HI3.out
        obtain ⟨r2, hr2⟩ := br_nfo HI4.out
        obtain rfl : r1 = r2 := nfo_sim h2 (br_fx HI3.out) (br_fx HI4.out) HTS.out hr1 hr2
        have HR1 := Lib.hid hr1; have HR2 := Lib.hid hr2
        clear hr1 hr2
        have m15 := (hL15.alloc (.cells #[.int .i64 N, .slice a17 n17 c17] 26)).two
        have m17 := (Loc.new w10 rfl #[.int .i64 N, .slice a17 n17 c17] 26).two
        go_wp2_with fail
        refine (areEqualBraids_ok N a15 a17 n15 n17 c15 c17 _ _ r1 r1 _ (ho15.alloc (.cells #[.int .i64 N, .slice a17 n17 c17] 26)).row (ho17.alloc (.cells #[.int .i64 N, .slice a17 n17 c17] 26)).row HI3.out HI4.out HR1.out HR2.out).mono ?_
        rintro e w11 ⟨rfl, hbw11⟩
        clear m15 m17
        replace hL15 := (hL15.alloc (.cells #[.int .i64 N, .slice a17 n17 c17] 26)).below hbw11 (hL15.alloc (.cells #[.int .i64 N, .slice a17 n17 c17] 26)).lt
        replace l15 := hL15.two
        have hL17 := (Loc.new w10 rfl #[.int .i64 N, .slice a17 n17 c17] 26).below hbw11 (Loc.new w10 rfl #[.int .i64 N, .slice a17 n17 c17] 26).lt
        have l17 := hL17.two
        replace ho15 := (ho15.alloc (.cells #[.int .i64 N, .slice a17 n17 c17] 26)).below hbw11
        replace ho17 := (ho17.alloc (.cells #[.int .i64 N, .slice a17 n17 c17] 26)).below hbw11
        replace hB := below_th (below_al hB (.cells #[.int .i64 N, .slice a17 n17 c17] 26)) hbw11
        clear hL15 l15 hL17 l17
        have s8 : decide (r1 = r1) = true := by simp
        go_wp2_with fail
        refine (DrawNormalBraid_ok a n c xs _ (h.below hB) hn).mono ?_
        rintro e w12 ⟨S, a21, n21, c21, ys, rfl, hS1, hS2, hn21, hsm, ho21, hbw12⟩
        replace hB := below_th hB hbw12
        clear HWD HBR HLN HNF HBP HN4 HI1 HI2 HI3 HI4 HLL HTS HR1 HR2
        cases hbr : isBr S ys with
        | false =>
          have m21 := (Loc.new w12 rfl #[.int .i64 S, .slice a21 n21 c21] 26).two
          go_wp2_with fail
          refine (normalBraid_no S a21 n21 c21 ys _ (ho21.alloc (.cells #[.int .i64 S, .slice a21 n21 c21] 26)).row (by omega) hbr).mono ?_
          rintro e w13 ⟨rfl, hbw13⟩
          clear m21
          have hL21 := (Loc.new w12 rfl #[.int .i64 S, .slice a21 n21 c21] 26).below hbw13 (Loc.new w12 rfl #[.int .i64 S, .slice a21 n21 c21] 26).lt
          have l21 := hL21.two
          replace ho21 := (ho21.alloc (.cells #[.int .i64 S, .slice a21 n21 c21] 26)).below hbw13
          replace hB := below_th (below_al hB (.cells #[.int .i64 S, .slice a21 n21 c21] 26)) hbw13
          go_wp2_with fail
          refine (specNormal_no S a21 n21 c21 ys _ ho21.row (by omega) ⟨by omega, by omega⟩ hbr).mono ?_
          rintro e w14 ⟨rfl, hbw14⟩
          replace hL21 := hL21.below hbw14 hL21.lt
          replace l21 := hL21.two
          replace ho21 := ho21.below hbw14
          replace hB := below_th hB hbw14
          go_wp2_with fail
          refine (same9_same _ _ _ _ _ _ [] _ (Tbl.nil _ _) (Tbl.nil _ _) (by omega)).mono ?_
          rintro e w15 ⟨rfl, hbw15⟩
          replace hL21 := hL21.below hbw15 hL21.lt
          replace l21 := hL21.two
          replace ho21 := ho21.below hbw15
          replace hB := below_th hB hbw15
          go_wp2
          go_ret
          exact ⟨rfl, hB⟩
        | true =>
          have hS := (isBr_let hbr).1
          obtain ⟨M, rfl⟩ : ∃ M : Nat, S = M := ⟨S.toNat, by omega⟩
          have hM2 : 2 ≤ M := by omega
          have hM6 : M ≤ 6 := by omega
          clear hS hS1 hS2
          have HBR : Hid (isBr M ys = true) := Lib.hid hbr
          clear hbr
          obtain ⟨r, hr⟩ := br_nfo HBR.out
          have HNF := Lib.hid hr
          clear hr
          have m21 := (Loc.new w12 rfl #[.int .i64 M, .slice a21 n21 c21] 26).two
          go_wp2_with fail
          refine (normalBraid_ok M a21 n21 c21 ys r _ (ho21.alloc (.cells #[.int .i64 M, .slice a21 n21 c21] 26)).row HBR.out HNF.out).mono ?_
          rintro e w13 ⟨ap, mP, cP, rfl, hop, hbw13, hr1, hr2, hmP, hrl⟩
          clear m21
          have hL21 := (Loc.new w12 rfl #[.int .i64 M, .slice a21 n21 c21] 26).below hbw13 (Loc.new w12 rfl #[.int .i64 M, .slice a21 n21 c21] 26).lt
          have l21 := hL21.two
          replace ho21 := (ho21.alloc (.cells #[.int .i64 M, .slice a21 n21 c21] 26)).below hbw13
          replace hB := below_th (below_al hB (.cells #[.int .i64 M, .slice a21 n21 c21] 26)) hbw13
          go_wp2_with fail
          refine (specNormal_ok M a21 n21 c21 ys r _ ho21.row HBR.out HNF.out).mono ?_
          rintro e w14 ⟨ap', mP', cP', rfl, hoq, hbw14, _, _, hmP', _⟩
          replace hL21 := hL21.below hbw14 hL21.lt
          replace l21 := hL21.two
          replace ho21 := ho21.below hbw14
          replace hop := hop.below hbw14
          replace hB := below_th hB hbw14
          have t1 : (r.1 != r.1) = false := by simp
          go_wp2_with fail
          refine (same9_same _ _ _ _ _ _ r.2 _ hop hoq (by omega)).mono ?_
          rintro e w15 ⟨rfl, hbw15⟩
          replace hL21 := hL21.below hbw15 hL21.lt
          replace l21 := hL21.two
          replace ho21 := ho21.below hbw15
          replace hop := hop.below hbw15
          replace hoq := hoq.below hbw15
          replace hB := below_th hB hbw15
          go_wp2_with fail
          refine (impl_Ht_ok M _ hM2 hM6).mono ?_
          rintro e w16 ⟨a28, n28, c28, rfl, ho28, hbw16⟩
          replace hL21 := hL21.below hbw16 hL21.lt
          replace l21 := hL21.two
          replace ho21 := ho21.below hbw16
          replace hop := hop.below hbw16
          replace hB := below_th hB hbw16
          obtain ⟨E, HE⟩ : ∃ E, Hid (r.1 = E) := ⟨_, rfl⟩
          have hbk := nfo_back (br_fx HBR.out) HNF.out
          obtain ⟨Z, hZ1, hZ2, hZ3⟩ := hbk
          rw [HE.out] at hr1 hr2 hZ3
          have HZ1 := Lib.hid hZ1; have HZ2 := Lib.hid hZ2; have HZ3 := Lib.hid hZ3
          obtain ⟨V0, hV0⟩ : ∃ V0, w16.alloc (.cells #[.int .i64 M, .slice a28 n28 c28] 26) = V0 := ⟨_, rfl⟩
          have hL28 : Loc V0 w16.heap.size #[.int .i64 M, .slice a28 n28 c28] 26 := by rw [← hV0]; exact Loc.new _ rfl _ _
          have hL21v := hL21.alloc (.cells #[.int .i64 M, .slice a28 n28 c28] 26)
          rw [hV0] at hL21v
          have ho21v := ho21.alloc (.cells #[.int .i64 M, .slice a28 n28 c28] 26)
          rw [hV0] at ho21v
          have ho28v := ho28.alloc (.cells #[.int .i64 M, .slice a28 n28 c28] 26)
          rw [hV0] at ho28v
          have hopv := hop.alloc (.cells #[.int .i64 M, .slice a28 n28 c28] 26)
          rw [hV0] at hopv
          have hBv : Below w.heap.size w V0 := by rw [← hV0]; exact below_al hB _
          have hzV : w16.heap.size + 1 = V0.heap.size := by rw [← hV0]; simp
          have HV0 := Lib.hid hV0
          have HMP : Hid (mP = Z.length) := Lib.hid (by have := hop.len; rw [hZ2, List.length_map] at this; exact this)
          have HT15 : Hid (n28 = (htW M).length) := Lib.hid ho28.len
          have hn28 : n28 ≤ 15 := by rw [HT15.out]; exact Nat.le_trans (Nat.le_of_eq (htW_len ⟨M, by omega⟩)) (htW_bd ⟨M, by omega⟩)
          have HXB : Hid (∀ q, -6 ≤ (htW M).getD q 0 ∧ (htW M).getD q 0 ≤ 6) := Lib.hid (htW_gb hM2 hM6)
          have HIV : Hid (∀ u, u < n28 → (invL (htW M)).take (u + 1) = (invL (htW M)).take u ++ [-((htW M).getD (n28 - 1 - u) 0)]) := Lib.hid (by rw [HT15.out]; exact invL_take (htW M))
          have HIL : Hid ((invL (htW M)).take n28 = invL (htW M)) := Lib.hid (List.take_of_length_le (by rw [HT15.out]; simp [invL]))
          clear hL21 l21 ho21 ho28 hop hB hV0 hZ1 hZ2 hZ3 hrl
          obtain ⟨P, HP⟩ : ∃ P, Hid (P = E.toNat) := ⟨_, rfl⟩
          obtain ⟨Q, HQ⟩ : ∃ Q, Hid (Q = (-E).toNat) := ⟨_, rfl⟩
          have hP1 : (0 < E → (P : Int) = E) ∧ (¬ 0 < E → P = 0) := by have := HP.out; omega
          have hQ1 : (E < 0 → (Q : Int) = -E) ∧ (¬ E < 0 → Q = 0) := by have := HQ.out; omega
          have HPP := Lib.hid hP1; have HQQ := Lib.hid hQ1
          have hP100 : P ≤ 100 := by have := HP.out; omega
          have hQ100 : Q ≤ 100 := by have := HQ.out; omega
          clear hP1 hQ1 t1
          rw [HE.out]
          go_wp2_with fail
          rw [HV0.out]
  
          go_loopw [30, 31] (fun wd i' wr => ∃ (j : Nat) (aw : Option Addr) (m cw : Nat) (X : List Int), j ≤ P ∧ i' = .int .i64 (E - (j : Int)) ∧ wd = .slice aw m cw ∧ Own wr V0.heap.size aw m cw X ∧ Below V0.heap.size V0 wr ∧ Hid (WA M X j []) ∧ m ≤ 15 * j) (fun _ i' _ => (intOf i').toNat)
          case atStart => exact ⟨0, some ⟨V0.heap.size, 0, none⟩, 0, 0, [], Nat.zero_le _, by simp, rfl, Own.fresh V0 rfl, below_al (Below.refl _ _) _, Lib.hid (WA.start M), by omega⟩
          case round =>
            obtain ⟨j, aw, m, cw, X, hj, rfl, rfl, ho, hb, HX, hm⟩ := hrel
            obtain ⟨V1, rfl⟩ : ∃ V : World, V = wr := ⟨_, rfl⟩
            have hz := hb.size
            have l28r := (hL28.below hb hL28.lt).two
            by_cases hlt : (0 : Int) < E - (j : Int)
            · have hr28 := ho28v.row.below hb
              have hw1 : IntKind.i64.wrap (E - (j : Int) - 1) = E - ((j + 1 : Nat) : Int) := (IntWalk.i64_in _ ⟨by omega, by omega⟩).trans (by omega)
              have hjP : j + 1 ≤ P := by have := HPP.out; omega
              go_wp2_with (at_builtin; refine appL rfl rfl ho rfl hr28 rfl (by omega) (by omega) ?_; intro a' c' w' hO hg' hb')
              go_roundw
              case rel => exact ⟨j + 1, a', m + n28, c', X ++ htW M, hjP, by first | rfl | simp, rfl, hO, hb.trans hb', Lib.hid (by rw [Int.natCast_succ]; exact HX.out.up hM2 hM6), by omega⟩
              case measure => simp [intOf]; omega
            · go_wp2
              go_loopw [30, 32, 33] (fun wd i' _ wr => ∃ (t : Nat) (aw : Option Addr) (m cw : Nat) (X : List Int), t ≤ Q ∧ i' = .int .i64 (E + (t : Int)) ∧ wd = .slice aw m cw ∧ Own wr V0.heap.size aw m cw X ∧ Below V0.heap.size V0 wr ∧ Hid (WA M X ((j : Int) - (t : Int)) []) ∧ m ≤ 15 * (j + t)) (fun _ i' _ _ => (-(intOf i')).toNat)
              case atStart => exact ⟨0, aw, m, cw, X, Nat.zero_le _, by simp, rfl, ho, hb, Lib.hid (by simpa using HX.out), by omega⟩
              case round =>
                clear ho hb hz l28r HX hm
                obtain ⟨t, aw, m, cw, X, ht, rfl, rfl, ho, hb, HX, hm⟩ := hrel
                obtain ⟨V2, rfl⟩ : ∃ V : World, V = wr := ⟨_, rfl⟩
                have hz := hb.size
                have l28r := (hL28.below hb hL28.lt).two
                by_cases hlt3 : E + (t : Int) < 0
                · have htQ : t + 1 ≤ Q := by have := HQQ.out; omega
                  have hw1 : IntKind.i64.wrap (E + (t : Int) + 1) = E + ((t + 1 : Nat) : Int) := (IntWalk.i64_in _ ⟨by omega, by omega⟩).trans (by omega)
                  have hw2 : IntKind.i64.wrap ((n28 : Int) - 1) = (n28 : Int) - 1 := IntWalk.i64_in _ ⟨by omega, by omega⟩
                  go_wp2
                  go_loopw [30, 33] (fun wd k' wr => ∃ (v : Nat) (aw : Option Addr) (m2 cw : Nat), v ≤ n28 ∧ k' = .int .i64 ((v : Int) - 1) ∧ wd = .slice aw m2 cw ∧ Own wr V0.heap.size aw m2 cw (X ++ (invL (htW M)).take (n28 - v)) ∧ Below V0.heap.size V0 wr ∧ m2 + v = m + n28) (fun _ k' _ => (intOf k' + 1).toNat)
                  case atStart => exact ⟨n28, aw, m, cw, Nat.le_refl _, rfl, rfl, by simpa using ho, hb, rfl⟩
                  case round =>
                    clear ho hb hz l28r
                    obtain ⟨v, aw, m2, cw, hv, hk, rfl, ho, hb, hm2⟩ := hrel
                    obtain ⟨V3, rfl⟩ : ∃ V : World, V = wr := ⟨_, rfl⟩
                    have hz := hb.size
                    have l28r := (hL28.below hb hL28.lt).two
                    rcases v with _ | q
                    · obtain rfl := hk
                      rw [Nat.sub_zero, HIL.out] at ho
                      have q0 : ((0 : Nat) : Int) - 1 = -1 := by omega
                      rw [q0]
                      go_wp2
                      go_roundw
                      case rel => exact ⟨t + 1, aw, m2, cw, X ++ invL (htW M), htQ, by first | rfl | simp, rfl, ho, hb, Lib.hid (by rw [show (j : Int) - ((t + 1 : Nat) : Int) = (j : Int) - (t : Int) - 1 by omega]; exact HX.out.dn hM2 hM6), by omega⟩
                      case measure => simp [intOf]; omega
                    · obtain rfl := hk.trans (show Value.int .i64 (((q + 1 : Nat) : Int) - 1) = .int .i64 (q : Int) by rw [show (((q + 1 : Nat) : Int) - 1) = (q : Int) by omega])
                      obtain ⟨b8, o8, rfl, g8⟩ := (ho28v.row.below hb).at q (by omega)
                      have hxb := HXB.out q
                      have hIV := HIV.out (n28 - (q + 1)) (by omega)
                      rw [show n28 - (q + 1) + 1 = n28 - q by omega, show n28 - 1 - (n28 - (q + 1)) = q by omega] at hIV
                      have HI := Lib.hid hIV
                      obtain ⟨Y, HY⟩ : ∃ Y, Hid ((htW M).getD q 0 = Y) := ⟨_, rfl⟩
                      rw [HY.out] at g8 hxb
                      obtain ⟨hy1, hy2⟩ := hxb
                      have hng : IntKind.i64.wrap (-Y) = -Y := IntWalk.i64_in _ ⟨by omega, by omega⟩
                      have i1 : (0 : Int) ≤ (q : Int) := by omega
                      have i2 : (q : Int) < (n28 : Int) := by omega
                      have hw3 : IntKind.i64.wrap ((q : Int) - 1) = (q : Int) - 1 := IntWalk.i64_in _ ⟨by omega, by omega⟩
                      clear hIV
                      go_wp2_with (at_builtin; refine app1 rfl rfl ho rfl rfl (by omega) (by omega) ?_; intro g' c' w' hO hg' hs' hb')
                      go_roundw
                      case rel => exact ⟨q, _, m2 + 1, c', by omega, rfl, rfl, by rw [HI.out, HY.out, ← List.append_assoc]; exact hO, hb.trans hb', by omega⟩
                      case measure => simp [intOf]; try omega
                · have hjt : (j : Int) - (t : Int) = E := by have := HPP.out; have := HQQ.out; omega
                  rw [hjt] at HX
                  clear hjt
                  go_wp2
                  go_loopw [30, 34, 35, 36, 37] (fun wd i' _ _ _ wr => ∃ (i : Nat) (aw : Option Addr) (m cw : Nat) (X : List Int), i ≤ mP ∧ i' = .int .i64 i ∧ wd = .slice aw m cw ∧ Own wr V0.heap.size aw m cw X ∧ Below V0.heap.size V0 wr ∧ Hid (WA M X E (Z.take i)) ∧ m ≤ 3000 + 300 * i) (fun _ i' _ _ _ _ => mP - (intOf i').toNat)
                  case atStart => exact ⟨0, aw, m, cw, X, Nat.zero_le _, rfl, rfl, ho, hb, Lib.hid (by simpa using HX.out), by omega⟩
                  case round =>
                    clear ho hb hz l28r HX hm
                    obtain ⟨i, aw, m, cw, X, hi, rfl, rfl, ho, hb, HX, hm⟩ := hrel
                    obtain ⟨V4, rfl⟩ : ∃ V : World, V = wr := ⟨_, rfl⟩
                    have hz := hb.size
                    have l21r := (hL21v.below hb hL21v.lt).two
                    by_cases hlt5 : i < mP
                    · obtain ⟨bp, op, ai, ni, ci, rfl, gp, hrow, hni⟩ := ((hopv.below hb).alloc (.cells #[] 2)).at i hlt5
                      have hiZ : i < Z.length := by have := HMP.out; omega
                      have hge : r.2.getD i [] = toL M (Z.getD i Pm.one) := by rw [HZ2.out]; simp [List.getD_eq_getElem?_getD, List.getElem?_eq_getElem hiZ]
                      have hfp : Fx M (Z.getD i Pm.one) := HZ1.out _ (by rw [List.getD_eq_getElem?_getD, List.getElem?_eq_getElem hiZ]; exact List.getElem_mem _)
                      have HTK : Hid (Z.take (i + 1) = Z.take i ++ [Z.getD i Pm.one]) := Lib.hid (by rw [List.take_succ_eq_append_getElem hiZ, List.getD_eq_getElem?_getD, List.getElem?_eq_getElem hiZ, Option.getD_some])
                      rw [hge] at hrow
                      obtain ⟨p0, HP0⟩ : ∃ p, Hid (Z.getD i Pm.one = p) := ⟨_, rfl⟩
                      rw [HP0.out] at hrow hfp HTK
                      obtain rfl : M = ni := by have := hrow.len; rw [toL_len] at this; exact this.symm
                      have HFP := Lib.hid hfp
                      have i1 : (0 : Int) ≤ (i : Int) := by omega
                      have i2 : (i : Int) < (mP : Int) := by omega
                      clear hge hiZ hfp
                      go_wp2_with (at_builtin; refine appL rfl rfl (Own.fresh V4 rfl) rfl hrow rfl (by omega) (by simp) ?_; intro aq cq w7 hq hgq hbq; rw [Nat.zero_add] at hq ⊢)
                      rw [List.nil_append] at hq
                      have hb7 : Below V4.heap.size V4 w7 := ((Below.refl _ _).alloc (Nat.le_refl _) _).trans hbq
                      have ho7 := ho.below hb7
                      have hbv7 := below_th hb hb7
                      have hap7 : Apr aq aw := fun g e1 e2 => by have := hq.lo g e1; have := ho.hi g e2; omega
                      have hz7 := hb7.size
                      clear gp hrow l21r hbq hgq
                      go_loopg [30, 36, 37] ((216 - mom M p0) * 7 + M) (fun gm wd k' _ wr => ∃ (k : Nat) (aw : Option Addr) (m2 cw : Nat) (X2 : List Int) (p : Pm), k < M ∧ k' = .int .i64 k ∧ wd = .slice aw m2 cw ∧ Hid (gm = (216 - mom M p) * 7 + (M - k)) ∧ Own wr V0.heap.size aw m2 cw X2 ∧ Own wr V4.heap.size aq M cq (toL M p) ∧ Apr aq aw ∧ Below V0.heap.size V0 wr ∧ Hid (WB M X2 p E (Z.take (i + 1))) ∧ Hid (∀ j, j < k → ¬ St p j) ∧ Hid (m2 ≤ m + mom M p) ∧ V4.heap.size ≤ wr.heap.size)
                      case atStart => exact ⟨0, aw, m, cw, X, p0, by omega, rfl, rfl, Lib.hid (by simp), ho7, hq, hap7, hbv7, Lib.hid (by rw [HTK.out]; exact HX.out.more HFP.out), Lib.hid (fun j hj => absurd hj (by omega)), Lib.hid (by omega), hz7⟩
                      case round =>
                        clear ho7 hq hap7 hbv7
                        obtain ⟨k, aw, m2, cw, X2, p, hk, rfl, rfl, HG, ho, hq, hap, hb, HW, HS, Hm, hz⟩ := hrel
                        obtain ⟨V5, rfl⟩ : ∃ V : World, V = wr := ⟨_, rfl⟩
                        have hzz := hb.size
                        have hm216 := mom_le hM6 HW.out.fp
                        have hmm : m2 ≤ m + 216 := by have := Hm.out; omega
                        by_cases hk1 : k + 1 < M
                        · obtain ⟨gq, oq, rfl, gx⟩ := hq.row.at k (by omega)
                          obtain ⟨gq', oq', e5, gy⟩ := hq.row.at (k + 1) hk1
                          cases e5
                          obtain ⟨rfl, hc, hf⟩ := hq.cells
                          rw [toL_get (by omega), Nat.zero_add] at gx
                          rw [toL_get hk1, Nat.zero_add] at gy
                          have i3 : (0 : Int) ≤ (k : Int) := by omega
                          have i4 : (k : Int) < (M : Int) := by omega
                          have i5 : ((k + 1 : Nat) : Int) < (M : Int) := by omega
                          have i6 : (k : Int) + 1 < (M : Int) := by omega
                          have hwj : IntKind.i64.wrap ((k : Int) + 1) = ((k + 1 : Nat) : Int) := (IntWalk.i64_in _ (by omega)).trans (by simp)
                          obtain ⟨x1, HX1⟩ : ∃ x : Int, Hid ((p.f k : Int) = x) := ⟨_, rfl⟩
                          obtain ⟨y1, HY1⟩ : ∃ y : Int, Hid ((p.f (k + 1) : Int) = y) := ⟨_, rfl⟩
                          rw [HX1.out] at gx
                          rw [HY1.out] at gy
                          clear hc hf
                          by_cases hst : St p k
                          · have d1 : decide (x1 < y1) = false := decide_eq_false (by unfold St at hst; have := HX1.out; have := HY1.out; omega)
                            have HST := Lib.hid hst
                            clear hst
                            go_wp2
                            go_quiet (fail)
                            obtain ⟨V6, hV6⟩ : ∃ V6, V5.drewN nq = V6 := ⟨_, rfl⟩
                            have ho6 : Own V6 V0.heap.size aw m2 cw X2 := by rw [← hV6]; exact ho.drewN _
                            have hq6 : Own V6 V4.heap.size (some ⟨gq, 0, none⟩) M cq (toL M p) := by rw [← hV6]; exact hq.drewN _
                            have hb6 : Below V0.heap.size V0 V6 := by rw [← hV6]; exact below_drewN hb _
                            have hz6 : V5.heap.size ≤ V6.heap.size := by rw [← hV6]; exact Nat.le_refl _
                            rw [hV6]
                            clear hV6 ho hq hb gx gy
                            go_wp2_with (at_builtin; refine app1h rfl rfl ho6 rfl rfl (by omega) (by omega) ?_; intro g' c' w8 hO hg8 hat8 hb8; have hq8 := hq6.beside ho6 hap hg8; have hap8 := hq6.apart ho6 hap hat8; have gx8 := hq8.cells.2.1 k (by omega); have gy8 := hq8.cells.2.1 (k + 1) hk1; have fx8 := hq8.cells.2.2 k; have fy8 := hq8.cells.2.2 (k + 1); rw [toL_get (by omega), HX1.out] at gx8; rw [toL_get hk1, HY1.out] at gy8; have hz8 := hg8.size; clear hg8 hat8)
                            have hb9 : Below V0.heap.size V0 w8 := hb6.trans hb8
                            have hz9 : V4.heap.size ≤ w8.heap.size := by omega
                            have HSW : Hid (((toL M p).set k y1).set (k + 1) x1 = toL M ((Pm.s k).m p)) := Lib.hid (by
                              rw [← swp_toL hk1]; unfold swp; rw [toL_get (i := k + 1) hk1, toL_get (i := k) (by omega), HX1.out, HY1.out])
                            have hmu := mom_up HW.out.fp HST.out
                            have hmu2 := mom_le hM6 ((Fx.s hk1).m HW.out.fp)
                            have HMU := Lib.hid hmu
                            have HMV := Lib.hid hmu2
                            clear hmu hmu2 hq6 ho6 hap hb6
                            have HNE : Hid (∀ g, some ⟨g', 0, none⟩ = some (⟨g, 0, none⟩ : Addr) → g ≠ gq) := Lib.hid fun g e e2 => by subst e2; exact hap8 g rfl e
                            go_wp2
                            go_roundg ((216 - mom M ((Pm.s k).m p)) * 7 + M)
                            case measure => have := HG.out; have := HMU.out; have := HMV.out; omega
                            case rel =>
                              refine ⟨0, some ⟨g', 0, none⟩, m2 + 1, c', X2 ++ [(k : Int) + 1], (Pm.s k).m p, by omega, rfl, rfl, Lib.hid (by simp), ?_, ?_, hap8, ?_, Lib.hid (HW.out.step HST.out), Lib.hid (fun j hj => absurd hj (by omega)), Lib.hid (by have := Hm.out; have := HMU.out; omega), by rw [size_set, size_set]; exact hz9⟩
                              · exact (hO.setne HNE.out _).setne HNE.out _
                              · rw [← HSW.out]; exact (hq8.set k _).set (k + 1) _
                              · have := hq8.lt; exact (hb9.setCell (by show V0.heap.size ≤ gq; omega) _).setCell (by show V0.heap.size ≤ gq; omega) _
                          · have d1 : decide (x1 < y1) = true := decide_eq_true (by have := not_st hst; have := HX1.out; have := HY1.out; omega)
                            have HST := Lib.hid hst
                            clear hst
                            go_wp2
                            go_quiet (fail)
                            go_wp2
                            go_roundg ((216 - mom M p) * 7 + (M - (k + 1)))
                            case measure => have := HG.out; omega
                            case rel =>
                              exact ⟨k + 1, aw, m2, cw, X2, p, hk1, by go_num, rfl, Lib.hid rfl, ho.drewN _, hq.drewN _, hap, below_drewN hb _, HW, Lib.hid (fun j hj => by
                                by_cases e : j < k
                                · exact HS.out j e
                                · obtain rfl : j = k := by omega
                                  exact HST.out), Hm, hz⟩
                        · have i6 : ¬ (k : Int) + 1 < (M : Int) := by omega
                          have hwj : IntKind.i64.wrap ((k : Int) + 1) = (k : Int) + 1 := IntWalk.i64_in _ (by omega)
                          have hWA : WA M X2 E (Z.take (i + 1)) := HW.out.close (fun j hj => HS.out j (by omega))
                          have HWA := Lib.hid hWA
                          clear hWA
                          go_wp2
                          go_roundw
                          case rel => exact ⟨i + 1, aw, m2, cw, X2, by omega, by go_num, rfl, ho, hb, HWA, by omega⟩
                          case measure => simp [intOf]; omega
                    · obtain rfl : mP = i := by omega
                      by_cases h30 : m ≤ 30
                      · have HXL := Lib.hid ho.len
                        have i1 : ¬ (30 : Int) < (m : Int) := by omega
                        have hbX : isBr M X = true := ltr_br hM2 hM6 HX.out.ltr (by have := HXL.out; omega)
                        obtain ⟨r', hr'⟩ := br_nfo hbX
                        have hZm : Z.take mP = Z := List.take_of_length_le (by have := HMP.out; omega)
                        have hX2 := HX.out
                        rw [hZm] at hX2
                        have err : r = r' := WA.same (r := r) hM2 (by rw [HE.out]; exact hX2) (br_ltr HBR.out).2.2.2 (by rw [HE.out]; exact HZ3.out) HNF.out hr'
                        subst err
                        have HBX := Lib.hid hbX
                        have HR2 := Lib.hid hr'
                        have t5 : decide (r = r) = true := by simp
                        clear hbX hr' hX2 hZm
                        go_wp2_with fail
                        refine (areEqualBraids_ok M a21 aw n21 m c21 cw ys X r r _ (ho21v.below hb).row ho.row HBR.out HBX.out HNF.out HR2.out).mono ?_
                        rintro e w9 ⟨rfl, hb9⟩
                        go_wp2
                        go_ret
                        exact ⟨rfl, below_th (below_th hBv hb) hb9⟩
                      · have i1 : (30 : Int) < (m : Int) := by omega
                        go_wp2
                        go_ret
                        exact ⟨rfl, below_th hBv hb⟩
  
  · go_wp2_with fail
    refine (impl_Ht_no x _ hx).mono ?_
    rintro e w2 ⟨a4, n4, c4, rfl, ho4, hbw2⟩
    replace hB := below_th hB hbw2
    have m4 := (Loc.new w2 rfl #[.int .i64 0, .slice a4 n4 c4] 26).two
    go_wp2_with fail
    refine (spec_Ht_no x _ hx).mono ?_
    rintro e w3 ⟨a6, n6, c6, rfl, ho6, hbw3⟩
    clear m4
    have hL4 := (Loc.new w2 rfl #[.int .i64 0, .slice a4 n4 c4] 26).below hbw3 (Loc.new w2 rfl #[.int .i64 0, .slice a4 n4 c4] 26).lt
    have l4 := hL4.two
    replace ho4 := (ho4.alloc (.cells #[.int .i64 0, .slice a4 n4 c4] 26)).below hbw3
    replace hB := below_th (below_al hB (.cells #[.int .i64 0, .slice a4 n4 c4] 26)) hbw3
    have m4 := (hL4.alloc (.cells #[.int .i64 0, .slice a6 n6 c6] 26)).two
    have m6 := (Loc.new w3 rfl #[.int .i64 0, .slice a6 n6 c6] 26).two
    go_wp2_with fail
    refine (braid9_same _ _ _ _ _ _ _ [] _ (ho4.alloc (.cells #[.int .i64 0, .slice a6 n6 c6] 26)).row (ho6.alloc (.cells #[.int .i64 0, .slice a6 n6 c6] 26)).row (by have := ho4.len; simp at this; omega)).mono ?_
    rintro e w4 ⟨rfl, hbw4⟩
    clear m4 m6
    replace hL4 := (hL4.alloc (.cells #[.int .i64 0, .slice a6 n6 c6] 26)).below hbw4 (hL4.alloc (.cells #[.int .i64 0, .slice a6 n6 c6] 26)).lt
    replace l4 := hL4.two
    have hL6 := (Loc.new w3 rfl #[.int .i64 0, .slice a6 n6 c6] 26).below hbw4 (Loc.new w3 rfl #[.int .i64 0, .slice a6 n6 c6] 26).lt
    have l6 := hL6.two
    replace ho4 := (ho4.alloc (.cells #[.int .i64 0, .slice a6 n6 c6] 26)).below hbw4
    replace ho6 := (ho6.alloc (.cells #[.int .i64 0, .slice a6 n6 c6] 26)).below hbw4
    replace hB := below_th (below_al hB (.cells #[.int .i64 0, .slice a6 n6 c6] 26)) hbw4
    obtain rfl : n4 = 0 := by have := ho4.len; simpa using this
    go_wp2
    go_ret
    exact ⟨rfl, hB⟩
end Go.Proofs.Ytgnaeeifnhgobaa
