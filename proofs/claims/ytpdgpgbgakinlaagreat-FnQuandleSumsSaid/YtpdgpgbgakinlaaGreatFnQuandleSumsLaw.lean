/-
  The walk of the law of quandles' state sums: it answers true.
  No condition.
-/
import Derived.Test.YtpdgpgbgakinlaaGreatPa43
import Derived.Test.YtpdgpgbgakinlaaGreatPa45
import Derived.Test.YtpdgpgbgakinlaaGreatPa37
import Derived.Deep.DeepCutAuto
namespace Go.Proofs.YtpdgpgbgakinlaaGreat
set_option maxRecDepth 100000
set_option linter.unusedVariables false
set_option linter.unusedSimpArgs false
open Go.RowKit
set_option maxHeartbeats 64000000 in
theorem law_Qss (a : Option Addr) (n c : Nat) (xs : List Int) (w : World) (h : Bts w a n xs) (hn : n ≤ 9223372036854775807) :
    Calls Tryz.prog 4 #[.slice a n c] w fun e w' => e = .returned (.bool true) ∧ Below w.heap.size w w' := by
  go_enter Tryz.func4, Tryz.ntmps4
  go_wp2_with fail
  refine (big_any a n c _ hn).mono ?_
  rintro e w0 ⟨rfl, rfl⟩
  by_cases hbig : 4096 < n
  · have hd : decide (4096 < n) = true := by simpa using hbig
    rw [hd]
    go_wp2
    go_ret
    exact ⟨rfl, Below.refl _ _⟩
  have hd : decide (4096 < n) = false := by simpa using hbig
  rw [hd]
  clear hd hbig
  go_wp2_with fail
  refine (DrawQuandleStateSum_ok a n c xs _ h hn).mono ?_
  rintro e w1 ⟨a1, n1, c1, T, m, am, nm, cm, F, S, ab, nb, cb, ys, rfl, hn1, hnm, hm1, hm2, hS1, hS2, hnb, hcb1, hcb2, hsm, hoT, hoF, hob, hb1⟩
  have HSM : Hid (I64s ys) := Lib.hid fun x hx => by have := hsm x hx; exact ⟨by omega, by omega⟩
  have HLB := Lib.hid hob.len
  obtain ⟨w2, hw2⟩ : ∃ w2, (w1.alloc (.cells #[.slice a1 n1 c1] 45)).alloc (.cells #[.int .i64 S, .slice ab nb cb] 29) = w2 := ⟨_, rfl⟩
  have hb2 : Below w1.heap.size w1 w2 := by rw [← hw2]; exact below_al (below_al (Below.refl _ _) _) _
  have hL3 : Loc w2 w1.heap.size #[.slice a1 n1 c1] 45 := by rw [← hw2]; exact (Loc.new w1 rfl _ _).alloc _
  have hL6 : Loc w2 (w1.heap.size + 1) #[.int .i64 S, .slice ab nb cb] 29 := by rw [← hw2]; exact Loc.new _ (by simp) _ _
  replace hoT := hoT.below hb2
  replace hoF := hoF.below hb2
  replace hob := hob.below hb2
  have hB2 := below_th hb1 hb2
  have l3 := hL3.one
  have l6 := hL6.two
  have HW2 := Lib.hid hw2
  clear hw2 hb1 hb2 hsm
  obtain ⟨L, K, hLK⟩ : ∃ L K, qsF T m F S ys = (L, K) := ⟨_, _, rfl⟩
  have HQI : Hid (∀ (v : World) (s : Int) (az : Option Addr) (nz cz : Nat) (zs : List Int) (L' : List Int) (K' : Int), qsF T m F s zs = (L', K') → Below w2.heap.size w2 v → I64 s → Row v az nz zs → nz ≤ 9223372036854775807 → I64s zs → nz ≤ cz ∧ cz ≤ 9223372036854775807 → Calls Tryz.prog 17 #[rAgg a1 n1 c1, .int .i64 m, .slice am nm cm, bAgg s az nz cz] v (RetR v L' K')) := Lib.hid fun v s az nz cz zs L' K' e q hs hz hnz hzi hc => by have := impl_Qs_l a1 n1 c1 T m am nm cm F s az nz cz zs v (hoT.below q) (by omega) ⟨by omega, by omega⟩ (hoF.below q) (by omega) hs hz hnz hzi hc; rw [e] at this; exact this
  have HQS : Hid (∀ v : World, Below w2.heap.size w2 v → Calls Tryz.prog 18 #[rAgg a1 n1 c1, .int .i64 m, .slice am nm cm, bAgg S ab nb cb] v (RetR v L K)) := Lib.hid fun v q => by have := spec_Qs_l a1 n1 c1 T m am nm cm F S ab nb cb ys v (hoT.below q) (by omega) ⟨by omega, by omega⟩ (hoF.below q) (by omega) ⟨by omega, by omega⟩ (hob.below q) (by omega) HSM.out ⟨hcb1, hcb2⟩; rw [hLK] at this; exact this
  have HLK := Lib.hid hLK
  have uK : (K != K) = false := by simp
  clear hLK
  go_wp2_with fail
  try rw [HW2.out]
  refine (HQI.out _ S ab nb cb ys L K HLK.out (Below.refl _ _) ⟨by omega, by omega⟩ hob (by omega) HSM.out ⟨hcb1, hcb2⟩).mono ?_
  rintro e w3 ⟨a3, n3, c3, rfl, ho3, hQ3⟩
  have l3c := (hL3.below hQ3 hL3.lt).one
  have l6c := (hL6.below hQ3 hL6.lt).two
  go_wp2_with fail
  refine (HQS.out _ hQ3).mono ?_
  rintro e w4 ⟨a4, n4, c4, rfl, ho4, hb4⟩
  have hQ4 := below_th hQ3 hb4
  replace ho3 := ho3.below hb4
  have hc3 := ho3.cap
  clear l3c l6c
  go_wp2_with fail
  refine (likeInts_same a3 a4 n3 n4 c3 c4 L _ ho3.row ho4.row (by omega)).mono ?_
  rintro e w5 ⟨rfl, hb5⟩
  have hQ5 := below_th hQ4 hb5
  replace ho3 := ho3.below hb5
  have hB5 := below_th hB2 hQ5
  clear ho4 uK hQ3 hQ4 hb4 hb5 HQS
  rcases qs_facts T m F S ys with ⟨k0, hk0, hk2⟩ | ⟨N, rfl, hrk, hbr, hmx, hqw, hst⟩
  · have e0 := HLK.out.symm.trans hk2
    obtain ⟨rfl, rfl⟩ : L = [] ∧ K = k0 := ⟨congrArg Prod.fst e0, congrArg Prod.snd e0⟩
    have hK0 : (K != 0) = true := by simpa using hk0
    clear e0 hk0 hk2
    go_wp2
    go_ret
    exact ⟨rfl, hB5⟩
  have e0 := HLK.out.symm.trans hst
  obtain rfl : K = 0 := congrArg Prod.snd e0
  have hN26 := (isBr_let hbr).1
  have HRK := Lib.hid hrk; have HBR := Lib.hid hbr; have HMX := Lib.hid hmx; have HQW := Lib.hid hqw
  clear e0 hst hrk hbr hmx hqw
  go_wp2_with fail
  refine (roll_ok a n c xs 826 _ (h.below hB5) hn).mono ?_
  rintro e w6 ⟨bd, rfl, hbd, hd6, hb6⟩
  have hQ6 := below_th hQ5 hb6
  have hr5 := ho3.row
  replace ho3 := ho3.below hb6
  have hz5 := hQ5.size
  clear hb6
  go_wp2_with fail
  refine (below_ok bd 2 _ hd6 ⟨by omega, by omega⟩).mono ?_
  rintro e w7 ⟨x, rfl, _, hx, _, hg7⟩
  obtain ⟨hx1, hx2⟩ := hx (by omega)
  have hQ7 := below_grown hQ6 hg7 (by omega)
  have ho7 : Row w7 a3 n3 L := (ho3.row).grown hg7 (fun g o h0 e e2 => by obtain ⟨b', off', q1, q2, _⟩ := hr5.2 0 h0; rw [e] at q1; cases q1; cases e2; omega)
  obtain ⟨G, hG⟩ : ∃ G : Int, 2 * x - 1 = G := ⟨_, rfl⟩
  have hw1 : IntKind.i64.wrap (2 * x) = 2 * x := IntWalk.i64_in _ (by omega)
  have hw2' : IntKind.i64.wrap (2 * x - 1) = G := by rw [hG]; exact IntWalk.i64_in _ (by omega)
  have hGv : G = 1 ∨ G = -1 := by omega
  have HGV := Lib.hid hGv
  have hG64 : -1 ≤ G ∧ G ≤ 1 := by omega
  have l3d := (hL3.below hQ7 hL3.lt).one
  have l6d := (hL6.below hQ7 hL6.lt).two
  have hB7 := below_th hB2 hQ7
  clear hr5 hx hGv ho3 hg7 hG hQ6 hd6
  rcases qs_stabF HBR.out HGV.out with hs | ⟨hs6, hs⟩
  · have HS := Lib.hid hs
    clear hs
    go_wp2_with fail
    refine (show Calls Tryz.prog 20 #[bAgg N ab nb cb, .int .i64 G] _ (RetB _ 0 [] 3) from (by have := impl_Stab_any N ab nb cb ys G _ (hob.below hQ7) (by omega) ⟨by omega, by omega⟩ ⟨by omega, by omega⟩; rw [HS.out] at this; exact this)).mono ?_
    rintro e w8 ⟨a8, n8, c8, rfl, ho8, hb8⟩
    have hQ8 := below_th hB7 hb8
    go_wp2
    go_ret
    exact ⟨rfl, below_al hQ8 _⟩
  have HS := Lib.hid hs
  have hbr2 := qs_br HBR.out HGV.out hs6
  have HI2 : Hid (I64s (ys ++ [G * N])) := Lib.hid fun x hx => by have := (isBr_let hbr2).2.2 x hx; exact ⟨by omega, by omega⟩
  have hl2 := (isBr_let hbr2).2.1
  have HL2 := Lib.hid hl2
  have HQ2 := Lib.hid (qs_stab HRK.out HBR.out HMX.out HQW.out HLK.out HGV.out hs6)
  clear hs hs6 hbr2 hl2
  go_wp2_with fail
  refine (show Calls Tryz.prog 20 #[bAgg N ab nb cb, .int .i64 G] _ (RetB _ ((N : Int) + 1) (ys ++ [G * N]) 0) from (by have := impl_Stab_any N ab nb cb ys G _ (hob.below hQ7) (by omega) ⟨by omega, by omega⟩ ⟨by omega, by omega⟩; rw [HS.out] at this; exact this)).mono ?_
  rintro e w8 ⟨a8, n8, c8, rfl, ho8, hb8⟩
  have hQ8 := below_th hQ7 hb8
  have ho7b := ho7.below hb8
  obtain ⟨S8, hS8⟩ : ∃ S8 : Int, (N : Int) + 1 = S8 := ⟨_, rfl⟩
  rw [hS8] at HQ2
  rw [hS8]
  have hS8b : 0 ≤ S8 ∧ S8 ≤ 20 := by omega
  obtain ⟨zs, hzs⟩ : ∃ zs, ys ++ [G * N] = zs := ⟨_, rfl⟩
  rw [hzs] at HQ2 HI2 HL2 ho8
  clear hS8 HS hzs l3d l6d
  have hn8 : n8 ≤ 1000 := by have := ho8.len; have := HL2.out; omega
  have hc8 := ho8.cap
  obtain ⟨w9, hw9⟩ : ∃ w9, w8.alloc (.cells #[.int .i64 S8, .slice a8 n8 c8] 29) = w9 := ⟨_, rfl⟩
  have hb9 : Below w8.heap.size w8 w9 := by rw [← hw9]; exact below_al (Below.refl _ _) _
  have hL9 : Loc w9 w8.heap.size #[.int .i64 S8, .slice a8 n8 c8] 29 := by rw [← hw9]; exact Loc.new w8 rfl _ _
  have hQ9 := below_th hQ8 hb9
  have l3e := (hL3.below hQ9 hL3.lt).one
  have l9 := hL9.two
  have ho9 := ho8.below hb9
  have ho7c := ho7b.below hb9
  have HW9 := Lib.hid hw9
  clear hw9 ho8 ho7 ho7b hQ7 hb8 hb9 hQ8
  have hn3 : n3 ≤ 9223372036854775807 := by omega
  rcases HQ2.out with h3 | h3
  · have H3 := Lib.hid h3
    clear h3
    go_upto_region 14 with fail
    rw [HW9.out]
    go_wp2_with fail
    refine (HQI.out _ S8 a8 n8 c8 zs [] 3 H3.out hQ9 ⟨by omega, by omega⟩ ho9.row (by omega) HI2.out hc8).mono ?_
    rintro e w10 ⟨a10, n10, c10, rfl, ho10, hb10⟩
    go_wp2
    go_ret
    exact ⟨rfl, below_th hB2 (below_th hQ9 hb10)⟩
  · have H3 := Lib.hid h3
    clear h3
    go_upto_region 14 with fail
    rw [HW9.out]
    go_wp2_with fail
    refine (HQI.out _ S8 a8 n8 c8 zs L 0 H3.out hQ9 ⟨by omega, by omega⟩ ho9.row (by omega) HI2.out hc8).mono ?_
    rintro e w10 ⟨a10, n10, c10, rfl, ho10, hb10⟩
    have hcap10 := ho10.cap
    go_wp2_with fail
    refine (likeInts_same a10 a3 n10 n3 c10 c3 L _ ho10.row (ho7c.below hb10) (by omega)).mono ?_
    rintro e w11 ⟨rfl, hb11⟩
    go_wp2
    go_ret
    exact ⟨rfl, below_th hB2 (below_th (below_th hQ9 hb10) hb11)⟩
end Go.Proofs.YtpdgpgbgakinlaaGreat
