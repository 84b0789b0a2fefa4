/-
  The walk of the law of state sums: it answers true.
  No condition.
-/
import Derived.Test.YtkjpkdmnjbjjaaaGreatPq40
import Derived.Test.YtkjpkdmnjbjjaaaGreatPq42
import Derived.Test.YtkjpkdmnjbjjaaaGreatPq33
import Derived.Test.YtkjpkdmnjbjjaaaGreatPq34
import Derived.Test.YtkjpkdmnjbjjaaaGreatPq36
import Derived.Test.YtkjpkdmnjbjjaaaGreatPq35
import Derived.Deep.DeepCutAuto
namespace Go.Proofs.YtkjpkdmnjbjjaaaGreat
set_option maxRecDepth 100000
set_option linter.unusedVariables false
set_option linter.unusedSimpArgs false
open Go.RowKit
/-- the colourings where all is well -/
theorem ss_cols {f g : List (List Int)} {N : Nat} {xs : List Int} (h1 : isSol f g = true) (h2 : isBr N xs = true) (h5 : f.length ^ N ≤ 5000) : colsF f g N xs = (colsL f.length N f g xs, 0) := by
  unfold colsF codeF colsC
  rw [h1, h2, Int.toNat_natCast]; simp; omega
theorem ss_row {n : Nat} {m : Int} {gs : List Int} (hl : gs.length = n) (h : ∀ x ∈ gs, 0 ≤ x ∧ x < m) : rowOk n m gs = true := by
  unfold rowOk
  rw [Bool.and_eq_true]
  refine ⟨by simp; omega, ?_⟩
  rw [List.all_eq_true]
  intro x hx
  have := h x hx
  unfold rngB; simp; omega
theorem ss_isLet {N : Nat} (h2 : 2 ≤ N) (h6 : N ≤ 6) {Y : Int} (h0 : Y ≠ 0) (h1 : 1 - (N : Int) ≤ Y ∧ Y ≤ (N : Int) - 1) : isLet N Y = true := by
  have hb : isBr N [Y] = true := ltr_br h2 h6 (fun x hx => by simp at hx; subst hx; exact ⟨h0, by unfold plN; split <;> omega⟩) (by simp)
  unfold isBr at hb
  rw [Bool.and_eq_true] at hb
  simpa using hb.2
theorem ss_conjBr {N : Nat} {ys : List Int} (h : isBr N ys = true) {Y : Int} (h0 : Y ≠ 0) (h1 : 1 - (N : Int) ≤ Y ∧ Y ≤ (N : Int) - 1) (hl : ys.length ≤ 28) : isBr N ([Y] ++ ys ++ [-Y]) = true := by
  obtain ⟨h2, h6, _, hlt⟩ := br_ltr h
  have ly : ∀ Z : Int, Z ≠ 0 → 1 - (N : Int) ≤ Z → Z ≤ (N : Int) - 1 → Ltr N Z := fun Z z0 z1 z2 => ⟨z0, by unfold plN; split <;> omega⟩
  refine ltr_br h2 h6 (fun x hx => ?_) (by simp; omega)
  rcases List.mem_append.1 hx with hx | hx
  · rcases List.mem_append.1 hx with hx | hx
    · simp at hx; subst hx; exact ly _ h0 h1.1 h1.2
    · exact hlt x hx
  · simp at hx; subst hx; exact ly _ (by omega) (by omega) (by omega)
set_option maxHeartbeats 64000000 in
theorem law_Sts (a : Option Addr) (n c : Nat) (xs : List Int) (w : World) (h : Bts w a n xs) (hn : n ≤ 9223372036854775807) :
    Calls Tryz.prog 7 #[.slice a n c] w fun e w' => e = .returned (.bool true) ∧ Below w.heap.size w w' := by
  go_enter Tryz.func7, Tryz.ntmps7
  go_wp2_with fail
  refine (big_any a n c _ hn).mono ?_
  rintro e w0 ⟨rfl, rfl⟩
  by_cases hbig : 4096 < n
  · have hd : decide (4096 < n) = true := by simpa using hbig
    rw [hd]
    go_wp2
    go_ret
    exact ⟨rfl, Below.refl _ _⟩
  have hd : decide (4096 < n) = false := by simpa using hbig
  rw [hd]
  clear hd hbig
  go_wp2_with fail
  refine (DrawStateSum_ok a n c xs _ h hn).mono ?_
  rintro e w1 ⟨a1, n1, c1, f, a2, n2, c2, g, m, am, nm, cm, F, S, ab, nb, cb, ys, rfl, hn1, hn2, hnm, hm1, hm2, hS1, hS2, hnb, hcb1, hcb2, hsm, hof, hos, hoF, hob, hb1⟩
  have HSM : Hid (I64s ys) := Lib.hid fun x hx => by have := hsm x hx; exact ⟨by omega, by omega⟩
  have HLF : Hid (f.length = n1) := Lib.hid hof.len.symm
  have HLB := Lib.hid hob.len
  obtain ⟨w2, hw2⟩ : ∃ w2, (w1.alloc (.cells #[.slice a1 n1 c1, .slice a2 n2 c2] 26)).alloc (.cells #[.int .i64 S, .slice ab nb cb] 42) = w2 := ⟨_, rfl⟩
  have hb2 : Below w1.heap.size w1 w2 := by rw [← hw2]; exact below_al (below_al (Below.refl _ _) _) _
  have hL3 : Loc w2 w1.heap.size #[.slice a1 n1 c1, .slice a2 n2 c2] 26 := by rw [← hw2]; exact (Loc.new w1 rfl _ _).alloc _
  have hL6 : Loc w2 (w1.heap.size + 1) #[.int .i64 S, .slice ab nb cb] 42 := by rw [← hw2]; exact Loc.new _ (by simp) _ _
  replace hof := hof.below hb2
  replace hos := hos.below hb2
  replace hoF := hoF.below hb2
  replace hob := hob.below hb2
  have hB2 := below_th hb1 hb2
  have l3 := hL3.two
  have l6 := hL6.two
  have HW2 := Lib.hid hw2
  clear hw2 hb1 hb2 hsm
  obtain ⟨L, K, hLK⟩ : ∃ L K, stF f g m F S ys = (L, K) := ⟨_, _, rfl⟩
  obtain ⟨W, K2, hWK⟩ : ∃ W K2, cwF f g m F S ys = (W, K2) := ⟨_, _, rfl⟩
  have HST : Hid (∀ v : World, Below w2.heap.size w2 v → Calls Tryz.prog 39 #[sAgg a1 n1 c1 a2 n2 c2, .int .i64 m, .slice am nm cm, bAgg S ab nb cb] v (RetR v L K)) := Lib.hid fun v q => by have := impl_St_l a1 n1 c1 f a2 n2 c2 g m am nm cm F S ab nb cb ys v ⟨hof.below q, hos.below q⟩ ⟨by omega, by omega⟩ ⟨by omega, by omega⟩ (hoF.below q) (by omega) ⟨by omega, by omega⟩ (hob.below q) (by omega) HSM.out ⟨hcb1, hcb2⟩; rw [hLK] at this; exact this
  have HSS : Hid (∀ v : World, Below w2.heap.size w2 v → Calls Tryz.prog 40 #[sAgg a1 n1 c1 a2 n2 c2, .int .i64 m, .slice am nm cm, bAgg S ab nb cb] v (RetR v L K)) := Lib.hid fun v q => by have := spec_St_l a1 n1 c1 f a2 n2 c2 g m am nm cm F S ab nb cb ys v ⟨hof.below q, hos.below q⟩ ⟨by omega, by omega⟩ ⟨by omega, by omega⟩ (hoF.below q) (by omega) ⟨by omega, by omega⟩ (hob.below q) (by omega) HSM.out ⟨hcb1, hcb2⟩; rw [hLK] at this; exact this
  have HCW : Hid (∀ v : World, Below w2.heap.size w2 v → Calls Tryz.prog 41 #[sAgg a1 n1 c1 a2 n2 c2, .int .i64 m, .slice am nm cm, bAgg S ab nb cb] v (RetR v W K2)) := Lib.hid fun v q => by have := impl_Cw_l a1 n1 c1 f a2 n2 c2 g m am nm cm F S ab nb cb ys v ⟨hof.below q, hos.below q⟩ ⟨by omega, by omega⟩ ⟨by omega, by omega⟩ (hoF.below q) (by omega) ⟨by omega, by omega⟩ (hob.below q) (by omega) HSM.out ⟨hcb1, hcb2⟩; rw [hWK] at this; exact this
  have HLK := Lib.hid hLK
  have HWK := Lib.hid hWK
  have uK : (K != K) = false := by simp
  clear hLK hWK
  go_wp2_with fail
  try rw [HW2.out]
  refine (HST.out _ (Below.refl _ _)).mono ?_
  rintro e w3 ⟨a3, n3, c3, rfl, ho3, hQ3⟩
  have l3c := (hL3.below hQ3 hL3.lt).two
  have l6c := (hL6.below hQ3 hL6.lt).two
  go_wp2_with fail
  refine (HSS.out _ hQ3).mono ?_
  rintro e w4 ⟨a4, n4, c4, rfl, ho4, hb4⟩
  have hQ4 := below_th hQ3 hb4
  replace ho3 := ho3.below hb4
  have hc3 := ho3.cap
  clear l3c l6c
  go_wp2_with fail
  refine (likeInts_same a3 a4 n3 n4 c3 c4 L _ ho3.row ho4.row (by omega)).mono ?_
  rintro e w5 ⟨rfl, hb5⟩
  have hQ5 := below_th hQ4 hb5
  replace ho3 := ho3.below hb5
  have l3c := (hL3.below hQ5 hL3.lt).two
  have l6c := (hL6.below hQ5 hL6.lt).two
  clear ho4 uK hQ3 hQ4 hb4 hb5
  go_wp2_with fail
  refine (HCW.out _ hQ5).mono ?_
  rintro e w6 ⟨a6, n6, c6, rfl, ho6, hb6⟩
  have hQ6 := below_th hQ5 hb6
  replace ho3 := ho3.below hb6
  have hB6 := below_th hB2 hQ6
  have l3d := (hL3.below hQ6 hL3.lt).two
  have l6d := (hL6.below hQ6 hL6.lt).two
  clear l3c l6c hQ5 hb6 HSS
  rcases ss_facts f g m F S ys with ⟨k0, hk0, hk1, hk2⟩ | ⟨N, rfl, hsol, hbr, hmx, hfl, h5000, hcw, hst⟩
  · have e0 := HLK.out.symm.trans hk2
    obtain ⟨rfl, rfl⟩ : L = [] ∧ K = k0 := ⟨congrArg Prod.fst e0, congrArg Prod.snd e0⟩
    have hKK : K2 = K := by rw [← hk1, HWK.out]
    subst K2
    have hK0 : (K != 0) = true := by simpa using hk0
    have hK1 : (K == K) = true := by simp
    clear e0 hk0 hk1 hk2
    go_wp2
    go_ret
    exact ⟨rfl, hB6⟩
  have e0 := HLK.out.symm.trans hst
  have e1 := HWK.out.symm.trans hcw
  obtain ⟨hLe, rfl⟩ : L = cntL m.toNat ((colsL f.length N f g ys).map (wtF f.length f g F m ys)) ∧ K = 0 := ⟨congrArg Prod.fst e0, congrArg Prod.snd e0⟩
  obtain ⟨hWe, rfl⟩ : W = (colsL f.length N f g ys).map (wtF f.length f g F m ys) ∧ K2 = 0 := ⟨congrArg Prod.fst e1, congrArg Prod.snd e1⟩
  clear e0 e1 hst hcw
  obtain ⟨s1, s2, s3⟩ := ss_nums (N := N) (xs := ys) (f := f) (g := g) hmx
  have s4 : (colsL f.length N f g ys).length = W.length := by rw [hWe, List.length_map]
  rw [← hWe] at s1 s2 s3
  have hLW : L = cntL m.toNat W := by rw [hWe]; exact hLe
  rw [← hLW, s4] at s1
  rw [← hLW] at s2
  have hmb := (isMx_sq hmx).1
  have hN26 := (isBr_let hbr).1
  have hcols := ss_cols hsol hbr h5000
  have hlen5 : (colsL f.length N f g ys).length ≤ 5000 := by
    have := colsK_len (n := f.length) (s := N) (f := f) (g := g) (xs := ys) (k := f.length ^ N)
    unfold colsL; omega
  have HWL : Hid (W.length ≤ 5000) := Lib.hid (by rw [← s4]; exact hlen5)
  have HSU := Lib.hid s1
  have HLW := Lib.hid hLW
  have HS3 := Lib.hid s3
  have HLL := Lib.hid s2
  have HCN : Hid (∀ v : World, Below w2.heap.size w2 v → Calls Tryz.prog 42 #[sAgg a1 n1 c1 a2 n2 c2, bAgg N ab nb cb] v (RetI v (W.length : Int) 0)) := Lib.hid fun v q => by have := impl_Cnt_l a1 n1 c1 f a2 n2 c2 g N ab nb cb ys v ⟨hof.below q, hos.below q⟩ ⟨by omega, by omega⟩ ⟨by omega, by omega⟩ (hob.below q) (by omega) HSM.out; rw [hcols, s4] at this; exact this
  have HSOL := Lib.hid hsol; have HBR := Lib.hid hbr; have HMX := Lib.hid hmx; have HFL := Lib.hid hfl; have H50 := Lib.hid h5000
  obtain ⟨M, rfl⟩ : ∃ M : Nat, m = M := ⟨m.toNat, by omega⟩
  have hn3 : n3 = M := by rw [ho3.len, HLL.out]; simp
  subst n3
  have hn6 := ho6.len
  have HW6 := Lib.hid hn6
  have hn65 : n6 ≤ 5000 := by rw [hn6]; exact HWL.out
  clear hsol hbr hmx hfl h5000 s1 s2 s3 s4 hLW hLe hWe hcols hlen5 hn6
  go_wp2_with fail
  refine (HCN.out _ hQ6).mono ?_
  rintro e w7 ⟨rfl, hb7⟩
  have hQ7 := below_th hQ6 hb7
  replace ho3 := ho3.below hb7
  replace ho6 := ho6.below hb7
  have hB7 := below_th hB2 hQ7
  clear l3d l6d hQ6 hb7 hB6
  have HLX : Hid (∀ x ∈ L, 0 ≤ x ∧ x ≤ 1000000000) := Lib.hid fun x hx => by
    obtain ⟨i, hi, rfl⟩ := List.getElem_of_mem hx
    have := cntL_bd (Int.toNat (M : Int)) W i
    rw [← HLW.out, List.getD_eq_getElem?_getD, List.getElem?_eq_getElem hi, Option.getD_some] at this
    have := HWL.out; omega
  go_wp2_with fail
  refine (sum_any a3 M c3 L _ ho3.row (by omega) HLX.out).mono ?_
  rintro e w7' ⟨rfl, rfl⟩
  rw [HSU.out, ← HW6.out]
  have u1 : ((n6 : Int) != (n6 : Int)) = false := by simp
  have u2 : ((M : Int) != (M : Int)) = false := by simp
  have hM12 : M ≤ 12 := by omega
  have hM0 : (0 : Int) ≤ (M : Int) := by omega
  go_wp2_with (at_make; refine make1 rfl rfl rfl rfl (by omega) ?_; intro w8 hO8 hs8 hb8)
  clear u1 u2
  have hQ8 := below_th hQ7 hb8
  have h0C : Hid (cntL M (W.take 0) = List.replicate M 0) := Lib.hid (by simp [cntL])
  go_loopw [16] (fun i wr => ∃ k : Nat, k ≤ n6 ∧ i = .int .i64 k ∧ Own wr w7.heap.size (some ⟨w7.heap.size, 0, none⟩) M M (cntL M (W.take k)) ∧ Below w7.heap.size w7 wr) (fun i _ => n6 - (intOf i).toNat)
  case atStart => exact ⟨0, Nat.zero_le _, rfl, by rw [h0C.out]; exact hO8, hb8⟩
  case round =>
    clear hO8
    obtain ⟨k, hk, rfl, hO, hbr⟩ := hrel
    obtain ⟨V, rfl⟩ : ∃ V : World, V = wr := ⟨_, rfl⟩
    by_cases hlt : k < n6
    · have hkl : k < W.length := by rw [← HW6.out]; exact hlt
      obtain ⟨bW, oW, rfl, d1⟩ := (ho6.row.below hbr).at k hlt
      have hx := HS3.out _ (List.getElem_mem hkl)
      have HT := Lib.hid (cntL_take (m := M) hkl)
      have eg : W.getD k 0 = W[k] := by rw [List.getD_eq_getElem?_getD, List.getElem?_eq_getElem hkl]; rfl
      rw [← eg] at hx
      obtain ⟨X, hX⟩ : ∃ X : Nat, W.getD k 0 = (X : Int) := ⟨(W.getD k 0).toNat, by omega⟩
      rw [hX] at d1 hx HT
      rw [Int.toNat_natCast] at HT
      have hXM : X < M := by omega
      have d2 := hO.cells.2.1 X hXM
      have k2 := hO.cells.2.2 X
      have hbd := cntL_bd M (W.take k) X
      have htl : (W.take k).length ≤ 5000 := by rw [List.length_take]; omega
      obtain ⟨Z, hZ⟩ : ∃ Z, (cntL M (W.take k)).getD X 0 = Z := ⟨_, rfl⟩
      rw [hZ] at d2 hbd HT
      have hw1 : IntKind.i64.wrap (Z + 1) = Z + 1 := IntWalk.i64_in _ (by omega)
      have q0 : (0 : Int) ≤ (X : Int) := by omega
      have q1 : (X : Int) < (M : Int) := by omega
      have q2 : ¬ ((X : Int) < 0) := by omega
      have q3 : ¬ ((M : Int) ≤ (X : Int)) := by omega
      have hOs := hO.set X (Z + 1)
      clear hX hZ eg hbd htl hx
      go_wp2
      go_roundw
      case rel => exact ⟨k + 1, by omega, by go_num, by rw [HT.out]; exact hOs, below_setne hbr (by simp) _⟩
      case measure => simp [intOf]; omega
    · obtain rfl : k = n6 := by omega
      have hOL : Row V (some ⟨w7.heap.size, 0, none⟩) M L := by
        have := hO.row
        rw [List.take_of_length_le (by rw [← HW6.out]; exact Nat.le_refl _)] at this
        have e := HLW.out
        rw [Int.toNat_natCast] at e
        rw [e]; exact this
      have hQv := below_th hQ7 hbr
      have ho3v := (ho3.below hbr).row
      have hM64 : M ≤ 9223372036854775807 := by omega
      clear hO hlt ho3 ho6 hQ7 hQ8 hb8
      go_wp2_with fail
      refine (likeInts_same _ a3 M M _ c3 L _ hOL ho3v hM64).mono ?_
      rintro e w9 ⟨rfl, hb9⟩
      have hQ9 := below_th hQv hb9
      have ho9 := ho3v.below hb9
      have HO9 := Lib.hid ho9
      have hB9 := below_th hB2 hQ9
      clear hOL ho3v hb9 hQv hB7
      go_wp2_with fail
      refine (roll_ok a n c xs 825 _ (h.below hB9) hn).mono ?_
      rintro e w10 ⟨bd, rfl, hbd, hd10, hb10⟩
      have hQ10 := below_th hQ9 hb10
      have ho10 := ho9.below hb10
      have l3e := (hL3.below hQ10 hL3.lt).two
      have l6e := (hL6.below hQ10 hL6.lt).two
      have hz2 := hQ9.size
      have hbd2 : w2.heap.size ≤ bd := by omega
      have HRW : Hid (∀ gs : List Int, n1 = gs.length → (∀ x ∈ gs, 0 ≤ x ∧ x < (M : Int)) → rowOk f.length M gs = true) := Lib.hid fun gs e q => by rw [HLF.out]; exact ss_row e.symm q
      have HBO : Hid (∀ (v : World) (al : Option Addr) (cl : Nat) (gs : List Int), Below w2.heap.size w2 v → rowOk f.length M gs = true → I64s gs → Row v al n1 gs → Calls Tryz.prog 43 #[sAgg a1 n1 c1 a2 n2 c2, .int .i64 M, .slice al n1 cl] v (RetT v (bndL f.length M f g gs) 0)) := Lib.hid fun v al cl gs q hr hi hg => by have := impl_Bou_l a1 n1 c1 f a2 n2 c2 g M al n1 cl gs v ⟨hof.below q, hos.below q⟩ ⟨by omega, by omega⟩ ⟨by omega, by omega⟩ hg (by omega) hi; rw [(ss_bound HSOL.out HBR.out HMX.out HFL.out H50.out hr).1] at this; exact this
      go_upto_region 24 with fail
      go_region_held3 (fun v => v.cell? ⟨w1.heap.size, 0, none⟩ = some (.slice a1 n1 c1) ∧ v.cell? ⟨w1.heap.size, 1, none⟩ = some (.slice a2 n2 c2))
        (first | exact k12 | exact k11 | exact ⟨l3e.1, l3e.2.1⟩ | go_keep)
        (first
          | (go_at_call 17; refine (list5_ok bd n1 M _ (hd10.below (below_drewN (Below.refl _ _) 1)) ⟨by omega, by omega⟩ (by omega)).mono ?_; rintro e w11 ⟨a11, c11, gs, rfl, hgs, _, ho11, hd11, hg11⟩; have hQ11 : Below w2.heap.size w2 w11 := below_grown (below_drewN hQ10 1) hg11 hbd2; have k11 : w11.cell? ⟨w1.heap.size, 0, none⟩ = some (.slice a1 n1 c1) ∧ w11.cell? ⟨w1.heap.size, 1, none⟩ = some (.slice a2 n2 c2) := ⟨((hL3.below hQ11 hL3.lt).two).1, ((hL3.below hQ11 hL3.lt).two).2.1⟩; have HGS := Lib.hid (hgs (by omega)); have HGR := Lib.hid (HRW.out gs ho11.len HGS.out); have HGI : Hid (I64s gs) := Lib.hid (fun x hx => by have := HGS.out x hx; exact ⟨by omega, by omega⟩))
          | (go_at_call 43; refine (HBO.out _ a11 c11 gs hQ11 HGR.out HGI.out ho11.row).mono ?_; rintro e w12 ⟨a12, n12, c12, vs12, rfl, ho12, hb12⟩; have hQ12 := below_th hQ11 hb12; have k12 : w12.cell? ⟨w1.heap.size, 0, none⟩ = some (.slice a1 n1 c1) ∧ w12.cell? ⟨w1.heap.size, 1, none⟩ = some (.slice a2 n2 c2) := ⟨((hL3.below hQ12 hL3.lt).two).1, ((hL3.below hQ12 hL3.lt).two).2.1⟩))
      all_goals
        have ho10b : Row w12 a3 M L := ((ho10.drewN 1).grown hg11 (fun g o h0 e e2 => by obtain ⟨b', off', q1, q2, _⟩ := HO9.out.2 0 h0; rw [e] at q1; cases q1; cases e2; omega)).below hb12
        have hd12 := hd11.below hb12
        have hcap12 := ho12.cap
        obtain ⟨sb1, sb2, sb3⟩ := ss_bound HSOL.out HBR.out HMX.out HFL.out H50.out HGR.out
        have HB3 : Hid (stF f g M (tabF f.length (addE M F (bndL f.length M f g gs))) N ys = (L, 0)) := Lib.hid (by rw [sb3]; exact HLK.out)
        have HB2 := Lib.hid sb2
        have HGL : Hid ((tabF f.length (addE M F (bndL f.length M f g gs))).length = n1) := Lib.hid (by rw [tabF_len]; exact HLF.out)
        clear sb1 sb2 sb3 ho11 hd11 hd10 ho10 HBO HRW hg11 hb12 hQ11 l3e l6e k11 k12
        have l3f := (hL3.below hQ12 hL3.lt).two
        have l6f := (hL6.below hQ12 hL6.lt).two
        go_wp2_with fail
        refine (show Calls Tryz.prog 44 #[.int .i64 M, .slice am nm cm, .slice a12 n12 c12] w12 (RetT w12 (tabF f.length (addE M F (bndL f.length M f g gs))) 0) from (by have := impl_AddM_l M am nm cm F a12 n12 c12 (bndL f.length M f g gs) w12 ⟨by omega, by omega⟩ (hoF.below hQ12) (by omega) ho12.tbl (by omega); rw [HB2.out] at this; exact this)).mono ?_
        rintro e w13 ⟨a13, n13, c13, vs13, rfl, ho13, hb13⟩
        have hQ13 := below_th hQ12 hb13
        have hcap13 := ho13.cap
        have l3g := (hL3.below hQ13 hL3.lt).two
        have l6g := (hL6.below hQ13 hL6.lt).two
        clear l3f l6f
        go_wp2_with fail
        refine (show Calls Tryz.prog 39 #[sAgg a1 n1 c1 a2 n2 c2, .int .i64 M, .slice a13 n13 c13, bAgg N ab nb cb] w13 (RetR w13 L 0) from (by have := impl_St_l a1 n1 c1 f a2 n2 c2 g M a13 n13 c13 _ N ab nb cb ys w13 ⟨hof.below hQ13, hos.below hQ13⟩ ⟨by omega, by omega⟩ ⟨by omega, by omega⟩ ho13.tbl (by omega) ⟨by omega, by omega⟩ (hob.below hQ13) (by omega) HSM.out ⟨hcb1, hcb2⟩; rw [HB3.out] at this; exact this)).mono ?_
        rintro e w14 ⟨a14, n14, c14, rfl, ho14, hb14⟩
        have hQ14 := below_th hQ13 hb14
        have hcap14 := ho14.cap
        go_wp2_with fail
        refine (likeInts_same a14 a3 n14 M c14 c3 L _ ho14.row ((ho10b.below hb13).below hb14) (by omega)).mono ?_
        rintro e w15 ⟨rfl, hb15⟩
        have hQ15 := below_th hQ14 hb15
        have hd15 := ((hd12.below hb13).below hb14).below hb15
        have l6h := (hL6.below hQ15 hL6.lt).two
        have hwN : IntKind.i64.wrap ((N : Int) - 1) = (N : Int) - 1 := IntWalk.i64_in _ (by omega)
        clear l3g l6g hd12 ho10b ho12 ho13 ho14 hb13 hb14 hb15
        go_wp2_with fail
        refine (below_ok bd ((N : Int) - 1) _ hd15 ⟨by omega, by omega⟩).mono ?_
        rintro e w16 ⟨x, rfl, _, hx, hd16, hg16⟩
        obtain ⟨hx1, hx2⟩ := hx (by omega)
        have hQ16 := below_grown hQ15 hg16 hbd2
        obtain ⟨X, hX⟩ : ∃ X : Int, 1 + x = X := ⟨_, rfl⟩
        have hwX : IntKind.i64.wrap (1 + x) = X := by rw [hX]; exact IntWalk.i64_in _ (by omega)
        have hX1 : 1 ≤ X := by omega
        have hX2 : X ≤ (N : Int) - 1 := by omega
        have hwX2 : IntKind.i64.wrap (-X) = -X := IntWalk.i64_in _ (by omega)
        clear hx hX hd15 hg16 hwN
        go_wp2_with fail
        refine (below_ok bd 2 _ hd16 ⟨by omega, by omega⟩).mono ?_
        rintro e w17 ⟨y, rfl, _, hy, hd17, hg17⟩
        have hQ17 := below_grown hQ16 hg17 hbd2
        clear hy hd16 hg17 hwX hx1 hx2
        go_upto_if 193 with fail
        go_cut [24] (fun s24 wx => ∃ Y : Int, s24 = .int .i64 Y ∧ Y ≠ 0 ∧ 1 - (N : Int) ≤ Y ∧ Y ≤ (N : Int) - 1 ∧ wx = w17)
        case first => as_aux_lemma =>
          by_cases y0 : y = 0
          · subst y0
            go_wp2
            go_meet
            exact ⟨-X, rfl, by omega, by omega, by omega, rfl⟩
          · have yb : (y == 0) = false := by simpa using y0
            go_wp2
            go_meet
            exact ⟨X, rfl, by omega, by omega, by omega, rfl⟩
        case rest =>
        obtain ⟨Y, rfl, hY0, hY1, hY2, rfl⟩ := hcut
        have l3i := (hL3.below hQ17 hL3.lt).two
        have l6i := (hL6.below hQ17 hL6.lt).two
        have HLY := Lib.hid (ss_isLet (show 2 ≤ N by omega) (show N ≤ 6 by omega) hY0 ⟨hY1, hY2⟩)
        have hobv := hob.below hQ17
        by_cases h28 : ys.length ≤ 28
        · have HCB := Lib.hid (ss_conjBr HBR.out hY0 ⟨hY1, hY2⟩ h28)
          have HHS := Lib.hid (ss_conj HSOL.out HBR.out HMX.out HFL.out H50.out HLY.out h28 HCB.out)
          have HI2 : Hid (I64s ([Y] ++ ys ++ [-Y])) := Lib.hid fun x hx => by have := (isBr_let HCB.out).2.2 x hx; exact ⟨by omega, by omega⟩
          go_wp2_with fail
          refine (show Calls Tryz.prog 45 #[bAgg N ab nb cb, .int .i64 Y] _ (RetB _ N ([Y] ++ ys ++ [-Y]) 0) from (by have := impl_Conj_any N ab nb cb ys Y _ hobv (by omega) ⟨by omega, by omega⟩ ⟨by omega, by omega⟩; unfold conjF at this; rw [if_pos HBR.out, if_pos HLY.out, if_pos h28] at this; exact this)).mono ?_
          rintro e w18 ⟨a18, n18, c18, rfl, ho18, hb18⟩
          have hQ18 := below_th hQ17 hb18
          have hQ19 := below_al hQ18 (.cells #[.int .i64 N, .slice a18 n18 c18] 42)
          have l3j := (hL3.below hQ19 hL3.lt).two
          have l6j := (hL6.below hQ19 hL6.lt).two
          have lCj := (Loc.new w18 rfl #[.int .i64 N, .slice a18 n18 c18] 42).two
          have h18l : n18 ≤ 1000 := by have := ho18.len; have := (isBr_let HCB.out).2.1; omega
          have hc18 := ho18.cap
          go_wp2_with fail
          refine (show Calls Tryz.prog 46 #[sAgg a1 n1 c1 a2 n2 c2, .int .i64 M, .slice am nm cm, bAgg N ab nb cb, bAgg N a18 n18 c18] (w18.alloc (.cells #[.int .i64 N, .slice a18 n18 c18] 42)) (RetO (w18.alloc (.cells #[.int .i64 N, .slice a18 n18 c18] 42)) true 0) from (by have := impl_Hs_l a1 n1 c1 f a2 n2 c2 g M am nm cm F N ab nb cb ys N a18 n18 c18 ([Y] ++ ys ++ [-Y]) _ ⟨hof.below hQ19, hos.below hQ19⟩ ⟨by omega, by omega⟩ ⟨by omega, by omega⟩ (hoF.below hQ19) (by omega) ⟨by omega, by omega⟩ (hob.below hQ19) (by omega) HSM.out ⟨hcb1, hcb2⟩ ⟨by omega, by omega⟩ (ho18.alloc _).row (by omega) HI2.out hc18; rw [HHS.out] at this; exact this)).mono ?_
          rintro e w19 ⟨rfl, hb19⟩
          go_wp2
          go_ret
          exact ⟨rfl, below_th (below_th hB2 hQ19) hb19⟩
        · go_wp2_with fail
          refine (show Calls Tryz.prog 45 #[bAgg N ab nb cb, .int .i64 Y] _ (RetB _ 0 [] 3) from (by have := impl_Conj_any N ab nb cb ys Y _ hobv (by omega) ⟨by omega, by omega⟩ ⟨by omega, by omega⟩; unfold conjF at this; rw [if_pos HBR.out, if_pos HLY.out, if_neg h28] at this; exact this)).mono ?_
          rintro e w18 ⟨a18, n18, c18, rfl, ho18, hb18⟩
          have hQ18 := below_th hQ17 hb18
          go_wp2
          go_ret
          exact ⟨rfl, below_th hB2 (below_al hQ18 _)⟩
end Go.Proofs.YtkjpkdmnjbjjaaaGreat
