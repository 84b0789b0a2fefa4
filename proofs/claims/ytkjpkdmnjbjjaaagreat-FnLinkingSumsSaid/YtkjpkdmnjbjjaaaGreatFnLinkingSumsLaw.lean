/-
  The walk of the law of linking sums: it answers true.
  No condition.
-/
import Derived.Test.YtkjpkdmnjbjjaaaGreatPk43
import Derived.Test.YtkjpkdmnjbjjaaaGreatPk17
import Derived.Test.YtkjpkdmnjbjjaaaGreatPk18
import Derived.Test.YtkjpkdmnjbjjaaaGreatPk37
import Derived.Test.YtkjpkdmnjbjjaaaGreatPk33
import Derived.Test.YtkjpkdmnjbjjaaaGreatPk44
import Derived.Deep.DeepCutAuto
namespace Go.Proofs.YtkjpkdmnjbjjaaaGreat
set_option maxRecDepth 100000
set_option linter.unusedVariables false
set_option linter.unusedSimpArgs false
open Go.RowKit
set_option maxHeartbeats 1000000 in
theorem spec_IsBr2 (s : Int) (a : Option Addr) (n c : Nat) (xs : List Int) (w : World) (h1 : Row w a n xs) (hm : n ≤ 9223372036854775807) (hs : I64 s) :
    Calls Tryz.prog 20 #[bAgg s a n c] w fun e w' => e = .returned (.bool (isBr s xs)) ∧ Below w.heap.size w w' := by
  have lA := (Loc.new w rfl #[.int .i64 s, .slice a n c] 42).two
  go_enter Tryz.func20, Tryz.ntmps20
  go_wp2_with fail
  refine (l16Is_any s a n c xs _ (h1.alloc _) hm hs).mono ?_
  rintro e w1 ⟨rfl, hb1⟩
  go_wp2
  go_ret
  exact ⟨rfl, below_alth (Below.refl _ _) hb1⟩
/-- the weight of a tuple where all is well -/
theorem wot_val {f g : List (List Int)} {m : Int} {M : List (List Int)} {N : Nat} {xs l : List Int} (h1 : isSol f g = true) (h2 : isBr N xs = true) (h3 : isMx f.length m M = true) (h4 : l.length = N) (h5 : Less f.length l) : wotF f g m M N xs l = (wtF f.length f g M m xs l, 0) := by
  have h6 : l.all (rngB 0 ((f.length : Int) - 1)) = true := by
    rw [List.all_eq_true]
    intro x hx
    obtain ⟨i, hi, rfl⟩ := List.getElem_of_mem hx
    obtain ⟨k, hk, e⟩ := h5 i hi
    rw [List.getD_eq_getElem?_getD, List.getElem?_eq_getElem hi, Option.getD_some] at e
    unfold rngB; rw [e]; simp; omega
  unfold wotF
  rw [if_pos h1, if_pos h2, if_pos h3, if_pos (by omega), if_pos h6]
/-- what the law's two last values are -/
theorem lks_vals {N K : Nat} {m : Int} {ys col : List Int} {F : List (List Int)} (hbr : isBr N ys = true) (h1 : 1 ≤ K) (h4 : K ≤ 4) (hmx : isMx K m F = true) (hcl : col.length = ncL N ys) (hcol : ∀ x ∈ col, 0 ≤ x ∧ x < (K : Int)) :
    wotF (flA K) (flB K) m F N ys ((compL N ys).map fun a => col.getD a.toNat 0) = (lkTot (ncL N ys) (tabF (ncL N ys) (halV (lnkV N ys ys.length))) F col % m, 0) ∧
    colF (flA K) (flB K) N ys ((compL N ys).map fun a => col.getD a.toNat 0) = (true, 0) ∧ I64s ((compL N ys).map fun a => col.getD a.toNat 0) := by
  have hsol := fl_sol ⟨K, by omega⟩ h1
  have hle : Less K col := fun i hi => by
    have := hcol _ (List.getElem_mem hi)
    exact ⟨(col[i]).toNat, by omega, by rw [List.getD_eq_getElem?_getD, List.getElem?_eq_getElem hi, Option.getD_some]; omega⟩
  obtain ⟨e1, e2⟩ := lks_main hbr h1 h4 (isMx_sq hmx).2 hcl hle
  have hlt : Less K ((compL N ys).map fun a => col.getD a.toNat 0) := fun i hi => by
    have hi' : i < N := by simpa [compL_len] using hi
    obtain ⟨l1, l2⟩ := labN_lt N ys i hi'
    obtain ⟨k, hk, e⟩ := hle (labN N ys i) (by omega)
    refine ⟨k, hk, ?_⟩
    have e3 : ((compL N ys).map fun a => col.getD a.toNat 0).getD i 0 = col.getD ((compL N ys).getD i 0).toNat 0 := by
      simp [List.getD_eq_getElem?_getD, List.getElem?_map, List.getElem?_eq_getElem (show i < (compL N ys).length by rw [compL_len]; exact hi')]
    rw [e3, l2, Int.toNat_natCast]; exact e
  have hll : ((compL N ys).map fun a => col.getD a.toNat 0).length = N := by rw [List.length_map, compL_len]
  have hmx' : isMx (flA K).length m F = true := by rw [flA_len]; exact hmx
  have hw := wot_val hsol hbr hmx' hll (by rw [flA_len]; exact hlt)
  rw [flA_len] at hw
  refine ⟨by rw [hw, e1], ?_, fun x hx => ?_⟩
  · have hck : ckF (flA K) (flB K) N ys ((compL N ys).map fun a => col.getD a.toNat 0) = 0 := by
      unfold ckF
      rw [if_pos hsol, if_pos hbr, if_pos (by omega), if_pos]
      rw [List.all_eq_true]
      intro x hx
      obtain ⟨i, hi, rfl⟩ := List.getElem_of_mem hx
      obtain ⟨k, hk, e⟩ := hlt i hi
      rw [List.getD_eq_getElem?_getD, List.getElem?_eq_getElem hi, Option.getD_some] at e
      rw [e, flA_len]; unfold rngB; simp; omega
    unfold colF
    rw [if_pos hck, flA_len, e2]; simp
  · obtain ⟨i, hi, rfl⟩ := List.getElem_of_mem hx
    obtain ⟨k, hk, e⟩ := hlt i hi
    rw [List.getD_eq_getElem?_getD, List.getElem?_eq_getElem hi, Option.getD_some] at e
    rw [e]; exact ⟨by omega, by omega⟩
theorem lnk_val {N C : Nat} {ys : List Int} (hl : ys.length ≤ 31) {i j : Nat} (hi : i < C) (hj : j < C) : -40 ≤ ((tabF C (halV (lnkV N ys ys.length))).getD i []).getD j 0 ∧ ((tabF C (halV (lnkV N ys ys.length))).getD i []).getD j 0 ≤ 40 := by
  rw [tabF_val hi hj]
  have := lnkV_bd N ys ys.length i j
  unfold halV
  split
  · omega
  · obtain ⟨z, hz⟩ : ∃ z, lnkV N ys ys.length i j = z := ⟨_, rfl⟩
    rw [hz] at this ⊢
    by_cases h0 : 0 ≤ z
    · rw [Int.tdiv_eq_ediv_of_nonneg h0]; omega
    · have e : z.tdiv 2 = -((-z).tdiv 2) := by rw [Int.neg_tdiv]; omega
      rw [e, Int.tdiv_eq_ediv_of_nonneg (by omega)]; omega
/-- the remainder of what may be negative -/
theorem mod_twice (T m : Int) (hm : 0 < m) : (T.tmod m + m) % m = T % m ∧ (T.tmod m + m).tmod m = T % m ∧ 0 < T.tmod m + m ∧ T.tmod m + m < 2 * m := by
  by_cases h0 : 0 ≤ T
  · have e : T.tmod m = T % m := Int.tmod_eq_emod_of_nonneg h0
    have h1 := Int.emod_nonneg T (show m ≠ 0 by omega)
    have h2 := Int.emod_lt_of_pos T hm
    have e2 : (T % m + m) % m = T % m := by rw [Int.add_emod_right, Int.emod_emod]
    rw [e]
    exact ⟨e2, by rw [Int.tmod_eq_emod_of_nonneg (by omega)]; exact e2, by omega, by omega⟩
  · have e : T.tmod m = -((-T) % m) := by
      rw [← Int.tmod_eq_emod_of_nonneg (show 0 ≤ -T by omega), Int.neg_tmod]; omega
    have h1 := Int.emod_nonneg (-T) (show m ≠ 0 by omega)
    have h2 := Int.emod_lt_of_pos (-T) hm
    have h3 := Int.emod_add_mul_ediv (-T) m
    have e2 : (-((-T) % m) + m) % m = T % m := by
      have : -((-T) % m) + m = T + m * ((-T) / m + 1) := by rw [Int.mul_add]; omega
      rw [this, Int.add_mul_emod_self_left]
    rw [e]
    exact ⟨e2, by rw [Int.tmod_eq_emod_of_nonneg (by omega)]; exact e2, by omega, by omega⟩
set_option maxHeartbeats 64000000 in
theorem law_Lks (a : Option Addr) (n c : Nat) (xs : List Int) (w : World) (h : Bts w a n xs) (hn : n ≤ 9223372036854775807) :
    Calls Tryz.prog 4 #[.slice a n c] w fun e w' => e = .returned (.bool true) ∧ Below w.heap.size w w' := by
  go_enter Tryz.func4, Tryz.ntmps4
  go_wp2_with fail
  refine (big_any a n c _ hn).mono ?_
  rintro e w0 ⟨rfl, rfl⟩
  by_cases hbig : 4096 < n
  · have hd : decide (4096 < n) = true := by simpa using hbig
    rw [hd]
    go_wp2
    go_ret
    exact ⟨rfl, Below.refl _ _⟩
  have hd : decide (4096 < n) = false := by simpa using hbig
  rw [hd]
  clear hd hbig
  go_wp2_with fail
  refine (roll_ok a n c xs 827 _ h hn).mono ?_
  rintro e w1 ⟨bd, rfl, hbd, hd1, hb1⟩
  have hlt1 := hd1.lt
  go_wp2_with fail
  refine (DrawWeightOfTuple_ok a n c xs _ (h.below hb1) hn).mono ?_
  rintro e w2 ⟨a1, n1, c1, f, a2, n2, c2, g, m0, am, nm, cm, F0, S, ab, nb, cb, ys, al, k0, cl, l0, rfl, _, _, _, _, _, hS1, hS2, hnb, hcb1, hcb2, _, hsm, _, _, _, _, hob, _, hb2⟩
  have HSM : Hid (I64s ys) := Lib.hid fun x hx => by have := hsm x hx; exact ⟨by omega, by omega⟩
  have HLB := Lib.hid hob.len
  have hz2 := hb2.size
  obtain ⟨w3, hw3⟩ : ∃ w3, (w2.alloc (.cells #[.slice a1 n1 c1, .slice a2 n2 c2] 26)).alloc (.cells #[.int .i64 S, .slice ab nb cb] 42) = w3 := ⟨_, rfl⟩
  have hb3 : Below w2.heap.size w2 w3 := by rw [← hw3]; exact below_al (below_al (Below.refl _ _) _) _
  have hL3 : Loc w3 (w2.heap.size + 1) #[.int .i64 S, .slice ab nb cb] 42 := by rw [← hw3]; exact Loc.new _ (by simp) _ _
  have hd3 := (hd1.below hb2).below hb3
  have hob3 := hob.below hb3
  have hB3 := below_th (below_th hb1 hb2) hb3
  have lL3 := hL3.two
  have hz3 := hL3.lt
  have HW3 := Lib.hid hw3
  clear hw3 hsm hob hd1 hb1 hb2 hb3
  go_wp2_with fail
  try rw [HW3.out]
  refine (spec_IsBr2 S ab nb cb ys _ hob3.row (by omega) ⟨by omega, by omega⟩).mono ?_
  rintro e w4 ⟨rfl, hb4⟩
  have hL4 := hL3.below hb4 hL3.lt
  have lL4 := hL4.two
  have hd4 := hd3.below hb4
  have hob4 := hob3.below hb4
  have hB4 := below_th hB3 hb4
  have hz4 := hb4.size
  clear hL3 lL3 hd3 hob3 hB3 hb4
  obtain ⟨bb, hbb⟩ : ∃ bb, isBr S ys = bb := ⟨_, rfl⟩
  have HBB := Lib.hid hbb
  rw [hbb]
  clear hbb
  cases bb with
  | false =>
    go_wp2_with fail
    refine (isBraid_any S ab nb cb ys _ hob4.row (by omega)).mono ?_
    rintro e w5 ⟨rfl, hb5⟩
    rw [HBB.out]
    go_wp2
    go_ret
    exact ⟨rfl, below_th hB4 hb5⟩
  | true =>
  obtain ⟨N, rfl⟩ : ∃ N : Nat, S = N := ⟨S.toNat, by omega⟩
  obtain ⟨hN1, hN2⟩ : 2 ≤ N ∧ N ≤ 6 := by have := (isBr_let HBB.out).1; omega
  go_wp2_with fail
  refine (below_ok bd 4 _ hd4 ⟨by omega, by omega⟩).mono ?_
  rintro e w5 ⟨x, rfl, _, hx, hd5, hg5⟩
  obtain ⟨hx1, hx2⟩ := hx (by omega)
  obtain ⟨K, hK⟩ : ∃ K : Nat, 1 + x = K := ⟨(1 + x).toNat, by omega⟩
  have hwK : IntKind.i64.wrap (1 + x) = (K : Int) := by rw [hK]; exact IntWalk.i64_in _ (by omega)
  have hK1 : 1 ≤ K := by omega
  have hK4 : K ≤ 4 := by omega
  have hL5 := hL4.grown hg5 (by simp; omega)
  have hob5 := hob4.grown hg5 (fun g e => by have := hob4.lo g e; simp; omega)
  have hB5 := below_grown hB4 hg5 hbd
  have hz5 := hg5.size
  clear hL4 lL4 hd4 hob4 hB4 hg5 hx hK
  go_wp2_with fail
  refine (below_ok bd 6 _ hd5 ⟨by omega, by omega⟩).mono ?_
  rintro e w6 ⟨y, rfl, _, hy, hd6, hg6⟩
  obtain ⟨hy1, hy2⟩ := hy (by omega)
  obtain ⟨m, hm⟩ : ∃ m : Int, 1 + y = m := ⟨_, rfl⟩
  have hwm : IntKind.i64.wrap (1 + y) = m := by rw [hm]; exact IntWalk.i64_in _ (by omega)
  have hm1 : 1 ≤ m := by omega
  have hm6 : m ≤ 6 := by omega
  have hL6 := hL5.grown hg6 (by simp; omega)
  have hob6 := hob5.grown hg6 (fun g e => by have := hob5.lo g e; simp; omega)
  have hB6 := below_grown hB5 hg6 hbd
  have hz6 := hg6.size
  clear hL5 hd5 hob5 hB5 hg6 hy hm
  go_wp2_with fail
  refine (matrix5_ok bd K m _ hd6 ⟨hm1, by omega⟩ (by omega)).mono ?_
  rintro e w7 ⟨aF, cF, vsF, F, rfl, hmx, hoF7, hd7, hg7⟩
  have HMX := Lib.hid hmx
  have hL7 := hL6.grown hg7 (by simp; omega)
  have hob7 := hob6.grown hg7 (fun g e => by have := hob6.lo g e; simp; omega)
  have hB7 := below_grown hB6 hg7 hbd
  have hz7 := hg7.size
  clear hL6 hd6 hob6 hB6 hg7 hmx
  go_wp2_with fail
  refine (impl_Flp_ok K _ hK1 (by omega)).mono ?_
  rintro e w8 ⟨a8, c8, vs8, a8', c8', vs8', rfl, ho8, hb8⟩
  have mL := ((hL7.below hb8 hL7.lt).alloc (.cells #[.slice a8 K c8, .slice a8' K c8'] 26)).two
  obtain ⟨w9, hw9⟩ : ∃ w9, w8.alloc (.cells #[.slice a8 K c8, .slice a8' K c8'] 26) = w9 := ⟨_, rfl⟩
  have hb9 : Below w8.heap.size w8 w9 := by rw [← hw9]; exact below_al (Below.refl _ _) _
  have hX9 : Loc w9 w8.heap.size #[.slice a8 K c8, .slice a8' K c8'] 26 := by rw [← hw9]; exact Loc.new w8 rfl _ _
  have hz8 := hb8.size
  have hb79 := below_th hb8 hb9
  have hL9 := hL7.below hb79 hL7.lt
  have hob9 := hob7.below hb79
  have hoF9 := hoF7.below hb79
  have hd9 := hd7.below hb79
  have hB9 := below_th hB7 hb79
  have ho9 := ho8.below hb9
  have hz9 := hb79.size
  have lL9 := hL9.two
  have HW9 := Lib.hid hw9
  clear hw9 hL7 hob7 hoF7 hd7 hB7 ho8 hb8 hb9 hb79
  have HCO : Hid (∀ v : World, Row v ab nb ys → Calls Tryz.prog 24 #[bAgg N ab nb cb] v (RetR v (compL N ys) 0)) := Lib.hid fun v hv => by have := impl_Comp_any N ab nb cb ys v hv (by omega) ⟨by omega, by omega⟩; unfold compF at this; rw [if_pos HBB.out] at this; exact this
  go_wp2_with fail
  try rw [HW9.out]
  clear mL
  refine (HCO.out _ hob9.row).mono ?_
  rintro e w10 ⟨a10, n10, c10, rfl, ho10, hb10⟩
  obtain rfl : N = n10 := by have := ho10.len; rw [compL_len] at this; exact this.symm
  have hL10 := hL9.below hb10 hL9.lt
  have hX10 := hX9.below hb10 hX9.lt
  have hob10 := hob9.below hb10
  have hoF10 := hoF9.below hb10
  have hd10 := hd9.below hb10
  have hB10 := below_th hB9 hb10
  have hos10 := ho9.below hb10
  have hz10 := hb10.size
  have lL10 := hL10.two
  clear HCO hL9 lL9 hX9 hob9 hoF9 hd9 hB9 ho9 hb10
  have HLK : Hid (∀ v : World, Row v ab nb ys → Calls Tryz.prog 25 #[bAgg N ab nb cb] v (RetT v (tabF (ncL N ys) (halV (lnkV N ys ys.length))) 0)) := Lib.hid fun v hv => by have := impl_Lnk_l N ab nb cb ys v ⟨by omega, by omega⟩ hv (by omega) HSM.out; unfold lnkF at this; rw [if_pos HBB.out] at this; exact this
  go_wp2_with fail
  refine (HLK.out _ hob10.row).mono ?_
  rintro e w11 ⟨a11, n11, c11, vs11, rfl, ho11, hb11⟩
  obtain ⟨C, hC⟩ : ∃ C, ncL N ys = C := ⟨_, rfl⟩
  have hCN : C ≤ 6 := by have := ncL_le N ys; omega
  rw [hC] at ho11
  obtain rfl : C = n11 := by have := ho11.tbl.len; rw [tabF_len] at this; exact this.symm
  have HG : Hid (grtL (compL N ys) = (C : Int)) := Lib.hid (by rw [← ncL_cast, hC])
  have HC := Lib.hid hC
  have hLY : Hid (ys.length ≤ 31) := Lib.hid (by rw [← HLB.out]; exact hnb)
  have HLV : Hid (∀ i j, i < C → j < C → -40 ≤ ((tabF C (halV (lnkV N ys ys.length))).getD i []).getD j 0 ∧ ((tabF C (halV (lnkV N ys ys.length))).getD i []).getD j 0 ≤ 40) := Lib.hid fun i j hi hj => lnk_val hLY.out hi hj
  clear hC
  obtain ⟨L, hLe⟩ : ∃ L, tabF C (halV (lnkV N ys ys.length)) = L := ⟨_, rfl⟩
  have HLr : Hid (∀ i, i < C → (L.getD i []).length = C) := Lib.hid fun i hi => by rw [← hLe, tabF_row hi]; simp
  rw [hLe] at ho11 HLV
  have HLE := Lib.hid hLe
  clear hLe
  have hL11 := hL10.below hb11 hL10.lt
  have hX11 := hX10.below hb11 hX10.lt
  have hob11 := hob10.below hb11
  have hoF11 := hoF10.below hb11
  have hd11 := hd10.below hb11
  have hB11 := below_th hB10 hb11
  have hos11 := hos10.below hb11
  have ho10b := ho10.below hb11
  have hz11 := hb11.size
  have lL11 := hL11.two
  have u1 : ((N : Int) != (N : Int)) = false := by simp
  have u2 : ((C : Int) != (C : Int)) = false := by simp
  clear HLK hL10 lL10 hX10 hob10 hoF10 hd10 hB10 hos10 hb11 ho10
  have HCP : Hid (∀ x ∈ compL N ys, 0 ≤ x ∧ x ≤ 1000000000) := Lib.hid fun x hx => by
    obtain ⟨i, hi, rfl⟩ := List.getElem_of_mem hx
    have := compL_get N ys i (by rw [compL_len] at hi; exact hi)
    rw [getD_at hi] at this
    omega
  go_wp2_with fail
  refine (top5_any a10 N c10 (compL N ys) _ ho10b.row (by omega) HCP.out).mono ?_
  rintro e w11' ⟨rfl, rfl⟩
  rw [HG.out]
  go_wp2_with fail
  refine (list5_ok bd C K _ hd11 ⟨by omega, by omega⟩ (by omega)).mono ?_
  rintro e w12 ⟨a12, c12, col, rfl, hcol, _, ho12, hd12, hg12⟩
  have HCOL := Lib.hid (hcol (by omega))
  have HCL := Lib.hid ho12.len
  have hL12 := hL11.grown hg12 (by simp; omega)
  have hX12 := hX11.grown hg12 (by simp; omega)
  have hob12 := hob11.grown hg12 (fun g e => by have := hob11.lo g e; simp; omega)
  have hoF12 := hoF11.grownS hg12 (by omega)
  have hos12f := hos11.f.grownS hg12 (by omega)
  have hos12s := hos11.s.grownS hg12 (by omega)
  have ho10c := ho10b.grown hg12 (fun g e => by have := ho10b.lo g e; simp; omega)
  have ho11c := ho11.grownS hg12 (by omega)
  have hB12 := below_grown hB11 hg12 hbd
  clear hL11 lL11 hX11 hob11 hoF11 hos11 ho10b ho11 hB11 hg12 hd11 hd12 hcol u1 u2
  obtain ⟨V, hV⟩ : ∃ V, lkTot C L F col % m = V := ⟨_, rfl⟩
  have HVAL : Hid (wotF (flA K) (flB K) m F N ys ((compL N ys).map fun a => col.getD a.toNat 0) = (V, 0) ∧ colF (flA K) (flB K) N ys ((compL N ys).map fun a => col.getD a.toNat 0) = (true, 0) ∧ I64s ((compL N ys).map fun a => col.getD a.toNat 0)) := Lib.hid (by
    have := lks_vals HBB.out hK1 hK4 HMX.out (by rw [HC.out]; exact HCL.out.symm) HCOL.out
    rw [HC.out, HLE.out, hV] at this
    exact this)
  have HV := Lib.hid hV
  clear hV
  obtain ⟨tup, htup⟩ : ∃ tup : List Int, ((compL N ys).map fun a => col.getD a.toNat 0) = tup := ⟨_, rfl⟩
  have HTL : Hid (tup.length = N) := Lib.hid (by rw [← htup, List.length_map, compL_len])
  have HTG : Hid (∀ k, k < N → ∃ lb : Nat, lb < C ∧ (compL N ys).getD k 0 = (lb : Int) ∧ tup.getD k 0 = col.getD lb 0) := Lib.hid fun k hk => by
    obtain ⟨l1, l2⟩ := labN_lt N ys k hk
    refine ⟨labN N ys k, by rw [← HC.out]; exact l1, l2, ?_⟩
    rw [← htup]
    have e3 : ((compL N ys).map fun a => col.getD a.toNat 0).getD k 0 = col.getD ((compL N ys).getD k 0).toNat 0 := by
      simp [List.getD_eq_getElem?_getD, List.getElem?_map, List.getElem?_eq_getElem (show k < (compL N ys).length by rw [compL_len]; exact hk)]
    rw [e3, l2, Int.toNat_natCast]
  rw [htup] at HVAL
  clear htup
  obtain ⟨w13, hw13⟩ : ∃ w13, w12.alloc (.cells #[] 2) = w13 := ⟨_, rfl⟩
  have hb13 : Below w12.heap.size w12 w13 := by rw [← hw13]; exact below_al (Below.refl _ _) _
  have hO13 : Own w13 w12.heap.size (some ⟨w12.heap.size, 0, none⟩) 0 0 [] := by rw [← hw13]; exact Own.fresh w12 rfl
  have HW13 := Lib.hid hw13
  clear hw13
  obtain ⟨E, hE⟩ : ∃ E : Nat → Nat → Int, ∀ i j, E i j = (L.getD i []).getD j 0 * (F.getD (col.getD i 0).toNat []).getD (col.getD j 0).toNat 0 := ⟨_, fun _ _ => rfl⟩
  have HCI : Hid (∀ i, i < C → ∃ ci : Nat, ci < K ∧ col.getD i 0 = (ci : Int)) := Lib.hid fun i hi => by
    have hl : i < col.length := by rw [← HCL.out]; exact hi
    have := HCOL.out _ (List.getElem_mem hl)
    exact ⟨(col[i]).toNat, by omega, by rw [List.getD_eq_getElem?_getD, List.getElem?_eq_getElem hl, Option.getD_some]; omega⟩
  have HFV : Hid (∀ x y, x < K → y < K → 0 ≤ (F.getD x []).getD y 0 ∧ (F.getD x []).getD y 0 ≤ 12) := Lib.hid fun x y hx hy => by have := mx_at HMX.out hx hy; omega
  have HEB : Hid (∀ i j, i < C → j < C → -((500 : Nat) : Int) ≤ E i j ∧ E i j ≤ ((500 : Nat) : Int)) := Lib.hid fun i j hi hj => by
    obtain ⟨ci, h1, e1⟩ := HCI.out i hi
    obtain ⟨cj, h2, e2⟩ := HCI.out j hj
    have h3 := HFV.out ci cj h1 h2
    have h4 := HLV.out i j hi hj
    rw [hE, e1, e2, Int.toNat_natCast, Int.toNat_natCast]
    obtain ⟨A, hA⟩ : ∃ A, (L.getD i []).getD j 0 = A := ⟨_, rfl⟩
    obtain ⟨B, hB⟩ : ∃ B, (F.getD ci []).getD cj 0 = B := ⟨_, rfl⟩
    rw [hA] at h4 ⊢
    rw [hB] at h3 ⊢
    have a1 : A * B ≤ 40 * 12 := by
      have q1 : A * B ≤ 40 * B := Int.mul_le_mul_of_nonneg_right h4.2 h3.1
      omega
    have a2 : (-40) * 12 ≤ A * B := by
      have q1 : (-40) * B ≤ A * B := Int.mul_le_mul_of_nonneg_right h4.1 h3.1
      omega
    omega
  have HEI : Hid (∀ i, i < C → -((3000 : Nat) : Int) ≤ smN C (E i) ∧ smN C (E i) ≤ ((3000 : Nat) : Int)) := Lib.hid fun i hi => by
    have := smN_bd (n := C) (v := E i) (K := 500) (fun j hj => HEB.out i j hi hj)
    have hc : C * 500 ≤ 6 * 500 := Nat.mul_le_mul_right _ hCN
    omega
  have HTOT : Hid (lkTot C L F col = smN C fun i => smN C (E i)) := Lib.hid (by unfold lkTot; exact smN_congr fun i _ => smN_congr fun j _ => (hE i j).symm)
  have HE := Lib.hid hE
  clear hE
  go_wp2
  try rw [HW13.out]
  go_loopw [19, 20] (fun t i wr => ∃ (k : Nat) (at_ : Option Addr) (ct : Nat), k ≤ N ∧ i = .int .i64 k ∧ t = .slice at_ k ct ∧ Own wr w12.heap.size at_ k ct (tup.take k) ∧ Below w12.heap.size w12 wr) (fun _ i _ => N - (intOf i).toNat)
  case atStart => exact ⟨0, _, 0, Nat.zero_le _, rfl, rfl, hO13, hb13⟩
  case round =>
    clear hO13 hb13
    obtain ⟨k, at_, ct, hk, rfl, rfl, hO, hbr⟩ := hrel
    obtain ⟨W, rfl⟩ : ∃ W : World, W = wr := ⟨_, rfl⟩
    have hzW := hbr.size
    by_cases hlt : k < N
    · obtain ⟨lb, hlb, el, et⟩ := HTG.out k hlt
      obtain ⟨b1, o1, rfl, d1⟩ := (ho10c.row.below hbr).at k hlt
      rw [el] at d1
      obtain ⟨b2, o2, rfl, d2⟩ := (ho12.row.below hbr).at lb hlb
      have q0 : (0 : Int) ≤ (lb : Int) := by omega
      have q1 : (lb : Int) < (C : Int) := by omega
      have q2 : ¬ ((lb : Int) < 0) := by omega
      obtain ⟨Z, hZ⟩ : ∃ Z, col.getD lb 0 = Z := ⟨_, rfl⟩
      rw [hZ] at d2 et
      have HT : Hid (tup.take (k + 1) = tup.take k ++ [Z]) := Lib.hid (by
        have hl : k < tup.length := by rw [HTL.out]; exact hlt
        rw [List.take_succ_eq_append_getElem hl]
        congr 2
        rw [List.getD_eq_getElem?_getD, List.getElem?_eq_getElem hl] at et
        exact et)
      have hk1 : k + 1 ≤ 1000000000000 := by omega
      clear el et hZ
      go_wp2_with (at_builtin; refine app1 rfl rfl hO rfl rfl hk1 hzW ?_; intro g' cc w8 hO8 hg8 hs8 hb8)
      go_roundw
      case rel => exact ⟨k + 1, _, cc, by omega, by go_num, rfl, by rw [HT.out]; exact hO8, hbr.trans hb8⟩
      case measure => simp [intOf]; omega
    · obtain rfl : k = N := by omega
      have hOt : Row W at_ k tup := by
        have := hO.row
        rwa [List.take_of_length_le (by rw [HTL.out]; exact Nat.le_refl _)] at this
      have hct := hO.cap
      have hLw := hL12.below hbr hL12.lt
      have hXw := hX12.below hbr hX12.lt
      have hobw := hob12.below hbr
      have hFw := (hoF12.below hbr).tbl
      have hfw := (hos12f.below hbr).tbl
      have hsw := (hos12s.below hbr).tbl
      have hcw := (ho12.below hbr).row
      have hnw := (ho11c.below hbr).tbl
      have hBw := below_th hB12 hbr
      clear hL12 hX12 hob12 hoF12 hos12f hos12s ho12 ho11c ho10c hB12 hO hlt
      have HSMz : Hid (smN 0 (fun i => smN C (E i)) = 0) := Lib.hid rfl
      go_wp2
      go_loopw [21, 22] (fun t i wr => ∃ (p : Nat) (T : Int), p ≤ C ∧ i = .int .i64 p ∧ t = .int .i64 T ∧ Hid (T = smN p fun i => smN C (E i)) ∧ Hid (∃ q, wr = W.drewN q)) (fun _ i _ => C - (intOf i).toNat)
      case atStart => exact ⟨0, 0, Nat.zero_le _, rfl, rfl, Lib.hid rfl, Lib.hid ⟨0, rfl⟩⟩
      case round =>
        obtain ⟨p, T, hp, rfl, rfl, HT, HW⟩ := hrel
        obtain ⟨V1, rfl⟩ : ∃ V1 : World, V1 = wr := ⟨_, rfl⟩
        have hTb := smN_bd (n := p) (v := fun i => smN C (E i)) (K := 3000) (fun i hi => HEI.out i (by omega))
        have hpc : p * 3000 ≤ 6 * 3000 := Nat.mul_le_mul_right _ (by omega)
        rw [← HT.out] at hTb
        have hT1 : -18000 ≤ T := by omega
        have hT2 : T ≤ 18000 := by omega
        clear hTb hpc
        by_cases hlt : p < C
        · obtain ⟨q, hq⟩ := HW.out
          have tn : Tbl V1 a11 C L := by rw [hq]; exact hnw.drewN q
          obtain ⟨bn, on, ai, mi, ci', rfl, d1, r1, lm1⟩ := tn.at p hlt
          have hmi : mi = C := by have := r1.len; rw [HLr.out p hlt] at this; exact this
          subst mi
          have uC : ((C : Int) != (C : Int)) = false := by simp
          clear hq
          go_wp2
          clear uC
          go_loopw [21, 23] (fun t j wr => ∃ (r : Nat) (T' : Int), r ≤ C ∧ j = .int .i64 r ∧ t = .int .i64 T' ∧ Hid (T' = T + smN r (E p)) ∧ Hid (∃ q, wr = V1.drewN q)) (fun _ j _ => C - (intOf j).toNat)
          case atStart => exact ⟨0, T, Nat.zero_le _, rfl, rfl, Lib.hid (by simp [smN]), Lib.hid ⟨0, rfl⟩⟩
          case round =>
            obtain ⟨r, T', hr, rfl, rfl, HT', HW'⟩ := hrel
            obtain ⟨V2, rfl⟩ : ∃ V2 : World, V2 = wr := ⟨_, rfl⟩
            by_cases hlr : r < C
            · obtain ⟨q, hq⟩ := HW.out
              obtain ⟨q', hq'⟩ := HW'.out
              have e2 : V2 = W.drewN (q + q') := by rw [hq', hq, World.drewN_drewN]
              have hb1 := smN_bd (n := r) (v := E p) (K := 500) (fun j hj => HEB.out p j hlt (by omega))
              have hrc : r * 500 ≤ 6 * 500 := Nat.mul_le_mul_right _ (by omega)
              have hT3 : -22000 ≤ T' := by have := HT'.out; omega
              have hT4 : T' ≤ 22000 := by have := HT'.out; omega
              clear hb1 hrc
              obtain ⟨ci, hci, ec⟩ := HCI.out p hlt
              obtain ⟨cj, hcj, ed⟩ := HCI.out r hlr
              have tn2 : Tbl V2 (some ⟨bn, on, none⟩) C L := by rw [e2]; exact hnw.drewN _
              have tF : Tbl V2 aF K F := by rw [e2]; exact hFw.drewN _
              have tc : Row V2 a12 C col := by rw [e2]; exact hcw.drewN _
              obtain ⟨bn2, on2, ai2, mi2, ci2, en2, d2, r2, lm2⟩ := tn2.at p hlt
              cases en2
              have hmi2 : mi2 = C := by have := r2.len; rw [HLr.out p hlt] at this; exact this
              subst mi2
              obtain ⟨bL, oL, rfl, d3⟩ := r2.at r hlr
              obtain ⟨bc, oc, rfl, d4⟩ := tc.at p hlt
              obtain ⟨bc', oc', ecc, d5⟩ := tc.at r hlr
              cases ecc
              rw [ec] at d4
              rw [ed] at d5
              obtain ⟨bF, oF, aFi, mF, cFi, rfl, d6, r6, lm6⟩ := tF.at ci hci
              have hmF : mF = K := by have := r6.len; rw [mx_rlen HMX.out hci] at this; exact this
              subst mF
              obtain ⟨bG, oG, rfl, d7⟩ := r6.at cj hcj
              have HP := HE.out p r
              rw [ec, ed, Int.toNat_natCast, Int.toNat_natCast] at HP
              have hPb := HEB.out p r hlt hlr
              obtain ⟨A, hA⟩ : ∃ A, (L.getD p []).getD r 0 = A := ⟨_, rfl⟩
              obtain ⟨B, hB⟩ : ∃ B, (F.getD ci []).getD cj 0 = B := ⟨_, rfl⟩
              obtain ⟨P, hP⟩ : ∃ P, E p r = P := ⟨_, rfl⟩
              rw [hA, hB, hP] at HP
              rw [hP] at hPb
              rw [hA] at d3
              rw [hB] at d7
              have g0 : (0 : Int) ≤ (ci : Int) := by omega
              have g1 : (ci : Int) < (K : Int) := by omega
              have g2 : (0 : Int) ≤ (cj : Int) := by omega
              have g3 : (cj : Int) < (K : Int) := by omega
              have g4 : (r : Int) < (C : Int) := by omega
              have g5 : (p : Int) < (C : Int) := by omega
              have g6 : (0 : Int) ≤ (r : Int) := by omega
              have g7 : (0 : Int) ≤ (p : Int) := by omega
              have HN : Hid (T' + P = T + smN (r + 1) (E p)) := Lib.hid (by simp only [smN]; rw [hP, HT'.out]; omega)
              have hw1 : IntKind.i64.wrap (A * B) = P := by rw [← HP]; exact IntWalk.i64_in _ (by omega)
              have hw2 : IntKind.i64.wrap (T' + P) = T' + P := IntWalk.i64_in _ (by omega)
              clear HP hA hB hP hPb e2 hq hq' ec ed tn tn2 tF tc r1 r2 r6
              go_wp2
              go_quiet (fail)
              go_wp2
              go_roundw
              case rel =>
                refine ⟨r + 1, T' + P, by omega, by go_num, rfl, HN, Lib.hid ?_⟩
                obtain ⟨q', hq'⟩ := HW'.out
                exact ⟨q' + nq, by rw [hq', World.drewN_drewN]⟩
              case measure => simp [intOf]; omega
            · obtain rfl : r = C := by omega
              go_wp2
              go_roundw
              case rel =>
                refine ⟨p + 1, T', by omega, by go_num, rfl, Lib.hid (by simp only [smN]; rw [← HT.out]; exact HT'.out), Lib.hid ?_⟩
                obtain ⟨q, hq⟩ := HW.out
                obtain ⟨q', hq'⟩ := HW'.out
                exact ⟨q + q', by rw [hq', hq, World.drewN_drewN]⟩
              case measure => simp [intOf]; omega
        · obtain rfl : p = C := by omega
          obtain ⟨q, hq⟩ := HW.out
          have hLv : Loc V1 (w2.heap.size + 1) #[.int .i64 k, .slice ab nb cb] 42 := by rw [hq]; exact hLw.drewN q
          have hXv : Loc V1 w8.heap.size #[.slice a8 K c8, .slice a8' K c8'] 26 := by rw [hq]; exact hXw.drewN q
          have hobv : Row V1 ab nb ys := by rw [hq]; exact hobw.row.drewN q
          have hFv : Tbl V1 aF K F := by rw [hq]; exact hFw.drewN q
          have hfv : Tbl V1 a8 K (flA K) := by rw [hq]; exact hfw.drewN q
          have hsv : Tbl V1 a8' K (flB K) := by rw [hq]; exact hsw.drewN q
          have hOv : Row V1 at_ k tup := by rw [hq]; exact hOt.drewN q
          have hBv : Below w.heap.size w V1 := by rw [hq]; exact below_drewN hBw q
          have hVT : T % m = V := by rw [HT.out, ← HTOT.out]; exact HV.out
          obtain ⟨m1, m2, m3, m4⟩ := mod_twice T m (by omega)
          obtain ⟨R, hR⟩ : ∃ R, T.tmod m = R := ⟨_, rfl⟩
          rw [hR] at m1 m2 m3 m4
          rw [hVT] at m1 m2
          have m5 : IntKind.i64.wrap (R + m) = R + m := IntWalk.i64_in _ (by omega)
          have m6 : ¬ m = 0 := by omega
          have m7 : (m == 0) = false := by simpa using m6
          have lLv := hLv.two
          have lXv := hXv.two
          have HMOD := Lib.hid (And.intro m1 (And.intro m2 (And.intro hR m5)))
          clear hLw hXw hobw hFw hfw hsw hcw hnw hOt hBw hq hVT m1 m2 hR m5
          go_wp2_with fail
          refine (show Calls Tryz.prog 27 #[sAgg a8 K c8 a8' K c8', .int .i64 m, .slice aF K cF, bAgg k ab nb cb, .slice at_ k ct] V1 (RetI V1 V 0) from (by have := impl_Wot_l a8 K c8 (flA K) a8' K c8' (flB K) m aF K cF F k ab nb cb ys at_ k ct tup V1 ⟨hfv, hsv⟩ ⟨by omega, by omega⟩ ⟨by omega, by omega⟩ hFv (by omega) ⟨by omega, by omega⟩ hobv (by omega) HSM.out ⟨hcb1, hcb2⟩ hOv (by omega) HVAL.out.2.2; rw [HVAL.out.1] at this; exact this)).mono ?_
          rintro e w15 ⟨rfl, hb15⟩
          have hL15 := hLv.below hb15 hLv.lt
          have hX15 := hXv.below hb15 hXv.lt
          have lL15 := hL15.two
          have lX15 := hX15.two
          have hB15 := below_th hBv hb15
          go_wp2_with fail
          refine (show Calls Tryz.prog 28 #[sAgg a8 K c8 a8' K c8', bAgg k ab nb cb, .slice at_ k ct] w15 (RetO w15 true 0) from (by have := impl_Col_l a8 K c8 (flA K) a8' K c8' (flB K) k ab nb cb ys at_ k ct tup w15 ⟨hfv.below hb15, hsv.below hb15⟩ ⟨by omega, by omega⟩ ⟨by omega, by omega⟩ (hobv.below hb15) (by omega) HSM.out (hOv.below hb15) (by omega) HVAL.out.2.2; rw [HVAL.out.2.1] at this; exact this)).mono ?_
          rintro e w16 ⟨rfl, hb16⟩
          have hB16 := below_th hB15 hb16
          obtain ⟨n1, n2, n3, n4⟩ := HMOD.out
          clear hfv hsv hFv hobv hOv hLv hXv hL15 hX15
          go_wp2
          go_ret
          exact ⟨rfl, hB16⟩
end Go.Proofs.YtkjpkdmnjbjjaaaGreat
