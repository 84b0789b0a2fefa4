/-
  The walk of the law of weights along braids: it answers true.
  No condition.
-/
import Derived.Test.YtpdgpgbgakinlaaGreatPb36
import Derived.Test.YtpdgpgbgakinlaaGreatPb39
import Derived.Test.YtpdgpgbgakinlaaGreatPb30
import Derived.Test.YtpdgpgbgakinlaaGreatPb33
import Derived.Test.YtpdgpgbgakinlaaGreatPb16
import Derived.Test.YtpdgpgbgakinlaaGreatPb34
import Derived.Test.YtpdgpgbgakinlaaGreatPb40
import Derived.Test.YtpdgpgbgakinlaaGreatPb41
import Derived.Deep.DeepCutAuto
namespace Go.Proofs.YtpdgpgbgakinlaaGreat
set_option maxRecDepth 100000
set_option linter.unusedVariables false
set_option linter.unusedSimpArgs false
open Go.RowKit
theorem sml_i64B {xs : List Int} (h : Sml xs) : I64s xs := fun x hx => by have := h x hx; exact ⟨by omega, by omega⟩
theorem less_i64B {n : Nat} (hn : n ≤ 1000000) {l : List Int} (h : Less n l) : I64s l := fun x hx => by
  obtain ⟨i, hi, rfl⟩ := List.getElem_of_mem hx
  obtain ⟨k, hk, e⟩ := h i hi
  rw [List.getD_eq_getElem?_getD, List.getElem?_eq_getElem hi, Option.getD_some] at e
  rw [e]; exact ⟨by omega, by omega⟩
theorem red_brB {n : Nat} {xs : List Int} (h : isBr n xs = true) : isBr n (redL xs) = true := by
  obtain ⟨h2, h6, h30, hl⟩ := br_ltr h
  have := red_sim (n := n) (s := (0, [])) (fun p hp => by simp at hp) xs [] hl (fun x hx => by simp at hx)
  refine ltr_br h2 h6 this.2 ?_
  have hr := red_len xs xs.length (Nat.le_refl _)
  rw [List.take_length] at hr
  unfold redL; omega
theorem mid_br {n : Nat} {xs zs : List Int} (h : isBr n xs = true) (hl : xs.length ≤ 24) (hn : 3 ≤ n) (hz : ∀ x ∈ zs, x = 1 ∨ x = 2) (h3 : zs.length = 3) (q : Nat) : isBr n ((xs.take q ++ zs) ++ xs.drop q) = true := by
  obtain ⟨h2, h6, _, hlt⟩ := br_ltr h
  refine ltr_br h2 h6 (fun x hx => ?_) (by simp only [List.length_append, List.length_take, List.length_drop]; omega)
  rcases List.mem_append.1 hx with hx | hx
  · rcases List.mem_append.1 hx with hx | hx
    · exact hlt x (List.mem_of_mem_take hx)
    · rcases hz x hx with rfl | rfl
      · exact ⟨by omega, by show plN 1 + 1 < n; unfold plN; simp; omega⟩
      · exact ⟨by omega, by show plN 2 + 1 < n; unfold plN; simp; omega⟩
  · exact hlt x (List.mem_of_mem_drop hx)
set_option maxHeartbeats 64000000 in
theorem law_Bwt (a : Option Addr) (n c : Nat) (xs : List Int) (w : World) (h : Bts w a n xs) (hn : n ≤ 9223372036854775807) :
    Calls Tryz.prog 3 #[.slice a n c] w fun e w' => e = .returned (.bool true) ∧ Below w.heap.size w w' := by
  have hB : Below w.heap.size w w := Below.refl _ _
  go_enter Tryz.func3, Tryz.ntmps3
  go_wp2_with fail
  refine (big_any a n c _ hn).mono ?_
  rintro e w0 ⟨rfl, rfl⟩
  by_cases hbig : 4096 < n
  · have hd : decide (4096 < n) = true := by simpa using hbig
    rw [hd]
    go_wp2
    go_ret
    exact ⟨rfl, Below.refl _ _⟩
  have hd : decide (4096 < n) = false := by simpa using hbig
  rw [hd]
  clear hd hbig
  go_wp2_with fail
  refine (DrawWeightOfTuple_ok a n c xs _ (h.below hB) hn).mono ?_
  rintro e w1 ⟨a1, n1, c1, f, a2, n2, c2, g, m, am, nm, cm, F, S, ab, nb, cb, ys, al, k, cl, l, rfl, hn1, hn2, hnm, hm1, hm2, hS1, hS2, hnb, hcb1, hcb2, hk, hsm, hl, hof, hos, hoF, hob, hol, hbw1⟩
  replace hob := hob.row
  replace hB := below_th hB hbw1
  have HSM := Lib.hid (sml_i64B hsm)
  have HLI : Hid (I64s l) := Lib.hid fun x hx => by have := hl x hx; exact ⟨by omega, by omega⟩
  have HLF := Lib.hid hof.len
  have HLL := Lib.hid hol.len
  have HLB := Lib.hid hob.len
  clear hsm hl
  obtain ⟨V, K, hVK⟩ : ∃ V K, wotF f g m F S ys l = (V, K) := ⟨_, _, rfl⟩
  have HWI : Hid (∀ v : World, Tbl v a1 n1 f → Tbl v a2 n2 g → Tbl v am nm F → Row v ab nb ys → Row v al k l → Calls Tryz.prog 8 #[sAgg a1 n1 c1 a2 n2 c2, .int .i64 m, .slice am nm cm, bAgg S ab nb cb, .slice al k cl] v (RetI v V K)) := Lib.hid fun v h1 h2 h3 h4 h5 => by have := impl_Wot_l a1 n1 c1 f a2 n2 c2 g m am nm cm F S ab nb cb ys al k cl l v ⟨h1, h2⟩ ⟨by omega, by omega⟩ ⟨by omega, by omega⟩ h3 (by omega) ⟨by omega, by omega⟩ h4 (by omega) HSM.out ⟨hcb1, hcb2⟩ h5 (by omega) HLI.out; rw [hVK] at this; exact this
  have HWS : Hid (∀ v : World, Tbl v a1 n1 f → Tbl v a2 n2 g → Tbl v am nm F → Row v ab nb ys → Row v al k l → Calls Tryz.prog 9 #[sAgg a1 n1 c1 a2 n2 c2, .int .i64 m, .slice am nm cm, bAgg S ab nb cb, .slice al k cl] v (RetI v V K)) := Lib.hid fun v h1 h2 h3 h4 h5 => by have := spec_Wot_l a1 n1 c1 f a2 n2 c2 g m am nm cm F S ab nb cb ys al k cl l v ⟨h1, h2⟩ ⟨by omega, by omega⟩ ⟨by omega, by omega⟩ h3 (by omega) ⟨by omega, by omega⟩ h4 (by omega) HSM.out ⟨hcb1, hcb2⟩ h5 (by omega) HLI.out; rw [hVK] at this; exact this
  have HVK := Lib.hid hVK
  clear hVK
  have uK : (K != K) = false := by simp
  have uV : (V != V) = false := by simp
  have m3 := ((Loc.new w1 rfl #[.slice a1 n1 c1, .slice a2 n2 c2] 26).alloc (.cells #[.int .i64 S, .slice ab nb cb] 29)).two
  have m6 := (Loc.new (b := w1.heap.size + 1) (w1.alloc (.cells #[.slice a1 n1 c1, .slice a2 n2 c2] 26)) (by simp) #[.int .i64 S, .slice ab nb cb] 29).two
  go_wp2_with fail
  refine (HWI.out _ ((hof.alloc (.cells #[.slice a1 n1 c1, .slice a2 n2 c2] 26)).alloc (.cells #[.int .i64 S, .slice ab nb cb] 29)) ((hos.alloc (.cells #[.slice a1 n1 c1, .slice a2 n2 c2] 26)).alloc (.cells #[.int .i64 S, .slice ab nb cb] 29)) ((hoF.alloc (.cells #[.slice a1 n1 c1, .slice a2 n2 c2] 26)).alloc (.cells #[.int .i64 S, .slice ab nb cb] 29)) ((hob.alloc (.cells #[.slice a1 n1 c1, .slice a2 n2 c2] 26)).alloc (.cells #[.int .i64 S, .slice ab nb cb] 29)) ((hol.alloc (.cells #[.slice a1 n1 c1, .slice a2 n2 c2] 26)).alloc (.cells #[.int .i64 S, .slice ab nb cb] 29))).mono ?_
  rintro e w2 ⟨rfl, hbw2⟩
  clear m3 m6
  have hL3 := ((Loc.new w1 rfl #[.slice a1 n1 c1, .slice a2 n2 c2] 26).alloc (.cells #[.int .i64 S, .slice ab nb cb] 29)).below hbw2 ((Loc.new w1 rfl #[.slice a1 n1 c1, .slice a2 n2 c2] 26).alloc (.cells #[.int .i64 S, .slice ab nb cb] 29)).lt
  have l3 := hL3.two
  have hL6 := (Loc.new (b := w1.heap.size + 1) (w1.alloc (.cells #[.slice a1 n1 c1, .slice a2 n2 c2] 26)) (by simp) #[.int .i64 S, .slice ab nb cb] 29).below hbw2 (Loc.new (b := w1.heap.size + 1) (w1.alloc (.cells #[.slice a1 n1 c1, .slice a2 n2 c2] 26)) (by simp) #[.int .i64 S, .slice ab nb cb] 29).lt
  have l6 := hL6.two
  replace hof := ((hof.alloc (.cells #[.slice a1 n1 c1, .slice a2 n2 c2] 26)).alloc (.cells #[.int .i64 S, .slice ab nb cb] 29)).below hbw2
  replace hos := ((hos.alloc (.cells #[.slice a1 n1 c1, .slice a2 n2 c2] 26)).alloc (.cells #[.int .i64 S, .slice ab nb cb] 29)).below hbw2
  replace hoF := ((hoF.alloc (.cells #[.slice a1 n1 c1, .slice a2 n2 c2] 26)).alloc (.cells #[.int .i64 S, .slice ab nb cb] 29)).below hbw2
  replace hob := ((hob.alloc (.cells #[.slice a1 n1 c1, .slice a2 n2 c2] 26)).alloc (.cells #[.int .i64 S, .slice ab nb cb] 29)).below hbw2
  replace hol := ((hol.alloc (.cells #[.slice a1 n1 c1, .slice a2 n2 c2] 26)).alloc (.cells #[.int .i64 S, .slice ab nb cb] 29)).below hbw2
  replace hB := below_th (below_al (below_al hB (.cells #[.slice a1 n1 c1, .slice a2 n2 c2] 26)) (.cells #[.int .i64 S, .slice ab nb cb] 29)) hbw2
  go_wp2_with fail
  refine (HWS.out _ hof hos hoF hob hol).mono ?_
  rintro e w3 ⟨rfl, hbw3⟩
  replace hL3 := hL3.below hbw3 hL3.lt
  replace l3 := hL3.two
  replace hL6 := hL6.below hbw3 hL6.lt
  replace l6 := hL6.two
  replace hof := hof.below hbw3
  replace hos := hos.below hbw3
  replace hoF := hoF.below hbw3
  replace hob := hob.below hbw3
  replace hol := hol.below hbw3
  replace hB := below_th hB hbw3
  rcases bwt_facts f g m F S ys l with ⟨k0, hk0, hkk⟩ | ⟨N, rfl, hsol, hbr, hmx, hll, hle, hwo⟩
  · as_aux_lemma =>
      have e0 := HVK.out.symm.trans hk0
      obtain ⟨rfl, rfl⟩ : V = 0 ∧ K = k0 := ⟨congrArg Prod.fst e0, congrArg Prod.snd e0⟩
      have hK0 : (K != 0) = true := by rcases hkk with rfl | rfl <;> decide
      clear e0 hk0 hkk
      go_wp2
      go_ret
      exact ⟨rfl, hB⟩
  ·
      have e0 := HVK.out.symm.trans hwo
      obtain ⟨hV, rfl⟩ : V = wtF f.length f g F m ys l ∧ K = 0 := ⟨congrArg Prod.fst e0, congrArg Prod.snd e0⟩
      clear e0 hwo
      obtain ⟨hF1, hF2, sf, sg⟩ := isSol_sq hsol
      have hmb := (isMx_sq hmx).1
      have hN26 := (isBr_let hbr).1
      obtain ⟨e1, e2, e3, e4⟩ := bwt_laws hsol hbr hmx hll hle
      have hMID : 3 ≤ N → wtFlt f.length f g F m = [] → ∀ q, wtF f.length f g F m (ys.take q ++ ([1, 2, 1] ++ ys.drop q)) l = wtF f.length f g F m (ys.take q ++ ([2, 1, 2] ++ ys.drop q)) l := fun h3 hw q => bwt_mid hsol hbr hmx hll hle h3 hw q
      have hbrR := red_brB hbr
      have hbrI := ivL_br hbr
      have hl12 : I64s (actL f.length f g ys l) := less_i64B (by omega) e4
      have hbac := bacF_of hsol hbr (by omega) hle
      obtain ⟨O, hO⟩ : ∃ O, actL f.length f g ys l = O := ⟨_, rfl⟩
      rw [hO] at e2 e3 e4 hl12 hbac
      have hwR := wot_ok hsol hbrR hmx hll hle
      have hwI := wot_ok hsol hbrI hmx e3 e4
      rw [e1, ← hV] at hwR
      rw [← hV] at e2
      obtain ⟨C, hC⟩ : ∃ C, wtF f.length f g F m (ivL ys) O = C := ⟨_, rfl⟩
      rw [hC] at hwI e2
      have hCb : 0 ≤ C ∧ C < m := by rw [← hC]; exact ⟨Int.emod_nonneg _ (by omega), Int.emod_lt_of_pos _ (by omega)⟩
      have hVb : 0 ≤ V ∧ V < m := by rw [hV]; exact ⟨Int.emod_nonneg _ (by omega), Int.emod_lt_of_pos _ (by omega)⟩
      have hw1 : IntKind.i64.wrap (C + V) = C + V := IntWalk.i64_in _ (by omega)
      have hw2 : (C + V).tmod m = 0 := by rw [Int.tmod_eq_emod_of_nonneg (by omega)]; exact e2
      have p0 : ¬ m = 0 := by omega
      have p0b : (m == 0) = false := by simpa using p0
      have hkN : k = N := by rw [HLL.out]; exact hll
      subst hkN
      have HSOL := Lib.hid hsol; have HBR := Lib.hid hbr; have HMX := Lib.hid hmx; have HLE := Lib.hid hle; have HMID := Lib.hid hMID; have HLLN := Lib.hid hll
      have HBRR := Lib.hid hbrR; have HBRI := Lib.hid hbrI; have HOI := Lib.hid hl12
      have HO3 := Lib.hid e3
      have HBA : Hid (∀ v : World, Tbl v a1 n1 f → Tbl v a2 n2 g → Row v ab nb ys → Row v al k l → Calls Tryz.prog 12 #[sAgg a1 n1 c1 a2 n2 c2, bAgg k ab nb cb, .slice al k cl] v (RetR v O 0)) := Lib.hid fun v h1 h2 h4 h5 => by have := impl_Bac_l a1 n1 c1 f a2 n2 c2 g k ab nb cb ys al k cl l v ⟨h1, h2⟩ ⟨by omega, by omega⟩ ⟨by omega, by omega⟩ h4 (by omega) HSM.out h5 (by omega) HLI.out; rw [hbac] at this; exact this
      have HWR : Hid (∀ (v : World) (ar : Option Addr) (nr cr : Nat), Tbl v a1 n1 f → Tbl v a2 n2 g → Tbl v am nm F → Own v v.heap.size ar nr cr [] ∨ True → Row v ar nr (redL ys) → nr ≤ cr ∧ cr ≤ 9223372036854775807 → nr ≤ 1000 → Row v al k l → Calls Tryz.prog 8 #[sAgg a1 n1 c1 a2 n2 c2, .int .i64 m, .slice am nm cm, bAgg k ar nr cr, .slice al k cl] v (RetI v V 0)) := Lib.hid fun v ar nr cr h1 h2 h3 _ h4 hcc hnn h5 => by have := impl_Wot_l a1 n1 c1 f a2 n2 c2 g m am nm cm F k ar nr cr (redL ys) al k cl l v ⟨h1, h2⟩ ⟨by omega, by omega⟩ ⟨by omega, by omega⟩ h3 (by omega) ⟨by omega, by omega⟩ h4 (by omega) (fun x hx => by have := (isBr_let HBRR.out).2.2 x hx; exact ⟨by omega, by omega⟩) hcc h5 (by omega) HLI.out; rw [hwR] at this; exact this
      have HWV : Hid (∀ (v : World) (ar : Option Addr) (nr cr : Nat) (ao : Option Addr) (co : Nat), Tbl v a1 n1 f → Tbl v a2 n2 g → Tbl v am nm F → Row v ar nr (ivL ys) → nr ≤ cr ∧ cr ≤ 9223372036854775807 → nr ≤ 1000 → Row v ao k O → Calls Tryz.prog 8 #[sAgg a1 n1 c1 a2 n2 c2, .int .i64 m, .slice am nm cm, bAgg k ar nr cr, .slice ao k co] v (RetI v C 0)) := Lib.hid fun v ar nr cr ao co h1 h2 h3 h4 hcc hnn h5 => by have := impl_Wot_l a1 n1 c1 f a2 n2 c2 g m am nm cm F k ar nr cr (ivL ys) ao k co O v ⟨h1, h2⟩ ⟨by omega, by omega⟩ ⟨by omega, by omega⟩ h3 (by omega) ⟨by omega, by omega⟩ h4 (by omega) (fun x hx => by have := (isBr_let HBRI.out).2.2 x hx; exact ⟨by omega, by omega⟩) hcc h5 (by omega) HOI.out; rw [hwI] at this; exact this
      have HWG : Hid (∀ (v : World) (zs : List Int) (az : Option Addr) (nz cz : Nat) (Z : Int), wotF f g m F k zs l = (Z, 0) → Tbl v a1 n1 f → Tbl v a2 n2 g → Tbl v am nm F → Row v az nz zs → nz ≤ cz ∧ cz ≤ 9223372036854775807 → nz ≤ 1000 → I64s zs → Row v al k l → Calls Tryz.prog 8 #[sAgg a1 n1 c1 a2 n2 c2, .int .i64 m, .slice am nm cm, bAgg k az nz cz, .slice al k cl] v (RetI v Z 0)) := Lib.hid fun v zs az nz cz Z hz h1 h2 h3 h4 hcc hnn hzi h5 => by have := impl_Wot_l a1 n1 c1 f a2 n2 c2 g m am nm cm F k az nz cz zs al k cl l v ⟨h1, h2⟩ ⟨by omega, by omega⟩ ⟨by omega, by omega⟩ h3 (by omega) ⟨by omega, by omega⟩ h4 (by omega) hzi hcc h5 (by omega) HLI.out; rw [hz] at this; exact this
      have HIS : Hid (∀ v : World, Tbl v a1 n1 f → Tbl v a2 n2 g → Tbl v am nm F → Calls Tryz.prog 13 #[sAgg a1 n1 c1 a2 n2 c2, .int .i64 m, .slice am nm cm] v (RetO v (decide (wtFlt f.length f g F m = [])) 0)) := Lib.hid fun v h1 h2 h3 => by have := impl_Isw_l a1 n1 c1 f a2 n2 c2 g m am nm cm F v ⟨h1, h2⟩ ⟨by omega, by omega⟩ ⟨by omega, by omega⟩ h3 (by omega); have e : iswF f g m F = (decide (wtFlt f.length f g F m = []), 0) := (by unfold iswF; rw [if_pos HSOL.out, if_pos HMX.out]); rw [e] at this; exact this
      have HNB : Hid (nb ≤ 30) := Lib.hid (by rw [HLB.out]; exact (isBr_let HBR.out).2.1)
      clear hsol hbr hmx hle hMID hll hbrR hbrI hl12 e1 e2 e3 e4 hO hC hwR hwI hbac hV sf sg HWI HWS HVK
      go_wp2_with fail
      refine (impl_Red_ok k ab nb cb ys _ hob (by omega) HBR.out).mono ?_
      rintro e w4 ⟨a12, n12, c12, rfl, ho12, hbw4⟩
      replace hL3 := hL3.below hbw4 hL3.lt
      replace l3 := hL3.two
      replace hL6 := hL6.below hbw4 hL6.lt
      replace l6 := hL6.two
      replace hof := hof.below hbw4
      replace hos := hos.below hbw4
      replace hoF := hoF.below hbw4
      replace hob := hob.below hbw4
      replace hol := hol.below hbw4
      replace hB := below_th hB hbw4
      have m3 := (hL3.alloc (.cells #[.int .i64 k, .slice a12 n12 c12] 29)).two
      have m6 := (hL6.alloc (.cells #[.int .i64 k, .slice a12 n12 c12] 29)).two
      have m12 := (Loc.new w4 rfl #[.int .i64 k, .slice a12 n12 c12] 29).two
      go_wp2_with fail
      refine (impl_Ivb_ok k ab nb cb ys _ (hob.alloc (.cells #[.int .i64 k, .slice a12 n12 c12] 29)) HBR.out).mono ?_
      rintro e w5 ⟨a14, n14, c14, rfl, ho14, hbw5⟩
      clear m3 m6 m12
      replace hL3 := (hL3.alloc (.cells #[.int .i64 k, .slice a12 n12 c12] 29)).below hbw5 (hL3.alloc (.cells #[.int .i64 k, .slice a12 n12 c12] 29)).lt
      replace l3 := hL3.two
      replace hL6 := (hL6.alloc (.cells #[.int .i64 k, .slice a12 n12 c12] 29)).below hbw5 (hL6.alloc (.cells #[.int .i64 k, .slice a12 n12 c12] 29)).lt
      replace l6 := hL6.two
      have hL12 := (Loc.new w4 rfl #[.int .i64 k, .slice a12 n12 c12] 29).below hbw5 (Loc.new w4 rfl #[.int .i64 k, .slice a12 n12 c12] 29).lt
      have l12 := hL12.two
      replace hof := (hof.alloc (.cells #[.int .i64 k, .slice a12 n12 c12] 29)).below hbw5
      replace hos := (hos.alloc (.cells #[.int .i64 k, .slice a12 n12 c12] 29)).below hbw5
      replace hoF := (hoF.alloc (.cells #[.int .i64 k, .slice a12 n12 c12] 29)).below hbw5
      replace hob := (hob.alloc (.cells #[.int .i64 k, .slice a12 n12 c12] 29)).below hbw5
      replace hol := (hol.alloc (.cells #[.int .i64 k, .slice a12 n12 c12] 29)).below hbw5
      replace ho12 := (ho12.alloc (.cells #[.int .i64 k, .slice a12 n12 c12] 29)).below hbw5
      replace hB := below_th (below_al hB (.cells #[.int .i64 k, .slice a12 n12 c12] 29)) hbw5
      have m3 := (hL3.alloc (.cells #[.int .i64 k, .slice a14 n14 c14] 29)).two
      have m6 := (hL6.alloc (.cells #[.int .i64 k, .slice a14 n14 c14] 29)).two
      have m12 := (hL12.alloc (.cells #[.int .i64 k, .slice a14 n14 c14] 29)).two
      have m14 := (Loc.new w5 rfl #[.int .i64 k, .slice a14 n14 c14] 29).two
      go_wp2_with fail
      refine (HBA.out _ (hof.alloc (.cells #[.int .i64 k, .slice a14 n14 c14] 29)) (hos.alloc (.cells #[.int .i64 k, .slice a14 n14 c14] 29)) (hob.alloc (.cells #[.int .i64 k, .slice a14 n14 c14] 29)) (hol.alloc (.cells #[.int .i64 k, .slice a14 n14 c14] 29))).mono ?_
      rintro e w6 ⟨a16, n16, c16, rfl, ho16, hbw6⟩
      clear m3 m6 m12 m14
      replace hL3 := (hL3.alloc (.cells #[.int .i64 k, .slice a14 n14 c14] 29)).below hbw6 (hL3.alloc (.cells #[.int .i64 k, .slice a14 n14 c14] 29)).lt
      replace l3 := hL3.two
      replace hL6 := (hL6.alloc (.cells #[.int .i64 k, .slice a14 n14 c14] 29)).below hbw6 (hL6.alloc (.cells #[.int .i64 k, .slice a14 n14 c14] 29)).lt
      replace l6 := hL6.two
      replace hL12 := (hL12.alloc (.cells #[.int .i64 k, .slice a14 n14 c14] 29)).below hbw6 (hL12.alloc (.cells #[.int .i64 k, .slice a14 n14 c14] 29)).lt
      replace l12 := hL12.two
      have hL14 := (Loc.new w5 rfl #[.int .i64 k, .slice a14 n14 c14] 29).below hbw6 (Loc.new w5 rfl #[.int .i64 k, .slice a14 n14 c14] 29).lt
      have l14 := hL14.two
      replace hof := (hof.alloc (.cells #[.int .i64 k, .slice a14 n14 c14] 29)).below hbw6
      replace hos := (hos.alloc (.cells #[.int .i64 k, .slice a14 n14 c14] 29)).below hbw6
      replace hoF := (hoF.alloc (.cells #[.int .i64 k, .slice a14 n14 c14] 29)).below hbw6
      replace hob := (hob.alloc (.cells #[.int .i64 k, .slice a14 n14 c14] 29)).below hbw6
      replace hol := (hol.alloc (.cells #[.int .i64 k, .slice a14 n14 c14] 29)).below hbw6
      replace ho12 := (ho12.alloc (.cells #[.int .i64 k, .slice a14 n14 c14] 29)).below hbw6
      replace ho14 := (ho14.alloc (.cells #[.int .i64 k, .slice a14 n14 c14] 29)).below hbw6
      replace hB := below_th (below_al hB (.cells #[.int .i64 k, .slice a14 n14 c14] 29)) hbw6
      have hn16 : n16 = k := by rw [ho16.len]; exact HO3.out
      subst hn16
      have hc12 := ho12.cap
      have hc14 := ho14.cap
      have hl12' : n12 ≤ 1000 := by have e1 := ho12.len; have e2 := (isBr_let HBRR.out).2.1; omega
      have hl14' : n14 ≤ 1000 := by have e1 := ho14.len; have e2 := (isBr_let HBRI.out).2.1; omega
      go_wp2_with fail
      refine (HWR.out _ a12 n12 c12 hof hos hoF (.inr trivial) (ho12).row hc12 hl12' hol).mono ?_
      rintro e w7 ⟨rfl, hbw7⟩
      replace hL3 := hL3.below hbw7 hL3.lt
      replace l3 := hL3.two
      replace hL6 := hL6.below hbw7 hL6.lt
      replace l6 := hL6.two
      replace hL12 := hL12.below hbw7 hL12.lt
      replace l12 := hL12.two
      replace hL14 := hL14.below hbw7 hL14.lt
      replace l14 := hL14.two
      replace hof := hof.below hbw7
      replace hos := hos.below hbw7
      replace hoF := hoF.below hbw7
      replace hob := hob.below hbw7
      replace hol := hol.below hbw7
      replace ho12 := ho12.below hbw7
      replace ho14 := ho14.below hbw7
      replace ho16 := ho16.below hbw7
      replace hB := below_th hB hbw7
      go_wp2_with fail
      refine (HWV.out _ a14 n14 c14 a16 c16 hof hos hoF (ho14).row hc14 hl14' (ho16).row).mono ?_
      rintro e w8 ⟨rfl, hbw8⟩
      replace hL3 := hL3.below hbw8 hL3.lt
      replace l3 := hL3.two
      replace hL6 := hL6.below hbw8 hL6.lt
      replace l6 := hL6.two
      replace hL12 := hL12.below hbw8 hL12.lt
      replace l12 := hL12.two
      replace hL14 := hL14.below hbw8 hL14.lt
      replace l14 := hL14.two
      replace hof := hof.below hbw8
      replace hos := hos.below hbw8
      replace hoF := hoF.below hbw8
      replace hob := hob.below hbw8
      replace hol := hol.below hbw8
      replace ho12 := ho12.below hbw8
      replace ho14 := ho14.below hbw8
      replace ho16 := ho16.below hbw8
      replace hB := below_th hB hbw8
      clear hL12 l12 hL14 l14
      obtain ⟨G, hG⟩ : ∃ G, decide (wtFlt f.length f g F m = []) = G := ⟨_, rfl⟩
      rw [hG] at HIS
      have HG := Lib.hid hG
      clear hG
      go_wp2_with fail
      refine (HIS.out _ hof hos hoF).mono ?_
      rintro e w9 ⟨rfl, hbw9⟩
      replace hL3 := hL3.below hbw9 hL3.lt
      replace l3 := hL3.two
      replace hL6 := hL6.below hbw9 hL6.lt
      replace l6 := hL6.two
      replace hof := hof.below hbw9
      replace hos := hos.below hbw9
      replace hoF := hoF.below hbw9
      replace hob := hob.below hbw9
      replace hol := hol.below hbw9
      replace hB := below_th hB hbw9
      cases G with
      | false =>
        go_wp2
        go_ret
        exact ⟨rfl, hB⟩
      | true =>
      by_cases h3 : n16 < 3
      · have h3' : (n16 : Int) < 3 := by omega
        go_wp2
        go_ret
        exact ⟨rfl, hB⟩
      have h3' : ¬ (n16 : Int) < 3 := by omega
      by_cases h24 : 24 < nb
      · have h24' : (24 : Int) < (nb : Int) := by omega
        go_wp2
        go_ret
        exact ⟨rfl, hB⟩
      have h24' : ¬ (24 : Int) < (nb : Int) := by omega
      have l6 := hL6.two
      have hW1 : IntKind.i64.wrap ((nb : Int) + 1) = (nb : Int) + 1 := IntWalk.i64_in _ (by omega)
      have tok1 : True := trivial
      go_upto_region 22 with fail
      go_cut [24] (fun s24 wx => ∃ q : Nat, s24 = .int .i64 q ∧ q ≤ nb ∧ Below w9.heap.size w9 wx)
      case first => as_aux_lemma =>
        go_region_held3 (fun v => v.cell? ⟨w1.heap.size + 1, 1, none⟩ = some (.slice ab nb cb))
          (first | exact k8 | exact k7 | exact l6.2.1 | go_keep)
          (first
            | (go_at_call 14; refine (roll_ok a n c xs 824 _ (h.below (below_drewN hB 1)) hn).mono ?_; rintro e v7 ⟨bd, rfl, hbd, hodc, hv7⟩; have q7 : Below w9.heap.size w9 v7 := (below_drewN (Below.refl w9.heap.size w9) 1).trans hv7; have k7 := (hL6.below q7 hL6.lt).two.2.1)
            | (go_at_call 15; refine (below_ok bd ((nb : Int) + 1) _ hodc ⟨by omega, by omega⟩).mono ?_; rintro e v8 ⟨y, rfl, _, hy, hd8, hg8⟩; have q8 := q7.grown hg8 q7.size (fun q hq => by cases hq; exact hbd); have k8 := (hL6.below q8 hL6.lt).two.2.1))
        all_goals
          obtain ⟨hy1, hy2⟩ := hy (by omega)
          go_wp2
          go_meet
          exact ⟨y.toNat, by congr 1; omega, by omega, q8⟩
      case rest =>
      obtain ⟨q, rfl, hq, hqc⟩ := hcut
      obtain ⟨R, hRe⟩ : ∃ R : World, R = wc := ⟨_, rfl⟩
      rw [← hRe] at hqc ⊢
      clear hRe
      have hbR := hob.below hqc
      have h6R := hL6.below hqc hL6.lt
      have l6 := h6R.two
      have h6z := h6R.lt
      have q0 : (0 : Int) ≤ (q : Int) := by omega
      have q1 : (q : Int) ≤ (nb : Int) := by omega
      have q2 : (q : Int) ≤ (cb : Int) := by omega
      have q3 : q ≤ cb := by omega
      have q5 : nb ≤ cb := hcb1
      have hBT : 29 ≠ 2 := by decide
      go_upto_region 23 with fail
      refine bwt_r23 w R (w1.heap.size + 1) n16 nb cb q ab ys h6R hbR hq (by omega) (Nat.le_trans HNB.out (by omega)) hcb1 (by omega) _ _ _ _ _ _ _ _ _ _ _ _ _ _ _ _ _ _ _ _ _ _ _ _ _ _ _ _ _ _ _ _ _ _ _ _ _ _ _ _ _ _ _ _ _ _ _ _ _ _ _ _ _ _ _ _ _ _ _ _ _ _ _ _ _ _ _ _ _ _ _ _ _ _ _ _ _ _ _ _ _ _ _ _ _ _ _ _ _ _ _ _ _ _ _ _ _ _ _ _ _ _ _ _ _ _ _ _ _ _ _ _ _ _ _ _ _ _ _ _ _ _ _ _ _ _ _ _ _ _ _ _ _ _ _ _ _ _ _ _ _ _ _ _ _ _ _ _ _ _ _ _ _ _ _ _ _ _ _ _ _ _ _ _ _ _ _ _ _ _ _ _ _ _ _ _ _ _ _ _ _ _ _ _ _ _ _ _ _ _ _ _ _ _ _ _ _ _ _ _ _ _ _ _ _ _ _ _ _ _ _ _ _ _ _ _ _ _ _ _ _ _ _ _ ?_
      intro B1 z1 nz1 cz1 _ _ _ _ _ _ _ _ _ _ _ _ _ _ _ _ _ _ _ _ _ _ _ _ _ _ _ _ _ _ _ _ _ _ _ _ _ _ _ _ _ _ _ _ _ _ _ _ _ _ _ _ _ _ _ _ _ _ _ _ _ _ _ _ _ _ _ _ _ _ _ _ _ _ _ _ _ _ _ _ _ _ _ _ _ _ _ _ _ _ _ _ _ _ _ _ _ _ _ _ _ _ _ _ _ _ _ _ _ _ _ _ _ _ _ _ _ _ _ _ _ _ _ _ _ _ _ _ _ _ _ _ _ _ _ _ _ _ _ _ _ _ _ _ _ _ _ _ _ _ _ _ _ _ _ _ _ _ _ _ _ _ _ _ _ _ _ _ _ _ _ _ _ _ _ _ _ _ _ _ _ _ _ _ _ _ _ _ _ _ _ _ _ _ wc hLb1 hOb1 hq23
      obtain ⟨R2, hRe⟩ : ∃ R2 : World, R2 = wc := ⟨_, rfl⟩
      rw [← hRe] at hLb1 hOb1 hq23 ⊢
      clear hRe
      replace h6R := h6R.below hq23 h6z
      replace hbR := hbR.below hq23
      replace hqc := below_th hqc hq23
      have l6 := h6R.two
      replace h6z := h6R.lt
      have lb1 := hLb1.two
      clear hq23
      go_upto_region 24 with fail
      refine bwt_r24 w R2 (w1.heap.size + 1) n16 nb cb q ab ys h6R hbR hq (by omega) (Nat.le_trans HNB.out (by omega)) hcb1 (by omega) _ _ _ _ _ _ _ _ _ _ _ _ _ _ _ _ _ _ _ _ _ _ _ _ _ _ _ _ _ _ _ _ _ _ _ _ _ _ _ _ _ _ _ _ _ _ _ _ _ _ _ _ _ _ _ _ _ _ _ _ _ _ _ _ _ _ _ _ _ _ _ _ _ _ _ _ _ _ _ _ _ _ _ _ _ _ _ _ _ _ _ _ _ _ _ _ _ _ _ _ _ _ _ _ _ _ _ _ _ _ _ _ _ _ _ _ _ _ _ _ _ _ _ _ _ _ _ _ _ _ _ _ _ _ _ _ _ _ _ _ _ _ _ _ _ _ _ _ _ _ _ _ _ _ _ _ _ _ _ _ _ _ _ _ _ _ _ _ _ _ _ _ _ _ _ _ _ _ _ _ _ _ _ _ _ _ _ _ _ _ _ _ _ _ _ _ _ _ _ _ _ _ _ _ _ _ _ _ _ _ _ _ _ _ _ _ _ _ _ _ _ _ _ _ ?_
      intro B2 z2 nz2 cz2 _ _ _ _ _ _ _ _ _ _ _ _ _ _ _ _ _ _ _ _ _ _ _ _ _ _ _ _ _ _ _ _ _ _ _ _ _ _ _ _ _ _ _ _ _ _ _ _ _ _ _ _ _ _ _ _ _ _ _ _ _ _ _ _ _ _ _ _ _ _ _ _ _ _ _ _ _ _ _ _ _ _ _ _ _ _ _ _ _ _ _ _ _ _ _ _ _ _ _ _ _ _ _ _ _ _ _ _ _ _ _ _ _ _ _ _ _ _ _ _ _ _ _ _ _ _ _ _ _ _ _ _ _ _ _ _ _ _ _ _ _ _ _ _ _ _ _ _ _ _ _ _ _ _ _ _ _ _ _ _ _ _ _ _ _ _ _ _ _ _ _ _ _ _ _ _ _ _ _ _ _ _ _ _ _ _ _ _ _ _ _ _ _ _ wc hLb2 hOb2 hq24
      obtain ⟨R3, hRe⟩ : ∃ R3 : World, R3 = wc := ⟨_, rfl⟩
      rw [← hRe] at hLb2 hOb2 hq24 ⊢
      clear hRe
      replace hLb1 := hLb1.below hq24 hLb1.lt
      replace hOb1 := hOb1.below hq24
      replace hqc := below_th hqc hq24
      have hmid := HMID.out (by omega) (by simpa using HG.out) q
      have hnb24 : ys.length ≤ 24 := by have := HLB.out; omega
      have hbA := mid_br (zs := [1, 2, 1]) HBR.out hnb24 (by omega) (fun x hx => by simp at hx; omega) rfl q
      have hbB := mid_br (zs := [2, 1, 2]) HBR.out hnb24 (by omega) (fun x hx => by simp at hx; omega) rfl q
      rw [← List.append_assoc, ← List.append_assoc] at hmid
      obtain ⟨Z, hZ⟩ : ∃ Z, wtF f.length f g F m ((ys.take q ++ [1, 2, 1]) ++ ys.drop q) l = Z := ⟨_, rfl⟩
      have hwA := wot_ok HSOL.out hbA HMX.out HLLN.out HLE.out
      have hwB := wot_ok HSOL.out hbB HMX.out HLLN.out HLE.out
      rw [hZ] at hwA hmid
      rw [← hmid] at hwB
      have h64 : ∀ zs : List Int, isBr n16 zs = true → I64s zs := fun zs hz x hx => by have := (isBr_let hz).2.2 x hx; exact ⟨by omega, by omega⟩
      have HA := Lib.hid hwA; have HBW := Lib.hid hwB; have HIA := Lib.hid (h64 _ hbA); have HIB := Lib.hid (h64 _ hbB)
      have hnA : nz1 ≤ 1000 := by have e1 := hOb1.len; have e2 := (isBr_let hbA).2.1; omega
      have hnB : nz2 ≤ 1000 := by have e1 := hOb2.len; have e2 := (isBr_let hbB).2.1; omega
      have hcA := hOb1.cap
      have hcB := hOb2.cap
      have hL3' := hL3.below hqc hL3.lt
      have l3' := hL3'.two
      have lb1 := hLb1.two
      have lb2 := hLb2.two
      clear hmid hbA hbB hZ hwA hwB h64 h6R l6 hq24
      go_wp2_with fail
      refine (HWG.out _ _ z1 nz1 cz1 Z HA.out (hof.below hqc) (hos.below hqc) (hoF.below hqc) hOb1.row hcA hnA HIA.out (hol.below hqc)).mono ?_
      rintro e w25 ⟨rfl, hb25⟩
      have hq25 := below_th hqc hb25
      have hL25 := hL3'.below hb25 hL3'.lt
      have hB25 := hLb2.below hb25 hLb2.lt
      have l25 := hL25.two
      have lb25 := hB25.two
      go_wp2_with fail
      refine (HWG.out _ _ z2 nz2 cz2 Z HBW.out (hof.below hq25) (hos.below hq25) (hoF.below hq25) (hOb2.below hb25).row hcB hnB HIB.out (hol.below hq25)).mono ?_
      rintro e w26 ⟨rfl, hb26⟩
      go_wp2
      go_ret
      exact ⟨rfl, below_th (below_th hB hq25) hb26⟩
end Go.Proofs.YtpdgpgbgakinlaaGreat
