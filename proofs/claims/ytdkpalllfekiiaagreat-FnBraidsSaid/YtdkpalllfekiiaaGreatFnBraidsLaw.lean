/-
  The walk of the law of equal braids: it answers true.
  No condition.
-/
import Derived.Test.YtdkpalllfekiiaaGreatDrAe
import Derived.Test.YtdkpalllfekiiaaGreatPrDa
import Derived.Test.YtdkpalllfekiiaaGreatFbL
import Derived.Test.YtdkpalllfekiiaaGreatAeq
import Derived.Test.YtdkpalllfekiiaaGreatBase6
import Derived.Test.YtdkpalllfekiiaaGreatBase4
import Derived.Deep.DeepCutAuto
namespace Go.Proofs.YtdkpalllfekiiaaGreat
set_option maxRecDepth 100000
set_option linter.unusedVariables false
set_option linter.unusedSimpArgs false
open Go.RowKit

theorem Bts.alloc {w : World} {a : Option Addr} {n : Nat} {xs : List Int} (h : Bts w a n xs) (o : Obj) : Bts (w.alloc o) a n xs := h.below (below_al (Below.refl _ _) _)
theorem sml_i64f {xs : List Int} (h : Sml xs) : I64s xs := fun x hx => by have := h x hx; exact ⟨by omega, by omega⟩
theorem less_snocF {n : Nat} {l : List Int} (h : Less n l) {q : Nat} (hq : q < n) : Less n (l ++ [(q : Int)]) := fun i hi => by
  rw [List.length_append, List.length_singleton] at hi
  by_cases e : i < l.length
  · obtain ⟨k, hk, e2⟩ := h i e
    exact ⟨k, hk, by rw [List.getD_eq_getElem?_getD, List.getElem?_append_left e, ← List.getD_eq_getElem?_getD]; exact e2⟩
  · obtain rfl : i = l.length := by omega
    exact ⟨q, hq, by simp [List.getD_eq_getElem?_getD]⟩
theorem less_i64f {n : Nat} (hn : n ≤ 1000000) {l : List Int} (h : Less n l) : I64s l := fun x hx => by
  obtain ⟨i, hi, rfl⟩ := List.getElem_of_mem hx
  obtain ⟨k, hk, e⟩ := h i hi
  rw [List.getD_eq_getElem?_getD, List.getElem?_eq_getElem hi, Option.getD_some] at e
  rw [e]; exact ⟨by omega, by omega⟩
theorem Dic.keepF {w w' : World} {b B : Nat} (h : Dic w b) (hb : Below B w w') (hlt : b < B) : Dic w' b := by
  obtain ⟨a, n, c, xs, i, g, h1, h2, h3, h4, hB, hg, hL⟩ := h
  refine ⟨a, n, c, xs, i, g, h1, h2, h3, h4, ⟨hB.1, fun j hj => ?_, hB.2.2⟩, hg, hL.below hb hlt⟩
  obtain ⟨q, off, e1, e2, e3⟩ := hB.2.1 j hj
  exact ⟨q, off, e1, Nat.lt_of_lt_of_le e2 hb.size, (hb.cell (p := ⟨q, off + j, none⟩) (by have := hg (by omega) q off e1; show q < B; omega)).trans e3⟩
set_option maxHeartbeats 64000000 in
theorem law_Fbr (a : Option Addr) (n c : Nat) (xs : List Int) (w : World) (h : Bts w a n xs) (hn : n ≤ 9223372036854775807) :
    Calls Tryz.prog 3 #[.slice a n c] w fun e w' => e = .returned (.bool true) ∧ Below w.heap.size w w' := by
  have hB : Below w.heap.size w w := Below.refl _ _
  go_enter Tryz.func3, Tryz.ntmps3
  go_wp2_with fail
  refine (big_any a n c _ hn).mono ?_
  rintro e w0 ⟨rfl, rfl⟩
  by_cases hbig : 4096 < n
  · have hd : decide (4096 < n) = true := by simpa using hbig
    rw [hd]
    go_wp2
    go_ret
    exact ⟨rfl, Below.refl _ _⟩
  have hd : decide (4096 < n) = false := by simpa using hbig
  rw [hd]
  clear hd hbig
  go_wp2_with fail
  refine (DrawAreEqualBraids_ok a n c xs _ (h.below hB) hn).mono ?_
  rintro e w1 ⟨S, a1, n1, c1, ys, T, a2, n2, c2, zs, rfl, hS0, hS10, hn1, hsm, hT0, hT10, hn2, hsm2, ho1, ho2, hbw1⟩
  replace hB := below_th hB hbw1
  have HI1 := Lib.hid (sml_i64f hsm); have HI2 := Lib.hid (sml_i64f hsm2)
  clear hsm hsm2
  rcases fbr_facts S T ys zs with hno | ⟨N, r, r', rfl, rfl, hb1, hb2, hr1, hr2, himp⟩
  · as_aux_lemma =>
      have HNO := Lib.hid hno
      clear hno
      have m1 := ((Loc.new w1 rfl #[.int .i64 S, .slice a1 n1 c1] 26).alloc (.cells #[.int .i64 T, .slice a2 n2 c2] 26)).two
      have m2 := (Loc.new (b := w1.heap.size + 1) (w1.alloc (.cells #[.int .i64 S, .slice a1 n1 c1] 26)) (by simp) #[.int .i64 T, .slice a2 n2 c2] 26).two
      go_wp2_with fail
      refine (impl_Aeq_no S T a1 a2 n1 n2 c1 c2 ys zs _ ((ho1.alloc (.cells #[.int .i64 S, .slice a1 n1 c1] 26)).alloc (.cells #[.int .i64 T, .slice a2 n2 c2] 26)).row ((ho2.alloc (.cells #[.int .i64 S, .slice a1 n1 c1] 26)).alloc (.cells #[.int .i64 T, .slice a2 n2 c2] 26)).row (by omega) (by omega) HNO.out).mono ?_
      rintro e w2 ⟨rfl, hbw2⟩
      clear m1 m2
      have hL1 := ((Loc.new w1 rfl #[.int .i64 S, .slice a1 n1 c1] 26).alloc (.cells #[.int .i64 T, .slice a2 n2 c2] 26)).below hbw2 ((Loc.new w1 rfl #[.int .i64 S, .slice a1 n1 c1] 26).alloc (.cells #[.int .i64 T, .slice a2 n2 c2] 26)).lt
      have l1 := hL1.two
      have hL2 := (Loc.new (b := w1.heap.size + 1) (w1.alloc (.cells #[.int .i64 S, .slice a1 n1 c1] 26)) (by simp) #[.int .i64 T, .slice a2 n2 c2] 26).below hbw2 (Loc.new (b := w1.heap.size + 1) (w1.alloc (.cells #[.int .i64 S, .slice a1 n1 c1] 26)) (by simp) #[.int .i64 T, .slice a2 n2 c2] 26).lt
      have l2 := hL2.two
      replace ho1 := ((ho1.alloc (.cells #[.int .i64 S, .slice a1 n1 c1] 26)).alloc (.cells #[.int .i64 T, .slice a2 n2 c2] 26)).below hbw2
      replace ho2 := ((ho2.alloc (.cells #[.int .i64 S, .slice a1 n1 c1] 26)).alloc (.cells #[.int .i64 T, .slice a2 n2 c2] 26)).below hbw2
      replace hB := below_th (below_al (below_al hB (.cells #[.int .i64 S, .slice a1 n1 c1] 26)) (.cells #[.int .i64 T, .slice a2 n2 c2] 26)) hbw2
      go_wp2_with fail
      refine (spec_Aeq_no S T a1 a2 n1 n2 c1 c2 ys zs _ ho1.row ho2.row (by omega) (by omega) ⟨by omega, by omega⟩ ⟨by omega, by omega⟩ HNO.out).mono ?_
      rintro e w3 ⟨rfl, hbw3⟩
      replace hL1 := hL1.below hbw3 hL1.lt
      replace l1 := hL1.two
      replace hL2 := hL2.below hbw3 hL2.lt
      replace l2 := hL2.two
      replace ho1 := ho1.below hbw3
      replace ho2 := ho2.below hbw3
      replace hB := below_th hB hbw3
      obtain ⟨bb, hbb⟩ : ∃ bb, isBr S ys = bb := ⟨_, rfl⟩
      have HBI := Lib.hid hbb; clear hbb
      have u6 : (bb != bb) = false := by simp
      have HIB : Hid (∀ (v : World), Row v a1 n1 ys → Calls Tryz.prog 8 #[bAgg S a1 n1 c1] v fun e v' => e = .returned (.bool bb) ∧ Below v.heap.size v v') := Lib.hid fun v hv => by have := isBraid_any S a1 n1 c1 ys v hv (by omega); rw [HBI.out] at this; exact this
      have HSB : Hid (∀ (v : World), Row v a1 n1 ys → Calls Tryz.prog 9 #[bAgg S a1 n1 c1] v fun e v' => e = .returned (.bool bb) ∧ Below v.heap.size v v') := Lib.hid fun v hv => by have := spec_IsBr_any S a1 n1 c1 ys v hv (by omega) ⟨by omega, by omega⟩; rw [HBI.out] at this; exact this
      have l1 := hL1.two
      have hq6 : Below w3.heap.size w3 (w3.drewN 1) := below_drewN (Below.refl _ _) 1
      have hr6 := ho1.row.below hq6
      have k6 : (w3.drewN 1).cell? ⟨w1.heap.size, 0, none⟩ = some (.int .i64 S) ∧ (w3.drewN 1).cell? ⟨w1.heap.size, 1, none⟩ = some (.slice a1 n1 c1) := ⟨l1.1, l1.2.1⟩
      have tok1 : True := trivial
      go_upto_region 6 with fail
      go_cut [74] (fun s74 wx => s74 = .bool false ∧ Below w3.heap.size w3 wx)
      case first => as_aux_lemma =>
        go_region_held3 (fun v => v.cell? ⟨w1.heap.size, 0, none⟩ = some (.int .i64 S) ∧ v.cell? ⟨w1.heap.size, 1, none⟩ = some (.slice a1 n1 c1))
          (first | exact k8 | exact k7 | exact k6 | exact ⟨l1.1, l1.2.1⟩ | go_keep)
          (first
            | (go_at_call 8; have _t := tok1; refine (HIB.out (w3.drewN 1) hr6).mono ?_; rintro e v7 ⟨rfl, hv7⟩; clear _t tok1; have tokI : True := trivial; have q7 := hq6.trans hv7; have k7 : v7.cell? ⟨w1.heap.size, 0, none⟩ = some (.int .i64 S) ∧ v7.cell? ⟨w1.heap.size, 1, none⟩ = some (.slice a1 n1 c1) := by { have := (hL1.below q7 hL1.lt).two; exact ⟨this.1, this.2.1⟩ }; have hr7 := ho1.row.below q7)
            | (go_at_call 9; have _t := tok1; refine (HSB.out (w3.drewN 1) hr6).mono ?_; rintro e v7 ⟨rfl, hv7⟩; clear _t tok1; have tokS : True := trivial; have q7 := hq6.trans hv7; have k7 : v7.cell? ⟨w1.heap.size, 0, none⟩ = some (.int .i64 S) ∧ v7.cell? ⟨w1.heap.size, 1, none⟩ = some (.slice a1 n1 c1) := by { have := (hL1.below q7 hL1.lt).two; exact ⟨this.1, this.2.1⟩ }; have hr7 := ho1.row.below q7)
            | (go_at_call 9; have _t := tokI; refine (HSB.out v7 hr7).mono ?_; rintro e v8 ⟨rfl, hv8⟩; have q8 := below_th q7 hv8; have k8 : v8.cell? ⟨w1.heap.size, 0, none⟩ = some (.int .i64 S) ∧ v8.cell? ⟨w1.heap.size, 1, none⟩ = some (.slice a1 n1 c1) := by { have := (hL1.below q8 hL1.lt).two; exact ⟨this.1, this.2.1⟩ })
            | (go_at_call 8; have _t := tokS; refine (HIB.out v7 hr7).mono ?_; rintro e v8 ⟨rfl, hv8⟩; have q8 := below_th q7 hv8; have k8 : v8.cell? ⟨w1.heap.size, 0, none⟩ = some (.int .i64 S) ∧ v8.cell? ⟨w1.heap.size, 1, none⟩ = some (.slice a1 n1 c1) := by { have := (hL1.below q8 hL1.lt).two; exact ⟨this.1, this.2.1⟩ }))
        all_goals
          go_wp2
          go_meet
          exact ⟨rfl, q8⟩
      case rest =>
      obtain ⟨rfl, hbc⟩ := hcut
      clear hq6 hr6 k6 tok1 u6 HIB HSB l1
      replace hL1 := hL1.below hbc hL1.lt
      replace l1 := hL1.two
      replace hL2 := hL2.below hbc hL2.lt
      replace l2 := hL2.two
      replace ho1 := ho1.below hbc
      replace ho2 := ho2.below hbc
      replace hB := below_th hB hbc
      go_wp2
      go_ret
      exact ⟨rfl, hB⟩
  · as_aux_lemma =>
      obtain ⟨x1, F1⟩ := r
      obtain ⟨x2, F2⟩ := r'
      have hN6 := (br_ltr hb1).2.1
      have hN2 := (br_ltr hb1).1
      have HBI := Lib.hid hb1; have HB2 := Lib.hid hb2; have HR1 := Lib.hid hr1; have HR2 := Lib.hid hr2; have HIM := Lib.hid himp
      clear hb1 hb2 hr1 hr2 himp hS0 hS10 hT0 hT10
      obtain ⟨E, hE⟩ : ∃ E, decide ((x1, F1) = (x2, F2)) = E := ⟨_, rfl⟩
      have HE := Lib.hid hE
      clear hE
      have uE : (E != E) = false := by simp
      have HAI : Hid (∀ v : World, Row v a1 n1 ys → Row v a2 n2 zs → Calls Tryz.prog 6 #[bAgg N a1 n1 c1, bAgg N a2 n2 c2] v fun e v' => e = .returned (.tuple #[.bool E, .int .i64 0]) ∧ Below v.heap.size v v') := Lib.hid fun v h1 h2 => by have := areEqualBraids_ok N a1 a2 n1 n2 c1 c2 ys zs _ _ v h1 h2 HBI.out HB2.out HR1.out HR2.out; rw [HE.out] at this; exact this
      have HAS : Hid (∀ v : World, Row v a1 n1 ys → Row v a2 n2 zs → Calls Tryz.prog 7 #[bAgg N a1 n1 c1, bAgg N a2 n2 c2] v fun e v' => e = .returned (.tuple #[.bool E, .int .i64 0]) ∧ Below v.heap.size v v') := Lib.hid fun v h1 h2 => by have := spec_Aeq_ok N a1 a2 n1 n2 c1 c2 ys zs _ _ v h1 h2 HBI.out HB2.out HR1.out HR2.out; rw [HE.out] at this; exact this
      have m1 := ((Loc.new w1 rfl #[.int .i64 N, .slice a1 n1 c1] 26).alloc (.cells #[.int .i64 N, .slice a2 n2 c2] 26)).two
      have m2 := (Loc.new (b := w1.heap.size + 1) (w1.alloc (.cells #[.int .i64 N, .slice a1 n1 c1] 26)) (by simp) #[.int .i64 N, .slice a2 n2 c2] 26).two
      go_wp2_with fail
      refine (HAI.out _ ((ho1.alloc (.cells #[.int .i64 N, .slice a1 n1 c1] 26)).alloc (.cells #[.int .i64 N, .slice a2 n2 c2] 26)).row ((ho2.alloc (.cells #[.int .i64 N, .slice a1 n1 c1] 26)).alloc (.cells #[.int .i64 N, .slice a2 n2 c2] 26)).row).mono ?_
      rintro e w2 ⟨rfl, hbw2⟩
      clear m1 m2
      have hL1 := ((Loc.new w1 rfl #[.int .i64 N, .slice a1 n1 c1] 26).alloc (.cells #[.int .i64 N, .slice a2 n2 c2] 26)).below hbw2 ((Loc.new w1 rfl #[.int .i64 N, .slice a1 n1 c1] 26).alloc (.cells #[.int .i64 N, .slice a2 n2 c2] 26)).lt
      have l1 := hL1.two
      have hL2 := (Loc.new (b := w1.heap.size + 1) (w1.alloc (.cells #[.int .i64 N, .slice a1 n1 c1] 26)) (by simp) #[.int .i64 N, .slice a2 n2 c2] 26).below hbw2 (Loc.new (b := w1.heap.size + 1) (w1.alloc (.cells #[.int .i64 N, .slice a1 n1 c1] 26)) (by simp) #[.int .i64 N, .slice a2 n2 c2] 26).lt
      have l2 := hL2.two
      replace ho1 := ((ho1.alloc (.cells #[.int .i64 N, .slice a1 n1 c1] 26)).alloc (.cells #[.int .i64 N, .slice a2 n2 c2] 26)).below hbw2
      replace ho2 := ((ho2.alloc (.cells #[.int .i64 N, .slice a1 n1 c1] 26)).alloc (.cells #[.int .i64 N, .slice a2 n2 c2] 26)).below hbw2
      replace hB := below_th (below_al (below_al hB (.cells #[.int .i64 N, .slice a1 n1 c1] 26)) (.cells #[.int .i64 N, .slice a2 n2 c2] 26)) hbw2
      go_wp2_with fail
      refine (HAS.out _ ho1.row ho2.row).mono ?_
      rintro e w3 ⟨rfl, hbw3⟩
      replace hL1 := hL1.below hbw3 hL1.lt
      replace l1 := hL1.two
      replace hL2 := hL2.below hbw3 hL2.lt
      replace l2 := hL2.two
      replace ho1 := ho1.below hbw3
      replace ho2 := ho2.below hbw3
      replace hB := below_th hB hbw3
      have u6 : (true != true) = false := by simp
      have HIB : Hid (∀ (v : World), Row v a1 n1 ys → Calls Tryz.prog 8 #[bAgg N a1 n1 c1] v fun e v' => e = .returned (.bool true) ∧ Below v.heap.size v v') := Lib.hid fun v hv => by have := isBraid_any N a1 n1 c1 ys v hv (by omega); rw [HBI.out] at this; exact this
      have HSB : Hid (∀ (v : World), Row v a1 n1 ys → Calls Tryz.prog 9 #[bAgg N a1 n1 c1] v fun e v' => e = .returned (.bool true) ∧ Below v.heap.size v v') := Lib.hid fun v hv => by have := spec_IsBr_any N a1 n1 c1 ys v hv (by omega) ⟨by omega, by omega⟩; rw [HBI.out] at this; exact this
      have l1 := hL1.two
      have hq6 : Below w3.heap.size w3 (w3.drewN 1) := below_drewN (Below.refl _ _) 1
      have hr6 := ho1.row.below hq6
      have k6 : (w3.drewN 1).cell? ⟨w1.heap.size, 0, none⟩ = some (.int .i64 N) ∧ (w3.drewN 1).cell? ⟨w1.heap.size, 1, none⟩ = some (.slice a1 n1 c1) := ⟨l1.1, l1.2.1⟩
      have tok1 : True := trivial
      go_upto_region 6 with fail
      go_cut [74] (fun s74 wx => s74 = .bool false ∧ Below w3.heap.size w3 wx)
      case first => as_aux_lemma =>
        go_region_held3 (fun v => v.cell? ⟨w1.heap.size, 0, none⟩ = some (.int .i64 N) ∧ v.cell? ⟨w1.heap.size, 1, none⟩ = some (.slice a1 n1 c1))
          (first | exact k8 | exact k7 | exact k6 | exact ⟨l1.1, l1.2.1⟩ | go_keep)
          (first
            | (go_at_call 8; have _t := tok1; refine (HIB.out (w3.drewN 1) hr6).mono ?_; rintro e v7 ⟨rfl, hv7⟩; clear _t tok1; have tokI : True := trivial; have q7 := hq6.trans hv7; have k7 : v7.cell? ⟨w1.heap.size, 0, none⟩ = some (.int .i64 N) ∧ v7.cell? ⟨w1.heap.size, 1, none⟩ = some (.slice a1 n1 c1) := by { have := (hL1.below q7 hL1.lt).two; exact ⟨this.1, this.2.1⟩ }; have hr7 := ho1.row.below q7)
            | (go_at_call 9; have _t := tok1; refine (HSB.out (w3.drewN 1) hr6).mono ?_; rintro e v7 ⟨rfl, hv7⟩; clear _t tok1; have tokS : True := trivial; have q7 := hq6.trans hv7; have k7 : v7.cell? ⟨w1.heap.size, 0, none⟩ = some (.int .i64 N) ∧ v7.cell? ⟨w1.heap.size, 1, none⟩ = some (.slice a1 n1 c1) := by { have := (hL1.below q7 hL1.lt).two; exact ⟨this.1, this.2.1⟩ }; have hr7 := ho1.row.below q7)
            | (go_at_call 9; have _t := tokI; refine (HSB.out v7 hr7).mono ?_; rintro e v8 ⟨rfl, hv8⟩; have q8 := below_th q7 hv8; have k8 : v8.cell? ⟨w1.heap.size, 0, none⟩ = some (.int .i64 N) ∧ v8.cell? ⟨w1.heap.size, 1, none⟩ = some (.slice a1 n1 c1) := by { have := (hL1.below q8 hL1.lt).two; exact ⟨this.1, this.2.1⟩ })
            | (go_at_call 8; have _t := tokS; refine (HIB.out v7 hr7).mono ?_; rintro e v8 ⟨rfl, hv8⟩; have q8 := below_th q7 hv8; have k8 : v8.cell? ⟨w1.heap.size, 0, none⟩ = some (.int .i64 N) ∧ v8.cell? ⟨w1.heap.size, 1, none⟩ = some (.slice a1 n1 c1) := by { have := (hL1.below q8 hL1.lt).two; exact ⟨this.1, this.2.1⟩ }))
        all_goals
          go_wp2
          go_meet
          exact ⟨rfl, q8⟩
      case rest =>
      obtain ⟨rfl, hbc⟩ := hcut
      clear hq6 hr6 k6 tok1 u6 HIB HSB l1
      replace hL1 := hL1.below hbc hL1.lt
      replace l1 := hL1.two
      replace hL2 := hL2.below hbc hL2.lt
      replace l2 := hL2.two
      replace ho1 := ho1.below hbc
      replace ho2 := ho2.below hbc
      replace hB := below_th hB hbc
      go_wp2_with fail
      refine (impl_Bpm_ok N a1 n1 c1 ys _ ho1.row HBI.out).mono ?_
      rintro e w4 ⟨a3, c3, rfl, ho3, hbw4⟩
      replace hL1 := hL1.below hbw4 hL1.lt
      replace l1 := hL1.two
      replace hL2 := hL2.below hbw4 hL2.lt
      replace l2 := hL2.two
      replace ho1 := ho1.below hbw4
      replace ho2 := ho2.below hbw4
      replace hB := below_th hB hbw4
      go_wp2_with fail
      refine (impl_Bpm_ok N a2 n2 c2 zs _ ho2.row HB2.out).mono ?_
      rintro e w5 ⟨a4, c4, rfl, ho4, hbw5⟩
      replace hL1 := hL1.below hbw5 hL1.lt
      replace l1 := hL1.two
      replace hL2 := hL2.below hbw5 hL2.lt
      replace l2 := hL2.two
      replace ho1 := ho1.below hbw5
      replace ho2 := ho2.below hbw5
      replace ho3 := ho3.below hbw5
      replace hB := below_th hB hbw5
      go_wp2_with fail
      refine (impl_Sum_ok N a1 n1 c1 ys _ ho1.row (by omega) HBI.out).mono ?_
      rintro e w6 ⟨rfl, hbw6⟩
      replace hL1 := hL1.below hbw6 hL1.lt
      replace l1 := hL1.two
      replace hL2 := hL2.below hbw6 hL2.lt
      replace l2 := hL2.two
      replace ho1 := ho1.below hbw6
      replace ho2 := ho2.below hbw6
      replace ho3 := ho3.below hbw6
      replace ho4 := ho4.below hbw6
      replace hB := below_th hB hbw6
      go_wp2_with fail
      refine (impl_Sum_ok N a2 n2 c2 zs _ ho2.row (by omega) HB2.out).mono ?_
      rintro e w7 ⟨rfl, hbw7⟩
      replace hL1 := hL1.below hbw7 hL1.lt
      replace l1 := hL1.two
      replace hL2 := hL2.below hbw7 hL2.lt
      replace l2 := hL2.two
      replace ho1 := ho1.below hbw7
      replace ho2 := ho2.below hbw7
      replace ho3 := ho3.below hbw7
      replace ho4 := ho4.below hbw7
      replace hB := below_th hB hbw7
      go_wp2_with fail
      refine (normalBraid_ok N a1 n1 c1 ys (x1, F1) _ ho1.row HBI.out HR1.out).mono ?_
      rintro e w8 ⟨a5, m5, c5, rfl, ho5, hbw8, _, _, hm5, _⟩
      replace hL1 := hL1.below hbw8 hL1.lt
      replace l1 := hL1.two
      replace hL2 := hL2.below hbw8 hL2.lt
      replace l2 := hL2.two
      replace ho1 := ho1.below hbw8
      replace ho2 := ho2.below hbw8
      replace ho3 := ho3.below hbw8
      replace ho4 := ho4.below hbw8
      replace hB := below_th hB hbw8
      go_wp2_with fail
      refine (normalBraid_ok N a2 n2 c2 zs (x2, F2) _ ho2.row HB2.out HR2.out).mono ?_
      rintro e w9 ⟨a6, m6, c6, rfl, ho6, hbw9, _, _, hm6, _⟩
      replace hL1 := hL1.below hbw9 hL1.lt
      replace l1 := hL1.two
      replace hL2 := hL2.below hbw9 hL2.lt
      replace l2 := hL2.two
      replace ho1 := ho1.below hbw9
      replace ho2 := ho2.below hbw9
      replace ho3 := ho3.below hbw9
      replace ho4 := ho4.below hbw9
      replace ho5 := ho5.below hbw9
      replace hB := below_th hB hbw9
      go_upto_region 16 with fail
      go_cut [144] (fun s144 wx => s144 = .bool false ∧ Below w9.heap.size w9 wx)
      case first => as_aux_lemma =>
        by_cases hx : x1 = x2
        · subst hx
          have xx : (x1 == x1) = true := by simp
          have HF : Hid (decide (F1 = F2) = E) := Lib.hid (by rw [← HE.out, Bool.eq_iff_iff]; simp)
          have HS9 : Calls Tryz.prog 13 #[.slice a5 m5 c5, .slice a6 m6 c6] w9 fun e v' => e = .returned (.bool E) ∧ Below w9.heap.size w9 v' := (same9_any a5 a6 m5 m6 c5 c6 F1 F2 _ ho5 ho6 (by omega)).mono fun e v' ⟨he, k, hk⟩ => ⟨by rw [he, HF.out], by rw [hk]; exact below_drewN (Below.refl _ _) k⟩
          have HS := Lib.hid HS9
          clear HS9
          go_wp2_with fail
          refine HS.out.mono ?_
          rintro e v9 ⟨rfl, hv9⟩
          go_wp2
          go_meet
          exact ⟨rfl, hv9⟩
        · have xx : (x1 == x2) = false := by simp [hx]
          have HF : E = false := by rw [← HE.out]; simp [hx]
          subst HF
          go_wp2
          go_meet
          exact ⟨rfl, Below.refl _ _⟩
      case rest =>
      obtain ⟨rfl, hbc⟩ := hcut
      replace hL1 := hL1.below hbc hL1.lt
      replace l1 := hL1.two
      replace hL2 := hL2.below hbc hL2.lt
      replace l2 := hL2.two
      replace ho1 := ho1.below hbc
      replace ho2 := ho2.below hbc
      replace ho3 := ho3.below hbc
      replace ho4 := ho4.below hbc
      replace ho5 := ho5.below hbc
      replace ho6 := ho6.below hbc
      replace hB := below_th hB hbc
      go_upto_if 145 with fail
      go_cut [28] (fun s28 wx => Below wc.heap.size wc wx)
      case first => as_aux_lemma =>
        cases E with
        | false =>
          go_wp2
          go_meet
          exact Below.refl _ _
        | true =>
        replace h := h.below hB
        replace hB := Below.refl wc.heap.size wc
        obtain ⟨hbp, hsg, hact⟩ := HIM.out (of_decide_eq_true HE.out)
        have HACT := Lib.hid hact
        rw [← hbp] at ho4
        have us : (sgS ys != sgS zs) = false := by rw [hsg]; simp
        clear hact hbp hsg
        go_wp2_with fail
        refine (likeInts_same _ _ _ _ _ _ (brP N ys) _ ho3.row ho4.row (by omega)).mono ?_
        rintro e w10 ⟨rfl, hbw10⟩
        replace hL1 := hL1.below hbw10 hL1.lt
        replace l1 := hL1.two
        replace hL2 := hL2.below hbw10 hL2.lt
        replace l2 := hL2.two
        replace ho1 := ho1.below hbw10
        replace ho2 := ho2.below hbw10
        replace ho3 := ho3.below hbw10
        replace ho4 := ho4.below hbw10
        replace hB := below_th hB hbw10
        go_wp2_with fail
        refine (DrawBraidAction_ok a n c xs _ (h.below hB) hn).mono ?_
        rintro e w11 ⟨n7, a7, c7, vs7, f, a7', c7', vs7', g, S7, ab7, nb7, cb7, xs7, al7, m7, cl7, l7, h71, h76, h7s0, h7s1, h7nb, h7s, h7m, h7l, rfl, ⟨hof7, hos7, hap7⟩, hob7, hol7, hbw11⟩
        replace hL1 := hL1.below hbw11 hL1.lt
        replace l1 := hL1.two
        replace hL2 := hL2.below hbw11 hL2.lt
        replace l2 := hL2.two
        replace ho1 := ho1.below hbw11
        replace ho2 := ho2.below hbw11
        replace hB := below_th hB hbw11
        clear hob7 hol7 hap7 h7s h7l
        have HFH := Lib.hid hof7.uHi; have HSH := Lib.hid hos7.uHi; have HO1 := Lib.hid ho1.hi; have HO2 := Lib.hid ho2.hi
        have y1 := hL1.lt
        have y2 := hL2.lt
        have ybs := hB.size
        have m1 := ((hL1.alloc (.cells #[.slice a7 n7 c7, .slice a7' n7 c7'] 42)).alloc (.cells #[.int .i64 S7, .slice ab7 nb7 cb7] 26)).two
        have m2 := ((hL2.alloc (.cells #[.slice a7 n7 c7, .slice a7' n7 c7'] 42)).alloc (.cells #[.int .i64 S7, .slice ab7 nb7 cb7] 26)).two
        have m7 := ((Loc.new w11 rfl #[.slice a7 n7 c7, .slice a7' n7 c7'] 42).alloc (.cells #[.int .i64 S7, .slice ab7 nb7 cb7] 26)).two
        have m8 := (Loc.new (b := w11.heap.size + 1) (w11.alloc (.cells #[.slice a7 n7 c7, .slice a7' n7 c7'] 42)) (by simp) #[.int .i64 S7, .slice ab7 nb7 cb7] 26).two
        go_wp2_with fail
        refine (roll_ok a n c xs 1401 _ (((h.below hB).alloc (.cells #[.slice a7 n7 c7, .slice a7' n7 c7'] 42)).alloc (.cells #[.int .i64 S7, .slice ab7 nb7 cb7] 26)) hn).mono ?_
        rintro e w12 ⟨bd, rfl, hbd, hodc, hbw12⟩
        clear m1 m2 m7 m8
        replace hL1 := ((hL1.alloc (.cells #[.slice a7 n7 c7, .slice a7' n7 c7'] 42)).alloc (.cells #[.int .i64 S7, .slice ab7 nb7 cb7] 26)).below hbw12 ((hL1.alloc (.cells #[.slice a7 n7 c7, .slice a7' n7 c7'] 42)).alloc (.cells #[.int .i64 S7, .slice ab7 nb7 cb7] 26)).lt
        replace l1 := hL1.two
        replace hL2 := ((hL2.alloc (.cells #[.slice a7 n7 c7, .slice a7' n7 c7'] 42)).alloc (.cells #[.int .i64 S7, .slice ab7 nb7 cb7] 26)).below hbw12 ((hL2.alloc (.cells #[.slice a7 n7 c7, .slice a7' n7 c7'] 42)).alloc (.cells #[.int .i64 S7, .slice ab7 nb7 cb7] 26)).lt
        replace l2 := hL2.two
        have hL7 := ((Loc.new w11 rfl #[.slice a7 n7 c7, .slice a7' n7 c7'] 42).alloc (.cells #[.int .i64 S7, .slice ab7 nb7 cb7] 26)).below hbw12 ((Loc.new w11 rfl #[.slice a7 n7 c7, .slice a7' n7 c7'] 42).alloc (.cells #[.int .i64 S7, .slice ab7 nb7 cb7] 26)).lt
        have l7 := hL7.two
        have hL8 := (Loc.new (b := w11.heap.size + 1) (w11.alloc (.cells #[.slice a7 n7 c7, .slice a7' n7 c7'] 42)) (by simp) #[.int .i64 S7, .slice ab7 nb7 cb7] 26).below hbw12 (Loc.new (b := w11.heap.size + 1) (w11.alloc (.cells #[.slice a7 n7 c7, .slice a7' n7 c7'] 42)) (by simp) #[.int .i64 S7, .slice ab7 nb7 cb7] 26).lt
        have l8 := hL8.two
        replace ho1 := ((ho1.alloc (.cells #[.slice a7 n7 c7, .slice a7' n7 c7'] 42)).alloc (.cells #[.int .i64 S7, .slice ab7 nb7 cb7] 26)).below hbw12
        replace ho2 := ((ho2.alloc (.cells #[.slice a7 n7 c7, .slice a7' n7 c7'] 42)).alloc (.cells #[.int .i64 S7, .slice ab7 nb7 cb7] 26)).below hbw12
        replace hof7 := ((hof7.alloc (.cells #[.slice a7 n7 c7, .slice a7' n7 c7'] 42)).alloc (.cells #[.int .i64 S7, .slice ab7 nb7 cb7] 26)).below hbw12
        replace hos7 := ((hos7.alloc (.cells #[.slice a7 n7 c7, .slice a7' n7 c7'] 42)).alloc (.cells #[.int .i64 S7, .slice ab7 nb7 cb7] 26)).below hbw12
        replace hB := below_th (below_al (below_al hB (.cells #[.slice a7 n7 c7, .slice a7' n7 c7'] 42)) (.cells #[.int .i64 S7, .slice ab7 nb7 cb7] 26)) hbw12
        clear hL8 l8
        have HSI : Hid (∀ (v : World), Tbl v a7 n7 f → Tbl v a7' n7 g → Calls Tryz.prog 17 #[sAgg a7 n7 c7 a7' n7 c7'] v fun e v' => e = .returned (.bool (isSol f g)) ∧ Below v.heap.size v v') := Lib.hid fun v h1 h2 => isSolution_any a7 n7 c7 a7' n7 c7' f g v h1 h2 (by omega) (by omega)
        have HSS : Hid (∀ (v : World), Tbl v a7 n7 f → Tbl v a7' n7 g → Calls Tryz.prog 18 #[sAgg a7 n7 c7 a7' n7 c7'] v fun e v' => e = .returned (.bool (isSol f g)) ∧ Below v.heap.size v v') := Lib.hid fun v h1 h2 => spec_IsSo_any a7 n7 c7 a7' n7 c7' f g v h1 h2 (by omega) (by omega)
        obtain ⟨q7, hq7⟩ : ∃ q7, isSol f g = q7 := ⟨_, rfl⟩
        rw [hq7] at HSI HSS
        have HQ7 := Lib.hid hq7
        clear hq7
        have hlF : f.length = n7 := hof7.len.symm
        have HLF := Lib.hid hlF
        clear hlF
        go_wp2_with fail
        refine (HSI.out _ hof7.tbl hos7.tbl).mono ?_
        rintro e w13 ⟨rfl, hbw13⟩
        replace hL1 := hL1.below hbw13 hL1.lt
        replace l1 := hL1.two
        replace hL2 := hL2.below hbw13 hL2.lt
        replace l2 := hL2.two
        replace hL7 := hL7.below hbw13 hL7.lt
        replace l7 := hL7.two
        replace ho1 := ho1.below hbw13
        replace ho2 := ho2.below hbw13
        replace hof7 := hof7.below hbw13
        replace hos7 := hos7.below hbw13
        replace hodc := hodc.below hbw13
        replace hB := below_th hB hbw13
        cases q7 with
        | false =>
          go_wp2
          go_meet
          exact hB
        | true =>
        go_wp2_with fail
        refine (HSS.out _ hof7.tbl hos7.tbl).mono ?_
        rintro e w14 ⟨rfl, hbw14⟩
        replace hL1 := hL1.below hbw14 hL1.lt
        replace l1 := hL1.two
        replace hL2 := hL2.below hbw14 hL2.lt
        replace l2 := hL2.two
        replace hL7 := hL7.below hbw14 hL7.lt
        replace l7 := hL7.two
        replace ho1 := ho1.below hbw14
        replace ho2 := ho2.below hbw14
        replace hof7 := hof7.below hbw14
        replace hos7 := hos7.below hbw14
        replace hodc := hodc.below hbw14
        replace hB := below_th hB hbw14
        have zd : w11.heap.size < bd := by have := hbd; simp at this; omega
        have hd0 : bd < w14.heap.size := hodc.lt
        have hO6 := Own.fresh w14 rfl
        have hd6 := hodc.below (below_al (Below.refl w14.heap.size w14) (.cells #[] 2))
        have hG6 := World.grownBy_alloc w14 (.cells #[] 2) (some bd)
        have HBA : Hid (∀ (ab : Option Addr) (nb cb : Nat) (us : List Int) (al : Option Addr) (cl : Nat) (st : List Int) (v : World) (O : List Int), bacF f g N us st = (O, 0) → Sol v a7 n7 f a7' n7 g → Row v ab nb us → nb ≤ 9223372036854775807 → I64s us → Row v al N st → I64s st → Calls Tryz.prog 20 #[sAgg a7 n7 c7 a7' n7 c7', bAgg N ab nb cb, .slice al N cl] v (RetR v O 0)) := Lib.hid fun ab nb cb us al cl st v O e h1 hr hnb hx hl hxl => by have := impl_Bac_l a7 n7 c7 f a7' n7 c7' g N ab nb cb us al N cl st v h1 ⟨by omega, by omega⟩ ⟨by omega, by omega⟩ hr hnb hx hl (by omega) hxl; rw [e] at this; exact this
        clear HSI HSS
        go_wp2
        go_loopw [27, 28] (fun z i wr => ∃ (j : Nat) (al : Option Addr) (cl : Nat) (st : List Int), j ≤ N ∧ i = .int .i64 j ∧ z = .slice al j cl ∧ Own wr w14.heap.size al j cl st ∧ Hid (Less n7 st) ∧ Dic wr bd ∧ w14.grownBy wr (some bd)) (fun _ i _ => N - (intOf i).toNat)
        case atStart => exact ⟨0, _, 0, [], Nat.zero_le _, rfl, rfl, hO6, Lib.hid (fun i hi => absurd hi (by simp)), hd6, hG6⟩
        case round =>
          clear hO6 hd6 hG6
          obtain ⟨j, al, cl, st, hj, rfl, rfl, hol, HL, hd, hG⟩ := hrel
          obtain ⟨V, rfl⟩ : ∃ V : World, V = wr := ⟨_, rfl⟩
          have hX := hL7.grown hG (by simp; omega)
          have hE1 := hL1.grown hG (by simp; omega)
          have hE2 := hL2.grown hG (by simp; omega)
          have lX := hX.two
          have lE1 := hE1.two
          have lE2 := hE2.two
          have hzV := hG.size
          by_cases hlt : j < N
          · go_wp2_with fail
            refine (below_ok bd (n7 : Int) _ hd ⟨by omega, by omega⟩).mono ?_
            rintro e w7 ⟨y, rfl, _, hy, hd7, hg7⟩
            obtain ⟨hy1, hy2⟩ := hy (by omega)
            obtain ⟨q, rfl⟩ : ∃ q : Nat, y = q := ⟨y.toNat, by omega⟩
            have hol7 := hol.grown hg7 (fun g e => by have := hol.lo g e; simp; omega)
            have hz7 := hg7.size
            have hG7 := grown_trans hG hg7
            go_wp2_with (at_builtin; refine app1 rfl rfl hol7 rfl rfl (by omega) (by omega) ?_; intro g' cc w8 hO8 hg8 hs8 hb8)
            go_roundw
            case rel => exact ⟨j + 1, _, cc, _, by omega, by go_num, rfl, hO8, Lib.hid (less_snocF HL.out (by omega)), hd7.keepF hb8 (by omega), grown_below hG7 hb8 (Nat.le_refl _)⟩
            case measure => simp [intOf]; omega
          · obtain rfl : N = j := by omega
            have hsl : st.length = N := hol.len.symm
            obtain ⟨hA1, hA2⟩ := HACT.out f g HQ7.out st hsl (by rw [HLF.out]; exact HL.out)
            generalize actL f.length f g ys st = O at hA1 hA2
            have HA1 := Lib.hid hA1; have HA2 := Lib.hid hA2
            have HST := Lib.hid (less_i64f (by omega) HL.out)
            clear hA1 hA2 hsl
            have hsf : Sol V a7 n7 f a7' n7 g := ⟨(hof7.keep fun q hq hl => hG.block q hl (fun e => by have := HFH.out q hq; cases e; simp at hbd; omega)).tbl, (hos7.keep fun q hq hl => hG.block q hl (fun e => by have := HSH.out q hq; cases e; simp at hbd; omega)).tbl⟩
            have hrb1 : Row V a1 n1 ys := (ho1.grown hG (fun g e => by have := HO1.out g e; simp; simp at hbd; omega)).row
            have hrb2 : Row V a2 n2 zs := (ho2.grown hG (fun g e => by have := HO2.out g e; simp; simp at hbd; omega)).row
            have hBV := below_grown hB hG (by simp at hbd; omega)
            have hrs := hol.row
            clear hof7 hos7 ho1 ho2 hG hd hol hL1 hL2 hL7 hB
            go_wp2_with fail
            refine (HBA.out a1 n1 c1 ys al cl st _ O HA1.out hsf hrb1 (by omega) HI1.out hrs HST.out).mono ?_
            rintro e v1 ⟨p1, m1, d1, rfl, hw1, hv1⟩
            have lX := (hX.below hv1 hX.lt).two
            have lE1 := (hE1.below hv1 hE1.lt).two
            have lE2 := (hE2.below hv1 hE2.lt).two
            go_wp2_with fail
            refine (HBA.out a2 n2 c2 zs al cl st _ O HA2.out (hsf.below hv1) (hrb2.below hv1) (by omega) HI2.out (hrs.below hv1) HST.out).mono ?_
            rintro e v2 ⟨p2, m2, d2, rfl, hw2, hv2⟩
            go_wp2_with fail
            refine (likeInts_same _ _ _ _ _ _ O _ (hw1.below hv2).row hw2.row (by have := hw1.cap; omega)).mono ?_
            rintro e v3 ⟨rfl, hv3⟩
            go_wp2
            go_meet
            exact below_th (below_th (below_th hBV hv1) hv2) hv3
      case rest =>
      clear ho3 ho4
      replace hL1 := hL1.below hcut hL1.lt
      replace l1 := hL1.two
      replace hL2 := hL2.below hcut hL2.lt
      replace l2 := hL2.two
      replace ho1 := ho1.below hcut
      replace ho2 := ho2.below hcut
      replace hB := below_th hB hcut
      go_wp2_with fail
      refine (impl_Ivb_ok N a1 n1 c1 ys _ ho1.row HBI.out).mono ?_
      rintro e w10 ⟨a9, n9, c9, rfl, ho9, hbw10⟩
      replace hL1 := hL1.below hbw10 hL1.lt
      replace l1 := hL1.two
      replace hL2 := hL2.below hbw10 hL2.lt
      replace l2 := hL2.two
      replace ho1 := ho1.below hbw10
      replace ho2 := ho2.below hbw10
      replace hB := below_th hB hbw10
      have HTI : Hid (∀ (v : World) (U : Int) (Z : List Int) (K : Int), timF N ys N (ivL ys) = (U, Z, K) → Row v a1 n1 ys → Row v a9 n9 (ivL ys) → Calls Tryz.prog 22 #[bAgg N a1 n1 c1, bAgg N a9 n9 c9] v (RetB v U Z K)) := Lib.hid fun v U Z K e h1 h2 => by have := impl_Tim_any N N a1 a9 n1 n9 c1 c9 ys (ivL ys) v h1 h2 (by omega) (by have := ho9.cap; omega); rw [e] at this; exact this
      rcases inv_facts2 HBI.out with e5 | ⟨e5, e6, e7, e8, r0, e9, e10⟩
      · as_aux_lemma =>
          have HE5 := Lib.hid e5; clear e5
          have m1 := (hL1.alloc (.cells #[.int .i64 N, .slice a9 n9 c9] 26)).two
          have m2 := (hL2.alloc (.cells #[.int .i64 N, .slice a9 n9 c9] 26)).two
          have m9 := (Loc.new w10 rfl #[.int .i64 N, .slice a9 n9 c9] 26).two
          go_wp2_with fail
          refine (HTI.out _ _ _ _ HE5.out (ho1.alloc (.cells #[.int .i64 N, .slice a9 n9 c9] 26)).row (ho9.alloc (.cells #[.int .i64 N, .slice a9 n9 c9] 26)).row).mono ?_
          rintro e w11 ⟨a10, n10, c10, rfl, ho10, hbw11⟩
          clear m1 m2 m9
          replace hL1 := (hL1.alloc (.cells #[.int .i64 N, .slice a9 n9 c9] 26)).below hbw11 (hL1.alloc (.cells #[.int .i64 N, .slice a9 n9 c9] 26)).lt
          replace l1 := hL1.two
          replace hL2 := (hL2.alloc (.cells #[.int .i64 N, .slice a9 n9 c9] 26)).below hbw11 (hL2.alloc (.cells #[.int .i64 N, .slice a9 n9 c9] 26)).lt
          replace l2 := hL2.two
          have hL9 := (Loc.new w10 rfl #[.int .i64 N, .slice a9 n9 c9] 26).below hbw11 (Loc.new w10 rfl #[.int .i64 N, .slice a9 n9 c9] 26).lt
          have l9 := hL9.two
          replace ho1 := (ho1.alloc (.cells #[.int .i64 N, .slice a9 n9 c9] 26)).below hbw11
          replace ho2 := (ho2.alloc (.cells #[.int .i64 N, .slice a9 n9 c9] 26)).below hbw11
          replace ho9 := (ho9.alloc (.cells #[.int .i64 N, .slice a9 n9 c9] 26)).below hbw11
          replace hB := below_th (below_al hB (.cells #[.int .i64 N, .slice a9 n9 c9] 26)) hbw11
          go_wp2
          go_ret
          exact ⟨rfl, below_al hB _⟩
      · as_aux_lemma =>
          have HE5 := Lib.hid e5; have HE6 := Lib.hid e6; have HE7 := Lib.hid e7; have HE8 := Lib.hid e8; have HE9 := Lib.hid e9; have HE10 := Lib.hid e10; clear e5 e6 e7 e8 e9 e10
          have m1 := (hL1.alloc (.cells #[.int .i64 N, .slice a9 n9 c9] 26)).two
          have m2 := (hL2.alloc (.cells #[.int .i64 N, .slice a9 n9 c9] 26)).two
          have m9 := (Loc.new w10 rfl #[.int .i64 N, .slice a9 n9 c9] 26).two
          go_wp2_with fail
          refine (HTI.out _ _ _ _ HE5.out (ho1.alloc (.cells #[.int .i64 N, .slice a9 n9 c9] 26)).row (ho9.alloc (.cells #[.int .i64 N, .slice a9 n9 c9] 26)).row).mono ?_
          rintro e w11 ⟨a10, n10, c10, rfl, ho10, hbw11⟩
          clear m1 m2 m9
          replace hL1 := (hL1.alloc (.cells #[.int .i64 N, .slice a9 n9 c9] 26)).below hbw11 (hL1.alloc (.cells #[.int .i64 N, .slice a9 n9 c9] 26)).lt
          replace l1 := hL1.two
          replace hL2 := (hL2.alloc (.cells #[.int .i64 N, .slice a9 n9 c9] 26)).below hbw11 (hL2.alloc (.cells #[.int .i64 N, .slice a9 n9 c9] 26)).lt
          replace l2 := hL2.two
          have hL9 := (Loc.new w10 rfl #[.int .i64 N, .slice a9 n9 c9] 26).below hbw11 (Loc.new w10 rfl #[.int .i64 N, .slice a9 n9 c9] 26).lt
          have l9 := hL9.two
          replace ho1 := (ho1.alloc (.cells #[.int .i64 N, .slice a9 n9 c9] 26)).below hbw11
          replace ho2 := (ho2.alloc (.cells #[.int .i64 N, .slice a9 n9 c9] 26)).below hbw11
          replace ho9 := (ho9.alloc (.cells #[.int .i64 N, .slice a9 n9 c9] 26)).below hbw11
          replace hB := below_th (below_al hB (.cells #[.int .i64 N, .slice a9 n9 c9] 26)) hbw11
          have HAF : Hid (∀ v : World, Row v a10 n10 (ys ++ ivL ys) → Calls Tryz.prog 6 #[bAgg N a10 n10 c10, bAgg N none 0 0] v fun e v' => e = .returned (.tuple #[.bool true, .int .i64 0]) ∧ Below v.heap.size v v') := Lib.hid fun v h1 => by have := areEqualBraids_ok N a10 none n10 0 c10 0 _ [] r0 r0 v h1 (Row.nil _ _) HE6.out HE7.out HE9.out HE10.out; rw [decide_eq_true rfl] at this; exact this
          have m1 := (hL1.alloc (.cells #[.int .i64 N, .slice a10 n10 c10] 26)).two
          have m2 := (hL2.alloc (.cells #[.int .i64 N, .slice a10 n10 c10] 26)).two
          have m9 := (hL9.alloc (.cells #[.int .i64 N, .slice a10 n10 c10] 26)).two
          have m10 := (Loc.new w11 rfl #[.int .i64 N, .slice a10 n10 c10] 26).two
          go_wp2_with fail
          refine (HAF.out _ (ho10.alloc (.cells #[.int .i64 N, .slice a10 n10 c10] 26)).row).mono ?_
          rintro e w12 ⟨rfl, hbw12⟩
          clear m1 m2 m9 m10
          replace hL1 := (hL1.alloc (.cells #[.int .i64 N, .slice a10 n10 c10] 26)).below hbw12 (hL1.alloc (.cells #[.int .i64 N, .slice a10 n10 c10] 26)).lt
          replace l1 := hL1.two
          replace hL2 := (hL2.alloc (.cells #[.int .i64 N, .slice a10 n10 c10] 26)).below hbw12 (hL2.alloc (.cells #[.int .i64 N, .slice a10 n10 c10] 26)).lt
          replace l2 := hL2.two
          replace hL9 := (hL9.alloc (.cells #[.int .i64 N, .slice a10 n10 c10] 26)).below hbw12 (hL9.alloc (.cells #[.int .i64 N, .slice a10 n10 c10] 26)).lt
          replace l9 := hL9.two
          have hL10 := (Loc.new w11 rfl #[.int .i64 N, .slice a10 n10 c10] 26).below hbw12 (Loc.new w11 rfl #[.int .i64 N, .slice a10 n10 c10] 26).lt
          have l10 := hL10.two
          replace ho1 := (ho1.alloc (.cells #[.int .i64 N, .slice a10 n10 c10] 26)).below hbw12
          replace ho2 := (ho2.alloc (.cells #[.int .i64 N, .slice a10 n10 c10] 26)).below hbw12
          replace ho9 := (ho9.alloc (.cells #[.int .i64 N, .slice a10 n10 c10] 26)).below hbw12
          replace ho10 := (ho10.alloc (.cells #[.int .i64 N, .slice a10 n10 c10] 26)).below hbw12
          replace hB := below_th (below_al hB (.cells #[.int .i64 N, .slice a10 n10 c10] 26)) hbw12
          go_wp2_with fail
          refine (impl_Red_ok N a10 n10 c10 _ _ ho10.row (by have := ho10.cap; omega) HE6.out).mono ?_
          rintro e w13 ⟨a11, n11, c11, rfl, ho11, hbw13⟩
          replace hL1 := hL1.below hbw13 hL1.lt
          replace l1 := hL1.two
          replace hL2 := hL2.below hbw13 hL2.lt
          replace l2 := hL2.two
          replace hL9 := hL9.below hbw13 hL9.lt
          replace l9 := hL9.two
          replace hL10 := hL10.below hbw13 hL10.lt
          replace l10 := hL10.two
          replace ho1 := ho1.below hbw13
          replace ho2 := ho2.below hbw13
          replace ho9 := ho9.below hbw13
          replace ho10 := ho10.below hbw13
          replace hB := below_th hB hbw13
          rw [HE8.out] at ho11
          obtain rfl : n11 = 0 := by have := ho11.len; simpa using this
          have m1 := (hL1.alloc (.cells #[.int .i64 N, .slice a11 0 c11] 26)).two
          have m2 := (hL2.alloc (.cells #[.int .i64 N, .slice a11 0 c11] 26)).two
          have m9 := (hL9.alloc (.cells #[.int .i64 N, .slice a11 0 c11] 26)).two
          have m10 := (hL10.alloc (.cells #[.int .i64 N, .slice a11 0 c11] 26)).two
          have m11 := (Loc.new w13 rfl #[.int .i64 N, .slice a11 0 c11] 26).two
          go_wp2
          go_ret
          exact ⟨rfl, below_al hB _⟩
end Go.Proofs.YtdkpalllfekiiaaGreat
