/-
  Walks and plain laws of this seat, some texts in one.
  No condition but bounds on lengths.
-/
import Derived.Test.YtaddclaadbjnlaaGreatPr15
import Derived.Test.YtaddclaadbjnlaaGreatPr31
import Derived.Test.YtaddclaadbjnlaaGreatPr13
namespace Go.Proofs.YtaddclaadbjnlaaGreat
set_option maxRecDepth 100000
set_option linter.unusedVariables false
set_option linter.unusedSimpArgs false
open Go.RowKit
theorem TbS.one {w : World} {b : Nat} (hb : b = w.heap.size) {a : Option Addr} {n c : Nat} {t : List (List Int)} (h : Tbl w a n t) (hn : n ≤ 9223372036854775807) (ty : TypeId) : TbS (w.alloc (.cells #[.slice a n c] ty)) (some ⟨b, 0, none⟩) 1 [t] := by
  refine ⟨rfl, fun i hi => ?_⟩
  obtain rfl : i = 0 := by omega
  exact ⟨b, 0, a, n, c, rfl, by simp; omega, (Loc.new w hb _ _).cell 0 rfl, h.alloc _, hn⟩
theorem LstQ.fresh (w : World) {b : Nat} (hb : b = w.heap.size) (ty : TypeId) : LstQ (w.alloc (.cells #[] ty)) (some ⟨b, 0, none⟩) 0 [] [] := ⟨HdR.nil _, rfl, fun i h => absurd h (by omega)⟩
theorem OwnRk.fresh (w : World) {b : Nat} (hb : b = w.heap.size) : OwnRk (w.alloc (.cells #[] 34)) w.heap.size (some ⟨b, 0, none⟩) 0 0 [] [] :=
  ⟨rfl, rfl, ownsRowRk_mk rfl (by omega) (Loc.new w hb _ _) (Nat.le_refl _) (by unfold maxLen; omega) rfl rfl, fun i h => absurd h (by omega), fun i h => absurd h (by omega), fun i j h => absurd h (by omega)⟩
def srtF (n : Nat) (flt : List (List Int) → Bool) (acc : List (List (List (List Int)))) (t : List (List Int)) : List (List (List (List Int))) := if flt t && onlL n (prmL n) [t] then insQ [t] acc else acc
def srtK (n : Nat) (flt : List (List Int) → Bool) (L : List (List (List Int))) (k : Nat) : List (List (List (List Int))) := (L.take k).foldl (srtF n flt) []
def srtL (n : Nat) (flt : List (List Int) → Bool) (L : List (List (List Int))) : List (List (List Int)) := (L.foldl (srtF n flt) []).map fun A => A.getD 0 []
theorem srtK_succ (n : Nat) (flt : List (List Int) → Bool) (L : List (List (List Int))) {k : Nat} (h : k < L.length) : srtK n flt L (k + 1) = srtF n flt (srtK n flt L k) (L.getD k []) := by
  unfold srtK
  rw [List.take_succ_eq_append_getElem h, List.foldl_append]
  simp [List.getD_eq_getElem?_getD, List.getElem?_eq_getElem h]
theorem insQ_mem {A B : List (List (List Int))} {L : List (List (List (List Int)))} (h : B ∈ insQ A L) : B = A ∨ B ∈ L := by
  unfold insQ at h
  rcases List.mem_append.1 h with h | h
  · exact .inr ((List.takeWhile_sublist _).subset h)
  · rcases List.mem_cons.1 h with h | h
    · exact .inl h
    · exact .inr ((List.dropWhile_sublist _).subset h)
theorem insQ_len (A : List (List (List Int))) (L : List (List (List (List Int)))) : (insQ A L).length = L.length + 1 := by
  have := congrArg List.length (List.takeWhile_append_dropWhile (p := fun t => befS t A) (l := L))
  unfold insQ
  rw [List.length_append] at this ⊢
  simp; omega
theorem srtK_shp {n : Nat} {flt : List (List Int) → Bool} {L : List (List (List Int))} (hL : ∀ i, i < L.length → (L.getD i []).length = n) : ∀ k, k ≤ L.length → (srtK n flt L k).length ≤ k ∧ ∀ A ∈ srtK n flt L k, Shp 1 n A := by
  intro k
  induction k with
  | zero => intro _; exact ⟨by simp [srtK], by simp [srtK]⟩
  | succ k ih =>
    intro hk
    obtain ⟨h1, h2⟩ := ih (by omega)
    rw [srtK_succ n flt L (by omega)]
    unfold srtF
    split
    · refine ⟨by rw [insQ_len]; omega, fun A hA => ?_⟩
      rcases insQ_mem hA with e | e
      · subst e
        refine ⟨rfl, fun k' hk' => ?_⟩
        obtain rfl : k' = 0 := by omega
        simpa using hL k (by omega)
      · exact h2 A e
    · exact ⟨by omega, h2⟩
theorem srtK_src {n : Nat} {flt : List (List Int) → Bool} {L : List (List (List Int))} : ∀ k, k ≤ L.length → ∀ A ∈ srtK n flt L k, ∃ i, i < L.length ∧ A = [L.getD i []] := by
  intro k
  induction k with
  | zero => intro _; simp [srtK]
  | succ k ih =>
    intro hk A hA
    rw [srtK_succ n flt L (by omega)] at hA
    unfold srtF at hA
    split at hA
    · rcases insQ_mem hA with e | e
      · exact ⟨k, by omega, e⟩
      · exact ih (by omega) A e
    · exact ih (by omega) A hA
set_option maxHeartbeats 16000000 in
theorem l19List_any (n : Nat) (q : Bool) (w : World) (h1 : 1 ≤ n) (h4 : n ≤ 4) :
    Calls Tryz.prog 40 #[.int .i64 n, .bool q] w fun e w' => ∃ a k c us, e = .returned (.slice a k c) ∧ OwnRk w' w.heap.size a k c us (srtL n (fun t => !q || qndOk n t) (rckN n)) ∧ Below w.heap.size w w' := by
  obtain ⟨flt, hflt⟩ : ∃ flt : List (List Int) → Bool, flt = fun t => !q || qndOk n t := ⟨_, rfl⟩
  rw [← hflt]
  obtain ⟨L, HLL⟩ : ∃ L, Hid (rckN n = L) := ⟨_, rfl⟩
  rw [HLL.out]
  have hRP : ∀ i, i < L.length → RwsP n (L.getD i []) := fun i hi => by
    rw [← HLL.out, ← rck_eq ⟨n, by omega⟩ h1] at hi ⊢
    exact rowL_rwsP h1 h4 hi
  have HRP := Lib.hid hRP
  have HSH := Lib.hid (srtK_shp (n := n) (flt := flt) (L := L) fun i hi => (hRP i hi).1)
  have HSC := Lib.hid (srtK_src (n := n) (flt := flt) (L := L))
  have HFL := Lib.hid hflt
  have HPB := Lib.hid (prm_bd h1 h4)
  have HPI := Lib.hid (prm_isP h1 h4)
  clear hRP hflt
  go_enter Tryz.func40, Tryz.ntmps40
  go_wp2_with fail
  refine (l19Racks_any n w h1 h4).mono ?_
  rintro e w1 ⟨a1, K, c1, us, rfl, ht1, hb1⟩
  rw [HLL.out] at ht1
  go_wp2_with fail
  refine (l01Perms_any n w1 (by omega)).mono ?_
  rintro e w2 ⟨pa, P, pc, pvs, rfl, hp2, hb2⟩
  obtain ⟨w3, hw3⟩ : ∃ w3, w2.alloc (.cells #[] 70) = w3 := ⟨_, rfl⟩
  have hz3 : w3.heap.size = w2.heap.size + 1 := by rw [← hw3]; simp
  have hB2 : Below w.heap.size w w2 := below_th hb1 hb2
  have hB3 : Below w.heap.size w w3 := by rw [← hw3]; exact below_al hB2 _
  have hQ3 : LstQ w3 (some ⟨w2.heap.size, 0, none⟩) 0 [] [] := by rw [← hw3]; exact LstQ.fresh w2 rfl _
  have ht3 : OwnTT w3 w.heap.size a1 K c1 us L := by rw [← hw3]; exact (ht1.below hb2).alloc _
  have hp3 : Tbl w3 pa P (prmL n) := by rw [← hw3]; exact (hp2.alloc _).tbl
  have HKL := Lib.hid ht1.len
  have HPL := Lib.hid hp2.tbl.len
  have hKc : K ≤ 1000000 := by
    have e5 := HKL.out
    have h := rowG_bd (prmL n) chkR n []
    have e1 := HPB.out
    have e2 : (prmL n).length ^ n ≤ 24 ^ n := Nat.pow_le_pow_left e1.1 n
    have e3 : (24 : Nat) ^ n ≤ 24 ^ 4 := Nat.pow_le_pow_right (by omega) h4
    have e4 : (24 : Nat) ^ 4 ≤ 1000000 := by decide
    have hr : rckN n = rowL n chkR := (rck_eq ⟨n, by omega⟩ h1).symm
    rw [← HLL.out, hr] at e5
    unfold rowL at e5
    omega
  have hP24 : P ≤ 1000000 := by have := HPL.out; have := HPB.out; omega
  clear ht1 hp2
  go_wp2
  clear hw3
  go_loopw [7, 8, 9] (fun s7 i _ wr => ∃ (j N c' : Nat) (g : Nat) (vs : List SV), j ≤ K ∧ i = .int .i64 j ∧ s7 = .slice (some ⟨g, 0, none⟩) N c' ∧ N ≤ c' ∧ c' ≤ 9223372036854775807 ∧ LstQ wr (some ⟨g, 0, none⟩) N vs (srtK n flt L j) ∧ Below w3.heap.size w3 wr) (fun _ i _ _ => K - (intOf i).toNat)
  case atStart => exact ⟨0, 0, 0, _, [], Nat.zero_le _, rfl, rfl, Nat.le_refl _, by omega, by simpa [srtK] using hQ3, Below.refl _ _⟩
  case round =>
    clear hQ3
    obtain ⟨j, N, c', g, vs, hj, rfl, rfl, hNc, hc9, hQ, hq⟩ := hrel
    have hsh := HSH.out j (by have := HKL.out; omega)
    have hNj : N ≤ j := by have := hQ.len; omega
    have HSA := Lib.hid hsh.2
    clear hsh
    by_cases hlt : j < K
    · have htr := ht3.below hq
      obtain ⟨g1, rfl, hg1, hcell, _⟩ := htr.cells (by omega)
      have cj := hcell j hlt
      have hv := htr.tab j hlt
      obtain ⟨⟨⟨va, vn, vc⟩, vv⟩, HV⟩ : ∃ u, Hid (us.getD j tvO = u) := ⟨_, rfl⟩
      rw [HV.out] at cj hv
      change wr.cell? _ = some (.slice va vn vc) at cj
      have hrp := HRP.out j (by have := HKL.out; omega)
      have hKS := srtK_succ n flt L (k := j) (by have := HKL.out; omega)
      obtain ⟨t, HT⟩ : ∃ t, Hid (L.getD j [] = t) := ⟨_, rfl⟩
      rw [HT.out] at hv hrp hKS
      obtain rfl : n = vn := by have := OwnT.len hv; rw [hrp.1] at this; exact this.symm
      have HSQ := Lib.hid hrp.sq
      have HTL := Lib.hid hrp.1
      have htb : Tbl wr va n t := OwnT.tbl hv
      have i1 : (0 : Int) ≤ (j : Int) := by omega
      have i2 : (j : Int) < (K : Int) := by omega
      have HKS := Lib.hid hKS
      have hqw := hB3.trans (hq.mono hB3.size)
      have HLE : Hid (∀ i, i < N → Shp 1 n ((srtK n flt L j).getD i [])) := Lib.hid fun i hi => by
        have : i < (srtK n flt L j).length := by have := hQ.len; omega
        rw [List.getD_eq_getElem?_getD, List.getElem?_eq_getElem this, Option.getD_some]
        exact HSA.out _ (List.getElem_mem this)
      have HS1 : Hid (∀ k, k < 1 → Sq n (([t] : List (List (List Int))).getD k [])) := Lib.hid fun k hk => by
        obtain rfl : k = 0 := by omega
        exact HSQ.out
      have HSP : Hid (Shp 1 n [t]) := Lib.hid ⟨rfl, fun k hk => by
        obtain rfl : k = 0 := by omega
        exact HTL.out⟩
      have HPX : Hid (∀ i, i < P → IsP n ((prmL n).getD i [])) := Lib.hid fun i hi => HPI.out i (by have := HPL.out; omega)
      obtain ⟨B, HB⟩ : ∃ B, Hid (onlL n (prmL n) [t] = B) := ⟨_, rfl⟩
      clear hcell hv hrp hKS htr
      cases q with
      | false =>
        have HF : Hid (flt t = true) := Lib.hid (by rw [HFL.out]; rfl)
        have hbW : Below wr.heap.size wr wr := Below.refl _ _
        have hqW := hq
        have hlitT : TbS (wr.alloc (.cells #[.slice va n vc] 32)) (some ⟨wr.heap.size, 0, none⟩) 1 [t] := TbS.one rfl (htb.below hbW) (by omega) _
        have hpl := (hp3.below hqW).alloc (.cells #[.slice va n vc] 32)
        have hQl := (hQ.below hbW).below (w' := wr.alloc (.cells #[.slice va n vc] 32)) (below_al (Below.refl _ _) _)
        have hql : Below w3.heap.size w3 (wr.alloc (.cells #[.slice va n vc] 32)) := below_al hqW _
        cases B with
        | true =>
          have HK1 : Hid (srtK n flt L (j + 1) = insQ [t] (srtK n flt L j)) := Lib.hid (by rw [HKS.out]; unfold srtF; rw [HF.out, HB.out]; rfl)
          go_wp2_with fail
          refine (l19Own_any n 1 P (some ⟨wr.heap.size, 0, none⟩) pa 1 pc [t] (prmL n) _ hlitT hpl h1 (by omega) (by omega) hP24 HS1.out HPX.out).mono ?_
          rintro e w5 ⟨rfl, hb5⟩
          rw [HB.out]
          go_wp2_with fail
          refine (l19Sort_any 1 n N c' (some ⟨g, 0, none⟩) (some ⟨wr.heap.size, 0, none⟩) 1 vs _ [t] w5 (hQl.below hb5) hNc hc9 ⟨_, _, rfl⟩ (hlitT.below hb5) (by omega) (by omega) HLE.out HSP.out).mono ?_
          rintro e w6 ⟨g6, c6, vs6, rfl, hn6, hc6, hQ6, hb6⟩
          go_wp2
          go_roundw
          case rel => exact ⟨j + 1, N + 1, c6, g6, vs6, by omega, by go_num, rfl, hn6, hc6, by rw [HK1.out]; exact hQ6, below_th (below_th hql hb5) hb6⟩
          case measure => simp [intOf]; omega
        | false =>
          have HK1 : Hid (srtK n flt L (j + 1) = srtK n flt L j) := Lib.hid (by rw [HKS.out]; unfold srtF; rw [HF.out, HB.out]; rfl)
          go_wp2_with fail
          refine (l19Own_any n 1 P (some ⟨wr.heap.size, 0, none⟩) pa 1 pc [t] (prmL n) _ hlitT hpl h1 (by omega) (by omega) hP24 HS1.out HPX.out).mono ?_
          rintro e w5 ⟨rfl, hb5⟩
          rw [HB.out]
          go_wp2
          go_roundw
          case rel => exact ⟨j + 1, N, c', g, vs, by omega, by go_num, rfl, hNc, hc9, by rw [HK1.out]; exact hQl.below hb5, below_th hql hb5⟩
          case measure => simp [intOf]; omega
      | true =>
        cases hqd : qndOk n t with
        | true =>
          have HF : Hid (flt t = true) := Lib.hid (by rw [HFL.out]; simp [hqd])
          have HQD := Lib.hid hqd
          clear hqd
          go_wp2_with fail
          refine (l03Quandle_any va n vc t wr htb HSQ.out h1 (by omega)).mono ?_
          rintro e w4 ⟨rfl, hb4⟩
          rw [HQD.out]
          have hbW : Below wr.heap.size wr w4 := hb4
          have hqW : Below w3.heap.size w3 w4 := below_th hq hb4
          have cj4 := (hb4.cell (p := ⟨g1, j, none⟩) hg1).trans cj
          have hlitT : TbS (w4.alloc (.cells #[.slice va n vc] 32)) (some ⟨w4.heap.size, 0, none⟩) 1 [t] := TbS.one rfl (htb.below hbW) (by omega) _
          have hpl := (hp3.below hqW).alloc (.cells #[.slice va n vc] 32)
          have hQl := (hQ.below hbW).below (w' := w4.alloc (.cells #[.slice va n vc] 32)) (below_al (Below.refl _ _) _)
          have hql : Below w3.heap.size w3 (w4.alloc (.cells #[.slice va n vc] 32)) := below_al hqW _
          cases B with
          | true =>
            have HK1 : Hid (srtK n flt L (j + 1) = insQ [t] (srtK n flt L j)) := Lib.hid (by rw [HKS.out]; unfold srtF; rw [HF.out, HB.out]; rfl)
            go_wp2_with fail
            refine (l19Own_any n 1 P (some ⟨w4.heap.size, 0, none⟩) pa 1 pc [t] (prmL n) _ hlitT hpl h1 (by omega) (by omega) hP24 HS1.out HPX.out).mono ?_
            rintro e w5 ⟨rfl, hb5⟩
            rw [HB.out]
            go_wp2_with fail
            refine (l19Sort_any 1 n N c' (some ⟨g, 0, none⟩) (some ⟨w4.heap.size, 0, none⟩) 1 vs _ [t] w5 (hQl.below hb5) hNc hc9 ⟨_, _, rfl⟩ (hlitT.below hb5) (by omega) (by omega) HLE.out HSP.out).mono ?_
            rintro e w6 ⟨g6, c6, vs6, rfl, hn6, hc6, hQ6, hb6⟩
            go_wp2
            go_roundw
            case rel => exact ⟨j + 1, N + 1, c6, g6, vs6, by omega, by go_num, rfl, hn6, hc6, by rw [HK1.out]; exact hQ6, below_th (below_th hql hb5) hb6⟩
            case measure => simp [intOf]; omega
          | false =>
            have HK1 : Hid (srtK n flt L (j + 1) = srtK n flt L j) := Lib.hid (by rw [HKS.out]; unfold srtF; rw [HF.out, HB.out]; rfl)
            go_wp2_with fail
            refine (l19Own_any n 1 P (some ⟨w4.heap.size, 0, none⟩) pa 1 pc [t] (prmL n) _ hlitT hpl h1 (by omega) (by omega) hP24 HS1.out HPX.out).mono ?_
            rintro e w5 ⟨rfl, hb5⟩
            rw [HB.out]
            go_wp2
            go_roundw
            case rel => exact ⟨j + 1, N, c', g, vs, by omega, by go_num, rfl, hNc, hc9, by rw [HK1.out]; exact hQl.below hb5, below_th hql hb5⟩
            case measure => simp [intOf]; omega
        | false =>
          have HF : Hid (flt t = false) := Lib.hid (by rw [HFL.out]; simp [hqd])
          have HQD := Lib.hid hqd
          have HK1 : Hid (srtK n flt L (j + 1) = srtK n flt L j) := Lib.hid (by rw [HKS.out]; unfold srtF; rw [HF.out]; rfl)
          clear hqd
          go_wp2_with fail
          refine (l03Quandle_any va n vc t wr htb HSQ.out h1 (by omega)).mono ?_
          rintro e w4 ⟨rfl, hb4⟩
          rw [HQD.out]
          go_wp2
          go_roundw
          case rel => exact ⟨j + 1, N, c', g, vs, by omega, by go_num, rfl, hNc, hc9, by rw [HK1.out]; exact hQ.below hb4, below_th hq hb4⟩
          case measure => simp [intOf]; omega
    · obtain rfl : K = j := by omega
      have hE : srtK n flt L K = L.foldl (srtF n flt) [] := by unfold srtK; rw [List.take_of_length_le (by have := HKL.out; omega)]
      obtain ⟨acc, HACC⟩ : ∃ acc, Hid (L.foldl (srtF n flt) [] = acc) := ⟨_, rfl⟩
      have HSR : Hid (srtL n flt L = acc.map fun A => A.getD 0 []) := Lib.hid (by unfold srtL; rw [HACC.out])
      have HSQ := Lib.hid (HSC.out K (by have := HKL.out; omega))
      rw [hE, HACC.out] at hQ HSA HSQ
      have HAL := Lib.hid hQ.len
      have hO0 := OwnRk.fresh wr rfl
      obtain ⟨B1, hB1⟩ : ∃ B1, B1 = wr.heap.size := ⟨_, rfl⟩
      have hqB : Below B1 wr wr := Below.refl _ _
      have hO0 : OwnRk (wr.alloc (.cells #[] 34)) B1 (some ⟨wr.heap.size, 0, none⟩) 0 0 [] [] := hO0.mono (by omega)
      have hqw := hB3.trans (hq.mono hB3.size)
      clear hE ht3 hp3
      go_wp2
      go_loopw [10, 11] (fun s10 i wr2 => ∃ (k : Nat) (a' : Option Addr) (c2 : Nat) (us2 : List TV), k ≤ N ∧ i = .int .i64 k ∧ s10 = .slice a' k c2 ∧ OwnRk wr2 B1 a' k c2 us2 ((acc.map fun A => A.getD 0 []).take k) ∧ Below wr.heap.size wr wr2) (fun _ i _ => N - (intOf i).toNat)
      case atStart => exact ⟨0, _, 0, [], Nat.zero_le _, rfl, rfl, by simpa using hO0, below_al (Below.refl _ _) _⟩
      case round =>
        clear hO0
        obtain ⟨k, a', c2, us2, hk, rfl, rfl, hO, hq2⟩ := hrel
        by_cases hlk : k < N
        · have hQ2 := hQ.below hq2
          obtain ⟨b, off, e1, _, gk⟩ := hQ2.hd.2 k hlk
          cases e1
          obtain ⟨hel, _⟩ := hQ2.el k hlk
          obtain ⟨⟨va, vn, vc⟩, HV⟩ : ∃ v, Hid (vs.getD k svO = v) := ⟨_, rfl⟩
          rw [HV.out] at gk hel
          change wr.cell? _ = some (.slice va vn vc) at gk
          rw [Nat.zero_add] at gk
          obtain ⟨A, HA⟩ : ∃ A, Hid (acc.getD k [] = A) := ⟨_, rfl⟩
          rw [HA.out] at hel
          have hshA : Shp 1 n A := by
            have hk' : k < acc.length := by have := HAL.out; omega
            rw [← HA.out, List.getD_eq_getElem?_getD, List.getElem?_eq_getElem hk', Option.getD_some]
            exact HSA.out _ (List.getElem_mem hk')
          obtain rfl : 1 = vn := by have := hel.len; rw [hshA.1] at this; exact this.symm
          obtain ⟨b3, o3, a3, n3, c3, e3, g3, t3, l3⟩ := hel.at 0 Nat.zero_lt_one
          have e3' : va = some ⟨b3, o3, none⟩ := e3
          subst e3'
          have g3' : wr.cell? ⟨b3, o3, none⟩ = some (.slice a3 n3 c3) := g3
          have hk' : k < acc.length := by have := HAL.out; omega
          obtain ⟨i, hiL, hAi⟩ := HSQ.out A (by
            rw [← HA.out, List.getD_eq_getElem?_getD, List.getElem?_eq_getElem hk', Option.getD_some]
            exact List.getElem_mem hk')
          have hrw := HRP.out i hiL
          obtain ⟨t, HT⟩ : ∃ t, Hid (L.getD i [] = t) := ⟨_, rfl⟩
          rw [HT.out] at hAi hrw
          have ht0 : A.getD 0 [] = t := by rw [hAi]; rfl
          rw [ht0] at t3
          obtain rfl : n = n3 := by have := t3.len; rw [hrw.1] at this; exact this.symm
          have HLN : Hid (∀ x ∈ t, x.length ≤ 1000000) := Lib.hid fun x hx => by
            obtain ⟨q, hq, rfl⟩ := List.getElem_of_mem hx
            have := (hrw.2 q (by rw [← hrw.1]; exact hq)).len
            rw [List.getD_eq_getElem?_getD, List.getElem?_eq_getElem hq, Option.getD_some] at this
            omega
          have HTK : Hid ((acc.map fun A => A.getD 0 []).take (k + 1) = (acc.map fun A => A.getD 0 []).take k ++ [t]) := Lib.hid (by
            rw [List.take_succ_eq_append_getElem (by simpa using hk')]
            congr 1
            rw [List.getElem_map]
            have := HA.out
            rw [List.getD_eq_getElem?_getD, List.getElem?_eq_getElem hk', Option.getD_some] at this
            rw [this, ht0])
          have HOU := Lib.hid hO.uHi
          have j1 : (0 : Int) ≤ (k : Int) := by omega
          have j2 : (k : Int) < (N : Int) := by omega
          have hzq := hq2.size
          have hwz := hqw.size
          clear hshA hel hAi hrw ht0 g3
          go_wp2_with fail
          refine (l01Own2_any _ _ _ t _ t3 (by omega) HLN.out).mono ?_
          rintro e w5 ⟨a5, c5, vs5, rfl, ho5, hb5⟩
          have hz5 := hb5.size
          have hO5 := hO.below hb5
          have ho5' : OwnT w5 B1 a5 n c5 vs5 t := ho5.mono (by omega)
          have HAP : Hid (∀ q, TblS a5 n vs5 q → ¬ TTS a' k us2 q) := Lib.hid fun q h1 h2 => by have := ho5.uLo q h1; have := HOU.out q h2; omega
          go_wp2_with (at_builtin; refine appRk rfl rfl hO5 rfl ho5' HAP.out rfl (by omega) (by omega) ?_; intro g' cc w8 hO8 hg8 hat8 hb8)
          go_roundw
          case rel => exact ⟨k + 1, _, cc, _, by omega, by go_num, rfl, by rw [HTK.out]; exact hO8, (below_th hq2 hb5).trans (by rw [← hB1]; exact hb8)⟩
          case measure => simp [intOf]; omega
        · obtain rfl : N = k := by omega
          go_wp2
          go_ret
          exact ⟨a', N, c2, us2, rfl, by rw [HSR.out]; rw [List.take_of_length_le (by simp; have := HAL.out; omega)] at hO; exact hO.mono (by have := hqw.size; omega), hqw.trans (hq2.mono hqw.size)⟩
end Go.Proofs.YtaddclaadbjnlaaGreat

namespace Go.Proofs.YtaddclaadbjnlaaGreat
set_option maxRecDepth 100000
set_option linter.unusedVariables false
set_option linter.unusedSimpArgs false
theorem cmpT_cmp : Cmp cmpT := cmpG_cmp cmpL_cmp
theorem Cmp.le_lt {α : Type} {c : α → α → Int} (h : Cmp c) {x y z : α} (h1 : ¬ c y x < 0) (h2 : c y z < 0) : c x z < 0 := by
  by_cases e : c x y = 0
  · rw [(h.eq _ _).1 e]; exact h2
  · exact h.trans x y z (by have := h.anti x y; omega) h2
theorem cmpG_append {α : Type} {c : α → α → Int} (h : Cmp c) (o x y : List α) : cmpG c (o ++ x) (o ++ y) = cmpG c x y := by
  induction o with
  | nil => rfl
  | cons a o ih => simp only [List.cons_append, cmpG]; rw [if_pos (h.refl a)]; exact ih
theorem lst_keep {n : Nat} {t : List (List Int)} : ∀ (ps : List (List Int)), (∀ p ∈ ps, ¬ cmpT (rnL n t p) t < 0) → ps.foldl (lstF n t) t = t := by
  intro ps
  induction ps with
  | nil => intro _; rfl
  | cons p ps ih =>
    intro h
    simp only [List.foldl_cons]
    have : lstF n t t p = t := by unfold lstF; rw [if_neg (h p (by simp))]
    rw [this]
    exact ih fun q hq => h q (by simp [hq])
theorem lst_less {n : Nat} {t : List (List Int)} : ∀ (ps : List (List Int)) (b : List (List Int)), (cmpT b t < 0 ∨ ∃ p ∈ ps, cmpT (rnL n t p) t < 0) → cmpT (ps.foldl (lstF n t) b) t < 0 := by
  intro ps
  induction ps with
  | nil => intro b h; rcases h with h | ⟨p, hp, _⟩
           · exact h
           · simp at hp
  | cons p ps ih =>
    intro b h
    simp only [List.foldl_cons]
    apply ih
    unfold lstF
    split
    · rename_i hlt
      rcases h with h | ⟨q, hq, hl⟩
      · exact .inl (cmpT_cmp.trans _ _ _ hlt h)
      · rcases List.mem_cons.1 hq with e | e
        · subst e; exact .inl hl
        · exact .inr ⟨q, e, hl⟩
    · rename_i hge
      rcases h with h | ⟨q, hq, hl⟩
      · exact .inl h
      · rcases List.mem_cons.1 hq with e | e
        · subst e; exact .inl (cmpT_cmp.le_lt hge hl)
        · exact .inr ⟨q, e, hl⟩
theorem befS_one {x y : List (List Int)} (h : x.length = y.length) : befS [x] [y] = decide (cmpT x y < 0) := by
  have : ∀ (t s : List (List Int)), t.length = s.length → befT false t s = decide (cmpT t s < 0) := by
    intro t
    induction t with
    | nil => intro s hs; cases s with
             | nil => rfl
             | cons _ _ => simp at hs
    | cons a t ih =>
      intro s hs
      cases s with
      | nil => simp at hs
      | cons b s =>
        by_cases e : cmpL a b = 0
        · have e1 : cmpT (a :: t) (b :: s) = cmpT t s := by show (if _ then _ else _) = _; rw [if_pos e]; rfl
          have e2 : befT false (a :: t) (b :: s) = befT false t s := by show (if _ then _ else _) = _; rw [if_pos e]
          rw [e2, ih s (by simpa using hs)]
          exact decide_eq_decide.2 (by rw [e1])
        · have e1 : cmpT (a :: t) (b :: s) = cmpL a b := by show (if _ then _ else _) = _; rw [if_neg e]
          have e2 : befT false (a :: t) (b :: s) = decide (cmpL a b < 0) := by show (if _ then _ else _) = _; rw [if_neg e]
          rw [e2]
          exact decide_eq_decide.2 (by rw [e1])
  exact this x y h
theorem lstB_onl {n : Nat} {t : List (List Int)} (hl : t.length = n) : lstB n t = onlL n (prmL n) [t] := by
  have hb : ∀ p, befS (imgL n p [t]) [t] = decide (cmpT (rnL n t p) t < 0) := fun p => befS_one (by rw [rnL_len, hl])
  unfold lstB onlL
  rw [Bool.eq_iff_iff, decide_eq_true_iff, List.all_eq_true]
  constructor
  · intro e i hi
    unfold onlP
    rw [hb]
    have hi := List.mem_range.1 hi
    by_cases hc : cmpT (rnL n t ((prmL n).getD i [])) t < 0
    · exfalso
      have hm : (prmL n).getD i [] ∈ prmL n := by
        rw [List.getD_eq_getElem?_getD, List.getElem?_eq_getElem hi]; exact List.getElem_mem hi
      have := lst_less (n := n) (t := t) (prmL n) t (.inr ⟨_, hm, hc⟩)
      unfold leastL at e
      rw [← e] at this
      have h0 := cmpT_cmp.refl t
      omega
    · rw [decide_eq_false hc]; rfl
  · intro h
    symm
    refine lst_keep _ fun p hp hc => ?_
    obtain ⟨i, hi, e⟩ := List.getElem_of_mem hp
    have := h i (List.mem_range.2 hi)
    unfold onlP at this
    rw [hb, List.getD_eq_getElem?_getD, List.getElem?_eq_getElem hi, Option.getD_some, e] at this
    simp [hc] at this
theorem rowG_sorted {ps : List (List Int)} {fits : List (List Int) → Bool} (hps : ps.Pairwise fun p q => cmpL p q < 0) : ∀ (m : Nat) (o : List (List Int)), (rowG ps fits m o).Pairwise fun x y => cmpT x y < 0 := by
  intro m
  induction m with
  | zero => intro o; simp [rowG]
  | succ m ih =>
    intro o
    unfold rowG
    rw [List.pairwise_flatMap]
    refine ⟨fun p _ => ?_, hps.imp fun {p q} hpq x hx y hy => ?_⟩
    · split
      · exact ih _
      · exact List.Pairwise.nil
    · split at hx
      · split at hy
        · obtain ⟨r, e1, _, _⟩ := rowG_mem _ _ _ hx
          obtain ⟨s, e2, _, _⟩ := rowG_mem _ _ _ hy
          rw [e1, e2, List.append_assoc, List.append_assoc]
          show cmpG cmpL _ _ < 0
          rw [cmpG_append cmpL_cmp]
          simp only [List.cons_append, List.nil_append, cmpG]
          rw [if_neg (by omega)]; exact hpq
        · simp at hy
      · simp at hx
theorem prm_sorted : ∀ n : Fin 5, (prmL n.1).Pairwise fun p q => cmpL p q < 0 := by decide +kernel
theorem srt_sorted {n : Nat} {flt : List (List Int) → Bool} : ∀ (L : List (List (List Int))) (acc : List (List (List Int))), (∀ t ∈ L, t.length = n) → (∀ t ∈ acc, t.length = n) → L.Pairwise (fun x y => cmpT x y < 0) → (∀ x ∈ acc, ∀ y ∈ L, cmpT x y < 0) → L.foldl (srtF n flt) (acc.map fun t => [t]) = (acc ++ L.filter fun t => flt t && onlL n (prmL n) [t]).map fun t => [t] := by
  intro L
  induction L with
  | nil => intro acc _ _ _ _; simp
  | cons t L ih =>
    intro acc hl ha hp hx
    rw [List.pairwise_cons] at hp
    simp only [List.foldl_cons]
    cases hc : (flt t && onlL n (prmL n) [t]) with
    | true =>
      have e : srtF n flt (acc.map fun t => [t]) t = (acc ++ [t]).map fun t => [t] := by
        unfold srtF
        rw [if_pos hc, insQ_at (k := (acc.map fun t => [t]).length) (Nat.le_refl _) (fun i hi => ?_) (.inl rfl)]
        · rw [List.take_length, List.drop_length, List.map_append]; rfl
        · rw [List.length_map] at hi
          have hb := befS_one (x := acc[i]) (y := t) (by rw [ha _ (List.getElem_mem hi), hl t (by simp)])
          rw [List.getD_eq_getElem?_getD, List.getElem?_map, List.getElem?_eq_getElem hi, Option.map_some, Option.getD_some, hb]
          simp only [decide_eq_true_eq]
          exact hx _ (List.getElem_mem hi) t (by simp)
      rw [e, ih (acc ++ [t]) (fun s hs => hl s (by simp [hs])) (fun s hs => by
        rcases List.mem_append.1 hs with h | h
        · exact ha s h
        · simp at h; rw [h]; exact hl t (by simp)) hp.2 (fun x h y hy => by
        rcases List.mem_append.1 h with h | h
        · exact hx x h y (by simp [hy])
        · simp at h; rw [h]; exact hp.1 y hy)]
      rw [List.filter_cons, hc]; simp
    | false =>
      have e : srtF n flt (acc.map fun t => [t]) t = acc.map fun t => [t] := by unfold srtF; rw [hc]; rfl
      rw [e, ih acc (fun s hs => hl s (by simp [hs])) ha hp.2 (fun x h y hy => hx x h y (by simp [hy]))]
      rw [List.filter_cons, hc]; simp
theorem srtL_filter {n : Nat} {flt : List (List Int) → Bool} {L : List (List (List Int))} (hl : ∀ t ∈ L, t.length = n) (hp : L.Pairwise fun x y => cmpT x y < 0) : srtL n flt L = L.filter fun t => flt t && lstB n t := by
  have h := srt_sorted (n := n) (flt := flt) L [] hl (by simp) hp (by simp)
  unfold srtL
  simp only [List.map_nil, List.nil_append] at h
  rw [h, List.map_map]
  have : ((fun A : List (List (List Int)) => A.getD 0 []) ∘ fun t => [t]) = id := rfl
  rw [this, List.map_id]
  exact List.filter_congr fun t ht => by rw [lstB_onl (hl t ht)]
theorem rowL_len {n : Nat} {fits : List (List Int) → Bool} : ∀ t ∈ rowL n fits, t.length = n := fun t ht => by
  obtain ⟨r, e, h, _⟩ := rowG_mem _ _ _ ht
  rw [e]; simpa using h
end Go.Proofs.YtaddclaadbjnlaaGreat

namespace Go.Proofs.YtaddclaadbjnlaaGreat
set_option maxRecDepth 100000
set_option linter.unusedVariables false
set_option linter.unusedSimpArgs false
open Go.RowKit
theorem lists_bd {n : Nat} (h1 : 1 ≤ n) (h4 : n ≤ 4) (fits p : List (List Int) → Bool) : ((rowL n fits).filter p).length ≤ 1000000 ∧ totS ((rowL n fits).filter p) ≤ 1000000000 := by
  have e0 : ((rowL n fits).filter p).length ≤ 1000000 := by
    have h := rowG_bd (prmL n) fits n []
    have e1 := prm_bd h1 h4
    have e2 : (prmL n).length ^ n ≤ 24 ^ n := Nat.pow_le_pow_left e1.1 n
    have e3 : (24 : Nat) ^ n ≤ 24 ^ 4 := Nat.pow_le_pow_right (by omega) h4
    have e4 : (24 : Nat) ^ 4 ≤ 1000000 := by decide
    have e5 : ((rowL n fits).filter p).length ≤ (rowL n fits).length := List.length_filter_le _ _
    unfold rowL at e5 ⊢
    omega
  refine ⟨e0, ?_⟩
  have ht : ∀ (L : List (List (List Int))), (∀ t ∈ L, tot t ≤ 100) → totS L ≤ 100 * L.length := by
    intro L
    induction L with
    | nil => intro _; simp [totS]
    | cons t L ih =>
      intro h
      rw [totS_cons, List.length_cons]
      have := h t (by simp)
      have := ih fun s hs => h s (by simp [hs])
      omega
  have hr : ∀ (R : List (List Int)), (∀ r ∈ R, r.length ≤ 4) → tot R ≤ 4 * R.length := by
    intro R
    induction R with
    | nil => intro _; simp [tot]
    | cons r R ih =>
      intro h
      have e : tot (r :: R) = r.length + tot R := by simp only [tot, List.map_cons, List.sum_cons]
      rw [e, List.length_cons]
      have := h r (by simp)
      have := ih fun s hs => h s (by simp [hs])
      omega
  have := ht ((rowL n fits).filter p) (fun t h => by
    have hm := (List.mem_filter.1 h).1
    obtain ⟨r, e, hl, hq⟩ := rowG_mem _ _ _ hm
    rw [List.nil_append] at e
    subst e
    have hw := rows_rwsP h1 h4 hl hq
    have := hr t (fun s hs => by
      obtain ⟨i, hi, rfl⟩ := List.getElem_of_mem hs
      have := (hw.2 i (by omega)).len
      rw [List.getD_eq_getElem?_getD, List.getElem?_eq_getElem hi, Option.getD_some] at this
      omega)
    omega)
  omega
end Go.Proofs.YtaddclaadbjnlaaGreat
