/-
  The program's countPairs: the pairs that a tuple goes through along a word, counted into a row.
  No condition but bounds.
-/
import Derived.Test.YtnlgmhckjpifiaaGreatWbW
namespace Go.Proofs.YtnlgmhckjpifiaaGreat
set_option maxRecDepth 100000
set_option linter.unusedVariables false
set_option linter.unusedSimpArgs false
open Go.RowKit

set_option maxHeartbeats 8000000 in
theorem countPairs_ok (a : Option Addr) (n c : Nat) (a' : Option Addr) (c' : Nat) (b : Option Addr) (d : Nat) (b' : Option Addr) (d' : Nat) (f g : List (List Int)) (p t : Int) (ks : List Nat) (ab : Option Addr) (nb cb : Nat) (al : Option Addr) (s cl : Nat) (l R : List Int) (G C lo : Nat) (w0 w : World)
    (h1 : Tbl w0 a n f) (h2 : Tbl w0 a' n g) (h3 : Tbl w0 b n (bfT n f g)) (h4 : Tbl w0 b' n (bgT n f g)) (hB0 : Below w0.heap.size w0 w) (hG : w0.heap.size ≤ G)
    (hn1 : 1 ≤ n) (hn : n ≤ 8) (hf : Sq n f) (hg : Sq n g) (hc : collOk n f g = true) (p2 : 2 ≤ p ∧ p ≤ 7) (ht : 0 ≤ t ∧ t ≤ 7)
    (hw : Row w ab nb (ks.map fun k : Nat => (k : Int) + 1)) (hwn : ∀ o, ab ≠ some ⟨G, o, none⟩) (hks : ∀ k, k ∈ ks → k + 1 < s) (hs : s ≤ 6) (hnb : nb ≤ 30)
    (hl : Row w al s l) (hln : ∀ o, al ≠ some ⟨G, o, none⟩) (hcl : s ≤ cl ∧ cl ≤ 9223372036854775807) (hI : CpI n p s (l, R))
    (ho : Own w lo (some ⟨G, 0, none⟩) (n * n) C R) :
    Calls Tryz.prog 98 #[aAgg a n c a' c' b d b' d', .int .i64 p, .int .i64 t, .slice ab nb cb, .slice al s cl, .slice (some ⟨G, 0, none⟩) (n * n) C] w
      fun e w' => e = .returned (.tuple #[]) ∧ Own w' lo (some ⟨G, 0, none⟩) (n * n) C (cpF f g n p t ks (l, R)).2 ∧ w.grownBy w' (some G) := by
  have hGw := ho.hi G rfl
  have p0 : p ≠ 0 := by omega
  have hnn : n * n ≤ 64 := by have := Nat.mul_le_mul hn hn; omega
  obtain ⟨N, hN⟩ : ∃ N, n * n = N := ⟨_, rfl⟩
  have HNN := Lib.hid hN
  rw [hN] at ho hnn ⊢
  clear hN
  have hlen : nb = ks.length := by have := hw.len; simpa using this
  have HLN := Lib.hid hlen; clear hlen
  have HI : Hid (∀ k, CpI n p s (cpF f g n p t (ks.take k) (l, R))) := Lib.hid fun k => hI.fold hf hg (by omega) fun j hj => hks j (List.mem_of_mem_take hj)
  have HKS := Lib.hid hks; have HWN := Lib.hid hwn; have HW := Lib.hid hw
  have HSF := Lib.hid hf; have HSG := Lib.hid hg; have HC := Lib.hid hc
  have HT : Hid (Tbl w0 a n f ∧ Tbl w0 a' n g ∧ Tbl w0 b n (bfT n f g) ∧ Tbl w0 b' n (bgT n f g)) := Lib.hid ⟨h1, h2, h3, h4⟩
  clear hks hwn hw hf hg hc h1 h2 h3 h4 hI
  have hA := Loc.new w rfl #[.slice a n c, .slice a' n c', .slice b n d, .slice b' n d'] 105
  have hgA := World.grownBy_alloc w (.cells #[.slice a n c, .slice a' n c', .slice b n d, .slice b' n d'] 105) (some G)
  have hl0 := hl.alloc (.cells #[.slice a n c, .slice a' n c', .slice b n d, .slice b' n d'] 105)
  have ho0 := ho.alloc (.cells #[.slice a n c, .slice a' n c', .slice b n d, .slice b' n d'] 105)
  have lA := hA.four
  obtain ⟨lA1, lA2, lA3, lA4, _⟩ := lA
  go_enter Tryz.func98, Tryz.ntmps98
  go_wp2
  go_loopw [4, 23] (fun s4 s23 wr => ∃ (k : Nat) (ao : Option Addr) (co : Nat), k ≤ nb ∧ s23 = .int .i64 k ∧ s4 = .slice ao s co ∧ (s ≤ co ∧ co ≤ 9223372036854775807) ∧ Row wr ao s (cpF f g n p t (ks.take k) (l, R)).1 ∧ Hid (∀ o, ao ≠ some ⟨G, o, none⟩) ∧ Own wr lo (some ⟨G, 0, none⟩) N C (cpF f g n p t (ks.take k) (l, R)).2 ∧
    Loc wr w.heap.size #[.slice a n c, .slice a' n c', .slice b n d, .slice b' n d'] 105 ∧ w.grownBy wr (some G)) (fun _ s23 _ => nb - (intOf s23).toNat)
  case atStart => exact ⟨0, al, cl, Nat.zero_le _, rfl, rfl, hcl, by simpa [cpF] using hl0, Lib.hid hln, by simpa [cpF] using ho0, hA, hgA⟩
  case round =>
    clear hl0 ho0 hA hgA lA1 lA2 lA3 lA4 hcl hln hl ho
    obtain ⟨k, ao, co, hk, rfl, rfl, ⟨hco1, hco2⟩, hl, hln, ho, hA, hgr⟩ := hrel
    obtain ⟨lA1, lA2, lA3, lA4, _⟩ := hA.four
    by_cases hlt : k < nb
    · have hkl : k < ks.length := by have := HLN.out; omega
      have HST : Hid (cpF f g n p t (ks.take (k + 1)) (l, R) = cpS f g n p t (cpF f g n p t (ks.take k) (l, R)) ks[k]) := Lib.hid (cpF_take hkl)
      have hi := HI.out k
      obtain ⟨⟨L, Q⟩, hst⟩ : ∃ st, cpF f g n p t (ks.take k) (l, R) = st := ⟨_, rfl⟩
      rw [hst] at hl ho hi HST
      clear hst
      simp only at hl ho
      obtain ⟨i1, i2, i3⟩ := hi
      simp only at i1 i2 i3
      have hKs := HKS.out ks[k] (List.getElem_mem hkl)
      have hwk := HW.out.grw hgr (fun g' o _ e h => by cases h; exact HWN.out o e)
      obtain ⟨bw, ow, rfl, g1⟩ := hwk.at k hlt
      have hgk : (ks.map fun k : Nat => (k : Int) + 1).getD k 0 = (ks[k] : Int) + 1 := by simp [List.getD_eq_getElem?_getD, hkl]
      rw [hgk] at g1
      clear hgk hwk
      generalize ks[k] = K at *
      have hpl : plc ((K : Int) + 1) = (K : Int) := by unfold plc; rw [if_neg (by omega)]; omega
      have HPL : Hid (∀ v : World, Calls Tryz.prog 75 #[.int .i64 ((K : Int) + 1)] v fun e v' => e = .returned (.int .i64 (K : Int)) ∧ v' = v) := Lib.hid fun v => by have := placeOf_any ((K : Int) + 1) v (by omega) (by omega); rw [hpl] at this; exact this
      obtain ⟨x, hx, ex⟩ := i2 K (by omega)
      obtain ⟨y, hy, ey⟩ := i2 (K + 1) (by omega)
      obtain ⟨bt, ot, rfl, _⟩ := hl.at 0 (by omega)
      have hmid := hl.mid K (by omega)
      rw [ex, ey] at hmid
      have hJ : numP n L K = x * n + y := by unfold numP; rw [ex, ey]; simp
      obtain ⟨J, hJ2⟩ : ∃ J, x * n + y = J := ⟨_, rfl⟩
      rw [hJ2] at hJ
      have hJN : J < N := by rw [← hJ2, ← HNN.out]; exact pair_lt hx hy
      have HNUM : Hid (∀ (v : World) (a9 : Option Addr) (c9 : Nat), Row v a9 2 [(x : Int), (y : Int)] → Calls Tryz.prog 155 #[.int .i64 n, .slice a9 2 c9] v fun e v' => e = .returned (.int .i64 (J : Int)) ∧ v = v') := Lib.hid fun v a9 c9 h9 => by
        have := numberOf_any n 2 a9 c9 [(x : Int), (y : Int)] v h9 hn1 (by omega) (by omega) (fun i hi => by
          have hi2 : i = 0 ∨ i = 1 := by simp at hi; omega
          rcases hi2 with rfl | rfl
          · exact ⟨x, hx, rfl⟩
          · exact ⟨y, hy, rfl⟩) (by have := Nat.mul_le_mul hn hn; rw [Nat.pow_two]; omega)
        rw [numL_two, hJ2] at this
        exact this
      obtain ⟨_, hcs, hfz⟩ := ho.cells
      have q1' := hcs J hJN
      have q2 := hfz J
      clear hcs hfz
      have q1 : wr.cell? ⟨G, J, none⟩ = some (.int .i64 (gv Q J)) := q1'
      clear q1'
      have hX := i3.2 J (by rw [HNN.out]; exact hJN)
      have HX9 : Hid (cpS f g n p t (L, Q) K = (doF f g K L, Q.set J ((gv Q J + t) % p))) := Lib.hid (by unfold cpS; simp only [hJ])
      generalize gv Q J = X at *
      have hsw : IntKind.i64.wrap (X + t) = X + t := IntWalk.i64_in _ (by omega)
      have hrw : (X + t).tmod p = (X + t) % p := IntWalk.rem_in _ _ (by omega)
      have hwk2 : IntKind.i64.wrap ((K : Int) + 2) = ((K + 2 : Nat) : Int) := (IntWalk.i64_in _ (by omega)).trans (by simp)
      obtain ⟨Z, hZ⟩ : ∃ Z, (X + t) % p = Z := ⟨_, rfl⟩
      rw [hZ] at hrw HX9
      obtain ⟨W, hW⟩ : ∃ W, wr.setCell ⟨G, J, none⟩ (.int .i64 Z) = W := ⟨_, rfl⟩
      have hoW : Own W lo (some ⟨G, 0, none⟩) N C (Q.set J Z) := by rw [← hW]; exact ho.set J Z
      have hlW : Row W (some ⟨bt, ot, none⟩) s L := by rw [← hW]; exact hl.grw (grw_set (grw_refl wr (some G)) (.inl rfl) _) (fun g' o _ e h => by cases h; exact hln.out o e)
      have hAW : Loc W w.heap.size #[.slice a n c, .slice a' n c', .slice b n d, .slice b' n d'] 105 := by rw [← hW]; exact hA.setne (by show w.heap.size ≠ G; omega) _
      have hgW : w.grownBy W (some G) := by rw [← hW]; exact grw_set hgr (.inl rfl) _
      have hBW : Below w0.heap.size w0 W := hB0.grown hgW hB0.size (fun k hk => by cases hk; exact hG)
      obtain ⟨mA1, mA2, mA3, mA4, _⟩ := hAW.four
      obtain ⟨T1, T2, T3, T4⟩ := HT.out
      have T1 := T1.below hBW; have T2 := T2.below hBW; have T3 := T3.below hBW; have T4 := T4.below hBW
      have HWW := Lib.hid hW
      have hGW := hoW.hi G rfl
      clear hW hZ hJ hJ2 ex ey i1 i3 hX hx hy
      go_wp2_with fail
      refine (HPL.out _).mono ?_
      rintro e w' ⟨rfl, rfl⟩
      go_wp2_with fail
      refine (HNUM.out _ _ _ hmid).mono ?_
      rintro e w' ⟨rfl, rfl⟩
      go_upto_region 8 with fail
      rw [HWW.out]
      go_wp2_with fail
      refine (step_any a n c a' c' b d b' d' f g _ _ _ L ((K : Int) + 1) W T1 T2 T3 T4 hn1 HSF.out HSG.out HC.out hlW (by omega) (by omega) (by omega) (by omega) (by omega) i2).mono ?_
      rintro e w2 ⟨ao2, co2, rfl, ho2, hb2⟩
      rw [stepL_pos] at ho2
      go_wp2
      go_roundw
      case rel =>
        refine ⟨k + 1, ao2, co2, by omega, by go_num, rfl, by have := ho2.cap; omega, ?_, Lib.hid fun o e => ?_, ?_, hAW.below hb2 hAW.lt, grw_trans hgW ⟨hb2.os, hb2.tape, hb2.output, hb2.size, fun k hk _ => hb2.block k hk⟩⟩
        · rw [HST.out, HX9.out]; exact ho2.row
        · rcases ho2.block with ⟨h, _⟩ | ⟨q, cur, h, hq, _⟩
          · rw [h] at e; cases e
          · rw [h] at e; cases e; omega
        · rw [HST.out, HX9.out]; exact hoW.below hb2
      case measure => simp [intOf]; omega
    · obtain rfl : k = nb := by omega
      rw [List.take_of_length_le (by have := HLN.out; omega)] at ho
      go_wp2
      go_end0
      exact ⟨rfl, ho, hgr⟩
end Go.Proofs.YtnlgmhckjpifiaaGreat
