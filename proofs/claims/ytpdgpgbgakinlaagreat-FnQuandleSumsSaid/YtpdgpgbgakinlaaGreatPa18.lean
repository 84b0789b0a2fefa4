/-
  Walks and plain laws of this seat, some texts in one.
  No condition but bounds on lengths.
-/
import Derived.Test.YtpdgpgbgakinlaaGreatPa7
import Derived.IntWalk
import Derived.Test.YtpdgpgbgakinlaaGreatPa17
import Derived.Test.YtpdgpgbgakinlaaGreatPa9
import Derived.Test.YtpdgpgbgakinlaaGreatPa3
import Derived.Test.YtpdgpgbgakinlaaGreatPa16
namespace Go.Proofs.YtpdgpgbgakinlaaGreat
set_option maxRecDepth 100000
set_option linter.unusedVariables false
set_option linter.unusedSimpArgs false
open Go.RowKit
set_option maxHeartbeats 1000000 in
theorem l06Digits_any (n k N : Nat) (w : World) (hn1 : 1 ≤ n) (hn : n ≤ 1000000) (hk : k ≤ 1000000) (hN : N ≤ 1000000000000) :
    Calls Tryz.prog 171 #[.int .i64 N, .int .i64 n, .int .i64 k] w fun e w' => ∃ a c, e = .returned (.slice a k c) ∧ Own w' w.heap.size a k c (digL n k N) ∧ Below w.heap.size w w' := by
  go_enter Tryz.func171, Tryz.ntmps171
  go_wp2_with (at_make; refine make1 rfl rfl rfl rfl (by omega) ?_; intro w1 ho hs hb)
  have hn0 : (n : Int) ≠ 0 := by omega
  go_loopw [0, 8] (fun q i wr => ∃ j : Nat, j ≤ k ∧ i = .int .i64 ((k : Int) - 1 - j) ∧ q = .int .i64 ((N / n ^ j : Nat) : Int) ∧ Own wr w.heap.size (some ⟨w.heap.size, 0, none⟩) k k (digP n k N j) ∧ Below w.heap.size w wr) (fun _ i _ => (intOf i + 1).toNat)
  case atStart => exact ⟨0, Nat.zero_le _, by go_num, by simp, by rw [digP_zero]; exact ho, hb⟩
  case round =>
    clear ho hb
    obtain ⟨j, hj, rfl, rfl, ho, hb⟩ := hrel
    by_cases hlt : j < k
    · have hq : N / n ^ j ≤ N := Nat.div_le_self _ _
      have hst := digP_step n k N j hlt
      have hdv := div_pow_succ n j N
      obtain ⟨Q, hQ⟩ : ∃ Q, Q = N / n ^ j := ⟨_, rfl⟩
      rw [← hQ] at hq hst hdv ⊢
      have Qr : ((Q : Int)).tmod (n : Int) = ((Q % n : Nat) : Int) := by rw [Int.tmod_eq_emod_of_nonneg (by omega)]; simp
      have Qd : ((Q : Int)).tdiv (n : Int) = ((Q / n : Nat) : Int) := by rw [Int.tdiv_eq_ediv_of_nonneg (by omega)]; simp
      have b1 : Q % n ≤ Q := Nat.mod_le _ _
      have b2 : Q / n ≤ Q := Nat.div_le_self _ _
      have HST := Lib.hid hst; have HDV := Lib.hid hdv
      clear hst hdv hQ
      obtain ⟨i, hi⟩ : ∃ i : Nat, i = k - 1 - j := ⟨_, rfl⟩
      have hii : (k : Int) - 1 - (j : Int) = (i : Int) := by omega
      have hik : i < k := by omega
      rw [hii]
      have HI := Lib.hid hi; have HII := Lib.hid hii
      clear hi hii
      generalize hR : Q % n = R at *
      generalize hD : Q / n = D at *
      have HR := Lib.hid hR; have HD := Lib.hid hD; clear hR hD
      have Wr : IntKind.i64.wrap (R : Int) = (R : Int) := IntWalk.i64_in _ (by omega)
      have Wd : IntKind.i64.wrap (D : Int) = (D : Int) := IntWalk.i64_in _ (by omega)
      have Wi : IntKind.i64.wrap ((i : Int) - 1) = (i : Int) - 1 := IntWalk.i64_in _ (by omega)
      obtain ⟨_, hc, hf⟩ := ho.cells
      have hc1 := hc i hik
      have hf1 := hf i
      clear hc hf
      go_wp2
      go_roundw
      case rel =>
        refine ⟨j + 1, by omega, ?_, by rw [← HDV.out], ?_, hb.setCell (by simp) _⟩
        · have := HII.out
          congr 1
          omega
        · rw [← HST.out, ← HI.out]
          exact ho.set i _
      case measure => first | (simp [intOf]; done) | (simp [intOf]; omega)
    · obtain rfl : j = k := by omega
      have e1 : (j : Int) - 1 - (j : Int) = -1 := by omega
      rw [e1]
      rw [digP_full] at ho
      go_wp2
      go_ret
      exact ⟨_, _, rfl, ho, hb⟩
end Go.Proofs.YtpdgpgbgakinlaaGreat

namespace Go.Proofs.YtpdgpgbgakinlaaGreat
set_option maxRecDepth 100000
set_option linter.unusedVariables false
set_option linter.unusedSimpArgs false
open Go.RowKit
def colL (n : Nat) (t : List (List Int)) (y : Nat) : List Int := (List.range n).map fun x => ((tv t x y : Nat) : Int)
theorem colL_succ (k : Nat) (t : List (List Int)) (y : Nat) : colL (k + 1) t y = colL k t y ++ [((tv t k y : Nat) : Int)] := by simp [colL, List.range_succ]
set_option maxHeartbeats 2000000 in
theorem l01Column_any (n y : Nat) (at_ : Option Addr) (ct : Nat) (t : List (List Int)) (w : World) (h1 : Tbl w at_ n t) (hs : Sq n t) (hn1 : 1 ≤ n) (hn : n ≤ 12) (hy : y < n) :
    Calls Tryz.prog 181 #[.slice at_ n ct, .int .i64 y] w fun e w' => ∃ a c, e = .returned (.slice a n c) ∧ Own w' w.heap.size a n c (colL n t y) ∧ Below w.heap.size w w' := by
  obtain ⟨b, off, A, O, C, rfl, G⟩ := h1.grid hs hn1
  clear h1
  have hO : Own (w.alloc (.cells #[] 2)) w.heap.size (some ⟨w.heap.size, 0, none⟩) 0 0 [] := Own.mk rfl (Nat.le_refl _) (Loc.new w rfl _ _) (Nat.le_refl _) (by unfold maxLen; omega) rfl rfl
  have hB := below_al (Below.refl w.heap.size w) (.cells #[] 2)
  go_enter Tryz.func181, Tryz.ntmps181
  go_wp2
  go_loopw [5, 6] (fun z i wr => ∃ (k : Nat) (az : Option Addr) (cz : Nat), k ≤ n ∧ i = .int .i64 k ∧ z = .slice az k cz ∧ Own wr w.heap.size az k cz (colL k t y) ∧ Below w.heap.size w wr) (fun _ i _ => n - (intOf i).toNat)
  case atStart => exact ⟨0, _, 0, Nat.zero_le _, rfl, rfl, hO, hB⟩
  case round =>
    clear hO hB
    obtain ⟨k, az, cz, hk, rfl, rfl, ho, hb⟩ := hrel
    by_cases hlt : k < n
    · obtain ⟨r1, k1⟩ := (G.below hb).look hlt hy
      obtain ⟨v, HV⟩ : ∃ v, Hid (tv t k y = v) := ⟨_, rfl⟩
      rw [HV.out] at k1
      have HCC : Hid (colL (k + 1) t y = colL k t y ++ [((v : Nat) : Int)]) := Lib.hid (by rw [colL_succ, HV.out])
      have i1 : (0 : Int) ≤ (k : Int) := by omega
      have i2 : (k : Int) < (n : Int) := by omega
      have i3 : (0 : Int) ≤ (y : Int) := by omega
      have i4 : (y : Int) < (n : Int) := by omega
      have hbz := hb.size
      go_wp2_with (at_builtin; refine app1 rfl rfl ho rfl rfl (by omega) hbz ?_; intro g' cc w8 hO8 hg8 hs8 hb8)
      go_roundw
      case rel => exact ⟨k + 1, _, cc, by omega, by go_num, rfl, by rw [HCC.out]; exact hO8, hb.trans hb8⟩
      case measure => simp [intOf]; omega
    · obtain rfl : k = n := by omega
      go_wp2
      go_ret
      exact ⟨az, cz, rfl, ho, hb⟩
set_option maxHeartbeats 2000000 in
theorem l01Turn_any (n : Nat) (at_ : Option Addr) (ct : Nat) (t : List (List Int)) (w : World) (h1 : Tbl w at_ n t) (hs : Sq n t) (hn1 : 1 ≤ n) (hn : n ≤ 12) :
    Calls Tryz.prog 162 #[.slice at_ n ct] w fun e w' => ∃ a c vs, e = .returned (.slice a n c) ∧ OwnT w' w.heap.size a n c vs (trnL n t) ∧ Below w.heap.size w w' := by
  have HS := Lib.hid hs; clear hs
  have HT : Hid (trnL n t = (List.range n).map fun y => colL n t y) := Lib.hid rfl
  have hO := OwnT.fresh w rfl
  have hB := below_al (Below.refl w.heap.size w) (.cells #[] 27)
  go_enter Tryz.func162, Tryz.ntmps162
  go_wp2
  go_loopw [3, 4] (fun z i wr => ∃ (k : Nat) (az : Option Addr) (cz : Nat) (vz : List SV), k ≤ n ∧ i = .int .i64 k ∧ z = .slice az k cz ∧ OwnT wr w.heap.size az k cz vz ((List.range k).map fun y => colL n t y) ∧ Below w.heap.size w wr) (fun _ i _ => n - (intOf i).toNat)
  case atStart => exact ⟨0, _, 0, _, Nat.zero_le _, rfl, rfl, by simpa using hO, hB⟩
  case round =>
    clear hO hB
    obtain ⟨k, az, cz, vz, hk, rfl, rfl, ho, hb⟩ := hrel
    by_cases hlt : k < n
    · have HK : Hid (((List.range (k + 1)).map fun y => colL n t y) = ((List.range k).map fun y => colL n t y) ++ [colL n t k]) := Lib.hid (by simp [List.range_succ])
      go_wp2_with fail
      refine (l01Column_any n k _ _ t _ (h1.below hb) HS.out hn1 hn hlt).mono ?_
      rintro e w1 ⟨a1, c1, rfl, ho1, hb1⟩
      have hbb := hb.size
      have hz1 := ho.below hb1
      have hq1 := below_th hb hb1
      have hs1 := hb1.size
      go_wp2_with (at_builtin; refine appT1 rfl rfl hz1 rfl (ho1.mono hbb) (fun g h1 h2 => by have h3 := ho.high _ h1; have h4 := ho1.lo _ h2; omega) (fun i hi g h1 h2 => by have h3 := ho1.lo _ h1; have h4 := (ho.row i hi).hi _ h2; omega) rfl (by omega) (by omega) ?_; intro g' cc w2 hO hb2)
      go_roundw
      case rel => exact ⟨k + 1, _, _, _, by omega, by go_num, rfl, by rw [HK.out]; exact hO, hq1.trans hb2⟩
      case measure => simp [intOf]; omega
    · obtain rfl : k = n := by omega
      go_wp2
      go_ret
      exact ⟨_, _, vz, rfl, by rw [HT.out]; exact ho, hb⟩
end Go.Proofs.YtpdgpgbgakinlaaGreat

namespace Go.Proofs.YtpdgpgbgakinlaaGreat
set_option linter.unusedVariables false
set_option linter.unusedSimpArgs false
set_option maxRecDepth 100000
open Go.RowKit
set_option maxHeartbeats 8000000 in
theorem l02Draw_ok (M b : Nat) (w : World) (h : Src w b) (h1 : 1 ≤ M) (hM : M ≤ 12) :
    Calls Tryz.prog 118 #[.pointer (some ⟨b, 0, none⟩), .int .i64 M] w (SolD b w M) := by
  have hlt := h.lt
  have hR := Loc.new w rfl #[.slice none 0 0, .slice none 0 0] 26
  go_enter Tryz.func118, Tryz.ntmps118
  go_wp2_with fail
  refine (l02Any_ok M b _ (h.below (below_al (Below.refl _ _) _)) h1 hM).mono ?_
  rintro e w1 ⟨n, n1, nM, a1, c1, vs1, f, a1', c1', vs1', g, rfl, ho1, sf, sg, hs1, hg1⟩
  have hR1 := hR.grown hg1 (by simp; omega)
  have hG1 := grown_trans (World.grownBy_alloc w (.cells #[.slice none 0 0, .slice none 0 0] 26) (some b)) hg1
  have hz1 := hR1.lt
  obtain ⟨w2, hw2⟩ : ∃ w2, w1.alloc (.cells #[.slice a1 n c1, .slice a1' n c1'] 26) = w2 := ⟨_, rfl⟩
  have hb2 : Below w1.heap.size w1 w2 := by rw [← hw2]; exact below_al (Below.refl _ _) _
  have hO2 : Loc w2 w1.heap.size #[.slice a1 n c1, .slice a1' n c1'] 26 := by rw [← hw2]; exact Loc.new w1 rfl _ _
  have hR2 := hR1.below hb2 hz1
  have hs2 := hs1.below hb2
  have hG2 := grown_trans hG1 (grown_of_below hb2 (some b))
  have ho2 := (ho1.below hb2).mono (lo' := w.heap.size + 1) (by simp)
  have HFH : Hid (∀ q, TblS a1 n vs1 q → q < w1.heap.size) := Lib.hid ho1.f.uHi
  have HGH : Hid (∀ q, TblS a1' n vs1' q → q < w1.heap.size) := Lib.hid ho1.s.uHi
  have HW2 := Lib.hid hw2
  have SF := Lib.hid sf; have SG := Lib.hid sg
  clear hw2 ho1 hR hR1 hG1 hs1 hg1 sf sg
  go_wp2_with fail
  rw [HW2.out]
  refine (l01Next_ok b 4 _ hs2 ⟨by omega, by omega⟩).mono ?_
  rintro e w3 ⟨x, rfl, _, hx, hs3, hg3⟩
  obtain ⟨hx1, hx2⟩ := hx (by omega)
  clear hx
  have hR3 := hR2.grown hg3 (by simp; omega)
  have hO3 := hO2.grown hg3 (by simp; omega)
  have hG3 := grown_trans hG2 hg3
  have ho3 := ho2.grownb hg3 (by omega)
  have hO3l := hO3.lt
  have hR3l := hR3.lt
  clear hR2 hO2 hG2 ho2 hs2 hb2
  by_cases hx0 : 0 < x
  · have lO := hO3.two
    have tok1 : True := trivial
    go_upto_region 3 with fail
    go_region_held3 (fun w' => w'.cell? ⟨w1.heap.size, 0, none⟩ = some (.slice a1 n c1) ∧ w'.cell? ⟨w1.heap.size, 1, none⟩ = some (.slice a1' n c1'))
      (first | exact ⟨lM.1, lM.2.1⟩ | exact ⟨lC.1, lC.2.1⟩ | exact ⟨lB.1, lB.2.1⟩ | exact ⟨lO.1, lO.2.1⟩ | go_keep)
      (first
        | (go_at_call 119; have _t := tok1; refine (l01Draw_ok b n _ (hs3.below (below_drewN (Below.refl _ _) 1)) n1 (by omega)).mono ?_; rintro e w5 ⟨a5, c5, p, rfl, hp, ho5', hs5, hg5'⟩; clear _t tok1; have tok2 : True := trivial; have HP := Lib.hid hp; clear hp; have hg5 : w3.grownBy w5 (some b) := grown_trans (grown_of_below (below_drewN (Below.refl _ _) 1) (some b)) hg5'; have hO5 := hO3.grown hg5 (by simp; omega); have lB := hO5.two; have ho5 := ho3.grownb hg5 (by omega))
        | (go_at_call 156; have _t := tok2; refine (l02Rename_any n a1 a1' a5 c1 c1' c5 f g p _ ho5.f.tbl ho5.s.tbl ho5'.row SF.out SG.out HP.out n1 (by omega)).mono ?_; rintro e w6 ⟨a6, c6, vs6, f6, a6', c6', vs6', g6, rfl, ho6, sf6, sg6, hb6⟩; clear _t tok2; have hg5s := hg5.size; have hO6 := hO5.below hb6 (by omega); have lC := hO6.two; have hR6 := (hR3.grown hg5 (by simp; omega)).below hb6 (by omega); have lRr := hR6.two; have lM := ((hO6.setne (a := ⟨w.heap.size, 0, none⟩) (by show w1.heap.size ≠ w.heap.size; omega) (.slice a6 n c6)).setne (a := ⟨w.heap.size, 1, none⟩) (by show w1.heap.size ≠ w.heap.size; omega) (.slice a6' n c6')).two))
    all_goals
      have lR := hR6.two
      have hs6 := hs5.below hb6
      have hG6 := grown_trans (grown_trans hG3 hg5) (grown_of_below hb6 (some b))
      go_wp2
      exact bodyPost_ret (v := sAgg a6 n c6 a6' n c6') (by simp [results, Tryz.results118, go_sem, lR]) rfl ⟨n, n1, nM, sol_ret ho6 (by omega) hs6 hlt hG6 sf6 sg6⟩
  · have hx3 : ¬ 0 < x := hx0
    have lO := hO3.two
    have lR := hR3.two
    go_wp2
    exact bodyPost_ret (v := sAgg a1 n c1 a1' n c1') (by simp [results, Tryz.results118, go_sem, lR, lO]) rfl ⟨n, n1, nM, sol_ret ho3 (by omega) hs3 hlt hG3 SF.out SG.out⟩
end Go.Proofs.YtpdgpgbgakinlaaGreat
