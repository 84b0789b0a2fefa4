/-
  The reference's columns, and its table with rows and columns exchanged.
  No condition but bounds.
-/
import Derived.Test.YthgafpeblpnolaaGreatSlsL
import Derived.Test.YthgafpeblpnolaaGreatSolF
import Derived.Test.YthgafpeblpnolaaGreatBase2
import Derived.Test.YthgafpeblpnolaaGreatTupS
namespace Go.Proofs.YthgafpeblpnolaaGreat
set_option maxRecDepth 100000
set_option linter.unusedVariables false
set_option linter.unusedSimpArgs false
open Go.RowKit

def colL (n : Nat) (t : List (List Int)) (y : Nat) : List Int := (List.range n).map fun x => ((tv t x y : Nat) : Int)
theorem colL_succ (k : Nat) (t : List (List Int)) (y : Nat) : colL (k + 1) t y = colL k t y ++ [((tv t k y : Nat) : Int)] := by simp [colL, List.range_succ]
theorem trnL_col (n : Nat) (t : List (List Int)) : trnL n t = (List.range n).map fun y => colL n t y := rfl

set_option maxHeartbeats 2000000 in
theorem l01Column_any (n y : Nat) (at_ : Option Addr) (ct : Nat) (t : List (List Int)) (w : World) (h1 : Tbl w at_ n t) (hs : Sq n t) (hn1 : 1 ≤ n) (hn : n ≤ 12) (hy : y < n) :
    Calls Tryz.prog 93 #[.slice at_ n ct, .int .i64 y] w fun e w' => ∃ a c, e = .returned (.slice a n c) ∧ Own w' w.heap.size a n c (colL n t y) ∧ Below w.heap.size w w' := by
  obtain ⟨b, off, A, O, C, rfl, G⟩ := h1.grid hs hn1
  clear h1
  have hO : Own (w.alloc (.cells #[] 2)) w.heap.size (some ⟨w.heap.size, 0, none⟩) 0 0 [] := Own.mk rfl (Nat.le_refl _) (Loc.new w rfl _ _) (Nat.le_refl _) (by unfold maxLen; omega) rfl rfl
  have hB := below_al (Below.refl w.heap.size w) (.cells #[] 2)
  go_enter Tryz.func93, Tryz.ntmps93
  go_wp2
  go_loopw [5, 6] (fun z i wr => ∃ (k : Nat) (az : Option Addr) (cz : Nat), k ≤ n ∧ i = .int .i64 k ∧ z = .slice az k cz ∧ Own wr w.heap.size az k cz (colL k t y) ∧ Below w.heap.size w wr) (fun _ i _ => n - (intOf i).toNat)
  case atStart => exact ⟨0, _, 0, Nat.zero_le _, rfl, rfl, hO, hB⟩
  case round =>
    clear hO hB
    obtain ⟨k, az, cz, hk, rfl, rfl, ho, hb⟩ := hrel
    by_cases hlt : k < n
    · obtain ⟨r1, k1⟩ := (G.below hb).look hlt hy
      obtain ⟨v, HV⟩ : ∃ v, Hid (tv t k y = v) := ⟨_, rfl⟩
      rw [HV.out] at k1
      have HCC : Hid (colL (k + 1) t y = colL k t y ++ [((v : Nat) : Int)]) := Lib.hid (by rw [colL_succ, HV.out])
      have i1 : (0 : Int) ≤ (k : Int) := by omega
      have i2 : (k : Int) < (n : Int) := by omega
      have i3 : (0 : Int) ≤ (y : Int) := by omega
      have i4 : (y : Int) < (n : Int) := by omega
      have hbz := hb.size
      go_wp2_with (at_builtin; refine app1 rfl rfl ho rfl rfl (by omega) hbz ?_; intro g' cc w8 hO8 hg8 hs8 hb8)
      go_roundw
      case rel => exact ⟨k + 1, _, cc, by omega, by go_num, rfl, by rw [HCC.out]; exact hO8, hb.trans hb8⟩
      case measure => simp [intOf]; omega
    · obtain rfl : k = n := by omega
      go_wp2
      go_ret
      exact ⟨az, cz, rfl, ho, hb⟩

set_option maxHeartbeats 2000000 in
theorem l01Turn_any (n : Nat) (at_ : Option Addr) (ct : Nat) (t : List (List Int)) (w : World) (h1 : Tbl w at_ n t) (hs : Sq n t) (hn1 : 1 ≤ n) (hn : n ≤ 12) :
    Calls Tryz.prog 138 #[.slice at_ n ct] w fun e w' => ∃ a c vs, e = .returned (.slice a n c) ∧ OwnT w' w.heap.size a n c vs (trnL n t) ∧ Below w.heap.size w w' := by
  have HS := Lib.hid hs; clear hs
  have HT : Hid (trnL n t = (List.range n).map fun y => colL n t y) := Lib.hid rfl
  have hO := OwnT.fresh w rfl
  have hB := below_al (Below.refl w.heap.size w) (.cells #[] 49)
  go_enter Tryz.func138, Tryz.ntmps138
  go_wp2
  go_loopw [3, 4] (fun z i wr => ∃ (k : Nat) (az : Option Addr) (cz : Nat) (vz : List SV), k ≤ n ∧ i = .int .i64 k ∧ z = .slice az k cz ∧ OwnT wr w.heap.size az k cz vz ((List.range k).map fun y => colL n t y) ∧ Below w.heap.size w wr) (fun _ i _ => n - (intOf i).toNat)
  case atStart => exact ⟨0, _, 0, _, Nat.zero_le _, rfl, rfl, by simpa using hO, hB⟩
  case round =>
    clear hO hB
    obtain ⟨k, az, cz, vz, hk, rfl, rfl, ho, hb⟩ := hrel
    by_cases hlt : k < n
    · have HK : Hid (((List.range (k + 1)).map fun y => colL n t y) = ((List.range k).map fun y => colL n t y) ++ [colL n t k]) := Lib.hid (by simp [List.range_succ])
      go_wp2_with fail
      refine (l01Column_any n k _ _ t _ (h1.below hb) HS.out hn1 hn hlt).mono ?_
      rintro e w1 ⟨a1, c1, rfl, ho1, hb1⟩
      have hbb := hb.size
      have hz1 := ho.below hb1
      have hq1 := below_th hb hb1
      have hs1 := hb1.size
      go_wp2_with (at_builtin; refine appT1 rfl rfl hz1 rfl (ho1.mono hbb) (fun g h1 h2 => by have h3 := ho.high _ h1; have h4 := ho1.lo _ h2; omega) (fun i hi g h1 h2 => by have h3 := ho1.lo _ h1; have h4 := (ho.row i hi).hi _ h2; omega) rfl (by omega) (by omega) ?_; intro g' cc w2 hO hb2)
      go_roundw
      case rel => exact ⟨k + 1, _, _, _, by omega, by go_num, rfl, by rw [HK.out]; exact hO, hq1.trans hb2⟩
      case measure => simp [intOf]; omega
    · obtain rfl : k = n := by omega
      go_wp2
      go_ret
      exact ⟨_, _, vz, rfl, by rw [HT.out]; exact ho, hb⟩
end Go.Proofs.YthgafpeblpnolaaGreat
