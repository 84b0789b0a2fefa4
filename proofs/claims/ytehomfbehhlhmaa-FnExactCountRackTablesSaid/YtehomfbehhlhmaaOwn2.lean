/-
  What the reference's l01Own2 computes: a copy of a list of lists.
  No condition but bounds on lengths.
-/
import Derived.Test.YtehomfbehhlhmaaOwn
import Derived.Test.YtehomfbehhlhmaaTabA
import Derived.Test.YtehomfbehhlhmaaHelpT
namespace Go.Proofs.Ytehomfbehhlhmaa
set_option maxRecDepth 100000
set_option linter.unusedVariables false
set_option linter.unusedSimpArgs false
open Go.RowKit

theorem tot_ge {xss : List (List Int)} {k : Nat} (h : k < xss.length) : xss[k].length ≤ tot xss := by
  unfold tot
  induction xss generalizing k with
  | nil => simp at h
  | cons x r ih =>
    simp only [List.map_cons, List.sum_cons]
    cases k with
    | zero => simp
    | succ k => have := ih (k := k) (by simpa using h); simp; omega

set_option maxHeartbeats 2000000 in
theorem l01Own2_any (a : Option Addr) (n c : Nat) (xss : List (List Int)) (w : World) (h : Tbl w a n xss) (hm : n ≤ 1000000) (hx : ∀ x ∈ xss, x.length ≤ 1000000) :
    Calls Try.prog 124 #[.slice a n c] w fun e w' => ∃ a' c' vs, e = .returned (.slice a' n c') ∧ OwnT w' w.heap.size a' n c' vs xss ∧ Below w.heap.size w w' := by
  have HL := Lib.hid h.len
  have HX := Lib.hid hx; clear hx
  go_enter Try.func124, Try.ntmps124
  go_wp2
  have hO := OwnT.fresh w rfl
  have hB := below_al (Below.refl w.heap.size w) (.cells #[] 22)
  go_loopw [3, 4] (fun z i wr => ∃ (k : Nat) (az : Option Addr) (cz : Nat) (vz : List SV), k ≤ n ∧ i = .int .i64 k ∧ z = .slice az k cz ∧ OwnT wr w.heap.size az k cz vz (xss.take k) ∧ Below w.heap.size w wr) (fun _ i _ => n - (intOf i).toNat)
  case atStart => exact ⟨0, _, 0, _, Nat.zero_le _, rfl, rfl, by simpa using hO, hB⟩
  case round =>
    clear hO hB
    obtain ⟨k, az, cz, vz, hk, rfl, rfl, ho, hb⟩ := hrel
    by_cases hlt : k < n
    · obtain ⟨b, off, ai, ni, ci, rfl, g1, hr, hni⟩ := (h.below hb).at k hlt
      have hxk : k < xss.length := by have := HL.out; omega
      rw [Tbl.getD hxk] at hr
      have hni2 : ni ≤ 1000000 := by have := hr.len; have := HX.out _ (List.getElem_mem hxk); omega
      have HT : Hid (xss.take (k + 1) = xss.take k ++ [xss[k]]) := Lib.hid (List.take_succ_eq_append_getElem hxk)
      generalize xss[k] = X at *
      go_wp2_with fail
      refine (l01Own_any _ _ _ X _ hr (by omega)).mono ?_
      rintro e w1 ⟨a1, c1, rfl, ho1, hb1⟩
      have hbb := hb.size
      have hz1 := ho.below hb1
      have hq1 := below_th hb hb1
      have hs1 := hb1.size
      go_wp2_with (at_builtin; refine appT1 rfl rfl hz1 rfl (ho1.mono hbb) (fun g h1 h2 => by have h3 := ho.high _ h1; have h4 := ho1.lo _ h2; omega) (fun i hi g h1 h2 => by have h3 := ho1.lo _ h1; have h4 := (ho.row i hi).hi _ h2; omega) rfl (by omega) (by omega) ?_; intro g' cc w2 hO hb2)
      go_roundw
      case rel => exact ⟨k + 1, _, _, _, by omega, by go_num, rfl, by rw [HT.out]; exact hO, hq1.trans hb2⟩
      case measure => simp [intOf]; omega
    · obtain rfl : k = n := by omega
      go_wp2
      go_ret
      refine ⟨_, _, vz, rfl, ?_, hb⟩
      rw [List.take_of_length_le (by have := HL.out; omega)] at ho
      exact ho

end Go.Proofs.Ytehomfbehhlhmaa
