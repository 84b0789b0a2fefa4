/-
  spec.l01Orbits for one permutation.
  No condition but bounds.
-/
import Derived.Test.YtehomfbehhlhmaaOrbS
namespace Go.Proofs.Ytehomfbehhlhmaa
set_option maxRecDepth 100000
set_option linter.unusedVariables false
set_option linter.unusedSimpArgs false
open Go.RowKit

set_option maxHeartbeats 4000000 in
theorem l01Orbits_any (n : Nat) (f g : Nat → Nat) (p : List Int) (tl : Option Addr) (tc : Nat) (w : World) (hn : n ≤ 1000) (hp : IsPf n p f g) (h1 : Tbl w tl 1 [p]) :
    Calls Try.prog 162 #[.int .i64 n, .slice tl 1 tc] w fun e w' => ∃ a c, e = .returned (.slice a n c) ∧ Own w' w.heap.size a n c (labF f n) ∧ Below w.heap.size w w' := by
  have HPf := Lib.hid hp
  obtain ⟨hpl, hpf, hpg⟩ := hp
  have HF := Lib.hid hpf
  have hinj : ∀ i j, i < n → j < n → f i = f j → i = j := fun i j hi hj e => by
    rw [← (hpf i hi).2.2.2, ← (hpf j hj).2.2.2, e]
  have HI := Lib.hid hinj
  clear hpl hpf hpg hinj
  go_enter Try.func162, Try.ntmps162
  go_wp2
  go_loopw [5, 6] (fun q i wr => ∃ (k : Nat) (a : Option Addr) (m c : Nat), k ≤ n ∧ q = .slice a m c ∧ i = .int .i64 k ∧ Own wr w.heap.size a m c (List.replicate k (-1)) ∧ Below w.heap.size w wr) (fun _ i _ => n - (intOf i).toNat)
  case atStart => exact ⟨0, _, 0, 0, Nat.zero_le _, rfl, rfl, Own.fresh w rfl, (Below.refl _ _).alloc (Nat.le_refl _) _⟩
  case round =>
    obtain ⟨k, a, m, c, hk, rfl, rfl, ho, hb⟩ := hrel
    obtain rfl : k = m := by have := ho.len; rw [List.length_replicate] at this; exact this.symm
    by_cases hlt : k < n
    · have hzz := hb.size
      go_wp2_with (at_builtin; refine app1 rfl rfl ho rfl rfl (by omega) hzz ?_; intro g' c' w' hO' hg' hs' hb'; clear hg')
      go_roundw
      case rel => exact ⟨k + 1, _, _, _, by omega, rfl, by go_num, by rw [List.replicate_succ']; exact hO', hb.trans hb'⟩
      case measure => simp [intOf]; omega
    · obtain rfl : k = n := by omega
      go_wp2
      go_loopw [7, 8] (fun v i wr => ∃ (s : Nat), s ≤ k ∧ v = .int .i64 ((labS f k s).2 : Nat) ∧ i = .int .i64 s ∧ Own wr w.heap.size a k c (labS f k s).1 ∧ Hid (Clo f k (labS f k s).1) ∧ Below w.heap.size w wr) (fun _ i _ => k - (intOf i).toNat)
      case atStart => exact ⟨0, Nat.zero_le _, rfl, rfl, ho, clo_zero f k (fun i hi => (HF.out i hi).1), hb⟩
      case round =>
        clear ho hb
        obtain ⟨s, hs, rfl, rfl, ho, hclo, hb⟩ := hrel
        have hnum := labS_num f k s
        have hlen := labS_len f k s
        by_cases hlt : s < k
        · obtain ⟨ga, oa, rfl, _⟩ := ho.row.at s hlt
          obtain ⟨rfl, hcc, hff⟩ := ho.cells
          have hcs := hcc s hlt
          clear hcc hff
          by_cases hz : 0 ≤ (labS f k s).1.getD s 0
          · have e : labS f k (s + 1) = labS f k s := by
              show (if _ then _ else _) = _
              rw [if_pos hz]
            have HE := Lib.hid e; clear e
            obtain ⟨Z, hZ⟩ : ∃ Z, Z = (labS f k s).1.getD s 0 := ⟨_, rfl⟩
            rw [← hZ] at hcs hz
            have hzb : decide (Z ≥ 0) = true := by simpa using hz
            have hzb' : (decide (0 ≤ Z)) = true := by simpa using hz
            clear hZ
            go_wp2
            go_roundw
            case rel => exact ⟨s + 1, by omega, by rw [HE.out], by go_num, by rw [HE.out]; exact ho, by rw [HE.out]; exact hclo, hb⟩
            case measure => simp [intOf]; omega
          · have e : labS f k (s + 1) = (setAll (labS f k s).1 (orbF f k s) (labS f k s).2, (labS f k s).2 + 1) := by
              show (if _ then _ else _) = _
              rw [if_neg hz]
            have HE := Lib.hid e; clear e
            obtain ⟨L0, hL0⟩ : ∃ L0, L0 = (labS f k s).1 := ⟨_, rfl⟩
            obtain ⟨N, hN⟩ : ∃ N, N = (labS f k s).2 := ⟨_, rfl⟩
            rw [← hL0] at ho hclo hlen hcs hz HE
            rw [← hN] at hnum HE ⊢
            clear hL0 hN
            obtain ⟨Z, hZ⟩ : ∃ Z, Z = L0.getD s 0 := ⟨_, rfl⟩
            rw [← hZ] at hcs hz
            have hzb : decide (Z ≥ 0) = false := by simpa using hz
            have hzb' : decide (0 ≤ Z) = false := by simpa using hz
            clear hZ
            have ht := h1.below hb
            obtain ⟨wr0, hwr0⟩ : ∃ wr0 : World, wr0 = wr := ⟨_, rfl⟩
            subst hwr0
            go_wp2_with fail
            refine (l01Orbit_any k f g p tl tc s _ hn HPf.out ht hlt).mono ?_
            rintro e w2 ⟨oa, oc, rfl, hO, ⟨l, rem, hOI, hfl⟩, hb2⟩
            have ho2 := ho.below hb2
            have hB2 := below_th hb hb2
            have hlt2 := ho.lt.2
            have hcl := hOI.closed hfl HI.out
            have HC := Lib.hid hcl
            have hclt := hOI.lt
            have HL := Lib.hid hclt
            have hle := hOI.le
            clear hcl hclt hOI hfl
            generalize orbF f k s = C at hO HE HC HL hle ⊢
            obtain ⟨M, hM⟩ : ∃ M, M = C.length := ⟨_, rfl⟩
            rw [← hM] at hO hle ⊢
            have HMM := Lib.hid hM; clear hM
            go_wp2
            go_loopw [10] (fun i wr => ∃ j : Nat, j ≤ M ∧ i = .int .i64 j ∧ Own wr w.heap.size (some ⟨ga, 0, none⟩) k c (setAll L0 (C.take j) N) ∧ Own wr wr0.heap.size oa M oc (natL C) ∧ Below w.heap.size w wr) (fun i _ => M - (intOf i).toNat)
            case atStart => exact ⟨0, Nat.zero_le _, rfl, by simpa [setAll] using ho2, hO, hB2⟩
            case round =>
              clear ho2 hO hB2 ho hb hcs
              obtain ⟨j, hj, rfl, ho, hO, hb⟩ := hrel
              by_cases hjt : j < M
              · have hx : j < C.length := by have := HMM.out; omega
                obtain ⟨go, oo, rfl, _⟩ := hO.row.at j hjt
                obtain ⟨rfl, hcc, _⟩ := hO.cells
                have g1 := hcc j hjt
                rw [natL_get C j hx] at g1
                have hck := HL.out C[j] (List.getElem_mem hx)
                have g2 := ho.cells.2.1 C[j] hck
                have g3 := ho.cells.2.2 C[j]
                have hne : ga ≠ go := by have := hO.lt.1; omega
                have hs2 := ho.set C[j] N
                rw [← setAll_snoc, ← List.take_succ_eq_append_getElem hx] at hs2
                have HS := Lib.hid hs2; clear hs2
                obtain ⟨X, hX⟩ : ∃ X, X = C[j] := ⟨_, rfl⟩
                rw [← hX] at g1 g2 g3 hck HS
                clear hcc hX
                have hga := ho.lt.1
                go_wp2
                go_roundw
                case rel => exact ⟨j + 1, by omega, by go_num, HS.out, hO.setne (p := ⟨ga, X, none⟩) (fun g1 hg1 => by cases hg1; exact fun e => hne e.symm) _, below_setne (a := ⟨ga, X, none⟩) hb hga _⟩
                case measure => simp [intOf]; omega
              · obtain rfl : j = M := by omega
                rw [List.take_of_length_le (by have := HMM.out; omega)] at ho
                go_wp2
                go_roundw
                case rel => exact ⟨s + 1, by omega, by rw [HE.out]; go_num, by go_num, by rw [HE.out]; exact ho, by rw [HE.out]; exact clo_step hclo hlen (fun i hi => (HF.out i hi).1) HC.out N, hb⟩
                case measure => simp [intOf]; omega
        · obtain rfl : s = k := by omega
          go_wp2
          go_ret
          exact ⟨_, _, rfl, ho, hb⟩

end Go.Proofs.Ytehomfbehhlhmaa
