/-
  impl.orbitLabels for one permutation.
  No condition but bounds.
-/
import Derived.Test.YtehomfbehhlhmaaOrbL
import Derived.Test.YtehomfbehhlhmaaQueue
import Derived.Test.YtehomfbehhlhmaaTab
namespace Go.Proofs.Ytehomfbehhlhmaa
set_option maxRecDepth 100000
set_option linter.unusedVariables false
set_option linter.unusedSimpArgs false
open Go.RowKit

theorem least_ex (P : Nat → Prop) (h : ∃ m, P m) : ∃ m, P m ∧ ∀ k, P k → m ≤ k := by
  obtain ⟨m, hm⟩ := h
  induction m using Nat.strongRecOn with
  | ind m ih =>
    by_cases hk : ∃ k, k < m ∧ P k
    · obtain ⟨k, hlt, hp⟩ := hk
      exact ih k hlt hp
    · exact ⟨m, hm, fun k hp => by
        by_cases h : m ≤ k
        · exact h
        · exact absurd ⟨k, by omega, hp⟩ hk⟩
/-- the least number with P: the measure of a loop whose invariant counts -/
noncomputable def least (P : Nat → Prop) : Nat := open Classical in if h : ∃ m, P m then Classical.choose (least_ex P h) else 0
theorem least_at {P : Nat → Prop} (h : ∃ m, P m) : P (least P) := by
  unfold least; rw [dif_pos h]; exact (Classical.choose_spec (least_ex P h)).1
theorem least_le {P : Nat → Prop} {m : Nat} (h : P m) : least P ≤ m := by
  unfold least; rw [dif_pos ⟨m, h⟩]; exact (Classical.choose_spec (least_ex P ⟨m, h⟩)).2 m h

def OrbQ (f : Nat → Nat) (n s : Nat) (L0 : List Int) (v : Nat) (w : World) (q : Value) (wr : World) (m : Nat) : Prop :=
  ∃ (g off qn qc : Nat) (xs : List Int) (c : List Nat) (l rem : Nat), m = rem + qn ∧ q = .slice (some ⟨g, off, none⟩) qn qc ∧ Que wr (w.heap.size + 1) g off qn qc xs ∧
    ((xs = [(l : Int)] ∧ qn = 1) ∨ (xs = [] ∧ qn = 0 ∧ f l ∈ c)) ∧ OrbI f n s c l rem ∧ (∀ u ∈ c, L0.getD u 0 < 0) ∧
    Own wr w.heap.size (some ⟨w.heap.size, 0, none⟩) n n (setAll L0 c v) ∧ Below w.heap.size w wr

/-- after the one permutation of the list -/
def OrbN (f : Nat → Nat) (n s : Nat) (L0 : List Int) (v : Nat) (w : World) (c : List Nat) (l : Nat) (q : Value) (wr : World) : Prop :=
  ∃ (g off qc : Nat), (f l ∈ c ∧ q = .slice (some ⟨g, off, none⟩) 1 qc ∧ Que wr (w.heap.size + 1) g off 1 qc [(l : Int)] ∧
    Own wr w.heap.size (some ⟨w.heap.size, 0, none⟩) n n (setAll L0 c v) ∧ Below w.heap.size w wr) ∨
   (f l ∉ c ∧ q = .slice (some ⟨g, off, none⟩) 2 qc ∧ Que wr (w.heap.size + 1) g off 2 qc [(l : Int), (f l : Int)] ∧
    Own wr w.heap.size (some ⟨w.heap.size, 0, none⟩) n n (setAll L0 (c ++ [f l]) v) ∧ Below w.heap.size w wr)

set_option maxHeartbeats 4000000 in
theorem orbitLabels_any (n : Nat) (f g : Nat → Nat) (p : List Int) (tl : Option Addr) (tc : Nat) (w : World) (hn : n ≤ 1000) (hp : IsPf n p f g) (h1 : Tbl w tl 1 [p]) :
    Calls Try.prog 144 #[.int .i64 n, .slice tl 1 tc] w fun e w' => ∃ a c, e = .returned (.slice a n c) ∧ Own w' w.heap.size a n c (labF f n) ∧ Below w.heap.size w w' := by
  obtain ⟨hpl, hpf, hpg⟩ := hp
  have HF := Lib.hid hpf
  have HG := Lib.hid hpg
  have HLn := Lib.hid hpl
  have hinj : ∀ i j, i < n → j < n → f i = f j → i = j := fun i j hi hj e => by
    rw [← (hpf i hi).2.2.2, ← (hpf j hj).2.2.2, e]
  have HI := Lib.hid hinj
  clear hpl hpf hpg hinj
  go_enter Try.func144, Try.ntmps144
  go_wp2_with (at_make; refine make1 rfl rfl rfl rfl (by omega) ?_; intro w1 ho hs hb)
  go_loopw [17] (fun i wr => ∃ (k : Nat), k ≤ n ∧ i = .int .i64 k ∧ Own wr w.heap.size (some ⟨w.heap.size, 0, none⟩) n n (List.replicate k (-1) ++ List.replicate (n - k) 0) ∧ Below w.heap.size w wr) (fun i _ => n - (intOf i).toNat)
  case atStart => exact ⟨0, Nat.zero_le _, rfl, by simpa using ho, hb⟩
  case round =>
    clear ho hb
    obtain ⟨k, hk, rfl, ho, hb⟩ := hrel
    by_cases hlt : k < n
    · have hs := ho.set k (-1)
      have e : (List.replicate k (-1 : Int) ++ List.replicate (n - k) 0).set k (-1) = List.replicate (k + 1) (-1) ++ List.replicate (n - (k + 1)) 0 := by
        rw [List.set_append_right _ _ (by simp), List.length_replicate, Nat.sub_self, List.replicate_succ', List.append_assoc]
        congr 1
        obtain ⟨m, hm⟩ : ∃ m, n - k = m + 1 := ⟨n - k - 1, by omega⟩
        have hm' : n - (k + 1) = m := by omega
        rw [hm, hm', List.replicate_succ]; rfl
      rw [e] at hs
      have hcf := ho.cells.2.2 k
      have hcc := ho.cells.2.1 k hlt
      have HS := Lib.hid hs; clear hs e
      go_wp2
      go_roundw
      case rel => exact ⟨k + 1, by omega, by go_num, HS.out, hb.setCell (by simp) _⟩
      case measure => simp [intOf]; omega
    · obtain rfl : k = n := by omega
      rw [Nat.sub_self, List.replicate_zero, List.append_nil] at ho
      go_wp2
      go_loopw [7, 26] (fun v i wr => ∃ (s : Nat), s ≤ k ∧ v = .int .i64 ((labS f k s).2 : Nat) ∧ i = .int .i64 s ∧ Own wr w.heap.size (some ⟨w.heap.size, 0, none⟩) k k (labS f k s).1 ∧ Hid (Clo f k (labS f k s).1) ∧ Below w.heap.size w wr) (fun _ i _ => k - (intOf i).toNat)
      case atStart => exact ⟨0, Nat.zero_le _, rfl, rfl, ho, clo_zero f k (fun i hi => (HF.out i hi).1), hb⟩
      case round =>
        clear ho hb
        obtain ⟨s, hs, rfl, rfl, ho, hclo, hb⟩ := hrel
        have hnum := labS_num f k s
        have hlen := labS_len f k s
        by_cases hlt : s < k
        · have hcs := ho.cells.2.1 s hlt
          have hfs := ho.cells.2.2 s
          by_cases hz : 0 ≤ (labS f k s).1.getD s 0
          · have e : labS f k (s + 1) = labS f k s := by
              show (if _ then _ else _) = _
              rw [if_pos hz]
            have HE := Lib.hid e; clear e
            obtain ⟨Z, hZ⟩ : ∃ Z, Z = (labS f k s).1.getD s 0 := ⟨_, rfl⟩
            rw [← hZ] at hcs hz
            have hzb : decide (Z ≥ 0) = true := by simpa using hz
            have hzb' : (decide (0 ≤ Z)) = true := by simpa using hz
            clear hZ
            go_wp2
            go_roundw
            case rel => exact ⟨s + 1, by omega, by rw [HE.out], by go_num, by rw [HE.out]; exact ho, by rw [HE.out]; exact hclo, hb⟩
            case measure => simp [intOf]; omega
          · have e : labS f k (s + 1) = (setAll (labS f k s).1 (orbF f k s) (labS f k s).2, (labS f k s).2 + 1) := by
              show (if _ then _ else _) = _
              rw [if_neg hz]
            have HE := Lib.hid e; clear e
            obtain ⟨L0, hL0⟩ : ∃ L0, L0 = (labS f k s).1 := ⟨_, rfl⟩
            obtain ⟨N, hN⟩ : ∃ N, N = (labS f k s).2 := ⟨_, rfl⟩
            rw [← hL0] at ho hclo hlen hcs hz HE
            rw [← hN] at hnum HE ⊢
            clear hL0 hN
            obtain ⟨Z, hZ⟩ : ∃ Z, Z = L0.getD s 0 := ⟨_, rfl⟩
            rw [← hZ] at hcs hz
            have ho1 := ho.set s N
            have hb1 : Below w.heap.size w (wr.setCell ⟨w.heap.size, s, none⟩ (.int .i64 N)) := hb.setCell (by simp) _
            have hzl : L0.getD s 0 < 0 := by omega
            have HZ := Lib.hid hzl
            have hzb : decide (Z ≥ 0) = false := by simpa using hz
            have hzb' : decide (0 ≤ Z) = false := by simpa using hz
            clear hZ hzl
            have hq := Que.one (w := wr.setCell ⟨w.heap.size, s, none⟩ (.int .i64 N)) (lo := w.heap.size + 1) (b := wr.heap.size) (x := s) (size_set _ _ _).symm (by have := ho.lt.2; omega)
            have hoq := ho1.alloc (.cells #[.int .i64 s] 2)
            have hbq := hb1.alloc (by rw [size_set]; exact hb.size) (.cells #[.int .i64 s] 2)
            clear ho1 hb1
            go_wp2
            skip
            go_loopw [9] (fun q wq => ∃ m, OrbQ f k s L0 N w q wq m) (fun q wq => least (OrbQ f k s L0 N w q wq))
            case atStart => exact ⟨k + 1, _, _, _, _, _, [s], s, k, rfl, rfl, hq, .inl ⟨rfl, rfl⟩, OrbI.start f hlt, fun u hu => by simp at hu; subst hu; exact HZ.out, hoq, hbq⟩
            case round =>
              clear ho hb hq hoq hbq hcs hfs
              obtain ⟨g0, off, qn, qc, xs, c, l, rem, hm, rfl, hque, hst, hOI, hneg, ho, hb⟩ := least_at hrel
              clear hrel
              have HM := Lib.hid hm; clear hm
              obtain ⟨wq, hwq⟩ : ∃ wq : World, wq = wr := ⟨_, rfl⟩
              subst hwq
              rcases hst with ⟨rfl, rfl⟩ | ⟨rfl, rfl, hfl⟩
              · have hlk := hOI.lt l hOI.lm
                have hflk := (HF.out l hlk).1
                obtain ⟨tb, toff, ai, ni, ci, rfl, g1, hri, hni⟩ := (h1.below hb).at 0 (by omega)
                have hri' : Row wq ai ni p := hri
                have hnk : ni = k := by have := hri'.len; have := HLn.out; omega
                obtain ⟨pb, poff, rfl, g2⟩ := hri'.at l (by omega)
                rw [HG.out l hlk] at g2
                have g3 := hque.cells 0 (by omega)
                have g3' : wq.cell? ⟨g0, off, none⟩ = some (.int .i64 l) := g3
                have g1' : wq.cell? ⟨tb, toff, none⟩ = some (.slice (some ⟨pb, poff, none⟩) ni ci) := g1
                have g4 := ho.cells.2.1 (f l) hflk
                have g5 := ho.cells.2.2 (f l)
                have hqc := hque.cap
                obtain ⟨X, hX⟩ : ∃ X, X = f l := ⟨_, rfl⟩
                rw [← hX] at g2 g4 g5 hflk
                have HX := Lib.hid hX; clear hX
                clear g3 hri hri'
                go_wp2
                go_loopw [9, 47] (fun q i wr => (i = .int .i64 0 ∧ q = .slice (some ⟨g0, off, none⟩) 1 qc ∧ wr = wq) ∨ (i = .int .i64 1 ∧ OrbN f k s L0 N w c l q wr)) (fun _ i _ => 1 - (intOf i).toNat)
                case atStart => exact .inl ⟨rfl, rfl, rfl⟩
                case round =>
                  rcases hrel with ⟨rfl, rfl, hw⟩ | ⟨rfl, hN⟩
                  · subst hw
                    by_cases hfc : X ∈ c
                    · rw [setAll_get c N X L0 (by omega), if_pos hfc] at g4
                      obtain ⟨V, hV⟩ : ∃ V : Int, V = (N : Int) := ⟨_, rfl⟩
                      rw [← hV] at g4
                      have hzb : decide (V < 0) = false := by simp; omega
                      clear hV
                      go_wp2
                      go_roundw
                      case rel => exact .inr ⟨by go_num, g0, off, qc, .inl ⟨by rw [← HX.out]; exact hfc, rfl, hque, ho, hb⟩⟩
                      case measure => simp [intOf]
                    · rw [setAll_get c N X L0 (by omega), if_neg hfc] at g4
                      have hzz : L0.getD X 0 < 0 := by rw [HX.out]; exact hclo l hlk (hneg l hOI.lm)
                      obtain ⟨Z, hZ⟩ : ∃ Z, Z = L0.getD X 0 := ⟨_, rfl⟩
                      rw [← hZ] at g4 hzz
                      have hzb : decide (Z < 0) = true := by simpa using hzz
                      clear hZ hzz
                      have hgne : g0 ≠ w.heap.size := by have := hque.lt.1; omega
                      have hq2 := hque.setne (a := ⟨w.heap.size, X, none⟩) hgne (.int .i64 N)
                      have ho2 := ho.set X N
                      rw [← setAll_snoc] at ho2
                      have hb2 := below_setne (a := ⟨w.heap.size, X, none⟩) hb (Nat.le_refl _) (.int .i64 N)
                      have hsz := hque.lt
                      go_wp2_with (at_builtin; refine appQ rfl rfl hq2 rfl (size_set _ _ _) rfl (by omega) (by rw [size_set]; omega) ?_; intro g' off' c' w' hQ' hg' hk' hb')
                      go_roundw
                      case rel =>
                        refine .inr ⟨by go_num, g', off', c', .inr ⟨by rw [← HX.out]; exact hfc, rfl, by rw [← HX.out]; exact hQ', ?_, ?_⟩⟩
                        · rw [← HX.out]
                          exact ho2.keep fun g1 hg1 hlt1 => hk' g1 hlt1 (by cases hg1; exact fun e => hgne e.symm)
                        · exact hb2.trans (hb'.mono (by omega))
                      case measure => simp [intOf]
                  · clear g1 g1' g2 g3' g4 g5 hque ho hb
                    obtain ⟨g', off', qc', ⟨hfc, rfl, hQ, ho, hb⟩ | ⟨hfc, rfl, hQ, ho, hb⟩⟩ := hN
                    · have hqc' := hQ.cap
                      obtain ⟨off2, hoff, hQ2⟩ := hQ.cut
                      have HO := Lib.hid hoff; clear hoff
                      have hq2 : OrbQ f k s L0 N w (.slice (some ⟨g', off2, none⟩) 0 (qc' - 1)) wr (rem + 0) := ⟨g', off2, 0, qc' - 1, [], c, l, rem, rfl, rfl, hQ2, .inr ⟨rfl, rfl, hfc⟩, hOI, hneg, ho, hb⟩
                      go_wp2
                      go_roundw
                      case rel => exact ⟨_, by rw [HO.out]; exact hq2⟩
                      case measure =>
                        have e1 := HM.out
                        have e2 := least_le hq2
                        rw [← HO.out] at e2
                        simp
                        omega
                    · have hqc' := hQ.cap
                      have hfl2 := (HF.out l hlk).1
                      have hOI2 := hOI.step hfc hfl2
                      have hle2 := hOI2.le
                      have hrm2 := hOI2.rm
                      have hrm := hOI.rm
                      rw [List.length_append, List.length_singleton] at hle2 hrm2
                      have hq2 : OrbQ f k s L0 N w (.slice (some ⟨g', off' + 1, none⟩) 1 (qc' - 1)) wr (rem - 1 + 1) := ⟨g', off' + 1, 1, qc' - 1, [(f l : Int)], c ++ [f l], f l, rem - 1, rfl, rfl, hQ.tail, .inl ⟨rfl, rfl⟩, hOI2, fun u hu => by
                        rcases List.mem_append.1 hu with hu | hu
                        · exact hneg u hu
                        · simp at hu; subst hu; exact hclo l hlk (hneg l hOI.lm), ho, hb⟩
                      have hqne : qc' ≠ 1 := by omega
                      go_wp2
                      go_roundw
                      case rel => exact ⟨_, hq2⟩
                      case measure =>
                        have e1 := HM.out
                        have e2 := least_le hq2
                        simp
                        omega
              · have e := hOI.stop hfl
                have hcl := hOI.closed hfl HI.out
                rw [e] at HE
                clear e
                go_wp2
                go_roundw
                case rel => exact ⟨s + 1, by omega, by rw [HE.out]; go_num, by go_num, by rw [HE.out]; exact ho, by rw [HE.out]; exact clo_step hclo hlen (fun i hi => (HF.out i hi).1) hcl N, hb⟩
                case measure => simp [intOf]; omega
        · obtain rfl : s = k := by omega
          go_wp2
          go_ret
          exact ⟨_, _, rfl, ho, hb⟩

end Go.Proofs.Ytehomfbehhlhmaa
