/-
  Walks and plain laws of this seat, some texts in one.
  No condition but bounds on lengths.
-/
import Derived.Test.YtkjpkdmnjbjjaaaGreatPk10
import Derived.Test.YtkjpkdmnjbjjaaaGreatPk1
import Derived.Test.YtkjpkdmnjbjjaaaGreatPk9
import Derived.Deep.RegionLaw
import Derived.Deep.RegionHeld3
import Derived.Test.YtkjpkdmnjbjjaaaGreatPk3
import Derived.Test.YtkjpkdmnjbjjaaaGreatPk8
import Derived.Test.YtkjpkdmnjbjjaaaGreatPk7
import Derived.Test.YtkjpkdmnjbjjaaaGreatPk4
namespace Go.Proofs.YtkjpkdmnjbjjaaaGreat
set_option maxRecDepth 100000
set_option linter.unusedVariables false
set_option linter.unusedSimpArgs false
open Go.RowKit
theorem least_ex (P : Nat → Prop) (h : ∃ m, P m) : ∃ m, P m ∧ ∀ k, P k → m ≤ k := by
  obtain ⟨m, hm⟩ := h
  induction m using Nat.strongRecOn with
  | ind m ih =>
    by_cases hk : ∃ k, k < m ∧ P k
    · obtain ⟨k, hlt, hp⟩ := hk
      exact ih k hlt hp
    · exact ⟨m, hm, fun k hp => by
        by_cases h : m ≤ k
        · exact h
        · exact absurd ⟨k, by omega, hp⟩ hk⟩
noncomputable def least (P : Nat → Prop) : Nat := open Classical in if h : ∃ m, P m then Classical.choose (least_ex P h) else 0
theorem least_at {P : Nat → Prop} (h : ∃ m, P m) : P (least P) := by
  unfold least; rw [dif_pos h]; exact (Classical.choose_spec (least_ex P h)).1
theorem least_le {P : Nat → Prop} {m : Nat} (h : P m) : least P ≤ m := by
  unfold least; rw [dif_pos ⟨m, h⟩]; exact (Classical.choose_spec (least_ex P ⟨m, h⟩)).2 m h
def OrbQ (f : Nat → Nat) (n s : Nat) (L0 : List Int) (v : Nat) (w : World) (q : Value) (wr : World) (m : Nat) : Prop :=
  ∃ (g off qn qc : Nat) (xs : List Int) (c : List Nat) (l rem : Nat), m = rem + qn ∧ q = .slice (some ⟨g, off, none⟩) qn qc ∧ Que wr (w.heap.size + 1) g off qn qc xs ∧
    ((xs = [(l : Int)] ∧ qn = 1) ∨ (xs = [] ∧ qn = 0 ∧ f l ∈ c)) ∧ OrbI f n s c l rem ∧ (∀ u ∈ c, L0.getD u 0 < 0) ∧
    Own wr w.heap.size (some ⟨w.heap.size, 0, none⟩) n n (setAll L0 c v) ∧ Below w.heap.size w wr
def OrbN (f : Nat → Nat) (n s : Nat) (L0 : List Int) (v : Nat) (w : World) (c : List Nat) (l : Nat) (q : Value) (wr : World) : Prop :=
  ∃ (g off qc : Nat), (f l ∈ c ∧ q = .slice (some ⟨g, off, none⟩) 1 qc ∧ Que wr (w.heap.size + 1) g off 1 qc [(l : Int)] ∧
    Own wr w.heap.size (some ⟨w.heap.size, 0, none⟩) n n (setAll L0 c v) ∧ Below w.heap.size w wr) ∨
   (f l ∉ c ∧ q = .slice (some ⟨g, off, none⟩) 2 qc ∧ Que wr (w.heap.size + 1) g off 2 qc [(l : Int), (f l : Int)] ∧
    Own wr w.heap.size (some ⟨w.heap.size, 0, none⟩) n n (setAll L0 (c ++ [f l]) v) ∧ Below w.heap.size w wr)
set_option maxHeartbeats 4000000 in
theorem orbitLabels_any (n : Nat) (f g : Nat → Nat) (p : List Int) (tl : Option Addr) (tc : Nat) (w : World) (hn : n ≤ 1000) (hp : IsPf n p f g) (h1 : Tbl w tl 1 [p]) :
    Calls Tryz.prog 162 #[.int .i64 n, .slice tl 1 tc] w fun e w' => ∃ a c, e = .returned (.slice a n c) ∧ Own w' w.heap.size a n c (labF f n) ∧ Below w.heap.size w w' := by
  obtain ⟨hpl, hpf, hpg⟩ := hp
  have HF := Lib.hid hpf
  have HG := Lib.hid hpg
  have HLn := Lib.hid hpl
  have hinj : ∀ i j, i < n → j < n → f i = f j → i = j := fun i j hi hj e => by
    rw [← (hpf i hi).2.2.2, ← (hpf j hj).2.2.2, e]
  have HI := Lib.hid hinj
  clear hpl hpf hpg hinj
  go_enter Tryz.func162, Tryz.ntmps162
  go_wp2_with (at_make; refine make1 rfl rfl rfl rfl (by omega) ?_; intro w1 ho hs hb)
  go_loopw [17] (fun i wr => ∃ (k : Nat), k ≤ n ∧ i = .int .i64 k ∧ Own wr w.heap.size (some ⟨w.heap.size, 0, none⟩) n n (List.replicate k (-1) ++ List.replicate (n - k) 0) ∧ Below w.heap.size w wr) (fun i _ => n - (intOf i).toNat)
  case atStart => exact ⟨0, Nat.zero_le _, rfl, by simpa using ho, hb⟩
  case round =>
    clear ho hb
    obtain ⟨k, hk, rfl, ho, hb⟩ := hrel
    by_cases hlt : k < n
    · have hs := ho.set k (-1)
      have e : (List.replicate k (-1 : Int) ++ List.replicate (n - k) 0).set k (-1) = List.replicate (k + 1) (-1) ++ List.replicate (n - (k + 1)) 0 := by
        rw [List.set_append_right _ _ (by simp), List.length_replicate, Nat.sub_self, List.replicate_succ', List.append_assoc]
        congr 1
        obtain ⟨m, hm⟩ : ∃ m, n - k = m + 1 := ⟨n - k - 1, by omega⟩
        have hm' : n - (k + 1) = m := by omega
        rw [hm, hm', List.replicate_succ]; rfl
      rw [e] at hs
      have hcf := ho.cells.2.2 k
      have hcc := ho.cells.2.1 k hlt
      have HS := Lib.hid hs; clear hs e
      go_wp2
      go_roundw
      case rel => exact ⟨k + 1, by omega, by go_num, HS.out, hb.setCell (by simp) _⟩
      case measure => simp [intOf]; omega
    · obtain rfl : k = n := by omega
      rw [Nat.sub_self, List.replicate_zero, List.append_nil] at ho
      go_wp2
      go_loopw [7, 26] (fun v i wr => ∃ (s : Nat), s ≤ k ∧ v = .int .i64 ((labS f k s).2 : Nat) ∧ i = .int .i64 s ∧ Own wr w.heap.size (some ⟨w.heap.size, 0, none⟩) k k (labS f k s).1 ∧ Hid (Clo f k (labS f k s).1) ∧ Below w.heap.size w wr) (fun _ i _ => k - (intOf i).toNat)
      case atStart => exact ⟨0, Nat.zero_le _, rfl, rfl, ho, clo_zero f k (fun i hi => (HF.out i hi).1), hb⟩
      case round =>
        clear ho hb
        obtain ⟨s, hs, rfl, rfl, ho, hclo, hb⟩ := hrel
        have hnum := labS_num f k s
        have hlen := labS_len f k s
        by_cases hlt : s < k
        · have hcs := ho.cells.2.1 s hlt
          have hfs := ho.cells.2.2 s
          by_cases hz : 0 ≤ (labS f k s).1.getD s 0
          · have e : labS f k (s + 1) = labS f k s := by
              show (if _ then _ else _) = _
              rw [if_pos hz]
            have HE := Lib.hid e; clear e
            obtain ⟨Z, hZ⟩ : ∃ Z, Z = (labS f k s).1.getD s 0 := ⟨_, rfl⟩
            rw [← hZ] at hcs hz
            have hzb : decide (Z ≥ 0) = true := by simpa using hz
            have hzb' : (decide (0 ≤ Z)) = true := by simpa using hz
            clear hZ
            go_wp2
            go_roundw
            case rel => exact ⟨s + 1, by omega, by rw [HE.out], by go_num, by rw [HE.out]; exact ho, by rw [HE.out]; exact hclo, hb⟩
            case measure => simp [intOf]; omega
          · have e : labS f k (s + 1) = (setAll (labS f k s).1 (orbF f k s) (labS f k s).2, (labS f k s).2 + 1) := by
              show (if _ then _ else _) = _
              rw [if_neg hz]
            have HE := Lib.hid e; clear e
            obtain ⟨L0, hL0⟩ : ∃ L0, L0 = (labS f k s).1 := ⟨_, rfl⟩
            obtain ⟨N, hN⟩ : ∃ N, N = (labS f k s).2 := ⟨_, rfl⟩
            rw [← hL0] at ho hclo hlen hcs hz HE
            rw [← hN] at hnum HE ⊢
            clear hL0 hN
            obtain ⟨Z, hZ⟩ : ∃ Z, Z = L0.getD s 0 := ⟨_, rfl⟩
            rw [← hZ] at hcs hz
            have ho1 := ho.set s N
            have hb1 : Below w.heap.size w (wr.setCell ⟨w.heap.size, s, none⟩ (.int .i64 N)) := hb.setCell (by simp) _
            have hzl : L0.getD s 0 < 0 := by omega
            have HZ := Lib.hid hzl
            have hzb : decide (Z ≥ 0) = false := by simpa using hz
            have hzb' : decide (0 ≤ Z) = false := by simpa using hz
            clear hZ hzl
            have hq := Que.one (w := wr.setCell ⟨w.heap.size, s, none⟩ (.int .i64 N)) (lo := w.heap.size + 1) (b := wr.heap.size) (x := s) (size_set _ _ _).symm (by have := ho.lt.2; omega)
            have hoq := ho1.alloc (.cells #[.int .i64 s] 2)
            have hbq := hb1.alloc (by rw [size_set]; exact hb.size) (.cells #[.int .i64 s] 2)
            clear ho1 hb1
            go_wp2
            skip
            go_loopw [9] (fun q wq => ∃ m, OrbQ f k s L0 N w q wq m) (fun q wq => least (OrbQ f k s L0 N w q wq))
            case atStart => exact ⟨k + 1, _, _, _, _, _, [s], s, k, rfl, rfl, hq, .inl ⟨rfl, rfl⟩, OrbI.start f hlt, fun u hu => by simp at hu; subst hu; exact HZ.out, hoq, hbq⟩
            case round =>
              clear ho hb hq hoq hbq hcs hfs
              obtain ⟨g0, off, qn, qc, xs, c, l, rem, hm, rfl, hque, hst, hOI, hneg, ho, hb⟩ := least_at hrel
              clear hrel
              have HM := Lib.hid hm; clear hm
              obtain ⟨wq, hwq⟩ : ∃ wq : World, wq = wr := ⟨_, rfl⟩
              subst hwq
              rcases hst with ⟨rfl, rfl⟩ | ⟨rfl, rfl, hfl⟩
              · have hlk := hOI.lt l hOI.lm
                have hflk := (HF.out l hlk).1
                obtain ⟨tb, toff, ai, ni, ci, rfl, g1, hri, hni⟩ := (h1.below hb).at 0 (by omega)
                have hri' : Row wq ai ni p := hri
                have hnk : ni = k := by have := hri'.len; have := HLn.out; omega
                obtain ⟨pb, poff, rfl, g2⟩ := hri'.at l (by omega)
                rw [HG.out l hlk] at g2
                have g3 := hque.cells 0 (by omega)
                have g3' : wq.cell? ⟨g0, off, none⟩ = some (.int .i64 l) := g3
                have g1' : wq.cell? ⟨tb, toff, none⟩ = some (.slice (some ⟨pb, poff, none⟩) ni ci) := g1
                have g4 := ho.cells.2.1 (f l) hflk
                have g5 := ho.cells.2.2 (f l)
                have hqc := hque.cap
                obtain ⟨X, hX⟩ : ∃ X, X = f l := ⟨_, rfl⟩
                rw [← hX] at g2 g4 g5 hflk
                have HX := Lib.hid hX; clear hX
                clear g3 hri hri'
                go_wp2
                go_loopw [9, 47] (fun q i wr => (i = .int .i64 0 ∧ q = .slice (some ⟨g0, off, none⟩) 1 qc ∧ wr = wq) ∨ (i = .int .i64 1 ∧ OrbN f k s L0 N w c l q wr)) (fun _ i _ => 1 - (intOf i).toNat)
                case atStart => exact .inl ⟨rfl, rfl, rfl⟩
                case round =>
                  rcases hrel with ⟨rfl, rfl, hw⟩ | ⟨rfl, hN⟩
                  · subst hw
                    by_cases hfc : X ∈ c
                    · rw [setAll_get c N X L0 (by omega), if_pos hfc] at g4
                      obtain ⟨V, hV⟩ : ∃ V : Int, V = (N : Int) := ⟨_, rfl⟩
                      rw [← hV] at g4
                      have hzb : decide (V < 0) = false := by simp; omega
                      clear hV
                      go_wp2
                      go_roundw
                      case rel => exact .inr ⟨by go_num, g0, off, qc, .inl ⟨by rw [← HX.out]; exact hfc, rfl, hque, ho, hb⟩⟩
                      case measure => simp [intOf]
                    · rw [setAll_get c N X L0 (by omega), if_neg hfc] at g4
                      have hzz : L0.getD X 0 < 0 := by rw [HX.out]; exact hclo l hlk (hneg l hOI.lm)
                      obtain ⟨Z, hZ⟩ : ∃ Z, Z = L0.getD X 0 := ⟨_, rfl⟩
                      rw [← hZ] at g4 hzz
                      have hzb : decide (Z < 0) = true := by simpa using hzz
                      clear hZ hzz
                      have hgne : g0 ≠ w.heap.size := by have := hque.lt.1; omega
                      have hq2 := hque.setne (a := ⟨w.heap.size, X, none⟩) hgne (.int .i64 N)
                      have ho2 := ho.set X N
                      rw [← setAll_snoc] at ho2
                      have hb2 := below_setne (a := ⟨w.heap.size, X, none⟩) hb (Nat.le_refl _) (.int .i64 N)
                      have hsz := hque.lt
                      go_wp2_with (at_builtin; refine appQu rfl rfl hq2 rfl (size_set _ _ _) rfl (by omega) (by rw [size_set]; omega) ?_; intro g' off' c' w' hQ' hg' hk' hb')
                      go_roundw
                      case rel =>
                        refine .inr ⟨by go_num, g', off', c', .inr ⟨by rw [← HX.out]; exact hfc, rfl, by rw [← HX.out]; exact hQ', ?_, ?_⟩⟩
                        · rw [← HX.out]
                          exact ho2.keep fun g1 hg1 hlt1 => hk' g1 hlt1 (by cases hg1; exact fun e => hgne e.symm)
                        · exact hb2.trans (hb'.mono (by omega))
                      case measure => simp [intOf]
                  · clear g1 g1' g2 g3' g4 g5 hque ho hb
                    obtain ⟨g', off', qc', ⟨hfc, rfl, hQ, ho, hb⟩ | ⟨hfc, rfl, hQ, ho, hb⟩⟩ := hN
                    · have hqc' := hQ.cap
                      obtain ⟨off2, hoff, hQ2⟩ := hQ.cut
                      have HO := Lib.hid hoff; clear hoff
                      have hq2 : OrbQ f k s L0 N w (.slice (some ⟨g', off2, none⟩) 0 (qc' - 1)) wr (rem + 0) := ⟨g', off2, 0, qc' - 1, [], c, l, rem, rfl, rfl, hQ2, .inr ⟨rfl, rfl, hfc⟩, hOI, hneg, ho, hb⟩
                      go_wp2
                      go_roundw
                      case rel => exact ⟨_, by rw [HO.out]; exact hq2⟩
                      case measure =>
                        have e1 := HM.out
                        have e2 := least_le hq2
                        rw [← HO.out] at e2
                        simp
                        omega
                    · have hqc' := hQ.cap
                      have hfl2 := (HF.out l hlk).1
                      have hOI2 := hOI.step hfc hfl2
                      have hle2 := hOI2.le
                      have hrm2 := hOI2.rm
                      have hrm := hOI.rm
                      rw [List.length_append, List.length_singleton] at hle2 hrm2
                      have hq2 : OrbQ f k s L0 N w (.slice (some ⟨g', off' + 1, none⟩) 1 (qc' - 1)) wr (rem - 1 + 1) := ⟨g', off' + 1, 1, qc' - 1, [(f l : Int)], c ++ [f l], f l, rem - 1, rfl, rfl, hQ.tail, .inl ⟨rfl, rfl⟩, hOI2, fun u hu => by
                        rcases List.mem_append.1 hu with hu | hu
                        · exact hneg u hu
                        · simp at hu; subst hu; exact hclo l hlk (hneg l hOI.lm), ho, hb⟩
                      have hqne : qc' ≠ 1 := by omega
                      go_wp2
                      go_roundw
                      case rel => exact ⟨_, hq2⟩
                      case measure =>
                        have e1 := HM.out
                        have e2 := least_le hq2
                        simp
                        omega
              · have e := hOI.stop hfl
                have hcl := hOI.closed hfl HI.out
                rw [e] at HE
                clear e
                go_wp2
                go_roundw
                case rel => exact ⟨s + 1, by omega, by rw [HE.out]; go_num, by go_num, by rw [HE.out]; exact ho, by rw [HE.out]; exact clo_step hclo hlen (fun i hi => (HF.out i hi).1) hcl N, hb⟩
                case measure => simp [intOf]; omega
        · obtain rfl : s = k := by omega
          go_wp2
          go_ret
          exact ⟨_, _, rfl, ho, hb⟩
end Go.Proofs.YtkjpkdmnjbjjaaaGreat

namespace Go.Proofs.YtkjpkdmnjbjjaaaGreat
set_option maxRecDepth 100000
set_option linter.unusedVariables false
set_option linter.unusedSimpArgs false
open Go.RowKit
theorem IsP.own {n : Nat} {p : List Int} (h : IsP n p) : ∃ g, IsPf n p (fun i => (p.getD i 0).toNat) g := by
  obtain ⟨f, g, hl, h1, h2⟩ := h
  have e : ∀ i, i < n → (p.getD i 0).toNat = f i := fun i hi => by rw [h2 i hi]; simp
  refine ⟨g, hl, fun i hi => ?_, fun i hi => ?_⟩
  · have hh := h1 i hi
    refine ⟨by show (p.getD i 0).toNat < n; rw [e i hi]; exact hh.1, hh.2.1, ?_, ?_⟩
    · show (p.getD (g i) 0).toNat = i
      rw [e _ hh.2.1]; exact hh.2.2.1
    · show g ((p.getD i 0).toNat) = i
      rw [e i hi]; exact hh.2.2.2
  · show _ = (((p.getD i 0).toNat : Nat) : Int)
    rw [e i hi]; exact h2 i hi
def compL (s : Nat) (xs : List Int) : List Int := labF (fun i => ((brP s xs).getD i 0).toNat) s
theorem compL_len (s : Nat) (xs : List Int) : (compL s xs).length = s := labS_len _ _ _
theorem Tbl.single {w : World} {a : Option Addr} {n c b : Nat} {xs : List Int} {t : TypeId} (h : Row w a n xs) (hn : n ≤ 9223372036854775807) (hb : b = w.heap.size) : Tbl (w.alloc (.cells #[.slice a n c] t)) (some ⟨b, 0, none⟩) 1 [xs] :=
by
  refine ⟨rfl, fun i hi => ?_⟩
  have e : i = 0 := by omega
  subst e
  have hL := Loc.new w hb #[.slice a n c] t
  exact ⟨b, 0, a, n, c, rfl, hL.lt, hL.one.1, h.alloc _, hn⟩
set_option maxHeartbeats 1000000 in
theorem componentsOf_any (s : Nat) (a : Option Addr) (n c : Nat) (xs : List Int) (w : World) (h1 : Row w a n xs) (hb : isBr s xs = true) :
    Calls Tryz.prog 89 #[bAgg s a n c] w fun e w' => ∃ a' c', e = .returned (.slice a' s c') ∧ Own w' w.heap.size a' s c' (compL s xs) ∧ Below w.heap.size w w' := by
  obtain ⟨h26, h30, hlet⟩ := isBr_let hb
  obtain ⟨g, hpf⟩ := (brP_isP s xs (fun x hx => plc_let (hlet x hx))).own
  have HLet := Lib.hid hlet; clear hlet
  have HP := Lib.hid hpf; clear hpf
  have HB := Lib.hid hb; clear hb
  have hs6 : s ≤ 6 := by omega
  go_enter Tryz.func89, Tryz.ntmps89
  have hA := Loc.new w rfl #[.int .i64 s, .slice a n c] 42
  have lA := hA.two
  have hr := h1.alloc (.cells #[.int .i64 s, .slice a n c] 42)
  have hB := below_al (Below.refl w.heap.size w) (.cells #[.int .i64 s, .slice a n c] 42)
  go_wp2
  go_region_held3 (fun w' => w'.cell? ⟨w.heap.size, 0, none⟩ = some (.int .i64 s) ∧ w'.cell? ⟨w.heap.size, 1, none⟩ = some (.slice a n c))
    (first | exact ⟨lA3.1, lA3.2.1⟩ | exact ⟨lA2.1, lA2.2.1⟩ | exact ⟨lA.1, lA.2.1⟩ | go_keep)
    (first
    | (go_at_call 163; refine (braidPermutation_any s _ _ _ xs _ (hr.drewN 1) HB.out).mono ?_; rintro e w2 ⟨a2, c2, rfl, ho2, hb2⟩; have hA2 := (hA.drewN 1).below hb2 (by simp); have lA2 := hA2.two; have hB2 := below_th (below_drewN hB 1) hb2)
    | (go_at_call 162; refine (orbitLabels_any s _ g (brP s xs) _ _ _ (by omega) HP.out (Tbl.single ho2.row (by omega) rfl)).mono ?_; rintro e w3 ⟨a3, c3, rfl, ho3, hb3⟩; have hA3 := (hA2.alloc _).below hb3 (by have := hA2.lt; simp; omega); have lA3 := hA3.two; have hB3 := below_alth hB2 hb3))
  all_goals
    go_wp2
    go_ret
    exact ⟨_, _, rfl, ho3.mono (by have := hB2.size; simp; omega), hB3⟩
end Go.Proofs.YtkjpkdmnjbjjaaaGreat

namespace Go.Proofs.YtkjpkdmnjbjjaaaGreat
set_option linter.unusedVariables false
set_option linter.unusedSimpArgs false
/-! ### tables by a function, one value of which turns -/
def updF (v : Nat → Nat → Int) (a b : Nat) (z : Int) : Nat → Nat → Int := fun x y => if x = a ∧ y = b then z else v x y
theorem tabF_row {n : Nat} {v : Nat → Nat → Int} {x : Nat} (h : x < n) : (tabF n v).getD x [] = (List.range n).map fun y => v x y := tabF_get n v x h
theorem tabF_val {n : Nat} {v : Nat → Nat → Int} {x y : Nat} (hx : x < n) (hy : y < n) : ((tabF n v).getD x []).getD y 0 = v x y := by
  rw [tabF_row hx]; simp [List.getD_eq_getElem?_getD, List.getElem?_map, hy]
theorem tabF_congr {n : Nat} {u v : Nat → Nat → Int} (h : ∀ x y, x < n → y < n → u x y = v x y) : tabF n u = tabF n v := by
  unfold tabF
  apply List.map_congr_left
  intro x hx
  apply List.map_congr_left
  intro y hy
  exact h x y (List.mem_range.1 hx) (List.mem_range.1 hy)
theorem tabF_upd {n : Nat} {v : Nat → Nat → Int} {a b : Nat} (ha : a < n) (hb : b < n) (z : Int) : (tabF n v).set a (((tabF n v).getD a []).set b z) = tabF n (updF v a b z) := by
  apply List.ext_getElem
  · simp [tabF]
  · intro i h1 h2
    have hi : i < n := by simpa [tabF] using h2
    have e2 : (tabF n (updF v a b z))[i] = (List.range n).map fun y => updF v a b z i y := by simp [tabF]
    rw [e2, List.getElem_set]
    by_cases e : a = i
    · subst e
      rw [if_pos rfl, tabF_row ha]
      apply List.ext_getElem
      · simp
      · intro j g1 g2
        have hj : j < n := by simpa using g2
        rw [List.getElem_set]
        by_cases e : b = j
        · subst e; simp [updF]
        · rw [if_neg e]; simp [updF, fun h => e (Eq.symm h)]
          intro h; exact absurd h.symm e
    · rw [if_neg e]
      have : (tabF n v)[i]'(by simpa [tabF] using hi) = (List.range n).map fun y => v i y := by simp [tabF]
      rw [this]
      apply List.map_congr_left
      intro y hy
      simp [updF, fun h => e (Eq.symm h)]
      intro h; exact absurd h.symm e
/-! ### labels are numbers of at least 0, and the greatest of them -/
theorem orbN_sub (f : Nat → Nat) (m : Nat) : ∀ (c : List Nat) (y x : Nat), x ∈ c → x ∈ orbN f m c y := by
  induction m with
  | zero => intro c y x h; exact h
  | succ m ih =>
    intro c y x h
    unfold orbN
    split
    · exact h
    · exact ih _ _ _ (List.mem_append_left _ h)
theorem orbF_mem (f : Nat → Nat) (n x : Nat) : x ∈ orbF f n x := orbN_sub f n _ _ _ (List.mem_singleton.2 rfl)
theorem labS_all (f : Nat → Nat) (n : Nat) : ∀ s, s ≤ n → ∀ i, i < n → (i < s → 0 ≤ (labS f n s).1.getD i 0) ∧ (labS f n s).1.getD i 0 < (labS f n s).2 ∧ -1 ≤ (labS f n s).1.getD i 0 := by
  intro s
  induction s with
  | zero =>
    intro _ i hi
    refine ⟨fun h => absurd h (by omega), ?_, ?_⟩ <;> simp [labS, List.getD_eq_getElem?_getD, List.getElem?_replicate, hi]
  | succ s ih =>
    intro hs i hi
    have h := ih (by omega) i hi
    have hl := labS_len f n s
    unfold labS
    split
    · rename_i h0
      refine ⟨fun hlt => ?_, h.2⟩
      by_cases e : i = s
      · subst e; exact h0
      · exact h.1 (by omega)
    · simp only
      rw [setAll_get _ _ i _ (by omega)]
      by_cases hm : i ∈ orbF f n s
      · rw [if_pos hm]
        refine ⟨fun _ => by omega, by omega, by omega⟩
      · rw [if_neg hm]
        refine ⟨fun hlt => ?_, by have := h.2.1; omega, h.2.2⟩
        by_cases e : i = s
        · subst e; exact absurd (orbF_mem f n i) hm
        · exact h.1 (by omega)
theorem compL_get (s : Nat) (xs : List Int) (i : Nat) (h : i < s) : 0 ≤ (compL s xs).getD i 0 ∧ (compL s xs).getD i 0 < s := by
  have h1 := labS_all (fun i => ((brP s xs).getD i 0).toNat) s s (Nat.le_refl _) i h
  have h2 := labS_num (fun i => ((brP s xs).getD i 0).toNat) s s
  exact ⟨h1.1 h, by have := h1.2.1; unfold compL labF; omega⟩
def grtL (L : List Int) : Int := L.foldl (fun m x => if m ≤ x then x + 1 else m) 0
theorem grtL_take {L : List Int} {k : Nat} (h : k < L.length) : grtL (L.take (k + 1)) = if grtL (L.take k) ≤ L.getD k 0 then L.getD k 0 + 1 else grtL (L.take k) := by
  unfold grtL
  rw [List.take_succ_eq_append_getElem h, List.foldl_append]
  simp [List.getD_eq_getElem?_getD, List.getElem?_eq_getElem h]
theorem grtL_spec (L : List Int) (h0 : ∀ x ∈ L, 0 ≤ x) : 0 ≤ grtL L ∧ (∀ x ∈ L, x < grtL L) ∧ (grtL L = 0 ∨ grtL L - 1 ∈ L) := by
  have : ∀ (L : List Int) (m : Int), 0 ≤ m → (∀ x ∈ L, 0 ≤ x) → m ≤ L.foldl (fun m x => if m ≤ x then x + 1 else m) m ∧ (∀ x ∈ L, x < L.foldl (fun m x => if m ≤ x then x + 1 else m) m) ∧ (L.foldl (fun m x => if m ≤ x then x + 1 else m) m = m ∨ L.foldl (fun m x => if m ≤ x then x + 1 else m) m - 1 ∈ L) := by
    intro L
    induction L with
    | nil => intro m hm _; exact ⟨Int.le_refl _, fun x hx => absurd hx (by simp), .inl rfl⟩
    | cons y r ih =>
      intro m hm hx
      rw [List.foldl_cons]
      have hy := hx y (List.mem_cons_self ..)
      by_cases e : m ≤ y
      · rw [if_pos e]
        obtain ⟨h1, h2, h3⟩ := ih (y + 1) (by omega) (fun x hxr => hx x (List.mem_cons_of_mem _ hxr))
        refine ⟨by omega, fun x hxx => ?_, ?_⟩
        · rcases List.mem_cons.1 hxx with rfl | hxx
          · omega
          · exact h2 x hxx
        · rcases h3 with h3 | h3
          · right; rw [h3]; simp
          · right; exact List.mem_cons_of_mem _ h3
      · rw [if_neg e]
        obtain ⟨h1, h2, h3⟩ := ih m hm (fun x hxr => hx x (List.mem_cons_of_mem _ hxr))
        refine ⟨h1, fun x hxx => ?_, ?_⟩
        · rcases List.mem_cons.1 hxx with rfl | hxx
          · omega
          · exact h2 x hxx
        · rcases h3 with h3 | h3
          · left; exact h3
          · right; exact List.mem_cons_of_mem _ h3
  exact this L 0 (by omega) h0
theorem grtL_max {L : List Int} {M : Int} (h0 : ∀ x ∈ L, 0 ≤ x) (hM : M ∈ L) (h1 : ∀ x ∈ L, x ≤ M) : M + 1 = grtL L := by
  obtain ⟨a, b, c⟩ := grtL_spec L h0
  have h2 := b M hM
  rcases c with c | c
  · have := h0 M hM; omega
  · have := h1 _ c; omega
def ncL (s : Nat) (xs : List Int) : Nat := (grtL (compL s xs)).toNat
theorem compL_nn (s : Nat) (xs : List Int) : ∀ x ∈ compL s xs, 0 ≤ x := fun x hx => by
  obtain ⟨i, hi, rfl⟩ := List.getElem_of_mem hx
  have := compL_get s xs i (by rw [compL_len] at hi; exact hi)
  rw [getD_at hi] at this
  exact this.1
theorem ncL_cast (s : Nat) (xs : List Int) : ((ncL s xs : Nat) : Int) = grtL (compL s xs) := by
  have := (grtL_spec _ (compL_nn s xs)).1
  unfold ncL; omega
theorem ncL_le (s : Nat) (xs : List Int) : ncL s xs ≤ s := by
  obtain ⟨a, b, c⟩ := grtL_spec _ (compL_nn s xs)
  rcases c with c | c
  · unfold ncL; omega
  · obtain ⟨i, hi, e⟩ := List.getElem_of_mem c
    have := compL_get s xs i (by rw [compL_len] at hi; exact hi)
    rw [getD_at hi, e] at this
    unfold ncL; omega
theorem compL_lab (s : Nat) (xs : List Int) (i : Nat) (h : i < s) : ∃ a, a < ncL s xs ∧ (compL s xs).getD i 0 = ((a : Nat) : Int) := by
  have h1 := compL_get s xs i h
  have hi : i < (compL s xs).length := by rw [compL_len]; exact h
  have h2 := (grtL_spec _ (compL_nn s xs)).2.1 _ (List.getElem_mem hi)
  rw [← getD_at hi, ← ncL_cast] at h2
  exact ⟨((compL s xs).getD i 0).toNat, by omega, by omega⟩
/-! ### the numbers -/
def labN (s : Nat) (xs : List Int) (i : Nat) : Nat := ((compL s xs).getD i 0).toNat
theorem labN_lt (s : Nat) (xs : List Int) (i : Nat) (h : i < s) : labN s xs i < ncL s xs ∧ (compL s xs).getD i 0 = ((labN s xs i : Nat) : Int) := by
  obtain ⟨a, h1, h2⟩ := compL_lab s xs i h
  unfold labN
  rw [h2]; simp; exact h1
def atK (s : Nat) (xs : List Int) (k j : Nat) : Nat := ((strd s (xs.take k)).getD j 0).toNat
def addV (v : Nat → Nat → Int) (a b : Nat) (z : Int) : Nat → Nat → Int := if a = b then updF v a b (v a b + z) else updF (updF v a b (v a b + z)) b a (v b a + z)
def lnkV (s : Nat) (xs : List Int) : Nat → Nat → Nat → Int
  | 0 => fun _ _ => 0
  | k + 1 => addV (lnkV s xs k) (labN s xs (atK s xs k (plc (xs.getD k 0)).toNat)) (labN s xs (atK s xs k ((plc (xs.getD k 0)).toNat + 1))) (sgn (xs.getD k 0))
theorem sgn_bd (x : Int) : -1 ≤ sgn x ∧ sgn x ≤ 1 := by unfold sgn; split <;> omega
theorem addV_bd {v : Nat → Nat → Int} {a b : Nat} {z : Int} {K : Nat} (h : ∀ x y, -(K : Int) ≤ v x y ∧ v x y ≤ K) (hz : -1 ≤ z ∧ z ≤ 1) (x y : Nat) : -((K + 1 : Nat) : Int) ≤ addV v a b z x y ∧ addV v a b z x y ≤ ((K + 1 : Nat) : Int) := by
  have h1 := h x y
  have h2 := h a b
  have h3 := h b a
  unfold addV updF
  split
  · simp only; split <;> omega
  · simp only; split
    · omega
    · split <;> omega
theorem lnkV_bd (s : Nat) (xs : List Int) (k : Nat) : ∀ x y, -(k : Int) ≤ lnkV s xs k x y ∧ lnkV s xs k x y ≤ k := by
  induction k with
  | zero => intro x y; simp [lnkV]
  | succ k ih => intro x y; exact addV_bd ih (sgn_bd _) x y
def halV (v : Nat → Nat → Int) : Nat → Nat → Int := fun x y => if x = y then v x y else (v x y).tdiv 2
def halP (v : Nat → Nat → Int) (p q : Nat) : Nat → Nat → Int := fun x y => if x < p ∨ (x = p ∧ y < q) then halV v x y else v x y
theorem halP_zero (v : Nat → Nat → Int) : halP v 0 0 = v := by funext x y; unfold halP; rw [if_neg (by omega)]
theorem halP_step {v : Nat → Nat → Int} {p q : Nat} (h : p ≠ q) : updF (halP v p q) p q ((v p q).tdiv 2) = halP v p (q + 1) := by
  funext x y
  unfold updF halP
  by_cases e : x = p ∧ y = q
  · obtain ⟨rfl, rfl⟩ := e
    rw [if_pos ⟨rfl, rfl⟩, if_pos (.inr ⟨rfl, by omega⟩)]
    unfold halV
    rw [if_neg h]
  · rw [if_neg e]
    by_cases g : x < p ∨ (x = p ∧ y < q)
    · rw [if_pos g, if_pos (by omega)]
    · rw [if_neg g, if_neg (by omega)]
theorem halP_same {v : Nat → Nat → Int} {p : Nat} : halP v p p = halP v p (p + 1) := by
  funext x y
  unfold halP
  by_cases e : x = p ∧ y = p
  · obtain ⟨rfl, rfl⟩ := e
    rw [if_neg (by omega), if_pos (.inr ⟨rfl, by omega⟩)]
    unfold halV
    rw [if_pos rfl]
  · by_cases g : x < p ∨ (x = p ∧ y < p)
    · rw [if_pos g, if_pos (by omega)]
    · rw [if_neg g, if_neg (by omega)]
theorem halP_at {v : Nat → Nat → Int} {p q : Nat} : halP v p q p q = v p q := by unfold halP; rw [if_neg (by omega)]
theorem halP_next {n : Nat} {v : Nat → Nat → Int} {p : Nat} : tabF n (halP v p n) = tabF n (halP v (p + 1) 0) := tabF_congr fun x y hx hy => by
  unfold halP
  by_cases g : x < p ∨ (x = p ∧ y < n)
  · rw [if_pos g, if_pos (by omega)]
  · rw [if_neg g, if_neg (by omega)]
theorem halP_all {n : Nat} {v : Nat → Nat → Int} : tabF n (halP v n 0) = tabF n (halV v) := tabF_congr fun x y hx hy => by unfold halP; rw [if_pos (.inl hx)]
def lnkF (s : Int) (xs : List Int) : List (List Int) × Int := if isBr s xs then (tabF (ncL s.toNat xs) (halV (lnkV s.toNat xs xs.length)), 0) else ([], 1)
end Go.Proofs.YtkjpkdmnjbjjaaaGreat

namespace Go.Proofs.YtkjpkdmnjbjjaaaGreat
set_option maxRecDepth 100000
set_option linter.unusedVariables false
set_option linter.unusedSimpArgs false
open Go.RowKit
def negL (xs : List Int) : List Int := xs.map fun x => -x
theorem negL_succ {xs : List Int} {k : Nat} (h : k < xs.length) : negL (xs.take (k + 1)) = negL (xs.take k) ++ [-xs[k]] := by
  simp only [negL, List.take_succ_eq_append_getElem h, List.map_append, List.map_cons, List.map_nil]
theorem negL_len (xs : List Int) : (negL xs).length = xs.length := by simp [negL]
theorem neg_step (xs : List Int) (n j : Nat) (hl : n = xs.length) (h : j < n) (hx : j < xs.length) : (negL (xs.take j) ++ List.replicate (n - j) 0).set j (-xs[j]) = negL (xs.take (j + 1)) ++ List.replicate (n - (j + 1)) 0 := by
  have e : (negL (xs.take j)).length = j := by rw [negL_len, List.length_take]; omega
  rw [List.set_append_right _ _ (by omega), e, Nat.sub_self, negL_succ hx, List.append_assoc]
  congr 1
  obtain ⟨m, hm⟩ : ∃ m, n - j = m + 1 := ⟨n - j - 1, by omega⟩
  have hm' : n - (j + 1) = m := by omega
  rw [hm, hm', List.replicate_succ]
  simp
set_option maxHeartbeats 400000 in
theorem opposites_any (a : Option Addr) (n c : Nat) (xs : List Int) (w : World) (h1 : Row w a n xs) (hm : n ≤ 1048576) (hb : ∀ x ∈ xs, -1000 ≤ x ∧ x ≤ 1000) :
    Calls Tryz.prog 105 #[.slice a n c] w fun e w' => ∃ a' c', e = .returned (.slice a' n c') ∧ Own w' w.heap.size a' n c' (negL xs) ∧ Below w.heap.size w w' := by
  have hl := h1.len
  have HL := Lib.hid hl; clear hl
  have HX := Lib.hid hb; clear hb
  go_enter Tryz.func105, Tryz.ntmps105
  go_wp2_with (at_make; refine make1 rfl rfl rfl rfl (by omega) ?_; intro w1 ho hs hb)
  have hw1 := hb.size
  go_loopw [11] (fun i wr => ∃ j : Nat, j ≤ n ∧ i = .int .i64 j ∧ Own wr w.heap.size (some ⟨w.heap.size, 0, none⟩) n n (negL (xs.take j) ++ List.replicate (n - j) 0) ∧ Below w.heap.size w wr) (fun i _ => n - (intOf i).toNat)
  case atStart => exact ⟨0, Nat.zero_le _, rfl, by simpa [negL] using ho, hb⟩
  case round =>
    clear ho hb
    obtain ⟨j, hj, rfl, ho, hb⟩ := hrel
    by_cases hlt : j < n
    · have hr := h1.below hb
      obtain ⟨b, off, rfl, g1⟩ := hr.at j hlt
      obtain ⟨_, hc, hf⟩ := ho.cells
      have hc1 := hc j hlt
      have hf1 := hf j
      have hx : j < xs.length := by have := HL.out; omega
      have hxb := HX.out xs[j] (List.getElem_mem hx)
      clear hc hf hr h1
      go_wp2
      go_roundw
      case rel =>
        refine ⟨j + 1, by omega, by go_num, ?_, hb.setCell (by simp) _⟩
        rw [← neg_step xs n j HL.out hlt hx]
        exact ho.set j _
      case measure => simp [intOf]; omega
    · obtain rfl : j = n := by omega
      go_wp2
      go_ret
      refine ⟨_, _, rfl, ?_, hb⟩
      rw [List.take_of_length_le (by have := HL.out; omega), Nat.sub_self, List.replicate_zero, List.append_nil] at ho
      exact ho
end Go.Proofs.YtkjpkdmnjbjjaaaGreat

namespace Go.Proofs.YtkjpkdmnjbjjaaaGreat
set_option maxRecDepth 100000
set_option linter.unusedVariables false
set_option linter.unusedSimpArgs false
section
variable {n : Nat} {f g : List (List Int)}
/-! ### one more strand -/
theorem doF_snoc (f g : List (List Int)) {i : Nat} {l : List Int} {z : Int} (hi : i + 1 < l.length) : doF f g i (l ++ [z]) = doF f g i l ++ [z] := by
  unfold doF
  have e1 : (l ++ [z]).getD i 0 = l.getD i 0 := by simp [List.getD_eq_getElem?_getD, List.getElem?_append_left (show i < l.length by omega)]
  have e2 : (l ++ [z]).getD (i + 1) 0 = l.getD (i + 1) 0 := by simp [List.getD_eq_getElem?_getD, List.getElem?_append_left hi]
  rw [e1, e2, List.set_append_left _ _ (by omega), List.set_append_left _ _ (by rw [List.length_set]; omega)]
theorem step_snoc (n : Nat) (f g : List (List Int)) {x : Int} {l : List Int} {z : Int} (hi : (plc x).toNat + 1 < l.length) : stepL n f g x (l ++ [z]) = stepL n f g x l ++ [z] := by
  unfold stepL; split <;> exact doF_snoc _ _ hi
theorem act_snoc (n : Nat) (f g : List (List Int)) (z : Int) : ∀ (xs l : List Int), (∀ x ∈ xs, (plc x).toNat + 1 < l.length) → actL n f g xs (l ++ [z]) = actL n f g xs l ++ [z] := by
  intro xs
  induction xs with
  | nil => intro l _; rfl
  | cons x xs ih =>
    intro l hx
    have e1 : ∀ m, actL n f g (x :: xs) m = actL n f g xs (stepL n f g x m) := fun m => rfl
    rw [e1, e1, step_snoc n f g (hx x (by simp)), ih _ (fun y hy => by rw [stepL_len]; exact hx y (by simp [hy]))]
end
end Go.Proofs.YtkjpkdmnjbjjaaaGreat
