/-
  spec.l01Orbit and spec.l01Orbits for one permutation.
  No condition but bounds.
-/
import Derived.Test.YtehomfbehhlhmaaOrbI
import Derived.Test.YtehomfbehhlhmaaHas
import Derived.Deep.RegionLaw
namespace Go.Proofs.Ytehomfbehhlhmaa
set_option maxRecDepth 100000
set_option linter.unusedVariables false
set_option linter.unusedSimpArgs false
open Go.RowKit

def natL (c : List Nat) : List Int := c.map fun x : Nat => (x : Int)
theorem natL_mem (c : List Nat) (x : Nat) : ((x : Int) ∈ natL c) = (x ∈ c) := by
  simp only [natL, List.mem_map, eq_iff_iff]
  exact ⟨fun ⟨a, h, e⟩ => by
    have : a = x := by omega
    exact this ▸ h, fun h => ⟨x, h, rfl⟩⟩
theorem natL_snoc (c : List Nat) (x : Nat) : natL (c ++ [x]) = natL c ++ [(x : Int)] := by simp [natL]
theorem natL_get (c : List Nat) (i : Nat) (h : i < c.length) : (natL c).getD i 0 = (c[i] : Int) := by
  simp [natL, List.getD_eq_getElem?_getD, List.getElem?_map, h]

def OrbR (f : Nat → Nat) (n x : Nat) (w : World) (q i : Value) (wr : World) (m : Nat) : Prop :=
  ∃ (a : Option Addr) (on qc : Nat) (c : List Nat) (l rem b : Nat), m = rem + b ∧ on = c.length ∧ q = .slice a on qc ∧ i = .int .i64 ((on - b : Nat) : Int) ∧ Own wr w.heap.size a on qc (natL c) ∧
    OrbI f n x c l rem ∧ ((b = 1 ∧ (natL c).getD (on - 1) 0 = (l : Int)) ∨ (b = 0 ∧ f l ∈ c)) ∧ Below w.heap.size w wr
/-- after the one permutation -/
def OrbT (f : Nat → Nat) (w : World) (a : Option Addr) (on qc : Nat) (c : List Nat) (l : Nat) (q : Value) (wr : World) : Prop :=
  (f l ∈ c ∧ q = .slice a on qc ∧ Own wr w.heap.size a on qc (natL c) ∧ Below w.heap.size w wr) ∨
  (f l ∉ c ∧ ∃ a' c', q = .slice a' (on + 1) c' ∧ Own wr w.heap.size a' (on + 1) c' (natL (c ++ [f l])) ∧ Below w.heap.size w wr)

set_option maxHeartbeats 4000000 in
theorem l01Orbit_any (n : Nat) (f g : Nat → Nat) (p : List Int) (tl : Option Addr) (tc x : Nat) (w : World) (hn : n ≤ 1000) (hp : IsPf n p f g) (h1 : Tbl w tl 1 [p]) (hx : x < n) :
    Calls Try.prog 196 #[.slice tl 1 tc, .int .i64 x] w fun e w' => ∃ a c, e = .returned (.slice a (orbF f n x).length c) ∧ Own w' w.heap.size a (orbF f n x).length c (natL (orbF f n x)) ∧ (∃ l rem, OrbI f n x (orbF f n x) l rem ∧ f l ∈ orbF f n x) ∧ Below w.heap.size w w' := by
  obtain ⟨hpl, hpf, hpg⟩ := hp
  have HF := Lib.hid hpf
  have HG := Lib.hid hpg
  have HLn := Lib.hid hpl
  clear hpl hpf hpg
  have HB : Below w.heap.size w (w.alloc (.cells #[.int .i64 x] 2)) := (Below.refl _ _).alloc (Nat.le_refl _) _
  have HO : Own (w.alloc (.cells #[.int .i64 x] 2)) w.heap.size (some ⟨w.heap.size, 0, none⟩) 1 1 (natL [x]) := Own.single w rfl x
  go_enter Try.func196, Try.ntmps196
  go_wp2
  go_loopw [5, 6] (fun q i wr => ∃ m, OrbR f n x w q i wr m) (fun q i wr => least (OrbR f n x w q i wr))
  case atStart => exact ⟨n + 1, _, 1, 1, [x], x, n, 1, rfl, rfl, rfl, rfl, HO, OrbI.start f hx, .inl ⟨rfl, rfl⟩, HB⟩
  case round =>
    clear HB HO
    obtain ⟨a, on, qc, c, l, rem, b, hm, hon, rfl, rfl, ho, hOI, hst, hb⟩ := least_at hrel
    clear hrel
    have HM := Lib.hid hm; clear hm
    obtain ⟨wq, hwq⟩ : ∃ wq : World, wq = wr := ⟨_, rfl⟩
    subst hwq
    have hle := hOI.le
    rcases hst with ⟨rfl, hlast⟩ | ⟨rfl, hfl⟩
    · have hpos : 0 < on := by have := List.length_pos_of_mem hOI.lm; omega
      obtain ⟨K, hKe⟩ : ∃ K, K = on - 1 := ⟨_, rfl⟩
      rw [← hKe] at hlast HM ⊢
      have hKlt : K < on := by omega
      have hlk := hOI.lt l hOI.lm
      have hflk := (HF.out l hlk).1
      obtain ⟨tb, toff, ai, ni, ci, rfl, g1, hri, hni⟩ := (h1.below hb).at 0 (by omega)
      have hri' : Row wq ai ni p := hri
      have hnk : ni = n := by have := hri'.len; have := HLn.out; omega
      obtain ⟨pb, poff, rfl, g2⟩ := hri'.at l (by omega)
      rw [HG.out l hlk] at g2
      have g1' : wq.cell? ⟨tb, toff, none⟩ = some (.slice (some ⟨pb, poff, none⟩) ni ci) := g1
      obtain ⟨gq, oq, rfl, _⟩ := ho.row.at K (by omega)
      obtain ⟨rfl, hcc, _⟩ := ho.cells
      have g3 := hcc K (by omega)
      rw [hlast] at g3
      clear hcc hri hri' hlast
      obtain ⟨X, hX⟩ : ∃ X, X = f l := ⟨_, rfl⟩
      rw [← hX] at g2 hflk
      have HX := Lib.hid hX; clear hX
      have hrow := ho.row
      have hK : on ≤ 1000 := by omega
      have HKe := Lib.hid hKe; clear hKe
      have HOn := Lib.hid hon; clear hon
      go_wp2
      go_loopw [5, 7] (fun q j wr => (j = .int .i64 0 ∧ q = .slice (some ⟨gq, 0, none⟩) on qc ∧ wr = wq) ∨ (j = .int .i64 1 ∧ OrbT f w (some ⟨gq, 0, none⟩) on qc c l q wr)) (fun _ j _ => 1 - (intOf j).toNat)
      case atStart => exact .inl ⟨rfl, rfl, rfl⟩
      case round =>
        rcases hrel with ⟨rfl, rfl, hw⟩ | ⟨rfl, hN⟩
        · subst hw
          by_cases hfc : X ∈ c
          · have hd : decide ((X : Int) ∈ natL c) = true := decide_eq_true (by rw [natL_mem]; exact hfc)
            have HD := Lib.hid hd; clear hd
            go_wp2
            go_region_with (go_at_call 198; refine (l01Has_any _ _ _ (natL c) X _ (by first | exact hrow | exact hrow.drewN 1) (by omega)).mono ?_; rintro e w2 ⟨rfl, rfl⟩; rw [HD.out])
            all_goals
              go_wp2
              go_roundw
              case rel => exact .inr ⟨by go_num, .inl ⟨by rw [← HX.out]; exact hfc, rfl, (by first | exact ho | exact ho.drewN 1), (by first | exact hb | exact below_drewN hb 1)⟩⟩
              case measure => simp [intOf]
          · have hd : decide ((X : Int) ∈ natL c) = false := decide_eq_false (by rw [natL_mem]; exact hfc)
            have HD := Lib.hid hd; clear hd
            have hzz := hb.size
            go_wp2
            go_region_with (go_at_call 198; refine (l01Has_any _ _ _ (natL c) X _ (by first | exact hrow | exact hrow.drewN 1) (by omega)).mono ?_; rintro e w2 ⟨rfl, rfl⟩; rw [HD.out])
            all_goals
              generalize hwz : wr.drew = wz
              have hoz : Own wz w.heap.size (some ⟨gq, 0, none⟩) on qc (natL c) := by rw [← hwz]; exact ho
              have hbz : Below w.heap.size w wz := by rw [← hwz]; exact below_drewN hb 1
              have g1z : wz.cell? ⟨tb, toff, none⟩ = some (.slice (some ⟨pb, poff, none⟩) ni ci) := by rw [← hwz]; exact g1'
              have g2z : wz.cell? ⟨pb, poff + l, none⟩ = some (.int .i64 X) := by rw [← hwz]; exact g2
              have g3z : wz.cell? ⟨gq, K, none⟩ = some (.int .i64 l) := by rw [← hwz]; exact g3
              have hzz2 := hbz.size
              clear hwz
              go_wp2
              go_region_law (refine step_app1 rfl rfl hoz rfl rfl (by omega) hzz2 ?_; intro g' cc w' hO' hg' hs' hb')
              all_goals
                go_wp2
                go_roundw
                case rel =>
                  refine .inr ⟨by go_num, .inr ⟨by rw [← HX.out]; exact hfc, _, _, rfl, ?_, hbz.trans hb'⟩⟩
                  rw [natL_snoc, ← HX.out]; exact hO'
                case measure => simp [intOf]
        · clear g1 g1' g2 g3 ho hb hrow
          have hrm := hOI.rm
          rcases hN with ⟨hfc, rfl, ho, hb⟩ | ⟨hfc, a', c', rfl, ho, hb⟩
          · have hq2 : OrbR f n x w (.slice (some ⟨gq, 0, none⟩) on qc) (.int .i64 ((on : Nat) : Int)) wr (rem + 0) := ⟨_, on, qc, c, l, rem, 0, rfl, HOn.out, rfl, rfl, ho, hOI, .inr ⟨rfl, hfc⟩, hb⟩
            have hi : IntKind.i64.wrap ((K : Int) + 1) = ((on : Nat) : Int) := (IntWalk.i64_in _ (by omega)).trans (by have := HKe.out; omega)
            go_wp2
            go_roundw
            case rel => exact ⟨_, hq2⟩
            case measure =>
              have e1 := HM.out
              have e2 := least_le hq2
              simp
              omega
          · have hfl2 := (HF.out l hlk).1
            have hOI2 := hOI.step hfc hfl2
            have hle2 := hOI2.le
            rw [List.length_append, List.length_singleton] at hle2
            have hlast2 : (natL (c ++ [f l])).getD (on + 1 - 1) 0 = ((f l : Nat) : Int) := by
              have e := HOn.out
              rw [natL_get _ _ (by rw [List.length_append, List.length_singleton]; omega)]
              simp [e]
            have hq2 : OrbR f n x w (.slice a' (on + 1) c') (.int .i64 ((on : Nat) : Int)) wr (rem - 1 + 1) := ⟨_, on + 1, c', c ++ [f l], f l, rem - 1, 1, rfl, by rw [List.length_append, List.length_singleton, ← HOn.out], rfl, rfl, ho, hOI2, .inl ⟨rfl, hlast2⟩, hb⟩
            have hi : IntKind.i64.wrap ((K : Int) + 1) = ((on : Nat) : Int) := (IntWalk.i64_in _ (by omega)).trans (by have := HKe.out; omega)
            go_wp2
            go_roundw
            case rel => exact ⟨_, hq2⟩
            case measure =>
              have e1 := HM.out
              have e2 := least_le hq2
              have e3 := HOn.out
              simp
              omega
    · have e := hOI.stop hfl
      subst hon
      rw [← e] at ho hOI hfl
      have hd : decide (((c.length : Nat) : Int) < ((c.length : Nat) : Int)) = false := by simp
      go_wp2
      go_ret
      rw [← e]
      exact ⟨_, _, rfl, ho, ⟨l, rem, hOI, hfl⟩, hb⟩

end Go.Proofs.Ytehomfbehhlhmaa
