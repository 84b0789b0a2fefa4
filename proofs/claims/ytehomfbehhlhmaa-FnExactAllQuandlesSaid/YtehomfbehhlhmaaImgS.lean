/-
  The image of a table by a permutation: what the reference's function makes.
  No condition but bounds.
-/
import Derived.Test.YtehomfbehhlhmaaBase
import Derived.Test.YtehomfbehhlhmaaRen
namespace Go.Proofs.Ytehomfbehhlhmaa
set_option maxRecDepth 100000
set_option linter.unusedVariables false
set_option linter.unusedSimpArgs false
open Go.RowKit

theorem sq_tabF {n : Nat} {t : List (List Int)} (h : Sq n t) : tabF n (fun x y => (t.getD x []).getD y 0) = t := by
  apply List.ext_getElem
  · simp [tabF, h.1]
  · intro i h1 h2
    have hi : i < n := by simpa [tabF] using h1
    have hl := (h.2 i hi).1
    rw [List.getD_eq_getElem?_getD, List.getElem?_eq_getElem h2, Option.getD_some] at hl
    apply List.ext_getElem
    · simp [tabF, hl]
    · intro j h3 h4
      simp [tabF, List.getD_eq_getElem?_getD, List.getElem?_eq_getElem h2, List.getElem?_eq_getElem h4]
def imgI (t : List (List Int)) (p : List Int) (x y : Nat) : Int := p.getD (tv t x y) 0
/-- the pairs ahead of (x, y) are stored -/
def ImgK (n : Nat) (t : List (List Int)) (p : List Int) (V : Nat → Nat → Int) (x y : Nat) : Prop := ∀ x' y', x' < n → y' < n → (x' < x ∨ x' = x ∧ y' < y) → V (p.getD x' 0).toNat (p.getD y' 0).toNat = imgI t p x' y'
theorem ImgK.step {n : Nat} {t : List (List Int)} {p : List Int} {V : Nat → Nat → Int} {x y u v : Nat} (hP : IsP n p) (h : ImgK n t p V x y) (hx : x < n) (hy : y < n) (hu : (p.getD x 0).toNat = u) (hv : (p.getD y 0).toNat = v) : ImgK n t p (updQ V u v (imgI t p x y)) x (y + 1) := by
  obtain ⟨f, g, hl, h1, h2⟩ := hP
  have hf : ∀ i, i < n → (p.getD i 0).toNat = f i := fun i hi => by rw [h2 i hi, Int.toNat_natCast]
  have inj : ∀ i j, i < n → j < n → f i = f j → i = j := fun i j hi hj e => by rw [← (h1 i hi).2.2.2, ← (h1 j hj).2.2.2, e]
  intro x' y' hx' hy' hq
  unfold updQ
  by_cases e : x' = x ∧ y' = y
  · obtain ⟨rfl, rfl⟩ := e
    rw [if_pos ⟨hu, hv⟩]
  · rw [if_neg, h x' y' hx' hy' (by omega)]
    rintro ⟨e1, e2⟩
    rw [← hu, hf _ hx', hf _ hx] at e1
    rw [← hv, hf _ hy', hf _ hy] at e2
    exact e ⟨inj _ _ hx' hx e1, inj _ _ hy' hy e2⟩
theorem ImgK.next {n : Nat} {t : List (List Int)} {p : List Int} {V : Nat → Nat → Int} {x : Nat} (h : ImgK n t p V x n) : ImgK n t p V (x + 1) 0 := fun x' y' hx' hy' hq => h x' y' hx' hy' (by omega)
theorem backF_at {n : Nat} {p : List Int} (hP : IsP n p) : ∀ u, u < n → ∃ q : Nat, (backF p).getD u 0 = q ∧ q < n ∧ p.getD q 0 = u := by
  obtain ⟨f, g, hp⟩ := hP
  have hb := backK_get n p f g hp n (Nat.le_refl _)
  obtain ⟨hl, h1, h2⟩ := hp
  intro u hu
  refine ⟨g u, ?_, (h1 u hu).2.1, ?_⟩
  · unfold backF; rw [hl, hb u hu, if_pos (h1 u hu).2.1]
  · rw [h2 (g u) (h1 u hu).2.1, (h1 u hu).2.2.1]
theorem ImgK.done {n : Nat} {t : List (List Int)} {p : List Int} {V : Nat → Nat → Int} (hP : IsP n p) (h : ImgK n t p V n 0) : tabF n V = rnL n t p := by
  refine tabQ_congr fun u v hu hv => ?_
  obtain ⟨q, e1, h1, e2⟩ := backF_at hP u hu
  obtain ⟨r, e3, h3, e4⟩ := backF_at hP v hv
  have := h q r h1 h3 (.inl h1)
  rw [e2, e4, Int.toNat_natCast, Int.toNat_natCast] at this
  rw [this]
  unfold rnV imgI
  rw [e1, e3, Int.toNat_natCast, Int.toNat_natCast]

set_option maxHeartbeats 16000000 in
theorem l03Image_any (n : Nat) (at_ ap : Option Addr) (ct cp : Nat) (t : List (List Int)) (p : List Int) (w : World) (h1 : Tbl w at_ n t) (h2 : Row w ap n p) (hs : Sq n t) (hP : IsP n p) (hn0 : 1 ≤ n) (hn : n ≤ 12) :
    Calls Try.prog 169 #[.slice at_ n ct, .slice ap n cp] w fun e w' => ∃ a c vs, e = .returned (.slice a n c) ∧ OwnT w' w.heap.size a n c vs (rnL n t p) ∧ Below w.heap.size w w' := by
  have HP := Lib.hid hP
  have hlen : ∀ x ∈ t, x.length ≤ 1000000 := fun x hx => by
    obtain ⟨i, hi, rfl⟩ := List.getElem_of_mem hx
    have := (hs.2 i (by rw [← hs.1]; exact hi)).1
    rw [List.getD_eq_getElem?_getD, List.getElem?_eq_getElem hi] at this
    simp at this; omega
  have HS := Lib.hid hs; have HLEN := Lib.hid hlen
  clear hlen hs hP
  go_enter Try.func169, Try.ntmps169
  go_wp2_with fail
  refine (l01Own2_any _ _ _ t _ h1 (by omega) HLEN.out).mono ?_
  rintro e w1 ⟨a1, c1, vs1, rfl, ho1, hb1⟩
  rw [← sq_tabF HS.out] at ho1
  have hz1 := hb1.size
  obtain ⟨gm, rfl, _⟩ := ho1.cells (by omega)
  have HLO := Lib.hid ho1.uLo
  go_wp2
  go_loopw [6, 7] (fun i _ wr => ∃ (x : Nat) (V : Nat → Nat → Int), x ≤ n ∧ i = .int .i64 x ∧ OwnT wr w.heap.size (some ⟨gm, 0, none⟩) n c1 vs1 (tabF n V) ∧ Hid (ImgK n t p V x 0) ∧ Below w.heap.size w wr) (fun i _ _ => n - (intOf i).toNat)
  case atStart => exact ⟨0, _, Nat.zero_le _, rfl, ho1, Lib.hid (fun x' y' _ _ h => by omega), hb1⟩
  case round =>
    clear ho1
    obtain ⟨x, V, hx, rfl, ho, HV, hq⟩ := hrel
    by_cases hlt : x < n
    · go_wp2
      go_loopw [7] (fun j wr => ∃ (y : Nat) (V : Nat → Nat → Int), y ≤ n ∧ j = .int .i64 y ∧ OwnT wr w.heap.size (some ⟨gm, 0, none⟩) n c1 vs1 (tabF n V) ∧ Hid (ImgK n t p V x y) ∧ Below w.heap.size w wr) (fun j _ => n - (intOf j).toNat)
      case atStart => exact ⟨0, V, Nat.zero_le _, rfl, ho, HV, hq⟩
      case round =>
        clear ho hq
        obtain ⟨y, V, hy, rfl, ho, HV, hq⟩ := hrel
        by_cases hly : y < n
        · obtain ⟨b, off, A, O, C, rfl, G0⟩ := h1.grid HS.out (by omega)
          have G := (G0.below hq).look hlt hly
          obtain ⟨u, hu, hun⟩ := HP.out.at hlt
          obtain ⟨v, hv, hvn⟩ := HP.out.at hly
          obtain ⟨bp, op, rfl, gu⟩ := (h2.below hq).at x hlt
          obtain ⟨bp', op', e', gv⟩ := (h2.below hq).at y hly
          cases e'
          have hz := HS.out.lt hlt hly
          obtain ⟨z, HZ⟩ : ∃ z, Hid (tv t x y = z) := ⟨_, rfl⟩
          rw [HZ.out] at G hz
          obtain ⟨bp'', op'', e'', gz⟩ := (h2.below hq).at z hz
          cases e''
          obtain ⟨Z, HZZ⟩ : ∃ Z, Hid (p.getD z 0 = Z) := ⟨_, rfl⟩
          rw [HZZ.out] at gz
          rw [hu] at gu
          rw [hv] at gv
          obtain ⟨gm', g1, cg, e3, ev, r1, hc1, ht1⟩ := ho.spotQ hun
          cases e3
          have k1 := (hc1 v hvn).1
          have f1 := (hc1 v hvn).2
          have hput := ho.putQ hun hvn ev Z
          have HST : Hid (ImgK n t p (updQ V u v Z) x (y + 1)) := Lib.hid (by
            have := ImgK.step HP.out HV.out hlt hly (u := u) (v := v) (by rw [hu, Int.toNat_natCast]) (by rw [hv, Int.toNat_natCast])
            rw [show imgI t p x y = Z by unfold imgI; rw [HZ.out, HZZ.out]] at this
            exact this)
          have hg1 : w.heap.size ≤ g1 := HLO.out g1 ht1
          have HPUT := Lib.hid hput
          have i1 : (0 : Int) ≤ (x : Int) := by omega
          have i2 : (x : Int) < (n : Int) := by omega
          have i3 : (0 : Int) ≤ (y : Int) := by omega
          have i4 : (y : Int) < (n : Int) := by omega
          have i5 : (0 : Int) ≤ (u : Int) := by omega
          have i6 : (u : Int) < (n : Int) := by omega
          have i7 : (0 : Int) ≤ (v : Int) := by omega
          have i8 : (v : Int) < (n : Int) := by omega
          have i9 : (0 : Int) ≤ (z : Int) := by omega
          have i10 : (z : Int) < (n : Int) := by omega
          obtain ⟨G1, G2⟩ := G
          have hq8 : Below w.heap.size w wr.drew := hq.drew
          have hput8 : Hid (OwnT (wr.drew.setCell ⟨g1, v, none⟩ (.int .i64 Z)) w.heap.size (some ⟨gm, 0, none⟩) n c1 vs1 (tabF n (updQ V u v Z))) := Lib.hid (hput.drewN 1)
          clear hu hv hc1 hput ho hq HPUT
          go_wp2
          refine wp_region_still_tail 22 (by kernel_rfl) (by kernel_rfl) ?_
          change wpStill _ _ wr.drew (fun a' => wpList _ _ _ _ a' wr.drew) _ _
          have G18 : wr.drew.cell? _ = _ := G1
          have G28 : wr.drew.cell? _ = _ := G2
          have gu8 : wr.drew.cell? _ = _ := gu
          have gv8 : wr.drew.cell? _ = _ := gv
          have gz8 : wr.drew.cell? _ = _ := gz
          have r18 : wr.drew.cell? _ = _ := r1
          have k18 : wr.drew.cell? _ = _ := k1
          have f18 : wr.drew.frozen? ⟨g1, v, none⟩ = false := f1
          clear G1 G2 gu gv gz r1 k1 f1
          generalize wr.drew = w8 at *
          simp only [List.take_succ_cons, List.take_zero, List.drop_succ_cons, List.drop_zero]
          repeat still_step
          refine wpStill_nil ?_
          go_wp2
          go_roundw
          case rel => exact ⟨y + 1, _, by omega, by go_num, hput8.out, HST, below_setne hq8 hg1 _⟩
          case measure => simp [intOf]; omega
        · obtain rfl : n = y := by omega
          go_wp2
          go_roundw
          case rel => exact ⟨x + 1, V, by omega, by go_num, ho, Lib.hid HV.out.next, hq⟩
          case measure => simp [intOf]; omega
    · obtain rfl : n = x := by omega
      go_wp2
      go_ret
      exact ⟨_, _, _, rfl, by rw [← ImgK.done HP.out HV.out]; exact ho, hq⟩
end Go.Proofs.Ytehomfbehhlhmaa
