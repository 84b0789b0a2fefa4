/-
  Walks and plain laws of this seat, some texts in one.
  No condition but bounds on lengths.
-/
import Derived.Test.YtpdgpgbgakinlaaGreatPa5
import Derived.Test.YtpdgpgbgakinlaaGreatPa1
import Derived.Test.YtpdgpgbgakinlaaGreatPa4
import Derived.Test.YtpdgpgbgakinlaaGreatPa2
import Derived.Test.YtpdgpgbgakinlaaGreatPa3
namespace Go.Proofs.YtpdgpgbgakinlaaGreat
set_option maxRecDepth 100000
set_option linter.unusedVariables false
set_option linter.unusedSimpArgs false
open Go.RowKit
theorem sq_tabF {n : Nat} {t : List (List Int)} (h : Sq n t) : tabF n (fun x y => (t.getD x []).getD y 0) = t := by
  apply List.ext_getElem
  · simp [tabF, h.1]
  · intro i h1 h2
    have hi : i < n := by simpa [tabF] using h1
    have hl := (h.2 i hi).1
    rw [List.getD_eq_getElem?_getD, List.getElem?_eq_getElem h2, Option.getD_some] at hl
    apply List.ext_getElem
    · simp [tabF, hl]
    · intro j h3 h4
      simp [tabF, List.getD_eq_getElem?_getD, List.getElem?_eq_getElem h2, List.getElem?_eq_getElem h4]
def imgI (t : List (List Int)) (p : List Int) (x y : Nat) : Int := p.getD (tv t x y) 0
def ImgK (n : Nat) (t : List (List Int)) (p : List Int) (V : Nat → Nat → Int) (x y : Nat) : Prop := ∀ x' y', x' < n → y' < n → (x' < x ∨ x' = x ∧ y' < y) → V (p.getD x' 0).toNat (p.getD y' 0).toNat = imgI t p x' y'
theorem ImgK.step {n : Nat} {t : List (List Int)} {p : List Int} {V : Nat → Nat → Int} {x y u v : Nat} (hP : IsP n p) (h : ImgK n t p V x y) (hx : x < n) (hy : y < n) (hu : (p.getD x 0).toNat = u) (hv : (p.getD y 0).toNat = v) : ImgK n t p (updQ V u v (imgI t p x y)) x (y + 1) := by
  obtain ⟨f, g, hl, h1, h2⟩ := hP
  have hf : ∀ i, i < n → (p.getD i 0).toNat = f i := fun i hi => by rw [h2 i hi, Int.toNat_natCast]
  have inj : ∀ i j, i < n → j < n → f i = f j → i = j := fun i j hi hj e => by rw [← (h1 i hi).2.2.2, ← (h1 j hj).2.2.2, e]
  intro x' y' hx' hy' hq
  unfold updQ
  by_cases e : x' = x ∧ y' = y
  · obtain ⟨rfl, rfl⟩ := e
    rw [if_pos ⟨hu, hv⟩]
  · rw [if_neg, h x' y' hx' hy' (by omega)]
    rintro ⟨e1, e2⟩
    rw [← hu, hf _ hx', hf _ hx] at e1
    rw [← hv, hf _ hy', hf _ hy] at e2
    exact e ⟨inj _ _ hx' hx e1, inj _ _ hy' hy e2⟩
theorem ImgK.next {n : Nat} {t : List (List Int)} {p : List Int} {V : Nat → Nat → Int} {x : Nat} (h : ImgK n t p V x n) : ImgK n t p V (x + 1) 0 := fun x' y' hx' hy' hq => h x' y' hx' hy' (by omega)
theorem backF_at {n : Nat} {p : List Int} (hP : IsP n p) : ∀ u, u < n → ∃ q : Nat, (backF p).getD u 0 = q ∧ q < n ∧ p.getD q 0 = u := by
  obtain ⟨f, g, hp⟩ := hP
  have hb := backK_get n p f g hp n (Nat.le_refl _)
  obtain ⟨hl, h1, h2⟩ := hp
  intro u hu
  refine ⟨g u, ?_, (h1 u hu).2.1, ?_⟩
  · unfold backF; rw [hl, hb u hu, if_pos (h1 u hu).2.1]
  · rw [h2 (g u) (h1 u hu).2.1, (h1 u hu).2.2.1]
theorem ImgK.done {n : Nat} {t : List (List Int)} {p : List Int} {V : Nat → Nat → Int} (hP : IsP n p) (h : ImgK n t p V n 0) : tabF n V = rnL n t p := by
  refine tabQ_congr fun u v hu hv => ?_
  obtain ⟨q, e1, h1, e2⟩ := backF_at hP u hu
  obtain ⟨r, e3, h3, e4⟩ := backF_at hP v hv
  have := h q r h1 h3 (.inl h1)
  rw [e2, e4, Int.toNat_natCast, Int.toNat_natCast] at this
  rw [this]
  unfold rnV imgI
  rw [e1, e3, Int.toNat_natCast, Int.toNat_natCast]
set_option maxHeartbeats 16000000 in
theorem l03Image_any (n : Nat) (at_ ap : Option Addr) (ct cp : Nat) (t : List (List Int)) (p : List Int) (w : World) (h1 : Tbl w at_ n t) (h2 : Row w ap n p) (hs : Sq n t) (hP : IsP n p) (hn0 : 1 ≤ n) (hn : n ≤ 12) :
    Calls Tryz.prog 123 #[.slice at_ n ct, .slice ap n cp] w fun e w' => ∃ a c vs, e = .returned (.slice a n c) ∧ OwnT w' w.heap.size a n c vs (rnL n t p) ∧ Below w.heap.size w w' := by
  have HP := Lib.hid hP
  have hlen : ∀ x ∈ t, x.length ≤ 1000000 := fun x hx => by
    obtain ⟨i, hi, rfl⟩ := List.getElem_of_mem hx
    have := (hs.2 i (by rw [← hs.1]; exact hi)).1
    rw [List.getD_eq_getElem?_getD, List.getElem?_eq_getElem hi] at this
    simp at this; omega
  have HS := Lib.hid hs; have HLEN := Lib.hid hlen
  clear hlen hs hP
  go_enter Tryz.func123, Tryz.ntmps123
  go_wp2_with fail
  refine (l01Own2_any _ _ _ t _ h1 (by omega) HLEN.out).mono ?_
  rintro e w1 ⟨a1, c1, vs1, rfl, ho1, hb1⟩
  rw [← sq_tabF HS.out] at ho1
  have hz1 := hb1.size
  obtain ⟨gm, rfl, _⟩ := ho1.cells (by omega)
  have HLO := Lib.hid ho1.uLo
  go_wp2
  go_loopw [6, 7] (fun i _ wr => ∃ (x : Nat) (V : Nat → Nat → Int), x ≤ n ∧ i = .int .i64 x ∧ OwnT wr w.heap.size (some ⟨gm, 0, none⟩) n c1 vs1 (tabF n V) ∧ Hid (ImgK n t p V x 0) ∧ Below w.heap.size w wr) (fun i _ _ => n - (intOf i).toNat)
  case atStart => exact ⟨0, _, Nat.zero_le _, rfl, ho1, Lib.hid (fun x' y' _ _ h => by omega), hb1⟩
  case round =>
    clear ho1
    obtain ⟨x, V, hx, rfl, ho, HV, hq⟩ := hrel
    by_cases hlt : x < n
    · go_wp2
      go_loopw [7] (fun j wr => ∃ (y : Nat) (V : Nat → Nat → Int), y ≤ n ∧ j = .int .i64 y ∧ OwnT wr w.heap.size (some ⟨gm, 0, none⟩) n c1 vs1 (tabF n V) ∧ Hid (ImgK n t p V x y) ∧ Below w.heap.size w wr) (fun j _ => n - (intOf j).toNat)
      case atStart => exact ⟨0, V, Nat.zero_le _, rfl, ho, HV, hq⟩
      case round =>
        clear ho hq
        obtain ⟨y, V, hy, rfl, ho, HV, hq⟩ := hrel
        by_cases hly : y < n
        · obtain ⟨b, off, A, O, C, rfl, G0⟩ := h1.grid HS.out (by omega)
          have G := (G0.below hq).look hlt hly
          obtain ⟨u, hu, hun⟩ := HP.out.at hlt
          obtain ⟨v, hv, hvn⟩ := HP.out.at hly
          obtain ⟨bp, op, rfl, gu⟩ := (h2.below hq).at x hlt
          obtain ⟨bp', op', e', gv⟩ := (h2.below hq).at y hly
          cases e'
          have hz := HS.out.lt hlt hly
          obtain ⟨z, HZ⟩ : ∃ z, Hid (tv t x y = z) := ⟨_, rfl⟩
          rw [HZ.out] at G hz
          obtain ⟨bp'', op'', e'', gz⟩ := (h2.below hq).at z hz
          cases e''
          obtain ⟨Z, HZZ⟩ : ∃ Z, Hid (p.getD z 0 = Z) := ⟨_, rfl⟩
          rw [HZZ.out] at gz
          rw [hu] at gu
          rw [hv] at gv
          obtain ⟨gm', g1, cg, e3, ev, r1, hc1, ht1⟩ := ho.spotQ hun
          cases e3
          have k1 := (hc1 v hvn).1
          have f1 := (hc1 v hvn).2
          have hput := ho.putQ hun hvn ev Z
          have HST : Hid (ImgK n t p (updQ V u v Z) x (y + 1)) := Lib.hid (by
            have := ImgK.step HP.out HV.out hlt hly (u := u) (v := v) (by rw [hu, Int.toNat_natCast]) (by rw [hv, Int.toNat_natCast])
            rw [show imgI t p x y = Z by unfold imgI; rw [HZ.out, HZZ.out]] at this
            exact this)
          have hg1 : w.heap.size ≤ g1 := HLO.out g1 ht1
          have HPUT := Lib.hid hput
          have i1 : (0 : Int) ≤ (x : Int) := by omega
          have i2 : (x : Int) < (n : Int) := by omega
          have i3 : (0 : Int) ≤ (y : Int) := by omega
          have i4 : (y : Int) < (n : Int) := by omega
          have i5 : (0 : Int) ≤ (u : Int) := by omega
          have i6 : (u : Int) < (n : Int) := by omega
          have i7 : (0 : Int) ≤ (v : Int) := by omega
          have i8 : (v : Int) < (n : Int) := by omega
          have i9 : (0 : Int) ≤ (z : Int) := by omega
          have i10 : (z : Int) < (n : Int) := by omega
          obtain ⟨G1, G2⟩ := G
          have hq8 : Below w.heap.size w wr.drew := hq.drew
          have hput8 : Hid (OwnT (wr.drew.setCell ⟨g1, v, none⟩ (.int .i64 Z)) w.heap.size (some ⟨gm, 0, none⟩) n c1 vs1 (tabF n (updQ V u v Z))) := Lib.hid (hput.drewN 1)
          clear hu hv hc1 hput ho hq HPUT
          go_wp2
          refine wp_region_still_tail 22 (by kernel_rfl) (by kernel_rfl) ?_
          change wpStill _ _ wr.drew (fun a' => wpList _ _ _ _ a' wr.drew) _ _
          have G18 : wr.drew.cell? _ = _ := G1
          have G28 : wr.drew.cell? _ = _ := G2
          have gu8 : wr.drew.cell? _ = _ := gu
          have gv8 : wr.drew.cell? _ = _ := gv
          have gz8 : wr.drew.cell? _ = _ := gz
          have r18 : wr.drew.cell? _ = _ := r1
          have k18 : wr.drew.cell? _ = _ := k1
          have f18 : wr.drew.frozen? ⟨g1, v, none⟩ = false := f1
          clear G1 G2 gu gv gz r1 k1 f1
          generalize wr.drew = w8 at *
          simp only [List.take_succ_cons, List.take_zero, List.drop_succ_cons, List.drop_zero]
          repeat still_step
          refine wpStill_nil ?_
          go_wp2
          go_roundw
          case rel => exact ⟨y + 1, _, by omega, by go_num, hput8.out, HST, below_setne hq8 hg1 _⟩
          case measure => simp [intOf]; omega
        · obtain rfl : n = y := by omega
          go_wp2
          go_roundw
          case rel => exact ⟨x + 1, V, by omega, by go_num, ho, Lib.hid HV.out.next, hq⟩
          case measure => simp [intOf]; omega
    · obtain rfl : n = x := by omega
      go_wp2
      go_ret
      exact ⟨_, _, _, rfl, by rw [← ImgK.done HP.out HV.out]; exact ho, hq⟩
end Go.Proofs.YtpdgpgbgakinlaaGreat

namespace Go.Proofs.YtpdgpgbgakinlaaGreat
set_option maxRecDepth 100000
set_option linter.unusedVariables false
set_option linter.unusedSimpArgs false
open Go.RowKit
set_option maxHeartbeats 400000 in
theorem sEqual_any (a1 a2 : Option Addr) (n1 n2 c1 c2 : Nat) (xs ys : List Int) (w : World) (h1 : Row w a1 n1 xs) (h2 : Row w a2 n2 ys) (hm : n1 ≤ 9223372036854775807) :
    Calls Tryz.prog 169 #[.slice a1 n1 c1, .slice a2 n2 c2] w fun e w' => e = .returned (.bool (decide (xs = ys))) ∧ ∃ n, w' = w.drewN n := by
  have hl1 := h1.len
  have hl2 := h2.len
  by_cases hl : n1 = n2
  · subst hl
    have HL := Lib.hid hl1; have HL2 := Lib.hid hl2; clear hl1 hl2
    have hb : ((n1 : Int) != (n1 : Int)) = false := by simp
    go_enter Tryz.func169, Tryz.ntmps169
    go_wp2
    clear hb
    go_loopw [13] (fun i wr => ∃ k : Nat, k ≤ n1 ∧ i = .int .i64 k ∧ xs.take k = ys.take k ∧ ∃ n, wr = w.drewN n) (fun i _ => n1 - (intOf i).toNat)
    case atStart => exact ⟨0, Nat.zero_le _, rfl, by simp, 0, rfl⟩
    case round =>
      obtain ⟨k, hk, rfl, ht, n, rfl⟩ := hrel
      have HT := Lib.hid ht; clear ht
      by_cases hlt : k < n1
      · obtain ⟨b1, o1, rfl, g1⟩ := h1.at k hlt
        obtain ⟨b2, o2, rfl, g2⟩ := h2.at k hlt
        have hx : k < xs.length := by have := HL.out; omega
        have hy : k < ys.length := by have := HL2.out; omega
        clear h1 h2
        go_wp2
        go_quiet (fail)
        go_wp2
        · go_ret
          refine ⟨ret_bool ?_, n + nq, by rw [World.drewN_drewN]⟩
          rename_i hne
          simp only [Bool.false_eq, decide_eq_false_iff_not]
          rintro rfl
          simp at hne
        · go_roundw
          case rel =>
            rename_i hne
            refine ⟨k + 1, by omega, by go_num, take_eq_succ hx hy HT.out (by simpa using hne), n + nq, rfl⟩
          case measure => simp [intOf]; omega
      · obtain rfl : k = n1 := by omega
        go_wp2
        go_ret
        refine ⟨ret_bool ?_, _, rfl⟩
        have := HT.out
        rw [List.take_of_length_le (by have := HL.out; omega), List.take_of_length_le (by have := HL2.out; omega)] at this
        simp [this]
  · have hb : ((n1 : Int) != (n2 : Int)) = true := by simp; omega
    have hne : ¬ xs = ys := by rintro rfl; omega
    clear hl1 hl2
    go_enter Tryz.func169, Tryz.ntmps169
    go_wp2
    go_ret
    exact ⟨ret_bool (by simp [hne]), 0, rfl⟩
theorem sEqual_b (a1 a2 : Option Addr) (n1 n2 c1 c2 : Nat) (xs ys : List Int) (w : World) (h1 : Row w a1 n1 xs) (h2 : Row w a2 n2 ys) (hm : n1 ≤ 9223372036854775807) (b : Bool) (hb : decide (xs = ys) = b) :
    Calls Tryz.prog 169 #[.slice a1 n1 c1, .slice a2 n2 c2] w fun e w' => e = .returned (.bool b) ∧ Below w.heap.size w w' :=
  (sEqual_any a1 a2 n1 n2 c1 c2 xs ys w h1 h2 hm).mono fun e w' ⟨he, m, hw⟩ => ⟨he.trans (ret_bool hb), by rw [hw]; exact below_drewN (Below.refl _ _) m⟩
end Go.Proofs.YtpdgpgbgakinlaaGreat

namespace Go.Proofs.YtpdgpgbgakinlaaGreat
set_option maxRecDepth 100000
set_option linter.unusedVariables false
set_option linter.unusedSimpArgs false
open Go.RowKit
theorem info_bool : (Tryz.prog.info? 4).map (fun i => (i.zero, i.size, i.bytes)) = some (some (.bool false), 1, 1) := by kernel_rfl
theorem und_bools : Tryz.prog.underlying 154 = some (.slice 4) := by kernel_rfl
/-! ### A slice of truths that the call owns (its block lies from 'lo' on) -/
def OwnBo (w : World) (lo : Nat) (a : Option Addr) (n c : Nat) (xs : List Bool) : Prop := n = xs.length ∧ w.ownsRow lo 4 1 (.slice a n c) n (xs.map Value.bool)
theorem OwnBo.nil (w : World) (lo : Nat) : OwnBo w lo none 0 0 [] := ⟨rfl, World.ownsRow_nil w lo _ 1⟩
theorem OwnBo.len {w : World} {lo : Nat} {a : Option Addr} {n c : Nat} {xs : List Bool} (h : OwnBo w lo a n c xs) : n = xs.length := h.1
theorem OwnBo.alloc {w : World} {lo : Nat} {a : Option Addr} {n c : Nat} {xs : List Bool} (h : OwnBo w lo a n c xs) (o : Obj) : OwnBo (w.alloc o) lo a n c xs := ⟨h.1, h.2.alloc o⟩
theorem OwnBo.drew {w : World} {lo : Nat} {a : Option Addr} {n c : Nat} {xs : List Bool} (h : OwnBo w lo a n c xs) : OwnBo w.drew lo a n c xs := h
theorem OwnBo.drewN {w : World} {lo : Nat} {a : Option Addr} {n c : Nat} {xs : List Bool} (h : OwnBo w lo a n c xs) (k : Nat) : OwnBo (w.drewN k) lo a n c xs := h
theorem OwnBo.block {w : World} {lo : Nat} {a : Option Addr} {n c : Nat} {xs : List Bool} (h : OwnBo w lo a n c xs) : (a = none ∧ n = 0 ∧ c = 0) ∨ ∃ g cur, a = some ⟨g, 0, none⟩ ∧ lo ≤ g ∧ Loc w g cur 4 ∧ n ≤ c ∧ c ≤ maxLen ∧ cur.size = c ∧ cur.toList.take n = xs.map Value.bool := by
  rcases h.2.2 with ⟨h1, h2⟩ | ⟨g, cap, cur, h1, h2, h3, h4, h5, h6, h7⟩
  · cases h1; exact .inl ⟨rfl, rfl, rfl⟩
  · cases h1; exact .inr ⟨g, cur, rfl, h2, h3, h4, h5, by simpa using h6, by simpa using h7⟩
theorem OwnBo.mk {w : World} {lo : Nat} {g n c : Nat} {xs : List Bool} {cur : Array Value} (hn : n = xs.length) (h1 : lo ≤ g) (h2 : Loc w g cur 4) (h3 : n ≤ c) (h4 : c ≤ maxLen) (h5 : cur.size = c) (h6 : cur.toList.take n = xs.map Value.bool) : OwnBo w lo (some ⟨g, 0, none⟩) n c xs :=
  ⟨hn, by simp [hn], .inr ⟨g, c, cur, rfl, h1, h2, h3, h4, by simpa using h5, by simpa using h6⟩⟩
theorem OwnBo.lt {w : World} {lo : Nat} {g o n c : Nat} {xs : List Bool} (h : OwnBo w lo (some ⟨g, o, none⟩) n c xs) : lo ≤ g ∧ g < w.heap.size := by
  rcases h.block with ⟨h1, _⟩ | ⟨g', cur, h1, h2, h3, _⟩
  · cases h1
  · cases h1; exact ⟨h2, h3.lt⟩
theorem OwnBo.mono {w : World} {lo lo' : Nat} {a : Option Addr} {n c : Nat} {xs : List Bool} (h : OwnBo w lo a n c xs) (hl : lo' ≤ lo) : OwnBo w lo' a n c xs := by
  rcases h.block with ⟨rfl, rfl, rfl⟩ | ⟨g, cur, rfl, h2, h3, h4, h5, h6, h7⟩
  · have : xs = [] := List.eq_nil_of_length_eq_zero h.1.symm
    subst this; exact OwnBo.nil _ _
  · exact OwnBo.mk h.1 (by omega) h3 h4 h5 h6 h7
theorem OwnBo.keep {w w' : World} {lo : Nat} {a : Option Addr} {n c : Nat} {xs : List Bool} (h : OwnBo w lo a n c xs) (hk : ∀ g, a = some ⟨g, 0, none⟩ → g < w.heap.size → w'.heap[g]? = w.heap[g]?) : OwnBo w' lo a n c xs := by
  rcases h.block with ⟨rfl, rfl, rfl⟩ | ⟨g, cur, rfl, h2, h3, h4, h5, h6, h7⟩
  · have : xs = [] := List.eq_nil_of_length_eq_zero h.1.symm
    subst this; exact OwnBo.nil _ _
  · exact OwnBo.mk h.1 h2 ((hk g rfl h3.lt).trans h3) h4 h5 h6 h7
theorem OwnBo.below {w w' : World} {lo : Nat} {a : Option Addr} {n c : Nat} {xs : List Bool} (h : OwnBo w lo a n c xs) (hb : Below w.heap.size w w') : OwnBo w' lo a n c xs := h.keep fun g _ hlt => hb.block g hlt
theorem OwnBo.setne {w : World} {lo : Nat} {a : Option Addr} {n c : Nat} {xs : List Bool} (h : OwnBo w lo a n c xs) {p : Addr} (hp : ∀ g, a = some ⟨g, 0, none⟩ → g ≠ p.block) (u : Value) : OwnBo (w.setCell p u) lo a n c xs := h.keep fun g hg _ => Below.heap_setCell _ _ _ _ (hp g hg)
theorem OwnBo.setlo {w : World} {lo : Nat} {a : Option Addr} {n c : Nat} {xs : List Bool} (h : OwnBo w lo a n c xs) {p : Addr} (hp : p.block < lo) (u : Value) : OwnBo (w.setCell p u) lo a n c xs := by
  refine h.setne (fun g hg => ?_) u
  subst hg; have := h.lt; omega
theorem OwnBo.grown {w w' : World} {lo : Nat} {a : Option Addr} {n c : Nat} {xs : List Bool} {row : Option Nat} (h : OwnBo w lo a n c xs) (hg : w.grownBy w' row) (hne : ∀ g, a = some ⟨g, 0, none⟩ → some g ≠ row) : OwnBo w' lo a n c xs := h.keep fun g hg' hlt => hg.block g hlt (hne g hg')
theorem OwnBo.cap {w : World} {lo : Nat} {a : Option Addr} {n c : Nat} {xs : List Bool} (h : OwnBo w lo a n c xs) : n ≤ c ∧ c ≤ 9223372036854775807 := by
  rcases h.block with ⟨rfl, rfl, rfl⟩ | ⟨g, cur, rfl, h2, h3, h4, h5, h6, h7⟩
  · omega
  · unfold maxLen at h5; omega
theorem OwnBo.cells {w : World} {lo : Nat} {g o n c : Nat} {xs : List Bool} (h : OwnBo w lo (some ⟨g, o, none⟩) n c xs) : o = 0 ∧ (∀ i, i < n → w.cell? ⟨g, i, none⟩ = some (.bool (xs.getD i false))) ∧ (∀ i, w.frozen? ⟨g, i, none⟩ = false) := by
  rcases h.block with ⟨h1, _⟩ | ⟨g', cur, h1, h2, h3, h4, h5, h6, h7⟩
  · cases h1
  · cases h1
    refine ⟨rfl, fun i hi => h3.cell i ?_, fun i => h3.free i⟩
    have hx : (cur.toList.take n)[i]? = (xs.map Value.bool)[i]? := by rw [h7]
    have hxi : i < xs.length := by have := h.1; omega
    rw [List.getElem?_take, if_pos hi] at hx
    simp [List.getElem?_eq_getElem hxi] at hx
    simp [List.getD_eq_getElem?_getD, List.getElem?_eq_getElem hxi, hx]
theorem OwnBo.set {w : World} {lo : Nat} {g n c : Nat} {xs : List Bool} (h : OwnBo w lo (some ⟨g, 0, none⟩) n c xs) (i : Nat) (x : Bool) : OwnBo (w.setCell ⟨g, i, none⟩ (.bool x)) lo (some ⟨g, 0, none⟩) n c (xs.set i x) := by
  rcases h.block with ⟨h1, _⟩ | ⟨g', cur, h1, h2, h3, h4, h5, h6, h7⟩
  · cases h1
  · cases h1
    refine OwnBo.mk (by simp [h.1]) h2 (h3.set i _) h4 h5 (by simpa using h6) ?_
    rw [Array.toList_setIfInBounds, List.take_set, h7, List.map_set]
theorem OwnBo.hi {w : World} {lo : Nat} {a : Option Addr} {n c : Nat} {xs : List Bool} (h : OwnBo w lo a n c xs) : ∀ g, a = some ⟨g, 0, none⟩ → g < w.heap.size := fun g hg => by subst hg; exact h.lt.2
theorem OwnBo.lo {w : World} {lo : Nat} {a : Option Addr} {n c : Nat} {xs : List Bool} (h : OwnBo w lo a n c xs) : ∀ g, a = some ⟨g, 0, none⟩ → lo ≤ g := fun g hg => by subst hg; exact h.lt.1
theorem makeBo {ops : Array Oper} {rest : List Oper} {o : Oper} {a : Act} {Q : Exit → Act → World → Prop} {w : World} (hgd : o.guard = none) {l c : Operand}
    (ho : o.op = Op.makeSlice 154 l c) {n : Nat} (hl : a.eval l = .int .i64 n) (hc : a.eval c = .int .i64 n) (hn : n ≤ 1000000000000)
    (h : ∀ w', OwnBo w' w.heap.size (some ⟨w.heap.size, 0, none⟩) n n (List.replicate n false) → w.heap.size < w'.heap.size → Below w.heap.size w w' → wpList Tryz.prog ops Q rest (a.put o.dst (.slice (some ⟨w.heap.size, 0, none⟩) n n)) w') :
    wpList Tryz.prog ops Q (o :: rest) a w := by
  obtain ⟨i0, hi, hz0, hz1, hz2⟩ := info_parts info_bool
  refine wpList_make_full w hgd l c 154 ho w.heap.size 4 i0 (.bool false) 1 und_bools hi hz0 hz1 .i64 .i64 n n n hl hc rfl rfl (by rw [hz2]; omega) (by unfold maxLen; omega) (Nat.le_refl _) ?_
  intro w' ho' hg
  refine h w' ⟨by simp, ?_⟩ ?_ ((Below.refl _ _).grown hg (Nat.le_refl _) (by simp))
  · have e : (madeCells (Value.bool false).cells (n * 1)).toList = (List.replicate n false).map Value.bool := by
      rw [Nat.mul_one, List.map_replicate]; exact toList_madeCells_one _ _
    rw [e] at ho'; exact ho'
  · rcases ho'.2 with ⟨h1, _⟩ | ⟨g, cap, cur, h1, h2, h3, _⟩
    · cases h1
    · cases h1; exact lt_of_block h3
end Go.Proofs.YtpdgpgbgakinlaaGreat

namespace Go.Proofs.YtpdgpgbgakinlaaGreat
set_option maxRecDepth 100000
set_option linter.unusedVariables false
set_option linter.unusedSimpArgs false
open Go.RowKit
section
variable {w w' : World} {lo : Nat} {a : Option Addr} {n c : Nat} {vs : List SV}
end
theorem HdR.take {w : World} {a : Option Addr} {n k : Nat} {vs : List SV} (h : HdR w a n vs) (hk : k ≤ n) : HdR w a k (vs.take k) := by
  refine ⟨by rw [List.length_take]; have := h.1; omega, fun i hi => ?_⟩
  obtain ⟨b, off, h1, h2, h3⟩ := h.2 i (by omega)
  exact ⟨b, off, h1, h2, by rw [h3]; simp [List.getD_eq_getElem?_getD, List.getElem?_take, hi]⟩
theorem HdR.drop {w : World} {b off n k : Nat} {vs : List SV} (h : HdR w (some ⟨b, off, none⟩) n vs) (hk : k ≤ n) : HdR w (some ⟨b, off + k, none⟩) (n - k) (vs.drop k) := by
  refine ⟨by rw [List.length_drop]; have := h.1; omega, fun i hi => ?_⟩
  obtain ⟨b', off', h1, h2, h3⟩ := h.2 (k + i) (by omega)
  cases h1
  exact ⟨b, off + k, rfl, h2, by rw [Nat.add_assoc, h3]; simp [List.getD_eq_getElem?_getD, List.getElem?_drop]⟩
theorem HdR.nil {w : World} (a : Option Addr) : HdR w a 0 [] := ⟨rfl, fun i h => absurd h (by omega)⟩
structure LstQ (w : World) (a : Option Addr) (n : Nat) (vs : List SV) (L : List (List (List (List Int)))) : Prop where
  hd : HdR w a n vs
  len : n = L.length
  el : ∀ i, i < n → TbS w (vs.getD i svO).1 (vs.getD i svO).2.1 (L.getD i []) ∧ (vs.getD i svO).2.1 ≤ 9223372036854775807
theorem LstQ.below {w w' : World} {a : Option Addr} {n : Nat} {vs : List SV} {L : List (List (List (List Int)))} (h : LstQ w a n vs L) (hb : Below w.heap.size w w') : LstQ w' a n vs L :=
  ⟨h.hd.below hb, h.len, fun i hi => ⟨(h.el i hi).1.below hb, (h.el i hi).2⟩⟩
end Go.Proofs.YtpdgpgbgakinlaaGreat

namespace Go.Proofs.YtpdgpgbgakinlaaGreat
set_option maxRecDepth 100000
set_option linter.unusedVariables false
set_option linter.unusedSimpArgs false
open Go.RowKit
abbrev sAgg (a : Option Addr) (n c : Nat) (a' : Option Addr) (n' c' : Nat) : Value := .agg #[.slice a n c, .slice a' n' c']
abbrev rAgg (a : Option Addr) (n c : Nat) : Value := .agg #[.slice a n c]
set_option maxHeartbeats 400000 in
theorem isTable1_any (N : Nat) (b1 : Nat) (t1 : TypeId) (a : Option Addr) (n c : Nat) (xs : List Int) (w : World) (hL1 : Loc w b1 #[.int .i64 N] t1) (h1 : Row w a n xs) (hm : n ≤ 9223372036854775807) (hN1 : 1 ≤ N) (hN : N ≤ 12) :
    Calls Tryz.prog 145 #[.slice a n c, .pointer (some ⟨b1, 0, none⟩)] w fun e w' => e = .returned (.bool (!rowOk N N xs)) ∧ w = w' := by
  have l1 := hL1.one
  have hl := h1.len
  by_cases hn : n = N
  · have b1 : ((n : Int) != (N : Int)) = false := by subst hn; simp
    have hq : rowOk N N xs = xs.all (rngB 0 ((N : Int) - 1)) := by simp [rowOk, ← hl, hn]
    have HQ := Lib.hid hq; have HA := Lib.hid (fun w hr => allWithin_any a n c xs 0 ((N : Int) - 1) w hr hm); clear hq hl hn
    go_enter Tryz.func145, Tryz.ntmps145
    go_wp2_with fail
    refine (HA.out _ h1).mono ?_
    rintro e w' ⟨rfl, rfl⟩
    go_wp2
    go_ret
    exact ⟨ret_bool (by rw [HQ.out]), rfl⟩
  · have b1 : ((n : Int) != (N : Int)) = true := by simp; omega
    have hq : rowOk N N xs = false := by
      unfold rowOk
      have : ((xs.length : Int) = (N : Int)) = False := by simp; omega
      simp [this]
    have HQ := Lib.hid hq; clear hq hl hn
    go_enter Tryz.func145, Tryz.ntmps145
    go_wp2
    go_ret
    exact ⟨ret_bool (by rw [HQ.out]; rfl), rfl⟩
theorem ent_isTable1 : Ent 145 := fun _ _ => rfl
set_option maxHeartbeats 1000000 in
theorem isTable_any (a : Option Addr) (n c : Nat) (t : List (List Int)) (w : World) (h1 : Tbl w a n t) (hm : n ≤ 9223372036854775807) :
    Calls Tryz.prog 101 #[.slice a n c] w fun e w' => e = .returned (.bool (isTab t)) ∧ Below w.heap.size w w' := by
  have hl := h1.len
  have hB := below_al (Below.refl w.heap.size w) (.cells #[.int .i64 n] 2)
  cases hp : rngB 1 12 n with
  | false =>
    have hq : isTab t = false := by unfold isTab; rw [← hl, hp]; rfl
    have HQ := Lib.hid hq
    have HC := Lib.hid (fun w => within_b n 1 12 false hp w); clear hp hl hq
    go_enter Tryz.func101, Tryz.ntmps101
    go_wp2_with fail
    refine (HC.out _).mono ?_
    rintro e w' ⟨rfl, rfl⟩
    go_wp2
    go_ret
    exact ⟨ret_bool HQ.out.symm, hB⟩
  | true =>
    have hn12 : 1 ≤ n ∧ n ≤ 12 := by unfold rngB at hp; simp at hp; omega
    have HC := Lib.hid (fun w => within_b n 1 12 true hp w)
    have hq : isTab t = t.all (rowOk n n) := by unfold isTab; rw [← hl, hp]; rfl
    have HQ := Lib.hid hq; clear hq hl hp
    have hcl : ∀ x ∈ t, ∀ w1, (w.alloc (.cells #[.int .i64 n] 2)) = w1 → ∀ a' n' c', Row w1 a' n' x → n' ≤ 9223372036854775807 → Calls Tryz.prog 145 (#[.slice a' n' c'] ++ #[.pointer (some ⟨w.heap.size, 0, none⟩)]) w1 fun e w' => e = .returned (.bool (!rowOk n n x)) ∧ (w.alloc (.cells #[.int .i64 n] 2)) = w' := fun x hx w1 hw1 a' n' c' hr hn' => by
      subst hw1
      exact isTable1_any n _ _ a' n' c' x _ (Loc.new _ rfl _ _) hr hn' hn12.1 hn12.2
    have HCL := Lib.hid hcl; clear hcl
    go_enter Tryz.func101, Tryz.ntmps101
    go_wp2_with fail
    refine (HC.out _).mono ?_
    rintro e w' ⟨rfl, rfl⟩
    go_wp2_with fail
    refine (containsFunc_rows (fun w1 => (w.alloc (.cells #[.int .i64 n] 2)) = w1) 145 _ (fun x => !rowOk n n x) _ _ _ t _ rfl (fun w1 h => h ▸ h1.alloc _) hm ent_isTable1 HCL.out).mono ?_
    rintro e w' ⟨rfl, rfl⟩
    go_wp2
    go_ret
    refine ⟨ret_bool ?_, hB⟩
    rw [HQ.out]
    simp [List.any_eq_not_all_not]
end Go.Proofs.YtpdgpgbgakinlaaGreat

namespace Go.Proofs.YtpdgpgbgakinlaaGreat
set_option maxRecDepth 100000
set_option linter.unusedVariables false
set_option linter.unusedSimpArgs false
open Go.RowKit
def FltR (ok : Bool) (W w : World) (e : Ending) (w' : World) : Prop := ((ok = true ∧ e = .returned (.slice none 0 0)) ∨ (ok = false ∧ ∃ b n c, e = .returned (.slice (some ⟨b, 0, none⟩) n c))) ∧ Below W.heap.size W w'
theorem eq_reads (n : Nat) (f g : List (List Int)) (hf : Sq n f) (hg : Sq n g) {x y z : Nat} (hx : x < n) (hy : y < n) (hz : z < n) :
    ∃ a1 b1 b2 c2 a3 b3 e1 f1 d2 e2 e3 f3 : Nat, (a1 < n ∧ b1 < n ∧ b2 < n ∧ e1 < n ∧ f1 < n ∧ e2 < n) ∧
      (tv f x y = a1 ∧ tv g x y = b1 ∧ tv f b1 z = b2 ∧ tv g b1 z = c2 ∧ tv f a1 b2 = a3 ∧ tv g a1 b2 = b3) ∧
      (tv f y z = e1 ∧ tv g y z = f1 ∧ tv f x e1 = d2 ∧ tv g x e1 = e2 ∧ tv f e2 f1 = e3 ∧ tv g e2 f1 = f3) ∧
      eqAt f g x y z = ((decide (a3 = d2) && decide (b3 = e3)) && decide (c2 = f3)) :=
  ⟨_, _, _, _, _, _, _, _, _, _, _, _, ⟨hf.lt hx hy, hg.lt hx hy, hf.lt (hg.lt hx hy) hz, hf.lt hy hz, hg.lt hy hz, hg.lt hx (hf.lt hy hz)⟩, ⟨rfl, rfl, rfl, rfl, rfl, rfl⟩, ⟨rfl, rfl, rfl, rfl, rfl, rfl⟩, rfl⟩
set_option maxHeartbeats 4000000 in
theorem equationFault_any (a : Option Addr) (n c : Nat) (a' : Option Addr) (c' : Nat) (f g : List (List Int)) (w : World) (h1 : Tbl w a n f) (h2 : Tbl w a' n g) (hn1 : 1 ≤ n) (hn : n ≤ 12) (hf : Sq n f) (hg : Sq n g) :
    Calls Tryz.prog 83 #[sAgg a n c a' n c'] w (FltR (eqOk n f g) w w) := by
  obtain ⟨bf, of, A, O, C, rfl, Gf⟩ := h1.grid hf hn1
  obtain ⟨bg, og, A', O', C', rfl, Gg⟩ := h2.grid hg hn1
  clear h1 h2
  go_enter Tryz.func83, Tryz.ntmps83
  have hA := Loc.new w rfl #[.slice (some ⟨bf, of, none⟩) n c, .slice (some ⟨bg, og, none⟩) n c'] 26
  have lA := hA.two
  have gf := Gf.alloc (.cells #[.slice (some ⟨bf, of, none⟩) n c, .slice (some ⟨bg, og, none⟩) n c'] 26)
  have gg := Gg.alloc (.cells #[.slice (some ⟨bf, of, none⟩) n c, .slice (some ⟨bg, og, none⟩) n c'] 26)
  have hB := below_al (Below.refl w.heap.size w) (.cells #[.slice (some ⟨bf, of, none⟩) n c, .slice (some ⟨bg, og, none⟩) n c'] 26)
  clear Gf Gg
  go_wp2
  generalize (w.alloc (.cells #[.slice (some ⟨bf, of, none⟩) n c, .slice (some ⟨bg, og, none⟩) n c'] 26)) = w0 at *
  go_loopw [17] (fun i wr => ∃ k : Nat, k ≤ n ∧ i = .int .i64 k ∧ Hid (allN k (fun x => allN n fun y => allN n fun z => eqAt f g x y z) = true) ∧ ∃ m, wr = w0.drewN m) (fun i _ => n - (intOf i).toNat)
  case atStart => exact ⟨0, Nat.zero_le _, rfl, Lib.hid rfl, 0, rfl⟩
  case round =>
    obtain ⟨x, hx, rfl, hx1, m1, rfl⟩ := hrel
    by_cases hlt : x < n
    · go_wp2
      go_loopw [21] (fun i wr => ∃ k : Nat, k ≤ n ∧ i = .int .i64 k ∧ Hid (allN k (fun y => allN n fun z => eqAt f g x y z) = true) ∧ ∃ m, wr = w0.drewN m) (fun i _ => n - (intOf i).toNat)
      case atStart => exact ⟨0, Nat.zero_le _, rfl, Lib.hid rfl, m1, rfl⟩
      case round =>
        obtain ⟨y, hy, rfl, hy1, m2, rfl⟩ := hrel
        by_cases hlty : y < n
        · go_wp2
          go_loopw [25] (fun i wr => ∃ k : Nat, k ≤ n ∧ i = .int .i64 k ∧ Hid (allN k (fun z => eqAt f g x y z) = true) ∧ ∃ m, wr = w0.drewN m) (fun i _ => n - (intOf i).toNat)
          case atStart => exact ⟨0, Nat.zero_le _, rfl, Lib.hid rfl, m2, rfl⟩
          case round =>
            obtain ⟨z, hz, rfl, hz1, m3, rfl⟩ := hrel
            by_cases hltz : z < n
            · obtain ⟨a1, b1, b2, c2, a3, b3, e1, f1, d2, e2, e3, f3, ⟨l1, l2, l3, l4, l5, l6⟩, ⟨q1, q2, q3, q4, q5, q6⟩, ⟨q7, q8, q9, q10, q11, q12⟩, hE⟩ := eq_reads n f g hf hg hlt hlty hltz
              obtain ⟨r1, k1⟩ := gf.look hlt hlty
              obtain ⟨r2, k2⟩ := gg.look hlt hlty
              obtain ⟨r3, k3⟩ := gf.look l2 hltz
              obtain ⟨r4, k4⟩ := gg.look l2 hltz
              obtain ⟨r5, k5⟩ := gf.look l1 l3
              obtain ⟨r6, k6⟩ := gg.look l1 l3
              obtain ⟨r7, k7⟩ := gf.look hlty hltz
              obtain ⟨r8, k8⟩ := gg.look hlty hltz
              have k9 := gf.cell _ _ hlt l4
              have k10 := gg.cell _ _ hlt l4
              obtain ⟨r11, k11⟩ := gf.look l6 l5
              obtain ⟨r12, k12⟩ := gg.look l6 l5
              rw [q1] at k1; rw [q2] at k2; rw [q3] at k3; rw [q4] at k4; rw [q5] at k5; rw [q6] at k6; rw [q7] at k7; rw [q8] at k8; rw [q9] at k9; rw [q10] at k10; rw [q11] at k11; rw [q12] at k12
              have HE := Lib.hid hE
              clear q1 q2 q3 q4 q5 q6 q7 q8 q9 q10 q11 q12 hE gf gg hf hg
              go_wp2
              go_quiet (fail)
              go_wp2
              go_quiet (fail)
              go_wp2
              go_quiet (fail)
              go_wp2
              go_quiet (fail)
              go_wp2
              go_quiet (fail)
              go_wp2
              go_quiet (fail)
              clear r1 r2 r3 r4 r5 r6 r7 r8 r11 r12 k1 k2 k3 k4 k5 k6 k7 k8 k9 k10 k11 k12
              by_cases p1 : a3 = d2
              · by_cases p2 : b3 = e3
                · by_cases p3 : c2 = f3
                  · have u1 : ((a3 : Int) != (d2 : Int)) = false := by simp [p1]
                    have u2 : ((b3 : Int) != (e3 : Int)) = false := by simp [p2]
                    have u3 : ((c2 : Int) != (f3 : Int)) = false := by simp [p3]
                    have HE2 : Hid (eqAt f g x y z = true) := Lib.hid (by rw [HE.out]; simp [p1, p2, p3])
                    clear p1 p2 p3
                    go_wp2
                    go_roundw
                    case rel => exact ⟨z + 1, by omega, by go_num, Lib.hid (allN_succ hz1.out HE2.out), _, rfl⟩
                    case measure => simp [intOf]; omega
                  · have u1 : ((a3 : Int) != (d2 : Int)) = false := by simp [p1]
                    have u2 : ((b3 : Int) != (e3 : Int)) = false := by simp [p2]
                    have u3 : ((c2 : Int) != (f3 : Int)) = true := by simp; omega
                    have HE2 : Hid (eqAt f g x y z = false) := Lib.hid (by rw [HE.out]; simp [p3])
                    clear p1 p2 p3
                    go_wp2
                    go_ret
                    exact ⟨.inr ⟨allN_no hlt (allN_no hlty (allN_no hltz HE2.out)), _, _, _, rfl⟩, below_al (below_drewN hB _) _⟩
                · have u1 : ((a3 : Int) != (d2 : Int)) = false := by simp [p1]
                  have u2 : ((b3 : Int) != (e3 : Int)) = true := by simp; omega
                  have HE2 : Hid (eqAt f g x y z = false) := Lib.hid (by rw [HE.out]; simp [p2])
                  clear p1 p2
                  go_wp2
                  go_ret
                  exact ⟨.inr ⟨allN_no hlt (allN_no hlty (allN_no hltz HE2.out)), _, _, _, rfl⟩, below_al (below_drewN hB _) _⟩
              · have u1 : ((a3 : Int) != (d2 : Int)) = true := by simp; omega
                have HE2 : Hid (eqAt f g x y z = false) := Lib.hid (by rw [HE.out]; simp [p1])
                clear p1
                go_wp2
                go_ret
                exact ⟨.inr ⟨allN_no hlt (allN_no hlty (allN_no hltz HE2.out)), _, _, _, rfl⟩, below_al (below_drewN hB _) _⟩
            · obtain rfl : z = n := by omega
              go_wp2
              go_roundw
              case rel => exact ⟨y + 1, by omega, by go_num, Lib.hid (allN_succ hy1.out hz1.out), _, rfl⟩
              case measure => simp [intOf]; omega
        · obtain rfl : y = n := by omega
          go_wp2
          go_roundw
          case rel => exact ⟨x + 1, by omega, by go_num, Lib.hid (allN_succ hx1.out hy1.out), _, rfl⟩
          case measure => simp [intOf]; omega
    · obtain rfl : x = n := by omega
      go_wp2
      go_ret
      exact ⟨.inl ⟨hx1.out, rfl⟩, below_drewN hB _⟩
end Go.Proofs.YtpdgpgbgakinlaaGreat
