/-
  Walks and plain laws of this seat, some texts in one.
  No condition but bounds on lengths.
-/
import Derived.Test.YtkjpkdmnjbjjaaaGreatPk17
import Derived.Test.YtkjpkdmnjbjjaaaGreatPk10
import Derived.Test.YtkjpkdmnjbjjaaaGreatPk8
import Derived.Test.YtkjpkdmnjbjjaaaGreatPk15
import Derived.Test.YtkjpkdmnjbjjaaaGreatPk2
import Derived.Test.YtkjpkdmnjbjjaaaGreatPk9
import Derived.Test.YtkjpkdmnjbjjaaaGreatPk4
import Derived.Test.YtkjpkdmnjbjjaaaGreatPk7
import Derived.Test.YtkjpkdmnjbjjaaaGreatPk3
import Derived.Test.YtkjpkdmnjbjjaaaGreatPk1
import Derived.Lib.AppendZeros
import Derived.Deep.RegionHeld3
import Derived.StillTailTactics
namespace Go.Proofs.YtkjpkdmnjbjjaaaGreat
set_option maxRecDepth 100000
set_option linter.unusedVariables false
set_option linter.unusedSimpArgs false
open Go.RowKit
def colF (f g : List (List Int)) (s : Int) (xs l : List Int) : Bool × Int := if ckF f g s xs l = 0 then (decide (actL f.length f g xs l = l), 0) else (false, ckF f g s xs l)
set_option maxHeartbeats 4000000 in
theorem impl_Col_l (a : Option Addr) (n c : Nat) (f : List (List Int)) (a' : Option Addr) (n' c' : Nat) (g : List (List Int)) (s : Int) (ab : Option Addr) (nb cb : Nat) (xs : List Int) (al : Option Addr) (m cl : Nat) (l : List Int) (w : World)
    (h1 : Sol w a n f a' n' g) (hm : n ≤ 9223372036854775807 ∧ n' ≤ 9223372036854775807) (hs : I64 s) (hr : Row w ab nb xs) (hnb : nb ≤ 9223372036854775807) (hx : I64s xs) (hl : Row w al m l) (hml : m ≤ 9223372036854775807) (hxl : I64s l) :
    Calls Tryz.prog 28 #[sAgg a n c a' n' c', bAgg s ab nb cb, .slice al m cl] w (RetO w (colF f g s xs l).1 (colF f g s xs l).2) := by
  obtain ⟨hm1, hm2⟩ := hm
  have hA := (Loc.new w rfl #[.slice a n c, .slice a' n' c'] 26).alloc (.cells #[.int .i64 s, .slice ab nb cb] 42)
  have hE := Loc.new (w.alloc (.cells #[.slice a n c, .slice a' n' c'] 26)) rfl #[.int .i64 s, .slice ab nb cb] 42
  rw [size_alloc] at hE
  have hB := below_al (below_al (Below.refl w.heap.size w) (.cells #[.slice a n c, .slice a' n' c'] 26)) (.cells #[.int .i64 s, .slice ab nb cb] 42)
  by_cases hz : ckF f g s xs l = 0
  · obtain ⟨q1, q2, q3, q4⟩ := ckF_zero hz
    have hq : colF f g s xs l = (decide (actL f.length f g xs l = l), 0) := by unfold colF; rw [if_pos hz]
    rw [hq]
    obtain ⟨hn1, hn12, sf, sg⟩ := isSol_sq q1
    have hcc := isSol_coll q1
    have hfl := h1.f.len
    have hl2 : n' = n := by rw [h1.s.len, hfl]; have := sg.len; omega
    subst hl2
    have hml2 := hl.len
    obtain rfl : s = (m : Int) := by omega
    rw [← hfl] at hn1 hn12 sf sg hcc q4 ⊢
    have HSF := Lib.hid sf; have HSG := Lib.hid sg; have HC := Lib.hid hcc; have H1 := Lib.hid q1; have H2 := Lib.hid q2; have HZ := Lib.hid hz; have HLE := Lib.hid q4
    clear q1 q2 q3 q4 hz sf sg hcc hfl hml2 hq
    go_enter Tryz.func28, Tryz.ntmps28
    go_wp2_with fail
    generalize (w.alloc (.cells #[.slice a n' c, .slice a' n' c'] 26)).alloc (.cells #[.int .i64 m, .slice ab nb cb] 42) = w0 at *
    refine (checkAction_any _ _ _ _ _ _ f g _ _ _ _ xs _ _ _ l _ (h1.f.below hB) (h1.s.below hB) hm1 hm2 hs (hr.below hB) hnb (hl.below hB) hml).mono ?_
    rintro e w1 ⟨rfl, hb1⟩
    rw [HZ.out]
    have hA1 := hA.below hb1 hA.lt
    have hE1 := hE.below hb1 hE.lt
    have hB1 := below_th hB hb1
    have lA := hA1.two
    have lE := hE1.two
    clear hA hE hB hb1
    have tok1 : True := trivial
    go_wp2
    go_region_held3 (fun w' => (w'.cell? ⟨w.heap.size, 0, none⟩ = some (.slice a n' c) ∧ w'.cell? ⟨w.heap.size, 1, none⟩ = some (.slice a' n' c')) ∧ w'.cell? ⟨w.heap.size + 1, 0, none⟩ = some (.int .i64 m) ∧ w'.cell? ⟨w.heap.size + 1, 1, none⟩ = some (.slice ab nb cb))
      (first | exact ⟨⟨lA4.1, lA4.2.1⟩, lE4.1, lE4.2.1⟩ | exact ⟨⟨lA3.1, lA3.2.1⟩, lE3.1, lE3.2.1⟩ | exact ⟨⟨lA2.1, lA2.2.1⟩, lE2.1, lE2.2.1⟩ | exact ⟨⟨lA.1, lA.2.1⟩, lE.1, lE.2.1⟩)
      (first
        | (go_at_call 64; refine (newAction_any _ _ _ _ _ f g _ ((h1.f.below hB1).drewN 1) ((h1.s.below hB1).drewN 1) H1.out hn12).mono ?_; rintro e w2 ⟨b, d, vs, b', d', vs', rfl, ho, hb2⟩; have hq2 : Below w1.heap.size w1 w2 := (Below.drew (Below.refl _ _)).trans hb2; have lA2 := (hA1.below hq2 hA1.lt).two; have lE2 := (hE1.below hq2 hE1.lt).two)
        | (go_at_call 101; refine (lead_any _ _ _ _ _ _ _ _ _ f g m _ _ _ xs _ _ l _ (h1.f.below (below_th hB1 hq2)) (h1.s.below (below_th hB1 hq2)) ho.f.tbl ho.s.tbl hn1 HSF.out HSG.out HC.out (hr.below (below_th hB1 hq2)) H2.out (hl.below (below_th hB1 hq2)) HLE.out).mono ?_; rintro e w3 ⟨ao, co, rfl, ho3, hb3⟩; have hq3 := below_th hq2 hb3; have lA3 := (hA1.below hq3 hA1.lt).two; have lE3 := (hE1.below hq3 hE1.lt).two)
        | (go_at_call 100; refine (sEqual_b _ _ _ _ _ _ _ l _ ho3.row (hl.below (below_th hB1 hq3)) (by omega) _ rfl).mono ?_; rintro e w4 ⟨rfl, hb4⟩; have hq4 := below_th hq3 hb4; have lA4 := (hA1.below hq4 hA1.lt).two; have lE4 := (hE1.below hq4 hE1.lt).two))
    all_goals
      go_wp2
      go_ret2
      exact ⟨rfl, below_th hB1 hq4⟩
  · have hq : colF f g s xs l = (false, ckF f g s xs l) := by unfold colF; rw [if_neg hz]
    rw [hq]
    generalize hK : ckF f g s xs l = K at *
    have hb : (K != 0) = true := by simpa using hz
    have HK := Lib.hid hK
    clear hq hz hK
    go_enter Tryz.func28, Tryz.ntmps28
    go_wp2_with fail
    generalize (w.alloc (.cells #[.slice a n c, .slice a' n' c'] 26)).alloc (.cells #[.int .i64 s, .slice ab nb cb] 42) = w0 at *
    refine (checkAction_any _ _ _ _ _ _ f g _ _ _ _ xs _ _ _ l _ (h1.f.below hB) (h1.s.below hB) hm1 hm2 hs (hr.below hB) hnb (hl.below hB) hml).mono ?_
    rintro e w1 ⟨rfl, hb1⟩
    rw [HK.out]
    go_wp2
    go_ret2
    exact ⟨rfl, below_th hB hb1⟩
end Go.Proofs.YtkjpkdmnjbjjaaaGreat

namespace Go.Proofs.YtkjpkdmnjbjjaaaGreat
set_option maxRecDepth 100000
set_option linter.unusedVariables false
set_option linter.unusedSimpArgs false
open Go.RowKit
def bacF (f g : List (List Int)) (s : Int) (xs l : List Int) : List Int × Int := if ckF f g s xs l = 0 then (actL f.length f g xs l, 0) else ([], ckF f g s xs l)
end Go.Proofs.YtkjpkdmnjbjjaaaGreat

namespace Go.Proofs.YtkjpkdmnjbjjaaaGreat
set_option maxRecDepth 100000
set_option linter.unusedVariables false
set_option linter.unusedSimpArgs false
theorem isBr_of {s : Int} {xs : List Int} (h : 2 ≤ s ∧ s ≤ 6) (h2 : xs.length ≤ 30) (h3 : ∀ x ∈ xs, x ≠ 0 ∧ 1 - s ≤ x ∧ x ≤ s - 1) : isBr s xs = true := by
  have e1 : Go.RowKit.wrap64 (1 - s) = 1 - s := IntWalk.wrap64_in _ ⟨by omega, by omega⟩
  have e2 : Go.RowKit.wrap64 (s - 1) = s - 1 := IntWalk.wrap64_in _ ⟨by omega, by omega⟩
  simp only [isBr, Bool.and_eq_true, decide_eq_true_eq, List.all_eq_true]
  refine ⟨⟨⟨h.1, h.2⟩, h2⟩, fun x hx => ?_⟩
  have := h3 x hx
  simp only [isLet, e1, e2, Bool.and_eq_true, decide_eq_true_eq]
  exact ⟨this.1, this.2.1, this.2.2⟩
theorem ivL_br {s : Int} {xs : List Int} (h : isBr s xs = true) : isBr s (ivL xs) = true := by
  obtain ⟨h1, h2, h3⟩ := isBr_let h
  refine isBr_of h1 (by rw [ivL_len]; exact h2) fun x hx => ?_
  simp only [ivL, List.mem_reverse, List.mem_map] at hx
  obtain ⟨y, hy, rfl⟩ := hx
  have := h3 y hy
  exact ⟨by omega, by omega, by omega⟩
theorem all_less {n : Nat} {l : List Int} (h : Less n l) : l.all (rngB 0 ((n : Int) - 1)) = true := by
  rw [List.all_eq_true]
  intro x hx
  obtain ⟨i, hi, rfl⟩ := List.getElem_of_mem hx
  obtain ⟨k, hk, e⟩ := h i hi
  rw [List.getD_eq_getElem?_getD, List.getElem?_eq_getElem hi, Option.getD_some] at e
  unfold rngB
  rw [e, Bool.and_eq_true]
  exact ⟨by simp, by simp; omega⟩
theorem ckF_of {f g : List (List Int)} {s : Int} {xs l : List Int} (h1 : isSol f g = true) (h2 : isBr s xs = true) (h3 : (l.length : Int) = s) (h4 : Less f.length l) : ckF f g s xs l = 0 := by
  unfold ckF; rw [if_pos h1, if_pos h2, if_pos h3, if_pos (all_less h4)]
theorem bacF_of {f g : List (List Int)} {s : Int} {xs l : List Int} (h1 : isSol f g = true) (h2 : isBr s xs = true) (h3 : (l.length : Int) = s) (h4 : Less f.length l) : bacF f g s xs l = (actL f.length f g xs l, 0) := by
  unfold bacF; rw [if_pos (ckF_of h1 h2 h3 h4)]
end Go.Proofs.YtkjpkdmnjbjjaaaGreat

namespace Go.Proofs.YtkjpkdmnjbjjaaaGreat
set_option maxRecDepth 100000
set_option linter.unusedVariables false
set_option linter.unusedSimpArgs false
open Go.RowKit
def updQ (v : Nat → Nat → Int) (a b : Nat) (z : Int) : Nat → Nat → Int := fun x y => if x = a ∧ y = b then z else v x y
theorem tabQ_row {n : Nat} {v : Nat → Nat → Int} {x : Nat} (h : x < n) : (tabF n v).getD x [] = (List.range n).map fun y => v x y := tabF_get n v x h
theorem tabQ_val {n : Nat} {v : Nat → Nat → Int} {x y : Nat} (hx : x < n) (hy : y < n) : ((tabF n v).getD x []).getD y 0 = v x y := by
  rw [tabQ_row hx]; simp [List.getD_eq_getElem?_getD, List.getElem?_map, hy]
theorem tabQ_congr {n : Nat} {u v : Nat → Nat → Int} (h : ∀ x y, x < n → y < n → u x y = v x y) : tabF n u = tabF n v := by
  unfold tabF
  apply List.map_congr_left
  intro x hx
  apply List.map_congr_left
  intro y hy
  exact h x y (List.mem_range.1 hx) (List.mem_range.1 hy)
theorem tabQ_upd {n : Nat} {v : Nat → Nat → Int} {a b : Nat} (ha : a < n) (hb : b < n) (z : Int) : (tabF n v).set a (((tabF n v).getD a []).set b z) = tabF n (updQ v a b z) := by
  apply List.ext_getElem
  · simp [tabF]
  · intro i h1 h2
    have hi : i < n := by simpa [tabF] using h2
    have e2 : (tabF n (updQ v a b z))[i] = (List.range n).map fun y => updQ v a b z i y := by simp [tabF]
    rw [e2, List.getElem_set]
    by_cases e : a = i
    · subst e
      rw [if_pos rfl, tabQ_row ha]
      apply List.ext_getElem
      · simp
      · intro j g1 g2
        have hj : j < n := by simpa using g2
        rw [List.getElem_set]
        by_cases e : b = j
        · subst e; simp [updQ]
        · rw [if_neg e]; simp [updQ, fun h => e (Eq.symm h)]
          intro h; exact absurd h.symm e
    · rw [if_neg e]
      have : (tabF n v)[i]'(by simpa [tabF] using hi) = (List.range n).map fun y => v i y := by simp [tabF]
      rw [this]
      apply List.map_congr_left
      intro y hy
      simp [updQ, fun h => e (Eq.symm h)]
      intro h; exact absurd h.symm e
theorem OwnT.spotQ {w : World} {lo : Nat} {b : Option Addr} {n d : Nat} {vs : List SV} {v : Nat → Nat → Int} (h : OwnT w lo b n d vs (tabF n v)) {x : Nat} (hx : x < n) :
    ∃ gb g1 c1, b = some ⟨gb, 0, none⟩ ∧ vs.getD x svO = (some ⟨g1, 0, none⟩, n, c1) ∧ w.cell? ⟨gb, x, none⟩ = some (.slice (some ⟨g1, 0, none⟩) n c1) ∧ (∀ y, y < n → w.cell? ⟨g1, y, none⟩ = some (.int .i64 (v x y)) ∧ w.frozen? ⟨g1, y, none⟩ = false) ∧ TblS b n vs g1 := by
  obtain ⟨gb, hb, _, hc, _⟩ := h.cells (by omega)
  have hr := h.row x hx
  have hl := hr.len
  rw [tabQ_row hx] at hl
  have hk : (vs.getD x svO).2.1 = n := by simpa using hl
  obtain ⟨g1, o1, e1, _⟩ := hr.row.at x (by omega)
  rw [e1] at hr
  obtain ⟨rfl, h2, h3⟩ := hr.cells
  have hcx := hc x hx
  rw [e1, hk] at hcx
  refine ⟨gb, g1, _, hb, Prod.ext e1 (Prod.ext hk rfl), hcx, fun y hy => ⟨?_, h3 y⟩, .inr ⟨x, hx, e1⟩⟩
  have := h2 y (by omega)
  rw [this, tabQ_val hx hy]
theorem OwnT.putQ {w : World} {lo : Nat} {b : Option Addr} {n d : Nat} {vs : List SV} {v : Nat → Nat → Int} (h : OwnT w lo b n d vs (tabF n v)) {x y g1 c1 : Nat} (hx : x < n) (hy : y < n) (e : vs.getD x svO = (some ⟨g1, 0, none⟩, n, c1)) (z : Int) :
    OwnT (w.setCell ⟨g1, y, none⟩ (.int .i64 z)) lo b n d vs (tabF n (updQ v x y z)) := by
  have := h.setrow x hx (g := g1) (by rw [e]) y z
  rw [tabQ_upd hx hy] at this
  exact this
theorem OwnT.asetQ {w : World} {lo : Nat} {b : Option Addr} {n d : Nat} {vs : List SV} {F : List (List Int)} (h : OwnT w lo b n d vs F) {p : Addr} (hp : ∀ q, TblS b n vs q → q ≠ p.block) (u : Value) : OwnT (w.setCell p u) lo b n d vs F :=
  h.keep fun g hg _ => Below.heap_setCell _ _ _ _ (hp g hg)
end Go.Proofs.YtkjpkdmnjbjjaaaGreat

namespace Go.Proofs.YtkjpkdmnjbjjaaaGreat
set_option maxRecDepth 100000
set_option linter.unusedVariables false
set_option linter.unusedSimpArgs false
theorem thL_isP {n : Nat} {p q : List Int} (h : IsP n p) (k : IsP n q) : IsP n (thL p q) := by
  obtain ⟨f, g, hl, h1, h2⟩ := h
  obtain ⟨f', g', hl', h1', h2'⟩ := k
  refine ⟨fun i => f' (f i), fun i => g (g' i), by rw [thL_len]; exact hl, fun i hi => ?_, fun i hi => ?_⟩
  · have a1 := h1 i hi
    have a2 := h1' i hi
    have a3 := h1' (f i) a1.1
    have a4 := h1 (g' i) a2.2.1
    refine ⟨a3.1, a4.2.1, ?_, ?_⟩
    · show f' (f (g (g' i))) = i
      rw [a4.2.2.1, a2.2.2.1]
    · show g (g' (f' (f i))) = i
      rw [a3.2.2.2, a1.2.2.2]
  · have hp : i < p.length := by omega
    have e : (thL p q).getD i 0 = q.getD (p.getD i 0).toNat 0 := by
      simp [thL, List.getD_eq_getElem?_getD, List.getElem?_eq_getElem hp]
    rw [e, h2 i hi, Int.toNat_natCast, h2' (f i) (h1 i hi).1]
def RwOk (n : Nat) (r : List Int) : Prop := r = [] ∨ IsP n r
def RwsOk (n : Nat) (o : List (List Int)) : Prop := o.length = n ∧ ∀ i, i < n → RwOk n (o.getD i [])
theorem RwsOk.set {n : Nat} {o : List (List Int)} (h : RwsOk n o) (z : Nat) {r : List Int} (hr : RwOk n r) : RwsOk n (o.set z r) := by
  refine ⟨by rw [List.length_set]; exact h.1, fun i hi => ?_⟩
  rw [getD_set' o z i r [] (by rw [h.1]; exact hi)]
  split
  · exact hr
  · exact h.2 i hi
theorem IsP.ne {n : Nat} {r : List Int} (hn : 0 < n) (h : IsP n r) : r ≠ [] := fun e => by have := h.len; rw [e] at this; simp at this; omega
theorem IsP.at {n : Nat} {r : List Int} (h : IsP n r) {y : Nat} (hy : y < n) : ∃ z : Nat, r.getD y 0 = z ∧ z < n := by
  obtain ⟨f, g, hl, h1, h2⟩ := h
  exact ⟨f y, h2 y hy, (h1 y hy).1⟩
end Go.Proofs.YtkjpkdmnjbjjaaaGreat

namespace Go.Proofs.YtkjpkdmnjbjjaaaGreat
set_option maxRecDepth 100000
set_option linter.unusedVariables false
set_option linter.unusedSimpArgs false
open Go.RowKit
def rnV (t : List (List Int)) (p : List Int) (x y : Nat) : Int := p.getD (tv t ((backF p).getD x 0).toNat ((backF p).getD y 0).toNat) 0
def rnL (n : Nat) (t : List (List Int)) (p : List Int) : List (List Int) := tabF n (rnV t p)
end Go.Proofs.YtkjpkdmnjbjjaaaGreat

namespace Go.Proofs.YtkjpkdmnjbjjaaaGreat
set_option maxRecDepth 100000
set_option linter.unusedVariables false
set_option linter.unusedSimpArgs false
open Go.RowKit
set_option maxHeartbeats 2000000 in
theorem l01Own2_any (a : Option Addr) (n c : Nat) (xss : List (List Int)) (w : World) (h : Tbl w a n xss) (hm : n ≤ 1000000) (hx : ∀ x ∈ xss, x.length ≤ 1000000) :
    Calls Tryz.prog 150 #[.slice a n c] w fun e w' => ∃ a' c' vs, e = .returned (.slice a' n c') ∧ OwnT w' w.heap.size a' n c' vs xss ∧ Below w.heap.size w w' := by
  have HL := Lib.hid h.len
  have HX := Lib.hid hx; clear hx
  go_enter Tryz.func150, Tryz.ntmps150
  go_wp2
  have hO := OwnT.fresh w rfl
  have hB := below_al (Below.refl w.heap.size w) (.cells #[] 35)
  go_loopw [3, 4] (fun z i wr => ∃ (k : Nat) (az : Option Addr) (cz : Nat) (vz : List SV), k ≤ n ∧ i = .int .i64 k ∧ z = .slice az k cz ∧ OwnT wr w.heap.size az k cz vz (xss.take k) ∧ Below w.heap.size w wr) (fun _ i _ => n - (intOf i).toNat)
  case atStart => exact ⟨0, _, 0, _, Nat.zero_le _, rfl, rfl, by simpa using hO, hB⟩
  case round =>
    clear hO hB
    obtain ⟨k, az, cz, vz, hk, rfl, rfl, ho, hb⟩ := hrel
    by_cases hlt : k < n
    · obtain ⟨b, off, ai, ni, ci, rfl, g1, hr, hni⟩ := (h.below hb).at k hlt
      have hxk : k < xss.length := by have := HL.out; omega
      rw [Tbl.getD hxk] at hr
      have hni2 : ni ≤ 1000000 := by have := hr.len; have := HX.out _ (List.getElem_mem hxk); omega
      have HT : Hid (xss.take (k + 1) = xss.take k ++ [xss[k]]) := Lib.hid (List.take_succ_eq_append_getElem hxk)
      generalize xss[k] = X at *
      go_wp2_with fail
      refine (l01Own_any _ _ _ X _ hr (by omega)).mono ?_
      rintro e w1 ⟨a1, c1, rfl, ho1, hb1⟩
      have hbb := hb.size
      have hz1 := ho.below hb1
      have hq1 := below_th hb hb1
      have hs1 := hb1.size
      go_wp2_with (at_builtin; refine appT1 rfl rfl hz1 rfl (ho1.mono hbb) (fun g h1 h2 => by have h3 := ho.high _ h1; have h4 := ho1.lo _ h2; omega) (fun i hi g h1 h2 => by have h3 := ho1.lo _ h1; have h4 := (ho.row i hi).hi _ h2; omega) rfl (by omega) (by omega) ?_; intro g' cc w2 hO hb2)
      go_roundw
      case rel => exact ⟨k + 1, _, _, _, by omega, by go_num, rfl, by rw [HT.out]; exact hO, hq1.trans hb2⟩
      case measure => simp [intOf]; omega
    · obtain rfl : k = n := by omega
      go_wp2
      go_ret
      refine ⟨_, _, vz, rfl, ?_, hb⟩
      rw [List.take_of_length_le (by have := HL.out; omega)] at ho
      exact ho
end Go.Proofs.YtkjpkdmnjbjjaaaGreat

namespace Go.Proofs.YtkjpkdmnjbjjaaaGreat
set_option maxRecDepth 100000
set_option linter.unusedVariables false
set_option linter.unusedSimpArgs false
open Go.RowKit
theorem sq_tabF {n : Nat} {t : List (List Int)} (h : Sq n t) : tabF n (fun x y => (t.getD x []).getD y 0) = t := by
  apply List.ext_getElem
  · simp [tabF, h.1]
  · intro i h1 h2
    have hi : i < n := by simpa [tabF] using h1
    have hl := (h.2 i hi).1
    rw [List.getD_eq_getElem?_getD, List.getElem?_eq_getElem h2, Option.getD_some] at hl
    apply List.ext_getElem
    · simp [tabF, hl]
    · intro j h3 h4
      simp [tabF, List.getD_eq_getElem?_getD, List.getElem?_eq_getElem h2, List.getElem?_eq_getElem h4]
def imgI (t : List (List Int)) (p : List Int) (x y : Nat) : Int := p.getD (tv t x y) 0
def ImgK (n : Nat) (t : List (List Int)) (p : List Int) (V : Nat → Nat → Int) (x y : Nat) : Prop := ∀ x' y', x' < n → y' < n → (x' < x ∨ x' = x ∧ y' < y) → V (p.getD x' 0).toNat (p.getD y' 0).toNat = imgI t p x' y'
theorem ImgK.step {n : Nat} {t : List (List Int)} {p : List Int} {V : Nat → Nat → Int} {x y u v : Nat} (hP : IsP n p) (h : ImgK n t p V x y) (hx : x < n) (hy : y < n) (hu : (p.getD x 0).toNat = u) (hv : (p.getD y 0).toNat = v) : ImgK n t p (updQ V u v (imgI t p x y)) x (y + 1) := by
  obtain ⟨f, g, hl, h1, h2⟩ := hP
  have hf : ∀ i, i < n → (p.getD i 0).toNat = f i := fun i hi => by rw [h2 i hi, Int.toNat_natCast]
  have inj : ∀ i j, i < n → j < n → f i = f j → i = j := fun i j hi hj e => by rw [← (h1 i hi).2.2.2, ← (h1 j hj).2.2.2, e]
  intro x' y' hx' hy' hq
  unfold updQ
  by_cases e : x' = x ∧ y' = y
  · obtain ⟨rfl, rfl⟩ := e
    rw [if_pos ⟨hu, hv⟩]
  · rw [if_neg, h x' y' hx' hy' (by omega)]
    rintro ⟨e1, e2⟩
    rw [← hu, hf _ hx', hf _ hx] at e1
    rw [← hv, hf _ hy', hf _ hy] at e2
    exact e ⟨inj _ _ hx' hx e1, inj _ _ hy' hy e2⟩
theorem ImgK.next {n : Nat} {t : List (List Int)} {p : List Int} {V : Nat → Nat → Int} {x : Nat} (h : ImgK n t p V x n) : ImgK n t p V (x + 1) 0 := fun x' y' hx' hy' hq => h x' y' hx' hy' (by omega)
theorem backF_at {n : Nat} {p : List Int} (hP : IsP n p) : ∀ u, u < n → ∃ q : Nat, (backF p).getD u 0 = q ∧ q < n ∧ p.getD q 0 = u := by
  obtain ⟨f, g, hp⟩ := hP
  have hb := backK_get n p f g hp n (Nat.le_refl _)
  obtain ⟨hl, h1, h2⟩ := hp
  intro u hu
  refine ⟨g u, ?_, (h1 u hu).2.1, ?_⟩
  · unfold backF; rw [hl, hb u hu, if_pos (h1 u hu).2.1]
  · rw [h2 (g u) (h1 u hu).2.1, (h1 u hu).2.2.1]
theorem ImgK.done {n : Nat} {t : List (List Int)} {p : List Int} {V : Nat → Nat → Int} (hP : IsP n p) (h : ImgK n t p V n 0) : tabF n V = rnL n t p := by
  refine tabQ_congr fun u v hu hv => ?_
  obtain ⟨q, e1, h1, e2⟩ := backF_at hP u hu
  obtain ⟨r, e3, h3, e4⟩ := backF_at hP v hv
  have := h q r h1 h3 (.inl h1)
  rw [e2, e4, Int.toNat_natCast, Int.toNat_natCast] at this
  rw [this]
  unfold rnV imgI
  rw [e1, e3, Int.toNat_natCast, Int.toNat_natCast]
set_option maxHeartbeats 16000000 in
theorem l03Image_any (n : Nat) (at_ ap : Option Addr) (ct cp : Nat) (t : List (List Int)) (p : List Int) (w : World) (h1 : Tbl w at_ n t) (h2 : Row w ap n p) (hs : Sq n t) (hP : IsP n p) (hn0 : 1 ≤ n) (hn : n ≤ 12) :
    Calls Tryz.prog 195 #[.slice at_ n ct, .slice ap n cp] w fun e w' => ∃ a c vs, e = .returned (.slice a n c) ∧ OwnT w' w.heap.size a n c vs (rnL n t p) ∧ Below w.heap.size w w' := by
  have HP := Lib.hid hP
  have hlen : ∀ x ∈ t, x.length ≤ 1000000 := fun x hx => by
    obtain ⟨i, hi, rfl⟩ := List.getElem_of_mem hx
    have := (hs.2 i (by rw [← hs.1]; exact hi)).1
    rw [List.getD_eq_getElem?_getD, List.getElem?_eq_getElem hi] at this
    simp at this; omega
  have HS := Lib.hid hs; have HLEN := Lib.hid hlen
  clear hlen hs hP
  go_enter Tryz.func195, Tryz.ntmps195
  go_wp2_with fail
  refine (l01Own2_any _ _ _ t _ h1 (by omega) HLEN.out).mono ?_
  rintro e w1 ⟨a1, c1, vs1, rfl, ho1, hb1⟩
  rw [← sq_tabF HS.out] at ho1
  have hz1 := hb1.size
  obtain ⟨gm, rfl, _⟩ := ho1.cells (by omega)
  have HLO := Lib.hid ho1.uLo
  go_wp2
  go_loopw [6, 7] (fun i _ wr => ∃ (x : Nat) (V : Nat → Nat → Int), x ≤ n ∧ i = .int .i64 x ∧ OwnT wr w.heap.size (some ⟨gm, 0, none⟩) n c1 vs1 (tabF n V) ∧ Hid (ImgK n t p V x 0) ∧ Below w.heap.size w wr) (fun i _ _ => n - (intOf i).toNat)
  case atStart => exact ⟨0, _, Nat.zero_le _, rfl, ho1, Lib.hid (fun x' y' _ _ h => by omega), hb1⟩
  case round =>
    clear ho1
    obtain ⟨x, V, hx, rfl, ho, HV, hq⟩ := hrel
    by_cases hlt : x < n
    · go_wp2
      go_loopw [7] (fun j wr => ∃ (y : Nat) (V : Nat → Nat → Int), y ≤ n ∧ j = .int .i64 y ∧ OwnT wr w.heap.size (some ⟨gm, 0, none⟩) n c1 vs1 (tabF n V) ∧ Hid (ImgK n t p V x y) ∧ Below w.heap.size w wr) (fun j _ => n - (intOf j).toNat)
      case atStart => exact ⟨0, V, Nat.zero_le _, rfl, ho, HV, hq⟩
      case round =>
        clear ho hq
        obtain ⟨y, V, hy, rfl, ho, HV, hq⟩ := hrel
        by_cases hly : y < n
        · obtain ⟨b, off, A, O, C, rfl, G0⟩ := h1.grid HS.out (by omega)
          have G := (G0.below hq).look hlt hly
          obtain ⟨u, hu, hun⟩ := HP.out.at hlt
          obtain ⟨v, hv, hvn⟩ := HP.out.at hly
          obtain ⟨bp, op, rfl, gu⟩ := (h2.below hq).at x hlt
          obtain ⟨bp', op', e', gv⟩ := (h2.below hq).at y hly
          cases e'
          have hz := HS.out.lt hlt hly
          obtain ⟨z, HZ⟩ : ∃ z, Hid (tv t x y = z) := ⟨_, rfl⟩
          rw [HZ.out] at G hz
          obtain ⟨bp'', op'', e'', gz⟩ := (h2.below hq).at z hz
          cases e''
          obtain ⟨Z, HZZ⟩ : ∃ Z, Hid (p.getD z 0 = Z) := ⟨_, rfl⟩
          rw [HZZ.out] at gz
          rw [hu] at gu
          rw [hv] at gv
          obtain ⟨gm', g1, cg, e3, ev, r1, hc1, ht1⟩ := ho.spotQ hun
          cases e3
          have k1 := (hc1 v hvn).1
          have f1 := (hc1 v hvn).2
          have hput := ho.putQ hun hvn ev Z
          have HST : Hid (ImgK n t p (updQ V u v Z) x (y + 1)) := Lib.hid (by
            have := ImgK.step HP.out HV.out hlt hly (u := u) (v := v) (by rw [hu, Int.toNat_natCast]) (by rw [hv, Int.toNat_natCast])
            rw [show imgI t p x y = Z by unfold imgI; rw [HZ.out, HZZ.out]] at this
            exact this)
          have hg1 : w.heap.size ≤ g1 := HLO.out g1 ht1
          have HPUT := Lib.hid hput
          have i1 : (0 : Int) ≤ (x : Int) := by omega
          have i2 : (x : Int) < (n : Int) := by omega
          have i3 : (0 : Int) ≤ (y : Int) := by omega
          have i4 : (y : Int) < (n : Int) := by omega
          have i5 : (0 : Int) ≤ (u : Int) := by omega
          have i6 : (u : Int) < (n : Int) := by omega
          have i7 : (0 : Int) ≤ (v : Int) := by omega
          have i8 : (v : Int) < (n : Int) := by omega
          have i9 : (0 : Int) ≤ (z : Int) := by omega
          have i10 : (z : Int) < (n : Int) := by omega
          obtain ⟨G1, G2⟩ := G
          have hq8 : Below w.heap.size w wr.drew := hq.drew
          have hput8 : Hid (OwnT (wr.drew.setCell ⟨g1, v, none⟩ (.int .i64 Z)) w.heap.size (some ⟨gm, 0, none⟩) n c1 vs1 (tabF n (updQ V u v Z))) := Lib.hid (hput.drewN 1)
          clear hu hv hc1 hput ho hq HPUT
          go_wp2
          refine wp_region_still_tail 22 (by kernel_rfl) (by kernel_rfl) ?_
          change wpStill _ _ wr.drew (fun a' => wpList _ _ _ _ a' wr.drew) _ _
          have G18 : wr.drew.cell? _ = _ := G1
          have G28 : wr.drew.cell? _ = _ := G2
          have gu8 : wr.drew.cell? _ = _ := gu
          have gv8 : wr.drew.cell? _ = _ := gv
          have gz8 : wr.drew.cell? _ = _ := gz
          have r18 : wr.drew.cell? _ = _ := r1
          have k18 : wr.drew.cell? _ = _ := k1
          have f18 : wr.drew.frozen? ⟨g1, v, none⟩ = false := f1
          clear G1 G2 gu gv gz r1 k1 f1
          generalize wr.drew = w8 at *
          simp only [List.take_succ_cons, List.take_zero, List.drop_succ_cons, List.drop_zero]
          repeat still_step
          refine wpStill_nil ?_
          go_wp2
          go_roundw
          case rel => exact ⟨y + 1, _, by omega, by go_num, hput8.out, HST, below_setne hq8 hg1 _⟩
          case measure => simp [intOf]; omega
        · obtain rfl : n = y := by omega
          go_wp2
          go_roundw
          case rel => exact ⟨x + 1, V, by omega, by go_num, ho, Lib.hid HV.out.next, hq⟩
          case measure => simp [intOf]; omega
    · obtain rfl : n = x := by omega
      go_wp2
      go_ret
      exact ⟨_, _, _, rfl, by rw [← ImgK.done HP.out HV.out]; exact ho, hq⟩
end Go.Proofs.YtkjpkdmnjbjjaaaGreat

namespace Go.Proofs.YtkjpkdmnjbjjaaaGreat
set_option maxRecDepth 100000
set_option linter.unusedVariables false
set_option linter.unusedSimpArgs false
theorem tabF_tv {n : Nat} {v : Nat → Nat → Int} {x y : Nat} (hx : x < n) (hy : y < n) : tv (tabF n v) x y = (v x y).toNat := by
  unfold tv
  rw [tabF_get _ _ _ hx]
  simp [List.getD_eq_getElem?_getD, hy]
theorem tabF_sqI {n : Nat} {v : Nat → Nat → Int} (h : ∀ x y, x < n → y < n → 0 ≤ v x y ∧ v x y < n) : Sq n (tabF n v) := by
  refine ⟨tabF_len _ _, fun x hx => ?_⟩
  have e := tabF_get n v x hx
  refine ⟨by rw [e]; simp, fun y hy => ?_⟩
  have := h x y hx hy
  rw [tabF_tv hx hy]
  refine ⟨by omega, ?_⟩
  rw [e]
  simp [List.getD_eq_getElem?_getD, hy]
  omega
theorem isP_of {n : Nat} {p : List Int} (h : IsP n p) : ∃ f g, IsPf n p f g := h
theorem backF_pf {n : Nat} {p : List Int} {f g : Nat → Nat} (h : IsPf n p f g) : IsPf n (backF p) g f := by
  have hb := backK_get n p f g h n (Nat.le_refl _)
  obtain ⟨hl, h1, h2⟩ := h
  refine ⟨by rw [backF_len]; exact hl, fun i hi => ⟨(h1 i hi).2.1, (h1 i hi).1, (h1 i hi).2.2.2, (h1 i hi).2.2.1⟩, fun i hi => ?_⟩
  unfold backF; rw [hl, hb i hi, if_pos (h1 i hi).2.1]
theorem rn_tv {n : Nat} {t : List (List Int)} {p : List Int} {f g : Nat → Nat} (hp : IsPf n p f g) (hs : Sq n t) {x y : Nat} (hx : x < n) (hy : y < n) : rnV t p x y = ((f (tv t (g x) (g y)) : Nat) : Int) := by
  have hb := (backF_pf hp).2.2
  unfold rnV
  rw [hb x hx, hb y hy, Int.toNat_natCast, Int.toNat_natCast]
  exact hp.2.2 _ (hs.lt (hp.2.1 x hx).2.1 (hp.2.1 y hy).2.1)
theorem rnL_sq {n : Nat} {t : List (List Int)} {p : List Int} (hp : IsP n p) (hs : Sq n t) : Sq n (rnL n t p) := by
  obtain ⟨f, g, hp⟩ := isP_of hp
  refine tabF_sqI fun x y hx hy => ?_
  rw [rn_tv hp hs hx hy]
  have := (hp.2.1 _ (hs.lt (hp.2.1 x hx).2.1 (hp.2.1 y hy).2.1)).1
  omega
end Go.Proofs.YtkjpkdmnjbjjaaaGreat

namespace Go.Proofs.YtkjpkdmnjbjjaaaGreat
set_option maxRecDepth 100000
set_option linter.unusedVariables false
set_option linter.unusedSimpArgs false
/-! ### tables as functions -/
structure Ybe (n : Nat) (f g : List (List Int)) : Prop where
  sf : Sq n f
  sg : Sq n g
  pos : 1 ≤ n
  coll : collOk n f g = true
  one : ∀ x y z, x < n → y < n → z < n → tv f (tv f x y) (tv f (tv g x y) z) = tv f x (tv f y z)
  two : ∀ x y z, x < n → y < n → z < n → tv g (tv f x y) (tv f (tv g x y) z) = tv f (tv g x (tv f y z)) (tv g y z)
  three : ∀ x y z, x < n → y < n → z < n → tv g (tv g x y) z = tv g (tv g x (tv f y z)) (tv g y z)
  row : ∀ x, x < n → IsP n (f.getD x [])
theorem eqOk_at {n : Nat} {f g : List (List Int)} (h : eqOk n f g = true) {x y z : Nat} (hx : x < n) (hy : y < n) (hz : z < n) :
    tv f (tv f x y) (tv f (tv g x y) z) = tv f x (tv f y z) ∧ tv g (tv f x y) (tv f (tv g x y) z) = tv f (tv g x (tv f y z)) (tv g y z) ∧ tv g (tv g x y) z = tv g (tv g x (tv f y z)) (tv g y z) := by
  have := allN_get (allN_get (allN_get h hx) hy) hz
  unfold eqAt at this
  simp only [Bool.and_eq_true, decide_eq_true_eq] at this
  exact ⟨this.1.1, this.1.2, this.2⟩
section
variable {n : Nat} {f g : List (List Int)}
def bkN (f : List (List Int)) (x y : Nat) : Nat := ((backF (f.getD x [])).getD y 0).toNat
theorem Ybe.bk (h : Ybe n f g) {x y : Nat} (hx : x < n) (hy : y < n) : bkN f x y < n ∧ tv f x (bkN f x y) = y := by
  obtain ⟨q, e1, hq, e2⟩ := backF_at (h.row x hx) y hy
  unfold bkN tv
  rw [e1, Int.toNat_natCast, e2, Int.toNat_natCast]
  exact ⟨hq, rfl⟩
theorem Ybe.inj (h : Ybe n f g) {x y z : Nat} (hx : x < n) (hy : y < n) (hz : z < n) (e : tv f x y = tv f x z) : y = z := by
  obtain ⟨F, G, hl, h1, h2⟩ := h.row x hx
  unfold tv at e
  rw [h2 y hy, h2 z hz, Int.toNat_natCast, Int.toNat_natCast] at e
  rw [← (h1 y hy).2.2.2, ← (h1 z hz).2.2.2, e]
/-! ### the map of tuples -/
end
end Go.Proofs.YtkjpkdmnjbjjaaaGreat
