/-
  A table renamed by a permutation: what the program's function makes.
  No condition but bounds.
-/
import Derived.Test.YtehomfbehhlhmaaBase
import Derived.Test.YtehomfbehhlhmaaBPerm
import Derived.Test.YtehomfbehhlhmaaSprL
namespace Go.Proofs.Ytehomfbehhlhmaa
set_option maxRecDepth 100000
set_option linter.unusedVariables false
set_option linter.unusedSimpArgs false
open Go.RowKit

def rnV (t : List (List Int)) (p : List Int) (x y : Nat) : Int := p.getD (tv t ((backF p).getD x 0).toNat ((backF p).getD y 0).toNat) 0
def rnL (n : Nat) (t : List (List Int)) (p : List Int) : List (List Int) := tabF n (rnV t p)

set_option maxHeartbeats 4000000 in
theorem renamed1_any (n bp bt bq : Nat) (tp tt tq : TypeId) (at_ ap aq : Option Addr) (ct cp cq : Nat) (t : List (List Int)) (p : List Int) (w : World) (hp : Loc w bp #[.slice ap n cp] tp) (ht : Loc w bt #[.slice at_ n ct] tt) (hq : Loc w bq #[.slice aq n cq] tq)
    (h1 : Tbl w at_ n t) (h2 : Row w ap n p) (h3 : Row w aq n (backF p)) (hs : Sq n t) (hP : IsP n p) (hn : n ≤ 12) (x y : Nat) (hx : x < n) (hy : y < n) :
    Calls Try.prog 205 #[.int .i64 x, .int .i64 y, .pointer (some ⟨bp, 0, none⟩), .pointer (some ⟨bt, 0, none⟩), .pointer (some ⟨bq, 0, none⟩)] w fun e w' => e = .returned (.int .i64 (rnV t p x y)) ∧ ∃ m, w' = w.drewN m := by
  obtain ⟨b, off, A, O, C, rfl, G⟩ := h1.grid hs (by omega)
  obtain ⟨qx, hqx, hqxn⟩ := (back_isP hP).at hx
  obtain ⟨qy, hqy, hqyn⟩ := (back_isP hP).at hy
  obtain ⟨b2, o2, rfl, g2⟩ := h3.at x hx
  obtain ⟨b2', o2', e2, g3⟩ := h3.at y hy
  cases e2
  rw [hqx] at g2
  rw [hqy] at g3
  have g4 := G.look hqxn hqyn
  have hv := hs.lt hqxn hqyn
  obtain ⟨v, HV⟩ : ∃ v, Hid (tv t qx qy = v) := ⟨_, rfl⟩
  rw [HV.out] at g4 hv
  obtain ⟨b3, o3, rfl, g5⟩ := h2.at v hv
  obtain ⟨u, HU⟩ : ∃ u, Hid (p.getD v 0 = u) := ⟨_, rfl⟩
  rw [HU.out] at g5
  have hr : rnV t p x y = u := by unfold rnV; rw [hqx, hqy, Int.toNat_natCast, Int.toNat_natCast, HV.out, HU.out]
  rw [hr]
  have l1 := hp.one
  have l2 := ht.one
  have l3 := hq.one
  have i1 : (0 : Int) ≤ (x : Int) := by omega
  have i2 : (x : Int) < (n : Int) := by omega
  have i3 : (0 : Int) ≤ (y : Int) := by omega
  have i4 : (y : Int) < (n : Int) := by omega
  have i5 : (0 : Int) ≤ (qx : Int) := by omega
  have i6 : (qx : Int) < (n : Int) := by omega
  have i7 : (0 : Int) ≤ (qy : Int) := by omega
  have i8 : (qy : Int) < (n : Int) := by omega
  have i9 : (0 : Int) ≤ (v : Int) := by omega
  have i10 : (v : Int) < (n : Int) := by omega
  clear hqx hqy hr
  go_enter Try.func205, Try.ntmps205
  go_wp2
  go_quiet (fail)
  go_wp2
  go_ret
  exact ⟨rfl, _, rfl⟩
theorem ent_ren1 : Ent 205 := fun _ _ => rfl

set_option maxHeartbeats 4000000 in
theorem renamed_any (n : Nat) (at_ ap : Option Addr) (ct cp : Nat) (t : List (List Int)) (p : List Int) (w : World) (h1 : Tbl w at_ n t) (h2 : Row w ap n p) (hs : Sq n t) (hP : IsP n p) (hn : n ≤ 12) :
    Calls Try.prog 180 #[.slice at_ n ct, .slice ap n cp] w fun e w' => ∃ a c vs, e = .returned (.slice a n c) ∧ OwnT w' w.heap.size a n c vs (rnL n t p) ∧ Below w.heap.size w w' := by
  have HP := Lib.hid hP; have HS := Lib.hid hs
  have hm := hP.mem
  clear hP hs
  obtain ⟨w0, hw0⟩ : ∃ w0, (w.alloc (.cells #[.slice at_ n ct] 43)).alloc (.cells #[.slice ap n cp] 22) = w0 := ⟨_, rfl⟩
  have hz0 : w0.heap.size = w.heap.size + 2 := by rw [← hw0]; simp
  have hB0 : Below w.heap.size w w0 := by rw [← hw0]; exact below_al (below_al (Below.refl _ _) _) _
  have hT : Loc w0 w.heap.size #[.slice at_ n ct] 43 := by rw [← hw0]; exact (Loc.new w rfl _ _).alloc _
  have hQ : Loc w0 (w.heap.size + 1) #[.slice ap n cp] 22 := by rw [← hw0]; exact Loc.new _ (by simp) _ _
  have lT := hT.one
  have lQ := hQ.one
  go_enter Try.func180, Try.ntmps180
  go_wp2_with fail
  refine (inverse_any _ _ _ p _ (h2.below hB0) (by omega) hm).mono ?_
  rintro e w1 ⟨a1, c1, rfl, ho1, hb1⟩
  have hB1 := below_th hB0 hb1
  have hT1 := hT.below hb1 hT.lt
  have hQ1 := hQ.below hb1 hQ.lt
  have lT1 := hT1.one
  have lQ1 := hQ1.one
  have hz1 := hb1.size
  obtain ⟨w2, hw2⟩ : ∃ w2, (w1.alloc (.cells #[.slice none 0 0] 22)).setCell ⟨w1.heap.size, 0, none⟩ (.slice a1 n c1) = w2 := ⟨_, rfl⟩
  have hL2 : Loc w2 w1.heap.size #[.slice a1 n c1] 22 := by rw [← hw2]; exact (Loc.new w1 rfl _ _).set 0 _
  have hb2 : Below w1.heap.size w1 w2 := by rw [← hw2]; exact (below_al (Below.refl _ _) _).setCell (Nat.le_refl _) _
  have hB2 := below_th hB1 hb2
  have hT2 := hT1.below hb2 hT1.lt
  have hQ2 := hQ1.below hb2 hQ1.lt
  have lT2 := hT2.one
  have ho2 := ho1.below hb2
  have hcl : ∀ x y, x < n → y < n → ∀ w3, Below w2.heap.size w2 w3 → Calls Try.prog 205 (#[.int .i64 x, .int .i64 y] ++ #[.pointer (some ⟨w.heap.size + 1, 0, none⟩), .pointer (some ⟨w.heap.size, 0, none⟩), .pointer (some ⟨w1.heap.size, 0, none⟩)]) w3 fun e w' => e = .returned (.int .i64 (rnV t p x y)) ∧ Below w3.heap.size w3 w' := fun x y hx hy w3 hb3 => by
    have hB3 := below_th hB2 hb3
    refine (renamed1_any n _ _ _ _ _ _ at_ ap a1 ct cp c1 t p w3 (hQ2.below hb3 hQ2.lt) (hT2.below hb3 hT2.lt) (hL2.below hb3 hL2.lt) (h1.below hB3) (h2.below hB3) (ho2.below hb3).row HS.out HP.out hn x y hx hy).mono fun e w' ⟨he, k, hk⟩ => ⟨he, ?_⟩
    rw [hk]; exact below_drewN (Below.refl _ _) k
  have HCL := Lib.hid hcl; clear hcl
  go_wp2_with fail
  refine (tableBy_any _ _ (rnV t p) n _ (by omega) ent_ren1 HCL.out).mono ?_
  rintro e w3 ⟨a, c, vs, rfl, ho, hb3⟩
  go_wp2
  go_ret
  exact ⟨_, _, _, rfl, ho.mono hB2.size, below_th hB2 hb3⟩
end Go.Proofs.Ytehomfbehhlhmaa
