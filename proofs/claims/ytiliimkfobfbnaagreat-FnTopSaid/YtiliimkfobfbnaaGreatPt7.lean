/-
  Walks and plain laws of this seat, some texts in one.
  No condition but bounds on lengths.
-/
import Derived.Test.YtiliimkfobfbnaaGreatPt4
import Derived.Test.YtiliimkfobfbnaaGreatPt6
import Derived.Test.YtiliimkfobfbnaaGreatPt3
import Derived.Test.YtiliimkfobfbnaaGreatPt5
namespace Go.Proofs.YtiliimkfobfbnaaGreat
set_option maxRecDepth 100000
set_option linter.unusedVariables false
set_option linter.unusedSimpArgs false
open Go.RowKit
def rnV (t : List (List Int)) (p : List Int) (x y : Nat) : Int := p.getD (tv t ((backF p).getD x 0).toNat ((backF p).getD y 0).toNat) 0
def rnL (n : Nat) (t : List (List Int)) (p : List Int) : List (List Int) := tabF n (rnV t p)
set_option maxHeartbeats 4000000 in
theorem renamed1_any (n bp bt bq : Nat) (tp tt tq : TypeId) (at_ ap aq : Option Addr) (ct cp cq : Nat) (t : List (List Int)) (p : List Int) (w : World) (hp : Loc w bp #[.slice ap n cp] tp) (ht : Loc w bt #[.slice at_ n ct] tt) (hq : Loc w bq #[.slice aq n cq] tq)
    (h1 : Tbl w at_ n t) (h2 : Row w ap n p) (h3 : Row w aq n (backF p)) (hs : Sq n t) (hP : IsP n p) (hn : n ≤ 12) (x y : Nat) (hx : x < n) (hy : y < n) :
    Calls Tryz.prog 86 #[.int .i64 x, .int .i64 y, .pointer (some ⟨bp, 0, none⟩), .pointer (some ⟨bt, 0, none⟩), .pointer (some ⟨bq, 0, none⟩)] w fun e w' => e = .returned (.int .i64 (rnV t p x y)) ∧ ∃ m, w' = w.drewN m := by
  obtain ⟨b, off, A, O, C, rfl, G⟩ := h1.grid hs (by omega)
  obtain ⟨qx, hqx, hqxn⟩ := (back_isP hP).at hx
  obtain ⟨qy, hqy, hqyn⟩ := (back_isP hP).at hy
  obtain ⟨b2, o2, rfl, g2⟩ := h3.at x hx
  obtain ⟨b2', o2', e2, g3⟩ := h3.at y hy
  cases e2
  rw [hqx] at g2
  rw [hqy] at g3
  have g4 := G.look hqxn hqyn
  have hv := hs.lt hqxn hqyn
  obtain ⟨v, HV⟩ : ∃ v, Hid (tv t qx qy = v) := ⟨_, rfl⟩
  rw [HV.out] at g4 hv
  obtain ⟨b3, o3, rfl, g5⟩ := h2.at v hv
  obtain ⟨u, HU⟩ : ∃ u, Hid (p.getD v 0 = u) := ⟨_, rfl⟩
  rw [HU.out] at g5
  have hr : rnV t p x y = u := by unfold rnV; rw [hqx, hqy, Int.toNat_natCast, Int.toNat_natCast, HV.out, HU.out]
  rw [hr]
  have l1 := hp.one
  have l2 := ht.one
  have l3 := hq.one
  have i1 : (0 : Int) ≤ (x : Int) := by omega
  have i2 : (x : Int) < (n : Int) := by omega
  have i3 : (0 : Int) ≤ (y : Int) := by omega
  have i4 : (y : Int) < (n : Int) := by omega
  have i5 : (0 : Int) ≤ (qx : Int) := by omega
  have i6 : (qx : Int) < (n : Int) := by omega
  have i7 : (0 : Int) ≤ (qy : Int) := by omega
  have i8 : (qy : Int) < (n : Int) := by omega
  have i9 : (0 : Int) ≤ (v : Int) := by omega
  have i10 : (v : Int) < (n : Int) := by omega
  clear hqx hqy hr
  go_enter Tryz.func86, Tryz.ntmps86
  go_wp2
  go_quiet (fail)
  go_wp2
  go_ret
  exact ⟨rfl, _, rfl⟩
theorem ent_ren1 : Ent 86 := fun _ _ => rfl
set_option maxHeartbeats 4000000 in
theorem renamed_any (n : Nat) (at_ ap : Option Addr) (ct cp : Nat) (t : List (List Int)) (p : List Int) (w : World) (h1 : Tbl w at_ n t) (h2 : Row w ap n p) (hs : Sq n t) (hP : IsP n p) (hn : n ≤ 12) :
    Calls Tryz.prog 52 #[.slice at_ n ct, .slice ap n cp] w fun e w' => ∃ a c vs, e = .returned (.slice a n c) ∧ OwnT w' w.heap.size a n c vs (rnL n t p) ∧ Below w.heap.size w w' := by
  have HP := Lib.hid hP; have HS := Lib.hid hs
  have hm := hP.mem
  clear hP hs
  obtain ⟨w0, hw0⟩ : ∃ w0, (w.alloc (.cells #[.slice at_ n ct] 24)).alloc (.cells #[.slice ap n cp] 50) = w0 := ⟨_, rfl⟩
  have hz0 : w0.heap.size = w.heap.size + 2 := by rw [← hw0]; simp
  have hB0 : Below w.heap.size w w0 := by rw [← hw0]; exact below_al (below_al (Below.refl _ _) _) _
  have hT : Loc w0 w.heap.size #[.slice at_ n ct] 24 := by rw [← hw0]; exact (Loc.new w rfl _ _).alloc _
  have hQ : Loc w0 (w.heap.size + 1) #[.slice ap n cp] 50 := by rw [← hw0]; exact Loc.new _ (by simp) _ _
  have lT := hT.one
  have lQ := hQ.one
  go_enter Tryz.func52, Tryz.ntmps52
  go_wp2_with fail
  refine (inverse_any _ _ _ p _ (h2.below hB0) (by omega) hm).mono ?_
  rintro e w1 ⟨a1, c1, rfl, ho1, hb1⟩
  have hB1 := below_th hB0 hb1
  have hT1 := hT.below hb1 hT.lt
  have hQ1 := hQ.below hb1 hQ.lt
  have lT1 := hT1.one
  have lQ1 := hQ1.one
  have hz1 := hb1.size
  obtain ⟨w2, hw2⟩ : ∃ w2, (w1.alloc (.cells #[.slice none 0 0] 50)).setCell ⟨w1.heap.size, 0, none⟩ (.slice a1 n c1) = w2 := ⟨_, rfl⟩
  have hL2 : Loc w2 w1.heap.size #[.slice a1 n c1] 50 := by rw [← hw2]; exact (Loc.new w1 rfl _ _).set 0 _
  have hb2 : Below w1.heap.size w1 w2 := by rw [← hw2]; exact (below_al (Below.refl _ _) _).setCell (Nat.le_refl _) _
  have hB2 := below_th hB1 hb2
  have hT2 := hT1.below hb2 hT1.lt
  have hQ2 := hQ1.below hb2 hQ1.lt
  have lT2 := hT2.one
  have ho2 := ho1.below hb2
  have hcl : ∀ x y, x < n → y < n → ∀ w3, Below w2.heap.size w2 w3 → Calls Tryz.prog 86 (#[.int .i64 x, .int .i64 y] ++ #[.pointer (some ⟨w.heap.size + 1, 0, none⟩), .pointer (some ⟨w.heap.size, 0, none⟩), .pointer (some ⟨w1.heap.size, 0, none⟩)]) w3 fun e w' => e = .returned (.int .i64 (rnV t p x y)) ∧ Below w3.heap.size w3 w' := fun x y hx hy w3 hb3 => by
    have hB3 := below_th hB2 hb3
    refine (renamed1_any n _ _ _ _ _ _ at_ ap a1 ct cp c1 t p w3 (hQ2.below hb3 hQ2.lt) (hT2.below hb3 hT2.lt) (hL2.below hb3 hL2.lt) (h1.below hB3) (h2.below hB3) (ho2.below hb3).row HS.out HP.out hn x y hx hy).mono fun e w' ⟨he, k, hk⟩ => ⟨he, ?_⟩
    rw [hk]; exact below_drewN (Below.refl _ _) k
  have HCL := Lib.hid hcl; clear hcl
  go_wp2_with fail
  refine (tableBy_any _ _ (rnV t p) n _ (by omega) ent_ren1 HCL.out).mono ?_
  rintro e w3 ⟨a, c, vs, rfl, ho, hb3⟩
  go_wp2
  go_ret
  exact ⟨_, _, _, rfl, ho.mono hB2.size, below_th hB2 hb3⟩
set_option maxHeartbeats 2000000 in
theorem l01Own2_any (a : Option Addr) (n c : Nat) (xss : List (List Int)) (w : World) (h : Tbl w a n xss) (hm : n ≤ 1000000) (hx : ∀ x ∈ xss, x.length ≤ 1000000) :
    Calls Tryz.prog 119 #[.slice a n c] w fun e w' => ∃ a' c' vs, e = .returned (.slice a' n c') ∧ OwnT w' w.heap.size a' n c' vs xss ∧ Below w.heap.size w w' := by
  have HL := Lib.hid h.len
  have HX := Lib.hid hx; clear hx
  go_enter Tryz.func119, Tryz.ntmps119
  go_wp2
  have hO := OwnT.fresh w rfl
  have hB := below_al (Below.refl w.heap.size w) (.cells #[] 50)
  go_loopw [3, 4] (fun z i wr => ∃ (k : Nat) (az : Option Addr) (cz : Nat) (vz : List SV), k ≤ n ∧ i = .int .i64 k ∧ z = .slice az k cz ∧ OwnT wr w.heap.size az k cz vz (xss.take k) ∧ Below w.heap.size w wr) (fun _ i _ => n - (intOf i).toNat)
  case atStart => exact ⟨0, _, 0, _, Nat.zero_le _, rfl, rfl, by simpa using hO, hB⟩
  case round =>
    clear hO hB
    obtain ⟨k, az, cz, vz, hk, rfl, rfl, ho, hb⟩ := hrel
    by_cases hlt : k < n
    · obtain ⟨b, off, ai, ni, ci, rfl, g1, hr, hni⟩ := (h.below hb).at k hlt
      have hxk : k < xss.length := by have := HL.out; omega
      rw [Tbl.getD hxk] at hr
      have hni2 : ni ≤ 1000000 := by have := hr.len; have := HX.out _ (List.getElem_mem hxk); omega
      have HT : Hid (xss.take (k + 1) = xss.take k ++ [xss[k]]) := Lib.hid (List.take_succ_eq_append_getElem hxk)
      generalize xss[k] = X at *
      go_wp2_with fail
      refine (l01Own_any _ _ _ X _ hr (by omega)).mono ?_
      rintro e w1 ⟨a1, c1, rfl, ho1, hb1⟩
      have hbb := hb.size
      have hz1 := ho.below hb1
      have hq1 := below_th hb hb1
      have hs1 := hb1.size
      go_wp2_with (at_builtin; refine appT1 rfl rfl hz1 rfl (ho1.mono hbb) (fun g h1 h2 => by have h3 := ho.high _ h1; have h4 := ho1.lo _ h2; omega) (fun i hi g h1 h2 => by have h3 := ho1.lo _ h1; have h4 := (ho.row i hi).hi _ h2; omega) rfl (by omega) (by omega) ?_; intro g' cc w2 hO hb2)
      go_roundw
      case rel => exact ⟨k + 1, _, _, _, by omega, by go_num, rfl, by rw [HT.out]; exact hO, hq1.trans hb2⟩
      case measure => simp [intOf]; omega
    · obtain rfl : k = n := by omega
      go_wp2
      go_ret
      refine ⟨_, _, vz, rfl, ?_, hb⟩
      rw [List.take_of_length_le (by have := HL.out; omega)] at ho
      exact ho
theorem sq_tabF {n : Nat} {t : List (List Int)} (h : Sq n t) : tabF n (fun x y => (t.getD x []).getD y 0) = t := by
  apply List.ext_getElem
  · simp [tabF, h.1]
  · intro i h1 h2
    have hi : i < n := by simpa [tabF] using h1
    have hl := (h.2 i hi).1
    rw [List.getD_eq_getElem?_getD, List.getElem?_eq_getElem h2, Option.getD_some] at hl
    apply List.ext_getElem
    · simp [tabF, hl]
    · intro j h3 h4
      simp [tabF, List.getD_eq_getElem?_getD, List.getElem?_eq_getElem h2, List.getElem?_eq_getElem h4]
def imgI (t : List (List Int)) (p : List Int) (x y : Nat) : Int := p.getD (tv t x y) 0
def ImgK (n : Nat) (t : List (List Int)) (p : List Int) (V : Nat → Nat → Int) (x y : Nat) : Prop := ∀ x' y', x' < n → y' < n → (x' < x ∨ x' = x ∧ y' < y) → V (p.getD x' 0).toNat (p.getD y' 0).toNat = imgI t p x' y'
theorem ImgK.step {n : Nat} {t : List (List Int)} {p : List Int} {V : Nat → Nat → Int} {x y u v : Nat} (hP : IsP n p) (h : ImgK n t p V x y) (hx : x < n) (hy : y < n) (hu : (p.getD x 0).toNat = u) (hv : (p.getD y 0).toNat = v) : ImgK n t p (updQ V u v (imgI t p x y)) x (y + 1) := by
  obtain ⟨f, g, hl, h1, h2⟩ := hP
  have hf : ∀ i, i < n → (p.getD i 0).toNat = f i := fun i hi => by rw [h2 i hi, Int.toNat_natCast]
  have inj : ∀ i j, i < n → j < n → f i = f j → i = j := fun i j hi hj e => by rw [← (h1 i hi).2.2.2, ← (h1 j hj).2.2.2, e]
  intro x' y' hx' hy' hq
  unfold updQ
  by_cases e : x' = x ∧ y' = y
  · obtain ⟨rfl, rfl⟩ := e
    rw [if_pos ⟨hu, hv⟩]
  · rw [if_neg, h x' y' hx' hy' (by omega)]
    rintro ⟨e1, e2⟩
    rw [← hu, hf _ hx', hf _ hx] at e1
    rw [← hv, hf _ hy', hf _ hy] at e2
    exact e ⟨inj _ _ hx' hx e1, inj _ _ hy' hy e2⟩
theorem ImgK.next {n : Nat} {t : List (List Int)} {p : List Int} {V : Nat → Nat → Int} {x : Nat} (h : ImgK n t p V x n) : ImgK n t p V (x + 1) 0 := fun x' y' hx' hy' hq => h x' y' hx' hy' (by omega)
theorem backF_at {n : Nat} {p : List Int} (hP : IsP n p) : ∀ u, u < n → ∃ q : Nat, (backF p).getD u 0 = q ∧ q < n ∧ p.getD q 0 = u := by
  obtain ⟨f, g, hp⟩ := hP
  have hb := backK_get n p f g hp n (Nat.le_refl _)
  obtain ⟨hl, h1, h2⟩ := hp
  intro u hu
  refine ⟨g u, ?_, (h1 u hu).2.1, ?_⟩
  · unfold backF; rw [hl, hb u hu, if_pos (h1 u hu).2.1]
  · rw [h2 (g u) (h1 u hu).2.1, (h1 u hu).2.2.1]
theorem ImgK.done {n : Nat} {t : List (List Int)} {p : List Int} {V : Nat → Nat → Int} (hP : IsP n p) (h : ImgK n t p V n 0) : tabF n V = rnL n t p := by
  refine tabQ_congr fun u v hu hv => ?_
  obtain ⟨q, e1, h1, e2⟩ := backF_at hP u hu
  obtain ⟨r, e3, h3, e4⟩ := backF_at hP v hv
  have := h q r h1 h3 (.inl h1)
  rw [e2, e4, Int.toNat_natCast, Int.toNat_natCast] at this
  rw [this]
  unfold rnV imgI
  rw [e1, e3, Int.toNat_natCast, Int.toNat_natCast]
set_option maxHeartbeats 16000000 in
theorem l03Image_any (n : Nat) (at_ ap : Option Addr) (ct cp : Nat) (t : List (List Int)) (p : List Int) (w : World) (h1 : Tbl w at_ n t) (h2 : Row w ap n p) (hs : Sq n t) (hP : IsP n p) (hn0 : 1 ≤ n) (hn : n ≤ 12) :
    Calls Tryz.prog 125 #[.slice at_ n ct, .slice ap n cp] w fun e w' => ∃ a c vs, e = .returned (.slice a n c) ∧ OwnT w' w.heap.size a n c vs (rnL n t p) ∧ Below w.heap.size w w' := by
  have HP := Lib.hid hP
  have hlen : ∀ x ∈ t, x.length ≤ 1000000 := fun x hx => by
    obtain ⟨i, hi, rfl⟩ := List.getElem_of_mem hx
    have := (hs.2 i (by rw [← hs.1]; exact hi)).1
    rw [List.getD_eq_getElem?_getD, List.getElem?_eq_getElem hi] at this
    simp at this; omega
  have HS := Lib.hid hs; have HLEN := Lib.hid hlen
  clear hlen hs hP
  go_enter Tryz.func125, Tryz.ntmps125
  go_wp2_with fail
  refine (l01Own2_any _ _ _ t _ h1 (by omega) HLEN.out).mono ?_
  rintro e w1 ⟨a1, c1, vs1, rfl, ho1, hb1⟩
  rw [← sq_tabF HS.out] at ho1
  have hz1 := hb1.size
  obtain ⟨gm, rfl, _⟩ := ho1.cells (by omega)
  have HLO := Lib.hid ho1.uLo
  go_wp2
  go_loopw [6, 7] (fun i _ wr => ∃ (x : Nat) (V : Nat → Nat → Int), x ≤ n ∧ i = .int .i64 x ∧ OwnT wr w.heap.size (some ⟨gm, 0, none⟩) n c1 vs1 (tabF n V) ∧ Hid (ImgK n t p V x 0) ∧ Below w.heap.size w wr) (fun i _ _ => n - (intOf i).toNat)
  case atStart => exact ⟨0, _, Nat.zero_le _, rfl, ho1, Lib.hid (fun x' y' _ _ h => by omega), hb1⟩
  case round =>
    clear ho1
    obtain ⟨x, V, hx, rfl, ho, HV, hq⟩ := hrel
    by_cases hlt : x < n
    · go_wp2
      go_loopw [7] (fun j wr => ∃ (y : Nat) (V : Nat → Nat → Int), y ≤ n ∧ j = .int .i64 y ∧ OwnT wr w.heap.size (some ⟨gm, 0, none⟩) n c1 vs1 (tabF n V) ∧ Hid (ImgK n t p V x y) ∧ Below w.heap.size w wr) (fun j _ => n - (intOf j).toNat)
      case atStart => exact ⟨0, V, Nat.zero_le _, rfl, ho, HV, hq⟩
      case round =>
        clear ho hq
        obtain ⟨y, V, hy, rfl, ho, HV, hq⟩ := hrel
        by_cases hly : y < n
        · obtain ⟨b, off, A, O, C, rfl, G0⟩ := h1.grid HS.out (by omega)
          have G := (G0.below hq).look hlt hly
          obtain ⟨u, hu, hun⟩ := HP.out.at hlt
          obtain ⟨v, hv, hvn⟩ := HP.out.at hly
          obtain ⟨bp, op, rfl, gu⟩ := (h2.below hq).at x hlt
          obtain ⟨bp', op', e', gv⟩ := (h2.below hq).at y hly
          cases e'
          have hz := HS.out.lt hlt hly
          obtain ⟨z, HZ⟩ : ∃ z, Hid (tv t x y = z) := ⟨_, rfl⟩
          rw [HZ.out] at G hz
          obtain ⟨bp'', op'', e'', gz⟩ := (h2.below hq).at z hz
          cases e''
          obtain ⟨Z, HZZ⟩ : ∃ Z, Hid (p.getD z 0 = Z) := ⟨_, rfl⟩
          rw [HZZ.out] at gz
          rw [hu] at gu
          rw [hv] at gv
          obtain ⟨gm', g1, cg, e3, ev, r1, hc1, ht1⟩ := ho.spotQ hun
          cases e3
          have k1 := (hc1 v hvn).1
          have f1 := (hc1 v hvn).2
          have hput := ho.putQ hun hvn ev Z
          have HST : Hid (ImgK n t p (updQ V u v Z) x (y + 1)) := Lib.hid (by
            have := ImgK.step HP.out HV.out hlt hly (u := u) (v := v) (by rw [hu, Int.toNat_natCast]) (by rw [hv, Int.toNat_natCast])
            rw [show imgI t p x y = Z by unfold imgI; rw [HZ.out, HZZ.out]] at this
            exact this)
          have hg1 : w.heap.size ≤ g1 := HLO.out g1 ht1
          have HPUT := Lib.hid hput
          have i1 : (0 : Int) ≤ (x : Int) := by omega
          have i2 : (x : Int) < (n : Int) := by omega
          have i3 : (0 : Int) ≤ (y : Int) := by omega
          have i4 : (y : Int) < (n : Int) := by omega
          have i5 : (0 : Int) ≤ (u : Int) := by omega
          have i6 : (u : Int) < (n : Int) := by omega
          have i7 : (0 : Int) ≤ (v : Int) := by omega
          have i8 : (v : Int) < (n : Int) := by omega
          have i9 : (0 : Int) ≤ (z : Int) := by omega
          have i10 : (z : Int) < (n : Int) := by omega
          obtain ⟨G1, G2⟩ := G
          have hq8 : Below w.heap.size w wr.drew := hq.drew
          have hput8 : Hid (OwnT (wr.drew.setCell ⟨g1, v, none⟩ (.int .i64 Z)) w.heap.size (some ⟨gm, 0, none⟩) n c1 vs1 (tabF n (updQ V u v Z))) := Lib.hid (hput.drewN 1)
          clear hu hv hc1 hput ho hq HPUT
          go_wp2
          refine wp_region_still_tail 22 (by kernel_rfl) (by kernel_rfl) ?_
          change wpStill _ _ wr.drew (fun a' => wpList _ _ _ _ a' wr.drew) _ _
          have G18 : wr.drew.cell? _ = _ := G1
          have G28 : wr.drew.cell? _ = _ := G2
          have gu8 : wr.drew.cell? _ = _ := gu
          have gv8 : wr.drew.cell? _ = _ := gv
          have gz8 : wr.drew.cell? _ = _ := gz
          have r18 : wr.drew.cell? _ = _ := r1
          have k18 : wr.drew.cell? _ = _ := k1
          have f18 : wr.drew.frozen? ⟨g1, v, none⟩ = false := f1
          clear G1 G2 gu gv gz r1 k1 f1
          generalize wr.drew = w8 at *
          simp only [List.take_succ_cons, List.take_zero, List.drop_succ_cons, List.drop_zero]
          repeat still_step
          refine wpStill_nil ?_
          go_wp2
          go_roundw
          case rel => exact ⟨y + 1, _, by omega, by go_num, hput8.out, HST, below_setne hq8 hg1 _⟩
          case measure => simp [intOf]; omega
        · obtain rfl : n = y := by omega
          go_wp2
          go_roundw
          case rel => exact ⟨x + 1, V, by omega, by go_num, ho, Lib.hid HV.out.next, hq⟩
          case measure => simp [intOf]; omega
    · obtain rfl : n = x := by omega
      go_wp2
      go_ret
      exact ⟨_, _, _, rfl, by rw [← ImgK.done HP.out HV.out]; exact ho, hq⟩
end Go.Proofs.YtiliimkfobfbnaaGreat
namespace Go.Proofs.YtiliimkfobfbnaaGreat
set_option maxRecDepth 100000
set_option linter.unusedVariables false
set_option linter.unusedSimpArgs false
theorem tabF_tv {n : Nat} {v : Nat → Nat → Int} {x y : Nat} (hx : x < n) (hy : y < n) : tv (tabF n v) x y = (v x y).toNat := by
  unfold tv
  rw [tabF_get _ _ _ hx]
  simp [List.getD_eq_getElem?_getD, hy]
theorem tabF_sqI {n : Nat} {v : Nat → Nat → Int} (h : ∀ x y, x < n → y < n → 0 ≤ v x y ∧ v x y < n) : Sq n (tabF n v) := by
  refine ⟨tabF_len _ _, fun x hx => ?_⟩
  have e := tabF_get n v x hx
  refine ⟨by rw [e]; simp, fun y hy => ?_⟩
  have := h x y hx hy
  rw [tabF_tv hx hy]
  refine ⟨by omega, ?_⟩
  rw [e]
  simp [List.getD_eq_getElem?_getD, hy]
  omega
theorem sq_ext {n : Nat} {t s : List (List Int)} (h : Sq n t) (k : Sq n s) (e : ∀ x y, x < n → y < n → tv t x y = tv s x y) : t = s := by
  rw [← sq_tabF h, ← sq_tabF k]
  refine tabQ_congr fun x y hx hy => ?_
  rw [h.val hx hy, k.val hx hy, e x y hx hy]
theorem isP_of {n : Nat} {p : List Int} (h : IsP n p) : ∃ f g, IsPf n p f g := h
theorem backF_pf {n : Nat} {p : List Int} {f g : Nat → Nat} (h : IsPf n p f g) : IsPf n (backF p) g f := by
  have hb := backK_get n p f g h n (Nat.le_refl _)
  obtain ⟨hl, h1, h2⟩ := h
  refine ⟨by rw [backF_len]; exact hl, fun i hi => ⟨(h1 i hi).2.1, (h1 i hi).1, (h1 i hi).2.2.2, (h1 i hi).2.2.1⟩, fun i hi => ?_⟩
  unfold backF; rw [hl, hb i hi, if_pos (h1 i hi).2.1]
theorem unit_pf (n : Nat) : IsPf n (unitL n) id id := ⟨unitL_len n, fun i h => ⟨h, h, rfl, rfl⟩, fun i h => unitL_get n i h⟩
theorem pf_ext {n : Nat} {p q : List Int} {f g f' g' : Nat → Nat} (h : IsPf n p f g) (k : IsPf n q f' g') (e : ∀ i, i < n → f i = f' i) : p = q := by
  apply List.ext_getElem
  · rw [h.1, k.1]
  · intro i h1 h2
    rw [h.1] at h1
    have a := h.2.2 i h1
    have b := k.2.2 i h1
    rw [getD_at (by rw [h.1]; exact h1)] at a
    rw [getD_at (by rw [k.1]; exact h1)] at b
    rw [a, b, e i h1]
theorem rn_tv {n : Nat} {t : List (List Int)} {p : List Int} {f g : Nat → Nat} (hp : IsPf n p f g) (hs : Sq n t) {x y : Nat} (hx : x < n) (hy : y < n) : rnV t p x y = ((f (tv t (g x) (g y)) : Nat) : Int) := by
  have hb := (backF_pf hp).2.2
  unfold rnV
  rw [hb x hx, hb y hy, Int.toNat_natCast, Int.toNat_natCast]
  exact hp.2.2 _ (hs.lt (hp.2.1 x hx).2.1 (hp.2.1 y hy).2.1)
theorem rnL_tv {n : Nat} {t : List (List Int)} {p : List Int} {f g : Nat → Nat} (hp : IsPf n p f g) (hs : Sq n t) {x y : Nat} (hx : x < n) (hy : y < n) : tv (rnL n t p) x y = f (tv t (g x) (g y)) := by
  unfold rnL; rw [tabF_tv hx hy, rn_tv hp hs hx hy, Int.toNat_natCast]
theorem rnL_sq {n : Nat} {t : List (List Int)} {p : List Int} (hp : IsP n p) (hs : Sq n t) : Sq n (rnL n t p) := by
  obtain ⟨f, g, hp⟩ := isP_of hp
  refine tabF_sqI fun x y hx hy => ?_
  rw [rn_tv hp hs hx hy]
  have := (hp.2.1 _ (hs.lt (hp.2.1 x hx).2.1 (hp.2.1 y hy).2.1)).1
  omega
def colAt (n s : Nat) (f g : List (List Int)) (xs : List Int) (N : Nat) : Bool := decide (actL n f g xs (digL n s N) = digL n s N)
def colsK (n s : Nat) (f g : List (List Int)) (xs : List Int) (k : Nat) : List (List Int) := ((List.range k).filter (colAt n s f g xs)).map (digL n s)
def colsL (n s : Nat) (f g : List (List Int)) (xs : List Int) : List (List Int) := colsK n s f g xs (n ^ s)
section
variable {n s : Nat} {f g : List (List Int)} {xs : List Int} {k : Nat}
theorem colsK_yes (h : colAt n s f g xs k = true) : colsK n s f g xs (k + 1) = colsK n s f g xs k ++ [digL n s k] := by
  unfold colsK; rw [List.range_succ, List.filter_append, List.map_append]; simp [h]
theorem colsK_no (h : colAt n s f g xs k = false) : colsK n s f g xs (k + 1) = colsK n s f g xs k := by
  unfold colsK; rw [List.range_succ, List.filter_append, List.map_append]; simp [h]
theorem colsK_len : (colsK n s f g xs k).length ≤ k := by
  unfold colsK
  rw [List.length_map]
  exact Nat.le_trans (List.length_filter_le _ _) (by simp)
end
/-! ### tables as functions -/
structure Ybe (n : Nat) (f g : List (List Int)) : Prop where
  sf : Sq n f
  sg : Sq n g
  pos : 1 ≤ n
  coll : collOk n f g = true
  one : ∀ x y z, x < n → y < n → z < n → tv f (tv f x y) (tv f (tv g x y) z) = tv f x (tv f y z)
  two : ∀ x y z, x < n → y < n → z < n → tv g (tv f x y) (tv f (tv g x y) z) = tv f (tv g x (tv f y z)) (tv g y z)
  three : ∀ x y z, x < n → y < n → z < n → tv g (tv g x y) z = tv g (tv g x (tv f y z)) (tv g y z)
  row : ∀ x, x < n → IsP n (f.getD x [])
theorem eqOk_at {n : Nat} {f g : List (List Int)} (h : eqOk n f g = true) {x y z : Nat} (hx : x < n) (hy : y < n) (hz : z < n) :
    tv f (tv f x y) (tv f (tv g x y) z) = tv f x (tv f y z) ∧ tv g (tv f x y) (tv f (tv g x y) z) = tv f (tv g x (tv f y z)) (tv g y z) ∧ tv g (tv g x y) z = tv g (tv g x (tv f y z)) (tv g y z) := by
  have := allN_get (allN_get (allN_get h hx) hy) hz
  unfold eqAt at this
  simp only [Bool.and_eq_true, decide_eq_true_eq] at this
  exact ⟨this.1.1, this.1.2, this.2⟩
theorem eqOk_of {n : Nat} {f g : List (List Int)} (h : ∀ x y z, x < n → y < n → z < n → tv f (tv f x y) (tv f (tv g x y) z) = tv f x (tv f y z) ∧ tv g (tv f x y) (tv f (tv g x y) z) = tv f (tv g x (tv f y z)) (tv g y z) ∧ tv g (tv g x y) z = tv g (tv g x (tv f y z)) (tv g y z)) : eqOk n f g = true := by
  unfold eqOk allN
  simp only [List.all_eq_true, List.mem_range]
  intro x hx y hy z hz
  obtain ⟨h1, h2, h3⟩ := h x y z hx hy hz
  unfold eqAt
  simp only [Bool.and_eq_true, decide_eq_true_eq]
  exact ⟨⟨h1, h2⟩, h3⟩
theorem coll_of {n : Nat} {f g : List (List Int)} (hn : 1 ≤ n) (hI : InjP n f g) : collOk n f g = true := by
  unfold collOk allN
  simp only [List.all_eq_true, List.mem_range]
  intro p hp q hq
  unfold collAt
  by_cases e : p = q
  · simp [e]
  · by_cases e1 : tv f (p / n) (p % n) = tv f (q / n) (q % n)
    · by_cases e2 : tv g (p / n) (p % n) = tv g (q / n) (q % n)
      · obtain ⟨h1, h2⟩ := hI _ _ _ _ (div_lt_sq hp) (Nat.mod_lt _ hn) (div_lt_sq hq) (Nat.mod_lt _ hn) e1 e2
        exact absurd (by rw [← Nat.div_add_mod p n, ← Nat.div_add_mod q n, h1, h2]) e
      · simp [e2]
    · simp [e1]
section
variable {n : Nat} {f g : List (List Int)}
def bkN (f : List (List Int)) (x y : Nat) : Nat := ((backF (f.getD x [])).getD y 0).toNat
theorem Ybe.bk (h : Ybe n f g) {x y : Nat} (hx : x < n) (hy : y < n) : bkN f x y < n ∧ tv f x (bkN f x y) = y := by
  obtain ⟨q, e1, hq, e2⟩ := backF_at (h.row x hx) y hy
  unfold bkN tv
  rw [e1, Int.toNat_natCast, e2, Int.toNat_natCast]
  exact ⟨hq, rfl⟩
theorem Ybe.inj (h : Ybe n f g) {x y z : Nat} (hx : x < n) (hy : y < n) (hz : z < n) (e : tv f x y = tv f x z) : y = z := by
  obtain ⟨F, G, hl, h1, h2⟩ := h.row x hx
  unfold tv at e
  rw [h2 y hy, h2 z hz, Int.toNat_natCast, Int.toNat_natCast] at e
  rw [← (h1 y hy).2.2.2, ← (h1 z hz).2.2.2, e]
theorem Ybe.bk_eq (h : Ybe n f g) {x y z : Nat} (hx : x < n) (hz : z < n) (e : tv f x z = y) : bkN f x y = z := by
  have hy : y < n := by rw [← e]; exact h.sf.lt hx hz
  obtain ⟨h1, h2⟩ := h.bk hx hy
  exact h.inj hx h1 hz (h2.trans e.symm)
def drN (f g : List (List Int)) (x y : Nat) : Nat := tv f x (tv g y (bkN f y x))
def drL (n : Nat) (f g : List (List Int)) : List (List Int) := tabF n fun x y => ((drN f g x y : Nat) : Int)
def twF (n : Nat) : List (List Int) := tabF n fun _ y => ((y : Nat) : Int)
def twG (n : Nat) (f g : List (List Int)) : List (List Int) := tabF n fun x y => ((drN f g y x : Nat) : Int)
theorem Ybe.dr_lt (h : Ybe n f g) {x y : Nat} (hx : x < n) (hy : y < n) : drN f g x y < n := h.sf.lt hx (h.sg.lt hy (h.bk hy hx).1)
theorem tw_f {n x y : Nat} (hx : x < n) (hy : y < n) : tv (twF n) x y = y := tv_tab hx hy
theorem Ybe.tw_g (h : Ybe n f g) {x y : Nat} (hx : x < n) (hy : y < n) : tv (twG n f g) x y = drN f g y x := tv_tab (V := fun x y => drN f g y x) hx hy
theorem Ybe.sqF (h : Ybe n f g) : Sq n (twF n) := Sq.tab fun x y _ hy => hy
theorem Ybe.sqG (h : Ybe n f g) : Sq n (twG n f g) := Sq.tab fun x y hx hy => h.dr_lt hy hx
theorem Ybe.sqR (h : Ybe n f g) : Sq n (drL n f g) := Sq.tab fun x y hx hy => h.dr_lt hx hy
theorem Ybe.dr_at (h : Ybe n f g) {x y : Nat} (hx : x < n) (hy : y < n) : drN f g (tv f x y) x = tv f (tv f x y) (tv g x y) := by
  unfold drN; rw [h.bk_eq hx hy rfl]
theorem Ybe.aut (h : Ybe n f g) {a u x : Nat} (ha : a < n) (hu : u < n) (hx : x < n) : drN f g (tv f a u) (tv f a x) = tv f a (drN f g u x) := by
  obtain ⟨hy, ey⟩ := h.bk hx hu
  generalize bkN f x u = y at hy ey
  subst ey
  have h1 := h.sf.lt ha hx
  have h2 := h.sg.lt ha hx
  have h3 := h.sf.lt h2 hy
  have h4 := h.sf.lt hx hy
  have h5 := h.sg.lt hx hy
  rw [h.dr_at hx hy, ← h.one a x y ha hx hy, h.dr_at h1 h3, h.one a x y ha hx hy, h.two a x y ha hx hy]
  exact h.one a (tv f x y) (tv g x y) ha h4 h5
/-! ### the map of tuples -/
def guL (f : List (List Int)) : List Int → List Int
  | [] => []
  | x :: l => x :: (guL f l).map fun y => ((tv f x.toNat y.toNat : Nat) : Int)
theorem guL_len (f : List (List Int)) : ∀ l, (guL f l).length = l.length := by
  intro l
  induction l with
  | nil => rfl
  | cons x l ih => simp [guL, ih]
theorem less_cons {x : Int} {l : List Int} (h : Less n (x :: l)) : (∃ k : Nat, k < n ∧ x = (k : Int)) ∧ Less n l :=
  ⟨by obtain ⟨k, hk, e⟩ := h 0 (by simp); exact ⟨k, hk, by simpa using e⟩, fun i hi => by obtain ⟨k, hk, e⟩ := h (i + 1) (by simpa using hi); exact ⟨k, hk, by simpa using e⟩⟩
theorem cons_less {k : Nat} {l : List Int} (hk : k < n) (h : Less n l) : Less n ((k : Int) :: l) := fun i hi => by
  cases i with
  | zero => exact ⟨k, hk, rfl⟩
  | succ i => obtain ⟨q, hq, e⟩ := h i (by simpa using hi); exact ⟨q, hq, by simpa using e⟩
theorem map_less {l : List Int} {F : Nat → Nat} (hF : ∀ x, x < n → F x < n) (h : Less n l) : Less n (l.map fun y => ((F y.toNat : Nat) : Int)) := fun i hi => by
  have hi' : i < l.length := by simpa using hi
  obtain ⟨k, hk, e⟩ := h i hi'
  refine ⟨F k, hF k hk, ?_⟩
  rw [List.getD_eq_getElem?_getD, List.getElem?_map, List.getElem?_eq_getElem hi']
  rw [List.getD_eq_getElem?_getD, List.getElem?_eq_getElem hi', Option.getD_some] at e
  simp [e]
theorem Ybe.gu_less (h : Ybe n f g) : ∀ l, Less n l → Less n (guL f l) := by
  intro l
  induction l with
  | nil => intro h; exact h
  | cons x l ih =>
    intro hl
    obtain ⟨⟨k, hk, rfl⟩, h2⟩ := less_cons hl
    exact cons_less hk (map_less (F := fun y => tv f (k : Int).toNat y) (fun y hy => by rw [Int.toNat_natCast]; exact h.sf.lt hk hy) (ih h2))
theorem Ybe.gu_inj (h : Ybe n f g) : ∀ l m, Less n l → Less n m → guL f l = guL f m → l = m := by
  intro l
  induction l with
  | nil =>
    intro m _ _ e
    cases m with
    | nil => rfl
    | cons y m => simp [guL] at e
  | cons x l ih =>
    intro m hl hm e
    cases m with
    | nil => simp [guL] at e
    | cons y m =>
      obtain ⟨⟨a, ha, rfl⟩, hl2⟩ := less_cons hl
      obtain ⟨⟨b, hb, rfl⟩, hm2⟩ := less_cons hm
      simp only [guL, List.cons.injEq] at e
      obtain ⟨e1, e2⟩ := e
      obtain rfl : a = b := by omega
      have el : guL f l = guL f m := by
        have hL := h.gu_less l hl2
        have hM := h.gu_less m hm2
        have hlen : (guL f l).length = (guL f m).length := by have := congrArg List.length e2; simpa using this
        refine list_ext0 hlen fun i hi => ?_
        have hi2 : i < (guL f m).length := by omega
        obtain ⟨p, hp, ep⟩ := hL i hi
        obtain ⟨q, hq, eq⟩ := hM i hi2
        have e3 := congrArg (fun L => L.getD i 0) e2
        simp only [List.getD_eq_getElem?_getD, List.getElem?_map, List.getElem?_eq_getElem hi, List.getElem?_eq_getElem hi2, Option.map_some, Option.getD_some] at e3
        rw [List.getD_eq_getElem?_getD, List.getElem?_eq_getElem hi, Option.getD_some] at ep
        rw [List.getD_eq_getElem?_getD, List.getElem?_eq_getElem hi2, Option.getD_some] at eq
        rw [ep, eq, Int.toNat_natCast, Int.toNat_natCast, Int.toNat_natCast] at e3
        rw [List.getD_eq_getElem?_getD, List.getElem?_eq_getElem hi, List.getD_eq_getElem?_getD, List.getElem?_eq_getElem hi2, Option.getD_some, Option.getD_some, ep, eq, h.inj ha hp hq (by omega)]
      rw [ih m hl2 hm2 el]
theorem Ybe.gu_sur (h : Ybe n f g) : ∀ m, Less n m → ∃ l, Less n l ∧ l.length = m.length ∧ guL f l = m := by
  have key : ∀ (k : Nat) (m : List Int), m.length = k → Less n m → ∃ l, Less n l ∧ l.length = m.length ∧ guL f l = m := by
    intro k
    induction k with
    | zero => intro m hm hL; exact ⟨[], fun i hi => absurd hi (by simp), by simpa using hm.symm, by rw [List.eq_nil_of_length_eq_zero hm]; rfl⟩
    | succ k ih =>
      intro m hm hL
      cases m with
      | nil => simp at hm
      | cons x m =>
        obtain ⟨⟨a, ha, rfl⟩, hm2⟩ := less_cons hL
        obtain ⟨l, h1, h2, h3⟩ := ih (m.map fun y => ((bkN f a y.toNat : Nat) : Int)) (by simpa using hm) (map_less (F := fun y => bkN f a y) (fun y hy => (h.bk ha hy).1) hm2)
        refine ⟨(a : Int) :: l, cons_less ha h1, by simpa using h2, ?_⟩
        simp only [guL, h3, List.map_map]
        congr 1
        have : m = m.map id := by simp
        conv => rhs; rw [this]
        refine List.map_congr_left fun y hy => ?_
        have := hm2.mem y hy
        simp only [Function.comp, Int.toNat_natCast, id]
        rw [(h.bk ha (show y.toNat < n by omega)).2]; omega
  exact fun m hm => key m.length m rfl hm
theorem doF_cons (f g : List (List Int)) (i : Nat) (x : Int) (l : List Int) : doF f g (i + 1) (x :: l) = x :: doF f g i l := by simp [doF]
theorem doF_zero (f g : List (List Int)) (x y : Int) (l : List Int) : doF f g 0 (x :: y :: l) = ((tv f x.toNat y.toNat : Nat) : Int) :: ((tv g x.toNat y.toNat : Nat) : Int) :: l := by simp [doF]
theorem doF_map {F : Nat → Nat} {p q : List (List Int)} (hF : ∀ x, x < n → F x < n) (hp : ∀ x y, x < n → y < n → tv p (F x) (F y) = F (tv p x y)) (hq : ∀ x y, x < n → y < n → tv q (F x) (F y) = F (tv q x y)) : ∀ (i : Nat) (l : List Int), i + 1 < l.length → Less n l →
    doF p q i (l.map fun y => ((F y.toNat : Nat) : Int)) = (doF p q i l).map fun y => ((F y.toNat : Nat) : Int) := by
  intro i
  induction i with
  | zero =>
    intro l hi hl
    match l, hi, hl with
    | x :: y :: l, _, hl =>
      obtain ⟨⟨a, ha, rfl⟩, hl2⟩ := less_cons hl
      obtain ⟨⟨b, hb, rfl⟩, hl3⟩ := less_cons hl2
      simp only [List.map_cons, doF_zero, Int.toNat_natCast, hp a b ha hb, hq a b ha hb]
  | succ i ih =>
    intro l hi hl
    cases l with
    | nil => simp at hi
    | cons x l =>
      obtain ⟨_, hl2⟩ := less_cons hl
      rw [List.map_cons, doF_cons, doF_cons, List.map_cons, ih l (by simpa using hi) hl2]
theorem Ybe.gu_do (h : Ybe n f g) : ∀ (i : Nat) (l : List Int), i + 1 < l.length → Less n l → guL f (doF f g i l) = doF (twF n) (twG n f g) i (guL f l) := by
  intro i
  induction i with
  | zero =>
    intro l hi hl
    match l, hi, hl with
    | x :: y :: l, _, hl =>
      obtain ⟨⟨a, ha, rfl⟩, hl2⟩ := less_cons hl
      obtain ⟨⟨b, hb, rfl⟩, hl3⟩ := less_cons hl2
      have hL := h.gu_less l hl3
      have h1 := h.sf.lt ha hb
      have h2 := h.sg.lt ha hb
      simp only [doF_zero, guL, List.map_cons, List.map_map, Int.toNat_natCast]
      rw [tw_f ha h1, h.tw_g ha h1, h.dr_at ha hb]
      congr 2
      refine List.map_congr_left fun z hz => ?_
      have := hL.mem z hz
      simp only [Function.comp, Int.toNat_natCast]
      rw [h.one a b z.toNat ha hb (by omega)]
  | succ i ih =>
    intro l hi hl
    cases l with
    | nil => simp at hi
    | cons x l =>
      obtain ⟨⟨a, ha, rfl⟩, hl2⟩ := less_cons hl
      have hL := h.gu_less l hl2
      have hi2 : i + 1 < l.length := by simpa using hi
      rw [doF_cons]
      simp only [guL]
      rw [doF_cons, ih l hi2 hl2]
      congr 1
      symm
      refine doF_map (F := fun y => tv f (a : Int).toNat y) (n := n) (fun y hy => by rw [Int.toNat_natCast]; exact h.sf.lt ha hy) (fun x y hx hy => ?_) (fun x y hx hy => ?_) i (guL f l) (by rw [guL_len]; exact hi2) hL
      · simp only [Int.toNat_natCast]
        rw [tw_f (h.sf.lt ha hx) (h.sf.lt ha hy), tw_f hx hy]
      · simp only [Int.toNat_natCast]
        rw [h.tw_g (h.sf.lt ha hx) (h.sf.lt ha hy), h.tw_g hx hy]
        exact h.aut ha hy hx
end
theorem permOk_isP {n : Nat} {p : List Int} (hl : p.length = n) (h : permOk p = true) : IsP n p := by
  obtain ⟨h1, h2⟩ := permOk_to h
  rw [hl] at h1 h2
  have hs : ∀ x, x < n → ∃ k, k < n ∧ p.getD k 0 = (x : Int) := fun x hx => by
    unfold permOk at h
    have := allN_get h (k := x) (by omega)
    rw [List.contains_iff_mem] at this
    obtain ⟨k, hk, e⟩ := List.getElem_of_mem this
    exact ⟨k, by omega, by rw [getD_at hk, e]⟩
  have hg : ∀ x, ∃ k, x < n → k < n ∧ p.getD k 0 = (x : Int) := fun x => by
    by_cases hx : x < n
    · obtain ⟨k, hk⟩ := hs x hx; exact ⟨k, fun _ => hk⟩
    · exact ⟨0, fun h => absurd h hx⟩
  obtain ⟨g, hg⟩ := Classical.axiomOfChoice hg
  refine ⟨fun i => (p.getD i 0).toNat, g, hl, fun i hi => ⟨?_, (hg i hi).1, ?_, ?_⟩, fun i hi => ?_⟩
  · have := h1 i hi
    show (p.getD i 0).toNat < n
    omega
  · show (p.getD (g i) 0).toNat = i
    rw [(hg i hi).2, Int.toNat_natCast]
  · have hr := h1 i hi
    have hx : (p.getD i 0).toNat < n := by omega
    refine h2 _ _ (hg _ hx).1 hi ?_
    rw [(hg _ hx).2]; omega
  · have := h1 i hi
    show p.getD i 0 = (((p.getD i 0).toNat : Nat) : Int)
    omega
end Go.Proofs.YtiliimkfobfbnaaGreat
