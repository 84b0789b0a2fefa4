/-
  Walks and plain laws of this seat, some texts in one.
  No condition but bounds on lengths.
-/
import Derived.Test.YtpdgpgbgakinlaaGreatPb22
import Derived.Deep.DeepCutAuto
import Derived.Deep.RegionHeld3
import Derived.Test.YtpdgpgbgakinlaaGreatPb17
import Derived.Test.YtpdgpgbgakinlaaGreatPb20
namespace Go.Proofs.YtpdgpgbgakinlaaGreat
set_option linter.unusedVariables false
set_option linter.unusedSimpArgs false
set_option maxRecDepth 100000
open Go.RowKit
set_option maxHeartbeats 16000000 in
theorem l01Rename_any (n : Nat) (at_ ap : Option Addr) (ct cp : Nat) (t : List (List Int)) (p : List Int) (w : World) (h1 : Tbl w at_ n t) (h2 : Row w ap n p) (hs : Sq n t) (hP : IsP n p) (hn0 : 1 ≤ n) (hn : n ≤ 12) :
    Calls Tryz.prog 179 #[.slice at_ n ct, .slice ap n cp] w fun e w' => ∃ a c vs, e = .returned (.slice a n c) ∧ OwnT w' w.heap.size a n c vs (rnL n t p) ∧ Below w.heap.size w w' := by
  have HP := Lib.hid hP
  have HS := Lib.hid hs
  clear hs hP
  have hO := OwnT.fresh w rfl
  have hQ := below_al (Below.refl w.heap.size w) (.cells #[] 27)
  go_enter Tryz.func179, Tryz.ntmps179
  go_wp2
  go_loopw [5, 6] (fun z i wr => ∃ (k : Nat) (az : Option Addr) (cz : Nat) (vz : List SV), k ≤ n ∧ i = .int .i64 k ∧ z = .slice az k cz ∧ OwnT wr w.heap.size az k cz vz ((tabF n fun _ _ => 0).take k) ∧ Below w.heap.size w wr) (fun _ i _ => n - (intOf i).toNat)
  case atStart => exact ⟨0, _, 0, _, Nat.zero_le _, rfl, rfl, by simpa using hO, hQ⟩
  case round =>
    clear hO hQ
    obtain ⟨k, az, cz, vz, hk, rfl, rfl, ho, hq⟩ := hrel
    have hqs := hq.size
    by_cases hlt : k < n
    · have HZ := Lib.hid (zrow9 hlt)
      go_wp2_with (first | (at_make; refine make1 rfl rfl rfl rfl (by omega) ?_; intro w4 ho4 hs4 hb4; have hz4 := ho.below hb4) | (at_builtin; refine appT1 rfl rfl hz4 rfl (ho4.mono hqs) (fun g h1 h2 => by have h3 := ho.high _ h1; have h4 := ho4.lo _ h2; omega) (fun i hi g h1 h2 => by have h3 := ho4.lo _ h1; have h4 := (ho.row i hi).hi _ h2; omega) rfl (by omega) (by omega) ?_; intro g' cc w5 hO5 hb5))
      go_roundw
      case rel => exact ⟨k + 1, _, _, _, by omega, by go_num, rfl, by rw [HZ.out]; exact hO5, (hq.trans (hb4.mono hqs)).trans hb5⟩
      case measure => simp [intOf]; omega
    · obtain rfl : n = k := by omega
      rw [List.take_of_length_le (by rw [tabF_len]; exact Nat.le_refl _)] at ho
      obtain ⟨c1, rfl⟩ : ∃ c1, c1 = cz := ⟨_, rfl⟩
      obtain ⟨vs1, rfl⟩ : ∃ vs1, vs1 = vz := ⟨_, rfl⟩
      obtain ⟨gm, rfl, _⟩ := ho.cells (by omega)
      have HLO := Lib.hid ho.uLo
      obtain ⟨W1, rfl⟩ : ∃ W : World, W = wr := ⟨_, rfl⟩
      go_wp2
      go_loopw [7, 8, 9] (fun i _ _ wr => ∃ (x : Nat) (V : Nat → Nat → Int), x ≤ n ∧ i = .int .i64 x ∧ OwnT wr w.heap.size (some ⟨gm, 0, none⟩) n c1 vs1 (tabF n V) ∧ Hid (ImgK n t p V x 0) ∧ Below w.heap.size w wr) (fun i _ _ _ => n - (intOf i).toNat)
      case atStart => exact ⟨0, _, Nat.zero_le _, rfl, ho, Lib.hid (fun x' y' _ _ h => by omega), hq⟩
      case round =>
        clear ho hq hqs
        obtain ⟨x, V, hx, rfl, ho, HV, hq⟩ := hrel
        by_cases hlt : x < n
        · obtain ⟨u, hu, hun⟩ := HP.out.at hlt
          obtain ⟨bp, op, rfl, gu⟩ := (h2.below hq).at x hlt
          rw [hu] at gu
          obtain ⟨gm', g1, cg, e3, ev, r1, hc1, ht1⟩ := ho.spotQ hun
          cases e3
          have hg1 : w.heap.size ≤ g1 := HLO.out g1 ht1
          have HEV := Lib.hid ev
          have i1 : (0 : Int) ≤ (x : Int) := by omega
          have i2 : (x : Int) < (n : Int) := by omega
          have i5 : (0 : Int) ≤ (u : Int) := by omega
          have i6 : (u : Int) < (n : Int) := by omega
          clear ev hc1 ht1
          go_wp2
          go_loopw [9] (fun j wr => ∃ (y : Nat) (V : Nat → Nat → Int), y ≤ n ∧ j = .int .i64 y ∧ OwnT wr w.heap.size (some ⟨gm, 0, none⟩) n c1 vs1 (tabF n V) ∧ Hid (ImgK n t p V x y) ∧ Below w.heap.size w wr) (fun j _ => n - (intOf j).toNat)
          case atStart => exact ⟨0, V, Nat.zero_le _, rfl, ho, HV, hq⟩
          case round =>
            clear ho hq r1 gu
            obtain ⟨y, V, hy, rfl, ho, HV, hq⟩ := hrel
            obtain ⟨b, off, A, O, C, rfl, G0⟩ := h1.grid HS.out (by omega)
            have GR := (G0.below hq)
            by_cases hly : y < n
            · have G := GR.look hlt hly
              obtain ⟨v, hv, hvn⟩ := HP.out.at hly
              obtain ⟨bp', op', e', gv⟩ := (h2.below hq).at y hly
              cases e'
              have hz := HS.out.lt hlt hly
              obtain ⟨z, HZ⟩ : ∃ z, Hid (tv t x y = z) := ⟨_, rfl⟩
              rw [HZ.out] at G hz
              obtain ⟨bp'', op'', e'', gz⟩ := (h2.below hq).at z hz
              cases e''
              obtain ⟨Z, HZZ⟩ : ∃ Z, Hid (p.getD z 0 = Z) := ⟨_, rfl⟩
              rw [HZZ.out] at gz
              rw [hv] at gv
              obtain ⟨gm', g1', cg', e3, ev, r1, hc1, ht1⟩ := ho.spotQ hun
              cases e3
              have ev' := HEV.out.symm.trans ev
              cases ev'
              have ev := HEV.out
              have k1 := (hc1 v hvn).1
              have f1 := (hc1 v hvn).2
              have hput := ho.putQ hun hvn ev Z
              have HST : Hid (ImgK n t p (updQ V u v Z) x (y + 1)) := Lib.hid (by
                have := ImgK.step HP.out HV.out hlt hly (u := u) (v := v) (by rw [hu, Int.toNat_natCast]) (by rw [hv, Int.toNat_natCast])
                rw [show imgI t p x y = Z by unfold imgI; rw [HZ.out, HZZ.out]] at this
                exact this)
              have HPUT := Lib.hid hput
              have i3 : (0 : Int) ≤ (y : Int) := by omega
              have i4 : (y : Int) < (n : Int) := by omega
              have i7 : (0 : Int) ≤ (v : Int) := by omega
              have i8 : (v : Int) < (n : Int) := by omega
              have i9 : (0 : Int) ≤ (z : Int) := by omega
              have i10 : (z : Int) < (n : Int) := by omega
              obtain ⟨G1, G2⟩ := G
              have hq8 : Below w.heap.size w wr.drew := hq.drew
              have hput8 : Hid (OwnT (wr.drew.setCell ⟨g1, v, none⟩ (.int .i64 Z)) w.heap.size (some ⟨gm, 0, none⟩) n c1 vs1 (tabF n (updQ V u v Z))) := Lib.hid (hput.drewN 1)
              clear hv hc1 hput ho hq HPUT ht1 ev
              go_wp2
              refine wp_region_still_tail 16 (by kernel_rfl) (by kernel_rfl) ?_
              change wpStill _ _ wr.drew (fun a' => wpList _ _ _ _ a' wr.drew) _ _
              have G18 : wr.drew.cell? _ = _ := G1
              have G28 : wr.drew.cell? _ = _ := G2
              have gv8 : wr.drew.cell? _ = _ := gv
              have gz8 : wr.drew.cell? _ = _ := gz
              have k18 : wr.drew.cell? _ = _ := k1
              have f18 : wr.drew.frozen? ⟨g1, v, none⟩ = false := f1
              clear G1 G2 gv gz r1 k1 f1
              generalize wr.drew = w8 at *
              simp only [List.take_succ_cons, List.take_zero, List.drop_succ_cons, List.drop_zero]
              repeat still_step
              refine wpStill_nil ?_
              go_wp2
              go_roundw
              case rel => exact ⟨y + 1, _, by omega, by go_num, hput8.out, HST, below_setne hq8 hg1 _⟩
              case measure => simp [intOf]; omega
            · obtain rfl : n = y := by omega
              go_wp2
              go_roundw
              case rel => exact ⟨x + 1, V, by omega, by go_num, ho, Lib.hid HV.out.next, hq⟩
              case measure => simp [intOf]; omega
        · obtain rfl : n = x := by omega
          go_wp2
          go_ret
          exact ⟨_, _, _, rfl, by rw [← ImgK.done HP.out HV.out]; exact ho, hq⟩
set_option maxHeartbeats 8000000 in
theorem l02Rename_any (n : Nat) (a a' ap : Option Addr) (c c' cp : Nat) (f g : List (List Int)) (p : List Int) (w : World) (h1 : Tbl w a n f) (h2 : Tbl w a' n g) (h3 : Row w ap n p) (hf : Sq n f) (hg : Sq n g) (hP : IsP n p) (hn0 : 1 ≤ n) (hn : n ≤ 12) :
    Calls Tryz.prog 156 #[sAgg a n c a' n c', .slice ap n cp] w (SolB w n) := by
  obtain ⟨w0, hw0⟩ : ∃ w0, (w.alloc (.cells #[.slice a n c, .slice a' n c'] 26)).alloc (.cells #[.slice none 0 0, .slice none 0 0] 26) = w0 := ⟨_, rfl⟩
  have hA : Loc w0 w.heap.size #[.slice a n c, .slice a' n c'] 26 := by rw [← hw0]; exact (Loc.new w rfl _ _).alloc _
  have hR : Loc w0 (w.heap.size + 1) #[.slice none 0 0, .slice none 0 0] 26 := by rw [← hw0]; exact Loc.new _ (by simp) _ _
  have hB0 : Below w.heap.size w w0 := by rw [← hw0]; exact below_al (below_al (Below.refl _ _) _) _
  have HF := Lib.hid hf; have HG := Lib.hid hg; have HP := Lib.hid hP
  have HSF := Lib.hid (rnL_sq hP hf); have HSG := Lib.hid (rnL_sq hP hg)
  have HW0 := Lib.hid hw0
  clear hf hg hP hw0
  have lA := hA.two
  have hAl := hA.lt
  have hRl := hR.lt
  go_enter Tryz.func156, Tryz.ntmps156
  go_upto_region 1 with fail
  rw [HW0.out]
  have tok1 : True := trivial
  go_region_held3 (fun w' => w'.cell? ⟨w.heap.size, 0, none⟩ = some (.slice a n c) ∧ w'.cell? ⟨w.heap.size, 1, none⟩ = some (.slice a' n c'))
    (first | exact ⟨lM.1, lM.2.1⟩ | exact ⟨lC.1, lC.2.1⟩ | exact ⟨lB.1, lB.2.1⟩ | exact ⟨lA.1, lA.2.1⟩ | go_keep)
    (first
      | (go_at_call 179; have _t := tok1; refine (l01Rename_any n a ap c cp f p _ (h1.below (below_drewN hB0 1)) (h3.below (below_drewN hB0 1)) HF.out HP.out hn0 hn).mono ?_; rintro e w2 ⟨a2, c2, vs2, rfl, ho2, hb2⟩; clear _t tok1; have tok2 : True := trivial; have hq2 : Below w0.heap.size w0 w2 := below_th (below_drewN (Below.refl _ _) 1) hb2; have lB := (hA.below hq2 hAl).two)
      | (go_at_call 179; have _t := tok2; refine (l01Rename_any n a' ap c' cp g p _ (h2.below (below_th hB0 hq2)) (h3.below (below_th hB0 hq2)) HG.out HP.out hn0 hn).mono ?_; rintro e w3 ⟨a3, c3, vs3, rfl, ho3, hb3⟩; clear _t tok2; have hq3 : Below w0.heap.size w0 w3 := below_th hq2 hb3; have lC := (hA.below hq3 hAl).two; have lRr := (hR.below hq3 hRl).two; have lM := (((hA.below hq3 hAl).setne (a := ⟨w.heap.size + 1, 0, none⟩) (by show w.heap.size ≠ w.heap.size + 1; omega) (.slice a2 n c2)).setne (a := ⟨w.heap.size + 1, 1, none⟩) (by show w.heap.size ≠ w.heap.size + 1; omega) (.slice a3 n c3)).two))
  all_goals
    have hR3 := hR.below hq3 hRl
    have lR := hR3.two
    have hz2 := hq2.size
    have hz3 := hb3.size
    have ho23 := (ho2.mono (lo' := w0.heap.size) (Nat.le_refl _)).below hb3
    have hap : ∀ q, TblS a2 n vs2 q → ¬ TblS a3 n vs3 q := fun q e1 e2 => by have := ho2.uHi q e1; have := ho3.uLo q e2; omega
    have hB3 := below_th hB0 hq3
    go_wp2
    refine bodyPost_ret (v := sAgg a2 n c2 a3 n c3) (by simp [results, Tryz.results156, go_sem, lR]) rfl ⟨a2, c2, vs2, _, a3, c3, vs3, _, rfl, ⟨?_, ?_, hap⟩, HSF.out, HSG.out, ?_⟩
    · exact ((ho23.setlo (by show w.heap.size + 1 < w0.heap.size; omega) _).setlo (by show w.heap.size + 1 < w0.heap.size; omega) _).mono (by omega)
    · exact ((ho3.setlo (by show w.heap.size + 1 < w2.heap.size; omega) _).setlo (by show w.heap.size + 1 < w2.heap.size; omega) _).mono (by omega)
    · exact below_setne (below_setne hB3 (by show w.heap.size ≤ w.heap.size + 1; omega) _) (by show w.heap.size ≤ w.heap.size + 1; omega) _
end Go.Proofs.YtpdgpgbgakinlaaGreat

namespace Go.Proofs.YtpdgpgbgakinlaaGreat
set_option linter.unusedVariables false
set_option linter.unusedSimpArgs false
set_option maxRecDepth 100000
open Go.RowKit
theorem OwnS.grownb {w w' : World} {lo b : Nat} {a a' : Option Addr} {n c n' c' : Nat} {vs vs' : List SV} {f g : List (List Int)} (h : OwnS w lo a n c vs f a' n' c' vs' g) (hg : w.grownBy w' (some b)) (hb : b < lo) : OwnS w' lo a n c vs f a' n' c' vs' g :=
  ⟨h.f.keep fun q hq hl => hg.block q hl (fun e => by have := h.f.uLo q hq; cases e; omega), h.s.keep fun q hq hl => hg.block q hl (fun e => by have := h.s.uLo q hq; cases e; omega), h.ap⟩
theorem sol_ret {w wk : World} {b lo n c c' : Nat} {a a' : Option Addr} {vs vs' : List SV} {f g : List (List Int)} (ho : OwnS wk lo a n c vs f a' n c' vs' g) (hlo : w.heap.size < lo) (hs : Src wk b) (hb : b < w.heap.size) (hG : w.grownBy wk (some b)) (sf : Sq n f) (sg : Sq n g) :
    SolDn b w n (.returned (sAgg a n c a' n c')) ((wk.setCell ⟨w.heap.size, 0, none⟩ (.slice a n c)).setCell ⟨w.heap.size, 1, none⟩ (.slice a' n c')) := by
  refine ⟨a, c, vs, f, a', c', vs', g, rfl, ⟨?_, ?_, ho.ap⟩, sf, sg, ?_, ?_⟩
  · exact ((ho.f.setlo (p := ⟨w.heap.size, 0, none⟩) hlo _).setlo (p := ⟨w.heap.size, 1, none⟩) hlo _).mono (by omega)
  · exact ((ho.s.setlo (p := ⟨w.heap.size, 0, none⟩) hlo _).setlo (p := ⟨w.heap.size, 1, none⟩) hlo _).mono (by omega)
  · exact (hs.setne (p := ⟨w.heap.size, 0, none⟩) hb _).setne (p := ⟨w.heap.size, 1, none⟩) hb _
  · exact grown_set (grown_set hG (.inr (Nat.le_refl _)) _) (.inr (Nat.le_refl _)) _
theorem row_loc {w : World} {b n : Nat} {cs : Array Value} {t : TypeId} {xs : List Int} (h : Loc w b cs t) (hn : n = xs.length) (e : cs.toList = xs.map (Value.int .i64)) : Row w (some ⟨b, 0, none⟩) n xs := by
  subst hn
  refine ⟨rfl, fun i hi => ⟨b, 0, rfl, h.lt, h.cell _ ?_⟩⟩
  rw [Nat.zero_add, ← Array.getElem?_toList, e, List.getElem?_map, List.getElem?_eq_getElem hi]
  simp [List.getD_eq_getElem?_getD, List.getElem?_eq_getElem hi]
def rw4 : List (List Int) := [[0, 1, 3, 2], [0, 1, 3, 2], [1, 0, 2, 3], [1, 0, 2, 3]]
def rw3 : List (List Int) := [[0, 1, 2], [0, 1, 2], [1, 0, 2]]
theorem rw4_ok : RwsP 4 rw4 := ⟨rfl, fun i hi => by
  match i, hi with
  | 0, _ => exact isPb_ok (by decide)
  | 1, _ => exact isPb_ok (by decide)
  | 2, _ => exact isPb_ok (by decide)
  | 3, _ => exact isPb_ok (by decide)⟩
theorem rw3_ok : RwsP 3 rw3 := ⟨rfl, fun i hi => by
  match i, hi with
  | 0, _ => exact isPb_ok (by decide)
  | 1, _ => exact isPb_ok (by decide)
  | 2, _ => exact isPb_ok (by decide)⟩
theorem lit4 (w : World) (t t' : TypeId) : Tbl (((((w.alloc (.cells #[.int .i64 0, .int .i64 1, .int .i64 3, .int .i64 2] t)).alloc (.cells #[.int .i64 0, .int .i64 1, .int .i64 3, .int .i64 2] t)).alloc (.cells #[.int .i64 1, .int .i64 0, .int .i64 2, .int .i64 3] t)).alloc (.cells #[.int .i64 1, .int .i64 0, .int .i64 2, .int .i64 3] t)).alloc (.cells #[.slice (some ⟨w.heap.size, 0, none⟩) 4 4, .slice (some ⟨w.heap.size + 1, 0, none⟩) 4 4, .slice (some ⟨w.heap.size + 1 + 1, 0, none⟩) 4 4, .slice (some ⟨w.heap.size + 1 + 1 + 1, 0, none⟩) 4 4] t')) (some ⟨w.heap.size + 1 + 1 + 1 + 1, 0, none⟩) 4 rw4 := by
  have h1 := ((((Loc.new w rfl #[.int .i64 0, .int .i64 1, .int .i64 3, .int .i64 2] t).alloc (.cells #[.int .i64 0, .int .i64 1, .int .i64 3, .int .i64 2] t)).alloc (.cells #[.int .i64 1, .int .i64 0, .int .i64 2, .int .i64 3] t)).alloc (.cells #[.int .i64 1, .int .i64 0, .int .i64 2, .int .i64 3] t)).alloc (.cells #[.slice (some ⟨w.heap.size, 0, none⟩) 4 4, .slice (some ⟨w.heap.size + 1, 0, none⟩) 4 4, .slice (some ⟨w.heap.size + 1 + 1, 0, none⟩) 4 4, .slice (some ⟨w.heap.size + 1 + 1 + 1, 0, none⟩) 4 4] t')
  have h2 := (((Loc.new (w.alloc (.cells #[.int .i64 0, .int .i64 1, .int .i64 3, .int .i64 2] t)) (b := w.heap.size + 1) (by simp) #[.int .i64 0, .int .i64 1, .int .i64 3, .int .i64 2] t).alloc (.cells #[.int .i64 1, .int .i64 0, .int .i64 2, .int .i64 3] t)).alloc (.cells #[.int .i64 1, .int .i64 0, .int .i64 2, .int .i64 3] t)).alloc (.cells #[.slice (some ⟨w.heap.size, 0, none⟩) 4 4, .slice (some ⟨w.heap.size + 1, 0, none⟩) 4 4, .slice (some ⟨w.heap.size + 1 + 1, 0, none⟩) 4 4, .slice (some ⟨w.heap.size + 1 + 1 + 1, 0, none⟩) 4 4] t')
  have h3 := ((Loc.new ((w.alloc (.cells #[.int .i64 0, .int .i64 1, .int .i64 3, .int .i64 2] t)).alloc (.cells #[.int .i64 0, .int .i64 1, .int .i64 3, .int .i64 2] t)) (b := w.heap.size + 1 + 1) (by simp) #[.int .i64 1, .int .i64 0, .int .i64 2, .int .i64 3] t).alloc (.cells #[.int .i64 1, .int .i64 0, .int .i64 2, .int .i64 3] t)).alloc (.cells #[.slice (some ⟨w.heap.size, 0, none⟩) 4 4, .slice (some ⟨w.heap.size + 1, 0, none⟩) 4 4, .slice (some ⟨w.heap.size + 1 + 1, 0, none⟩) 4 4, .slice (some ⟨w.heap.size + 1 + 1 + 1, 0, none⟩) 4 4] t')
  have h4 := (Loc.new (((w.alloc (.cells #[.int .i64 0, .int .i64 1, .int .i64 3, .int .i64 2] t)).alloc (.cells #[.int .i64 0, .int .i64 1, .int .i64 3, .int .i64 2] t)).alloc (.cells #[.int .i64 1, .int .i64 0, .int .i64 2, .int .i64 3] t)) (b := w.heap.size + 1 + 1 + 1) (by simp) #[.int .i64 1, .int .i64 0, .int .i64 2, .int .i64 3] t).alloc (.cells #[.slice (some ⟨w.heap.size, 0, none⟩) 4 4, .slice (some ⟨w.heap.size + 1, 0, none⟩) 4 4, .slice (some ⟨w.heap.size + 1 + 1, 0, none⟩) 4 4, .slice (some ⟨w.heap.size + 1 + 1 + 1, 0, none⟩) 4 4] t')
  have hh := Loc.new ((((w.alloc (.cells #[.int .i64 0, .int .i64 1, .int .i64 3, .int .i64 2] t)).alloc (.cells #[.int .i64 0, .int .i64 1, .int .i64 3, .int .i64 2] t)).alloc (.cells #[.int .i64 1, .int .i64 0, .int .i64 2, .int .i64 3] t)).alloc (.cells #[.int .i64 1, .int .i64 0, .int .i64 2, .int .i64 3] t)) (b := w.heap.size + 1 + 1 + 1 + 1) (by simp) #[.slice (some ⟨w.heap.size, 0, none⟩) 4 4, .slice (some ⟨w.heap.size + 1, 0, none⟩) 4 4, .slice (some ⟨w.heap.size + 1 + 1, 0, none⟩) 4 4, .slice (some ⟨w.heap.size + 1 + 1 + 1, 0, none⟩) 4 4] t'
  refine ⟨rfl, fun i hi => ?_⟩
  match i, hi with
  | 0, _ => exact ⟨_, 0, _, 4, 4, rfl, hh.lt, hh.cell 0 rfl, row_loc h1 rfl rfl, by omega⟩
  | 1, _ => exact ⟨_, 0, _, 4, 4, rfl, hh.lt, hh.cell 1 rfl, row_loc h2 rfl rfl, by omega⟩
  | 2, _ => exact ⟨_, 0, _, 4, 4, rfl, hh.lt, hh.cell 2 rfl, row_loc h3 rfl rfl, by omega⟩
  | 3, _ => exact ⟨_, 0, _, 4, 4, rfl, hh.lt, hh.cell 3 rfl, row_loc h4 rfl rfl, by omega⟩
theorem lit3 (w : World) (t t' : TypeId) : Tbl ((((w.alloc (.cells #[.int .i64 0, .int .i64 1, .int .i64 2] t)).alloc (.cells #[.int .i64 0, .int .i64 1, .int .i64 2] t)).alloc (.cells #[.int .i64 1, .int .i64 0, .int .i64 2] t)).alloc (.cells #[.slice (some ⟨w.heap.size, 0, none⟩) 3 3, .slice (some ⟨w.heap.size + 1, 0, none⟩) 3 3, .slice (some ⟨w.heap.size + 1 + 1, 0, none⟩) 3 3] t')) (some ⟨w.heap.size + 1 + 1 + 1, 0, none⟩) 3 rw3 := by
  have h1 := (((Loc.new w rfl #[.int .i64 0, .int .i64 1, .int .i64 2] t).alloc (.cells #[.int .i64 0, .int .i64 1, .int .i64 2] t)).alloc (.cells #[.int .i64 1, .int .i64 0, .int .i64 2] t)).alloc (.cells #[.slice (some ⟨w.heap.size, 0, none⟩) 3 3, .slice (some ⟨w.heap.size + 1, 0, none⟩) 3 3, .slice (some ⟨w.heap.size + 1 + 1, 0, none⟩) 3 3] t')
  have h2 := ((Loc.new (w.alloc (.cells #[.int .i64 0, .int .i64 1, .int .i64 2] t)) (b := w.heap.size + 1) (by simp) #[.int .i64 0, .int .i64 1, .int .i64 2] t).alloc (.cells #[.int .i64 1, .int .i64 0, .int .i64 2] t)).alloc (.cells #[.slice (some ⟨w.heap.size, 0, none⟩) 3 3, .slice (some ⟨w.heap.size + 1, 0, none⟩) 3 3, .slice (some ⟨w.heap.size + 1 + 1, 0, none⟩) 3 3] t')
  have h3 := (Loc.new ((w.alloc (.cells #[.int .i64 0, .int .i64 1, .int .i64 2] t)).alloc (.cells #[.int .i64 0, .int .i64 1, .int .i64 2] t)) (b := w.heap.size + 1 + 1) (by simp) #[.int .i64 1, .int .i64 0, .int .i64 2] t).alloc (.cells #[.slice (some ⟨w.heap.size, 0, none⟩) 3 3, .slice (some ⟨w.heap.size + 1, 0, none⟩) 3 3, .slice (some ⟨w.heap.size + 1 + 1, 0, none⟩) 3 3] t')
  have hh := Loc.new (((w.alloc (.cells #[.int .i64 0, .int .i64 1, .int .i64 2] t)).alloc (.cells #[.int .i64 0, .int .i64 1, .int .i64 2] t)).alloc (.cells #[.int .i64 1, .int .i64 0, .int .i64 2] t)) (b := w.heap.size + 1 + 1 + 1) (by simp) #[.slice (some ⟨w.heap.size, 0, none⟩) 3 3, .slice (some ⟨w.heap.size + 1, 0, none⟩) 3 3, .slice (some ⟨w.heap.size + 1 + 1, 0, none⟩) 3 3] t'
  refine ⟨rfl, fun i hi => ?_⟩
  match i, hi with
  | 0, _ => exact ⟨_, 0, _, 3, 3, rfl, hh.lt, hh.cell 0 rfl, row_loc h1 rfl rfl, by omega⟩
  | 1, _ => exact ⟨_, 0, _, 3, 3, rfl, hh.lt, hh.cell 1 rfl, row_loc h2 rfl rfl, by omega⟩
  | 2, _ => exact ⟨_, 0, _, 3, 3, rfl, hh.lt, hh.cell 2 rfl, row_loc h3 rfl rfl, by omega⟩
set_option maxHeartbeats 32000000 in
theorem l02Any_ok : ∀ (M b : Nat) (w : World), Src w b → 1 ≤ M → M ≤ 12 → Calls Tryz.prog 155 #[.pointer (some ⟨b, 0, none⟩), .int .i64 M] w (SolD b w M) := by
  intro M
  induction M using Nat.strongRecOn with
  | _ M ih =>
  intro b w h h1 hM
  have IH := Lib.hid ih
  clear ih
  have hlt := h.lt
  have hR := Loc.new w rfl #[.slice none 0 0, .slice none 0 0] 26
  go_enter Tryz.func155, Tryz.ntmps155
  go_wp2_with fail
  refine (l01Next_ok b (M : Int) _ (h.below (below_al (Below.refl _ _) _)) ⟨by omega, by omega⟩).mono ?_
  rintro e w1 ⟨y, rfl, _, hy, hs1, hg1⟩
  obtain ⟨hy1, hy2⟩ := hy (by omega)
  obtain ⟨y0, rfl⟩ : ∃ k : Nat, y = k := ⟨y.toNat, by omega⟩
  obtain ⟨N, hN⟩ : ∃ N, N = y0 + 1 := ⟨_, rfl⟩
  have e1 : (1 : Int) + (y0 : Int) = (N : Int) := by omega
  have hN1 : 1 ≤ N := by omega
  have hNM : N ≤ M := by omega
  clear hy hy1 hy2 hN
  have hR1 := hR.grown hg1 (by simp; omega)
  have hG1 := grown_trans (World.grownBy_alloc w (.cells #[.slice none 0 0, .slice none 0 0] 26) (some b)) hg1
  go_wp2_with fail
  refine (l01Next_ok b 8 _ hs1 ⟨by omega, by omega⟩).mono ?_
  rintro e w2 ⟨x, rfl, _, hx, hs2, hg2⟩
  obtain ⟨hx1, hx2⟩ := hx (by omega)
  have hR2 := hR1.grown hg2 (by simp; omega)
  have hG2 := grown_trans hG1 hg2
  have hz2 := hR2.lt
  clear hx hR hR1 hs1 hg1 hg2 hG1 e1
  have hx8 : x = 0 ∨ x = 1 ∨ x = 2 ∨ x = 3 ∨ x = 4 ∨ x = 5 ∨ x = 6 ∨ x = 7 := by omega
  clear hx1 hx2
  rcases hx8 with rfl | rfl | rfl | rfl | rfl | rfl | rfl | rfl
  · go_wp2_with fail
    refine (l02Flip_any N _ (by omega)).mono ?_
    rintro e w3 ⟨a3, c3, vs3, a3', c3', vs3', rfl, ho3, hb3⟩
    have hR3 := hR2.below hb3 hR2.lt
    have lR := hR3.two
    have hs3 := hs2.below hb3
    have hG3 := grown_trans hG2 (grown_of_below hb3 (some b))
    go_wp2
    exact bodyPost_ret (v := sAgg a3 N c3 a3' N c3') (by simp [results, Tryz.results155, go_sem, lR]) rfl ⟨N, by omega, by omega, sol_ret ho3 hz2 hs3 hlt hG3 (rep_sq (unit_isP N)) (col_sq (unit_isP N))⟩
  · go_wp2_with fail
    refine (l02Polygon_any N _ hN1 (by omega)).mono ?_
    rintro e w3 ⟨a3, c3, vs3, f3, a3', c3', vs3', g3, rfl, ho3, sf3, sg3, hb3⟩
    have hR3 := hR2.below hb3 hR2.lt
    have lR := hR3.two
    have hs3 := hs2.below hb3
    have hG3 := grown_trans hG2 (grown_of_below hb3 (some b))
    go_wp2
    exact bodyPost_ret (v := sAgg a3 N c3 a3' N c3') (by simp [results, Tryz.results155, go_sem, lR]) rfl ⟨N, by omega, by omega, sol_ret ho3 hz2 hs3 hlt hG3 sf3 sg3⟩
  · by_cases c4 : 4 ≤ N ∧ N % 2 = 0
    · obtain ⟨c4, c2⟩ := c4
      obtain ⟨K, hK⟩ : ∃ K, N = 2 * K := ⟨N / 2, by omega⟩
      have d1 : Int.tdiv (N : Int) 2 = (K : Int) := by rw [hK, show ((2 * K : Nat) : Int) = 2 * (K : Int) by push_cast; rfl]; exact Int.mul_tdiv_cancel_left _ (by omega)
      have d2 : Int.tmod (N : Int) 2 = 0 := by rw [hK, show ((2 * K : Nat) : Int) = 2 * (K : Int) by push_cast; rfl]; exact Int.mul_tmod_right _ _
      have i1 : (4 : Int) ≤ (N : Int) := by omega
      have hK2 : 1 ≤ K := by omega
      have hKN : K * 2 = N := by omega
      have HKN := Lib.hid hKN
      have hKb : K ≤ 12 := by omega
      clear hK hKN c2
      go_wp2_with fail
      refine (l02Twisted_ok b K _ hs2 hK2 (by have := HKN.out; omega)).mono ?_
      rintro e w3 ⟨a3, c3, vs3, f3, a3', c3', vs3', g3, rfl, ho3, sf3, sg3, hs3, hg3⟩
      have hR3 := hR2.grown hg3 (by simp; omega)
      have hG3 := grown_trans hG2 hg3
      have hz3 := hR3.lt
      go_wp2_with fail
      refine (l02Twisted_ok b 2 _ hs3 (by omega) (by omega)).mono ?_
      rintro e w4 ⟨a4, c4, vs4, f4, a4', c4', vs4', g4, rfl, ho4, sf4, sg4, hs4, hg4⟩
      have hR4 := hR3.grown hg4 (by simp; omega)
      have hG4 := grown_trans hG3 hg4
      have hz4 := hR4.lt
      have ho34 := ho3.grownb hg4 (by omega)
      go_wp2_with fail
      refine (l02Product_any _ _ _ _ K 2 _ _ _ _ f3 g3 f4 g4 _ ho34.f.tbl ho34.s.tbl ho4.f.tbl ho4.s.tbl sf3 sg3 sf4 sg4 hK2 (by omega) (by have := HKN.out; omega) (by omega)).mono ?_
      rintro e w5 hr5
      rw [HKN.out] at hr5
      obtain ⟨a5, c5, vs5, f5, a5', c5', vs5', g5, rfl, ho5, sf5, sg5, hb5⟩ := hr5
      have hR5 := hR4.below hb5 hR4.lt
      have lR := hR5.two
      have hs5 := hs4.below hb5
      have hG5 := grown_trans hG4 (grown_of_below hb5 (some b))
      go_wp2
      exact bodyPost_ret (v := sAgg a5 N c5 a5' N c5') (by simp [results, Tryz.results155, go_sem, lR]) rfl ⟨N, by omega, by omega, sol_ret ho5 hz4 hs5 hlt hG5 sf5 sg5⟩
    · by_cases c5 : 4 ≤ N
      · have hodd : N % 2 = 1 := by omega
        have d2 : Int.tmod (N : Int) 2 = 1 := by show ((N % 2 : Nat) : Int) = 1; rw [hodd]; rfl
        clear hodd c4
        have i1 : (4 : Int) ≤ (N : Int) := by omega
        go_wp2_with fail
        refine (l02Twisted_ok b N _ hs2 hN1 (by omega)).mono ?_
        rintro e w3 ⟨a3, c3, vs3, f3, a3', c3', vs3', g3, rfl, ho3, sf3, sg3, hs3, hg3⟩
        have hR3 := hR2.grown hg3 (by simp; omega)
        have lR := hR3.two
        have hG3 := grown_trans hG2 hg3
        go_wp2
        exact bodyPost_ret (v := sAgg a3 N c3 a3' N c3') (by simp [results, Tryz.results155, go_sem, lR]) rfl ⟨N, by omega, by omega, sol_ret ho3 hz2 hs3 hlt hG3 sf3 sg3⟩
      · have i1 : ¬ (4 : Int) ≤ (N : Int) := by omega
        go_wp2_with fail
        refine (l02Twisted_ok b N _ hs2 hN1 (by omega)).mono ?_
        rintro e w3 ⟨a3, c3, vs3, f3, a3', c3', vs3', g3, rfl, ho3, sf3, sg3, hs3, hg3⟩
        have hR3 := hR2.grown hg3 (by simp; omega)
        have lR := hR3.two
        have hG3 := grown_trans hG2 hg3
        go_wp2
        exact bodyPost_ret (v := sAgg a3 N c3 a3' N c3') (by simp [results, Tryz.results155, go_sem, lR]) rfl ⟨N, by omega, by omega, sol_ret ho3 hz2 hs3 hlt hG3 sf3 sg3⟩
  · by_cases c2 : 2 ≤ N
    · have i1 : (2 : Int) ≤ (N : Int) := by omega
      go_wp2_with fail
      refine (l01Next_ok b ((N : Int) - 1) _ hs2 ⟨by omega, by omega⟩).mono ?_
      rintro e w3 ⟨q, rfl, _, hq, hs3, hg3⟩
      obtain ⟨hq1, hq2⟩ := hq (by omega)
      obtain ⟨q0, rfl⟩ : ∃ k : Nat, q = k := ⟨q.toNat, by omega⟩
      obtain ⟨K, hK⟩ : ∃ K, K = q0 + 1 := ⟨_, rfl⟩
      have e1 : (1 : Int) + (q0 : Int) = (K : Int) := by omega
      have hK1 : 1 ≤ K := by omega
      have hKN : K < N := by omega
      obtain ⟨J, hJ⟩ : ∃ J, J = N - K := ⟨_, rfl⟩
      have e2 : (N : Int) - (K : Int) = (J : Int) := by omega
      have hJ1 : 1 ≤ J := by omega
      have HJ := Lib.hid (show K + J = N by omega)
      clear hq hq1 hq2 hK hJ
      have hR3 := hR2.grown hg3 (by simp; omega)
      have hG3 := grown_trans hG2 hg3
      have hz3 := hR3.lt
      go_wp2_with fail
      refine (IH.out K (by omega) b _ hs3 hK1 (by omega)).mono ?_
      rintro e w4 ⟨n4, hn41, hn4K, a4, c4, vs4, f4, a4', c4', vs4', g4, rfl, ho4, sf4, sg4, hs4, hg4⟩
      have hR4 := hR3.grown hg4 (by simp; omega)
      have hG4 := grown_trans hG3 hg4
      have hz4 := hR4.lt
      go_wp2_with fail
      refine (l02Twisted_ok b J _ hs4 hJ1 (by have := HJ.out; omega)).mono ?_
      rintro e w5 ⟨a5, c5, vs5, f5, a5', c5', vs5', g5, rfl, ho5, sf5, sg5, hs5, hg5⟩
      have hR5 := hR4.grown hg5 (by simp; omega)
      have hG5 := grown_trans hG4 hg5
      have hz5 := hR5.lt
      have ho45 := ho4.grownb hg5 (by omega)
      go_wp2_with fail
      refine (l02Union_any _ _ _ _ n4 J _ _ _ _ f4 g4 f5 g5 _ ho45.f.tbl ho45.s.tbl ho5.f.tbl ho5.s.tbl sf4 sg4 sf5 sg5 hn41 hJ1 (by omega) (by have := HJ.out; omega)).mono ?_
      rintro e w6 ⟨a6, c6, vs6, f6, a6', c6', vs6', g6, rfl, ho6, sf6, sg6, hb6⟩
      have hJJ := HJ.out
      have hR6 := hR5.below hb6 hR5.lt
      have lR := hR6.two
      have hs6 := hs5.below hb6
      have hG6 := grown_trans hG5 (grown_of_below hb6 (some b))
      go_wp2
      exact bodyPost_ret (v := sAgg a6 (n4 + J) c6 a6' (n4 + J) c6') (by simp [results, Tryz.results155, go_sem, lR]) rfl ⟨(n4 + J), by omega, by omega, sol_ret ho6 hz5 hs6 hlt hG6 sf6 sg6⟩
    · have i1 : ¬ (2 : Int) ≤ (N : Int) := by omega
      go_wp2_with fail
      refine (l02Twisted_ok b N _ hs2 hN1 (by omega)).mono ?_
      rintro e w3 ⟨a3, c3, vs3, f3, a3', c3', vs3', g3, rfl, ho3, sf3, sg3, hs3, hg3⟩
      have hR3 := hR2.grown hg3 (by simp; omega)
      have lR := hR3.two
      have hG3 := grown_trans hG2 hg3
      go_wp2
      exact bodyPost_ret (v := sAgg a3 N c3 a3' N c3') (by simp [results, Tryz.results155, go_sem, lR]) rfl ⟨N, by omega, by omega, sol_ret ho3 hz2 hs3 hlt hG3 sf3 sg3⟩
  · by_cases c4 : 4 ≤ M
    · have i1 : (4 : Int) ≤ (M : Int) := by omega
      obtain ⟨w9, hw9⟩ : ∃ w9, ((((w2.alloc (.cells #[.int .i64 0, .int .i64 1, .int .i64 3, .int .i64 2] 2)).alloc (.cells #[.int .i64 0, .int .i64 1, .int .i64 3, .int .i64 2] 2)).alloc (.cells #[.int .i64 1, .int .i64 0, .int .i64 2, .int .i64 3] 2)).alloc (.cells #[.int .i64 1, .int .i64 0, .int .i64 2, .int .i64 3] 2)).alloc (.cells #[.slice (some ⟨w2.heap.size, 0, none⟩) 4 4, .slice (some ⟨w2.heap.size + 1, 0, none⟩) 4 4, .slice (some ⟨w2.heap.size + 1 + 1, 0, none⟩) 4 4, .slice (some ⟨w2.heap.size + 1 + 1 + 1, 0, none⟩) 4 4] 27) = w9 := ⟨_, rfl⟩
      have ht9 : Tbl w9 (some ⟨w2.heap.size + 1 + 1 + 1 + 1, 0, none⟩) 4 rw4 := by rw [← hw9]; exact lit4 w2 _ _
      have hb9 : Below w2.heap.size w2 w9 := by rw [← hw9]; exact below_al (below_al (below_al (below_al (below_al (Below.refl _ _) _) _) _) _) _
      have HW9 := Lib.hid hw9
      clear hw9
      have hR9 := hR2.below hb9 hz2
      have hs9 := hs2.below hb9
      have hG9 := grown_trans hG2 (grown_of_below hb9 (some b))
      have hz9 := hb9.size
      go_wp2_with fail
      try rw [HW9.out]
      refine (l02Involutive_any 4 _ _ rw4 _ ht9 rw4_ok (by omega) (by omega)).mono ?_
      rintro e w10 ⟨a10, c10, vs10, f10, a10', c10', vs10', g10, rfl, ho10, sf10, sg10, hb10⟩
      have hR10 := hR9.below hb10 hR9.lt
      have lR := hR10.two
      have hs10 := hs9.below hb10
      have hG10 := grown_trans hG9 (grown_of_below hb10 (some b))
      go_wp2
      exact bodyPost_ret (v := sAgg a10 4 c10 a10' 4 c10') (by simp [results, Tryz.results155, go_sem, lR]) rfl ⟨4, by omega, by omega, sol_ret ho10 (by omega) hs10 hlt hG10 sf10 sg10⟩
    · have i1 : ¬ (4 : Int) ≤ (M : Int) := by omega
      go_wp2_with fail
      refine (l02Twisted_ok b N _ hs2 hN1 (by omega)).mono ?_
      rintro e w3 ⟨a3, c3, vs3, f3, a3', c3', vs3', g3, rfl, ho3, sf3, sg3, hs3, hg3⟩
      have hR3 := hR2.grown hg3 (by simp; omega)
      have lR := hR3.two
      have hG3 := grown_trans hG2 hg3
      go_wp2
      exact bodyPost_ret (v := sAgg a3 N c3 a3' N c3') (by simp [results, Tryz.results155, go_sem, lR]) rfl ⟨N, by omega, by omega, sol_ret ho3 hz2 hs3 hlt hG3 sf3 sg3⟩
  · by_cases c2 : 2 ≤ N
    · have i1 : (2 : Int) ≤ (N : Int) := by omega
      go_wp2_with fail
      refine (l02Polygon_any N _ hN1 (by omega)).mono ?_
      rintro e w3 ⟨a3, c3, vs3, f3, a3', c3', vs3', g3, rfl, ho3, sf3, sg3, hb3⟩
      have hR3 := hR2.below hb3 hR2.lt
      have hs3 := hs2.below hb3
      have hG3 := grown_trans hG2 (grown_of_below hb3 (some b))
      have hz3 := hR3.lt
      go_wp2_with fail
      refine (l02Inverse_any N _ _ _ _ f3 g3 _ ho3.f.tbl ho3.s.tbl sf3 sg3 hN1 (by omega)).mono ?_
      rintro e w4 ⟨a4, c4, vs4, f4, a4', c4', vs4', g4, rfl, ho4, sf4, sg4, hb4⟩
      have hR4 := hR3.below hb4 hR3.lt
      have lR := hR4.two
      have hs4 := hs3.below hb4
      have hG4 := grown_trans hG3 (grown_of_below hb4 (some b))
      go_wp2
      exact bodyPost_ret (v := sAgg a4 N c4 a4' N c4') (by simp [results, Tryz.results155, go_sem, lR]) rfl ⟨N, by omega, by omega, sol_ret ho4 hz3 hs4 hlt hG4 sf4 sg4⟩
    · have i1 : ¬ (2 : Int) ≤ (N : Int) := by omega
      go_wp2_with fail
      refine (l02Twisted_ok b N _ hs2 hN1 (by omega)).mono ?_
      rintro e w3 ⟨a3, c3, vs3, f3, a3', c3', vs3', g3, rfl, ho3, sf3, sg3, hs3, hg3⟩
      have hR3 := hR2.grown hg3 (by simp; omega)
      have lR := hR3.two
      have hG3 := grown_trans hG2 hg3
      go_wp2
      exact bodyPost_ret (v := sAgg a3 N c3 a3' N c3') (by simp [results, Tryz.results155, go_sem, lR]) rfl ⟨N, by omega, by omega, sol_ret ho3 hz2 hs3 hlt hG3 sf3 sg3⟩
  · by_cases c4 : 3 ≤ M
    · have i1 : (3 : Int) ≤ (M : Int) := by omega
      obtain ⟨w9, hw9⟩ : ∃ w9, (((w2.alloc (.cells #[.int .i64 0, .int .i64 1, .int .i64 2] 2)).alloc (.cells #[.int .i64 0, .int .i64 1, .int .i64 2] 2)).alloc (.cells #[.int .i64 1, .int .i64 0, .int .i64 2] 2)).alloc (.cells #[.slice (some ⟨w2.heap.size, 0, none⟩) 3 3, .slice (some ⟨w2.heap.size + 1, 0, none⟩) 3 3, .slice (some ⟨w2.heap.size + 1 + 1, 0, none⟩) 3 3] 27) = w9 := ⟨_, rfl⟩
      have ht9 : Tbl w9 (some ⟨w2.heap.size + 1 + 1 + 1, 0, none⟩) 3 rw3 := by rw [← hw9]; exact lit3 w2 _ _
      have hb9 : Below w2.heap.size w2 w9 := by rw [← hw9]; exact below_al (below_al (below_al (below_al (Below.refl _ _) _) _) _) _
      have HW9 := Lib.hid hw9
      clear hw9
      have hR9 := hR2.below hb9 hz2
      have hs9 := hs2.below hb9
      have hG9 := grown_trans hG2 (grown_of_below hb9 (some b))
      have hz9 := hb9.size
      go_wp2_with fail
      try rw [HW9.out]
      refine (l02Involutive_any 3 _ _ rw3 _ ht9 rw3_ok (by omega) (by omega)).mono ?_
      rintro e w10 ⟨a10, c10, vs10, f10, a10', c10', vs10', g10, rfl, ho10, sf10, sg10, hb10⟩
      have hR10 := hR9.below hb10 hR9.lt
      have lR := hR10.two
      have hs10 := hs9.below hb10
      have hG10 := grown_trans hG9 (grown_of_below hb10 (some b))
      go_wp2
      exact bodyPost_ret (v := sAgg a10 3 c10 a10' 3 c10') (by simp [results, Tryz.results155, go_sem, lR]) rfl ⟨3, by omega, by omega, sol_ret ho10 (by omega) hs10 hlt hG10 sf10 sg10⟩
    · have i1 : ¬ (3 : Int) ≤ (M : Int) := by omega
      go_wp2_with fail
      refine (l02Twisted_ok b N _ hs2 hN1 (by omega)).mono ?_
      rintro e w3 ⟨a3, c3, vs3, f3, a3', c3', vs3', g3, rfl, ho3, sf3, sg3, hs3, hg3⟩
      have hR3 := hR2.grown hg3 (by simp; omega)
      have lR := hR3.two
      have hG3 := grown_trans hG2 hg3
      go_wp2
      exact bodyPost_ret (v := sAgg a3 N c3 a3' N c3') (by simp [results, Tryz.results155, go_sem, lR]) rfl ⟨N, by omega, by omega, sol_ret ho3 hz2 hs3 hlt hG3 sf3 sg3⟩
  · go_wp2_with fail
    refine (l02Twisted_ok b N _ hs2 hN1 (by omega)).mono ?_
    rintro e w3 ⟨a3, c3, vs3, f3, a3', c3', vs3', g3, rfl, ho3, sf3, sg3, hs3, hg3⟩
    have hR3 := hR2.grown hg3 (by simp; omega)
    have lR := hR3.two
    have hG3 := grown_trans hG2 hg3
    go_wp2
    exact bodyPost_ret (v := sAgg a3 N c3 a3' N c3') (by simp [results, Tryz.results155, go_sem, lR]) rfl ⟨N, by omega, by omega, sol_ret ho3 hz2 hs3 hlt hG3 sf3 sg3⟩
end Go.Proofs.YtpdgpgbgakinlaaGreat
