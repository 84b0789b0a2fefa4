/-
  Renaming a pair map by the reference's functions.
  No condition but bounds.
-/
import Derived.Test.YtdkpalllfekiiaaGreatPrTw
import Derived.Test.YtdkpalllfekiiaaGreatBase3
import Derived.Deep.DeepCutAuto
import Derived.Deep.RegionHeld3
namespace Go.Proofs.YtdkpalllfekiiaaGreat
set_option linter.unusedVariables false
set_option linter.unusedSimpArgs false
set_option maxRecDepth 100000
open Go.RowKit

set_option maxHeartbeats 16000000 in
theorem l01Rename_any (n : Nat) (at_ ap : Option Addr) (ct cp : Nat) (t : List (List Int)) (p : List Int) (w : World) (h1 : Tbl w at_ n t) (h2 : Row w ap n p) (hs : Sq n t) (hP : IsP n p) (hn0 : 1 ≤ n) (hn : n ≤ 12) :
    Calls Tryz.prog 126 #[.slice at_ n ct, .slice ap n cp] w fun e w' => ∃ a c vs, e = .returned (.slice a n c) ∧ OwnT w' w.heap.size a n c vs (rnL n t p) ∧ Below w.heap.size w w' := by
  have HP := Lib.hid hP
  have HS := Lib.hid hs
  clear hs hP
  have hO := OwnT.fresh w rfl
  have hQ := below_al (Below.refl w.heap.size w) (.cells #[] 24)
  go_enter Tryz.func126, Tryz.ntmps126
  go_wp2
  go_loopw [5, 6] (fun z i wr => ∃ (k : Nat) (az : Option Addr) (cz : Nat) (vz : List SV), k ≤ n ∧ i = .int .i64 k ∧ z = .slice az k cz ∧ OwnT wr w.heap.size az k cz vz ((tabF n fun _ _ => 0).take k) ∧ Below w.heap.size w wr) (fun _ i _ => n - (intOf i).toNat)
  case atStart => exact ⟨0, _, 0, _, Nat.zero_le _, rfl, rfl, by simpa using hO, hQ⟩
  case round =>
    clear hO hQ
    obtain ⟨k, az, cz, vz, hk, rfl, rfl, ho, hq⟩ := hrel
    have hqs := hq.size
    by_cases hlt : k < n
    · have HZ := Lib.hid (zrow9 hlt)
      go_wp2_with (first | (at_make; refine make1 rfl rfl rfl rfl (by omega) ?_; intro w4 ho4 hs4 hb4; have hz4 := ho.below hb4) | (at_builtin; refine appT1 rfl rfl hz4 rfl (ho4.mono hqs) (fun g h1 h2 => by have h3 := ho.high _ h1; have h4 := ho4.lo _ h2; omega) (fun i hi g h1 h2 => by have h3 := ho4.lo _ h1; have h4 := (ho.row i hi).hi _ h2; omega) rfl (by omega) (by omega) ?_; intro g' cc w5 hO5 hb5))
      go_roundw
      case rel => exact ⟨k + 1, _, _, _, by omega, by go_num, rfl, by rw [HZ.out]; exact hO5, (hq.trans (hb4.mono hqs)).trans hb5⟩
      case measure => simp [intOf]; omega
    · obtain rfl : n = k := by omega
      rw [List.take_of_length_le (by rw [tabF_len]; exact Nat.le_refl _)] at ho
      obtain ⟨c1, rfl⟩ : ∃ c1, c1 = cz := ⟨_, rfl⟩
      obtain ⟨vs1, rfl⟩ : ∃ vs1, vs1 = vz := ⟨_, rfl⟩
      obtain ⟨gm, rfl, _⟩ := ho.cells (by omega)
      have HLO := Lib.hid ho.uLo
      obtain ⟨W1, rfl⟩ : ∃ W : World, W = wr := ⟨_, rfl⟩
      go_wp2
      go_loopw [7, 8, 9] (fun i _ _ wr => ∃ (x : Nat) (V : Nat → Nat → Int), x ≤ n ∧ i = .int .i64 x ∧ OwnT wr w.heap.size (some ⟨gm, 0, none⟩) n c1 vs1 (tabF n V) ∧ Hid (ImgK n t p V x 0) ∧ Below w.heap.size w wr) (fun i _ _ _ => n - (intOf i).toNat)
      case atStart => exact ⟨0, _, Nat.zero_le _, rfl, ho, Lib.hid (fun x' y' _ _ h => by omega), hq⟩
      case round =>
        clear ho hq hqs
        obtain ⟨x, V, hx, rfl, ho, HV, hq⟩ := hrel
        by_cases hlt : x < n
        · obtain ⟨u, hu, hun⟩ := HP.out.at hlt
          obtain ⟨bp, op, rfl, gu⟩ := (h2.below hq).at x hlt
          rw [hu] at gu
          obtain ⟨gm', g1, cg, e3, ev, r1, hc1, ht1⟩ := ho.spotQ hun
          cases e3
          have hg1 : w.heap.size ≤ g1 := HLO.out g1 ht1
          have HEV := Lib.hid ev
          have i1 : (0 : Int) ≤ (x : Int) := by omega
          have i2 : (x : Int) < (n : Int) := by omega
          have i5 : (0 : Int) ≤ (u : Int) := by omega
          have i6 : (u : Int) < (n : Int) := by omega
          clear ev hc1 ht1
          go_wp2
          go_loopw [9] (fun j wr => ∃ (y : Nat) (V : Nat → Nat → Int), y ≤ n ∧ j = .int .i64 y ∧ OwnT wr w.heap.size (some ⟨gm, 0, none⟩) n c1 vs1 (tabF n V) ∧ Hid (ImgK n t p V x y) ∧ Below w.heap.size w wr) (fun j _ => n - (intOf j).toNat)
          case atStart => exact ⟨0, V, Nat.zero_le _, rfl, ho, HV, hq⟩
          case round =>
            clear ho hq r1 gu
            obtain ⟨y, V, hy, rfl, ho, HV, hq⟩ := hrel
            obtain ⟨b, off, A, O, C, rfl, G0⟩ := h1.grid HS.out (by omega)
            have GR := (G0.below hq)
            by_cases hly : y < n
            · have G := GR.look hlt hly
              obtain ⟨v, hv, hvn⟩ := HP.out.at hly
              obtain ⟨bp', op', e', gv⟩ := (h2.below hq).at y hly
              cases e'
              have hz := HS.out.lt hlt hly
              obtain ⟨z, HZ⟩ : ∃ z, Hid (tv t x y = z) := ⟨_, rfl⟩
              rw [HZ.out] at G hz
              obtain ⟨bp'', op'', e'', gz⟩ := (h2.below hq).at z hz
              cases e''
              obtain ⟨Z, HZZ⟩ : ∃ Z, Hid (p.getD z 0 = Z) := ⟨_, rfl⟩
              rw [HZZ.out] at gz
              rw [hv] at gv
              obtain ⟨gm', g1', cg', e3, ev, r1, hc1, ht1⟩ := ho.spotQ hun
              cases e3
              have ev' := HEV.out.symm.trans ev
              cases ev'
              have ev := HEV.out
              have k1 := (hc1 v hvn).1
              have f1 := (hc1 v hvn).2
              have hput := ho.putQ hun hvn ev Z
              have HST : Hid (ImgK n t p (updQ V u v Z) x (y + 1)) := Lib.hid (by
                have := ImgK.step HP.out HV.out hlt hly (u := u) (v := v) (by rw [hu, Int.toNat_natCast]) (by rw [hv, Int.toNat_natCast])
                rw [show imgI t p x y = Z by unfold imgI; rw [HZ.out, HZZ.out]] at this
                exact this)
              have HPUT := Lib.hid hput
              have i3 : (0 : Int) ≤ (y : Int) := by omega
              have i4 : (y : Int) < (n : Int) := by omega
              have i7 : (0 : Int) ≤ (v : Int) := by omega
              have i8 : (v : Int) < (n : Int) := by omega
              have i9 : (0 : Int) ≤ (z : Int) := by omega
              have i10 : (z : Int) < (n : Int) := by omega
              obtain ⟨G1, G2⟩ := G
              have hq8 : Below w.heap.size w wr.drew := hq.drew
              have hput8 : Hid (OwnT (wr.drew.setCell ⟨g1, v, none⟩ (.int .i64 Z)) w.heap.size (some ⟨gm, 0, none⟩) n c1 vs1 (tabF n (updQ V u v Z))) := Lib.hid (hput.drewN 1)
              clear hv hc1 hput ho hq HPUT ht1 ev
              go_wp2
              refine wp_region_still_tail 16 (by kernel_rfl) (by kernel_rfl) ?_
              change wpStill _ _ wr.drew (fun a' => wpList _ _ _ _ a' wr.drew) _ _
              have G18 : wr.drew.cell? _ = _ := G1
              have G28 : wr.drew.cell? _ = _ := G2
              have gv8 : wr.drew.cell? _ = _ := gv
              have gz8 : wr.drew.cell? _ = _ := gz
              have k18 : wr.drew.cell? _ = _ := k1
              have f18 : wr.drew.frozen? ⟨g1, v, none⟩ = false := f1
              clear G1 G2 gv gz r1 k1 f1
              generalize wr.drew = w8 at *
              simp only [List.take_succ_cons, List.take_zero, List.drop_succ_cons, List.drop_zero]
              repeat still_step
              refine wpStill_nil ?_
              go_wp2
              go_roundw
              case rel => exact ⟨y + 1, _, by omega, by go_num, hput8.out, HST, below_setne hq8 hg1 _⟩
              case measure => simp [intOf]; omega
            · obtain rfl : n = y := by omega
              go_wp2
              go_roundw
              case rel => exact ⟨x + 1, V, by omega, by go_num, ho, Lib.hid HV.out.next, hq⟩
              case measure => simp [intOf]; omega
        · obtain rfl : n = x := by omega
          go_wp2
          go_ret
          exact ⟨_, _, _, rfl, by rw [← ImgK.done HP.out HV.out]; exact ho, hq⟩

set_option maxHeartbeats 8000000 in
theorem l02Rename_any (n : Nat) (a a' ap : Option Addr) (c c' cp : Nat) (f g : List (List Int)) (p : List Int) (w : World) (h1 : Tbl w a n f) (h2 : Tbl w a' n g) (h3 : Row w ap n p) (hf : Sq n f) (hg : Sq n g) (hP : IsP n p) (hn0 : 1 ≤ n) (hn : n ≤ 12) :
    Calls Tryz.prog 111 #[sAgg a n c a' n c', .slice ap n cp] w (SolB w n) := by
  obtain ⟨w0, hw0⟩ : ∃ w0, (w.alloc (.cells #[.slice a n c, .slice a' n c'] 42)).alloc (.cells #[.slice none 0 0, .slice none 0 0] 42) = w0 := ⟨_, rfl⟩
  have hA : Loc w0 w.heap.size #[.slice a n c, .slice a' n c'] 42 := by rw [← hw0]; exact (Loc.new w rfl _ _).alloc _
  have hR : Loc w0 (w.heap.size + 1) #[.slice none 0 0, .slice none 0 0] 42 := by rw [← hw0]; exact Loc.new _ (by simp) _ _
  have hB0 : Below w.heap.size w w0 := by rw [← hw0]; exact below_al (below_al (Below.refl _ _) _) _
  have HF := Lib.hid hf; have HG := Lib.hid hg; have HP := Lib.hid hP
  have HSF := Lib.hid (rnL_sq hP hf); have HSG := Lib.hid (rnL_sq hP hg)
  have HW0 := Lib.hid hw0
  clear hf hg hP hw0
  have lA := hA.two
  have hAl := hA.lt
  have hRl := hR.lt
  go_enter Tryz.func111, Tryz.ntmps111
  go_upto_region 1 with fail
  rw [HW0.out]
  have tok1 : True := trivial
  go_region_held3 (fun w' => w'.cell? ⟨w.heap.size, 0, none⟩ = some (.slice a n c) ∧ w'.cell? ⟨w.heap.size, 1, none⟩ = some (.slice a' n c'))
    (first | exact ⟨lM.1, lM.2.1⟩ | exact ⟨lC.1, lC.2.1⟩ | exact ⟨lB.1, lB.2.1⟩ | exact ⟨lA.1, lA.2.1⟩ | go_keep)
    (first
      | (go_at_call 126; have _t := tok1; refine (l01Rename_any n a ap c cp f p _ (h1.below (below_drewN hB0 1)) (h3.below (below_drewN hB0 1)) HF.out HP.out hn0 hn).mono ?_; rintro e w2 ⟨a2, c2, vs2, rfl, ho2, hb2⟩; clear _t tok1; have tok2 : True := trivial; have hq2 : Below w0.heap.size w0 w2 := below_th (below_drewN (Below.refl _ _) 1) hb2; have lB := (hA.below hq2 hAl).two)
      | (go_at_call 126; have _t := tok2; refine (l01Rename_any n a' ap c' cp g p _ (h2.below (below_th hB0 hq2)) (h3.below (below_th hB0 hq2)) HG.out HP.out hn0 hn).mono ?_; rintro e w3 ⟨a3, c3, vs3, rfl, ho3, hb3⟩; clear _t tok2; have hq3 : Below w0.heap.size w0 w3 := below_th hq2 hb3; have lC := (hA.below hq3 hAl).two; have lRr := (hR.below hq3 hRl).two; have lM := (((hA.below hq3 hAl).setne (a := ⟨w.heap.size + 1, 0, none⟩) (by show w.heap.size ≠ w.heap.size + 1; omega) (.slice a2 n c2)).setne (a := ⟨w.heap.size + 1, 1, none⟩) (by show w.heap.size ≠ w.heap.size + 1; omega) (.slice a3 n c3)).two))
  all_goals
    have hR3 := hR.below hq3 hRl
    have lR := hR3.two
    have hz2 := hq2.size
    have hz3 := hb3.size
    have ho23 := (ho2.mono (lo' := w0.heap.size) (Nat.le_refl _)).below hb3
    have hap : ∀ q, TblS a2 n vs2 q → ¬ TblS a3 n vs3 q := fun q e1 e2 => by have := ho2.uHi q e1; have := ho3.uLo q e2; omega
    have hB3 := below_th hB0 hq3
    go_wp2
    refine bodyPost_ret (v := sAgg a2 n c2 a3 n c3) (by simp [results, Tryz.results111, go_sem, lR]) rfl ⟨a2, c2, vs2, _, a3, c3, vs3, _, rfl, ⟨?_, ?_, hap⟩, HSF.out, HSG.out, ?_⟩
    · exact ((ho23.setlo (by show w.heap.size + 1 < w0.heap.size; omega) _).setlo (by show w.heap.size + 1 < w0.heap.size; omega) _).mono (by omega)
    · exact ((ho3.setlo (by show w.heap.size + 1 < w2.heap.size; omega) _).setlo (by show w.heap.size + 1 < w2.heap.size; omega) _).mono (by omega)
    · exact below_setne (below_setne hB3 (by show w.heap.size ≤ w.heap.size + 1; omega) _) (by show w.heap.size ≤ w.heap.size + 1; omega) _
end Go.Proofs.YtdkpalllfekiiaaGreat
