/-
  Walks and plain laws of this seat, some texts in one.
  No condition but bounds on lengths.
-/
import Derived.Test.YtiliimkfobfbnaaGreatPt21
import Derived.Test.YtiliimkfobfbnaaGreatPt1
import Derived.Test.YtiliimkfobfbnaaGreatPt2
import Derived.Test.YtiliimkfobfbnaaGreatPt13
import Derived.Test.YtiliimkfobfbnaaGreatPt12
namespace Go.Proofs.YtiliimkfobfbnaaGreat
set_option maxRecDepth 100000
set_option linter.unusedVariables false
set_option linter.unusedSimpArgs false
open Go.RowKit
set_option maxHeartbeats 8000000 in
theorem l11Lambda_any (n : Nat) (a a' : Option Addr) (c c' : Nat) (f g : List (List Int)) (w : World) (h1 : Tbl w a n f) (h2 : Tbl w a' n g) (h : BrT n f g) :
    Calls Tryz.prog 64 #[sAgg a n c a' n c'] w fun e w' => ∃ a1 c1 vs, e = .returned (.slice a1 n c1) ∧ OwnT w' w.heap.size a1 n c1 vs (lamT f g) ∧ Below w.heap.size w w' := by
  have hn := h.n12
  have hn1 := h.n1
  have HT := Lib.hid h1
  have HL : Hid (lamT f g = tabF n fun x y => ((lamN f g x y : Nat) : Int)) := Lib.hid (by unfold lamT; rw [h.sf.len])
  obtain ⟨V, HV⟩ : ∃ V : Nat → Nat → Int, Hid ((fun x y => ((lamN f g x y : Nat) : Int)) = V) := ⟨_, Lib.hid rfl⟩
  rw [HV.out] at HL
  obtain ⟨ba, oa, A, O, C, rfl, gf⟩ := h1.grid h.sf hn1
  obtain ⟨bc, oc, A', O', C', rfl, gg⟩ := h2.grid h.sg hn1
  have HB := Lib.hid h
  clear h h1 h2
  have hA := Loc.new w rfl #[.slice (some ⟨ba, oa, none⟩) n c, .slice (some ⟨bc, oc, none⟩) n c'] 26
  have hB := below_al (Below.refl w.heap.size w) (.cells #[.slice (some ⟨ba, oa, none⟩) n c, .slice (some ⟨bc, oc, none⟩) n c'] 26)
  have hsz : (w.alloc (.cells #[.slice (some ⟨ba, oa, none⟩) n c, .slice (some ⟨bc, oc, none⟩) n c'] 26)).heap.size = w.heap.size + 1 := size_alloc _ _
  go_enter Tryz.func64, Tryz.ntmps64
  generalize hw0 : w.alloc (.cells #[.slice (some ⟨ba, oa, none⟩) n c, .slice (some ⟨bc, oc, none⟩) n c'] 26) = w0 at *
  have hOT := OwnT.fresh w0 rfl
  have hB1 := below_al (Below.refl w0.heap.size w0) (.cells #[] 50)
  go_wp2
  try rw [hw0]
  go_loopw [3, 4, 5, 6] (fun z i _ _ wr => ∃ (k : Nat) (az : Option Addr) (cz : Nat) (vz : List SV), k ≤ n ∧ i = .int .i64 k ∧ z = .slice az k cz ∧ OwnT wr w0.heap.size az k cz vz ((tabF n V).take k) ∧ Below w0.heap.size w0 wr) (fun _ i _ _ _ => n - (intOf i).toNat)
  case atStart => exact ⟨0, _, 0, _, Nat.zero_le _, rfl, rfl, by rw [← hsz]; simpa using hOT, hB1⟩
  case round =>
    clear hOT hB1
    obtain ⟨k, az, cz, vz, hk, rfl, rfl, ho, hb⟩ := hrel
    have hAr := hA.below hb hA.lt
    have lA := hAr.two
    by_cases hlt : k < n
    · have hmx : ivN f k < n := (ivN_idx HB.out.sf hlt (HB.out.rf k hlt)).1
      obtain ⟨MX, HMX⟩ : ∃ MX, Hid (ivN f k = MX) := ⟨_, Lib.hid rfl⟩
      have HBK : Hid (∀ w, Tbl w (some ⟨ba, oa, none⟩) n f → Calls Tryz.prog 96 #[.slice (some ⟨ba, oa, none⟩) n c, .int .i64 k] w fun e w' => e = .returned (.int .i64 (MX : Int)) ∧ w' = w) := Lib.hid fun w hw => by
        have := l10Back_any n _ c f w hw HB.out.sf k hlt (HB.out.rf k hlt) hn
        rw [HMX.out] at this; exact this
      rw [HMX.out] at hmx
      have HVK : Hid (∀ y, V k y = ((tv f MX (tv g k y) : Nat) : Int)) := Lib.hid fun y => by
        rw [← HV.out, ← HMX.out]; rfl
      have hE := Own.fresh wr rfl
      have hqe := below_al (Below.refl wr.heap.size wr) (.cells #[] 2)
      have lA1 := (hAr.alloc (.cells #[] 2)).two
      go_wp2_with fail
      refine (HBK.out _ (((HT.out.below hB).below hb).below hqe)).mono ?_
      rintro e w2 ⟨rfl, rfl⟩
      go_wp2
      go_loopw [5, 7] (fun z i wq => ∃ (j : Nat) (ar : Option Addr) (cr : Nat), j ≤ n ∧ i = .int .i64 j ∧ z = .slice ar j cr ∧ Own wq wr.heap.size ar j cr ((List.range j).map fun y => V k y) ∧ Below wr.heap.size wr wq) (fun _ i _ => n - (intOf i).toNat)
      case atStart => exact ⟨0, _, 0, Nat.zero_le _, rfl, rfl, by simpa using hE, hqe⟩
      case round =>
        clear hE hqe lA1 lA
        obtain ⟨j, ar, cr, hj, rfl, rfl, hor, hqr⟩ := hrel
        have hAq := hAr.below hqr hAr.lt
        have lA := hAq.two
        have hwq := hqr.size
        by_cases hjt : j < n
        · have l1 := HB.out.sg.lt hlt hjt
          have gf2 := ((gf.below hB).below hb).below hqr
          have gg2 := ((gg.below hB).below hb).below hqr
          obtain ⟨r1, k1⟩ := gg2.look hlt hjt
          obtain ⟨r2, k2⟩ := gf2.look hmx l1
          have e1 := gg2.rlt k hlt; have e2 := gf2.rlt MX hmx; have e3 := gf2.lt; have e4 := gg2.lt; have e5 := hAq.lt
          have HS : Hid (((List.range (j + 1)).map fun y => V k y) = ((List.range j).map fun y => V k y) ++ [((tv f MX (tv g k j) : Nat) : Int)]) := Lib.hid (by rw [← HVK.out]; simp [List.range_succ])
          generalize tv g k j = q1 at *
          generalize tv f MX q1 = q2 at *
          have i1 : (0 : Int) ≤ (k : Int) := by omega
          have i2 : (k : Int) < (n : Int) := by omega
          have i3 : (0 : Int) ≤ (j : Int) := by omega
          have i4 : (j : Int) < (n : Int) := by omega
          have i5 : (0 : Int) ≤ (MX : Int) := by omega
          have i6 : (MX : Int) < (n : Int) := by omega
          have i7 : (0 : Int) ≤ (q1 : Int) := by omega
          have i8 : (q1 : Int) < (n : Int) := by omega
          clear gf2 gg2 gf gg HT hAq
          go_wp2
          go_region_law (refine step_app1 rfl rfl hor rfl rfl (by omega) (by omega) ?_; intro g' cc w8 hO8 hg8 hs8 hb8)
          all_goals
            go_wp2
            go_roundw
            case rel => exact ⟨j + 1, _, _, by omega, by go_num, rfl, by rw [HS.out]; exact hO8, hqr.trans hb8⟩
            case measure => simp [intOf]; omega
        · obtain rfl : j = n := by omega
          have ho3 := ho.below hqr
          have HS := Lib.hid (tabF_succ V hlt)
          have hbs := hb.size
          go_wp2_with (at_builtin; refine appT1 rfl rfl ho3 rfl (hor.mono (by omega)) (fun g h1 h2 => by have h3 := ho.high _ h1; have h4 := hor.lo _ h2; omega) (fun i hi g h1 h2 => by have h3 := hor.lo _ h1; have h4 := (ho.row i hi).hi _ h2; omega) rfl (by omega) (by omega) ?_; intro g' cc w9 hOT hb9)
          go_roundw
          case rel => exact ⟨k + 1, _, _, _, by omega, by go_num, rfl, by rw [HS.out]; exact hOT, (hb.trans (hqr.mono (by omega))).trans (hb9.mono (by omega))⟩
          case measure => simp [intOf]; omega
    · obtain rfl : k = n := by omega
      have HTK : Hid ((tabF k V).take k = tabF k V) := Lib.hid (List.take_of_length_le (by rw [tabF_len]; exact Nat.le_refl _))
      rw [HTK.out, ← HL.out] at ho
      go_wp2
      go_ret
      exact ⟨_, _, _, rfl, ho.mono (by omega), below_th hB hb⟩
theorem idxP_rho {n : Nat} {f g : List (List Int)} (h : BrT n f g) {x y : Nat} (hx : x < n) (hy : y < n) : idxP (g.getD (lamN f g x y) []) ((tv g x y : Nat) : Int) = rhoN f g x y := by
  have hz : lamN f g x y < n := h.b.lam_lt hx hy
  have hr : rhoN f g x y < n := h.b.rho_lt hx hy
  have hp : tv g (lamN f g x y) (rhoN f g x y) = tv g x y := h.b.prod hx hy
  refine idxP_of (by rw [h.sg.row hz]; exact hr) ?_ fun j hj e => ?_
  · have := h.sg.val hz hr
    exact this.trans (congrArg _ hp)
  · have hjn : j < n := by have : rhoN f g x y < n := hr; omega
    have e1 := h.sg.val hz hjn
    have e3 : (g.getD (lamN f g x y) []).getD j 0 = ((tv g (lamN f g x y) j : Nat) : Int) := e1
    rw [e3] at e
    have e2 : tv g (lamN f g x y) j = tv g (lamN f g x y) (rhoN f g x y) := by rw [hp]; omega
    have := h.b.c.cancel_l hz hjn hr e2
    omega
set_option maxHeartbeats 16000000 in
theorem l11Solution_any (n : Nat) (a a' : Option Addr) (c c' : Nat) (f g : List (List Int)) (w : World) (h1 : Tbl w a n f) (h2 : Tbl w a' n g) (h : BrT n f g) :
    Calls Tryz.prog 28 #[sAgg a n c a' n c'] w fun e w' => ∃ a1 c1 vs a1' c1' vs', e = .returned (sAgg a1 n c1 a1' n c1') ∧ OwnS w' w.heap.size a1 n c1 vs (lamT f g) a1' n c1' vs' (rhoT f g) ∧ Below w.heap.size w w' := by
  have hn := h.n12
  have n1 := h.n1
  obtain ⟨U, hU⟩ : ∃ U : Nat → Nat → Int, U = fun x y => ((rhoN f g x y : Nat) : Int) := ⟨_, rfl⟩
  have HUE : Hid (∀ x y, U x y = ((rhoN f g x y : Nat) : Int)) := Lib.hid fun x y => by rw [hU]
  have HUT : Hid (rhoT f g = tabF n U) := Lib.hid (by rw [hU]; unfold rhoT; rw [h.sf.len])
  have HSL : Hid (Sq n (lamT f g)) := Lib.hid (by unfold lamT; rw [h.sf.len]; exact Sq.tab fun x y hx hy => h.b.lam_lt hx hy)
  have HLV : Hid (∀ x y, x < n → y < n → tv (lamT f g) x y = lamN f g x y) := Lib.hid fun x y hx hy => lamT_tv (by rw [h.sf.len]; exact hx) (by rw [h.sf.len]; exact hy)
  clear hU
  have HB := Lib.hid h
  have HS := Lib.hid h.sg
  have h1' := h1
  have h2' := h2
  obtain ⟨bc, oc, A', O', C', rfl, G⟩ := h2.grid h.sg n1
  clear h h2
  have hA := (Loc.new w rfl #[.slice a n c, .slice (some ⟨bc, oc, none⟩) n c'] 26).alloc (.cells #[.slice none 0 0, .slice none 0 0] 29)
  have hR := Loc.new (w.alloc (.cells #[.slice a n c, .slice (some ⟨bc, oc, none⟩) n c'] 26)) rfl #[.slice none 0 0, .slice none 0 0] 29
  rw [size_alloc] at hR
  have hB0 := below_al (below_al (Below.refl w.heap.size w) (.cells #[.slice a n c, .slice (some ⟨bc, oc, none⟩) n c'] 26)) (.cells #[.slice none 0 0, .slice none 0 0] 29)
  have hz00 : ((w.alloc (.cells #[.slice a n c, .slice (some ⟨bc, oc, none⟩) n c'] 26)).alloc (.cells #[.slice none 0 0, .slice none 0 0] 29)).heap.size = w.heap.size + 2 := by simp
  have lA := hA.two
  go_enter Tryz.func28, Tryz.ntmps28
  generalize hw0 : (w.alloc (.cells #[.slice a n c, .slice (some ⟨bc, oc, none⟩) n c'] 26)).alloc (.cells #[.slice none 0 0, .slice none 0 0] 29) = w0 at *
  go_wp2_with fail
  try rw [hw0]
  refine (l11Lambda_any n _ _ c c' f g _ (h1'.below hB0) (h2'.below hB0) HB.out).mono ?_
  rintro e w1 ⟨aF, cF, vF, rfl, hoF, hb1⟩
  have hz1 := hb1.size
  have hA1 := hA.below hb1 hA.lt
  have hR1 := hR.below hb1 hR.lt
  have hB1 := below_th hB0 hb1
  have hFhi := hoF.uHi
  have hFlo := hoF.uLo
  rw [hz00] at hFlo
  obtain ⟨w2, hw2⟩ : ∃ w2, w1.alloc (.cells #[.slice aF n cF, .slice none 0 0] 29) = w2 := ⟨_, rfl⟩
  have hO2 : Loc w2 w1.heap.size #[.slice aF n cF, .slice none 0 0] 29 := by rw [← hw2]; exact Loc.new w1 rfl _ _
  have hb2 : Below w1.heap.size w1 w2 := by rw [← hw2]; exact below_al (Below.refl _ _) _
  have hA2 := hA1.below hb2 hA1.lt
  have hR2 := hR1.below hb2 hR1.lt
  have hF2 := (hoF.mono (lo' := w.heap.size + 2) (by omega)).below hb2
  have hB2 := below_th hB1 hb2
  have hz2 : w2.heap.size = w1.heap.size + 1 := by rw [← hw2]; simp
  have HZ2 := Lib.hid hz2
  have hR1l := hR1.lt
  have HW2 := Lib.hid hw2
  have lA2 := hA2.two
  clear hw2 hz2 hoF hR hR1 hB0 hB1 h1 h1' h2' hA hA1 lA
  go_wp2
  try rw [HW2.out]
  go_loopw [4, 5, 6] (fun i _ _ wr => ∃ (k : Nat) (ay : Option Addr) (cy : Nat) (vy : List SV), k ≤ n ∧ i = .int .i64 k ∧ Loc wr w.heap.size #[.slice a n c, .slice (some ⟨bc, oc, none⟩) n c'] 26 ∧ Loc wr w1.heap.size #[.slice aF n cF, .slice ay k cy] 29 ∧ Loc wr (w.heap.size + 1) #[.slice none 0 0, .slice none 0 0] 29 ∧ OwnT wr (w.heap.size + 2) aF n cF vF (lamT f g) ∧ OwnT wr w2.heap.size ay k cy vy ((tabF n U).take k) ∧ Below w.heap.size w wr) (fun i _ _ _ => n - (intOf i).toNat)
  case atStart => exact ⟨0, none, 0, [], Nat.zero_le _, rfl, hA2, hO2, hR2, hF2, by simpa using OwnT.nil _ _, hB2⟩
  case round =>
    clear hA2 hO2 hR2 hF2 hB2 lA2
    obtain ⟨k, ay, cy, vy, hk, rfl, hA, hO, hR, hF, hy, hB⟩ := hrel
    have hz2 := HZ2.out
    have hOlt := hO.lt
    have lA := hA.two
    by_cases hlt : k < n
    · have hE := Own.fresh wr rfl
      have hqe := below_al (Below.refl wr.heap.size wr) (.cells #[] 2)
      have HRU := Lib.hid (tabF_succ U hlt)
      go_wp2
      go_loopw [5, 6] (fun z i wq => ∃ (j : Nat) (ar : Option Addr) (cr : Nat), j ≤ n ∧ i = .int .i64 j ∧ z = .slice ar j cr ∧ Own wq wr.heap.size ar j cr ((List.range j).map fun y => U k y) ∧ Below wr.heap.size wr wq) (fun _ i _ => n - (intOf i).toNat)
      case atStart => exact ⟨0, _, 0, Nat.zero_le _, rfl, rfl, by simpa using hE, hqe⟩
      case round =>
        clear hE hqe lA
        obtain ⟨j, ar, cr, hj, rfl, rfl, hor, hqr⟩ := hrel
        have hwq := hqr.size
        obtain ⟨W, rfl⟩ : ∃ W : World, W = wr := ⟨_, rfl⟩
        have hA3 := hA.below hqr hA.lt
        have lA3 := hA3.two
        by_cases hjt : j < n
        · have HU1 : Hid (((List.range (j + 1)).map fun y => U k y) = ((List.range j).map fun y => U k y) ++ [U k j]) := Lib.hid (by simp [List.range_succ])
          have hBW := hB.trans (hqr.mono hB.size)
          have hO3 := hO.below hqr hO.lt
          have lO3 := hO3.two
          have hF3 := hF.tbl
          obtain ⟨bl, ol, Al, Ol, Cl, rfl, gl0⟩ := hF3.grid HSL.out n1
          have gl := gl0.below hqr
          have hZ : lamN f g k j < n := HB.out.b.lam_lt hlt hjt
          have hq : tv g k j < n := HS.out.lt hlt hjt
          obtain ⟨r0, k0⟩ := gl.look hlt hjt
          rw [HLV.out k j hlt hjt] at k0
          obtain ⟨r1, k1⟩ := (G.below hBW).look hlt hjt
          have hUkj := HUE.out k j
          have HIX := Lib.hid (idxP_rho HB.out hlt hjt)
          have HIP := Lib.hid (HB.out.rg _ hZ)
          have r2 := (G.below hBW).row _ hZ
          have hrow : Row W (some ⟨A' (lamN f g k j), O' (lamN f g k j), none⟩) n (g.getD (lamN f g k j) []) := ⟨by rw [HS.out.row hZ], fun y hy => ⟨_, _, rfl, (G.below hBW).rlt _ hZ, by rw [HS.out.val hZ hy]; exact (G.below hBW).cell _ _ hZ hy⟩⟩
          obtain ⟨Z, HZ⟩ : ∃ Z, Hid (lamN f g k j = Z) := ⟨_, Lib.hid rfl⟩
          obtain ⟨q, HQ⟩ : ∃ q, Hid (tv g k j = q) := ⟨_, Lib.hid rfl⟩
          obtain ⟨X, HX⟩ : ∃ X, Hid (rhoN f g k j = X) := ⟨_, Lib.hid rfl⟩
          have hix := HIX.out
          rw [HZ.out, HQ.out, HX.out] at hix
          rw [HX.out] at hUkj
          rw [HZ.out] at k0 hZ HIP r2 hrow
          rw [HQ.out] at k1 hq
          rw [hUkj] at HU1
          clear hUkj HIX
          have hcy := fun (v : World) (hv : Row v (some ⟨A' Z, O' Z, none⟩) n (g.getD Z [])) => l01Index_perm n q _ (C' Z) _ v hv HIP.out hq (by omega)
          rw [hix] at hcy
          have HCY := Lib.hid hcy
          clear hcy hix
          have i1 : (0 : Int) ≤ (k : Int) := by omega
          have i2 : (k : Int) < (n : Int) := by omega
          have i3 : (0 : Int) ≤ (j : Int) := by omega
          have i4 : (j : Int) < (n : Int) := by omega
          have i5 : (0 : Int) ≤ (Z : Int) := by omega
          have i6 : (Z : Int) < (n : Int) := by omega
          have hrow1 := hrow.drewN 1
          clear gl hF3 hz2 hz00 hFlo hFhi hz1
          have hj12 : j + 1 ≤ 1000000000000 := by omega
          have HKE : Hid (∀ w' : World, Below wr.heap.size W w' → w'.cell? ⟨w.heap.size, 1, none⟩ = some (.slice (some ⟨bc, oc, none⟩) n c') ∧ w'.cell? ⟨w1.heap.size, 0, none⟩ = some (.slice (some ⟨bl, ol, none⟩) n cF) ∧ w'.cell? ⟨bl, ol + k, none⟩ = some (.slice (some ⟨Al k, Ol k, none⟩) n (Cl k)) ∧ w'.cell? ⟨Al k, Ol k + j, none⟩ = some (.int .i64 Z) ∧ w'.cell? ⟨bc, oc + k, none⟩ = some (.slice (some ⟨A' k, O' k, none⟩) n (C' k)) ∧ w'.cell? ⟨A' k, O' k + j, none⟩ = some (.int .i64 q) ∧ w'.cell? ⟨bc, oc + Z, none⟩ = some (.slice (some ⟨A' Z, O' Z, none⟩) n (C' Z))) := Lib.hid fun w' hb => by
            have x1 := gl0.lt; have x2 := gl0.rlt k hlt; have x3 := (G.below hB).lt; have x4 := (G.below hB).rlt k hlt; have x5 := hA.lt
            exact ⟨(hb.cell (p := ⟨w.heap.size, 1, none⟩) x5).trans lA3.2.1, (hb.cell (p := ⟨w1.heap.size, 0, none⟩) hOlt).trans lO3.1, (hb.cell (p := ⟨bl, ol + k, none⟩) x1).trans r0, (hb.cell (p := ⟨Al k, Ol k + j, none⟩) x2).trans k0, (hb.cell (p := ⟨bc, oc + k, none⟩) x3).trans r1, (hb.cell (p := ⟨A' k, O' k + j, none⟩) x4).trans k1, (hb.cell (p := ⟨bc, oc + Z, none⟩) x3).trans r2⟩
          clear gl0
          have tok1 : True := trivial
          go_wp2
          go_region_held3 (fun w' => w'.cell? ⟨w.heap.size, 1, none⟩ = some (.slice (some ⟨bc, oc, none⟩) n c') ∧ w'.cell? ⟨w1.heap.size, 0, none⟩ = some (.slice (some ⟨bl, ol, none⟩) n cF) ∧ w'.cell? ⟨bl, ol + k, none⟩ = some (.slice (some ⟨Al k, Ol k, none⟩) n (Cl k)) ∧ w'.cell? ⟨Al k, Ol k + j, none⟩ = some (.int .i64 Z) ∧ w'.cell? ⟨bc, oc + k, none⟩ = some (.slice (some ⟨A' k, O' k, none⟩) n (C' k)) ∧ w'.cell? ⟨A' k, O' k + j, none⟩ = some (.int .i64 q) ∧ w'.cell? ⟨bc, oc + Z, none⟩ = some (.slice (some ⟨A' Z, O' Z, none⟩) n (C' Z)))
            (first | exact lE | exact ⟨lA3.2.1, lO3.1, r0, k0, r1, k1, r2⟩ | go_keep)
            (first
            | (go_at_call 65; have _t := tok1; refine (HCY.out _ hrow1).mono ?_; rintro e w5 ⟨rfl, _, hw5⟩; clear _t tok1; have hb5 : Below W.heap.size W w5 := hw5.symm ▸ below_drewN (Below.refl _ _) 1; have hor5 := hor.below hb5; have hwq5 : wr.heap.size ≤ w5.heap.size := Nat.le_trans hwq hb5.size; subst hw5)
            | (refine step_app1n rfl rfl hor5 rfl rfl hj12 hwq5 ?_; intro g' cc w8 hO8 hg8 hs8 hb8; have hE8 : Below wr.heap.size W w8 := (hb5.mono hwq).trans hb8; have lE := HKE.out w8 hE8))
          all_goals
            go_wp2
            go_roundw
            case rel => exact ⟨j + 1, _, _, by omega, by go_num, rfl, by rw [HU1.out]; exact hO8, hqr.trans hE8⟩
            case measure => simp [intOf]; omega
        · obtain rfl : j = n := by omega
          have hO3 := hO.below hqr hO.lt
          have hR3 := hR.below hqr hR.lt
          have hF3 := hF.below hqr
          have lO := hO3.two
          have hy3 := hy.below hqr
          have hyhi := hy.uHi
          have hylo := hy.uLo
          have hrlo := hor.lo
          have hBs := hB.size
          have hB3 := hB.trans (hqr.mono hBs)
          go_wp2_with (at_builtin; refine appT1g rfl rfl hy3 rfl (hor.mono (by omega)) (fun g h1 h2 => by have h3 := hyhi _ (.inl h1); have h4 := hrlo _ h2; omega) (fun i hi g h1 h2 => by have h3 := hrlo _ h1; have h4 := hyhi _ (.inr ⟨i, hi, h2⟩); omega) rfl (by omega) (by omega) ?_; intro g6 cc6 w6 hOT6 hg6 hat6 hb6; have hO6 := hO3.below hb6 (by omega); have lO6 := hO6.two)
          have hF6 := hF3.keep (w' := w6) (fun q hq hl => hb6.block q (by have := hFhi q hq; omega))
          have hA6 := hA3.below hb6 (by omega)
          have hR6 := hR3.below hb6 (by omega)
          have hB6 := hB3.trans (hb6.mono (by omega))
          have hO7 := hO6.set 1 (.slice (some ⟨g6, 0, none⟩) (k + 1) cc6)
          go_roundw
          case rel => exact ⟨k + 1, _, _, _, by omega, by go_num, hA6.setne (a := ⟨w1.heap.size, 1, none⟩) (by show w.heap.size ≠ w1.heap.size; omega) _, hO7, hR6.setne (a := ⟨w1.heap.size, 1, none⟩) (by show w.heap.size + 1 ≠ w1.heap.size; omega) _, hF6.keep (fun q hq hl => Below.heap_setCell _ _ _ _ (by have := hFhi q hq; show q ≠ w1.heap.size; omega)), by rw [HRU.out]; exact hOT6.setlo (by show w1.heap.size < w2.heap.size; omega) _, below_setne (a := ⟨w1.heap.size, 1, none⟩) hB6 (by show w.heap.size ≤ w1.heap.size; omega) _⟩
          case measure => simp [intOf]; omega
    · obtain rfl : k = n := by omega
      rw [List.take_of_length_le (by rw [tabF_len]; exact Nat.le_refl _), ← HUT.out] at hy
      have lO := hO.two
      have lR := hR.two
      have hylo := hy.uLo
      go_wp2
      refine bodyPost_ret (v := sAgg aF k cF ay k cy) (by simp [results, Tryz.results28, go_sem, lR, lO]) rfl ⟨aF, cF, vF, ay, cy, vy, rfl, ⟨?_, ?_, fun q e1 e2 => by have := hFhi q e1; have := hylo q e2; omega⟩, ?_⟩
      · exact ((hF.setlo (by show w.heap.size + 1 < w.heap.size + 2; omega) _).setlo (by show w.heap.size + 1 < w.heap.size + 2; omega) _).mono (by omega)
      · exact ((hy.setlo (by show w.heap.size + 1 < w2.heap.size; omega) _).setlo (by show w.heap.size + 1 < w2.heap.size; omega) _).mono (by omega)
      · exact below_setne (below_setne hB (by show w.heap.size ≤ w.heap.size + 1; omega) _) (by show w.heap.size ≤ w.heap.size + 1; omega) _
set_option maxHeartbeats 8000000 in
theorem specBraceSolution_any (a : Option Addr) (n c : Nat) (a' : Option Addr) (n' c' : Nat) (f g : List (List Int)) (w : World) (h1 : Tbl w a n f) (h2 : Tbl w a' n' g) (hm1 : n ≤ 9223372036854775807) (hm2 : n' ≤ 9223372036854775807) :
    Calls Tryz.prog 7 #[sAgg a n c a' n' c'] w (BrsR n f g w) := by
  unfold BrsR
  obtain ⟨w0, hw0⟩ : ∃ w0, (w.alloc (.cells #[.slice a n c, .slice a' n' c'] 26)).alloc (.cells #[.slice none 0 0, .slice none 0 0] 29) = w0 := ⟨_, rfl⟩
  have hz0 : w0.heap.size = w.heap.size + 2 := by rw [← hw0]; simp
  have hB : Below w.heap.size w w0 := by rw [← hw0]; exact below_al (below_al (Below.refl _ _) _) _
  have hA : Loc w0 w.heap.size #[.slice a n c, .slice a' n' c'] 26 := by rw [← hw0]; exact (Loc.new w rfl _ _).alloc _
  have hO : Loc w0 (w.heap.size + 1) #[.slice none 0 0, .slice none 0 0] 29 := by rw [← hw0]; exact Loc.new _ (by simp) _ _
  have lA := hA.two
  have HL1 := Lib.hid h1.len
  have HL2 := Lib.hid h2.len
  cases hf : isBrc f g with
  | false =>
    have HF := Lib.hid hf; clear hf
    go_enter Tryz.func7, Tryz.ntmps7
    go_wp2_with fail
    try rw [hw0]
    refine (l11Is_any _ _ _ _ _ _ f g _ (h1.below hB) (h2.below hB) hm1 hm2).mono ?_
    rintro e w1 ⟨rfl, hb1⟩
    rw [HF.out]
    have hO1 := hO.below hb1 hO.lt
    have hB1 := below_th hB hb1
    have lO := hO1.two
    go_wp2
    refine bodyPost_ret (v := .tuple #[sAgg none 0 0 none 0 0, .int .i64 1]) (by simp [results, Tryz.results7, go_sem, lO]) rfl (.inl ⟨trivial, rfl, ?_⟩)
    exact below_setne (below_setne hB1 (by show w.heap.size ≤ w.heap.size + 1; omega) _) (by show w.heap.size ≤ w.heap.size + 1; omega) _
  | true =>
    have hT := BrT.of hf HL1.out
    obtain rfl : n = n' := by have := HL2.out; have := hT.sg.len; omega
    have HF := Lib.hid hf; have HT := Lib.hid hT; clear hf hT
    go_enter Tryz.func7, Tryz.ntmps7
    go_wp2_with fail
    try rw [hw0]
    refine (l11Is_any _ _ _ _ _ _ f g _ (h1.below hB) (h2.below hB) hm1 hm2).mono ?_
    rintro e w1 ⟨rfl, hb1⟩
    rw [HF.out]
    have hz1 := hb1.size
    have hA1 := hA.below hb1 hA.lt
    have hO1 := hO.below hb1 hO.lt
    have hB1 := below_th hB hb1
    have lA1 := hA1.two
    go_wp2_with fail
    refine (l11Solution_any n a a' c c' f g _ (h1.below hB1) (h2.below hB1) HT.out).mono ?_
    rintro e w5 ⟨a1, c1, vs, a1', c1', vs', rfl, ho, hb5⟩
    have hB5 := below_th hB1 hb5
    have hO5 := hO1.below hb5 hO1.lt
    have lO := hO5.two
    go_wp2
    refine bodyPost_ret (v := .tuple #[sAgg a1 n c1 a1' n c1', .int .i64 0]) (by simp [results, Tryz.results7, go_sem, lO]) rfl (.inr ⟨trivial, a1, c1, vs, a1', c1', vs', rfl, ⟨?_, ?_, ho.ap⟩, ?_⟩)
    · exact ((ho.f.setlo (by show w.heap.size + 1 < w1.heap.size; omega) _).setlo (by show w.heap.size + 1 < w1.heap.size; omega) _).mono (by omega)
    · exact ((ho.s.setlo (by show w.heap.size + 1 < w1.heap.size; omega) _).setlo (by show w.heap.size + 1 < w1.heap.size; omega) _).mono (by omega)
    · exact below_setne (below_setne hB5 (by show w.heap.size ≤ w.heap.size + 1; omega) _) (by show w.heap.size ≤ w.heap.size + 1; omega) _
end Go.Proofs.YtiliimkfobfbnaaGreat
namespace Go.Proofs.YtiliimkfobfbnaaGreat
set_option maxRecDepth 100000
set_option linter.unusedVariables false
set_option linter.unusedSimpArgs false
def cmpI (x y : Int) : Int := if x < y then -1 else if y < x then 1 else 0
def cmpG {α : Type} (c : α → α → Int) : List α → List α → Int
  | [], [] => 0
  | [], _ :: _ => -1
  | _ :: _, [] => 1
  | x :: xs, y :: ys => if c x y = 0 then cmpG c xs ys else c x y
def cmpL : List Int → List Int → Int := cmpG cmpI
def cmpT : List (List Int) → List (List Int) → Int := cmpG cmpL
theorem cmpG_step {α : Type} {c : α → α → Int} {xs ys : List α} {k : Nat} (d : α) (hx : k < xs.length) (hy : k < ys.length) : cmpG c (xs.drop k) (ys.drop k) = if c (xs.getD k d) (ys.getD k d) = 0 then cmpG c (xs.drop (k + 1)) (ys.drop (k + 1)) else c (xs.getD k d) (ys.getD k d) := by
  rw [List.drop_eq_getElem_cons hx, List.drop_eq_getElem_cons hy]
  simp [cmpG, List.getD_eq_getElem?_getD, List.getElem?_eq_getElem hx, List.getElem?_eq_getElem hy]
theorem cmpG_long {α : Type} {c : α → α → Int} {xs ys : List α} {k : Nat} (hx : k < xs.length) (hy : ys.length ≤ k) : cmpG c (xs.drop k) (ys.drop k) = 1 := by
  rw [List.drop_eq_getElem_cons hx, List.drop_of_length_le hy]; rfl
theorem cmpG_short {α : Type} {c : α → α → Int} {xs ys : List α} {k : Nat} (hx : k = xs.length) (hy : k < ys.length) : cmpG c (xs.drop k) (ys.drop k) = -1 := by
  rw [List.drop_of_length_le (by omega), List.drop_eq_getElem_cons hy]; rfl
theorem cmpG_even {α : Type} {c : α → α → Int} {xs ys : List α} {k : Nat} (hx : k = xs.length) (hy : ys.length ≤ k) : cmpG c (xs.drop k) (ys.drop k) = 0 := by
  rw [List.drop_of_length_le (by omega), List.drop_of_length_le hy]; rfl
theorem cmpI_eq {x y : Int} : cmpI x y = 0 ↔ x = y := by
  unfold cmpI
  split
  · constructor <;> intro h <;> omega
  · split
    · constructor <;> intro h <;> omega
    · constructor <;> intro h <;> omega
theorem cmpG_eq {α : Type} {c : α → α → Int} (hc : ∀ x y, c x y = 0 ↔ x = y) : ∀ xs ys, cmpG c xs ys = 0 ↔ xs = ys := by
  intro xs
  induction xs with
  | nil => intro ys; cases ys <;> simp [cmpG]
  | cons x xs ih =>
    intro ys
    cases ys with
    | nil => simp [cmpG]
    | cons y ys =>
      unfold cmpG
      split
      · rename_i h
        rw [ih, List.cons.injEq, (hc x y).1 h]; simp
      · rename_i h
        rw [List.cons.injEq, ← hc x y]
        constructor
        · intro e; exact absurd e h
        · intro e; exact e.1
theorem cmpL_eq (xs ys : List Int) : cmpL xs ys = 0 ↔ xs = ys := cmpG_eq (fun _ _ => cmpI_eq) xs ys
theorem cmpT_eq (xs ys : List (List Int)) : cmpT xs ys = 0 ↔ xs = ys := cmpG_eq cmpL_eq xs ys
end Go.Proofs.YtiliimkfobfbnaaGreat
namespace Go.Proofs.YtiliimkfobfbnaaGreat
set_option maxRecDepth 100000
set_option linter.unusedVariables false
set_option linter.unusedSimpArgs false
open Go.RowKit
theorem isNaN_any (x : Int) (w : World) : Calls Tryz.prog 141 #[.int .i64 x] w fun e w' => e = .returned (.bool false) ∧ w = w' := by
  have h : (x != x) = false := by simp
  go_enter Tryz.func141, Tryz.ntmps141
  go_wp2
  go_ret
  exact ⟨rfl, rfl⟩
theorem compareI_any (x y : Int) (w : World) : Calls Tryz.prog 129 #[.int .i64 x, .int .i64 y] w fun e w' => e = .returned (.int .i64 (cmpI x y)) ∧ w = w' := by
  by_cases h1 : x < y
  · have hq : cmpI x y = -1 := by unfold cmpI; rw [if_pos h1]
    rw [hq]; clear hq
    go_enter Tryz.func129, Tryz.ntmps129
    go_wp2_with fail
    refine (isNaN_any _ _).mono ?_
    rintro e w2 ⟨rfl, rfl⟩
    go_wp2_with fail
    refine (isNaN_any _ _).mono ?_
    rintro e w2 ⟨rfl, rfl⟩
    go_wp2
    go_ret
    exact ⟨rfl, rfl⟩
  · by_cases h2 : y < x
    · have hq : cmpI x y = 1 := by unfold cmpI; rw [if_neg h1, if_pos h2]
      rw [hq]; clear hq
      go_enter Tryz.func129, Tryz.ntmps129
      go_wp2_with fail
      refine (isNaN_any _ _).mono ?_
      rintro e w2 ⟨rfl, rfl⟩
      go_wp2_with fail
      refine (isNaN_any _ _).mono ?_
      rintro e w2 ⟨rfl, rfl⟩
      go_wp2
      go_ret
      exact ⟨rfl, rfl⟩
    · have hq : cmpI x y = 0 := by unfold cmpI; rw [if_neg h1, if_neg h2]
      rw [hq]; clear hq
      go_enter Tryz.func129, Tryz.ntmps129
      go_wp2_with fail
      refine (isNaN_any _ _).mono ?_
      rintro e w2 ⟨rfl, rfl⟩
      go_wp2_with fail
      refine (isNaN_any _ _).mono ?_
      rintro e w2 ⟨rfl, rfl⟩
      go_wp2
      go_ret
      exact ⟨rfl, rfl⟩
set_option maxHeartbeats 4000000 in
theorem compareR_any (a1 a2 : Option Addr) (n1 n2 c1 c2 : Nat) (xs ys : List Int) (w : World) (h1 : Row w a1 n1 xs) (h2 : Row w a2 n2 ys) (hm : n1 ≤ 9223372036854775807) :
    Calls Tryz.prog 103 #[.slice a1 n1 c1, .slice a2 n2 c2] w fun e w' => e = .returned (.int .i64 (cmpL xs ys)) ∧ w = w' := by
  have HL1 := Lib.hid h1.len; have HL2 := Lib.hid h2.len
  go_enter Tryz.func103, Tryz.ntmps103
  go_wp2
  go_loop [5, 6, 7, 8, 11] (fun _ _ _ _ i => ∃ k : Nat, k ≤ n1 ∧ i = .int .i64 k ∧ (k ≤ n2) ∧ Hid (cmpL xs ys = cmpG cmpI (xs.drop k) (ys.drop k))) (fun _ _ _ _ i => n1 - (intOf i).toNat)
  case atStart => exact ⟨0, Nat.zero_le _, rfl, Nat.zero_le _, Lib.hid rfl⟩
  case round =>
    obtain ⟨k, hk, rfl, hk2, HK⟩ := hrel
    by_cases hlt : k < n1
    · obtain ⟨b1, o1, rfl, g1⟩ := h1.at k hlt
      obtain ⟨X, HX⟩ : ∃ X, Hid (xs.getD k 0 = X) := ⟨_, rfl⟩
      rw [HX.out] at g1
      have i1 : (0 : Int) ≤ (k : Int) := by omega
      have i2 : (k : Int) < (n1 : Int) := by omega
      by_cases hlt2 : k < n2
      · obtain ⟨b2, o2, rfl, g2⟩ := h2.at k hlt2
        obtain ⟨Y, HY⟩ : ∃ Y, Hid (ys.getD k 0 = Y) := ⟨_, rfl⟩
        rw [HY.out] at g2
        have i3 : (k : Int) < (n2 : Int) := by omega
        have i4 : ¬ (n2 : Int) ≤ (k : Int) := by omega
        have hst := cmpG_step (c := cmpI) (xs := xs) (ys := ys) (k := k) 0 (by have := HL1.out; omega) (by have := HL2.out; omega)
        rw [HX.out, HY.out] at hst
        by_cases hc : cmpI X Y = 0
        · rw [if_pos hc] at hst
          have HST := Lib.hid hst
          have HC := Lib.hid hc
          have t1 : ((0 : Int) != 0) = false := rfl
          clear hst hc
          go_wp2_with fail
          refine (compareI_any _ _ _).mono ?_
          rintro e w2 ⟨rfl, rfl⟩
          rw [HC.out]
          go_wp2
          go_round
          case rel => exact ⟨k + 1, by omega, by go_num, by omega, Lib.hid (by rw [HK.out, HST.out])⟩
          case measure => simp [intOf]; omega
        · rw [if_neg hc] at hst
          have HR : Hid (cmpI X Y = cmpL xs ys) := Lib.hid (by rw [HK.out, hst])
          obtain ⟨C, HC⟩ : ∃ C, Hid (cmpI X Y = C) := ⟨_, rfl⟩
          have t1 : (C != 0) = true := by rw [← HC.out]; simp [hc]
          clear hst hc
          go_wp2_with fail
          refine (compareI_any _ _ _).mono ?_
          rintro e w2 ⟨rfl, rfl⟩
          rw [HC.out]
          go_wp2
          go_ret
          exact ⟨ret_int (by rw [← HC.out, HR.out]), rfl⟩
      · have i4 : (n2 : Int) ≤ (k : Int) := by omega
        have HR : Hid (cmpL xs ys = 1) := Lib.hid (by rw [HK.out, cmpG_long (by have := HL1.out; omega) (by have := HL2.out; omega)])
        go_wp2
        go_ret
        exact ⟨ret_int HR.out.symm, rfl⟩
    · obtain rfl : n1 = k := by omega
      by_cases hlt2 : n1 < n2
      · have i3 : (n1 : Int) < (n2 : Int) := by omega
        have HR : Hid (cmpL xs ys = -1) := Lib.hid (by rw [HK.out, cmpG_short HL1.out (by have := HL2.out; omega)])
        go_wp2
        go_ret
        exact ⟨ret_int HR.out.symm, rfl⟩
      · have i3 : ¬ (n1 : Int) < (n2 : Int) := by omega
        have HR : Hid (cmpL xs ys = 0) := Lib.hid (by rw [HK.out, cmpG_even HL1.out (by have := HL2.out; omega)])
        go_wp2
        go_ret
        exact ⟨ret_int HR.out.symm, rfl⟩
theorem compareT1_any (a1 a2 : Option Addr) (n1 n2 c1 c2 : Nat) (xs ys : List Int) (w : World) (h1 : Row w a1 n1 xs) (h2 : Row w a2 n2 ys) (hm : n1 ≤ 9223372036854775807) :
    Calls Tryz.prog 102 #[.slice a1 n1 c1, .slice a2 n2 c2] w fun e w' => e = .returned (.int .i64 (cmpL xs ys)) ∧ w = w' := by
  have H := Lib.hid (compareR_any a1 a2 n1 n2 c1 c2 xs ys w h1 h2 hm)
  go_enter Tryz.func102, Tryz.ntmps102
  go_wp2_with fail
  refine H.out.mono ?_
  rintro e w2 ⟨rfl, rfl⟩
  go_wp2
  go_ret
  exact ⟨rfl, rfl⟩
set_option maxHeartbeats 4000000 in
theorem compareF_any (a1 a2 : Option Addr) (n1 n2 c1 c2 : Nat) (xss yss : List (List Int)) (w : World) (h1 : Tbl w a1 n1 xss) (h2 : Tbl w a2 n2 yss) (hm : n1 ≤ 9223372036854775807) :
    Calls Tryz.prog 101 #[.slice a1 n1 c1, .slice a2 n2 c2, .func (.func 102) #[] #[]] w fun e w' => e = .returned (.int .i64 (cmpT xss yss)) ∧ w = w' := by
  have HL1 := Lib.hid h1.len; have HL2 := Lib.hid h2.len
  go_enter Tryz.func101, Tryz.ntmps101
  go_wp2
  go_loop [7, 8, 9, 10, 13] (fun _ _ _ _ i => ∃ k : Nat, k ≤ n1 ∧ i = .int .i64 k ∧ (k ≤ n2) ∧ Hid (cmpT xss yss = cmpG cmpL (xss.drop k) (yss.drop k))) (fun _ _ _ _ i => n1 - (intOf i).toNat)
  case atStart => exact ⟨0, Nat.zero_le _, rfl, Nat.zero_le _, Lib.hid rfl⟩
  case round =>
    obtain ⟨k, hk, rfl, hk2, HK⟩ := hrel
    by_cases hlt : k < n1
    · obtain ⟨b1, o1, ax, nx, cx, rfl, g1, r1, l1⟩ := h1.at k hlt
      have i1 : (0 : Int) ≤ (k : Int) := by omega
      have i2 : (k : Int) < (n1 : Int) := by omega
      by_cases hlt2 : k < n2
      · obtain ⟨b2, o2, ay, ny, cy, rfl, g2, r2, l2⟩ := h2.at k hlt2
        have i3 : (k : Int) < (n2 : Int) := by omega
        have i4 : ¬ (n2 : Int) ≤ (k : Int) := by omega
        have hst := cmpG_step (c := cmpL) (xs := xss) (ys := yss) (k := k) [] (by have := HL1.out; omega) (by have := HL2.out; omega)
        by_cases hc : cmpL (xss.getD k []) (yss.getD k []) = 0
        · rw [if_pos hc] at hst
          have HST := Lib.hid hst
          have HC := Lib.hid hc
          have t1 : ((0 : Int) != 0) = false := rfl
          clear hst hc
          go_wp2_with fail
          refine (compareT1_any _ _ _ _ _ _ _ _ _ r1 r2 l1).mono ?_
          rintro e w2 ⟨rfl, rfl⟩
          rw [HC.out]
          go_wp2
          go_round
          case rel => exact ⟨k + 1, by omega, by go_num, by omega, Lib.hid (by rw [HK.out, HST.out])⟩
          case measure => simp [intOf]; omega
        · rw [if_neg hc] at hst
          obtain ⟨C, HC⟩ : ∃ C, Hid (cmpL (xss.getD k []) (yss.getD k []) = C) := ⟨_, rfl⟩
          have HR : Hid (C = cmpT xss yss) := Lib.hid (by rw [HK.out, hst, HC.out])
          have t1 : (C != 0) = true := by rw [← HC.out]; simpa using hc
          clear hst hc
          go_wp2_with fail
          refine (compareT1_any _ _ _ _ _ _ _ _ _ r1 r2 l1).mono ?_
          rintro e w2 ⟨rfl, rfl⟩
          rw [HC.out]
          go_wp2
          go_ret
          exact ⟨ret_int HR.out, rfl⟩
      · have i4 : (n2 : Int) ≤ (k : Int) := by omega
        have HR : Hid (cmpT xss yss = 1) := Lib.hid (by rw [HK.out, cmpG_long (by have := HL1.out; omega) (by have := HL2.out; omega)])
        go_wp2
        go_ret
        exact ⟨ret_int HR.out.symm, rfl⟩
    · obtain rfl : n1 = k := by omega
      by_cases hlt2 : n1 < n2
      · have i3 : (n1 : Int) < (n2 : Int) := by omega
        have HR : Hid (cmpT xss yss = -1) := Lib.hid (by rw [HK.out, cmpG_short HL1.out (by have := HL2.out; omega)])
        go_wp2
        go_ret
        exact ⟨ret_int HR.out.symm, rfl⟩
      · have i3 : ¬ (n1 : Int) < (n2 : Int) := by omega
        have HR : Hid (cmpT xss yss = 0) := Lib.hid (by rw [HK.out, cmpG_even HL1.out (by have := HL2.out; omega)])
        go_wp2
        go_ret
        exact ⟨ret_int HR.out.symm, rfl⟩
theorem compareTables_any (a1 a2 : Option Addr) (n1 n2 c1 c2 : Nat) (xss yss : List (List Int)) (w : World) (h1 : Tbl w a1 n1 xss) (h2 : Tbl w a2 n2 yss) (hm : n1 ≤ 9223372036854775807) :
    Calls Tryz.prog 68 #[.slice a1 n1 c1, .slice a2 n2 c2] w fun e w' => e = .returned (.int .i64 (cmpT xss yss)) ∧ w = w' := by
  have H := Lib.hid (compareF_any a1 a2 n1 n2 c1 c2 xss yss w h1 h2 hm)
  go_enter Tryz.func68, Tryz.ntmps68
  go_wp2_with fail
  refine H.out.mono ?_
  rintro e w2 ⟨rfl, rfl⟩
  go_wp2
  go_ret
  exact ⟨rfl, rfl⟩
theorem equalTables_any (a1 a2 : Option Addr) (n1 n2 c1 c2 : Nat) (xss yss : List (List Int)) (w : World) (h1 : Tbl w a1 n1 xss) (h2 : Tbl w a2 n2 yss) (hm : n1 ≤ 9223372036854775807) :
    Calls Tryz.prog 32 #[.slice a1 n1 c1, .slice a2 n2 c2] w fun e w' => e = .returned (.bool (decide (xss = yss))) ∧ w = w' := by
  have H := Lib.hid (compareTables_any a1 a2 n1 n2 c1 c2 xss yss w h1 h2 hm)
  have hq : decide (xss = yss) = (cmpT xss yss == 0) := by
    rw [Bool.eq_iff_iff]; simp [cmpT_eq]
  rw [hq]; clear hq
  obtain ⟨C, HC⟩ : ∃ C, Hid (cmpT xss yss = C) := ⟨_, rfl⟩
  rw [HC.out] at H ⊢
  go_enter Tryz.func32, Tryz.ntmps32
  go_wp2_with fail
  refine H.out.mono ?_
  rintro e w2 ⟨rfl, rfl⟩
  go_wp2
  go_ret
  exact ⟨rfl, rfl⟩
set_option maxHeartbeats 4000000 in
theorem IsClassicalBrace_yes (n : Nat) (a a' : Option Addr) (c c' : Nat) (f g : List (List Int)) (w : World) (h1 : Tbl w a n f) (h2 : Tbl w a' n g) (hT : BrT n f g) :
    Calls Tryz.prog 11 #[sAgg a n c a' n c'] w fun e w' => e = .returned (.tuple #[.bool (decide (f = trnL n f)), .int .i64 0]) ∧ Below w.heap.size w w' := by
  have HI := Lib.hid hT.is
  have HF := Lib.hid hT.sf
  have hn := hT.n12
  clear hT
  obtain ⟨D, HD⟩ : ∃ D, Hid (decide (f = trnL n f) = D) := ⟨_, Lib.hid rfl⟩
  rw [HD.out]
  have hA := Loc.new w rfl #[.slice a n c, .slice a' n c'] 26
  have hB := below_al (Below.refl w.heap.size w) (.cells #[.slice a n c, .slice a' n c'] 26)
  have lA := hA.two
  go_enter Tryz.func11, Tryz.ntmps11
  go_wp2_with fail
  refine (IsBrace_any _ _ _ _ _ _ f g _ (h1.below hB) (h2.below hB) (by omega) (by omega)).mono ?_
  rintro e w1 ⟨rfl, hb1⟩
  rw [HI.out]
  have hA1 := hA.below hb1 hA.lt
  have lA1 := hA1.two
  have hB1 := below_th hB hb1
  have t1 := (h1.below hB1).drewN 1
  have hAlt := hA1.lt
  clear lA
  have HAC := Lib.hid (fun (v : World) (hb : Below w1.heap.size w1 v) => hA1.below hb hAlt)
  have HTR := Lib.hid (fun (v : World) (h : Tbl v a n f) => transposed_any n a c f v h HF.out hn)
  go_wp2
  go_region_held3 (fun w' => w'.cell? ⟨w.heap.size, 0, none⟩ = some (.slice a n c))
    (first | exact l5 | exact l4 | exact lA1.1 | go_keep)
    (first
      | (go_at_call 33; refine (HTR.out _ t1).mono ?_; rintro e w4 ⟨a4, c4, vs4, rfl, ho4, hb4'⟩; have hb4 : Below w1.heap.size w1 w4 := below_th (below_drewN (Below.refl _ _) 1) hb4'; have l4 : w4.cell? ⟨w.heap.size, 0, none⟩ = some (.slice a n c) := (HAC.out w4 hb4).two.1)
      | (go_at_call 32; refine (equalTables_any a a4 n n c c4 f (trnL n f) _ (h1.below (below_th hB1 hb4)) ho4.tbl (by omega)).mono ?_; rintro e w5 ⟨rfl, hw5⟩; rw [HD.out]; have hb5 : Below w1.heap.size w1 w5 := hw5 ▸ hb4; have l5 : w5.cell? ⟨w.heap.size, 0, none⟩ = some (.slice a n c) := (HAC.out w5 hb5).two.1))
  all_goals
    go_wp2
    go_ret2
    exact ⟨rfl, below_th hB1 hb5⟩
end Go.Proofs.YtiliimkfobfbnaaGreat
