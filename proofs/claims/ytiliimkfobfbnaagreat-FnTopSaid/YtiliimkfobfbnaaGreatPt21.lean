/-
  Walks and plain laws of this seat, some texts in one.
  No condition but bounds on lengths.
-/
import Derived.Test.YtiliimkfobfbnaaGreatPt20
import Derived.Test.YtiliimkfobfbnaaGreatPt6
import Derived.Test.YtiliimkfobfbnaaGreatPt7
import Derived.Test.YtiliimkfobfbnaaGreatPt13
import Derived.Deep.RegionHeld3
import Derived.Deep.LoopGhost
import Derived.Test.YtiliimkfobfbnaaGreatPt18
import Derived.Test.YtiliimkfobfbnaaGreatPt10
import Derived.Test.YtiliimkfobfbnaaGreatPt3
import Derived.Test.YtiliimkfobfbnaaGreatPt8
import Derived.Test.YtiliimkfobfbnaaGreatPt5
import Derived.IntWalk
namespace Go.Proofs.YtiliimkfobfbnaaGreat
set_option linter.unusedVariables false
set_option linter.unusedSimpArgs false
set_option maxRecDepth 100000
open Go.RowKit
def idxP (p : List Int) (x : Int) : Nat := p.findIdx fun y => decide (y = x)
theorem idxP_of {p : List Int} {x : Int} {k : Nat} (hk : k < p.length) (h : p.getD k 0 = x) (h2 : ∀ j, j < k → p.getD j 0 ≠ x) : idxP p x = k := by
  unfold idxP
  rw [List.findIdx_eq hk]
  rw [List.getD_eq_getElem?_getD, List.getElem?_eq_getElem hk] at h
  refine ⟨by simpa using h, fun j hj => ?_⟩
  have := h2 j hj
  rw [List.getD_eq_getElem?_getD, List.getElem?_eq_getElem (by omega)] at this
  simpa using this
set_option maxHeartbeats 2000000 in
theorem l01Index_perm (n x : Nat) (a : Option Addr) (c : Nat) (p : List Int) (w : World) (h : Row w a n p) (hp : IsP n p) (hx : x < n) (hn : n ≤ 1000) :
    Calls Tryz.prog 65 #[.slice a n c, .int .i64 x] w fun e w' => e = .returned (.int .i64 (idxP p x)) ∧ idxP p x < n ∧ w' = w := by
  have HL := Lib.hid h.len
  obtain ⟨k0, hk0, hk1⟩ : ∃ k, k < n ∧ p.getD k 0 = (x : Int) := by
    obtain ⟨f, g, _, h1, h2⟩ := hp
    exact ⟨g x, (h1 x hx).2.1, by rw [h2 _ (h1 x hx).2.1, (h1 x hx).2.2.1]⟩
  have HK := Lib.hid (And.intro hk0 hk1)
  clear hk0 hk1 hp
  go_enter Tryz.func65, Tryz.ntmps65
  go_wp2
  go_loop [5] (fun i => ∃ k : Nat, k ≤ n ∧ i = .int .i64 k ∧ Hid (∀ j, j < k → p.getD j 0 ≠ (x : Int))) (fun i => n - (intOf i).toNat)
  case atStart => exact ⟨0, Nat.zero_le _, rfl, Lib.hid fun j hj => absurd hj (by omega)⟩
  case round =>
    obtain ⟨k, hk, rfl, HN⟩ := hrel
    by_cases hlt : k < n
    · obtain ⟨b, o, rfl, g⟩ := h.at k hlt
      obtain ⟨v, HV⟩ : ∃ v, Hid (p.getD k 0 = v) := ⟨_, Lib.hid rfl⟩
      rw [HV.out] at g
      have i1 : (0 : Int) ≤ (k : Int) := by omega
      have i2 : (k : Int) < (n : Int) := by omega
      by_cases hv : v = (x : Int)
      · have HI : Hid (idxP p x = k) := Lib.hid (idxP_of (by have := HL.out; omega) (by rw [HV.out, hv]) HN.out)
        have hb : (v == (x : Int)) = true := by simpa using hv
        subst hv
        go_wp2
        go_ret
        exact ⟨by rw [HI.out]; rfl, by rw [HI.out]; exact hlt, rfl⟩
      · have hb : (v == (x : Int)) = false := by simpa using hv
        go_wp2
        go_round
        case rel => exact ⟨k + 1, by omega, by go_num, Lib.hid fun j hj => by
          by_cases e : j = k
          · rw [e, HV.out]; exact hv
          · exact HN.out j (by omega)⟩
        case measure => simp [intOf]; omega
    · exact absurd HK.out.2 (HN.out k0 (by have := HK.out.1; omega))
def grsLk (k n : Nat) (t : List (List Int)) : Bool := allN k fun x => (grU t x && permOk (t.getD x [])) && allN n fun y => allN n fun z => grA t x y z
set_option maxHeartbeats 8000000 in
theorem l10Is_any (a : Option Addr) (n c : Nat) (t : List (List Int)) (w : World) (h1 : Tbl w a n t) (hm : n ≤ 9223372036854775807) :
    Calls Tryz.prog 62 #[.slice a n c] w fun e w' => e = .returned (.bool (isGrp t)) ∧ Below w.heap.size w w' := by
  cases hf : isTab t with
  | false =>
    have HQ : Hid (isGrp t = false) := Lib.hid (isGrp_no hf)
    have HF := Lib.hid hf; clear hf
    go_enter Tryz.func62, Tryz.ntmps62
    go_wp2_with fail
    refine (l01Table_any _ _ _ _ _ h1 hm).mono ?_
    rintro e w1 ⟨rfl, rfl⟩
    rw [HF.out]
    go_wp2
    go_ret
    exact ⟨ret_bool HQ.out.symm, Below.refl _ _⟩
  | true =>
    obtain ⟨hn1, hn12, sf⟩ := isTab_sq hf
    have hl := h1.len
    have HQ2 : Hid (isGrp t = grsLk n n t) := Lib.hid (by rw [← isGrp_spec hf, ← hl]; rfl)
    rw [← hl] at hn1 hn12 sf
    have HF := Lib.hid hf; have HSF := Lib.hid sf
    have hr12 : rngB 1 12 (n : Int) = true := by unfold rngB; simp; omega
    have HR := Lib.hid hr12
    have hf := sf
    clear sf hl hr12
    have HT := Lib.hid h1
    obtain ⟨bf, of, A, O, C, rfl, gf⟩ := h1.grid hf hn1
    go_enter Tryz.func62, Tryz.ntmps62
    go_wp2_with fail
    refine (l01Table_any _ _ _ _ _ h1 hm).mono ?_
    rintro e w1 ⟨rfl, rfl⟩
    rw [HF.out]
    clear HF h1
    go_wp2
    go_loopw [3] (fun i wr => ∃ k : Nat, k ≤ n ∧ i = .int .i64 k ∧ Hid (grsLk k n t = true) ∧ ∃ m, wr = w.drewN m) (fun i _ => n - (intOf i).toNat)
    case atStart => exact ⟨0, Nat.zero_le _, rfl, Lib.hid rfl, 0, rfl⟩
    case round =>
      obtain ⟨x, hx, rfl, hx1, m1, rfl⟩ := hrel
      by_cases hlt : x < n
      · have h0 : 0 < n := by omega
        obtain ⟨q1, r1⟩ := gf.look h0 hlt
        obtain ⟨q2, r2⟩ := gf.look hlt h0
        rw [Nat.add_zero] at q1 r2
        by_cases p1 : tv t 0 x = x
        · by_cases p2 : tv t x 0 = x
          · have HU : Hid (grU t x = true) := Lib.hid (by unfold grU; rw [p1, p2]; simp)
            rw [p1] at r1
            rw [p2] at r2
            have u1 : ((x : Int) != (x : Int)) = false := by simp
            clear p1 p2
            obtain ⟨bx, ox, ax, nx, cx, ex, gx, rx, lx⟩ := (HT.out.drewN m1).at x hlt
            cases ex
            obtain rfl : n = nx := by have := rx.len; have := hf.row hlt; omega
            have hcx := gx.symm.trans q2
            simp only [Option.some.injEq, Value.slice.injEq] at hcx
            obtain ⟨rfl, _, rfl⟩ := hcx
            cases hp : permOk (t.getD x []) with
            | false =>
              have HP := Lib.hid hp; clear hp
              go_wp2_with fail
              refine (l01Perm_any _ _ _ (t.getD x []) _ rx (by omega)).mono ?_
              rintro e w2 ⟨rfl, rfl⟩
              rw [HR.out, HP.out]
              go_wp2
              go_ret
              exact ⟨ret_bool (by rw [HQ2.out]; exact (allN_no hlt (by rw [HP.out, Bool.and_false, Bool.false_and])).symm), below_drewN (Below.refl _ _) _⟩
            | true =>
              have HP := Lib.hid hp; clear hp
              go_wp2_with fail
              refine (l01Perm_any _ _ _ (t.getD x []) _ rx (by omega)).mono ?_
              rintro e w2 ⟨rfl, rfl⟩
              rw [HR.out, HP.out]
              clear rx lx gx
              go_wp2
              go_loopw [4] (fun i wr => ∃ k : Nat, k ≤ n ∧ i = .int .i64 k ∧ Hid (allN k (fun y => allN n fun z => grA t x y z) = true) ∧ ∃ m, wr = w.drewN m) (fun i _ => n - (intOf i).toNat)
              case atStart => exact ⟨0, Nat.zero_le _, rfl, Lib.hid rfl, m1, rfl⟩
              case round =>
                obtain ⟨y, hy, rfl, hy1, m2, rfl⟩ := hrel
                by_cases hlty : y < n
                · go_wp2
                  go_loopw [5] (fun i wr => ∃ k : Nat, k ≤ n ∧ i = .int .i64 k ∧ Hid (allN k (fun z => grA t x y z) = true) ∧ ∃ m, wr = w.drewN m) (fun i _ => n - (intOf i).toNat)
                  case atStart => exact ⟨0, Nat.zero_le _, rfl, Lib.hid rfl, m2, rfl⟩
                  case round =>
                    obtain ⟨z, hz, rfl, hz1, m3, rfl⟩ := hrel
                    by_cases hltz : z < n
                    · have l1 := hf.lt hlt hlty
                      have l2 := hf.lt hlty hltz
                      obtain ⟨r1, k1⟩ := gf.look hlt hlty
                      obtain ⟨r2, k2⟩ := gf.look l1 hltz
                      obtain ⟨r3, k3⟩ := gf.look hlty hltz
                      have k4 := gf.cell _ _ hlt l2
                      have hE : grA t x y z = decide (tv t (tv t x y) z = tv t x (tv t y z)) := rfl
                      generalize tv t x y = q1 at *
                      generalize tv t y z = q2 at *
                      generalize tv t q1 z = A1 at *
                      generalize tv t x q2 = A2 at *
                      have HE := Lib.hid hE
                      clear hE gf hf HT HSF
                      by_cases p1 : A1 = A2
                      · have u2 : ((A1 : Int) != (A2 : Int)) = false := by simp [p1]
                        have HE2 : Hid (grA t x y z = true) := Lib.hid (by rw [HE.out]; simp [p1])
                        clear p1
                        go_wp2
                        go_quiet (fail)
                        go_wp2
                        go_roundw
                        case rel => exact ⟨z + 1, by omega, by go_num, Lib.hid (allN_succ hz1.out HE2.out), _, rfl⟩
                        case measure => simp [intOf]; omega
                      · have u2 : ((A1 : Int) != (A2 : Int)) = true := by simp; omega
                        have HE2 : Hid (grA t x y z = false) := Lib.hid (by rw [HE.out]; simp [p1])
                        clear p1
                        go_wp2
                        go_quiet (fail)
                        go_wp2
                        go_ret
                        exact ⟨ret_bool (by rw [HQ2.out]; exact (allN_no hlt (by rw [allN_no hlty (allN_no hltz HE2.out), Bool.and_false])).symm), below_drewN (below_drewN (Below.refl _ _) _) _⟩
                    · obtain rfl : z = n := by omega
                      go_wp2
                      go_roundw
                      case rel => exact ⟨y + 1, by omega, by go_num, Lib.hid (allN_succ hy1.out hz1.out), _, rfl⟩
                      case measure => simp [intOf]; omega
                · obtain rfl : y = n := by omega
                  go_wp2
                  go_roundw
                  case rel => exact ⟨x + 1, by omega, by go_num, Lib.hid (allN_succ hx1.out (by rw [HU.out, HP.out, hy1.out]; rfl)), _, rfl⟩
                  case measure => simp [intOf]; omega
          · have HU : Hid (grU t x = false) := Lib.hid (by unfold grU; simp [p2])
            rw [p1] at r1
            have u1 : ((x : Int) != (x : Int)) = false := by simp
            have u2 : ((tv t x 0 : Int) != (x : Int)) = true := by simp; omega
            clear p1 p2
            generalize tv t x 0 = Q at *
            go_wp2
            go_ret
            exact ⟨ret_bool (by rw [HQ2.out]; exact (allN_no hlt (by rw [HU.out, Bool.false_and, Bool.false_and])).symm), below_drewN (Below.refl _ _) _⟩
        · have HU : Hid (grU t x = false) := Lib.hid (by unfold grU; simp [p1])
          have u1 : ((tv t 0 x : Int) != (x : Int)) = true := by simp; omega
          clear p1
          generalize tv t 0 x = Q at *
          go_wp2
          go_ret
          exact ⟨ret_bool (by rw [HQ2.out]; exact (allN_no hlt (by rw [HU.out, Bool.false_and, Bool.false_and])).symm), below_drewN (Below.refl _ _) _⟩
      · obtain rfl : x = n := by omega
        go_wp2
        go_ret
        exact ⟨ret_bool (by rw [HQ2.out]; exact hx1.out.symm), below_drewN (Below.refl _ _) _⟩
theorem idxP_iv {n : Nat} {t : List (List Int)} (hs : Sq n t) {x : Nat} (hx : x < n) (hr : IsP n (t.getD x [])) : idxP (t.getD x []) ((0 : Nat) : Int) = ivN t x := by
  obtain ⟨h1, h2, h3⟩ := ivN_idx hs hx hr
  exact idxP_of (by rw [hs.row hx]; exact h1) h2 h3
set_option maxHeartbeats 1000000 in
theorem l10Back_any (n : Nat) (a : Option Addr) (c : Nat) (t : List (List Int)) (w : World) (h1 : Tbl w a n t) (hs : Sq n t) (x : Nat) (hx : x < n) (hr : IsP n (t.getD x [])) (hn : n ≤ 12) :
    Calls Tryz.prog 96 #[.slice a n c, .int .i64 x] w fun e w' => e = .returned (.int .i64 ((ivN t x : Nat) : Int)) ∧ w' = w := by
  have HI := Lib.hid (idxP_iv hs hx hr)
  obtain ⟨b1, o1, a1, n1, c1, rfl, g1, r1, l1⟩ := h1.at x hx
  obtain rfl : n = n1 := by have := r1.len; have := hs.row hx; omega
  have HR := Lib.hid hr
  clear hs hr h1
  have i1 : (0 : Int) ≤ (x : Int) := by omega
  have i2 : (x : Int) < (n : Int) := by omega
  go_enter Tryz.func96, Tryz.ntmps96
  go_wp2_with fail
  refine (l01Index_perm n 0 a1 c1 (t.getD x []) _ r1 HR.out (by omega) (by omega)).mono ?_
  rintro e w1 ⟨rfl, _, rfl⟩
  go_wp2
  go_ret
  exact ⟨by rw [← HI.out]; rfl, rfl⟩
set_option maxHeartbeats 8000000 in
theorem l11Fault_any (n : Nat) (a a' : Option Addr) (c c' : Nat) (f g : List (List Int)) (w : World) (h1 : Tbl w a n f) (h2 : Tbl w a' n g) (hn1 : 1 ≤ n) (hn : n ≤ 12) (hf : Sq n f) (hg : Sq n g) (hr : ∀ x, x < n → IsP n (f.getD x [])) :
    Calls Tryz.prog 63 #[sAgg a n c a' n c'] w (FltN (brOk n f g) w) := by
  have HT := Lib.hid h1
  obtain ⟨ba, oa, A, O, C, rfl, gf⟩ := h1.grid hf hn1
  obtain ⟨bc, oc, A', O', C', rfl, gg⟩ := h2.grid hg hn1
  have hA := Loc.new w rfl #[.slice (some ⟨ba, oa, none⟩) n c, .slice (some ⟨bc, oc, none⟩) n c'] 26
  have hB := below_al (Below.refl w.heap.size w) (.cells #[.slice (some ⟨ba, oa, none⟩) n c, .slice (some ⟨bc, oc, none⟩) n c'] 26)
  have HR := Lib.hid hr; have HF := Lib.hid hf; clear hr
  obtain ⟨w1, hw1⟩ : ∃ w1, w.alloc (.cells #[.slice (some ⟨ba, oa, none⟩) n c, .slice (some ⟨bc, oc, none⟩) n c'] 26) = w1 := ⟨_, rfl⟩
  rw [hw1] at hA hB
  have gf := gf.below hB
  have gg := gg.below hB
  have HT := Lib.hid (HT.out.below hB)
  have lA := hA.two
  go_enter Tryz.func63, Tryz.ntmps63
  clear h1 h2
  have hB1 := hB
  clear hB
  go_wp2
  go_loopw [4] (fun i wr => ∃ k : Nat, k ≤ n ∧ i = .int .i64 k ∧ Hid (allN k (fun x => allN n fun y => allN n fun z => brAt f g x y z) = true) ∧ ∃ m, wr = w1.drewN m) (fun i _ => n - (intOf i).toNat)
  case atStart => exact ⟨0, Nat.zero_le _, rfl, Lib.hid rfl, 0, rfl⟩
  case round =>
    obtain ⟨x, hx, rfl, hx1, m1, rfl⟩ := hrel
    by_cases hlt : x < n
    · have hmx : ivN f x < n := (ivN_idx HF.out hlt (HR.out x hlt)).1
      obtain ⟨MX, HMX⟩ : ∃ MX, Hid (ivN f x = MX) := ⟨_, Lib.hid rfl⟩
      have HBK : Hid (∀ w, Tbl w (some ⟨ba, oa, none⟩) n f → Calls Tryz.prog 96 #[.slice (some ⟨ba, oa, none⟩) n c, .int .i64 x] w fun e w' => e = .returned (.int .i64 (MX : Int)) ∧ w' = w) := Lib.hid fun w hw => by
        have := l10Back_any n _ c f w hw HF.out x hlt (HR.out x hlt) hn
        rw [HMX.out] at this; exact this
      rw [HMX.out] at hmx
      go_wp2_with fail
      refine (HBK.out _ (HT.out.drewN m1)).mono ?_
      rintro e w2 ⟨rfl, rfl⟩
      go_wp2
      go_loopw [6] (fun i wr => ∃ k : Nat, k ≤ n ∧ i = .int .i64 k ∧ Hid (allN k (fun y => allN n fun z => brAt f g x y z) = true) ∧ ∃ m, wr = w1.drewN m) (fun i _ => n - (intOf i).toNat)
      case atStart => exact ⟨0, Nat.zero_le _, rfl, Lib.hid rfl, m1, rfl⟩
      case round =>
        obtain ⟨y, hy, rfl, hy1, m2, rfl⟩ := hrel
        by_cases hlty : y < n
        · go_wp2
          go_loopw [7] (fun i wr => ∃ k : Nat, k ≤ n ∧ i = .int .i64 k ∧ Hid (allN k (fun z => brAt f g x y z) = true) ∧ ∃ m, wr = w1.drewN m) (fun i _ => n - (intOf i).toNat)
          case atStart => exact ⟨0, Nat.zero_le _, rfl, Lib.hid rfl, m2, rfl⟩
          case round =>
            obtain ⟨z, hz, rfl, hz1, m3, rfl⟩ := hrel
            by_cases hltz : z < n
            · have l1 := hf.lt hlty hltz
              have l2 := hg.lt hlt hlty
              have l3 := hf.lt l2 hmx
              have l4 := hg.lt hlt hltz
              obtain ⟨r1, k1⟩ := gf.look hlty hltz
              obtain ⟨r2, k2⟩ := gg.look hlt l1
              have k3 := gg.cell _ _ hlt hlty
              obtain ⟨r4, k4⟩ := gf.look l2 hmx
              have k5 := gg.cell _ _ hlt hltz
              obtain ⟨r6, k6⟩ := gf.look l3 l4
              have hE : brAt f g x y z = decide (tv g x (tv f y z) = tv f (tv f (tv g x y) MX) (tv g x z)) := by unfold brAt; rw [HMX.out]
              generalize tv f y z = q1 at *
              generalize tv g x y = q2 at *
              generalize tv g x z = q3 at *
              generalize tv f q2 MX = q4 at *
              generalize tv g x q1 = A1 at *
              generalize tv f q4 q3 = A2 at *
              have HE := Lib.hid hE
              clear hE gf gg hf hg HT
              by_cases p1 : A1 = A2
              · have u1 : ((A1 : Int) != (A2 : Int)) = false := by simp [p1]
                have HE2 : Hid (brAt f g x y z = true) := Lib.hid (by rw [HE.out]; simp [p1])
                clear p1
                go_wp2
                go_quiet (fail)
                go_wp2
                go_quiet (fail)
                go_wp2
                go_roundw
                case rel => exact ⟨z + 1, by omega, by go_num, Lib.hid (allN_succ hz1.out HE2.out), _, rfl⟩
                case measure => simp [intOf]; omega
              · have u1 : ((A1 : Int) != (A2 : Int)) = true := by simp; omega
                have HE2 : Hid (brAt f g x y z = false) := Lib.hid (by rw [HE.out]; simp [p1])
                clear p1
                go_wp2
                go_quiet (fail)
                go_wp2
                go_quiet (fail)
                go_wp2
                go_ret
                refine ⟨.inr ⟨allN_no hlt (allN_no hlty (allN_no hltz HE2.out)), _, _, rfl⟩, ?_⟩
                first | exact below_al (below_drewN hB1 _) _ | exact below_al (below_drewN (below_drewN hB1 _) _) _ | exact below_al (below_drewN (below_drewN (below_drewN hB1 _) _) _) _
            · obtain rfl : z = n := by omega
              go_wp2
              go_roundw
              case rel => exact ⟨y + 1, by omega, by go_num, Lib.hid (allN_succ hy1.out hz1.out), _, rfl⟩
              case measure => simp [intOf]; omega
        · obtain rfl : y = n := by omega
          go_wp2
          go_roundw
          case rel => exact ⟨x + 1, by omega, by go_num, Lib.hid (allN_succ hx1.out hy1.out), _, rfl⟩
          case measure => simp [intOf]; omega
    · obtain rfl : x = n := by omega
      go_wp2
      go_ret
      exact ⟨.inl ⟨hx1.out, rfl⟩, below_drewN hB1 _⟩
set_option maxHeartbeats 4000000 in
theorem l11Is_any (a : Option Addr) (n c : Nat) (a' : Option Addr) (n' c' : Nat) (f g : List (List Int)) (w : World) (h1 : Tbl w a n f) (h2 : Tbl w a' n' g) (hm1 : n ≤ 9223372036854775807) (hm2 : n' ≤ 9223372036854775807) :
    Calls Tryz.prog 27 #[sAgg a n c a' n' c'] w fun e w' => e = .returned (.bool (isBrc f g)) ∧ Below w.heap.size w w' := by
  have hA := Loc.new w rfl #[.slice a n c, .slice a' n' c'] 26
  have lA := hA.two
  have hB := below_al (Below.refl w.heap.size w) (.cells #[.slice a n c, .slice a' n' c'] 26)
  have HL1 := Lib.hid h1.len
  have HL2 := Lib.hid h2.len
  cases hf : isGrp f with
  | false =>
    have HQ : Hid (isBrc f g = false) := Lib.hid (by unfold isBrc; rw [hf]; rfl)
    have HF := Lib.hid hf; clear hf
    go_enter Tryz.func27, Tryz.ntmps27
    go_wp2_with fail
    refine (l10Is_any _ _ _ f _ (h1.alloc _) hm1).mono ?_
    rintro e w1 ⟨rfl, hb1⟩
    rw [HF.out]
    have hA1 := hA.below hb1 hA.lt
    have lA1 := hA1.two
    go_wp2
    go_ret
    exact ⟨ret_bool HQ.out.symm, below_th hB hb1⟩
  | true =>
    have HF := Lib.hid hf
    cases hg : isGrp g with
    | false =>
      have HQ : Hid (isBrc f g = false) := Lib.hid (by unfold isBrc; rw [hf, hg]; rfl)
      have HG := Lib.hid hg; clear hg hf
      go_enter Tryz.func27, Tryz.ntmps27
      go_wp2_with fail
      refine (l10Is_any _ _ _ f _ (h1.alloc _) hm1).mono ?_
      rintro e w1 ⟨rfl, hb1⟩
      rw [HF.out]
      have hA1 := hA.below hb1 hA.lt
      have lA1 := hA1.two
      go_wp2_with fail
      refine (l10Is_any _ _ _ g _ ((h2.alloc _).below hb1) hm2).mono ?_
      rintro e w2 ⟨rfl, hb2⟩
      rw [HG.out]
      have hA2 := hA1.below hb2 hA1.lt
      have lA2 := hA2.two
      go_wp2
      go_ret
      exact ⟨ret_bool HQ.out.symm, below_th (below_th hB hb1) hb2⟩
    | true =>
      have HG := Lib.hid hg
      by_cases hE : n = n'
      · subst hE
        have HE : Hid (f.length = g.length) := Lib.hid (by have := HL1.out; have := HL2.out; omega)
        have HQ : Hid (isBrc f g = brOk n f g) := Lib.hid (by unfold isBrc; rw [hf, hg, decide_eq_true HE.out, ← HL1.out]; simp)
        obtain ⟨p1, p2, p3⟩ := isGrp_sq hf
        obtain ⟨_, _, p4⟩ := isGrp_sq hg
        have hr : ∀ x, x < f.length → IsP f.length (f.getD x []) := fun x hx => isGrp_row hf hx
        rw [← HL2.out] at p4
        rw [← HL1.out] at p1 p2 p3 hr
        have H3 := Lib.hid p3; have H4 := Lib.hid p4; have HR := Lib.hid hr
        have u1 : ((n : Int) == (n : Int)) = true := by simp
        clear hf hg p3 p4 hr
        go_enter Tryz.func27, Tryz.ntmps27
        go_wp2_with fail
        refine (l10Is_any _ _ _ f _ (h1.alloc _) hm1).mono ?_
        rintro e w1 ⟨rfl, hb1⟩
        rw [HF.out]
        have hA1 := hA.below hb1 hA.lt
        have lA1 := hA1.two
        go_wp2_with fail
        refine (l10Is_any _ _ _ g _ ((h2.alloc _).below hb1) hm2).mono ?_
        rintro e w2 ⟨rfl, hb2⟩
        rw [HG.out]
        have hA2 := hA1.below hb2 hA1.lt
        have lA2 := hA2.two
        go_wp2_with fail
        refine (l11Fault_any n _ _ _ _ f g _ (((h1.alloc _).below hb1).below hb2) (((h2.alloc _).below hb1).below hb2) p1 p2 H3.out H4.out HR.out).mono ?_
        rintro e w3 ⟨he, hb3⟩
        rcases he with ⟨hc, rfl⟩ | ⟨hc, b, k, rfl⟩
        · have HD := Lib.hid hc; clear hc
          go_wp2
          go_ret
          exact ⟨ret_bool (by rw [HQ.out, HD.out]), below_th (below_th (below_th hB hb1) hb2) hb3⟩
        · have HD := Lib.hid hc; clear hc
          go_wp2
          go_ret
          exact ⟨ret_bool (by rw [HQ.out, HD.out]), below_th (below_th (below_th hB hb1) hb2) hb3⟩
      · have HQ : Hid (isBrc f g = false) := Lib.hid (by
          unfold isBrc; rw [hf, hg, decide_eq_false (by have := HL1.out; have := HL2.out; omega)]; simp)
        have u1 : ((n : Int) == (n' : Int)) = false := by simp; omega
        clear hf hg
        go_enter Tryz.func27, Tryz.ntmps27
        go_wp2_with fail
        refine (l10Is_any _ _ _ f _ (h1.alloc _) hm1).mono ?_
        rintro e w1 ⟨rfl, hb1⟩
        rw [HF.out]
        have hA1 := hA.below hb1 hA.lt
        have lA1 := hA1.two
        go_wp2_with fail
        refine (l10Is_any _ _ _ g _ ((h2.alloc _).below hb1) hm2).mono ?_
        rintro e w2 ⟨rfl, hb2⟩
        rw [HG.out]
        have hA2 := hA1.below hb2 hA1.lt
        have lA2 := hA2.two
        go_wp2
        go_ret
        exact ⟨ret_bool HQ.out.symm, below_th (below_th hB hb1) hb2⟩
def GrTT (E : Nat → Prop) (w : World) (lo : Nat) (a : Option Addr) (n : Nat) (us : List TV) (ts : List (List (List Int))) (e : Ending) (w' : World) : Prop :=
  ∃ a' n' c' us', e = .returned (.slice a' n' c') ∧ OwnTT w' lo a' n' c' us' ts ∧ Marked (TTS a n us) w w' ∧ ∀ g, TTS a' n' us' g → TTS a n us g ∨ E g ∨ w.heap.size ≤ g
theorem GrTT.one {w w' : World} {E : Nat → Prop} {lo : Nat} {a : Option Addr} {n c : Nat} {us : List TV} {ts : List (List (List Int))} {g c' : Nat} {u : TV} {t : List (List Int)} (h : OwnTT w lo a n c us ts) (hg : w.grownBy w' (Value.slice a n c).ownBlock) (hat : (Value.slice a n c).ownBlock = some g ∨ w.heap.size ≤ g)
    (hO : OwnTT w' lo (some ⟨g, 0, none⟩) (n + 1) c' (us ++ [u]) (ts ++ [t])) (hE : ∀ q, TvS u q → E q) : GrTT E w lo a n us (ts ++ [t]) (.returned (.slice (some ⟨g, 0, none⟩) (n + 1) c')) w' := by
  refine ⟨_, _, _, _, rfl, hO, Marked.grownTT h hg, fun q hq => ?_⟩
  rcases TTS.snoc (a := a) h.ulen hq with rfl | h' | h'
  · rcases hat with h2 | h2
    · exact .inl (.inl (h.ownBlk h2))
    · exact .inr (.inr h2)
  · exact .inr (.inl (hE q h'))
  · exact .inl h'
theorem TTS.nil {g : Nat} : ¬ TTS none 0 [] g := by
  rintro (h | ⟨i, hi, _⟩)
  · cases h
  · omega
def colL (n : Nat) (t : List (List Int)) (y : Nat) : List Int := (List.range n).map fun x => ((tv t x y : Nat) : Int)
theorem colL_succ (k : Nat) (t : List (List Int)) (y : Nat) : colL (k + 1) t y = colL k t y ++ [((tv t k y : Nat) : Int)] := by simp [colL, List.range_succ]
set_option maxHeartbeats 2000000 in
theorem l01Column_any (n y : Nat) (at_ : Option Addr) (ct : Nat) (t : List (List Int)) (w : World) (h1 : Tbl w at_ n t) (hs : Sq n t) (hn1 : 1 ≤ n) (hn : n ≤ 12) (hy : y < n) :
    Calls Tryz.prog 134 #[.slice at_ n ct, .int .i64 y] w fun e w' => ∃ a c, e = .returned (.slice a n c) ∧ Own w' w.heap.size a n c (colL n t y) ∧ Below w.heap.size w w' := by
  obtain ⟨b, off, A, O, C, rfl, G⟩ := h1.grid hs hn1
  clear h1
  have hO : Own (w.alloc (.cells #[] 2)) w.heap.size (some ⟨w.heap.size, 0, none⟩) 0 0 [] := Own.mk rfl (Nat.le_refl _) (Loc.new w rfl _ _) (Nat.le_refl _) (by unfold maxLen; omega) rfl rfl
  have hB := below_al (Below.refl w.heap.size w) (.cells #[] 2)
  go_enter Tryz.func134, Tryz.ntmps134
  go_wp2
  go_loopw [5, 6] (fun z i wr => ∃ (k : Nat) (az : Option Addr) (cz : Nat), k ≤ n ∧ i = .int .i64 k ∧ z = .slice az k cz ∧ Own wr w.heap.size az k cz (colL k t y) ∧ Below w.heap.size w wr) (fun _ i _ => n - (intOf i).toNat)
  case atStart => exact ⟨0, _, 0, Nat.zero_le _, rfl, rfl, hO, hB⟩
  case round =>
    clear hO hB
    obtain ⟨k, az, cz, hk, rfl, rfl, ho, hb⟩ := hrel
    by_cases hlt : k < n
    · obtain ⟨r1, k1⟩ := (G.below hb).look hlt hy
      obtain ⟨v, HV⟩ : ∃ v, Hid (tv t k y = v) := ⟨_, rfl⟩
      rw [HV.out] at k1
      have HCC : Hid (colL (k + 1) t y = colL k t y ++ [((v : Nat) : Int)]) := Lib.hid (by rw [colL_succ, HV.out])
      have i1 : (0 : Int) ≤ (k : Int) := by omega
      have i2 : (k : Int) < (n : Int) := by omega
      have i3 : (0 : Int) ≤ (y : Int) := by omega
      have i4 : (y : Int) < (n : Int) := by omega
      have hbz := hb.size
      go_wp2_with (at_builtin; refine app1 rfl rfl ho rfl rfl (by omega) hbz ?_; intro g' cc w8 hO8 hg8 hs8 hb8)
      go_roundw
      case rel => exact ⟨k + 1, _, cc, by omega, by go_num, rfl, by rw [HCC.out]; exact hO8, hb.trans hb8⟩
      case measure => simp [intOf]; omega
    · obtain rfl : k = n := by omega
      go_wp2
      go_ret
      exact ⟨az, cz, rfl, ho, hb⟩
set_option maxHeartbeats 2000000 in
theorem l01Turn_any (n : Nat) (at_ : Option Addr) (ct : Nat) (t : List (List Int)) (w : World) (h1 : Tbl w at_ n t) (hs : Sq n t) (hn1 : 1 ≤ n) (hn : n ≤ 12) :
    Calls Tryz.prog 118 #[.slice at_ n ct] w fun e w' => ∃ a c vs, e = .returned (.slice a n c) ∧ OwnT w' w.heap.size a n c vs (trnL n t) ∧ Below w.heap.size w w' := by
  have HS := Lib.hid hs; clear hs
  have HT : Hid (trnL n t = (List.range n).map fun y => colL n t y) := Lib.hid rfl
  have hO := OwnT.fresh w rfl
  have hB := below_al (Below.refl w.heap.size w) (.cells #[] 50)
  go_enter Tryz.func118, Tryz.ntmps118
  go_wp2
  go_loopw [3, 4] (fun z i wr => ∃ (k : Nat) (az : Option Addr) (cz : Nat) (vz : List SV), k ≤ n ∧ i = .int .i64 k ∧ z = .slice az k cz ∧ OwnT wr w.heap.size az k cz vz ((List.range k).map fun y => colL n t y) ∧ Below w.heap.size w wr) (fun _ i _ => n - (intOf i).toNat)
  case atStart => exact ⟨0, _, 0, _, Nat.zero_le _, rfl, rfl, by simpa using hO, hB⟩
  case round =>
    clear hO hB
    obtain ⟨k, az, cz, vz, hk, rfl, rfl, ho, hb⟩ := hrel
    by_cases hlt : k < n
    · have HK : Hid (((List.range (k + 1)).map fun y => colL n t y) = ((List.range k).map fun y => colL n t y) ++ [colL n t k]) := Lib.hid (by simp [List.range_succ])
      go_wp2_with fail
      refine (l01Column_any n k _ _ t _ (h1.below hb) HS.out hn1 hn hlt).mono ?_
      rintro e w1 ⟨a1, c1, rfl, ho1, hb1⟩
      have hbb := hb.size
      have hz1 := ho.below hb1
      have hq1 := below_th hb hb1
      have hs1 := hb1.size
      go_wp2_with (at_builtin; refine appT1 rfl rfl hz1 rfl (ho1.mono hbb) (fun g h1 h2 => by have h3 := ho.high _ h1; have h4 := ho1.lo _ h2; omega) (fun i hi g h1 h2 => by have h3 := ho1.lo _ h1; have h4 := (ho.row i hi).hi _ h2; omega) rfl (by omega) (by omega) ?_; intro g' cc w2 hO hb2)
      go_roundw
      case rel => exact ⟨k + 1, _, _, _, by omega, by go_num, rfl, by rw [HK.out]; exact hO, hq1.trans hb2⟩
      case measure => simp [intOf]; omega
    · obtain rfl : k = n := by omega
      go_wp2
      go_ret
      exact ⟨_, _, vz, rfl, by rw [HT.out]; exact ho, hb⟩
end Go.Proofs.YtiliimkfobfbnaaGreat
