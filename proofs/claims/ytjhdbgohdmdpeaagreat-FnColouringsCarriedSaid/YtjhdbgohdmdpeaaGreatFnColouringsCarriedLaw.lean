/-
  The walk of the law of carried colourings: it answers true.
  No condition.
-/
import Derived.Test.YtjhdbgohdmdpeaaGreatDrCo
import Derived.Test.YtjhdbgohdmdpeaaGreatDerI
import Derived.Test.YtjhdbgohdmdpeaaGreatTwsI
import Derived.Test.YtjhdbgohdmdpeaaGreatGuiC
import Derived.Test.YtjhdbgohdmdpeaaGreatBase5
import Derived.Test.YtjhdbgohdmdpeaaGreatBase4
namespace Go.Proofs.YtjhdbgohdmdpeaaGreat
set_option maxRecDepth 100000
set_option linter.unusedVariables false
set_option linter.unusedSimpArgs false
open Go.RowKit

theorem Bts.allocC {w : World} {a : Option Addr} {n : Nat} {xs : List Int} (h : Bts w a n xs) (o : Obj) : Bts (w.alloc o) a n xs := h.below (below_al (Below.refl _ _) _)
theorem cols_code {f g : List (List Int)} {s : Int} {xs : List Int} (h : (colsF f g s xs).2 ≠ 0) : (colsF f g s xs).1.length = 0 := by
  unfold colsF colsC at *
  split
  · rename_i h1
    rw [if_pos h1] at h
    split
    · rename_i h2
      rw [if_pos h2] at h; exact absurd rfl h
    · rfl
  · rfl
theorem cols_no {f g : List (List Int)} {s : Int} {xs : List Int} (h : isSol f g = false) : (colsF f g s xs).2 ≠ 0 := by
  have : codeF f g s xs = 1 := by unfold codeF; rw [h]; rfl
  unfold colsF
  rw [this, if_neg (by decide)]
  decide
set_option maxHeartbeats 64000000 in
theorem law_Ccl (a : Option Addr) (n c : Nat) (xs : List Int) (w : World) (h : Bts w a n xs) (hn : n ≤ 9223372036854775807) :
    Calls Tryz.prog 4 #[.slice a n c] w fun e w' => e = .returned (.bool true) ∧ Below w.heap.size w w' := by
  have hB : Below w.heap.size w w := Below.refl _ _
  go_enter Tryz.func4, Tryz.ntmps4
  go_wp2_with fail
  refine (big_any a n c _ hn).mono ?_
  rintro e w0 ⟨rfl, rfl⟩
  by_cases hbig : 4096 < n
  · have hd : decide (4096 < n) = true := by simpa using hbig
    rw [hd]
    go_wp2
    go_ret
    exact ⟨rfl, Below.refl _ _⟩
  have hd : decide (4096 < n) = false := by simpa using hbig
  rw [hd]
  clear hd hbig
  go_wp2_with fail
  refine (DrawCountColourings_ok a n c xs _ h hn).mono ?_
  rintro e w1 ⟨n2, a1, c1, us, f, a1', c1', us', g, S, ab, nb, cb, ys, n1, n6, hS1, hS2, hnb, hsm, rfl, ⟨hof1, hos1, hap⟩, hob1, hbw1⟩
  replace hB := below_th hB hbw1
  have HI : Hid (I64s ys) := Lib.hid fun x hx => by have := hsm x hx; exact ⟨by omega, by omega⟩
  have hL0 : n2 = f.length := hof1.len
  obtain ⟨C, HC⟩ : ∃ C, Hid ((colsF f g S ys).2 = C) := ⟨_, rfl⟩
  obtain ⟨L, HL⟩ : ∃ L : Nat, Hid ((colsF f g S ys).1.length = L) := ⟨_, rfl⟩
  have HL0 : Hid (C ≠ 0 → L = 0) := Lib.hid fun e => by rw [← HL.out]; exact cols_code (by rw [HC.out]; exact e)
  have HNO : Hid (isSol f g = false → C ≠ 0) := Lib.hid fun e => by rw [← HC.out]; exact cols_no e
  have HCI : Hid (∀ (a2 a2' : Option Addr) (c2 c2' : Nat) (p q : List (List Int)) (w : World) (l : Nat) (k : Int), (colsF p q S ys).1.length = l → (colsF p q S ys).2 = k → Sol w a2 n2 p a2' n2 q → Row w ab nb ys → Calls Tryz.prog 26 #[sAgg a2 n2 c2 a2' n2 c2', bAgg S ab nb cb] w (RetI w (l : Int) k)) := Lib.hid fun a2 a2' c2 c2' p q w l k el ek h1 hr => by have := impl_Cnt_l a2 n2 c2 p a2' n2 c2' q S ab nb cb ys w h1 ⟨by omega, by omega⟩ ⟨by omega, by omega⟩ hr (by omega) HI.out; rw [el, ek] at this; exact this
  have HCS : Hid (∀ (w : World), Sol w a1 n2 f a1' n2 g → Row w ab nb ys → Calls Tryz.prog 27 #[sAgg a1 n2 c1 a1' n2 c1', bAgg S ab nb cb] w (RetI w (L : Int) C)) := Lib.hid fun w h1 hr => by have := spec_Cnt_l a1 n2 c1 f a1' n2 c1' g S ab nb cb ys w h1 ⟨by omega, by omega⟩ ⟨by omega, by omega⟩ hr (by omega) HI.out; rw [HL.out, HC.out] at this; exact this
  have hTW : isSol f g = true → ndF f g = true → (colsF (twF n2) (trnL n2 (drL n2 f g)) S ys).1.length = L ∧ (colsF (twF n2) (trnL n2 (drL n2 f g)) S ys).2 = C ∧ isRk (drL n2 f g) = true := fun e1 e2 => by
    have hr : f.all permOk = true := by unfold ndF at e2; rw [Bool.and_eq_true] at e2; exact e2.1
    have hy := ybe_of e1 hr
    have h1 := cnt_carried e1 hr S ys
    rw [← hL0] at h1 hy
    rw [twG_trn, h1.1, h1.2]
    exact ⟨HL.out, HC.out, hy.rk (by omega)⟩
  have HTW := Lib.hid hTW
  clear hsm hap hTW hL0
  have u0 : (C != C) = false := by simp
  have u1 : ((L : Int) != (L : Int)) = false := by simp
  have m1 := ((Loc.new w1 rfl #[.slice a1 n2 c1, .slice a1' n2 c1'] 26).alloc (.cells #[.int .i64 S, .slice ab nb cb] 29)).two
  have m2 := (Loc.new (b := w1.heap.size + 1) (w1.alloc (.cells #[.slice a1 n2 c1, .slice a1' n2 c1'] 26)) (by simp) #[.int .i64 S, .slice ab nb cb] 29).two
  go_wp2_with fail
  refine (HCI.out a1 a1' c1 c1' f g _ L C HL.out HC.out ⟨((hof1.alloc (.cells #[.slice a1 n2 c1, .slice a1' n2 c1'] 26)).alloc (.cells #[.int .i64 S, .slice ab nb cb] 29)).tbl, ((hos1.alloc (.cells #[.slice a1 n2 c1, .slice a1' n2 c1'] 26)).alloc (.cells #[.int .i64 S, .slice ab nb cb] 29)).tbl⟩ ((hob1.alloc (.cells #[.slice a1 n2 c1, .slice a1' n2 c1'] 26)).alloc (.cells #[.int .i64 S, .slice ab nb cb] 29)).row).mono ?_
  rintro e w2 ⟨rfl, hbw2⟩
  clear m1 m2
  have hL1 := ((Loc.new w1 rfl #[.slice a1 n2 c1, .slice a1' n2 c1'] 26).alloc (.cells #[.int .i64 S, .slice ab nb cb] 29)).below hbw2 ((Loc.new w1 rfl #[.slice a1 n2 c1, .slice a1' n2 c1'] 26).alloc (.cells #[.int .i64 S, .slice ab nb cb] 29)).lt
  have l1 := hL1.two
  have hL2 := (Loc.new (b := w1.heap.size + 1) (w1.alloc (.cells #[.slice a1 n2 c1, .slice a1' n2 c1'] 26)) (by simp) #[.int .i64 S, .slice ab nb cb] 29).below hbw2 (Loc.new (b := w1.heap.size + 1) (w1.alloc (.cells #[.slice a1 n2 c1, .slice a1' n2 c1'] 26)) (by simp) #[.int .i64 S, .slice ab nb cb] 29).lt
  have l2 := hL2.two
  replace hof1 := ((hof1.alloc (.cells #[.slice a1 n2 c1, .slice a1' n2 c1'] 26)).alloc (.cells #[.int .i64 S, .slice ab nb cb] 29)).below hbw2
  replace hos1 := ((hos1.alloc (.cells #[.slice a1 n2 c1, .slice a1' n2 c1'] 26)).alloc (.cells #[.int .i64 S, .slice ab nb cb] 29)).below hbw2
  replace hob1 := ((hob1.alloc (.cells #[.slice a1 n2 c1, .slice a1' n2 c1'] 26)).alloc (.cells #[.int .i64 S, .slice ab nb cb] 29)).below hbw2
  replace hB := below_th (below_al (below_al hB (.cells #[.slice a1 n2 c1, .slice a1' n2 c1'] 26)) (.cells #[.int .i64 S, .slice ab nb cb] 29)) hbw2
  go_wp2_with fail
  refine (HCS.out _ ⟨hof1.tbl, hos1.tbl⟩ hob1.row).mono ?_
  rintro e w3 ⟨rfl, hbw3⟩
  replace hL1 := hL1.below hbw3 hL1.lt
  replace l1 := hL1.two
  replace hL2 := hL2.below hbw3 hL2.lt
  replace l2 := hL2.two
  replace hof1 := hof1.below hbw3
  replace hos1 := hos1.below hbw3
  replace hob1 := hob1.below hbw3
  replace hB := below_th hB hbw3
  by_cases q0 : C = 0
  · subst q0
    cases hs : isSol f g with
    | false => exact absurd rfl (HNO.out hs)
    | true =>
      have HS := Lib.hid hs; clear hs
      go_wp2_with fail
      refine (DerivedRack_any n2 a1 a1' c1 c1' f g _ hof1.tbl hos1.tbl HS.out (by omega)).mono ?_
      rintro e w4 hD
      unfold DerR at hD
      rcases hD with ⟨hd, rfl, hbw4⟩ | ⟨hd, a5, c5, vs5, rfl, ho5, hbw4⟩
      · clear hd
        replace hL1 := hL1.below hbw4 hL1.lt
        replace l1 := hL1.two
        replace hL2 := hL2.below hbw4 hL2.lt
        replace l2 := hL2.two
        replace hof1 := hof1.below hbw4
        replace hos1 := hos1.below hbw4
        replace hob1 := hob1.below hbw4
        replace hB := below_th hB hbw4
        go_wp2
        go_ret
        exact ⟨ret_bool (by simp), below_al hB _⟩
      · have HT := Lib.hid (HTW.out HS.out hd); clear hd
        replace hL1 := hL1.below hbw4 hL1.lt
        replace l1 := hL1.two
        replace hL2 := hL2.below hbw4 hL2.lt
        replace l2 := hL2.two
        replace hof1 := hof1.below hbw4
        replace hos1 := hos1.below hbw4
        replace hob1 := hob1.below hbw4
        replace hB := below_th hB hbw4
        obtain ⟨w6, hw6⟩ : ∃ w6, w4.alloc (.cells #[.slice a5 n2 c5] 47) = w6 := ⟨_, rfl⟩
        have hbw6 : Below (w4.alloc (.cells #[.slice a5 n2 c5] 47)).heap.size (w4.alloc (.cells #[.slice a5 n2 c5] 47)) w6 := by rw [hw6]; exact Below.refl _ _
        replace hL1 := (hL1.alloc (.cells #[.slice a5 n2 c5] 47)).below hbw6 (hL1.alloc (.cells #[.slice a5 n2 c5] 47)).lt
        replace l1 := hL1.two
        replace hL2 := (hL2.alloc (.cells #[.slice a5 n2 c5] 47)).below hbw6 (hL2.alloc (.cells #[.slice a5 n2 c5] 47)).lt
        replace l2 := hL2.two
        have hL3 := (Loc.new w4 rfl #[.slice a5 n2 c5] 47).below hbw6 (Loc.new w4 rfl #[.slice a5 n2 c5] 47).lt
        have l3 := hL3.one
        replace hof1 := (hof1.alloc (.cells #[.slice a5 n2 c5] 47)).below hbw6
        replace hos1 := (hos1.alloc (.cells #[.slice a5 n2 c5] 47)).below hbw6
        replace hob1 := (hob1.alloc (.cells #[.slice a5 n2 c5] 47)).below hbw6
        replace ho5 := (ho5.alloc (.cells #[.slice a5 n2 c5] 47)).below hbw6
        replace hB := below_th (below_al hB (.cells #[.slice a5 n2 c5] 47)) hbw6
        have HW6 := Lib.hid hw6; clear hw6 hbw6
        have hO6 := Own.fresh w6 (show w4.heap.size + 1 = w6.heap.size by rw [← HW6.out]; simp)
        have hB6 := below_al (Below.refl w6.heap.size w6) (.cells #[] 2)
        go_wp2
        rw [HW6.out]
        go_loopw [11, 12] (fun z i wr => ∃ (k : Nat) (al : Option Addr) (cl : Nat), k ≤ n2 ∧ i = .int .i64 k ∧ z = .slice al k cl ∧ Own wr w6.heap.size al k cl (unitL k) ∧ Below w6.heap.size w6 wr) (fun _ i _ => n2 - (intOf i).toNat)
        case atStart => exact ⟨0, _, 0, Nat.zero_le _, rfl, rfl, hO6, hB6⟩
        case round =>
          clear hO6 hB6
          obtain ⟨k, al, cl, hk, rfl, rfl, hol, hq⟩ := hrel
          obtain ⟨V, rfl⟩ : ∃ V : World, V = wr := ⟨_, rfl⟩
          have hq6 := hq.size
          have lX := (hL3.below hq hL3.lt).one
          by_cases hlt : k < n2
          · have HU : Hid (unitL (k + 1) = unitL k ++ [(k : Int)]) := Lib.hid (unitL_succ k)
            go_wp2_with (at_builtin; refine app1 rfl rfl hol rfl rfl (by omega) hq6 ?_; intro g' cc w8 hO8 hg8 hs8 hb8)
            go_roundw
            case rel => exact ⟨k + 1, _, cc, by omega, by go_num, rfl, by rw [HU.out]; exact hO8, hq.trans hb8⟩
            case measure => simp [intOf]; omega
          · obtain rfl : k = n2 := by omega
            clear lX
            replace hL1 := hL1.below hq hL1.lt
            replace l1 := hL1.two
            replace hL2 := hL2.below hq hL2.lt
            replace l2 := hL2.two
            replace hL3 := hL3.below hq hL3.lt
            replace l3 := hL3.one
            replace hof1 := hof1.below hq
            replace hos1 := hos1.below hq
            replace hob1 := hob1.below hq
            replace ho5 := ho5.below hq
            replace hB := below_th hB hq
            have hou := hol.row
            go_wp2_with fail
            refine (TwistedU_any _ a5 al c5 cl (drL k f g) _ ho5.tbl hou HT.out.2.2).mono ?_
            rintro e w5 ⟨a7, c7, vs7, a7', c7', vs7', rfl, ho7, hbw5⟩
            replace hL1 := hL1.below hbw5 hL1.lt
            replace l1 := hL1.two
            replace hL2 := hL2.below hbw5 hL2.lt
            replace l2 := hL2.two
            replace hL3 := hL3.below hbw5 hL3.lt
            replace l3 := hL3.one
            replace hof1 := hof1.below hbw5
            replace hos1 := hos1.below hbw5
            replace hob1 := hob1.below hbw5
            replace ho5 := ho5.below hbw5
            replace hB := below_th hB hbw5
            have hof7 := ho7.f
            have hos7 := ho7.s
            clear ho7
            have m1 := (hL1.alloc (.cells #[.slice a7 k c7, .slice a7' k c7'] 26)).two
            have m2 := (hL2.alloc (.cells #[.slice a7 k c7, .slice a7' k c7'] 26)).two
            have m3 := (hL3.alloc (.cells #[.slice a7 k c7, .slice a7' k c7'] 26)).one
            have m7 := (Loc.new w5 rfl #[.slice a7 k c7, .slice a7' k c7'] 26).two
            go_wp2_with fail
            refine (HCI.out a7 a7' c7 c7' _ _ _ L 0 HT.out.1 HT.out.2.1 ⟨(hof7.alloc (.cells #[.slice a7 k c7, .slice a7' k c7'] 26)).tbl, (hos7.alloc (.cells #[.slice a7 k c7, .slice a7' k c7'] 26)).tbl⟩ (hob1.alloc (.cells #[.slice a7 k c7, .slice a7' k c7'] 26)).row).mono ?_
            rintro e w6 ⟨rfl, hbw6⟩
            clear m1 m2 m3 m7
            replace hL1 := (hL1.alloc (.cells #[.slice a7 k c7, .slice a7' k c7'] 26)).below hbw6 (hL1.alloc (.cells #[.slice a7 k c7, .slice a7' k c7'] 26)).lt
            replace l1 := hL1.two
            replace hL2 := (hL2.alloc (.cells #[.slice a7 k c7, .slice a7' k c7'] 26)).below hbw6 (hL2.alloc (.cells #[.slice a7 k c7, .slice a7' k c7'] 26)).lt
            replace l2 := hL2.two
            replace hL3 := (hL3.alloc (.cells #[.slice a7 k c7, .slice a7' k c7'] 26)).below hbw6 (hL3.alloc (.cells #[.slice a7 k c7, .slice a7' k c7'] 26)).lt
            replace l3 := hL3.one
            have hL7 := (Loc.new w5 rfl #[.slice a7 k c7, .slice a7' k c7'] 26).below hbw6 (Loc.new w5 rfl #[.slice a7 k c7, .slice a7' k c7'] 26).lt
            have l7 := hL7.two
            replace hof1 := (hof1.alloc (.cells #[.slice a7 k c7, .slice a7' k c7'] 26)).below hbw6
            replace hos1 := (hos1.alloc (.cells #[.slice a7 k c7, .slice a7' k c7'] 26)).below hbw6
            replace hob1 := (hob1.alloc (.cells #[.slice a7 k c7, .slice a7' k c7'] 26)).below hbw6
            replace ho5 := (ho5.alloc (.cells #[.slice a7 k c7, .slice a7' k c7'] 26)).below hbw6
            replace hof7 := (hof7.alloc (.cells #[.slice a7 k c7, .slice a7' k c7'] 26)).below hbw6
            replace hos7 := (hos7.alloc (.cells #[.slice a7 k c7, .slice a7' k c7'] 26)).below hbw6
            replace hB := below_th (below_al hB (.cells #[.slice a7 k c7, .slice a7' k c7'] 26)) hbw6
            have u2 : ((L : Int) == (L : Int)) = true := by simp
            go_wp2
            go_ret
            exact ⟨rfl, hB⟩
  · obtain rfl : L = 0 := HL0.out q0
    have u2 : (C != 0) = true := by simpa using q0
    have u3 : (C == 0) = false := by simpa using q0
    cases hs : isSol f g with
    | false =>
      have HS := Lib.hid hs; clear hs
      go_wp2_with fail
      refine (DerivedRack_no n2 a1 a1' c1 n2 c1' f g _ hof1.tbl hos1.tbl HS.out (by omega) (by omega)).mono ?_
      rintro e w4 ⟨rfl, hbw4⟩
      replace hL1 := hL1.below hbw4 hL1.lt
      replace l1 := hL1.two
      replace hL2 := hL2.below hbw4 hL2.lt
      replace l2 := hL2.two
      replace hof1 := hof1.below hbw4
      replace hos1 := hos1.below hbw4
      replace hob1 := hob1.below hbw4
      replace hB := below_th hB hbw4
      go_wp2
      go_ret
      exact ⟨ret_bool (by simp), below_al hB _⟩
    | true =>
      have HS := Lib.hid hs; clear hs
      go_wp2_with fail
      refine (DerivedRack_any n2 a1 a1' c1 c1' f g _ hof1.tbl hos1.tbl HS.out (by omega)).mono ?_
      rintro e w4 hD
      unfold DerR at hD
      rcases hD with ⟨hd, rfl, hbw4⟩ | ⟨hd, a5, c5, vs5, rfl, ho5, hbw4⟩
      · clear hd
        replace hL1 := hL1.below hbw4 hL1.lt
        replace l1 := hL1.two
        replace hL2 := hL2.below hbw4 hL2.lt
        replace l2 := hL2.two
        replace hof1 := hof1.below hbw4
        replace hos1 := hos1.below hbw4
        replace hob1 := hob1.below hbw4
        replace hB := below_th hB hbw4
        go_wp2
        go_ret
        exact ⟨ret_bool (by simp), below_al hB _⟩
      · clear hd
        replace hL1 := hL1.below hbw4 hL1.lt
        replace l1 := hL1.two
        replace hL2 := hL2.below hbw4 hL2.lt
        replace l2 := hL2.two
        replace hof1 := hof1.below hbw4
        replace hos1 := hos1.below hbw4
        replace hob1 := hob1.below hbw4
        replace hB := below_th hB hbw4
        go_wp2
        go_ret
        exact ⟨ret_bool (by simp), below_al hB _⟩
end Go.Proofs.YtjhdbgohdmdpeaaGreat
