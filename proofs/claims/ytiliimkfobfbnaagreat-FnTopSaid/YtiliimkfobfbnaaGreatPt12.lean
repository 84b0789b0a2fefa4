/-
  Walks and plain laws of this seat, some texts in one.
  No condition but bounds on lengths.
-/
import Derived.Test.YtiliimkfobfbnaaGreatPt11
import Derived.Test.YtiliimkfobfbnaaGreatPt10
import Derived.Test.YtiliimkfobfbnaaGreatPt7
import Derived.Test.YtiliimkfobfbnaaGreatPt9
import Derived.Test.YtiliimkfobfbnaaGreatPt4
import Derived.Test.YtiliimkfobfbnaaGreatPt8
namespace Go.Proofs.YtiliimkfobfbnaaGreat
set_option maxRecDepth 100000
set_option linter.unusedVariables false
set_option linter.unusedSimpArgs false
open Go.RowKit
theorem IsGroup_any (a : Option Addr) (n c : Nat) (t : List (List Int)) (w : World) (h1 : Tbl w a n t) (hm : n ≤ 9223372036854775807) :
    Calls Tryz.prog 35 #[rAgg a n c] w fun e w' => e = .returned (.bool (isGrp t)) ∧ Below w.heap.size w w' := by
  have hA := Loc.new w rfl #[.slice a n c] 41
  have lA := hA.one
  go_enter Tryz.func35, Tryz.ntmps35
  go_wp2_with fail
  refine (isGroupTable_any _ _ _ t _ (h1.alloc _) hm).mono ?_
  rintro e w1 ⟨rfl, hb1⟩
  go_wp2
  go_ret
  exact ⟨rfl, below_alth (Below.refl _ _) hb1⟩
def arBr (f g : List (List Int)) : Bool := isGrp f && (isGrp g && decide (f.length = g.length))
set_option maxHeartbeats 2000000 in
theorem areBraceTables_any (a : Option Addr) (n c : Nat) (a' : Option Addr) (n' c' : Nat) (f g : List (List Int)) (w : World) (h1 : Tbl w a n f) (h2 : Tbl w a' n' g) (hm1 : n ≤ 9223372036854775807) (hm2 : n' ≤ 9223372036854775807) :
    Calls Tryz.prog 59 #[sAgg a n c a' n' c'] w fun e w' => e = .returned (.bool (arBr f g)) ∧ Below w.heap.size w w' := by
  have hA := Loc.new w rfl #[.slice a n c, .slice a' n' c'] 26
  have lA := hA.two
  have HL1 := Lib.hid h1.len
  have HL2 := Lib.hid h2.len
  cases hf : isGrp f with
  | false =>
    have HQ : Hid (arBr f g = false) := Lib.hid (by unfold arBr; rw [hf]; rfl)
    have HF := Lib.hid hf; clear hf
    go_enter Tryz.func59, Tryz.ntmps59
    go_wp2_with fail
    refine (isGroupTable_any _ _ _ f _ (h1.alloc _) hm1).mono ?_
    rintro e w1 ⟨rfl, hb1⟩
    rw [HF.out]
    go_wp2
    go_ret
    exact ⟨ret_bool HQ.out.symm, below_alth (Below.refl _ _) hb1⟩
  | true =>
    have HQ : Hid (arBr f g = (isGrp g && decide (f.length = g.length))) := Lib.hid (by unfold arBr; rw [hf]; rfl)
    have HF := Lib.hid hf; clear hf
    cases hg : isGrp g with
    | false =>
      have HG := Lib.hid hg; clear hg
      go_enter Tryz.func59, Tryz.ntmps59
      go_wp2_with fail
      refine (isGroupTable_any _ _ _ f _ (h1.alloc _) hm1).mono ?_
      rintro e w1 ⟨rfl, hb1⟩
      rw [HF.out]
      have lA1 := (hA.below hb1 hA.lt).two
      go_wp2_with fail
      refine (isGroupTable_any _ _ _ g _ ((h2.alloc _).below hb1) hm2).mono ?_
      rintro e w2 ⟨rfl, hb2⟩
      rw [HG.out]
      go_wp2
      go_ret
      exact ⟨ret_bool (by rw [HQ.out, HG.out]; rfl), below_th (below_alth (Below.refl _ _) hb1) hb2⟩
    | true =>
      have HG := Lib.hid hg; clear hg
      have HE : Hid (decide (f.length = g.length) = ((n : Int) == (n' : Int))) := Lib.hid (by
        rw [← HL1.out, ← HL2.out, Bool.eq_iff_iff, decide_eq_true_eq, beq_iff_eq]; omega)
      go_enter Tryz.func59, Tryz.ntmps59
      go_wp2_with fail
      refine (isGroupTable_any _ _ _ f _ (h1.alloc _) hm1).mono ?_
      rintro e w1 ⟨rfl, hb1⟩
      rw [HF.out]
      have lA1 := (hA.below hb1 hA.lt).two
      go_wp2_with fail
      refine (isGroupTable_any _ _ _ g _ ((h2.alloc _).below hb1) hm2).mono ?_
      rintro e w2 ⟨rfl, hb2⟩
      rw [HG.out]
      have lA2 := ((hA.below hb1 hA.lt).below hb2 (hA.below hb1 hA.lt).lt).two
      go_wp2
      go_ret
      exact ⟨ret_bool (by rw [HQ.out, HG.out, HE.out]; rfl), below_th (below_alth (Below.refl _ _) hb1) hb2⟩
set_option maxHeartbeats 8000000 in
theorem braceFault_any (n : Nat) (a a' : Option Addr) (c c' : Nat) (f g : List (List Int)) (w : World) (h1 : Tbl w a n f) (h2 : Tbl w a' n g) (hn1 : 1 ≤ n) (hn : n ≤ 12) (hf : Sq n f) (hg : Sq n g) (hr : ∀ x, x < n → IsP n (f.getD x [])) :
    Calls Tryz.prog 60 #[sAgg a n c a' n c'] w (FltN (brOk n f g) w) := by
  obtain ⟨ba, oa, A, O, C, rfl, gf⟩ := h1.grid hf hn1
  obtain ⟨bc, oc, A', O', C', rfl, gg⟩ := h2.grid hg hn1
  have hA := Loc.new w rfl #[.slice (some ⟨ba, oa, none⟩) n c, .slice (some ⟨bc, oc, none⟩) n c'] 26
  have lA := hA.two
  have hB := below_al (Below.refl w.heap.size w) (.cells #[.slice (some ⟨ba, oa, none⟩) n c, .slice (some ⟨bc, oc, none⟩) n c'] 26)
  have HR := Lib.hid hr; have HF := Lib.hid hf; clear hr
  go_enter Tryz.func60, Tryz.ntmps60
  go_wp2_with fail
  refine (groupInverses_any _ n _ f _ (h1.below hB) (by omega) HF.out HR.out).mono ?_
  rintro e w1 ⟨am, cm, rfl, hom, hb1⟩
  have lA1 := (hA.below hb1 hA.lt).two
  have hB1 := below_th hB hb1
  have gf := gf.below hB1
  have gg := gg.below hB1
  have hrm := hom.row
  have HRM := Lib.hid hrm
  clear lA hA hB hb1 h1 h2 hom hrm
  go_wp2
  go_loopw [15] (fun i wr => ∃ k : Nat, k ≤ n ∧ i = .int .i64 k ∧ Hid (allN k (fun x => allN n fun y => allN n fun z => brAt f g x y z) = true) ∧ ∃ m, wr = w1.drewN m) (fun i _ => n - (intOf i).toNat)
  case atStart => exact ⟨0, Nat.zero_le _, rfl, Lib.hid rfl, 0, rfl⟩
  case round =>
    obtain ⟨x, hx, rfl, hx1, m1, rfl⟩ := hrel
    by_cases hlt : x < n
    · go_wp2
      go_loopw [19] (fun i wr => ∃ k : Nat, k ≤ n ∧ i = .int .i64 k ∧ Hid (allN k (fun y => allN n fun z => brAt f g x y z) = true) ∧ ∃ m, wr = w1.drewN m) (fun i _ => n - (intOf i).toNat)
      case atStart => exact ⟨0, Nat.zero_le _, rfl, Lib.hid rfl, m1, rfl⟩
      case round =>
        obtain ⟨y, hy, rfl, hy1, m2, rfl⟩ := hrel
        by_cases hlty : y < n
        · go_wp2
          go_loopw [23] (fun i wr => ∃ k : Nat, k ≤ n ∧ i = .int .i64 k ∧ Hid (allN k (fun z => brAt f g x y z) = true) ∧ ∃ m, wr = w1.drewN m) (fun i _ => n - (intOf i).toNat)
          case atStart => exact ⟨0, Nat.zero_le _, rfl, Lib.hid rfl, m2, rfl⟩
          case round =>
            obtain ⟨z, hz, rfl, hz1, m3, rfl⟩ := hrel
            by_cases hltz : z < n
            · have hmx : ivN f x < n := (ivN_idx HF.out hlt (HR.out x hlt)).1
              obtain ⟨bm, om, rfl, gm⟩ := HRM.out.at x hlt
              rw [ivnL_get f hlt] at gm
              have l1 := hf.lt hlty hltz
              have l2 := hg.lt hlt hlty
              have l3 := hf.lt l2 hmx
              have l4 := hg.lt hlt hltz
              obtain ⟨r1, k1⟩ := gf.look hlty hltz
              obtain ⟨r2, k2⟩ := gg.look hlt l1
              have k3 := gg.cell _ _ hlt hlty
              obtain ⟨r4, k4⟩ := gf.look l2 hmx
              have k5 := gg.cell _ _ hlt hltz
              obtain ⟨r6, k6⟩ := gf.look l3 l4
              have hE : brAt f g x y z = decide (tv g x (tv f y z) = tv f (tv f (tv g x y) (ivN f x)) (tv g x z)) := rfl
              generalize ivN f x = MX at *
              generalize tv f y z = q1 at *
              generalize tv g x y = q2 at *
              generalize tv g x z = q3 at *
              generalize tv f q2 MX = q4 at *
              generalize tv g x q1 = A1 at *
              generalize tv f q4 q3 = A2 at *
              have HE := Lib.hid hE
              clear hE gf gg hf hg
              by_cases p1 : A1 = A2
              · have u1 : ((A1 : Int) != (A2 : Int)) = false := by simp [p1]
                have HE2 : Hid (brAt f g x y z = true) := Lib.hid (by rw [HE.out]; simp [p1])
                clear p1
                go_wp2
                go_quiet (fail)
                go_wp2
                go_roundw
                case rel => exact ⟨z + 1, by omega, by go_num, Lib.hid (allN_succ hz1.out HE2.out), _, rfl⟩
                case measure => simp [intOf]; omega
              · have u1 : ((A1 : Int) != (A2 : Int)) = true := by simp; omega
                have HE2 : Hid (brAt f g x y z = false) := Lib.hid (by rw [HE.out]; simp [p1])
                clear p1
                go_wp2
                go_quiet (fail)
                go_wp2
                go_ret
                exact ⟨.inr ⟨allN_no hlt (allN_no hlty (allN_no hltz HE2.out)), _, _, rfl⟩, below_al (below_drewN hB1 _) _⟩
            · obtain rfl : z = n := by omega
              go_wp2
              go_roundw
              case rel => exact ⟨y + 1, by omega, by go_num, Lib.hid (allN_succ hy1.out hz1.out), _, rfl⟩
              case measure => simp [intOf]; omega
        · obtain rfl : y = n := by omega
          go_wp2
          go_roundw
          case rel => exact ⟨x + 1, by omega, by go_num, Lib.hid (allN_succ hx1.out hy1.out), _, rfl⟩
          case measure => simp [intOf]; omega
    · obtain rfl : x = n := by omega
      go_wp2
      go_ret
      exact ⟨.inl ⟨hx1.out, rfl⟩, below_drewN hB1 _⟩
set_option maxHeartbeats 2000000 in
theorem IsBrace_any (a : Option Addr) (n c : Nat) (a' : Option Addr) (n' c' : Nat) (f g : List (List Int)) (w : World) (h1 : Tbl w a n f) (h2 : Tbl w a' n' g) (hm1 : n ≤ 9223372036854775807) (hm2 : n' ≤ 9223372036854775807) :
    Calls Tryz.prog 25 #[sAgg a n c a' n' c'] w fun e w' => e = .returned (.bool (isBrc f g)) ∧ Below w.heap.size w w' := by
  have hA := Loc.new w rfl #[.slice a n c, .slice a' n' c'] 26
  have lA := hA.two
  have HL1 := Lib.hid h1.len
  have HL2 := Lib.hid h2.len
  have HQ : Hid (isBrc f g = (arBr f g && brOk f.length f g)) := Lib.hid (by unfold isBrc arBr; cases isGrp f <;> cases isGrp g <;> simp)
  cases hf : arBr f g with
  | false =>
    have HF := Lib.hid hf; clear hf
    go_enter Tryz.func25, Tryz.ntmps25
    go_wp2_with fail
    refine (areBraceTables_any _ _ _ _ _ _ f g _ (h1.alloc _) (h2.alloc _) hm1 hm2).mono ?_
    rintro e w1 ⟨rfl, hb1⟩
    rw [HF.out]
    go_wp2
    go_ret
    exact ⟨ret_bool (by rw [HQ.out, HF.out]; rfl), below_alth (Below.refl _ _) hb1⟩
  | true =>
    have hh : isGrp f = true ∧ isGrp g = true ∧ f.length = g.length := by
      unfold arBr at hf; simp only [Bool.and_eq_true, decide_eq_true_eq] at hf; exact hf
    have HF := Lib.hid hf; clear hf
    obtain ⟨g1, g2, g3⟩ := hh
    obtain ⟨p1, p2, p3⟩ := isGrp_sq g1
    obtain ⟨_, _, p4⟩ := isGrp_sq g2
    have hr : ∀ x, x < f.length → IsP f.length (f.getD x []) := fun x hx => isGrp_row g1 hx
    rw [← g3] at p4
    rw [← HL1.out] at p1 p2 p3 p4 hr
    obtain rfl : n = n' := by have := HL1.out; have := HL2.out; omega
    have H3 := Lib.hid p3; have H4 := Lib.hid p4; have HR := Lib.hid hr
    have nn := fun (w : World) (a : Option Addr) (n c : Nat) => Lib.run_eql_slice_nil (P := Tryz.prog) w 50 2 a n c 0 0 und_ints
    clear g1 g2 g3 p3 p4 hr
    go_enter Tryz.func25, Tryz.ntmps25
    go_wp2_with fail
    refine (areBraceTables_any _ _ _ _ _ _ f g _ (h1.alloc _) (h2.alloc _) hm1 hm2).mono ?_
    rintro e w1 ⟨rfl, hb1⟩
    rw [HF.out]
    have lA1 := (hA.below hb1 hA.lt).two
    have hB1 := below_alth (Below.refl _ _) hb1
    go_wp2_with fail
    refine (braceFault_any n _ _ _ _ f g _ ((h1.alloc _).below hb1) ((h2.alloc _).below hb1) p1 p2 H3.out H4.out HR.out).mono ?_
    rintro e w2 ⟨he, hb2⟩
    rcases he with ⟨hc, rfl⟩ | ⟨hc, b, k, rfl⟩
    · have HD := Lib.hid hc; clear hc
      go_wp2
      go_ret
      exact ⟨ret_bool (by rw [HQ.out, HF.out, ← HL1.out, HD.out]; rfl), below_th hB1 hb2⟩
    · have HD := Lib.hid hc; clear hc
      go_wp2
      go_ret
      exact ⟨ret_bool (by rw [HQ.out, HF.out, ← HL1.out, HD.out]; rfl), below_th hB1 hb2⟩
set_option maxHeartbeats 4000000 in
theorem transposed1_any (n bt : Nat) (tt : TypeId) (at_ : Option Addr) (ct : Nat) (t : List (List Int)) (w : World) (ht : Loc w bt #[.slice at_ n ct] tt)
    (h1 : Tbl w at_ n t) (hs : Sq n t) (hn : n ≤ 12) (x y : Nat) (hx : x < n) (hy : y < n) :
    Calls Tryz.prog 70 #[.int .i64 x, .int .i64 y, .pointer (some ⟨bt, 0, none⟩)] w fun e w' => e = .returned (.int .i64 ((tv t y x : Nat) : Int)) ∧ ∃ m, w' = w.drewN m := by
  obtain ⟨b, off, A, O, C, rfl, G⟩ := h1.grid hs (by omega)
  have g4 := G.look hy hx
  obtain ⟨v, HV⟩ : ∃ v, Hid (tv t y x = v) := ⟨_, rfl⟩
  rw [HV.out] at g4 ⊢
  have l2 := ht.one
  have i1 : (0 : Int) ≤ (x : Int) := by omega
  have i2 : (x : Int) < (n : Int) := by omega
  have i3 : (0 : Int) ≤ (y : Int) := by omega
  have i4 : (y : Int) < (n : Int) := by omega
  go_enter Tryz.func70, Tryz.ntmps70
  go_wp2
  go_ret
  exact ⟨rfl, 0, rfl⟩
theorem ent_trn1 : Ent 70 := fun _ _ => rfl
set_option maxHeartbeats 4000000 in
theorem transposed_any (n : Nat) (at_ : Option Addr) (ct : Nat) (t : List (List Int)) (w : World) (h1 : Tbl w at_ n t) (hs : Sq n t) (hn : n ≤ 12) :
    Calls Tryz.prog 33 #[.slice at_ n ct] w fun e w' => ∃ a c vs, e = .returned (.slice a n c) ∧ OwnT w' w.heap.size a n c vs (trnL n t) ∧ Below w.heap.size w w' := by
  have HS := Lib.hid hs
  clear hs
  obtain ⟨w0, hw0⟩ : ∃ w0, w.alloc (.cells #[.slice at_ n ct] 24) = w0 := ⟨_, rfl⟩
  have hB0 : Below w.heap.size w w0 := by rw [← hw0]; exact below_al (Below.refl _ _) _
  have hT : Loc w0 w.heap.size #[.slice at_ n ct] 24 := by rw [← hw0]; exact Loc.new w rfl _ _
  have lT := hT.one
  have hcl : ∀ x y, x < n → y < n → ∀ w3, Below w0.heap.size w0 w3 → Calls Tryz.prog 70 (#[.int .i64 x, .int .i64 y] ++ #[.pointer (some ⟨w.heap.size, 0, none⟩)]) w3 fun e w' => e = .returned (.int .i64 ((tv t y x : Nat) : Int)) ∧ Below w3.heap.size w3 w' := fun x y hx hy w3 hb3 => by
    have hB3 := below_th hB0 hb3
    refine (transposed1_any n _ _ at_ ct t w3 (hT.below hb3 hT.lt) (h1.below hB3) HS.out hn x y hx hy).mono fun e w' ⟨he, k, hk⟩ => ⟨he, ?_⟩
    rw [hk]; exact below_drewN (Below.refl _ _) k
  have HCL := Lib.hid hcl; clear hcl
  go_enter Tryz.func33, Tryz.ntmps33
  go_wp2_with fail
  refine (tableBy_any _ _ (fun x y => ((tv t y x : Nat) : Int)) n _ (by omega) ent_trn1 HCL.out).mono ?_
  rintro e w3 ⟨a, c, vs, rfl, ho, hb3⟩
  go_wp2
  go_ret
  exact ⟨_, _, _, rfl, ho.mono hB0.size, below_th hB0 hb3⟩
def socB (n : Nat) (f g : List (List Int)) (x : Nat) : Bool := decide (f.getD x [] = g.getD x []) && decide (f.getD x [] = (trnL n f).getD x [])
def setN (p : Nat → Bool) : Nat → Nat
  | 0 => 0
  | k + 1 => if p k then setN p k ||| 2 ^ k else setN p k
theorem setN_succ (p : Nat → Bool) (k : Nat) : setN p (k + 1) = if p k then setN p k ||| 2 ^ k else setN p k := rfl
theorem setN_lt (p : Nat → Bool) : ∀ k, setN p k < 2 ^ k := by
  intro k
  induction k with
  | zero => simp [setN]
  | succ k ih =>
    unfold setN
    have h1 : setN p k < 2 ^ (k + 1) := Nat.lt_of_lt_of_le ih (Nat.pow_le_pow_right (by decide) (by omega))
    have h2 : 2 ^ k < 2 ^ (k + 1) := Nat.pow_lt_pow_right (by decide) (by omega)
    split
    · exact Nat.or_lt_two_pow h1 h2
    · exact h1
theorem setN_bit (p : Nat → Bool) : ∀ k x, (setN p k).testBit x = (decide (x < k) && p x) := by
  intro k
  induction k with
  | zero => intro x; simp [setN]
  | succ k ih =>
    intro x
    unfold setN
    by_cases hp : p k = true
    · rw [if_pos hp, Nat.testBit_or, ih, Nat.testBit_two_pow]
      by_cases e : x = k
      · subst e; simp [hp]
      · have e2 : ¬ k = x := fun h => e h.symm
        simp only [e2, decide_false, Bool.or_false]
        congr 1
        exact decide_eq_decide.2 (by omega)
    · rw [if_neg hp, ih]
      by_cases e : x = k
      · subst e; simp [hp]
      · congr 1
        exact decide_eq_decide.2 (by omega)
theorem setN_4096 (p : Nat → Bool) {k : Nat} (hk : k ≤ 12) : setN p k < 4096 := Nat.lt_of_lt_of_le (setN_lt p k) (by
  have := Nat.pow_le_pow_right (n := 2) (by decide) hk
  simpa using this)
set_option maxHeartbeats 8000000 in
theorem socleOf_any (n : Nat) (a a' : Option Addr) (c c' : Nat) (f g : List (List Int)) (w : World) (h1 : Tbl w a n f) (h2 : Tbl w a' n g) (hf : Sq n f) (hn : n ≤ 12) :
    Calls Tryz.prog 43 #[sAgg a n c a' n c'] w fun e w' => e = .returned (.int .i64 ((setN (socB n f g) n : Nat) : Int)) ∧ Below w.heap.size w w' := by
  have HF := Lib.hid hf
  clear hf
  obtain ⟨w0, hw0⟩ : ∃ w0, w.alloc (.cells #[.slice a n c, .slice a' n c'] 26) = w0 := ⟨_, rfl⟩
  have hA : Loc w0 w.heap.size #[.slice a n c, .slice a' n c'] 26 := by rw [← hw0]; exact Loc.new w rfl _ _
  have hB : Below w.heap.size w w0 := by rw [← hw0]; exact below_al (Below.refl _ _) _
  have lA := hA.two
  go_enter Tryz.func43, Tryz.ntmps43
  go_wp2_with fail
  try rw [hw0]
  refine (transposed_any n _ c f _ (h1.below hB) HF.out hn).mono ?_
  rintro e w1 ⟨ar, cr, vr, rfl, hor, hb1⟩
  have hB1 := below_th hB hb1
  have hA1 := hA.below hb1 hA.lt
  have lA1 := hA1.two
  have hrt := hor.tbl
  clear lA hA hor hw0
  go_wp2
  go_loopw [4, 13] (fun s i wr => ∃ k : Nat, k ≤ n ∧ i = .int .i64 k ∧ s = .int .i64 ((setN (socB n f g) k : Nat) : Int) ∧ Below w1.heap.size w1 wr) (fun _ i _ => n - (intOf i).toNat)
  case atStart => exact ⟨0, Nat.zero_le _, rfl, rfl, Below.refl _ _⟩
  case round =>
    obtain ⟨x, hx, rfl, rfl, hq⟩ := hrel
    obtain ⟨W, rfl⟩ : ∃ W : World, W = wr := ⟨_, rfl⟩
    by_cases hlt : x < n
    · have hBm := below_th hB1 hq
      have lA := (hA1.below hq hA1.lt).two
      obtain ⟨b1, o1, a1, n1, c1, rfl, g1, r1, l1⟩ := (h1.below hBm).at x hlt
      obtain ⟨b2, o2, a2, n2, c2, rfl, g2, r2, l2⟩ := (h2.below hBm).at x hlt
      obtain ⟨b3, o3, a3, n3, c3, rfl, g3, r3, l3⟩ := (hrt.below hq).at x hlt
      obtain ⟨X, HX⟩ : ∃ X, Hid (f.getD x [] = X) := ⟨_, Lib.hid rfl⟩
      obtain ⟨Y, HY⟩ : ∃ Y, Hid (g.getD x [] = Y) := ⟨_, Lib.hid rfl⟩
      obtain ⟨P, HP⟩ : ∃ P, Hid ((trnL n f).getD x [] = P) := ⟨_, Lib.hid rfl⟩
      rw [HX.out] at r1; rw [HY.out] at r2; rw [HP.out] at r3
      have HAL : Hid (socB n f g x = (decide (X = Y) && decide (X = P))) := Lib.hid (by unfold socB; rw [HX.out, HY.out, HP.out])
      have i1 : (0 : Int) ≤ (x : Int) := by omega
      have i2 : (x : Int) < (n : Int) := by omega
      cases d1 : decide (X = Y) with
      | false =>
        have HNA : Hid (setN (socB n f g) (x + 1) = setN (socB n f g) x) := Lib.hid (by rw [setN_succ, HAL.out, d1]; rfl)
        have HD := Lib.hid d1
        clear d1
        go_wp2_with fail
        refine (sEqual_any a1 a2 n1 n2 c1 c2 X Y _ r1 r2 l1).mono ?_
        rintro e w2 ⟨rfl, m, rfl⟩
        rw [HD.out]
        go_wp2
        go_roundw
        case rel => exact ⟨x + 1, by omega, by go_num, by rw [HNA.out], below_drewN hq m⟩
        case measure => simp [intOf]; omega
      | true =>
        have HD := Lib.hid d1
        cases d2 : decide (X = P) with
        | false =>
          have HNA : Hid (setN (socB n f g) (x + 1) = setN (socB n f g) x) := Lib.hid (by rw [setN_succ, HAL.out, d1, d2]; rfl)
          have HD2 := Lib.hid d2
          clear d1 d2
          go_wp2_with fail
          refine (sEqual_any a1 a2 n1 n2 c1 c2 X Y _ r1 r2 l1).mono ?_
          rintro e w2 ⟨rfl, m, rfl⟩
          rw [HD.out]
          go_wp2_with fail
          refine (sEqual_any a1 a3 n1 n3 c1 c3 X P _ (r1.drewN m) (r3.drewN m) l1).mono ?_
          rintro e w2 ⟨rfl, m2, rfl⟩
          rw [HD2.out]
          go_wp2
          go_roundw
          case rel => exact ⟨x + 1, by omega, by go_num, by rw [HNA.out], below_drewN hq _⟩
          case measure => simp [intOf]; omega
        | true =>
          have HNA : Hid (setN (socB n f g) (x + 1) = setN (socB n f g) x ||| 2 ^ x) := Lib.hid (by rw [setN_succ, HAL.out, d1, d2]; rfl)
          have HD2 := Lib.hid d2
          have hs4 := setN_4096 (socB n f g) (show x ≤ 12 by omega)
          have h2x : 2 ^ x < 4096 := by
            have := Nat.pow_lt_pow_right (a := 2) (m := x) (n := 12) (by decide) (by omega)
            simpa using this
          obtain ⟨S, HS⟩ : ∃ S, Hid (setN (socB n f g) x = S) := ⟨_, Lib.hid rfl⟩
          rw [HS.out] at hs4 HNA ⊢
          have hor := (i64_bits S (2 ^ x) hs4 h2x).2
          obtain ⟨T, HT⟩ : ∃ T, Hid (2 ^ x = T) := ⟨_, Lib.hid rfl⟩
          have ht : ((2 : Int) ^ x) = (T : Int) := by rw [← HT.out]; exact (Int.natCast_pow 2 x).symm
          rw [HT.out] at hor h2x HNA
          have hwT : IntKind.i64.wrap (T : Int) = T := IntWalk.i64_in _ (by omega)
          obtain ⟨R, HR⟩ : ∃ R, Hid (S ||| T = R) := ⟨_, Lib.hid rfl⟩
          rw [HR.out] at hor HNA
          clear d1 d2
          go_wp2_with fail
          refine (sEqual_any a1 a2 n1 n2 c1 c2 X Y _ r1 r2 l1).mono ?_
          rintro e w2 ⟨rfl, m, rfl⟩
          rw [HD.out]
          go_wp2_with fail
          refine (sEqual_any a1 a3 n1 n3 c1 c3 X P _ (r1.drewN m) (r3.drewN m) l1).mono ?_
          rintro e w2 ⟨rfl, m2, rfl⟩
          rw [HD2.out]
          go_wp2
          go_roundw
          case rel => exact ⟨x + 1, by omega, by go_num, by rw [HNA.out], below_drewN hq _⟩
          case measure => simp [intOf]; omega
    · obtain rfl : x = n := by omega
      go_wp2
      go_ret
      exact ⟨rfl, below_th hB1 hq⟩
def PairAt (f : FuncId) (caps : Array Value) (v1 v2 : Nat → Nat → Int) (n : Nat) (w : World) : Prop :=
  ∀ x y, x < n → y < n → ∀ w1, Below w.heap.size w w1 → Calls Tryz.prog f (#[.int .i64 x, .int .i64 y] ++ caps) w1 fun e w' => e = .returned (.tuple #[.int .i64 (v1 x y), .int .i64 (v2 x y)]) ∧ Below w1.heap.size w1 w'
theorem PairAt.below {f : FuncId} {caps : Array Value} {v1 v2 : Nat → Nat → Int} {n : Nat} {w w' : World} (h : PairAt f caps v1 v2 n w) (hb : Below w.heap.size w w') : PairAt f caps v1 v2 n w' :=
  fun x y hx hy w1 h1 => h x y hx hy w1 (below_th hb h1)
set_option maxHeartbeats 400000 in
theorem solutionBy1_any (f : FuncId) (caps : Array Value) (v1 v2 : Nat → Nat → Int) (n b : Nat) (t : TypeId) (x y : Nat) (w : World) (hL : Loc w b #[.func (.func f) #[] caps] t) (hcf : Ent f) (hf : PairAt f caps v1 v2 n w) (hx : x < n) (hy : y < n) :
    Calls Tryz.prog 87 #[.int .i64 x, .int .i64 y, .pointer (some ⟨b, 0, none⟩)] w fun e w' => e = .returned (.int .i64 (v1 x y)) ∧ Below w.heap.size w w' := by
  have hcf' : ∀ (args : Array Value) (w : World), (callFunc f args).run Tryz.prog w = .ok (.enter f args) w := hcf
  have HF := Lib.hid (hf x y hx hy w (Below.refl _ _))
  have lL := hL.one
  clear hf
  go_enter Tryz.func87, Tryz.ntmps87
  go_wp2_with fail
  refine HF.out.mono ?_
  rintro e w1 ⟨rfl, hb⟩
  go_wp2
  go_ret
  exact ⟨rfl, hb⟩
set_option maxHeartbeats 400000 in
theorem solutionBy2_any (f : FuncId) (caps : Array Value) (v1 v2 : Nat → Nat → Int) (n b : Nat) (t : TypeId) (x y : Nat) (w : World) (hL : Loc w b #[.func (.func f) #[] caps] t) (hcf : Ent f) (hf : PairAt f caps v1 v2 n w) (hx : x < n) (hy : y < n) :
    Calls Tryz.prog 88 #[.int .i64 x, .int .i64 y, .pointer (some ⟨b, 0, none⟩)] w fun e w' => e = .returned (.int .i64 (v2 x y)) ∧ Below w.heap.size w w' := by
  have hcf' : ∀ (args : Array Value) (w : World), (callFunc f args).run Tryz.prog w = .ok (.enter f args) w := hcf
  have HF := Lib.hid (hf x y hx hy w (Below.refl _ _))
  have lL := hL.one
  clear hf
  go_enter Tryz.func88, Tryz.ntmps88
  go_wp2_with fail
  refine HF.out.mono ?_
  rintro e w1 ⟨rfl, hb⟩
  go_wp2
  go_ret
  exact ⟨rfl, hb⟩
theorem ent_sb1 : Ent 87 := fun _ _ => rfl
theorem ent_sb2 : Ent 88 := fun _ _ => rfl
set_option maxHeartbeats 2000000 in
theorem solutionBy_any (f : FuncId) (caps : Array Value) (v1 v2 : Nat → Nat → Int) (n : Nat) (w : World) (hn : n ≤ 1000000) (hcf : Ent f) (hf : PairAt f caps v1 v2 n w) :
    Calls Tryz.prog 54 #[.int .i64 n, .func (.func f) #[] caps] w fun e w' => ∃ a c vs a' c' vs', e = .returned (sAgg a n c a' n c') ∧ OwnS w' w.heap.size a n c vs (tabF n v1) a' n c' vs' (tabF n v2) ∧ Below w.heap.size w w' := by
  have hA := (Loc.new w rfl #[.func (.func f) #[] caps] 84).alloc (.cells #[.slice none 0 0, .slice none 0 0] 29)
  have hR := Loc.new (w.alloc (.cells #[.func (.func f) #[] caps] 84)) rfl #[.slice none 0 0, .slice none 0 0] 29
  rw [size_alloc] at hR
  have hB := below_al (below_al (Below.refl w.heap.size w) (.cells #[.func (.func f) #[] caps] 84)) (.cells #[.slice none 0 0, .slice none 0 0] 29)
  have HF := Lib.hid hf; clear hf
  go_enter Tryz.func54, Tryz.ntmps54
  go_wp2_with fail
  generalize (w.alloc (.cells #[.func (.func f) #[] caps] 84)).alloc (.cells #[.slice none 0 0, .slice none 0 0] 29) = w0 at *
  have hc1 : Hid (∀ x y, x < n → y < n → ∀ w1, Below w0.heap.size w0 w1 → Calls Tryz.prog 87 (#[.int .i64 x, .int .i64 y] ++ #[.pointer (some ⟨w.heap.size, 0, none⟩)]) w1 fun e w' => e = .returned (.int .i64 (v1 x y)) ∧ Below w1.heap.size w1 w') := Lib.hid fun x y hx hy w1 hb1 =>
    solutionBy1_any f caps v1 v2 n _ _ x y w1 (hA.below hb1 hA.lt) hcf (HF.out.below (below_th hB hb1)) hx hy
  refine (tableBy_any _ _ v1 n _ hn ent_sb1 hc1.out).mono ?_
  rintro e w1 ⟨a, c, vs, rfl, ho1, hb1⟩
  have hB1 := below_th hB hb1
  have hA1 := hA.below hb1 hA.lt
  have hR1 := hR.below hb1 hR.lt
  have hc2 : Hid (∀ x y, x < n → y < n → ∀ w2, Below w1.heap.size w1 w2 → Calls Tryz.prog 88 (#[.int .i64 x, .int .i64 y] ++ #[.pointer (some ⟨w.heap.size, 0, none⟩)]) w2 fun e w' => e = .returned (.int .i64 (v2 x y)) ∧ Below w2.heap.size w2 w') := Lib.hid fun x y hx hy w2 hb2 =>
    solutionBy2_any f caps v1 v2 n _ _ x y w2 (hA1.below hb2 hA1.lt) hcf (HF.out.below (below_th hB1 hb2)) hx hy
  go_wp2_with fail
  refine (tableBy_any _ _ v2 n _ hn ent_sb2 hc2.out).mono ?_
  rintro e w2 ⟨a', c', vs', rfl, ho2, hb2⟩
  have hB2 := below_th hB1 hb2
  have hR2 := hR1.below hb2 hR1.lt
  have hz : w.heap.size + 1 < w0.heap.size := hR.lt
  have hz1 := hb1.size
  have ho1' := ho1.below hb2
  have lR := hR2.two
  have hap : ∀ g, TblS a n vs g → ¬ TblS a' n vs' g := fun g h1 h2 => by have e1 := ho1.uHi g h1; have e2 := ho2.uLo g h2; omega
  go_wp2
  refine bodyPost_ret (v := sAgg a n c a' n c') (by simp [results, Tryz.results54, go_sem, lR]) rfl ⟨a, c, vs, a', c', vs', rfl, ⟨?_, ?_, hap⟩, ?_⟩
  · exact ((ho1'.setlo (by show w.heap.size + 1 < w0.heap.size; omega) _).setlo (by show w.heap.size + 1 < w0.heap.size; omega) _).mono (by have := hB.size; omega)
  · exact ((ho2.setlo (by show w.heap.size + 1 < w1.heap.size; omega) _).setlo (by show w.heap.size + 1 < w1.heap.size; omega) _).mono (by have := hB1.size; omega)
  · exact below_setne (below_setne hB2 (by show w.heap.size ≤ w.heap.size + 1; omega) _) (by show w.heap.size ≤ w.heap.size + 1; omega) _
end Go.Proofs.YtiliimkfobfbnaaGreat
