/-
  Walks and plain laws of this seat, some texts in one.
  No condition but bounds on lengths.
-/
import Derived.Test.YtpdgpgbgakinlaaGreatPa45
import Derived.Test.YtpdgpgbgakinlaaGreatPa26
import Derived.Test.YtpdgpgbgakinlaaGreatPa38
import Derived.Test.YtpdgpgbgakinlaaGreatPa36
import Derived.Test.YtpdgpgbgakinlaaGreatPa8
namespace Go.Proofs.YtpdgpgbgakinlaaGreat
set_option maxRecDepth 100000
set_option linter.unusedVariables false
set_option linter.unusedSimpArgs false
def rcAt (t : List (List Int)) (m : Int) (M : List (List Int)) (x y z : Nat) : Bool :=
  decide ((((tv M y z : Nat) : Int) + ((tv M x (tv t y z) : Nat) : Int) - ((tv M x z : Nat) : Int) - ((tv M (tv t x y) (tv t x z) : Nat) : Int)).tmod m = 0)
def rcOk (n : Nat) (t : List (List Int)) (m : Int) (M : List (List Int)) : Bool := allN n fun x => allN n fun y => allN n fun z => rcAt t m M x y z
theorem flt_is {n : Nat} {P : List Int → Bool} (hn : 1 ≤ n) (h : ¬ fltL n P = []) : (fltL n P).length = 3 ∧ Less n (fltL n P) ∧ P (fltL n P) = true := by
  unfold fltL at h ⊢
  cases q : (List.range (n * n * n)).find? (fun N => P (digL n 3 N)) with
  | none => rw [q] at h; exact absurd rfl h
  | some N =>
    have := List.find?_some q
    exact ⟨digL_len _ _ _, digL_less _ _ _ hn, this⟩
theorem flt_nil {n : Nat} {P : List Int → Bool} : fltL n P = [] ↔ ∀ N, N < n * n * n → P (digL n 3 N) = false := by
  constructor
  · intro h N hN
    cases c : P (digL n 3 N) with
    | false => rfl
    | true =>
      exfalso
      unfold fltL at h
      cases q : (List.range (n * n * n)).find? (fun N => P (digL n 3 N)) with
      | none =>
        rw [List.find?_eq_none] at q
        exact q N (List.mem_range.2 hN) c
      | some K =>
        rw [q] at h
        have := congrArg List.length h
        rw [digL_len] at this; simp at this
  · exact fltL_none
theorem rk_121 {n : Nat} {t M : List (List Int)} {m : Int} {x y z : Nat} (hx : x < n) (hy : y < n) (hz : z < n) (hs : Sq n t) :
    wtS n t (cstL n) M m [1, 2, 1] [(x : Int), (y : Int), (z : Int)] = ((tv M x y : Nat) : Int) + ((tv M x z : Nat) : Int) + ((tv M (tv t x y) (tv t x z) : Nat) : Int) := by
  have e1 : ∀ l, stepL n t (cstL n) 1 l = doF t (cstL n) 0 l := fun l => stepL_one 0 l
  have e2 : ∀ l, stepL n t (cstL n) 2 l = doF t (cstL n) 1 l := fun l => stepL_one 1 l
  have p1 : (plc 1).toNat = 0 := by decide
  have p2 : (plc 2).toNat = 1 := by decide
  rw [wtS_cons, wtS_cons, wtS_one, e1, e2]
  unfold wtT
  rw [p1, p2]
  simp [doF, tv_cst hx hy, tv_cst hx hz]
  omega
theorem rk_212 {n : Nat} {t M : List (List Int)} {m : Int} {x y z : Nat} (hx : x < n) (hy : y < n) (hz : z < n) (hs : Sq n t) :
    wtS n t (cstL n) M m [2, 1, 2] [(x : Int), (y : Int), (z : Int)] = ((tv M y z : Nat) : Int) + ((tv M x (tv t y z) : Nat) : Int) + ((tv M x y : Nat) : Int) := by
  have e1 : ∀ l, stepL n t (cstL n) 1 l = doF t (cstL n) 0 l := fun l => stepL_one 0 l
  have e2 : ∀ l, stepL n t (cstL n) 2 l = doF t (cstL n) 1 l := fun l => stepL_one 1 l
  have p1 : (plc 1).toNat = 0 := by decide
  have p2 : (plc 2).toNat = 1 := by decide
  have l1 := hs.lt hy hz
  rw [wtS_cons, wtS_cons, wtS_one, e1, e2]
  unfold wtT
  rw [p1, p2]
  simp [doF, tv_cst hy hz, tv_cst hx l1]
  omega
theorem rc_eq {n : Nat} {t M : List (List Int)} {m : Int} (hm : 1 ≤ m) (hn : 1 ≤ n) (hs : Sq n t) : rcOk n t m M = decide (wtFlt n t (cstL n) M m = []) := by
  have key : ∀ x y z, x < n → y < n → z < n → (wtBad n t (cstL n) M m [(x : Int), (y : Int), (z : Int)] = !rcAt t m M x y z) := fun x y z hx hy hz => by
    unfold wtBad wtF rcAt
    rw [rk_121 hx hy hz hs, rk_212 hx hy hz hs]
    congr 1
    rw [decide_eq_decide]
    generalize ((tv M x y : Nat) : Int) = a
    generalize ((tv M x z : Nat) : Int) = b
    generalize ((tv M (tv t x y) (tv t x z) : Nat) : Int) = c
    generalize ((tv M y z : Nat) : Int) = d
    generalize ((tv M x (tv t y z) : Nat) : Int) = e
    constructor
    · intro q
      have := Int.emod_eq_emod_iff_emod_sub_eq_zero.1 q.symm
      refine Int.tmod_eq_zero_of_dvd (Int.dvd_of_emod_eq_zero ?_)
      rw [← this]; congr 1; omega
    · intro q
      have q' : (d + e - b - c) % m = 0 := Int.emod_eq_zero_of_dvd (Int.dvd_of_tmod_eq_zero q)
      have : (d + e + a - (a + b + c)) % m = 0 := by rw [← q']; congr 1; omega
      exact (Int.emod_eq_emod_iff_emod_sub_eq_zero.2 this).symm
  rw [Bool.eq_iff_iff, decide_eq_true_iff]
  unfold wtFlt
  rw [flt_nil]
  constructor
  · intro h N hN
    rw [digL_three n N hN, key _ _ _ (by
      rw [Nat.div_div_eq_div_mul]; exact Nat.div_lt_of_lt_mul (by simpa [Nat.mul_comm, Nat.mul_left_comm] using hN)) (Nat.mod_lt _ (by omega)) (Nat.mod_lt _ (by omega))]
    have := allN_get (allN_get (allN_get h (k := N / n / n) (by rw [Nat.div_div_eq_div_mul]; exact Nat.div_lt_of_lt_mul (by simpa [Nat.mul_comm, Nat.mul_left_comm] using hN))) (k := N / n % n) (Nat.mod_lt _ (by omega))) (k := N % n) (Nat.mod_lt _ (by omega))
    rw [this]; rfl
  · intro h
    refine allN_mk fun x hx => allN_mk fun y hy => allN_mk fun z hz => ?_
    have := h (tri n x y z) (tri_lt hx hy hz)
    rw [tri_three hx hy hz, key x y z hx hy hz] at this
    simpa using this
section
variable {f g M : List (List Int)} {m : Int}
theorem wq_bound (h1 : isSol f g = true) (h3 : isMx f.length m M = true) {gs : List Int} (hg : rowOk f.length m gs = true) :
    bouF f g m gs = (bndL f.length m f g gs, 0) ∧ addMF m M (bndL f.length m f g gs) = (tabF f.length (addE m M (bndL f.length m f g gs)), 0) ∧ iswF f g m (bndL f.length m f g gs) = (true, 0) ∧ iswF f g m (tabF f.length (addE m M (bndL f.length m f g gs))) = (decide (wtFlt f.length f g M m = []), 0) := by
  obtain ⟨n1, n12, sf, sg⟩ := isSol_sq h1
  have hc := isSol_coll h1
  obtain ⟨hm, hsq⟩ := isMx_sq h3
  have hr : rngB 1 12 m = true := by unfold rngB; simp; omega
  have hbm : isMx f.length m (bndL f.length m f g gs) = true := bnd_mx hm f g gs
  have ham : isMx f.length m (tabF f.length (addE m M (bndL f.length m f g gs))) = true := add_mx hm M _
  have hfl := add_flt gs (by omega) n1 sf sg hc (ybE_of h1) hsq
  have hbf := bnd_flt (m := m) gs (by omega) n1 sf sg hc (ybE_of h1)
  refine ⟨bouF_ok h1 hr hg, ?_, ?_, ?_⟩
  · unfold addMF
    have hml : M.length = f.length := hsq.1
    rw [hml, h3, hbm]
    have : rngB 1 12 (f.length : Int) = true := by unfold rngB; simp; omega
    rw [this]; rfl
  · unfold iswF
    rw [if_pos h1, if_pos hbm, hbf]; rfl
  · unfold iswF
    rw [if_pos h1, if_pos ham, hfl]
theorem wq_fault (h1 : isSol f g = true) (h3 : isMx f.length m M = true) (h : ¬ wtFlt f.length f g M m = []) :
    (wtFlt f.length f g M m).length = 3 ∧ Less f.length (wtFlt f.length f g M m) ∧ ∃ A B, A ≠ B ∧ wotF f g m M 3 [1, 2, 1] (wtFlt f.length f g M m) = (A, 0) ∧ wotF f g m M 3 [2, 1, 2] (wtFlt f.length f g M m) = (B, 0) := by
  obtain ⟨n1, n12, sf, sg⟩ := isSol_sq h1
  obtain ⟨l3, le, hb⟩ := flt_is n1 h
  have l3' : (wtFlt f.length f g M m).length = 3 := l3
  have le' : Less f.length (wtFlt f.length f g M m) := le
  have b1 : isBr ((3 : Nat) : Int) [1, 2, 1] = true := (by decide +kernel : isBr 3 [1, 2, 1] = true)
  have b2 : isBr ((3 : Nat) : Int) [2, 1, 2] = true := (by decide +kernel : isBr 3 [2, 1, 2] = true)
  refine ⟨l3', le', _, _, ?_, wot_ok h1 b1 h3 l3' le', wot_ok h1 b2 h3 l3' le'⟩
  have hb' : wtBad f.length f g M m (wtFlt f.length f g M m) = true := hb
  unfold wtBad at hb'
  simpa using hb'
theorem wq_facts (f g : List (List Int)) (m : Int) (M : List (List Int)) : (∃ k, k ≠ 0 ∧ iswF f g m M = (false, k) ∧ wtfF f g m M = ([], k)) ∨
    isSol f g = true ∧ isMx f.length m M = true ∧ iswF f g m M = (decide (wtFlt f.length f g M m = []), 0) ∧ wtfF f g m M = wtfP f.length f g M m := by
  unfold iswF wtfF
  cases h1 : isSol f g with
  | false => exact .inl ⟨1, by decide, rfl, rfl⟩
  | true =>
    cases h2 : isMx f.length m M with
    | false => exact .inl ⟨2, by decide, rfl, rfl⟩
    | true => exact .inr ⟨rfl, rfl, rfl, rfl⟩
theorem iq_facts (t : List (List Int)) (m : Int) (M : List (List Int)) : (∃ k, k ≠ 0 ∧ iqF t m M = (false, k)) ∨
    isRk t = true ∧ isMx t.length m M = true ∧ iqF t m M = (qwOk t m M, 0) ∧ iswF t (cstL t.length) m M = (rcOk t.length t m M, 0) ∧ (qwOk t m M = true → rcOk t.length t m M = true) := by
  cases h1 : isRk t with
  | false => exact .inl ⟨1, by decide, iqF_0 h1⟩
  | true =>
    cases h2 : isMx t.length m M with
    | false => exact .inl ⟨2, by decide, iqF_1 h1 h2⟩
    | true =>
      obtain ⟨n1, n12, hs, _⟩ := isSol_sq (rk_isSol h1)
      have hm := (isMx_sq h2).1
      have hrc := rc_eq (M := M) hm.1 n1 hs
      refine .inr ⟨rfl, rfl, iqF_2 h1 h2, ?_, fun q => ?_⟩
      · unfold iswF
        rw [if_pos (rk_isSol h1), if_pos h2, hrc]
      · unfold qwOk at q
        rw [Bool.and_eq_true, Bool.and_eq_true] at q
        rw [hrc]; exact q.2.2
end
end Go.Proofs.YtpdgpgbgakinlaaGreat

namespace Go.Proofs.YtpdgpgbgakinlaaGreat
set_option maxRecDepth 100000
set_option linter.unusedVariables false
set_option linter.unusedSimpArgs false
open Go.RowKit
set_option maxHeartbeats 4000000 in
theorem isRackCocycle_any (a : Option Addr) (n c : Nat) (t : List (List Int)) (m : Int) (am : Option Addr) (cm : Nat) (M : List (List Int)) (w : World) (h1 : Tbl w a n t) (hn1 : 1 ≤ n) (hn : n ≤ 12) (hf : Sq n t) (hmm : 1 ≤ m ∧ m ≤ 12) (hM : SqM n m.toNat M) (h5 : Tbl w am n M) :
    Calls Tryz.prog 75 #[.slice a n c, .int .i64 m, .slice am n cm] w fun e w' => e = .returned (.bool (rcOk n t m M)) ∧ Below w.heap.size w w' := by
  obtain ⟨bf, of, A, O, C, rfl, gf⟩ := h1.grid hf hn1
  obtain ⟨bM, oM, AM, OM, CM, rfl, gM⟩ := h5.gridM hM hn1
  have HM := Lib.hid hM
  have p0 : ¬ m = 0 := by omega
  have p0b : (m == 0) = false := by simpa using p0
  clear h1 h5 hM
  go_enter Tryz.func75, Tryz.ntmps75
  go_wp2
  go_loopw [15] (fun i wr => ∃ k : Nat, k ≤ n ∧ i = .int .i64 k ∧ Hid (allN k (fun x => allN n fun y => allN n fun z => rcAt t m M x y z) = true) ∧ ∃ m, wr = w.drewN m) (fun i _ => n - (intOf i).toNat)
  case atStart => exact ⟨0, Nat.zero_le _, rfl, Lib.hid rfl, 0, rfl⟩
  case round =>
    obtain ⟨x, hx, rfl, hx1, m1, rfl⟩ := hrel
    by_cases hlt : x < n
    · obtain ⟨rx, _⟩ := gf.look hlt hlt
      have ix : (0 : Int) ≤ (x : Int) := by omega
      have ix2 : (x : Int) < (n : Int) := by omega
      go_wp2
      go_loopw [23] (fun i wr => ∃ k : Nat, k ≤ n ∧ i = .int .i64 k ∧ Hid (allN k (fun y => allN n fun z => rcAt t m M x y z) = true) ∧ ∃ m, wr = w.drewN m) (fun i _ => n - (intOf i).toNat)
      case atStart => exact ⟨0, Nat.zero_le _, rfl, Lib.hid rfl, m1, rfl⟩
      case round =>
        obtain ⟨y, hy, rfl, hy1, m2, rfl⟩ := hrel
        by_cases hlty : y < n
        · have k3 := gf.cell _ _ hlt hlty
          have l2 := hf.lt hlt hlty
          obtain ⟨ry, _⟩ := gf.look hlty hlty
          have iy : (0 : Int) ≤ (y : Int) := by omega
          have iy2 : (y : Int) < (n : Int) := by omega
          go_wp2
          go_loopw [33] (fun i wr => ∃ k : Nat, k ≤ n ∧ i = .int .i64 k ∧ Hid (allN k (fun z => rcAt t m M x y z) = true) ∧ ∃ m, wr = w.drewN m) (fun i _ => n - (intOf i).toNat)
          case atStart => exact ⟨0, Nat.zero_le _, rfl, Lib.hid rfl, m2, rfl⟩
          case round =>
            obtain ⟨z, hz, rfl, hz1, m3, rfl⟩ := hrel
            by_cases hltz : z < n
            · have l1 := hf.lt hlty hltz
              have l3 := hf.lt hlt hltz
              have k1 := gf.cell _ _ hlty hltz
              have k4 := gf.cell _ _ hlt hltz
              obtain ⟨r5, k5⟩ := gM.look hlty hltz
              obtain ⟨r6, k6⟩ := gM.look hlt l1
              have k7 := gM.cell _ _ hlt hltz
              obtain ⟨r8, k8⟩ := gM.look l2 l3
              have hE : rcAt t m M x y z = decide ((((tv M y z : Nat) : Int) + ((tv M x (tv t y z) : Nat) : Int) - ((tv M x z : Nat) : Int) - ((tv M (tv t x y) (tv t x z) : Nat) : Int)).tmod m = 0) := rfl
              have b1 := ((HM.out.2 y hlty).2 z hltz).1
              have b2 := ((HM.out.2 x hlt).2 _ l1).1
              have b3 := ((HM.out.2 x hlt).2 z hltz).1
              have b4 := ((HM.out.2 _ l2).2 _ l3).1
              generalize tv M x (tv t y z) = Q at *
              generalize tv t y z = q1 at *
              generalize tv M (tv t x y) (tv t x z) = S at *
              generalize tv t x y = q2 at *
              generalize tv t x z = q3 at *
              generalize tv M y z = P at *
              generalize tv M x z = R at *
              have HE := Lib.hid hE
              have e1 : IntKind.i64.wrap ((P : Int) + (Q : Int)) = (P : Int) + (Q : Int) := IntWalk.i64_in _ (by omega)
              have e2 : IntKind.i64.wrap ((P : Int) + (Q : Int) - (R : Int)) = (P : Int) + (Q : Int) - (R : Int) := IntWalk.i64_in _ (by omega)
              have e3 : IntKind.i64.wrap ((P : Int) + (Q : Int) - (R : Int) - (S : Int)) = (P : Int) + (Q : Int) - (R : Int) - (S : Int) := IntWalk.i64_in _ (by omega)
              have iz : (0 : Int) ≤ (z : Int) := by omega
              have iz2 : (z : Int) < (n : Int) := by omega
              have i1 : (0 : Int) ≤ (q1 : Int) := by omega
              have i12 : (q1 : Int) < (n : Int) := by omega
              have i2 : (0 : Int) ≤ (q2 : Int) := by omega
              have i22 : (q2 : Int) < (n : Int) := by omega
              have i3 : (0 : Int) ≤ (q3 : Int) := by omega
              have i32 : (q3 : Int) < (n : Int) := by omega
              clear hE gf hf gM b1 b2 b3 b4
              obtain ⟨Z, hZ⟩ : ∃ Z, ((P : Int) + (Q : Int) - (R : Int) - (S : Int)).tmod m = Z := ⟨_, rfl⟩
              rw [hZ] at HE
              by_cases p1 : Z = 0
              · have u1 : (Z != 0) = false := by simp [p1]
                have HE2 : Hid (rcAt t m M x y z = true) := Lib.hid (by rw [HE.out]; simp [p1])
                clear p1
                go_wp2
                go_quiet (fail)
                go_wp2
                go_roundw
                case rel => exact ⟨z + 1, by omega, by go_num, Lib.hid (allN_succ hz1.out HE2.out), _, rfl⟩
                case measure => simp [intOf]; omega
              · have u1 : (Z != 0) = true := by simp [p1]
                have HE2 : Hid (rcAt t m M x y z = false) := Lib.hid (by rw [HE.out]; simp [p1])
                clear p1
                go_wp2
                go_quiet (fail)
                go_wp2
                go_ret
                exact ⟨ret_bool (allN_no hlt (allN_no hlty (allN_no hltz HE2.out))).symm, below_drewN (below_drewN (Below.refl _ _) _) _⟩
            · obtain rfl : z = n := by omega
              go_wp2
              go_roundw
              case rel => exact ⟨y + 1, by omega, by go_num, Lib.hid (allN_succ hy1.out hz1.out), _, rfl⟩
              case measure => simp [intOf]; omega
        · obtain rfl : y = n := by omega
          go_wp2
          go_roundw
          case rel => exact ⟨x + 1, by omega, by go_num, Lib.hid (allN_succ hx1.out hy1.out), _, rfl⟩
          case measure => simp [intOf]; omega
    · obtain rfl : x = n := by omega
      have HX := Lib.hid hx1.out
      go_wp2
      go_ret
      exact ⟨ret_bool HX.out.symm, below_drewN (Below.refl _ _) _⟩
set_option maxHeartbeats 1000000 in
theorem impl_Rcc_ok (a : Option Addr) (n c : Nat) (t : List (List Int)) (m : Int) (am : Option Addr) (nm cm : Nat) (M : List (List Int)) (w : World) (h : Tbl w a n t) (hn : n ≤ 9223372036854775807) (h5 : Tbl w am nm M) (hnm : nm ≤ 9223372036854775807) (q1 : isRk t = true) (q2 : isMx t.length m M = true) :
    Calls Tryz.prog 32 #[rAgg a n c, .int .i64 m, .slice am nm cm] w fun e w' => e = .returned (.tuple #[.bool (rcOk t.length t m M), .int .i64 0]) ∧ Below w.heap.size w w' := by
  obtain ⟨t1, t12, hsq, _⟩ := isSol_sq (rk_isSol q1)
  obtain ⟨hmm, hM⟩ := isMx_sq q2
  have hl := h.len
  have hlm : nm = n := by rw [h5.len, hM.1, ← hl]
  subst hlm
  have e1 : isMx (nm : Int) m M = true := by rw [hl]; exact q2
  rw [← hl] at t1 t12 hsq hM
  rw [← hl]
  have HSQ := Lib.hid hsq; have HM := Lib.hid hM; have H1 := Lib.hid q1; have H2 := Lib.hid e1
  have hA := Loc.new w rfl #[.slice a nm c] 45
  have hB := below_al (Below.refl w.heap.size w) (.cells #[.slice a nm c] 45)
  clear q1 q2 hsq hM hl e1
  go_enter Tryz.func32, Tryz.ntmps32
  go_wp2_with fail
  generalize w.alloc (.cells #[.slice a nm c] 45) = w0 at *
  have lA := hA.one
  refine (isRack_any _ _ _ t _ (h.below hB) hn).mono ?_
  rintro e w1 ⟨rfl, hb1⟩
  rw [H1.out]
  replace hB := below_th hB hb1; replace hA := hA.below hb1 hA.lt; replace lA := hA.one
  clear hb1
  go_wp2_with fail
  refine (isMatrix_any nm m am nm cm M _ (h5.below hB) hnm).mono ?_
  rintro e w2 ⟨rfl, hb2⟩
  rw [H2.out]
  replace hB := below_th hB hb2; replace hA := hA.below hb2 hA.lt; replace lA := hA.one
  clear hb2
  go_wp2_with fail
  refine (isRackCocycle_any a nm c t m am cm M _ (h.below hB) t1 t12 HSQ.out hmm HM.out (h5.below hB)).mono ?_
  rintro e w3 ⟨rfl, hb3⟩
  replace hB := below_th hB hb3
  go_wp2
  go_ret2
  exact ⟨rfl, hB⟩
end Go.Proofs.YtpdgpgbgakinlaaGreat
