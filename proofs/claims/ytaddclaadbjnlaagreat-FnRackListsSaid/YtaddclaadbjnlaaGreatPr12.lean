/-
  Walks and plain laws of this seat, some texts in one.
  No condition but bounds on lengths.
-/
import Derived.Test.YtaddclaadbjnlaaGreatPr7
import Derived.Test.YtaddclaadbjnlaaGreatPr11
import Derived.Test.YtaddclaadbjnlaaGreatPr6
import Derived.Test.YtaddclaadbjnlaaGreatPr3
import Derived.Test.YtaddclaadbjnlaaGreatPr2
namespace Go.Proofs.YtaddclaadbjnlaaGreat
set_option maxRecDepth 100000
set_option linter.unusedVariables false
set_option linter.unusedSimpArgs false
open Go.RowKit
def FltN (ok : Bool) (W : World) (e : Ending) (w' : World) : Prop := ((ok = true ∧ e = .returned (.slice none 0 0)) ∨ (ok = false ∧ ∃ b c, e = .returned (.slice (some ⟨b, 0, none⟩) 3 c))) ∧ Below W.heap.size W w'
set_option maxHeartbeats 2000000 in
theorem isPermuted_any (a : Option Addr) (n c : Nat) (p : List Int) (w : World) (h1 : Row w a n p) (hm : n ≤ 1000000) :
    Calls Tryz.prog 102 #[.slice a n c] w fun e w' => e = .returned (.bool (permOk p)) ∧ Below w.heap.size w w' := by
  have hl := h1.len
  have HL := Lib.hid hl; clear hl
  go_enter Tryz.func102, Tryz.ntmps102
  go_wp2_with (at_make; refine makeBo rfl rfl rfl rfl (by omega) ?_; intro w1 ho hs hb)
  go_loopw [11] (fun i wr => ∃ k : Nat, k ≤ n ∧ i = .int .i64 k ∧ Hid (permTo p k) ∧ OwnBo wr w.heap.size (some ⟨w.heap.size, 0, none⟩) n n (seenL p n k) ∧ Below w.heap.size w wr) (fun i _ => n - (intOf i).toNat)
  case atStart => exact ⟨0, Nat.zero_le _, rfl, Lib.hid ⟨fun i h => absurd h (by omega), fun i j h => absurd h (by omega)⟩, by rw [seenL_zero]; exact ho, hb⟩
  case round =>
    clear ho hb
    obtain ⟨k, hk, rfl, hp, ho, hb⟩ := hrel
    by_cases hlt : k < n
    · have hr := h1.below hb
      obtain ⟨b, off, rfl, g1⟩ := hr.at k hlt
      have hx : k < p.length := by have := HL.out; omega
      have hpk : p.getD k 0 = p[k] := by simp [List.getD_eq_getElem?_getD, List.getElem?_eq_getElem hx]
      have wn : IntKind.i64.wrap ((n : Int) - 1) = (n : Int) - 1 := IntWalk.i64_in _ (by omega)
      cases hv : rngB 0 ((n : Int) - 1) (p.getD k 0) with
      | false =>
        have HC := Lib.hid (fun w => within_b (p.getD k 0) 0 ((n : Int) - 1) false hv w)
        have hno : permOk p = false := permOk_out hx (by have h := rngB_f hv; have := HL.out; omega)
        have HN := Lib.hid hno
        clear hv hno hpk
        generalize p.getD k 0 = V at *
        go_wp2_with fail
        refine (HC.out _).mono ?_
        rintro e w2 ⟨rfl, rfl⟩
        go_wp2
        go_ret
        exact ⟨ret_bool HN.out.symm, hb⟩
      | true =>
        have HC := Lib.hid (fun w => within_b (p.getD k 0) 0 ((n : Int) - 1) true hv w)
        have hin : 0 ≤ p.getD k 0 ∧ p.getD k 0 < p.length := by have h := rngB_t hv; have := HL.out; omega
        obtain ⟨X, hX⟩ : ∃ X : Nat, p.getD k 0 = X := ⟨(p.getD k 0).toNat, by omega⟩
        have hXn : X < n := by have := HL.out; omega
        obtain ⟨_, hc, hf⟩ := ho.cells
        have hc1 := hc X hXn
        have hf1 := hf X
        rw [seenL_get p n k X hXn] at hc1
        have HIN := Lib.hid hin
        rw [hX] at g1 HC
        clear hc hf hv hin
        cases hs : (p.take k).contains (X : Int) with
        | true =>
          rw [hs] at hc1
          obtain ⟨i, hi, e⟩ := seen_mem hs (by omega)
          have HN : Hid (permOk p = false) := Lib.hid (permOk_twice hx hi (by rw [e, hX]))
          clear hs e hX hpk
          go_wp2_with fail
          refine (HC.out _).mono ?_
          rintro e w2 ⟨rfl, rfl⟩
          go_wp2
          go_ret
          exact ⟨ret_bool HN.out.symm, hb⟩
        | false =>
          rw [hs] at hc1
          have HT : Hid (permTo p (k + 1)) := Lib.hid (permTo_succ hp.out HIN.out (by rw [hX]; exact not_seen hs (by omega)))
          have HSE : Hid ((seenL p n k).set X true = seenL p n (k + 1)) := Lib.hid (seenL_succ p n k X hx hXn (by rw [← hpk, hX]))
          clear hs hX hpk
          go_wp2_with fail
          refine (HC.out _).mono ?_
          rintro e w2 ⟨rfl, rfl⟩
          go_wp2
          go_roundw
          case rel => exact ⟨k + 1, by omega, by go_num, HT, by rw [← HSE.out]; exact ho.set X true, hb.setCell (by simp) _⟩
          case measure => simp [intOf]; omega
    · obtain rfl : k = n := by omega
      have HP : Hid (permOk p = true) := Lib.hid (permTo_ok (by rw [← HL.out]; exact hp.out))
      go_wp2
      go_ret
      exact ⟨ret_bool HP.out.symm, hb⟩
theorem permRows1_any (a : Option Addr) (n c : Nat) (p : List Int) (w : World) (h1 : Row w a n p) (hm : n ≤ 1000000) :
    Calls Tryz.prog 101 #[.slice a n c] w fun e w' => e = .returned (.bool (!permOk p)) ∧ Below w.heap.size w w' := by
  go_enter Tryz.func101, Tryz.ntmps101
  go_wp2_with fail
  refine (isPermuted_any _ _ _ p _ h1 hm).mono ?_
  rintro e w1 ⟨rfl, hb⟩
  go_wp2
  go_ret
  exact ⟨rfl, hb⟩
theorem ent_permRows1 : Ent 101 := fun _ _ => rfl
set_option maxHeartbeats 1000000 in
theorem permutationRows_any (a : Option Addr) (n c : Nat) (t : List (List Int)) (w : World) (h1 : Tbl w a n t) (hm : n ≤ 9223372036854775807) (hx : ∀ x ∈ t, x.length ≤ 1000000) :
    Calls Tryz.prog 54 #[.slice a n c] w fun e w' => e = .returned (.bool (t.all permOk)) ∧ Below w.heap.size w w' := by
  have hcl : ∀ x ∈ t, ∀ w1, Below w.heap.size w w1 → ∀ a' n' c', Row w1 a' n' x → n' ≤ 9223372036854775807 → Calls Tryz.prog 101 (#[.slice a' n' c'] ++ #[]) w1 fun e w' => e = .returned (.bool (!permOk x)) ∧ Below w.heap.size w w' := fun x hxm w1 hb a' n' c' hr _ =>
    (permRows1_any a' n' c' x w1 hr (by have := hx x hxm; have := hr.len; omega)).mono fun e w' ⟨he, hb'⟩ => ⟨he, below_th hb hb'⟩
  have HCL := Lib.hid hcl; clear hcl
  go_enter Tryz.func54, Tryz.ntmps54
  go_wp2_with fail
  refine (containsFunc_rows (fun w1 => Below w.heap.size w w1) 101 #[] (fun x => !permOk x) _ _ _ t _ (Below.refl _ _) (fun w1 h => h1.below h) hm ent_permRows1 HCL.out).mono ?_
  rintro e w1 ⟨rfl, hb⟩
  go_wp2
  go_ret
  exact ⟨ret_bool (by simp [List.any_eq_not_all_not]), hb⟩
set_option maxHeartbeats 4000000 in
theorem rackFault_any (a : Option Addr) (n c : Nat) (t : List (List Int)) (w : World) (h1 : Tbl w a n t) (hn1 : 1 ≤ n) (hn : n ≤ 12) (hf : Sq n t) :
    Calls Tryz.prog 55 #[.slice a n c] w (FltN (rkOk n t) w) := by
  obtain ⟨bf, of, A, O, C, rfl, gf⟩ := h1.grid hf hn1
  clear h1
  go_enter Tryz.func55, Tryz.ntmps55
  go_wp2
  go_loopw [10] (fun i wr => ∃ k : Nat, k ≤ n ∧ i = .int .i64 k ∧ Hid (allN k (fun x => allN n fun y => allN n fun z => rkAt t x y z) = true) ∧ ∃ m, wr = w.drewN m) (fun i _ => n - (intOf i).toNat)
  case atStart => exact ⟨0, Nat.zero_le _, rfl, Lib.hid rfl, 0, rfl⟩
  case round =>
    obtain ⟨x, hx, rfl, hx1, m1, rfl⟩ := hrel
    by_cases hlt : x < n
    · go_wp2
      go_loopw [14] (fun i wr => ∃ k : Nat, k ≤ n ∧ i = .int .i64 k ∧ Hid (allN k (fun y => allN n fun z => rkAt t x y z) = true) ∧ ∃ m, wr = w.drewN m) (fun i _ => n - (intOf i).toNat)
      case atStart => exact ⟨0, Nat.zero_le _, rfl, Lib.hid rfl, m1, rfl⟩
      case round =>
        obtain ⟨y, hy, rfl, hy1, m2, rfl⟩ := hrel
        by_cases hlty : y < n
        · go_wp2
          go_loopw [18] (fun i wr => ∃ k : Nat, k ≤ n ∧ i = .int .i64 k ∧ Hid (allN k (fun z => rkAt t x y z) = true) ∧ ∃ m, wr = w.drewN m) (fun i _ => n - (intOf i).toNat)
          case atStart => exact ⟨0, Nat.zero_le _, rfl, Lib.hid rfl, m2, rfl⟩
          case round =>
            obtain ⟨z, hz, rfl, hz1, m3, rfl⟩ := hrel
            by_cases hltz : z < n
            · have l1 := hf.lt hlty hltz
              have l2 := hf.lt hlt hlty
              have l3 := hf.lt hlt hltz
              obtain ⟨r1, k1⟩ := gf.look hlty hltz
              obtain ⟨r2, k2⟩ := gf.look hlt l1
              have k3 := gf.cell _ _ hlt hlty
              have k4 := gf.cell _ _ hlt hltz
              obtain ⟨r5, k5⟩ := gf.look l2 l3
              have hE : rkAt t x y z = decide (tv t x (tv t y z) = tv t (tv t x y) (tv t x z)) := rfl
              generalize tv t y z = q1 at *
              generalize tv t x y = q2 at *
              generalize tv t x z = q3 at *
              generalize tv t x q1 = A1 at *
              generalize tv t q2 q3 = A2 at *
              have HE := Lib.hid hE
              clear hE gf hf
              by_cases p1 : A1 = A2
              · have u1 : ((A1 : Int) != (A2 : Int)) = false := by simp [p1]
                have HE2 : Hid (rkAt t x y z = true) := Lib.hid (by rw [HE.out]; simp [p1])
                clear p1
                go_wp2
                go_quiet (fail)
                go_wp2
                go_roundw
                case rel => exact ⟨z + 1, by omega, by go_num, Lib.hid (allN_succ hz1.out HE2.out), _, rfl⟩
                case measure => simp [intOf]; omega
              · have u1 : ((A1 : Int) != (A2 : Int)) = true := by simp; omega
                have HE2 : Hid (rkAt t x y z = false) := Lib.hid (by rw [HE.out]; simp [p1])
                clear p1
                go_wp2
                go_quiet (fail)
                go_wp2
                go_ret
                exact ⟨.inr ⟨allN_no hlt (allN_no hlty (allN_no hltz HE2.out)), _, _, rfl⟩, below_al (below_drewN (Below.refl _ _) _) _⟩
            · obtain rfl : z = n := by omega
              go_wp2
              go_roundw
              case rel => exact ⟨y + 1, by omega, by go_num, Lib.hid (allN_succ hy1.out hz1.out), _, rfl⟩
              case measure => simp [intOf]; omega
        · obtain rfl : y = n := by omega
          go_wp2
          go_roundw
          case rel => exact ⟨x + 1, by omega, by go_num, Lib.hid (allN_succ hx1.out hy1.out), _, rfl⟩
          case measure => simp [intOf]; omega
    · obtain rfl : x = n := by omega
      go_wp2
      go_ret
      exact ⟨.inl ⟨hx1.out, rfl⟩, below_drewN (Below.refl _ _) _⟩
theorem isRk_no {t : List (List Int)} (h : isTab t = false) : isRk t = false := by unfold isRk; rw [h]; rfl
set_option maxHeartbeats 1000000 in
theorem isRack_any (a : Option Addr) (n c : Nat) (t : List (List Int)) (w : World) (h1 : Tbl w a n t) (hm : n ≤ 9223372036854775807) :
    Calls Tryz.prog 14 #[rAgg a n c] w fun e w' => e = .returned (.bool (isRk t)) ∧ Below w.heap.size w w' := by
  have hA := Loc.new w rfl #[.slice a n c] 34
  cases hf : isTab t with
  | false =>
    have HQ : Hid (isRk t = false) := Lib.hid (isRk_no hf)
    have HF := Lib.hid hf; clear hf
    go_enter Tryz.func14, Tryz.ntmps14
    go_wp2_with fail
    refine (isTable_any _ _ _ _ _ (h1.alloc _) hm).mono ?_
    rintro e w1 ⟨rfl, hb1⟩
    rw [HF.out]
    go_wp2
    go_ret
    exact ⟨ret_bool HQ.out.symm, below_alth (Below.refl _ _) hb1⟩
  | true =>
    obtain ⟨hn1, hn12, sf⟩ := isTab_sq hf
    have hl := h1.len
    rw [← hl] at hn1 hn12 sf
    have hrow : ∀ x ∈ t, x.length ≤ 1000000 := by
      intro x hx
      obtain ⟨i, hi, e⟩ := List.getElem_of_mem hx
      have := sf.row (x := i) (by omega)
      rw [Tbl.getD hi, e] at this
      omega
    have HR := Lib.hid hrow
    have HQ : Hid (isRk t = (t.all permOk && rkOk n t)) := Lib.hid (by unfold isRk; rw [hf, ← hl]; rfl)
    have HF := Lib.hid hf; have HSF := Lib.hid sf
    clear hf sf hl hrow
    cases hp : t.all permOk with
    | false =>
      have HP := Lib.hid hp; clear hp
      go_enter Tryz.func14, Tryz.ntmps14
      go_wp2_with fail
      refine (isTable_any _ _ _ _ _ (h1.alloc _) hm).mono ?_
      rintro e w1 ⟨rfl, hb1⟩
      rw [HF.out]
      have lA := (hA.below hb1 (by simp)).one
      go_wp2_with fail
      refine (permutationRows_any _ _ _ t _ ((h1.alloc _).below hb1) hm HR.out).mono ?_
      rintro e w2 ⟨rfl, hb2⟩
      rw [HP.out]
      go_wp2
      go_ret
      exact ⟨ret_bool (by rw [HQ.out, HP.out]; rfl), below_th (below_alth (Below.refl _ _) hb1) hb2⟩
    | true =>
      have HP := Lib.hid hp; clear hp
      have nn := fun (w : World) (a : Option Addr) (n c : Nat) => Lib.run_eql_slice_nil (P := Tryz.prog) w 41 2 a n c 0 0 und_ints
      go_enter Tryz.func14, Tryz.ntmps14
      go_wp2_with fail
      refine (isTable_any _ _ _ _ _ (h1.alloc _) hm).mono ?_
      rintro e w1 ⟨rfl, hb1⟩
      rw [HF.out]
      have hA1 := hA.below hb1 (by simp)
      have lA := hA1.one
      have hB1 := below_alth (Below.refl _ _) hb1
      have t1 := (h1.alloc _).below hb1
      clear hb1
      go_wp2_with fail
      refine (permutationRows_any _ _ _ t _ t1 hm HR.out).mono ?_
      rintro e w2 ⟨rfl, hb2⟩
      rw [HP.out]
      have lA2 := (hA1.below hb2 hA1.lt).one
      go_wp2_with fail
      refine (rackFault_any _ _ _ t _ (t1.below hb2) hn1 hn12 HSF.out).mono ?_
      rintro e w3 ⟨he, hb3⟩
      rcases he with ⟨hc, rfl⟩ | ⟨hc, b, k, rfl⟩
      · have HD := Lib.hid hc; clear hc
        go_wp2
        go_ret
        exact ⟨ret_bool (by rw [HQ.out, HP.out, HD.out]; rfl), below_th (below_th hB1 hb2) hb3⟩
      · have HD := Lib.hid hc; clear hc
        go_wp2
        go_ret
        exact ⟨ret_bool (by rw [HQ.out, HP.out, HD.out]; rfl), below_th (below_th hB1 hb2) hb3⟩
end Go.Proofs.YtaddclaadbjnlaaGreat

namespace Go.Proofs.YtaddclaadbjnlaaGreat
set_option maxRecDepth 100000
set_option linter.unusedVariables false
set_option linter.unusedSimpArgs false
open Go.RowKit
theorem rowOk_len {n m : Int} {xs : List Int} (h : (xs.length : Int) ≠ n) : rowOk n m xs = false := by unfold rowOk; simp [h]
theorem rowOk_mk {n m : Int} {xs : List Int} (h : (xs.length : Int) = n) : rowOk n m xs = xs.all (rngB 0 (m - 1)) := by unfold rowOk; simp [h]
set_option maxHeartbeats 2000000 in
theorem l01Table_any (a : Option Addr) (n c : Nat) (t : List (List Int)) (w : World) (h1 : Tbl w a n t) (hm : n ≤ 9223372036854775807) :
    Calls Tryz.prog 105 #[.slice a n c] w fun e w' => e = .returned (.bool (isTab t)) ∧ w = w' := by
  have hl := h1.len
  cases hp : rngB 1 12 n with
  | false =>
    have hq : isTab t = false := by unfold isTab; rw [← hl, hp]; rfl
    have HQ := Lib.hid hq
    have HC := Lib.hid (fun w => l01In_b n 1 12 false hp w); clear hp hl hq
    go_enter Tryz.func105, Tryz.ntmps105
    go_wp2_with fail
    refine (HC.out _).mono ?_
    rintro e w' ⟨rfl, rfl⟩
    go_wp2
    go_ret
    exact ⟨ret_bool HQ.out.symm, rfl⟩
  | true =>
    have hn12 : 1 ≤ n ∧ n ≤ 12 := by unfold rngB at hp; simp at hp; omega
    obtain ⟨hn1, hn12⟩ := hn12
    have HC := Lib.hid (fun w => l01In_b n 1 12 true hp w)
    have hq : isTab t = t.all (rowOk n n) := by unfold isTab; rw [← hl, hp]; rfl
    have HQ := Lib.hid hq; have HL := Lib.hid hl; clear hq hl hp
    go_enter Tryz.func105, Tryz.ntmps105
    go_wp2_with fail
    refine (HC.out _).mono ?_
    rintro e w' ⟨rfl, rfl⟩
    go_wp2
    go_loop [4] (fun i => ∃ k : Nat, k ≤ n ∧ i = .int .i64 k ∧ Hid ((t.take k).all (rowOk n n) = true)) (fun i => n - (intOf i).toNat)
    case atStart => exact ⟨0, Nat.zero_le _, rfl, Lib.hid (by simp)⟩
    case round =>
      obtain ⟨k, hk, rfl, hall⟩ := hrel
      by_cases hlt : k < n
      · obtain ⟨b, off, ai, ni, ci, rfl, g1, hri, hni⟩ := h1.at k hlt
        have hx : k < t.length := by have := HL.out; omega
        rw [Tbl.getD hx] at hri
        have hll := hri.len
        by_cases hnn : ni = n
        · subst hnn
          have b1 : ((ni : Int) != (ni : Int)) = false := by simp
          have HR : Hid (rowOk ni ni t[k] = t[k].all (rngB 0 ((ni : Int) - 1))) := Lib.hid (rowOk_mk (by omega))
          have HLL := Lib.hid hll; clear hll
          go_wp2
          go_loop [5] (fun i => ∃ j : Nat, j ≤ ni ∧ i = .int .i64 j ∧ Hid ((t[k].take j).all (rngB 0 ((ni : Int) - 1)) = true)) (fun i => ni - (intOf i).toNat)
          case atStart => exact ⟨0, Nat.zero_le _, rfl, Lib.hid (by simp)⟩
          case round =>
            obtain ⟨j, hj, rfl, hin⟩ := hrel
            by_cases hjt : j < ni
            · obtain ⟨b2, o2, rfl, g2⟩ := hri.at j hjt
              have hy : j < t[k].length := by have := HLL.out; omega
              have e : t[k].getD j 0 = t[k][j] := by simp [List.getD_eq_getElem?_getD, List.getElem?_eq_getElem hy]
              rw [e] at g2
              clear h1 hri e
              cases hv : rngB 0 ((ni : Int) - 1) t[k][j] with
              | true =>
                have HD := Lib.hid (fun w => l01In_b t[k][j] 0 ((ni : Int) - 1) true hv w)
                have HV := Lib.hid hv; clear hv
                generalize t[k][j] = V at g2 HD
                go_wp2_with fail
                refine (HD.out _).mono ?_
                rintro e w' ⟨rfl, rfl⟩
                go_wp2
                go_round
                case rel => exact ⟨j + 1, by omega, by go_num, Lib.hid (all_get_succ hy hin.out HV.out)⟩
                case measure => simp [intOf]; omega
              | false =>
                have HD := Lib.hid (fun w => l01In_b t[k][j] 0 ((ni : Int) - 1) false hv w)
                have HV := Lib.hid hv; clear hv
                generalize t[k][j] = V at g2 HD
                go_wp2_with fail
                refine (HD.out _).mono ?_
                rintro e w' ⟨rfl, rfl⟩
                go_wp2
                go_ret
                exact ⟨ret_bool (by rw [HQ.out]; exact (all_no hx (by rw [HR.out]; exact all_no hy HV.out)).symm), rfl⟩
            · obtain rfl : j = ni := by omega
              have ha := hin.out
              rw [List.take_of_length_le (by have := HLL.out; omega)] at ha
              have HA := Lib.hid ha; clear ha
              go_wp2
              go_round
              case rel => exact ⟨k + 1, by omega, by go_num, Lib.hid (all_get_succ hx hall.out (by rw [HR.out]; exact HA.out))⟩
              case measure => simp [intOf]; omega
        · have b1 : ((ni : Int) != (n : Int)) = true := by simp; omega
          have HN : Hid (rowOk n n t[k] = false) := Lib.hid (rowOk_len (by omega))
          clear hll hnn
          go_wp2
          go_ret
          exact ⟨ret_bool (by rw [HQ.out]; exact (all_no hx HN.out).symm), rfl⟩
      · obtain rfl : k = n := by omega
        have ha := hall.out
        rw [List.take_of_length_le (by have := HL.out; omega)] at ha
        have HA := Lib.hid ha; clear ha
        go_wp2
        go_ret
        exact ⟨ret_bool (by rw [HQ.out]; exact HA.out.symm), rfl⟩
end Go.Proofs.YtaddclaadbjnlaaGreat

namespace Go.Proofs.YtaddclaadbjnlaaGreat
set_option maxRecDepth 100000
set_option linter.unusedVariables false
set_option linter.unusedSimpArgs false
open Go.RowKit
set_option maxHeartbeats 1000000 in
theorem l01Perm_any (a : Option Addr) (n c : Nat) (p : List Int) (w : World) (h1 : Row w a n p) (hm : n ≤ 9223372036854775807) :
    Calls Tryz.prog 106 #[.slice a n c] w fun e w' => e = .returned (.bool (rngB 1 12 n && permOk p)) ∧ w = w' := by
  have hl := h1.len
  cases hv : rngB 1 12 n with
  | false =>
    have HC := Lib.hid (fun w => l01In_b n 1 12 false hv w)
    clear hv hl
    go_enter Tryz.func106, Tryz.ntmps106
    go_wp2_with fail
    refine (HC.out _).mono ?_
    rintro e w2 ⟨rfl, rfl⟩
    go_wp2
    go_ret
    exact ⟨rfl, rfl⟩
  | true =>
    have HC := Lib.hid (fun w => l01In_b n 1 12 true hv w)
    have HQ : Hid (permOk p = allN n fun x : Nat => p.contains (x : Int)) := Lib.hid (by unfold permOk; rw [hl])
    have hn12 : 1 ≤ n ∧ n ≤ 12 := by unfold rngB at hv; simp at hv; omega
    clear hv hl
    go_enter Tryz.func106, Tryz.ntmps106
    go_wp2_with fail
    refine (HC.out _).mono ?_
    rintro e w2 ⟨rfl, rfl⟩
    go_wp2
    go_loop [4] (fun i => ∃ k : Nat, k ≤ n ∧ i = .int .i64 k ∧ Hid (allN k (fun x : Nat => p.contains (x : Int)) = true)) (fun i => n - (intOf i).toNat)
    case atStart => exact ⟨0, Nat.zero_le _, rfl, Lib.hid rfl⟩
    case round =>
      obtain ⟨k, hk, rfl, hI⟩ := hrel
      by_cases hlt : k < n
      · have hcd : decide ((k : Int) ∈ p) = p.contains (k : Int) := by rw [Bool.eq_iff_iff]; simp
        have HH := Lib.hid (l01Has_any a n c p (k : Int) w h1 (by omega))
        cases hc : p.contains (k : Int) with
        | true =>
          rw [hc] at hcd
          have HD := Lib.hid hcd; have HCC := Lib.hid hc
          clear hc hcd
          go_wp2_with fail
          refine HH.out.mono ?_
          rintro e w2 ⟨rfl, rfl⟩
          rw [HD.out]
          go_wp2
          go_round
          case rel => exact ⟨k + 1, by omega, by go_num, Lib.hid (allN_succ hI.out HCC.out)⟩
          case measure => simp [intOf]; omega
        | false =>
          rw [hc] at hcd
          have HD := Lib.hid hcd; have HCC := Lib.hid hc
          clear hc hcd
          go_wp2_with fail
          refine HH.out.mono ?_
          rintro e w2 ⟨rfl, rfl⟩
          rw [HD.out]
          go_wp2
          go_ret
          exact ⟨ret_bool (by rw [HQ.out, allN_no hlt HCC.out]; rfl), rfl⟩
      · obtain rfl : k = n := by omega
        go_wp2
        go_ret
        exact ⟨ret_bool ((congrArg (fun b => true && b) (HQ.out.trans hI.out)).symm), rfl⟩
set_option maxHeartbeats 4000000 in
theorem l03Fault_any (a : Option Addr) (n c : Nat) (t : List (List Int)) (w : World) (h1 : Tbl w a n t) (hn1 : 1 ≤ n) (hn : n ≤ 12) (hf : Sq n t) :
    Calls Tryz.prog 107 #[.slice a n c] w (FltN (rkOk n t) w) := by
  obtain ⟨bf, of, A, O, C, rfl, gf⟩ := h1.grid hf hn1
  clear h1
  go_enter Tryz.func107, Tryz.ntmps107
  go_wp2
  go_loopw [4] (fun i wr => ∃ k : Nat, k ≤ n ∧ i = .int .i64 k ∧ Hid (allN k (fun x => allN n fun y => allN n fun z => rkAt t x y z) = true) ∧ ∃ m, wr = w.drewN m) (fun i _ => n - (intOf i).toNat)
  case atStart => exact ⟨0, Nat.zero_le _, rfl, Lib.hid rfl, 0, rfl⟩
  case round =>
    obtain ⟨x, hx, rfl, hx1, m1, rfl⟩ := hrel
    by_cases hlt : x < n
    · go_wp2
      go_loopw [5] (fun i wr => ∃ k : Nat, k ≤ n ∧ i = .int .i64 k ∧ Hid (allN k (fun y => allN n fun z => rkAt t x y z) = true) ∧ ∃ m, wr = w.drewN m) (fun i _ => n - (intOf i).toNat)
      case atStart => exact ⟨0, Nat.zero_le _, rfl, Lib.hid rfl, m1, rfl⟩
      case round =>
        obtain ⟨y, hy, rfl, hy1, m2, rfl⟩ := hrel
        by_cases hlty : y < n
        · go_wp2
          go_loopw [6] (fun i wr => ∃ k : Nat, k ≤ n ∧ i = .int .i64 k ∧ Hid (allN k (fun z => rkAt t x y z) = true) ∧ ∃ m, wr = w.drewN m) (fun i _ => n - (intOf i).toNat)
          case atStart => exact ⟨0, Nat.zero_le _, rfl, Lib.hid rfl, m2, rfl⟩
          case round =>
            obtain ⟨z, hz, rfl, hz1, m3, rfl⟩ := hrel
            by_cases hltz : z < n
            · have l1 := hf.lt hlty hltz
              have l2 := hf.lt hlt hlty
              have l3 := hf.lt hlt hltz
              obtain ⟨r1, k1⟩ := gf.look hlty hltz
              obtain ⟨r2, k2⟩ := gf.look hlt l1
              have k3 := gf.cell _ _ hlt hlty
              have k4 := gf.cell _ _ hlt hltz
              obtain ⟨r5, k5⟩ := gf.look l2 l3
              have hE : rkAt t x y z = decide (tv t x (tv t y z) = tv t (tv t x y) (tv t x z)) := rfl
              generalize tv t y z = q1 at *
              generalize tv t x y = q2 at *
              generalize tv t x z = q3 at *
              generalize tv t x q1 = A1 at *
              generalize tv t q2 q3 = A2 at *
              have HE := Lib.hid hE
              clear hE gf hf
              by_cases p1 : A1 = A2
              · have u1 : ((A1 : Int) != (A2 : Int)) = false := by simp [p1]
                have HE2 : Hid (rkAt t x y z = true) := Lib.hid (by rw [HE.out]; simp [p1])
                clear p1
                go_wp2
                go_quiet (fail)
                go_wp2
                go_roundw
                case rel => exact ⟨z + 1, by omega, by go_num, Lib.hid (allN_succ hz1.out HE2.out), _, rfl⟩
                case measure => simp [intOf]; omega
              · have u1 : ((A1 : Int) != (A2 : Int)) = true := by simp; omega
                have HE2 : Hid (rkAt t x y z = false) := Lib.hid (by rw [HE.out]; simp [p1])
                clear p1
                go_wp2
                go_quiet (fail)
                go_wp2
                go_ret
                exact ⟨.inr ⟨allN_no hlt (allN_no hlty (allN_no hltz HE2.out)), _, _, rfl⟩, below_al (below_drewN (Below.refl _ _) _) _⟩
            · obtain rfl : z = n := by omega
              go_wp2
              go_roundw
              case rel => exact ⟨y + 1, by omega, by go_num, Lib.hid (allN_succ hy1.out hz1.out), _, rfl⟩
              case measure => simp [intOf]; omega
        · obtain rfl : y = n := by omega
          go_wp2
          go_roundw
          case rel => exact ⟨x + 1, by omega, by go_num, Lib.hid (allN_succ hx1.out hy1.out), _, rfl⟩
          case measure => simp [intOf]; omega
    · obtain rfl : x = n := by omega
      go_wp2
      go_ret
      exact ⟨.inl ⟨hx1.out, rfl⟩, below_drewN (Below.refl _ _) _⟩
set_option maxHeartbeats 2000000 in
theorem l03Is_any (a : Option Addr) (n c : Nat) (t : List (List Int)) (w : World) (h1 : Tbl w a n t) (hm : n ≤ 9223372036854775807) :
    Calls Tryz.prog 58 #[rAgg a n c] w fun e w' => e = .returned (.bool (isRk t)) ∧ Below w.heap.size w w' := by
  have hA := Loc.new w rfl #[.slice a n c] 34
  cases hf : isTab t with
  | false =>
    have HQ : Hid (isRk t = false) := Lib.hid (isRk_no hf)
    have HF := Lib.hid hf; clear hf
    go_enter Tryz.func58, Tryz.ntmps58
    go_wp2_with fail
    refine (l01Table_any _ _ _ _ _ (h1.alloc _) hm).mono ?_
    rintro e w1 ⟨rfl, rfl⟩
    rw [HF.out]
    go_wp2
    go_ret
    exact ⟨ret_bool HQ.out.symm, below_al (Below.refl _ _) _⟩
  | true =>
    obtain ⟨hn1, hn12, sf⟩ := isTab_sq hf
    have hl := h1.len
    rw [← hl] at hn1 hn12 sf
    have HQ : Hid (isRk t = (t.all permOk && rkOk n t)) := Lib.hid (by unfold isRk; rw [hf, ← hl]; rfl)
    have HF := Lib.hid hf; have HSF := Lib.hid sf; have HL := Lib.hid hl
    have hr12 : rngB 1 12 (n : Int) = true := by unfold rngB; simp; omega
    have HR := Lib.hid hr12
    clear hf sf hl hr12
    have hB := below_al (Below.refl w.heap.size w) (.cells #[.slice a n c] 34)
    have t0 := h1.alloc (.cells #[.slice a n c] 34)
    have lA := hA.one
    go_enter Tryz.func58, Tryz.ntmps58
    go_wp2_with fail
    refine (l01Table_any _ _ _ _ _ (h1.alloc _) hm).mono ?_
    rintro e w1 ⟨rfl, rfl⟩
    rw [HF.out]
    go_wp2
    generalize w.alloc (.cells #[.slice a n c] 34) = w0 at *
    go_loop [3] (fun i => ∃ k : Nat, k ≤ n ∧ i = .int .i64 k ∧ Hid ((t.take k).all permOk = true)) (fun i => n - (intOf i).toNat)
    case atStart => exact ⟨0, Nat.zero_le _, rfl, Lib.hid (by simp)⟩
    case round =>
      obtain ⟨k, hk, rfl, hI⟩ := hrel
      by_cases hlt : k < n
      · obtain ⟨b, off, ai, ni, ci, rfl, g1, hri, hni⟩ := t0.at k hlt
        have hx : k < t.length := by have := HL.out; omega
        have hrl := HSF.out.row hlt
        have hll := hri.len
        obtain rfl : ni = n := by omega
        rw [Tbl.getD hx] at hri
        have HPP := Lib.hid (fun (w : World) (hr : Row w ai ni t[k]) => l01Perm_any ai ni ci t[k] w hr (by omega))
        cases hp : permOk t[k] with
        | true =>
          have HP := Lib.hid hp
          clear hp hrl hll t0
          go_wp2_with fail
          refine (HPP.out _ hri).mono ?_
          rintro e w2 ⟨rfl, rfl⟩
          rw [HR.out, HP.out]
          go_wp2
          go_round
          case rel => exact ⟨k + 1, by omega, by go_num, Lib.hid (all_get_succ hx hI.out HP.out)⟩
          case measure => simp [intOf]; omega
        | false =>
          have HP := Lib.hid hp
          clear hp hrl hll t0
          go_wp2_with fail
          refine (HPP.out _ hri).mono ?_
          rintro e w2 ⟨rfl, rfl⟩
          rw [HR.out, HP.out]
          go_wp2
          go_ret
          exact ⟨ret_bool (by rw [HQ.out, all_no hx HP.out]; rfl), hB⟩
      · obtain rfl : k = n := by omega
        have ha := hI.out
        rw [List.take_of_length_le (by have := HL.out; omega)] at ha
        have HA := Lib.hid ha; clear ha
        go_wp2_with fail
        refine (l03Fault_any _ _ _ t _ t0 hn1 hn12 HSF.out).mono ?_
        rintro e w3 ⟨he, hb3⟩
        rcases he with ⟨hc, rfl⟩ | ⟨hc, b, k', rfl⟩
        · have HD := Lib.hid hc; clear hc
          go_wp2
          go_ret
          exact ⟨ret_bool (by rw [HQ.out, HA.out, HD.out]; rfl), below_th hB hb3⟩
        · have HD := Lib.hid hc; clear hc
          go_wp2
          go_ret
          exact ⟨ret_bool (by rw [HQ.out, HA.out, HD.out]; rfl), below_th hB hb3⟩
end Go.Proofs.YtaddclaadbjnlaaGreat

namespace Go.Proofs.YtaddclaadbjnlaaGreat
set_option maxRecDepth 100000
set_option linter.unusedVariables false
set_option linter.unusedSimpArgs false
open Go.RowKit
def RwsP (n : Nat) (t : List (List Int)) : Prop := t.length = n ∧ ∀ i, i < n → IsP n (t.getD i [])
theorem RwsP.sq {n : Nat} {t : List (List Int)} (h : RwsP n t) : Sq n t := by
  refine ⟨h.1, fun x hx => ⟨(h.2 x hx).len, fun y hy => ?_⟩⟩
  obtain ⟨z, hz, hzn⟩ := (h.2 x hx).at hy
  have : tv t x y = z := by unfold tv; rw [hz, Int.toNat_natCast]
  rw [this]; exact ⟨hzn, hz⟩
theorem isP_perm {n : Nat} {p : List Int} (h : IsP n p) : permOk p = true := by
  obtain ⟨f, g, hl, h1, h2⟩ := h
  unfold permOk allN
  rw [List.all_eq_true]
  intro x hx
  have hx := List.mem_range.1 hx
  rw [hl] at hx
  have h3 := h1 x hx
  have h4 := h2 (g x) h3.2.1
  rw [h3.2.2.1] at h4
  rw [List.contains_iff_mem, ← h4]
  exact getD_mem (by omega)
end Go.Proofs.YtaddclaadbjnlaaGreat
