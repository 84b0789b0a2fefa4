/-
  Permutations and racks: what the program's questions answer.
  No condition but bounds on lengths.
-/
import Derived.Test.YtehomfbehhlhmaaRackL
import Derived.Test.YtehomfbehhlhmaaBase
import Derived.Test.YtehomfbehhlhmaaSolE
namespace Go.Proofs.Ytehomfbehhlhmaa
set_option maxRecDepth 100000
set_option linter.unusedVariables false
set_option linter.unusedSimpArgs false
open Go.RowKit

/-- no fault and nil, or a fault and a list of three -/
def FltN (ok : Bool) (W : World) (e : Ending) (w' : World) : Prop := ((ok = true ∧ e = .returned (.slice none 0 0)) ∨ (ok = false ∧ ∃ b c, e = .returned (.slice (some ⟨b, 0, none⟩) 3 c))) ∧ Below W.heap.size W w'

set_option maxHeartbeats 2000000 in
theorem isPermuted_any (a : Option Addr) (n c : Nat) (p : List Int) (w : World) (h1 : Row w a n p) (hm : n ≤ 1000000) :
    Calls Try.prog 204 #[.slice a n c] w fun e w' => e = .returned (.bool (permOk p)) ∧ Below w.heap.size w w' := by
  have hl := h1.len
  have HL := Lib.hid hl; clear hl
  go_enter Try.func204, Try.ntmps204
  go_wp2_with (at_make; refine makeBo rfl rfl rfl rfl (by omega) ?_; intro w1 ho hs hb)
  go_loopw [11] (fun i wr => ∃ k : Nat, k ≤ n ∧ i = .int .i64 k ∧ Hid (permTo p k) ∧ OwnBo wr w.heap.size (some ⟨w.heap.size, 0, none⟩) n n (seenL p n k) ∧ Below w.heap.size w wr) (fun i _ => n - (intOf i).toNat)
  case atStart => exact ⟨0, Nat.zero_le _, rfl, Lib.hid ⟨fun i h => absurd h (by omega), fun i j h => absurd h (by omega)⟩, by rw [seenL_zero]; exact ho, hb⟩
  case round =>
    clear ho hb
    obtain ⟨k, hk, rfl, hp, ho, hb⟩ := hrel
    by_cases hlt : k < n
    · have hr := h1.below hb
      obtain ⟨b, off, rfl, g1⟩ := hr.at k hlt
      have hx : k < p.length := by have := HL.out; omega
      have hpk : p.getD k 0 = p[k] := by simp [List.getD_eq_getElem?_getD, List.getElem?_eq_getElem hx]
      have wn : IntKind.i64.wrap ((n : Int) - 1) = (n : Int) - 1 := IntWalk.i64_in _ (by omega)
      cases hv : rngB 0 ((n : Int) - 1) (p.getD k 0) with
      | false =>
        have HC := Lib.hid (fun w => within_b (p.getD k 0) 0 ((n : Int) - 1) false hv w)
        have hno : permOk p = false := permOk_out hx (by have h := rngB_f hv; have := HL.out; omega)
        have HN := Lib.hid hno
        clear hv hno hpk
        generalize p.getD k 0 = V at *
        go_wp2_with fail
        refine (HC.out _).mono ?_
        rintro e w2 ⟨rfl, rfl⟩
        go_wp2
        go_ret
        exact ⟨ret_bool HN.out.symm, hb⟩
      | true =>
        have HC := Lib.hid (fun w => within_b (p.getD k 0) 0 ((n : Int) - 1) true hv w)
        have hin : 0 ≤ p.getD k 0 ∧ p.getD k 0 < p.length := by have h := rngB_t hv; have := HL.out; omega
        obtain ⟨X, hX⟩ : ∃ X : Nat, p.getD k 0 = X := ⟨(p.getD k 0).toNat, by omega⟩
        have hXn : X < n := by have := HL.out; omega
        obtain ⟨_, hc, hf⟩ := ho.cells
        have hc1 := hc X hXn
        have hf1 := hf X
        rw [seenL_get p n k X hXn] at hc1
        have HIN := Lib.hid hin
        rw [hX] at g1 HC
        clear hc hf hv hin
        cases hs : (p.take k).contains (X : Int) with
        | true =>
          rw [hs] at hc1
          obtain ⟨i, hi, e⟩ := seen_mem hs (by omega)
          have HN : Hid (permOk p = false) := Lib.hid (permOk_twice hx hi (by rw [e, hX]))
          clear hs e hX hpk
          go_wp2_with fail
          refine (HC.out _).mono ?_
          rintro e w2 ⟨rfl, rfl⟩
          go_wp2
          go_ret
          exact ⟨ret_bool HN.out.symm, hb⟩
        | false =>
          rw [hs] at hc1
          have HT : Hid (permTo p (k + 1)) := Lib.hid (permTo_succ hp.out HIN.out (by rw [hX]; exact not_seen hs (by omega)))
          have HSE : Hid ((seenL p n k).set X true = seenL p n (k + 1)) := Lib.hid (seenL_succ p n k X hx hXn (by rw [← hpk, hX]))
          clear hs hX hpk
          go_wp2_with fail
          refine (HC.out _).mono ?_
          rintro e w2 ⟨rfl, rfl⟩
          go_wp2
          go_roundw
          case rel => exact ⟨k + 1, by omega, by go_num, HT, by rw [← HSE.out]; exact ho.set X true, hb.setCell (by simp) _⟩
          case measure => simp [intOf]; omega
    · obtain rfl : k = n := by omega
      have HP : Hid (permOk p = true) := Lib.hid (permTo_ok (by rw [← HL.out]; exact hp.out))
      go_wp2
      go_ret
      exact ⟨ret_bool HP.out.symm, hb⟩

theorem permRows1_any (a : Option Addr) (n c : Nat) (p : List Int) (w : World) (h1 : Row w a n p) (hm : n ≤ 1000000) :
    Calls Try.prog 203 #[.slice a n c] w fun e w' => e = .returned (.bool (!permOk p)) ∧ Below w.heap.size w w' := by
  go_enter Try.func203, Try.ntmps203
  go_wp2_with fail
  refine (isPermuted_any _ _ _ p _ h1 hm).mono ?_
  rintro e w1 ⟨rfl, hb⟩
  go_wp2
  go_ret
  exact ⟨rfl, hb⟩
theorem ent_permRows1 : Ent 203 := fun _ _ => rfl

set_option maxHeartbeats 1000000 in
theorem permutationRows_any (a : Option Addr) (n c : Nat) (t : List (List Int)) (w : World) (h1 : Tbl w a n t) (hm : n ≤ 9223372036854775807) (hx : ∀ x ∈ t, x.length ≤ 1000000) :
    Calls Try.prog 178 #[.slice a n c] w fun e w' => e = .returned (.bool (t.all permOk)) ∧ Below w.heap.size w w' := by
  have hcl : ∀ x ∈ t, ∀ w1, Below w.heap.size w w1 → ∀ a' n' c', Row w1 a' n' x → n' ≤ 9223372036854775807 → Calls Try.prog 203 (#[.slice a' n' c'] ++ #[]) w1 fun e w' => e = .returned (.bool (!permOk x)) ∧ Below w.heap.size w w' := fun x hxm w1 hb a' n' c' hr _ =>
    (permRows1_any a' n' c' x w1 hr (by have := hx x hxm; have := hr.len; omega)).mono fun e w' ⟨he, hb'⟩ => ⟨he, below_th hb hb'⟩
  have HCL := Lib.hid hcl; clear hcl
  go_enter Try.func178, Try.ntmps178
  go_wp2_with fail
  refine (containsFunc_rows (fun w1 => Below w.heap.size w w1) 203 #[] (fun x => !permOk x) _ _ _ t _ (Below.refl _ _) (fun w1 h => h1.below h) hm ent_permRows1 HCL.out).mono ?_
  rintro e w1 ⟨rfl, hb⟩
  go_wp2
  go_ret
  exact ⟨ret_bool (by simp [List.any_eq_not_all_not]), hb⟩

set_option maxHeartbeats 4000000 in
theorem rackFault_any (a : Option Addr) (n c : Nat) (t : List (List Int)) (w : World) (h1 : Tbl w a n t) (hn1 : 1 ≤ n) (hn : n ≤ 12) (hf : Sq n t) :
    Calls Try.prog 179 #[.slice a n c] w (FltN (rkOk n t) w) := by
  obtain ⟨bf, of, A, O, C, rfl, gf⟩ := h1.grid hf hn1
  clear h1
  go_enter Try.func179, Try.ntmps179
  go_wp2
  go_loopw [10] (fun i wr => ∃ k : Nat, k ≤ n ∧ i = .int .i64 k ∧ Hid (allN k (fun x => allN n fun y => allN n fun z => rkAt t x y z) = true) ∧ ∃ m, wr = w.drewN m) (fun i _ => n - (intOf i).toNat)
  case atStart => exact ⟨0, Nat.zero_le _, rfl, Lib.hid rfl, 0, rfl⟩
  case round =>
    obtain ⟨x, hx, rfl, hx1, m1, rfl⟩ := hrel
    by_cases hlt : x < n
    · go_wp2
      go_loopw [14] (fun i wr => ∃ k : Nat, k ≤ n ∧ i = .int .i64 k ∧ Hid (allN k (fun y => allN n fun z => rkAt t x y z) = true) ∧ ∃ m, wr = w.drewN m) (fun i _ => n - (intOf i).toNat)
      case atStart => exact ⟨0, Nat.zero_le _, rfl, Lib.hid rfl, m1, rfl⟩
      case round =>
        obtain ⟨y, hy, rfl, hy1, m2, rfl⟩ := hrel
        by_cases hlty : y < n
        · go_wp2
          go_loopw [18] (fun i wr => ∃ k : Nat, k ≤ n ∧ i = .int .i64 k ∧ Hid (allN k (fun z => rkAt t x y z) = true) ∧ ∃ m, wr = w.drewN m) (fun i _ => n - (intOf i).toNat)
          case atStart => exact ⟨0, Nat.zero_le _, rfl, Lib.hid rfl, m2, rfl⟩
          case round =>
            obtain ⟨z, hz, rfl, hz1, m3, rfl⟩ := hrel
            by_cases hltz : z < n
            · have l1 := hf.lt hlty hltz
              have l2 := hf.lt hlt hlty
              have l3 := hf.lt hlt hltz
              obtain ⟨r1, k1⟩ := gf.look hlty hltz
              obtain ⟨r2, k2⟩ := gf.look hlt l1
              have k3 := gf.cell _ _ hlt hlty
              have k4 := gf.cell _ _ hlt hltz
              obtain ⟨r5, k5⟩ := gf.look l2 l3
              have hE : rkAt t x y z = decide (tv t x (tv t y z) = tv t (tv t x y) (tv t x z)) := rfl
              generalize tv t y z = q1 at *
              generalize tv t x y = q2 at *
              generalize tv t x z = q3 at *
              generalize tv t x q1 = A1 at *
              generalize tv t q2 q3 = A2 at *
              have HE := Lib.hid hE
              clear hE gf hf
              by_cases p1 : A1 = A2
              · have u1 : ((A1 : Int) != (A2 : Int)) = false := by simp [p1]
                have HE2 : Hid (rkAt t x y z = true) := Lib.hid (by rw [HE.out]; simp [p1])
                clear p1
                go_wp2
                go_quiet (fail)
                go_wp2
                go_roundw
                case rel => exact ⟨z + 1, by omega, by go_num, Lib.hid (allN_succ hz1.out HE2.out), _, rfl⟩
                case measure => simp [intOf]; omega
              · have u1 : ((A1 : Int) != (A2 : Int)) = true := by simp; omega
                have HE2 : Hid (rkAt t x y z = false) := Lib.hid (by rw [HE.out]; simp [p1])
                clear p1
                go_wp2
                go_quiet (fail)
                go_wp2
                go_ret
                exact ⟨.inr ⟨allN_no hlt (allN_no hlty (allN_no hltz HE2.out)), _, _, rfl⟩, below_al (below_drewN (Below.refl _ _) _) _⟩
            · obtain rfl : z = n := by omega
              go_wp2
              go_roundw
              case rel => exact ⟨y + 1, by omega, by go_num, Lib.hid (allN_succ hy1.out hz1.out), _, rfl⟩
              case measure => simp [intOf]; omega
        · obtain rfl : y = n := by omega
          go_wp2
          go_roundw
          case rel => exact ⟨x + 1, by omega, by go_num, Lib.hid (allN_succ hx1.out hy1.out), _, rfl⟩
          case measure => simp [intOf]; omega
    · obtain rfl : x = n := by omega
      go_wp2
      go_ret
      exact ⟨.inl ⟨hx1.out, rfl⟩, below_drewN (Below.refl _ _) _⟩

theorem isRk_no {t : List (List Int)} (h : isTab t = false) : isRk t = false := by unfold isRk; rw [h]; rfl

set_option maxHeartbeats 1000000 in
theorem isRack_any (a : Option Addr) (n c : Nat) (t : List (List Int)) (w : World) (h1 : Tbl w a n t) (hm : n ≤ 9223372036854775807) :
    Calls Try.prog 132 #[rAgg a n c] w fun e w' => e = .returned (.bool (isRk t)) ∧ Below w.heap.size w w' := by
  have hA := Loc.new w rfl #[.slice a n c] 65
  cases hf : isTab t with
  | false =>
    have HQ : Hid (isRk t = false) := Lib.hid (isRk_no hf)
    have HF := Lib.hid hf; clear hf
    go_enter Try.func132, Try.ntmps132
    go_wp2_with fail
    refine (isTable_any _ _ _ _ _ (h1.alloc _) hm).mono ?_
    rintro e w1 ⟨rfl, hb1⟩
    rw [HF.out]
    go_wp2
    go_ret
    exact ⟨ret_bool HQ.out.symm, below_alth (Below.refl _ _) hb1⟩
  | true =>
    obtain ⟨hn1, hn12, sf⟩ := isTab_sq hf
    have hl := h1.len
    rw [← hl] at hn1 hn12 sf
    have hrow : ∀ x ∈ t, x.length ≤ 1000000 := by
      intro x hx
      obtain ⟨i, hi, e⟩ := List.getElem_of_mem hx
      have := sf.row (x := i) (by omega)
      rw [Tbl.getD hi, e] at this
      omega
    have HR := Lib.hid hrow
    have HQ : Hid (isRk t = (t.all permOk && rkOk n t)) := Lib.hid (by unfold isRk; rw [hf, ← hl]; rfl)
    have HF := Lib.hid hf; have HSF := Lib.hid sf
    clear hf sf hl hrow
    cases hp : t.all permOk with
    | false =>
      have HP := Lib.hid hp; clear hp
      go_enter Try.func132, Try.ntmps132
      go_wp2_with fail
      refine (isTable_any _ _ _ _ _ (h1.alloc _) hm).mono ?_
      rintro e w1 ⟨rfl, hb1⟩
      rw [HF.out]
      have lA := (hA.below hb1 (by simp)).one
      go_wp2_with fail
      refine (permutationRows_any _ _ _ t _ ((h1.alloc _).below hb1) hm HR.out).mono ?_
      rintro e w2 ⟨rfl, hb2⟩
      rw [HP.out]
      go_wp2
      go_ret
      exact ⟨ret_bool (by rw [HQ.out, HP.out]; rfl), below_th (below_alth (Below.refl _ _) hb1) hb2⟩
    | true =>
      have HP := Lib.hid hp; clear hp
      have nn := fun (w : World) (a : Option Addr) (n c : Nat) => Lib.run_eql_slice_nil (P := Try.prog) w 22 2 a n c 0 0 und_ints
      go_enter Try.func132, Try.ntmps132
      go_wp2_with fail
      refine (isTable_any _ _ _ _ _ (h1.alloc _) hm).mono ?_
      rintro e w1 ⟨rfl, hb1⟩
      rw [HF.out]
      have hA1 := hA.below hb1 (by simp)
      have lA := hA1.one
      have hB1 := below_alth (Below.refl _ _) hb1
      have t1 := (h1.alloc _).below hb1
      clear hb1
      go_wp2_with fail
      refine (permutationRows_any _ _ _ t _ t1 hm HR.out).mono ?_
      rintro e w2 ⟨rfl, hb2⟩
      rw [HP.out]
      have lA2 := (hA1.below hb2 hA1.lt).one
      go_wp2_with fail
      refine (rackFault_any _ _ _ t _ (t1.below hb2) hn1 hn12 HSF.out).mono ?_
      rintro e w3 ⟨he, hb3⟩
      rcases he with ⟨hc, rfl⟩ | ⟨hc, b, k, rfl⟩
      · have HD := Lib.hid hc; clear hc
        go_wp2
        go_ret
        exact ⟨ret_bool (by rw [HQ.out, HP.out, HD.out]; rfl), below_th (below_th hB1 hb2) hb3⟩
      · have HD := Lib.hid hc; clear hc
        go_wp2
        go_ret
        exact ⟨ret_bool (by rw [HQ.out, HP.out, HD.out]; rfl), below_th (below_th hB1 hb2) hb3⟩

end Go.Proofs.Ytehomfbehhlhmaa
