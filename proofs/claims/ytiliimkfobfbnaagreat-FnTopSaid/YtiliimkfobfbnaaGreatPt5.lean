/-
  Walks and plain laws of this seat, some texts in one.
  No condition but bounds on lengths.
-/
import Derived.Test.YtiliimkfobfbnaaGreatPt4
import Derived.Test.YtiliimkfobfbnaaGreatPt3
import Derived.Test.YtiliimkfobfbnaaGreatPt1
import Derived.Test.YtiliimkfobfbnaaGreatPt2
namespace Go.Proofs.YtiliimkfobfbnaaGreat
set_option maxRecDepth 100000
set_option linter.unusedVariables false
set_option linter.unusedSimpArgs false
open Go.RowKit
def FltN (ok : Bool) (W : World) (e : Ending) (w' : World) : Prop := ((ok = true ∧ e = .returned (.slice none 0 0)) ∨ (ok = false ∧ ∃ b c, e = .returned (.slice (some ⟨b, 0, none⟩) 3 c))) ∧ Below W.heap.size W w'
set_option maxHeartbeats 2000000 in
theorem isPermuted_any (a : Option Addr) (n c : Nat) (p : List Int) (w : World) (h1 : Row w a n p) (hm : n ≤ 1000000) :
    Calls Tryz.prog 51 #[.slice a n c] w fun e w' => e = .returned (.bool (permOk p)) ∧ Below w.heap.size w w' := by
  have hl := h1.len
  have HL := Lib.hid hl; clear hl
  go_enter Tryz.func51, Tryz.ntmps51
  go_wp2_with (at_make; refine makeBo rfl rfl rfl rfl (by omega) ?_; intro w1 ho hs hb)
  go_loopw [11] (fun i wr => ∃ k : Nat, k ≤ n ∧ i = .int .i64 k ∧ Hid (permTo p k) ∧ OwnBo wr w.heap.size (some ⟨w.heap.size, 0, none⟩) n n (seenL p n k) ∧ Below w.heap.size w wr) (fun i _ => n - (intOf i).toNat)
  case atStart => exact ⟨0, Nat.zero_le _, rfl, Lib.hid ⟨fun i h => absurd h (by omega), fun i j h => absurd h (by omega)⟩, by rw [seenL_zero]; exact ho, hb⟩
  case round =>
    clear ho hb
    obtain ⟨k, hk, rfl, hp, ho, hb⟩ := hrel
    by_cases hlt : k < n
    · have hr := h1.below hb
      obtain ⟨b, off, rfl, g1⟩ := hr.at k hlt
      have hx : k < p.length := by have := HL.out; omega
      have hpk : p.getD k 0 = p[k] := by simp [List.getD_eq_getElem?_getD, List.getElem?_eq_getElem hx]
      have wn : IntKind.i64.wrap ((n : Int) - 1) = (n : Int) - 1 := IntWalk.i64_in _ (by omega)
      cases hv : rngB 0 ((n : Int) - 1) (p.getD k 0) with
      | false =>
        have HC := Lib.hid (fun w => within_b (p.getD k 0) 0 ((n : Int) - 1) false hv w)
        have hno : permOk p = false := permOk_out hx (by have h := rngB_f hv; have := HL.out; omega)
        have HN := Lib.hid hno
        clear hv hno hpk
        generalize p.getD k 0 = V at *
        go_wp2_with fail
        refine (HC.out _).mono ?_
        rintro e w2 ⟨rfl, rfl⟩
        go_wp2
        go_ret
        exact ⟨ret_bool HN.out.symm, hb⟩
      | true =>
        have HC := Lib.hid (fun w => within_b (p.getD k 0) 0 ((n : Int) - 1) true hv w)
        have hin : 0 ≤ p.getD k 0 ∧ p.getD k 0 < p.length := by have h := rngB_t hv; have := HL.out; omega
        obtain ⟨X, hX⟩ : ∃ X : Nat, p.getD k 0 = X := ⟨(p.getD k 0).toNat, by omega⟩
        have hXn : X < n := by have := HL.out; omega
        obtain ⟨_, hc, hf⟩ := ho.cells
        have hc1 := hc X hXn
        have hf1 := hf X
        rw [seenL_get p n k X hXn] at hc1
        have HIN := Lib.hid hin
        rw [hX] at g1 HC
        clear hc hf hv hin
        cases hs : (p.take k).contains (X : Int) with
        | true =>
          rw [hs] at hc1
          obtain ⟨i, hi, e⟩ := seen_mem hs (by omega)
          have HN : Hid (permOk p = false) := Lib.hid (permOk_twice hx hi (by rw [e, hX]))
          clear hs e hX hpk
          go_wp2_with fail
          refine (HC.out _).mono ?_
          rintro e w2 ⟨rfl, rfl⟩
          go_wp2
          go_ret
          exact ⟨ret_bool HN.out.symm, hb⟩
        | false =>
          rw [hs] at hc1
          have HT : Hid (permTo p (k + 1)) := Lib.hid (permTo_succ hp.out HIN.out (by rw [hX]; exact not_seen hs (by omega)))
          have HSE : Hid ((seenL p n k).set X true = seenL p n (k + 1)) := Lib.hid (seenL_succ p n k X hx hXn (by rw [← hpk, hX]))
          clear hs hX hpk
          go_wp2_with fail
          refine (HC.out _).mono ?_
          rintro e w2 ⟨rfl, rfl⟩
          go_wp2
          go_roundw
          case rel => exact ⟨k + 1, by omega, by go_num, HT, by rw [← HSE.out]; exact ho.set X true, hb.setCell (by simp) _⟩
          case measure => simp [intOf]; omega
    · obtain rfl : k = n := by omega
      have HP : Hid (permOk p = true) := Lib.hid (permTo_ok (by rw [← HL.out]; exact hp.out))
      go_wp2
      go_ret
      exact ⟨ret_bool HP.out.symm, hb⟩
theorem permRows1_any (a : Option Addr) (n c : Nat) (p : List Int) (w : World) (h1 : Row w a n p) (hm : n ≤ 1000000) :
    Calls Tryz.prog 100 #[.slice a n c] w fun e w' => e = .returned (.bool (!permOk p)) ∧ Below w.heap.size w w' := by
  go_enter Tryz.func100, Tryz.ntmps100
  go_wp2_with fail
  refine (isPermuted_any _ _ _ p _ h1 hm).mono ?_
  rintro e w1 ⟨rfl, hb⟩
  go_wp2
  go_ret
  exact ⟨rfl, hb⟩
theorem ent_permRows1 : Ent 100 := fun _ _ => rfl
set_option maxHeartbeats 1000000 in
theorem permutationRows_any (a : Option Addr) (n c : Nat) (t : List (List Int)) (w : World) (h1 : Tbl w a n t) (hm : n ≤ 9223372036854775807) (hx : ∀ x ∈ t, x.length ≤ 1000000) :
    Calls Tryz.prog 67 #[.slice a n c] w fun e w' => e = .returned (.bool (t.all permOk)) ∧ Below w.heap.size w w' := by
  have hcl : ∀ x ∈ t, ∀ w1, Below w.heap.size w w1 → ∀ a' n' c', Row w1 a' n' x → n' ≤ 9223372036854775807 → Calls Tryz.prog 100 (#[.slice a' n' c'] ++ #[]) w1 fun e w' => e = .returned (.bool (!permOk x)) ∧ Below w.heap.size w w' := fun x hxm w1 hb a' n' c' hr _ =>
    (permRows1_any a' n' c' x w1 hr (by have := hx x hxm; have := hr.len; omega)).mono fun e w' ⟨he, hb'⟩ => ⟨he, below_th hb hb'⟩
  have HCL := Lib.hid hcl; clear hcl
  go_enter Tryz.func67, Tryz.ntmps67
  go_wp2_with fail
  refine (containsFunc_rows (fun w1 => Below w.heap.size w w1) 100 #[] (fun x => !permOk x) _ _ _ t _ (Below.refl _ _) (fun w1 h => h1.below h) hm ent_permRows1 HCL.out).mono ?_
  rintro e w1 ⟨rfl, hb⟩
  go_wp2
  go_ret
  exact ⟨ret_bool (by simp [List.any_eq_not_all_not]), hb⟩
set_option maxHeartbeats 4000000 in
theorem rackFault_any (a : Option Addr) (n c : Nat) (t : List (List Int)) (w : World) (h1 : Tbl w a n t) (hn1 : 1 ≤ n) (hn : n ≤ 12) (hf : Sq n t) :
    Calls Tryz.prog 75 #[.slice a n c] w (FltN (rkOk n t) w) := by
  obtain ⟨bf, of, A, O, C, rfl, gf⟩ := h1.grid hf hn1
  clear h1
  go_enter Tryz.func75, Tryz.ntmps75
  go_wp2
  go_loopw [10] (fun i wr => ∃ k : Nat, k ≤ n ∧ i = .int .i64 k ∧ Hid (allN k (fun x => allN n fun y => allN n fun z => rkAt t x y z) = true) ∧ ∃ m, wr = w.drewN m) (fun i _ => n - (intOf i).toNat)
  case atStart => exact ⟨0, Nat.zero_le _, rfl, Lib.hid rfl, 0, rfl⟩
  case round =>
    obtain ⟨x, hx, rfl, hx1, m1, rfl⟩ := hrel
    by_cases hlt : x < n
    · go_wp2
      go_loopw [14] (fun i wr => ∃ k : Nat, k ≤ n ∧ i = .int .i64 k ∧ Hid (allN k (fun y => allN n fun z => rkAt t x y z) = true) ∧ ∃ m, wr = w.drewN m) (fun i _ => n - (intOf i).toNat)
      case atStart => exact ⟨0, Nat.zero_le _, rfl, Lib.hid rfl, m1, rfl⟩
      case round =>
        obtain ⟨y, hy, rfl, hy1, m2, rfl⟩ := hrel
        by_cases hlty : y < n
        · go_wp2
          go_loopw [18] (fun i wr => ∃ k : Nat, k ≤ n ∧ i = .int .i64 k ∧ Hid (allN k (fun z => rkAt t x y z) = true) ∧ ∃ m, wr = w.drewN m) (fun i _ => n - (intOf i).toNat)
          case atStart => exact ⟨0, Nat.zero_le _, rfl, Lib.hid rfl, m2, rfl⟩
          case round =>
            obtain ⟨z, hz, rfl, hz1, m3, rfl⟩ := hrel
            by_cases hltz : z < n
            · have l1 := hf.lt hlty hltz
              have l2 := hf.lt hlt hlty
              have l3 := hf.lt hlt hltz
              obtain ⟨r1, k1⟩ := gf.look hlty hltz
              obtain ⟨r2, k2⟩ := gf.look hlt l1
              have k3 := gf.cell _ _ hlt hlty
              have k4 := gf.cell _ _ hlt hltz
              obtain ⟨r5, k5⟩ := gf.look l2 l3
              have hE : rkAt t x y z = decide (tv t x (tv t y z) = tv t (tv t x y) (tv t x z)) := rfl
              generalize tv t y z = q1 at *
              generalize tv t x y = q2 at *
              generalize tv t x z = q3 at *
              generalize tv t x q1 = A1 at *
              generalize tv t q2 q3 = A2 at *
              have HE := Lib.hid hE
              clear hE gf hf
              by_cases p1 : A1 = A2
              · have u1 : ((A1 : Int) != (A2 : Int)) = false := by simp [p1]
                have HE2 : Hid (rkAt t x y z = true) := Lib.hid (by rw [HE.out]; simp [p1])
                clear p1
                go_wp2
                go_quiet (fail)
                go_wp2
                go_roundw
                case rel => exact ⟨z + 1, by omega, by go_num, Lib.hid (allN_succ hz1.out HE2.out), _, rfl⟩
                case measure => simp [intOf]; omega
              · have u1 : ((A1 : Int) != (A2 : Int)) = true := by simp; omega
                have HE2 : Hid (rkAt t x y z = false) := Lib.hid (by rw [HE.out]; simp [p1])
                clear p1
                go_wp2
                go_quiet (fail)
                go_wp2
                go_ret
                exact ⟨.inr ⟨allN_no hlt (allN_no hlty (allN_no hltz HE2.out)), _, _, rfl⟩, below_al (below_drewN (Below.refl _ _) _) _⟩
            · obtain rfl : z = n := by omega
              go_wp2
              go_roundw
              case rel => exact ⟨y + 1, by omega, by go_num, Lib.hid (allN_succ hy1.out hz1.out), _, rfl⟩
              case measure => simp [intOf]; omega
        · obtain rfl : y = n := by omega
          go_wp2
          go_roundw
          case rel => exact ⟨x + 1, by omega, by go_num, Lib.hid (allN_succ hx1.out hy1.out), _, rfl⟩
          case measure => simp [intOf]; omega
    · obtain rfl : x = n := by omega
      go_wp2
      go_ret
      exact ⟨.inl ⟨hx1.out, rfl⟩, below_drewN (Below.refl _ _) _⟩
theorem isRk_no {t : List (List Int)} (h : isTab t = false) : isRk t = false := by unfold isRk; rw [h]; rfl
set_option maxHeartbeats 1000000 in
theorem isRack_any (a : Option Addr) (n c : Nat) (t : List (List Int)) (w : World) (h1 : Tbl w a n t) (hm : n ≤ 9223372036854775807) :
    Calls Tryz.prog 39 #[rAgg a n c] w fun e w' => e = .returned (.bool (isRk t)) ∧ Below w.heap.size w w' := by
  have hA := Loc.new w rfl #[.slice a n c] 37
  cases hf : isTab t with
  | false =>
    have HQ : Hid (isRk t = false) := Lib.hid (isRk_no hf)
    have HF := Lib.hid hf; clear hf
    go_enter Tryz.func39, Tryz.ntmps39
    go_wp2_with fail
    refine (isTable_any _ _ _ _ _ (h1.alloc _) hm).mono ?_
    rintro e w1 ⟨rfl, hb1⟩
    rw [HF.out]
    go_wp2
    go_ret
    exact ⟨ret_bool HQ.out.symm, below_alth (Below.refl _ _) hb1⟩
  | true =>
    obtain ⟨hn1, hn12, sf⟩ := isTab_sq hf
    have hl := h1.len
    rw [← hl] at hn1 hn12 sf
    have hrow : ∀ x ∈ t, x.length ≤ 1000000 := by
      intro x hx
      obtain ⟨i, hi, e⟩ := List.getElem_of_mem hx
      have := sf.row (x := i) (by omega)
      rw [Tbl.getD hi, e] at this
      omega
    have HR := Lib.hid hrow
    have HQ : Hid (isRk t = (t.all permOk && rkOk n t)) := Lib.hid (by unfold isRk; rw [hf, ← hl]; rfl)
    have HF := Lib.hid hf; have HSF := Lib.hid sf
    clear hf sf hl hrow
    cases hp : t.all permOk with
    | false =>
      have HP := Lib.hid hp; clear hp
      go_enter Tryz.func39, Tryz.ntmps39
      go_wp2_with fail
      refine (isTable_any _ _ _ _ _ (h1.alloc _) hm).mono ?_
      rintro e w1 ⟨rfl, hb1⟩
      rw [HF.out]
      have lA := (hA.below hb1 (by simp)).one
      go_wp2_with fail
      refine (permutationRows_any _ _ _ t _ ((h1.alloc _).below hb1) hm HR.out).mono ?_
      rintro e w2 ⟨rfl, hb2⟩
      rw [HP.out]
      go_wp2
      go_ret
      exact ⟨ret_bool (by rw [HQ.out, HP.out]; rfl), below_th (below_alth (Below.refl _ _) hb1) hb2⟩
    | true =>
      have HP := Lib.hid hp; clear hp
      have nn := fun (w : World) (a : Option Addr) (n c : Nat) => Lib.run_eql_slice_nil (P := Tryz.prog) w 50 2 a n c 0 0 und_ints
      go_enter Tryz.func39, Tryz.ntmps39
      go_wp2_with fail
      refine (isTable_any _ _ _ _ _ (h1.alloc _) hm).mono ?_
      rintro e w1 ⟨rfl, hb1⟩
      rw [HF.out]
      have hA1 := hA.below hb1 (by simp)
      have lA := hA1.one
      have hB1 := below_alth (Below.refl _ _) hb1
      have t1 := (h1.alloc _).below hb1
      clear hb1
      go_wp2_with fail
      refine (permutationRows_any _ _ _ t _ t1 hm HR.out).mono ?_
      rintro e w2 ⟨rfl, hb2⟩
      rw [HP.out]
      have lA2 := (hA1.below hb2 hA1.lt).one
      go_wp2_with fail
      refine (rackFault_any _ _ _ t _ (t1.below hb2) hn1 hn12 HSF.out).mono ?_
      rintro e w3 ⟨he, hb3⟩
      rcases he with ⟨hc, rfl⟩ | ⟨hc, b, k, rfl⟩
      · have HD := Lib.hid hc; clear hc
        go_wp2
        go_ret
        exact ⟨ret_bool (by rw [HQ.out, HP.out, HD.out]; rfl), below_th (below_th hB1 hb2) hb3⟩
      · have HD := Lib.hid hc; clear hc
        go_wp2
        go_ret
        exact ⟨ret_bool (by rw [HQ.out, HP.out, HD.out]; rfl), below_th (below_th hB1 hb2) hb3⟩
end Go.Proofs.YtiliimkfobfbnaaGreat
namespace Go.Proofs.YtiliimkfobfbnaaGreat
set_option linter.unusedVariables false
set_option linter.unusedSimpArgs false
structure PermN (f : Nat → Nat) (K : Nat) : Prop where
  lt : ∀ i, i < K → f i < K
  inj : ∀ i j, i < K → j < K → f i = f j → i = j
section
variable {f : Nat → Nat} {K x y : Nat}
/-! ### the period -/
/-! ### what is met -/
end
def digL (n k N : Nat) : List Int := (List.range k).map fun i => ((N / n ^ (k - 1 - i) % n : Nat) : Int)
def digP (n k N j : Nat) : List Int := (List.range k).map fun i => if k ≤ i + j then ((N / n ^ (k - 1 - i) % n : Nat) : Int) else 0
theorem digL_len (n k N : Nat) : (digL n k N).length = k := by simp [digL]
theorem digP_zero (n k N : Nat) : digP n k N 0 = List.replicate k 0 := by
  apply List.ext_getElem
  · simp [digP]
  · intro i h1 h2
    have hi : i < k := by simpa [digP] using h1
    simp [digP]; omega
theorem digP_full (n k N : Nat) : digP n k N k = digL n k N := by
  unfold digP digL
  apply List.map_congr_left
  intro i hi
  rw [if_pos (by omega)]
theorem digP_step (n k N j : Nat) (hj : j < k) : (digP n k N j).set (k - 1 - j) ((N / n ^ j % n : Nat) : Int) = digP n k N (j + 1) := by
  apply List.ext_getElem
  · simp [digP]
  · intro i h1 h2
    have hi : i < k := by simpa [digP] using h2
    rw [List.getElem_set]
    by_cases e : k - 1 - j = i
    · rw [if_pos e]
      simp only [digP, List.getElem_map, List.getElem_range]
      rw [if_pos (by omega)]
      have : k - 1 - i = j := by omega
      rw [this]
    · rw [if_neg e]
      simp only [digP, List.getElem_map, List.getElem_range]
      by_cases e2 : k ≤ i + j
      · rw [if_pos e2, if_pos (by omega)]
      · rw [if_neg e2, if_neg (by omega)]
theorem digL_less (n k N : Nat) (hn : 1 ≤ n) : Less n (digL n k N) := by
  intro i hi
  have hi' : i < k := by rw [digL_len] at hi; exact hi
  refine ⟨N / n ^ (k - 1 - i) % n, Nat.mod_lt _ hn, ?_⟩
  rw [List.getD_eq_getElem?_getD, List.getElem?_eq_getElem hi]
  simp [digL]
theorem div_pow_succ (n j N : Nat) : N / n ^ j / n = N / n ^ (j + 1) := by rw [Nat.div_div_eq_div_mul, Nat.pow_succ]
end Go.Proofs.YtiliimkfobfbnaaGreat
namespace Go.Proofs.YtiliimkfobfbnaaGreat
set_option maxRecDepth 100000
set_option linter.unusedVariables false
set_option linter.unusedSimpArgs false
open Go.RowKit
def idxI (p : Int → Bool) (xs : List Int) : Int := match xs.findIdx? p with | some i => (i : Int) | none => -1
theorem idxI_hit {p : Int → Bool} {xs : List Int} {k : Nat} (hk : k < xs.length) (h1 : (xs.take k).all (fun x => !p x) = true) (h2 : p xs[k] = true) : idxI p xs = k := by
  have : xs.findIdx? p = some k := by
    rw [List.findIdx?_eq_some_iff_getElem]
    refine ⟨hk, h2, fun j hj => ?_⟩
    have hj' : j < xs.length := by omega
    rw [List.all_eq_true] at h1
    have := h1 xs[j] (by rw [List.mem_take_iff_getElem]; exact ⟨j, by omega, rfl⟩)
    simpa using this
  simp [idxI, this]
theorem idxI_miss {p : Int → Bool} {xs : List Int} (h1 : xs.all (fun x => !p x) = true) : idxI p xs = -1 := by
  have : xs.findIdx? p = none := by
    rw [List.findIdx?_eq_none_iff]
    intro x hx
    rw [List.all_eq_true] at h1
    simpa using h1 x hx
  simp [idxI, this]
theorem idxI_any (p : Int → Bool) (xs : List Int) : decide (0 ≤ idxI p xs) = xs.any p := by
  unfold idxI
  cases h : xs.findIdx? p with
  | none => rw [List.findIdx?_eq_none_iff] at h; simp; intro x hx; simpa using h x hx
  | some i =>
    rw [List.findIdx?_eq_some_iff_getElem] at h
    obtain ⟨hi, hp, _⟩ := h
    have : xs.any p = true := List.any_eq_true.2 ⟨xs[i], List.getElem_mem hi, hp⟩
    simp [this]
set_option maxHeartbeats 400000 in
theorem idxFunc_inv (Inv : World → Prop) (f : FuncId) (caps : Array Value) (p : Int → Bool) (a : Option Addr) (n c : Nat) (xs : List Int) (w : World) (hI : Inv w) (h1 : ∀ w1, Inv w1 → Row w1 a n xs) (hm : n ≤ 9223372036854775807)
    (hcf : Ent f) (hf : ∀ x ∈ xs, ∀ w1, Inv w1 → Calls Tryz.prog f (#[.int .i64 x] ++ caps) w1 fun e w' => e = .returned (.bool (p x)) ∧ Inv w') :
    Calls Tryz.prog 130 #[.slice a n c, .func (.func f) #[] caps] w fun e w' => e = .returned (.int .i64 (idxI p xs)) ∧ Inv w' := by
  have hcf' : ∀ (args : Array Value) (w : World), (callFunc f args).run Tryz.prog w = .ok (.enter f args) w := hcf
  have HF := Lib.hid hf; clear hf
  have hl := (h1 w hI).len
  have HL := Lib.hid hl; clear hl
  have H1 := Lib.hid h1; clear h1
  have HI := Lib.hid hI; clear hI
  go_enter Tryz.func130, Tryz.ntmps130
  go_wp2
  go_loopw [8] (fun i wr => ∃ k : Nat, k ≤ n ∧ i = .int .i64 k ∧ Hid ((xs.take k).all (fun x => !p x) = true) ∧ Hid (Inv wr)) (fun i _ => n - (intOf i).toNat)
  case atStart => exact ⟨0, Nat.zero_le _, rfl, by simp [Hid], HI⟩
  case round =>
    obtain ⟨k, hk, rfl, hall, hi⟩ := hrel
    by_cases hlt : k < n
    · obtain ⟨b, off, rfl, g1⟩ := (H1.out wr hi.out).at k hlt
      have hx : k < xs.length := by have := HL.out; omega
      have hc := HF.out xs[k] (List.getElem_mem hx) wr hi.out
      by_cases hp : p xs[k] = true
      · rw [hp] at hc
        have HC := Lib.hid hc; clear hc
        have HP := Lib.hid hp; clear hp
        go_wp2_with fail
        refine HC.out.mono ?_
        rintro e w' ⟨rfl, hi'⟩
        have HI' := Lib.hid hi'; clear hi'
        go_wp2
        go_ret
        exact ⟨ret_int (idxI_hit hx hall HP.out).symm, HI'.out⟩
      · have hp : p xs[k] = false := by simpa using hp
        rw [hp] at hc
        have HC := Lib.hid hc; clear hc
        have HP := Lib.hid hp; clear hp
        go_wp2_with fail
        refine HC.out.mono ?_
        rintro e w' ⟨rfl, hi'⟩
        have HI' := Lib.hid hi'; clear hi'
        go_wp2
        go_roundw
        case rel =>
          refine ⟨k + 1, by omega, by go_num, ?_, HI'⟩
          show ((xs.take (k + 1)).all (fun x => !p x)) = true
          have ha : (xs.take k).all (fun x => !p x) = true := hall
          rw [List.take_succ_eq_append_getElem hx, List.all_append, ha]; simp [HP.out]
        case measure => simp [intOf]; omega
    · obtain rfl : k = n := by omega
      go_wp2
      go_ret
      have ha : (xs.take k).all (fun x => !p x) = true := hall
      rw [List.take_of_length_le (by have := HL.out; omega)] at ha
      exact ⟨ret_int (idxI_miss ha).symm, hi.out⟩
set_option maxHeartbeats 400000 in
theorem containsFunc_inv (Inv : World → Prop) (f : FuncId) (caps : Array Value) (p : Int → Bool) (a : Option Addr) (n c : Nat) (xs : List Int) (w : World) (hI : Inv w) (h1 : ∀ w1, Inv w1 → Row w1 a n xs) (hm : n ≤ 9223372036854775807)
    (hcf : Ent f) (hf : ∀ x ∈ xs, ∀ w1, Inv w1 → Calls Tryz.prog f (#[.int .i64 x] ++ caps) w1 fun e w' => e = .returned (.bool (p x)) ∧ Inv w') :
    Calls Tryz.prog 111 #[.slice a n c, .func (.func f) #[] caps] w fun e w' => e = .returned (.bool (xs.any p)) ∧ Inv w' := by
  have HF := Lib.hid hf; clear hf
  have H1 := Lib.hid h1; clear h1
  have HI := Lib.hid hI; clear hI
  go_enter Tryz.func111, Tryz.ntmps111
  go_wp2_with fail
  refine (idxFunc_inv Inv f caps p _ _ _ xs _ HI.out H1.out hm hcf HF.out).mono ?_
  rintro e w' ⟨rfl, hi'⟩
  have HI' := Lib.hid hi'; clear hi'
  go_wp2
  go_ret
  exact ⟨ret_bool (idxI_any p xs), HI'.out⟩
theorem containsFunc_ints (f : FuncId) (caps : Array Value) (p : Int → Bool) (a : Option Addr) (n c : Nat) (xs : List Int) (w : World) (h1 : Row w a n xs) (hm : n ≤ 9223372036854775807)
    (hcf : Ent f) (hf : ∀ x ∈ xs, Calls Tryz.prog f (#[.int .i64 x] ++ caps) w fun e w' => e = .returned (.bool (p x)) ∧ w = w') :
    Calls Tryz.prog 111 #[.slice a n c, .func (.func f) #[] caps] w fun e w' => e = .returned (.bool (xs.any p)) ∧ w = w' :=
  containsFunc_inv (w = ·) f caps p a n c xs w rfl (fun w1 h => h ▸ h1) hm hcf (fun x hx w1 h => h ▸ hf x hx)
def isLet (s x : Int) : Bool := decide (x ≠ 0) && (decide (wrap64 (1 - s) ≤ x) && decide (x ≤ wrap64 (s - 1)))
def isBr (s : Int) (xs : List Int) : Bool := (decide (2 ≤ s) && decide (s ≤ 6)) && decide (xs.length ≤ 30) && xs.all (isLet s)
theorem isLetter_any (s x : Int) (w : World) (h1 : 2 ≤ s) (h2 : s ≤ 6) :
    Calls Tryz.prog 113 #[.int .i64 s, .int .i64 x] w fun e w' => e = .returned (.bool (isLet s x)) ∧ w = w' := by
  have e1 : wrap64 (1 - s) = 1 - s := IntWalk.wrap64_in _ ⟨by omega, by omega⟩
  have e2 : wrap64 (s - 1) = s - 1 := IntWalk.wrap64_in _ ⟨by omega, by omega⟩
  by_cases h : x = 0
  · subst h
    go_enter Tryz.func113, Tryz.ntmps113
    go_wp2_with (go_at_call 80; refine (within_any _ _ _ _).mono ?_; rintro e w' ⟨rfl, rfl⟩)
    go_ret
    exact ⟨ret_bool (by simp [isLet]), rfl⟩
  · have hb : (x != 0) = true := by simpa using h
    have HE1 := Lib.hid e1; have HE2 := Lib.hid e2; clear e1 e2
    have hr : isLet s x = (decide (1 - s ≤ x) && decide (x ≤ s - 1)) := by unfold isLet; rw [HE1.out, HE2.out]; simp [h]
    rw [hr]
    clear h
    go_enter Tryz.func113, Tryz.ntmps113
    go_wp2_with (go_at_call 80; refine (within_any _ _ _ _).mono ?_; rintro e w' ⟨rfl, rfl⟩)
    go_ret
    exact ⟨rfl, rfl⟩
theorem isBraid1_any (s x : Int) (b : Nat) (v : Value) (t : TypeId) (w : World) (h1 : 2 ≤ s) (h2 : s ≤ 6) (hL : Loc w b #[.int .i64 s, v] t) :
    Calls Tryz.prog 112 #[.int .i64 x, .pointer (some ⟨b, 0, none⟩)] w fun e w' => e = .returned (.bool (!isLet s x)) ∧ w = w' := by
  have hc := hL.two
  go_enter Tryz.func112, Tryz.ntmps112
  go_wp2_with fail
  refine (isLetter_any _ _ _ h1 h2).mono ?_
  rintro e w' ⟨rfl, rfl⟩
  go_wp2
  go_ret
  exact ⟨rfl, rfl⟩
theorem ent_isBraid1 : Ent 112 := fun _ _ => rfl
set_option maxHeartbeats 1000000 in
theorem isBraid_any (s : Int) (a : Option Addr) (n c : Nat) (xs : List Int) (w : World) (h1 : Row w a n xs) (hm : n ≤ 9223372036854775807) :
    Calls Tryz.prog 89 #[bAgg s a n c] w fun e w' => e = .returned (.bool (isBr s xs)) ∧ Below w.heap.size w w' := by
  have hl := h1.len
  by_cases h26 : (decide (2 ≤ s) && decide (s ≤ 6)) = true
  · have h26' : 2 ≤ s ∧ s ≤ 6 := by simpa using h26
    have hcc : ∀ w', Calls Tryz.prog 80 #[.int .i64 s, .int .i64 2, .int .i64 6] w' fun e w'' => e = .returned (.bool true) ∧ w' = w'' := fun w' => by rw [← h26]; exact within_any _ _ _ _
    have HC := Lib.hid hcc; clear hcc
    obtain ⟨h2, h6⟩ := h26'
    by_cases hn : n ≤ 30
    · have hq : isBr s xs = xs.all (isLet s) := by
        unfold isBr; rw [h26, ← hl]; simp [hn]
      have HQ := Lib.hid hq; have H26 := Lib.hid h26; have HL := Lib.hid hl; clear hq h26 hl
      have hcl : ∀ x ∈ xs, Calls Tryz.prog 112 (#[.int .i64 x] ++ #[.pointer (some ⟨w.heap.size, 0, none⟩)]) (w.alloc (.cells #[.int .i64 s, .slice a n c] 56)) fun e w' => e = .returned (.bool (!isLet s x)) ∧ w.alloc (.cells #[.int .i64 s, .slice a n c] 56) = w' := fun x _ => by
        rw [show (#[Value.int .i64 x] ++ #[Value.pointer (some ⟨w.heap.size, 0, none⟩)] : Array Value) = #[.int .i64 x, .pointer (some ⟨w.heap.size, 0, none⟩)] from rfl]
        exact isBraid1_any s x _ _ _ _ h2 h6 (Loc.new _ rfl _ _)
      have HCL := Lib.hid hcl; clear hcl
      go_enter Tryz.func89, Tryz.ntmps89
      go_wp2_with fail
      refine (HC.out _).mono ?_
      rintro e w' ⟨rfl, rfl⟩
      go_wp2_with fail
      refine (containsFunc_ints 112 _ (fun x => !isLet s x) _ _ _ xs _ (h1.alloc _) hm ent_isBraid1 HCL.out).mono ?_
      rintro e w' ⟨rfl, rfl⟩
      go_wp2
      go_ret
      refine ⟨ret_bool ?_, (Below.refl _ _).alloc (Nat.le_refl _) _⟩
      rw [HQ.out]
      simp [List.any_eq_not_all_not]
    · have hq : isBr s xs = false := by
        unfold isBr; rw [← hl]; simp [hn]
      have HQ := Lib.hid hq; have H26 := Lib.hid h26; have HL := Lib.hid hl; clear hq h26 hl
      go_enter Tryz.func89, Tryz.ntmps89
      go_wp2_with fail
      refine (HC.out _).mono ?_
      rintro e w' ⟨rfl, rfl⟩
      go_wp2
      go_ret
      exact ⟨ret_bool HQ.out.symm, (Below.refl _ _).alloc (Nat.le_refl _) _⟩
  · have h26 : (decide (2 ≤ s) && decide (s ≤ 6)) = false := by simpa using h26
    have hcc : ∀ w', Calls Tryz.prog 80 #[.int .i64 s, .int .i64 2, .int .i64 6] w' fun e w'' => e = .returned (.bool false) ∧ w' = w'' := fun w' => by rw [← h26]; exact within_any _ _ _ _
    have HC := Lib.hid hcc; clear hcc
    have hq : isBr s xs = false := by unfold isBr; rw [h26]; simp
    have HQ := Lib.hid hq; clear hq h26 hl
    go_enter Tryz.func89, Tryz.ntmps89
    go_wp2_with fail
    refine (HC.out _).mono ?_
    rintro e w' ⟨rfl, rfl⟩
    go_wp2
    go_ret
    exact ⟨ret_bool HQ.out.symm, (Below.refl _ _).alloc (Nat.le_refl _) _⟩
theorem isBr_let {s : Int} {xs : List Int} (h : isBr s xs = true) : (2 ≤ s ∧ s ≤ 6) ∧ xs.length ≤ 30 ∧ ∀ x ∈ xs, x ≠ 0 ∧ 1 - s ≤ x ∧ x ≤ s - 1 := by
  simp only [isBr, Bool.and_eq_true, decide_eq_true_eq, List.all_eq_true] at h
  obtain ⟨⟨h1, h2⟩, h3⟩ := h
  have e1 : wrap64 (1 - s) = 1 - s := IntWalk.wrap64_in _ ⟨by omega, by omega⟩
  have e2 : wrap64 (s - 1) = s - 1 := IntWalk.wrap64_in _ ⟨by omega, by omega⟩
  refine ⟨h1, h2, fun x hx => ?_⟩
  have := h3 x hx
  simp only [isLet, Bool.and_eq_true, decide_eq_true_eq, e1, e2] at this
  exact this
end Go.Proofs.YtiliimkfobfbnaaGreat
namespace Go.Proofs.YtiliimkfobfbnaaGreat
set_option linter.unusedVariables false
set_option linter.unusedSimpArgs false
def numL (n : Nat) (l : List Int) : Nat := l.foldl (fun a x => a * n + x.toNat) 0
def LessM (n : Nat) (l : List Int) : Prop := ∀ x ∈ l, 0 ≤ x ∧ x < n
theorem Less.mem {n : Nat} {l : List Int} (h : Less n l) : LessM n l := fun x hx => by
  obtain ⟨i, hi, rfl⟩ := List.getElem_of_mem hx
  obtain ⟨k, hk, e⟩ := h i hi
  rw [List.getD_eq_getElem?_getD, List.getElem?_eq_getElem hi] at e
  simp only [Option.getD_some] at e
  omega
theorem num_bd {n : Nat} (hn : 1 ≤ n) : ∀ (l : List Int) (a : Nat), LessM n l → l.foldl (fun a x => a * n + x.toNat) a < (a + 1) * n ^ l.length := by
  intro l
  induction l with
  | nil => intro a _; simp
  | cons x r ih =>
    intro a h
    rw [List.foldl_cons]
    have h1 := ih (a * n + x.toNat) (fun y hy => h y (List.mem_cons_of_mem _ hy))
    have hx := h x (List.mem_cons_self ..)
    refine Nat.lt_of_lt_of_le h1 ?_
    rw [List.length_cons, Nat.pow_succ, Nat.mul_comm (n ^ r.length) n, ← Nat.mul_assoc]
    refine Nat.mul_le_mul_right _ ?_
    rw [Nat.add_mul, Nat.one_mul]
    omega
theorem numL_lt {n : Nat} (hn : 1 ≤ n) {l : List Int} (h : Less n l) : numL n l < n ^ l.length := by
  have := num_bd hn l 0 h.mem
  simpa [numL] using this
theorem num_inj {n : Nat} (hn : 1 ≤ n) : ∀ (l l' : List Int) (a a' : Nat), l.length = l'.length → LessM n l → LessM n l' → l.foldl (fun a x => a * n + x.toNat) a = l'.foldl (fun a x => a * n + x.toNat) a' → a = a' ∧ l = l' := by
  intro l
  induction l with
  | nil =>
    intro l' a a' hl _ _ e
    have : l' = [] := List.eq_nil_of_length_eq_zero hl.symm
    subst this
    exact ⟨by simpa using e, rfl⟩
  | cons x r ih =>
    intro l' a a' hl h h' e
    cases l' with
    | nil => simp at hl
    | cons y s =>
      rw [List.foldl_cons, List.foldl_cons] at e
      obtain ⟨e1, e2⟩ := ih s _ _ (by simpa using hl) (fun z hz => h z (List.mem_cons_of_mem _ hz)) (fun z hz => h' z (List.mem_cons_of_mem _ hz)) e
      have hx := h x (List.mem_cons_self ..)
      have hy := h' y (List.mem_cons_self ..)
      have d1 := congrArg (· / n) e1
      have d2 := congrArg (· % n) e1
      simp only [pair_div hn (show x.toNat < n by omega), pair_div hn (show y.toNat < n by omega), pair_mod (show x.toNat < n by omega), pair_mod (show y.toNat < n by omega)] at d1 d2
      exact ⟨d1, by rw [e2, show x = y by omega]⟩
theorem digL_succ (n s N : Nat) : digL n (s + 1) N = digL n s (N / n) ++ [((N % n : Nat) : Int)] := by
  unfold digL
  rw [List.range_succ, List.map_append]
  congr 1
  · apply List.map_congr_left
    intro i hi
    have hi := List.mem_range.1 hi
    have : s + 1 - 1 - i = (s - 1 - i) + 1 := by omega
    rw [this, Nat.pow_succ, Nat.mul_comm, ← Nat.div_div_eq_div_mul]
  · simp
theorem numL_dig {n : Nat} : ∀ (s N : Nat), N < n ^ s → numL n (digL n s N) = N := by
  intro s
  induction s with
  | zero => intro N h; simp [digL, numL] at *; omega
  | succ s ih =>
    intro N h
    rw [digL_succ]
    unfold numL
    rw [List.foldl_append]
    have h1 : N / n < n ^ s := Nat.div_lt_of_lt_mul (by rw [Nat.mul_comm, ← Nat.pow_succ]; exact h)
    have := ih (N / n) h1
    unfold numL at this
    rw [this]
    simp only [List.foldl_cons, List.foldl_nil, Int.toNat_natCast]
    rw [Nat.mul_comm]
    exact Nat.div_add_mod N n
def InjP (n : Nat) (f g : List (List Int)) : Prop := ∀ a b c d, a < n → b < n → c < n → d < n → tv f a b = tv f c d → tv g a b = tv g c d → a = c ∧ b = d
theorem coll_injP {n : Nat} {f g : List (List Int)} (hn : 1 ≤ n) (hc : collOk n f g = true) : InjP n f g := by
  intro a b c d ha hb hc' hd h1 h2
  have := coll_inj hc (pair_lt ha hb) (pair_lt hc' hd) (by rw [pair_div hn hb, pair_mod hb, pair_div hn hd, pair_mod hd]; exact h1) (by rw [pair_div hn hb, pair_mod hb, pair_div hn hd, pair_mod hd]; exact h2)
  have e1 := congrArg (· / n) this
  have e2 := congrArg (· % n) this
  simp only [pair_div hn hb, pair_div hn hd, pair_mod hb, pair_mod hd] at e1 e2
  exact ⟨e1, e2⟩
theorem list_ext0 {l l' : List Int} (hl : l.length = l'.length) (h : ∀ i, i < l.length → l.getD i 0 = l'.getD i 0) : l = l' := by
  apply List.ext_getElem hl
  intro i h1 h2
  have := h i h1
  simpa [List.getD_eq_getElem?_getD, List.getElem?_eq_getElem h1, List.getElem?_eq_getElem h2] using this
theorem doF_inj {n : Nat} {f g : List (List Int)} (hI : InjP n f g) {i : Nat} {l l' : List Int} (hl : l.length = l'.length) (hi : i + 1 < l.length) (h : Less n l) (h' : Less n l') (e : doF f g i l = doF f g i l') : l = l' := by
  obtain ⟨a, ha, ea⟩ := h i (by omega)
  obtain ⟨b, hb, eb⟩ := h (i + 1) hi
  obtain ⟨c, hc, ec⟩ := h' i (by omega)
  obtain ⟨d, hd, ed⟩ := h' (i + 1) (by omega)
  unfold doF at e
  rw [ea, eb, ec, ed] at e
  simp only [Int.toNat_natCast] at e
  have L1 : ∀ z j, j < l.length → j < (l.set i z).length := fun z j hj => by rw [List.length_set]; exact hj
  have L2 : ∀ z j, j < l.length → j < (l'.set i z).length := fun z j hj => by rw [List.length_set, ← hl]; exact hj
  have g1 := congrArg (fun L => L.getD i 0) e
  have g2 := congrArg (fun L => L.getD (i + 1) 0) e
  try simp only at g1 g2
  rw [getD_set' _ _ _ _ _ (L1 _ _ (by omega)), getD_set' _ _ _ _ _ (by omega), getD_set' _ _ _ _ _ (L2 _ _ (by omega)), getD_set' _ _ _ _ _ (by omega), if_neg (by omega), if_pos rfl, if_neg (by omega), if_pos rfl] at g1
  rw [getD_set' _ _ _ _ _ (L1 _ _ hi), if_pos rfl, getD_set' _ _ _ _ _ (L2 _ _ hi), if_pos rfl] at g2
  obtain ⟨r1, r2⟩ := hI a b c d ha hb hc hd (by omega) (by omega)
  apply list_ext0 hl
  intro k hk
  by_cases k1 : k = i
  · subst k1; rw [ea, ec, r1]
  · by_cases k2 : k = i + 1
    · subst k2; rw [eb, ed, r2]
    · have g3 := congrArg (fun L => L.getD k 0) e
      try simp only at g3
      rw [getD_set' _ _ _ _ _ (L1 _ _ hk), getD_set' _ _ _ _ _ hk, getD_set' _ _ _ _ _ (L2 _ _ hk), getD_set' _ _ _ _ _ (by omega), if_neg k2, if_neg k1, if_neg k2, if_neg k1] at g3
      exact g3
theorem doF_get {f g : List (List Int)} {i : Nat} {l : List Int} {x y : Nat} (hx : l.getD i 0 = (x : Int)) (hy : l.getD (i + 1) 0 = (y : Int)) (k : Nat) (hk : k < l.length) : (doF f g i l).getD k 0 = if k = i + 1 then ((tv g x y : Nat) : Int) else if k = i then ((tv f x y : Nat) : Int) else l.getD k 0 := by
  unfold doF
  rw [hx, hy, Int.toNat_natCast, Int.toNat_natCast, getD_set' _ _ _ _ _ (by rw [List.length_set]; exact hk)]
  split
  · rfl
  · rw [getD_set' _ _ _ _ _ hk]
theorem doF_back {n : Nat} {f g f' g' : List (List Int)} (hb : ∀ x y, x < n → y < n → tv f' (tv f x y) (tv g x y) = x ∧ tv g' (tv f x y) (tv g x y) = y) {i : Nat} {l : List Int} (hi : i + 1 < l.length) (h : Less n l) : doF f' g' i (doF f g i l) = l := by
  obtain ⟨x, hx, ex⟩ := h i (by omega)
  obtain ⟨y, hy, ey⟩ := h (i + 1) hi
  obtain ⟨h1, h2⟩ := hb x y hx hy
  have e1 : (doF f g i l).getD i 0 = ((tv f x y : Nat) : Int) := by rw [doF_get ex ey i (by omega), if_neg (by omega), if_pos rfl]
  have e2 : (doF f g i l).getD (i + 1) 0 = ((tv g x y : Nat) : Int) := by rw [doF_get ex ey (i + 1) hi, if_pos rfl]
  refine list_ext0 (by rw [doF_len, doF_len]) fun k hk => ?_
  have hk' : k < l.length := by rw [doF_len, doF_len] at hk; exact hk
  rw [doF_get e1 e2 k (by rw [doF_len]; exact hk'), h1, h2]
  split
  · rename_i e; rw [e, ey]
  · split
    · rename_i e; rw [e, ex]
    · rw [doF_get ex ey k hk']; rename_i n1 n2; rw [if_neg n1, if_neg n2]
theorem plc_neg {x : Int} (h : x ≠ 0) : plc (-x) = plc x := by
  unfold plc
  by_cases q : x < 0
  · rw [if_pos q, if_neg (by omega)]
  · rw [if_neg q, if_pos (by omega)]; omega
theorem step_back {n : Nat} {f g : List (List Int)} (hn : 1 ≤ n) (hf : Sq n f) (hg : Sq n g) (hc : collOk n f g = true) {x : Int} {l : List Int} (hx : x ≠ 0) (hi : (plc x).toNat + 1 < l.length) (h : Less n l) : stepL n f g (-x) (stepL n f g x l) = l := by
  have h1 : ∀ x y, x < n → y < n → tv (bfT n f g) (tv f x y) (tv g x y) = x ∧ tv (bgT n f g) (tv f x y) (tv g x y) = y := fun x y hx hy =>
    ⟨bf_tv hn hc hx hy (hf.lt hx hy) (hg.lt hx hy) rfl rfl, bg_tv hn hc hx hy (hf.lt hx hy) (hg.lt hx hy) rfl rfl⟩
  have h2 : ∀ u v, u < n → v < n → tv f (tv (bfT n f g) u v) (tv (bgT n f g) u v) = u ∧ tv g (tv (bfT n f g) u v) (tv (bgT n f g) u v) = v := fun u v hu hv => by
    obtain ⟨x, y, hx, hy, e1, e2⟩ := pr_ex hn hf hg hc hu hv
    rw [bf_tv hn hc hx hy hu hv e1 e2, bg_tv hn hc hx hy hu hv e1 e2]
    exact ⟨e1, e2⟩
  unfold stepL
  rw [plc_neg hx]
  by_cases q : 0 < x
  · rw [if_pos q, if_neg (by omega)]
    exact doF_back h1 hi h
  · rw [if_neg q, if_pos (by omega)]
    exact doF_back h2 hi h
theorem digL_num {n s : Nat} (hn : 1 ≤ n) {l : List Int} (hl : l.length = s) (h : Less n l) : digL n s (numL n l) = l := by
  have h1 := numL_lt hn h
  rw [hl] at h1
  exact (num_inj hn (digL n s (numL n l)) l 0 0 (by rw [digL_len, hl]) (digL_less n s _ hn).mem h.mem (numL_dig s _ h1)).2
end Go.Proofs.YtiliimkfobfbnaaGreat
namespace Go.Proofs.YtiliimkfobfbnaaGreat
set_option maxRecDepth 100000
set_option linter.unusedVariables false
set_option linter.unusedSimpArgs false
open Go.RowKit
def RowS (a : Option Addr) (g : Nat) : Prop := a = some ⟨g, 0, none⟩
section
variable {w w' : World} {lo : Nat} {a a1 a2 : Option Addr} {n n1 n2 c c1 c2 : Nat} {xs : List Int}
theorem Own.uLo (h : Own w lo a n c xs) : ∀ g, RowS a g → lo ≤ g := h.lo
theorem Own.uHi (h : Own w lo a n c xs) : ∀ g, RowS a g → g < w.heap.size := h.hi
theorem Own.uKeep (h : Own w lo a n c xs) {S : Nat → Prop} (hm : Marked S w w') (hS : ∀ g, RowS a g → ¬ S g) : Own w' lo a n c xs := h.keep fun g hg hlt => hm.block g hlt (hS g hg)
end
theorem Marked.trans {S : Nat → Prop} {a b c : World} (h : Marked S a b) (k : Marked S b c) : Marked S a c :=
  ⟨k.os.trans h.os, k.tape.trans h.tape, k.output.trans h.output, Nat.le_trans h.size k.size, fun i hi hs => (k.block i (Nat.lt_of_lt_of_le hi h.size) hs).trans (h.block i hi hs)⟩
theorem Marked.mono {S T : Nat → Prop} {w w' : World} (h : Marked S w w') (hS : ∀ g, S g → T g) : Marked T w w' :=
  ⟨h.os, h.tape, h.output, h.size, fun k hk hs => h.block k hk (fun x => hs (hS k x))⟩
theorem Marked.alloc {S : Nat → Prop} {w w' : World} {o : Obj} (h : Marked S (w.alloc o) w') : Marked S w w' :=
  ⟨h.os, h.tape, h.output, Nat.le_trans (by simp) h.size, fun k hk hs => (h.block k (by simp; omega) hs).trans (Below.heap_alloc _ _ _ hk)⟩
/-! ### sz -/
/-! ### eq -/
/-! ### held -/
/-! ### mark -/
/-! ### to -/
theorem copyT_step (xss : List (List Int)) (n k : Nat) (hl : n = xss.length) (hx : k < xss.length) : (xss.take k ++ List.replicate (n - k) []).set k xss[k] = xss.take (k + 1) ++ List.replicate (n - (k + 1)) [] := by
  have e : (xss.take k).length = k := by rw [List.length_take]; omega
  rw [List.set_append_right _ _ (by omega), e, Nat.sub_self, List.take_succ_eq_append_getElem hx, List.append_assoc]
  congr 1
  obtain ⟨m, hm⟩ : ∃ m, n - k = m + 1 := ⟨n - k - 1, by omega⟩
  have hm' : n - (k + 1) = m := by omega
  rw [hm, hm', List.replicate_succ]
  rfl
/-! ### in one form: 'Below' -/
def RetT (w : World) (xss : List (List Int)) (code : Int) (e : Ending) (w' : World) : Prop :=
  ∃ a n c vs, e = .returned (.tuple #[.slice a n c, .int .i64 code]) ∧ OwnT w' w.heap.size a n c vs xss ∧ Below w.heap.size w w'
def RetI (w : World) (x : Int) (code : Int) (e : Ending) (w' : World) : Prop := e = .returned (.tuple #[.int .i64 x, .int .i64 code]) ∧ Below w.heap.size w w'
def TblS (a : Option Addr) (n : Nat) (vs : List SV) (g : Nat) : Prop := a = some ⟨g, 0, none⟩ ∨ ∃ i, i < n ∧ (vs.getD i svO).1 = some ⟨g, 0, none⟩
section
variable {w w' : World} {lo : Nat} {a a1 a2 : Option Addr} {n n1 n2 c c1 c2 : Nat} {vs : List SV} {xss : List (List Int)}
theorem OwnT.uLo (h : OwnT w lo a n c vs xss) : ∀ g, TblS a n vs g → lo ≤ g := fun g hg => h.blo g hg
theorem OwnT.uHi (h : OwnT w lo a n c vs xss) : ∀ g, TblS a n vs g → g < w.heap.size := fun g hg => h.bhi g hg
theorem OwnT.uKeep (h : OwnT w lo a n c vs xss) {S : Nat → Prop} (hm : Marked S w w') (hS : ∀ g, TblS a n vs g → ¬ S g) : OwnT w' lo a n c vs xss := h.keep fun g hg hlt => hm.block g hlt (hS g hg)
end
end Go.Proofs.YtiliimkfobfbnaaGreat
