/-
  Walks and plain laws of this seat, some texts in one.
  No condition but bounds on lengths.
-/
import Derived.Test.YtiliimkfobfbnaaGreatPt11
import Derived.Test.YtiliimkfobfbnaaGreatPt13
import Derived.Test.YtiliimkfobfbnaaGreatPt12
import Derived.Test.YtiliimkfobfbnaaGreatPt5
import Derived.Test.YtiliimkfobfbnaaGreatPt9
import Derived.Test.YtiliimkfobfbnaaGreatPt8
namespace Go.Proofs.YtiliimkfobfbnaaGreat
set_option maxRecDepth 100000
set_option linter.unusedVariables false
set_option linter.unusedSimpArgs false
open Go.RowKit
set_option maxHeartbeats 1000000 in
theorem indexN_no (a : Option Addr) (n c : Nat) (xs : List Int) (y : Int) (w : World) (h1 : Row w a n xs) (hm : n ≤ 1000000000000) (hno : ∀ i, i < n → xs.getD i 0 ≠ y) :
    Calls Tryz.prog 104 #[.slice a n c, .int .i64 y] w fun e w' => e = .returned (.int .i64 (-1)) ∧ w = w' := by
  have HNO := Lib.hid hno; clear hno
  go_enter Tryz.func104, Tryz.ntmps104
  go_wp2
  go_loop [8] (fun i => ∃ k : Nat, k ≤ n ∧ i = .int .i64 k) (fun i => n - (intOf i).toNat)
  case atStart => exact ⟨0, Nat.zero_le _, rfl⟩
  case round =>
    obtain ⟨k, hk, rfl⟩ := hrel
    by_cases hlt : k < n
    · obtain ⟨b, off, rfl, g1⟩ := h1.at k hlt
      have i1 : (0 : Int) ≤ (k : Int) := by omega
      have i2 : (k : Int) < (n : Int) := by omega
      obtain ⟨X, HX⟩ : ∃ X, Hid (xs.getD k 0 = X) := ⟨_, rfl⟩
      rw [HX.out] at g1
      have hne : (y == X) = false := by
        have := HNO.out k hlt
        rw [HX.out] at this
        simpa using fun h => this h.symm
      go_wp2
      go_round
      case rel => exact ⟨k + 1, by omega, by go_num⟩
      case measure => simp [intOf]; omega
    · obtain rfl : k = n := by omega
      go_wp2
      go_ret
      exact ⟨rfl, rfl⟩
set_option maxHeartbeats 4000000 in
theorem numbered_any (n : Nat) (L : Nat → Nat) (a : Option Addr) (c : Nat) (w : World) (h1 : Row w a n (lbL n L)) (hL : Ldr n L) (hn : n ≤ 12) :
    Calls Tryz.prog 106 #[.slice a n c] w fun e w' => ∃ a' c', e = .returned (.slice a' n c') ∧ Own w' w.heap.size a' n c' (clsL n L) ∧ Below w.heap.size w w' := by
  have HL := Lib.hid hL
  clear hL
  go_enter Tryz.func106, Tryz.ntmps106
  go_wp2_with (at_make; refine make1 rfl rfl rfl rfl (by omega) ?_; intro w1 ho hs hb)
  go_loopw [3, 13] (fun z i wr => ∃ (k : Nat) (as_ : Option Addr) (ms cs : Nat), k ≤ n ∧ i = .int .i64 k ∧ z = .slice as_ ms cs ∧ Own wr w1.heap.size as_ ms cs (ldsL k L) ∧ Own wr w.heap.size (some ⟨w.heap.size, 0, none⟩) n n (clsL k L ++ List.replicate (n - k) 0) ∧ Below w.heap.size w wr ∧ w1.heap.size ≤ wr.heap.size) (fun _ i _ => n - (intOf i).toNat)
  case atStart => exact ⟨0, none, 0, 0, Nat.zero_le _, rfl, rfl, Own.nil _ _, by simpa [clsL] using ho, hb, Nat.le_refl _⟩
  case round =>
    clear ho hb
    obtain ⟨k, as_, ms, cs, hk, rfl, rfl, hz, ho, hb, hle⟩ := hrel
    by_cases hlt : k < n
    · have hr := h1.below hb
      obtain ⟨b, off, rfl, g1⟩ := hr.at k hlt
      rw [lbL_get L hlt] at g1
      have hms : ms = rkL L k := by have := hz.len; rw [ldsL_len] at this; exact this
      have hmb : ms ≤ 12 := by have := rkL_bd L k; omega
      have hLk := HL.out.le k hlt
      have hid := HL.out.idem k hlt
      have hcl := HL.out.cl_lt hlt
      by_cases c1 : L k = k
      · have hX : Hid (L k = k) := Lib.hid c1
        rw [c1] at g1
        have hs := ho.set k ((clN L k : Nat) : Int)
        rw [clsL_step n k L hlt] at hs
        have HCK : Hid (clN L k = ms) := Lib.hid (by unfold clN; rw [c1]; exact hms.symm)
        have HLS : Hid (ldsL (k + 1) L = ldsL k L ++ [(k : Int)]) := Lib.hid (by rw [ldsL_succ, if_pos c1])
        have HCL : Hid (clsL (k + 1) L ++ List.replicate (n - (k + 1)) 0 = (clsL k L ++ List.replicate (n - k) 0).set k ((ms : Nat) : Int)) := Lib.hid (by rw [← HCK.out, clsL_step n k L hlt])
        have HNO := Lib.hid (ldsL_not (L := L) (k := k))
        have HIX := Lib.hid (fun (v : World) (hv : Row v as_ ms (ldsL k L)) => indexN_no as_ ms cs (ldsL k L) (k : Int) v hv (by omega) (by rw [hms, ← ldsL_len]; exact HNO.out))
        have hrow := hz.row
        have hsz := ho.cells.2.2 k
        clear hs hid hcl c1 hLk hms
        have d1 : decide ((-1 : Int) < 0) = true := by decide
        go_wp2_with fail
        refine (HIX.out _ hrow).mono ?_
        rintro e w2 ⟨rfl, hw2⟩
        obtain rfl : wr = w2 := hw2
        go_wp2_with (at_builtin; refine app1 rfl rfl hz rfl rfl (by omega) hle ?_; intro g' cc w8 hO8 hg8 hs8 hb8; have ho8 := ho.keep (w' := w8) (fun g hg _ => hb8.block g (by cases hg; omega)); have hcf := ho8.cells.2.2 k; have hcc := ho8.cells.2.1 k hlt)
        have hst := ho8.set k ((ms : Nat) : Int)
        rw [← HCL.out] at hst
        go_roundw
        case rel => exact ⟨k + 1, _, _, _, by omega, by go_num, rfl, by rw [HLS.out]; exact hO8.setlo (by show w.heap.size < w1.heap.size; omega) _, hst, (hb.trans (hb8.mono (by omega))).setCell (by simp) _, by rw [size_set]; omega⟩
        case measure => simp [intOf]; omega
      · have hLt : L k < k := by omega
        have hs := ho.set k ((clN L k : Nat) : Int)
        rw [clsL_step n k L hlt] at hs
        obtain ⟨x1, x2, x3⟩ := ldsL_idx (k := k) hLt hid
        have hcn : clN L k = rkL L (L k) := rfl
        rw [← hcn] at x1 x2 x3
        have HLS : Hid (ldsL (k + 1) L = ldsL k L) := Lib.hid (by rw [ldsL_succ, if_neg c1, List.append_nil])
        obtain ⟨X, HX⟩ : ∃ X, Hid (L k = X) := ⟨_, Lib.hid rfl⟩
        obtain ⟨q, HQ⟩ : ∃ q, Hid (clN L k = q) := ⟨_, Lib.hid rfl⟩
        rw [HX.out] at g1 x2 x3
        rw [HQ.out] at x1 x2 x3 hs
        have HCL := Lib.hid hs
        have hqm : q < ms := by omega
        have HN := Lib.hid x3; have HE := Lib.hid x2
        have HIX := Lib.hid (fun (v : World) (hv : Row v as_ ms (ldsL k L)) => indexN_any as_ ms cs q (ldsL k L) (X : Int) v hv (by omega) hqm HE.out HN.out)
        have hrow := hz.row
        have hcf := ho.cells.2.2 k
        have hcc := ho.cells.2.1 k hlt
        have d1 : decide ((q : Int) < 0) = false := by simp
        clear hs hid hcl c1 hLk hms hLt x1 x2 x3 hcn
        go_wp2_with fail
        refine (HIX.out _ hrow).mono ?_
        rintro e w2 ⟨rfl, hw2⟩
        obtain rfl : wr = w2 := hw2
        go_wp2
        go_roundw
        case rel => exact ⟨k + 1, _, _, _, by omega, by go_num, rfl, by rw [HLS.out]; exact hz.setlo (by show w.heap.size < w1.heap.size; omega) _, HCL.out, hb.setCell (by simp) _, by rw [size_set]; omega⟩
        case measure => simp [intOf]; omega
    · obtain rfl : k = n := by omega
      go_wp2
      go_ret
      rw [Nat.sub_self, List.replicate_zero, List.append_nil] at ho
      exact ⟨_, _, rfl, ho, hb⟩
set_option maxHeartbeats 4000000 in
theorem firstOf_any (n : Nat) (L : Nat → Nat) (a : Option Addr) (c : Nat) (w : World) (h1 : Row w a n (clsL n L)) (hL : Ldr n L) (hn : n ≤ 12) :
    Calls Tryz.prog 77 #[.slice a n c] w fun e w' => ∃ a' c', e = .returned (.slice a' (rkL L n) c') ∧ Own w' w.heap.size a' (rkL L n) c' (ldsL n L) ∧ Below w.heap.size w w' := by
  have HL := Lib.hid hL
  clear hL
  go_enter Tryz.func77, Tryz.ntmps77
  go_wp2
  go_loopw [3, 8] (fun z i wr => ∃ (k : Nat) (as_ : Option Addr) (ms cs : Nat), k ≤ n ∧ i = .int .i64 k ∧ z = .slice as_ ms cs ∧ Own wr w.heap.size as_ ms cs (ldsL k L) ∧ Below w.heap.size w wr) (fun _ i _ => n - (intOf i).toNat)
  case atStart => exact ⟨0, none, 0, 0, Nat.zero_le _, rfl, rfl, Own.nil _ _, Below.refl _ _⟩
  case round =>
    obtain ⟨k, as_, ms, cs, hk, rfl, rfl, hz, hb⟩ := hrel
    by_cases hlt : k < n
    · have hr := h1.below hb
      obtain ⟨b, off, rfl, g1⟩ := hr.at k hlt
      rw [clsL_get L hlt] at g1
      have hms : ms = rkL L k := by have := hz.len; rw [ldsL_len] at this; exact this
      have hmb : ms ≤ 12 := by have := rkL_bd L k; omega
      have hf := HL.out.first hlt
      have hbs := hb.size
      by_cases c1 : L k = k
      · have HLS : Hid (ldsL (k + 1) L = ldsL k L ++ [(k : Int)]) := Lib.hid (by rw [ldsL_succ, if_pos c1])
        rw [hf.2 c1, ← hms] at g1
        have u1 : ((ms : Int) == (ms : Int)) = true := by simp
        clear hf c1 hms
        go_wp2_with (at_builtin; refine app1 rfl rfl hz rfl rfl (by omega) hbs ?_; intro g' cc w8 hO8 hg8 hs8 hb8)
        go_roundw
        case rel => exact ⟨k + 1, _, _, _, by omega, by go_num, rfl, by rw [HLS.out]; exact hO8, hb.trans hb8⟩
        case measure => simp [intOf]; omega
      · have HLS : Hid (ldsL (k + 1) L = ldsL k L) := Lib.hid (by rw [ldsL_succ, if_neg c1, List.append_nil])
        have hne : clN L k ≠ ms := fun e => c1 (hf.1 (by rw [e, hms]))
        have u1 : ((clN L k : Int) == (ms : Int)) = false := by simp; omega
        clear hf c1 hms hne
        generalize clN L k = q at *
        go_wp2
        go_roundw
        case rel => exact ⟨k + 1, _, _, _, by omega, by go_num, rfl, by rw [HLS.out]; exact hz, hb⟩
        case measure => simp [intOf]; omega
    · obtain rfl : k = n := by omega
      have hms : ms = rkL L k := by have := hz.len; rw [ldsL_len] at this; exact this
      subst hms
      go_wp2
      go_ret
      exact ⟨_, _, rfl, hz, hb⟩
set_option maxHeartbeats 4000000 in
theorem isNondegenerate_any (n : Nat) (a a' : Option Addr) (c c' : Nat) (f g : List (List Int)) (w : World) (h1 : Tbl w a n f) (h2 : Tbl w a' n g) (hf : Sq n f) (hg : Sq n g) (hn : n ≤ 12) :
    Calls Tryz.prog 30 #[sAgg a n c a' n c'] w fun e w' => e = .returned (.bool (ndF f g)) ∧ Below w.heap.size w w' := by
  have hA := Loc.new w rfl #[.slice a n c, .slice a' n c'] 29
  have hB := below_al (Below.refl w.heap.size w) (.cells #[.slice a n c, .slice a' n c'] 29)
  have lA := hA.two
  have hR : ∀ (t : List (List Int)), Sq n t → ∀ x ∈ t, x.length ≤ 1000000 := fun t ht x hx => by
    obtain ⟨i, hi, rfl⟩ := List.getElem_of_mem hx
    have := ht.row (x := i) (by rw [← ht.len]; exact hi)
    rw [List.getD_eq_getElem?_getD, List.getElem?_eq_getElem hi, Option.getD_some] at this
    omega
  have HR1 := Lib.hid (hR f hf)
  have HR2 := Lib.hid (hR _ (trnL_sq hg))
  have HG := Lib.hid hg
  have HN : Hid (ndF f g = (f.all permOk && (trnL n g).all permOk)) := Lib.hid (by unfold ndF; rw [hf.len])
  clear hR hf hg
  rw [HN.out]
  cases hp : f.all permOk with
  | false =>
    have HP := Lib.hid hp; clear hp
    go_enter Tryz.func30, Tryz.ntmps30
    go_wp2_with fail
    refine (permutationRows_any _ _ _ f _ (h1.below hB) (by omega) HR1.out).mono ?_
    rintro e w1 ⟨rfl, hb1⟩
    rw [HP.out]
    go_wp2
    go_ret
    exact ⟨rfl, below_th hB hb1⟩
  | true =>
    have HP := Lib.hid hp; clear hp
    go_enter Tryz.func30, Tryz.ntmps30
    go_wp2_with fail
    refine (permutationRows_any _ _ _ f _ (h1.below hB) (by omega) HR1.out).mono ?_
    rintro e w1 ⟨rfl, hb1⟩
    rw [HP.out]
    have lA1 := (hA.below hb1 hA.lt).two
    have hB1 := below_th hB hb1
    go_wp2_with fail
    refine (transposed_any n _ _ g _ (h2.below hB1) HG.out hn).mono ?_
    rintro e w2 ⟨a2, c2, vs2, rfl, ho2, hb2⟩
    have hB2 := below_th hB1 hb2
    go_wp2_with fail
    refine (permutationRows_any _ _ _ _ _ ho2.tbl (by omega) HR2.out).mono ?_
    rintro e w3 ⟨rfl, hb3⟩
    go_wp2
    go_ret
    exact ⟨ret_bool rfl, below_th hB2 hb3⟩
def alB (n : Nat) (f g : List (List Int)) (x y : Nat) : Bool := decide (f.getD x [] = f.getD y []) && decide ((trnL n g).getD x [] = (trnL n g).getD y [])
def ldA (n : Nat) (f g : List (List Int)) (x : Nat) : Nat := ((List.range x).find? fun y => alB n f g x y).getD x
theorem alB_iff {n : Nat} {f g : List (List Int)} {x y : Nat} : alB n f g x y = true ↔ f.getD x [] = f.getD y [] ∧ (trnL n g).getD x [] = (trnL n g).getD y [] := by
  unfold alB; simp only [Bool.and_eq_true, decide_eq_true_eq]
theorem find_first {P : Nat → Bool} {x y : Nat} (hy : y < x) (hp : P y = true) (hn : ∀ z, z < y → P z = false) : (List.range x).find? P = some y := by
  rw [List.find?_eq_some_iff_getElem]
  refine ⟨hp, y, by simpa using hy, by simp, fun j hj => ?_⟩
  simp [hn j hj]
theorem find_none {P : Nat → Bool} {x : Nat} (hn : ∀ z, z < x → P z = false) : (List.range x).find? P = none := by
  rw [List.find?_eq_none]
  intro z hz
  simp [hn z (List.mem_range.1 hz)]
theorem ldA_no {n : Nat} {f g : List (List Int)} {x : Nat} (hn : ∀ z, z < x → alB n f g x z = false) : ldA n f g x = x := by
  unfold ldA; rw [find_none hn]; rfl
theorem ldA_yes {n : Nat} {f g : List (List Int)} {x y : Nat} (hy : y < x) (hp : alB n f g x y = true) (hn : ∀ z, z < y → alB n f g x z = false) : ldA n f g x = y ∧ ldA n f g y = y := by
  refine ⟨by unfold ldA; rw [find_first hy hp hn]; rfl, ldA_no fun z hz => ?_⟩
  cases e : alB n f g y z with
  | false => rfl
  | true =>
    have h1 := alB_iff.1 hp
    have h2 := alB_iff.1 e
    have := hn z hz
    rw [alB_iff.2 ⟨h1.1.trans h2.1, h1.2.trans h2.2⟩] at this
    exact absurd this (by simp)
theorem ldA_of (n : Nat) (f g : List (List Int)) : LdrOf n (fun x y => alB n f g x y = true) (ldA n f g) := by
  intro x hx
  by_cases h : ∃ y, y < x ∧ alB n f g x y = true
  · obtain ⟨y, ⟨h1, h2⟩, hmin⟩ : ∃ y, (y < x ∧ alB n f g x y = true) ∧ ∀ z, z < y → ¬ (z < x ∧ alB n f g x z = true) := by
      obtain ⟨y0, h0⟩ := h
      induction y0 using Nat.strongRecOn with
      | ind y0 ih =>
        by_cases c : ∃ z, z < y0 ∧ (z < x ∧ alB n f g x z = true)
        · obtain ⟨z, hz, hz2⟩ := c; exact ih z hz hz2
        · exact ⟨y0, h0, fun z hz hz2 => c ⟨z, hz, hz2⟩⟩
    have hno : ∀ z, z < y → alB n f g x z = false := fun z hz => by
      have := hmin z hz
      cases e : alB n f g x z with
      | false => rfl
      | true => exact absurd ⟨by omega, e⟩ this
    obtain ⟨e1, _⟩ := ldA_yes h1 h2 hno
    rw [e1]
    refine ⟨by omega, h2, fun z hz hzz => ?_⟩
    by_cases c : z < y
    · have hq : alB n f g x z = true := hzz
      rw [hno z c] at hq; exact absurd hq (by simp)
    · omega
  · have hno : ∀ z, z < x → alB n f g x z = false := fun z hz => by
      cases e : alB n f g x z with
      | false => rfl
      | true => exact absurd ⟨z, hz, e⟩ h
    rw [ldA_no hno]
    refine ⟨hx, alB_iff.2 ⟨rfl, rfl⟩, fun z hz hzz => ?_⟩
    by_cases c : z < x
    · have hq : alB n f g x z = true := hzz
      rw [hno z c] at hq; exact absurd hq (by simp)
    · omega
theorem alB_eqv (n : Nat) (f g : List (List Int)) : Eqv n (fun x y => alB n f g x y = true) :=
  ⟨fun x _ => alB_iff.2 ⟨rfl, rfl⟩, fun x y _ _ h => alB_iff.2 ⟨(alB_iff.1 h).1.symm, (alB_iff.1 h).2.symm⟩, fun x y z _ _ _ h h' => alB_iff.2 ⟨(alB_iff.1 h).1.trans (alB_iff.1 h').1, (alB_iff.1 h).2.trans (alB_iff.1 h').2⟩⟩
theorem ldA_ldr (n : Nat) (f g : List (List Int)) : Ldr n (ldA n f g) := (ldA_of n f g).ldr (alB_eqv n f g)
def lbA (n : Nat) (L : Nat → Nat) (k : Nat) : List Int := (List.range n).map fun i => (((if i < k then L i else i) : Nat) : Int)
theorem lbA_zero (n : Nat) (L : Nat → Nat) : lbA n L 0 = unitL n := by unfold lbA unitL; simp
theorem lbA_all (n : Nat) (L : Nat → Nat) : lbA n L n = lbL n L := by
  unfold lbA lbL
  exact List.map_congr_left fun i hi => by rw [if_pos (List.mem_range.1 hi)]
theorem lbA_get {n i : Nat} (L : Nat → Nat) (k : Nat) (h : i < n) : (lbA n L k).getD i 0 = (((if i < k then L i else i) : Nat) : Int) := by
  simp [lbA, List.getD_eq_getElem?_getD, List.getElem?_map, h]
theorem lbA_set {n k : Nat} (L : Nat → Nat) (h : k < n) : (lbA n L k).set k ((L k : Nat) : Int) = lbA n L (k + 1) := by
  apply List.ext_getElem
  · simp [lbA]
  · intro i h1 h2
    simp only [lbA, List.getElem_set, List.getElem_map, List.getElem_range]
    by_cases e : k = i
    · subst e; rw [if_pos rfl, if_pos (by omega)]
    · rw [if_neg e]
      by_cases c : i < k
      · rw [if_pos c, if_pos (by omega)]
      · rw [if_neg c, if_neg (by omega)]
theorem lbA_same {n k : Nat} (L : Nat → Nat) (h : k < n) (e : L k = k) : lbA n L (k + 1) = lbA n L k := by
  unfold lbA
  refine List.map_congr_left fun i hi => ?_
  by_cases c : i < k
  · rw [if_pos c, if_pos (by omega)]
  · by_cases d : i = k
    · subst d; rw [if_pos (by omega), if_neg c, e]
    · rw [if_neg c, if_neg (by omega)]
set_option maxHeartbeats 8000000 in
theorem alikeClasses_any (n : Nat) (a a' : Option Addr) (c c' : Nat) (f g : List (List Int)) (w : World) (h1 : Tbl w a n f) (h2 : Tbl w a' n g) (hf : Sq n f) (hg : Sq n g) (hn1 : 1 ≤ n) (hn : n ≤ 12) :
    Calls Tryz.prog 76 #[sAgg a n c a' n c'] w fun e w' => ∃ a1 c1, e = .returned (.slice a1 n c1) ∧ Own w' w.heap.size a1 n c1 (clsL n (ldA n f g)) ∧ Below w.heap.size w w' := by
  have HF := Lib.hid hf; have HG := Lib.hid hg
  have HST : Hid (Sq n (trnL n g)) := Lib.hid (Sq.tab fun x y hx hy => hg.lt hy hx)
  clear hf hg
  obtain ⟨w0, hw0⟩ : ∃ w0, w.alloc (.cells #[.slice a n c, .slice a' n c'] 29) = w0 := ⟨_, rfl⟩
  have hA : Loc w0 w.heap.size #[.slice a n c, .slice a' n c'] 29 := by rw [← hw0]; exact Loc.new w rfl _ _
  have hB : Below w.heap.size w w0 := by rw [← hw0]; exact below_al (Below.refl _ _) _
  have lA := hA.two
  go_enter Tryz.func76, Tryz.ntmps76
  go_wp2_with fail
  try rw [hw0]
  refine (transposed_any n _ c' g _ (h2.below hB) HG.out hn).mono ?_
  rintro e w1 ⟨ar, cr, vr, rfl, hor, hb1⟩
  have hB1 := below_th hB hb1
  have hA1 := hA.below hb1 hA.lt
  have lA1 := hA1.two
  go_wp2_with fail
  refine (identity_any n _ (by omega)).mono ?_
  rintro e w2 ⟨al, cl, rfl, hol, hb2⟩
  have hB2 := below_th hB1 hb2
  have hA2 := hA1.below hb2 hA1.lt
  have hor2 := hor.below hb2
  have hrhi := hor.uHi
  have hz1 := hb1.size
  have hz2 := hb2.size
  have hz := hB.size
  have hAlt := hA1.lt
  obtain ⟨b, rfl⟩ : ∃ b, al = some ⟨b, 0, none⟩ := by
    rcases hol.block with ⟨_, h, _⟩ | ⟨g', cur, h, _⟩
    · omega
    · exact ⟨g', h⟩
  have hblo : w1.heap.size ≤ b := hol.lo _ rfl
  rw [← lbA_zero n (ldA n f g)] at hol
  have hq0 : Below w1.heap.size w1 w2 := hb2
  clear lA lA1 hA hor2 hb1 hb2 hw0
  go_wp2
  go_loopw [16] (fun i wr => ∃ k : Nat, k ≤ n ∧ i = .int .i64 k ∧ Own wr w1.heap.size (some ⟨b, 0, none⟩) n cl (lbA n (ldA n f g) k) ∧ Below w1.heap.size w1 wr) (fun i _ => n - (intOf i).toNat)
  case atStart => exact ⟨0, Nat.zero_le _, rfl, hol, hq0⟩
  case round =>
    clear hol hq0
    obtain ⟨x, hx, rfl, hol, hq⟩ := hrel
    by_cases hlt : x < n
    · obtain ⟨V, rfl⟩ : ∃ V : World, V = wr := ⟨_, rfl⟩
      have hBV := below_th hB1 hq
      have hqs := hq.size
      go_wp2
      go_loopw [20] (fun i wq => ∃ y : Nat, y ≤ x ∧ i = .int .i64 y ∧ Hid (∀ z, z < y → alB n f g x z = false) ∧ ∃ m, wq = V.drewN m) (fun i _ => x - (intOf i).toNat)
      case atStart => exact ⟨0, Nat.zero_le _, rfl, Lib.hid fun z hz => absurd hz (by omega), 0, rfl⟩
      case round =>
        obtain ⟨y, hy, rfl, HN, m, rfl⟩ := hrel
        by_cases hlty : y < x
        · have hyn : y < n := by omega
          have hBm := below_drewN hBV m
          have t1 := h1.below hBm
          have hrm := ((hor.below hq).drewN m).tbl
          have lA := ((hA1.below hq hA1.lt).drewN m).two
          obtain ⟨b1, o1, a1, n1, c1, rfl, g1, r1, l1⟩ := t1.at x hlt
          obtain ⟨b2, o2, a2, n2, c2, e2, g2, r2, l2⟩ := t1.at y hyn
          cases e2
          obtain ⟨b3, o3, a3, n3, c3, rfl, g3, r3, l3⟩ := hrm.at x hlt
          obtain ⟨b4, o4, a4, n4, c4, e4, g4, r4, l4⟩ := hrm.at y hyn
          cases e4
          obtain ⟨X, HX⟩ : ∃ X, Hid (f.getD x [] = X) := ⟨_, Lib.hid rfl⟩
          obtain ⟨Y, HY⟩ : ∃ Y, Hid (f.getD y [] = Y) := ⟨_, Lib.hid rfl⟩
          obtain ⟨P, HP⟩ : ∃ P, Hid ((trnL n g).getD x [] = P) := ⟨_, Lib.hid rfl⟩
          obtain ⟨Q, HQ⟩ : ∃ Q, Hid ((trnL n g).getD y [] = Q) := ⟨_, Lib.hid rfl⟩
          rw [HX.out] at r1; rw [HY.out] at r2; rw [HP.out] at r3; rw [HQ.out] at r4
          have HAL : Hid (alB n f g x y = (decide (X = Y) && decide (P = Q))) := Lib.hid (by unfold alB; rw [HX.out, HY.out, HP.out, HQ.out])
          have i1 : (0 : Int) ≤ (x : Int) := by omega
          have i2 : (x : Int) < (n : Int) := by omega
          have i3 : (0 : Int) ≤ (y : Int) := by omega
          have i4 : (y : Int) < (n : Int) := by omega
          obtain ⟨W, hW⟩ : ∃ W, V.drewN m = W := ⟨_, rfl⟩
          have HWW := Lib.hid hW
          rw [hW] at lA g1 g2 g3 g4 r1 r2 r3 r4 hBm ⊢
          clear hW t1 hrm
          cases d1 : decide (X = Y) with
          | false =>
            have HNA : Hid (alB n f g x y = false) := Lib.hid (by rw [HAL.out, d1]; rfl)
            have HS1 : Hid (∀ m, Calls Tryz.prog 79 #[.slice a1 n1 c1, .slice a2 n2 c2] (W.drewN m) fun e w'' => e = .returned (.bool false) ∧ ∃ k, w'' = W.drewN k) := Lib.hid fun m => (sEqual_any a1 a2 n1 n2 c1 c2 X Y (W.drewN m) (r1.drewN m) (r2.drewN m) l1).mono fun e w'' ⟨he, k, hk⟩ => ⟨by rw [he, d1], m + k, by rw [hk, World.drewN_drewN]⟩
            clear d1
            go_wp2
            go_quiet ((go_at_call 79; with_reducible exact HS1.out _))
            go_wp2
            go_roundw
            case rel => exact ⟨y + 1, by omega, by go_num, Lib.hid (fun z hz => by by_cases e : z = y; (subst e; exact HNA.out); exact HN.out z (by omega)), m + nq, by rw [← HWW.out, World.drewN_drewN]⟩
            case measure => simp [intOf]; omega
          | true =>
            have HS1 : Hid (∀ m, Calls Tryz.prog 79 #[.slice a1 n1 c1, .slice a2 n2 c2] (W.drewN m) fun e w'' => e = .returned (.bool true) ∧ ∃ k, w'' = W.drewN k) := Lib.hid fun m => (sEqual_any a1 a2 n1 n2 c1 c2 X Y (W.drewN m) (r1.drewN m) (r2.drewN m) l1).mono fun e w'' ⟨he, k, hk⟩ => ⟨by rw [he, d1], m + k, by rw [hk, World.drewN_drewN]⟩
            obtain ⟨D, HD⟩ : ∃ D, Hid (decide (P = Q) = D) := ⟨_, Lib.hid rfl⟩
            have HNA : Hid (alB n f g x y = D) := Lib.hid (by rw [HAL.out, d1, HD.out]; rfl)
            have HS2 : Hid (∀ m, Calls Tryz.prog 79 #[.slice a3 n3 c3, .slice a4 n4 c4] (W.drewN m) fun e w'' => e = .returned (.bool D) ∧ ∃ k, w'' = W.drewN k) := Lib.hid fun m => (sEqual_any a3 a4 n3 n4 c3 c4 P Q (W.drewN m) (r3.drewN m) (r4.drewN m) l3).mono fun e w'' ⟨he, k, hk⟩ => ⟨by rw [he, HD.out], m + k, by rw [hk, World.drewN_drewN]⟩
            clear d1
            go_wp2
            go_quiet ((go_at_call 79; first | (with_reducible exact HS1.out _) | (with_reducible exact HS2.out _)))
            cases D with
            | false =>
              go_wp2
              go_roundw
              case rel => exact ⟨y + 1, by omega, by go_num, Lib.hid (fun z hz => by by_cases e : z = y; (subst e; exact HNA.out); exact HN.out z (by omega)), m + nq, by rw [← HWW.out, World.drewN_drewN]⟩
              case measure => simp [intOf]; omega
            | true =>
              obtain ⟨e1, e2⟩ := ldA_yes hlty HNA.out HN.out
              have hoW : Own W w1.heap.size (some ⟨b, 0, none⟩) n cl (lbA n (ldA n f g) x) := by rw [← HWW.out]; exact hol.drewN m
              have hoW2 := hoW.drewN nq
              have hcy := hoW2.cells.2.1 y hyn
              rw [lbA_get _ x hyn, if_pos hlty, e2] at hcy
              have hcx := hoW2.cells.2.1 x hlt
              have hcf := hoW2.cells.2.2 x
              have hst := hoW2.set x ((y : Nat) : Int)
              have HST2 : Hid ((lbA n (ldA n f g) x).set x ((y : Nat) : Int) = lbA n (ldA n f g) (x + 1)) := Lib.hid (by rw [← e1]; exact lbA_set _ hlt)
              have hbb : Below w1.heap.size w1 (W.drewN nq) := below_drewN (by rw [← HWW.out]; exact below_drewN hq m) nq
              clear e1 e2
              go_wp2
              go_roundw
              case rel => exact ⟨x + 1, by omega, by go_num, by rw [← HST2.out]; exact hst, hbb.setCell hblo _⟩
              case measure => simp [intOf]; omega
        · obtain rfl : y = x := by omega
          have HLX : Hid (lbA n (ldA n f g) (y + 1) = lbA n (ldA n f g) y) := Lib.hid (lbA_same _ hlt (ldA_no HN.out))
          go_wp2
          go_roundw
          case rel => exact ⟨y + 1, by omega, by go_num, by rw [HLX.out]; exact hol.drewN m, below_drewN hq m⟩
          case measure => simp [intOf]; omega
    · obtain rfl : x = n := by omega
      rw [lbA_all] at hol
      have HLD := Lib.hid (ldA_ldr x f g)
      have hrow := hol.row
      go_wp2_with fail
      refine (numbered_any x (ldA x f g) _ _ _ hrow HLD.out hn).mono ?_
      rintro e w3 ⟨a3, c3, rfl, ho3, hb3⟩
      have hqs := hq.size
      go_wp2
      go_ret
      exact ⟨a3, c3, rfl, ho3.mono (by omega), below_th (below_th hB1 hq) hb3⟩
theorem ldsL_get {n u : Nat} {L : Nat → Nat} (hu : u < rkL L n) : (ldsL n L).getD u 0 = ((fsN n L u : Nat) : Int) := by
  have h : u < (ldsN n L).length := hu
  unfold ldsL fsN
  rw [List.getD_eq_getElem?_getD, List.getD_eq_getElem?_getD, List.getElem?_map, List.getElem?_eq_getElem h]
  rfl
def quV (n : Nat) (L : Nat → Nat) (t : List (List Int)) (u v : Nat) : Nat := clN L (tv t (fsN n L u) (fsN n L v))
def quT (n : Nat) (L : Nat → Nat) (t : List (List Int)) : List (List Int) := tabF (rkL L n) fun u v => ((quV n L t u v : Nat) : Int)
set_option maxHeartbeats 4000000 in
theorem retractOf1_any (n bf bc bs : Nat) (tf tc ts : TypeId) (a a' af ac : Option Addr) (c c' cf cc : Nat) (f g : List (List Int)) (L : Nat → Nat) (w : World) (hFst : Loc w bf #[.slice af (rkL L n) cf] tf) (hCls : Loc w bc #[.slice ac n cc] tc) (hS : Loc w bs #[.slice a n c, .slice a' n c'] ts) (h1 : Tbl w a n f) (h2 : Tbl w a' n g) (hrf : Row w af (rkL L n) (ldsL n L)) (hrc : Row w ac n (clsL n L)) (hL : Ldr n L) (hf : Sq n f) (hg : Sq n g) (hn1 : 1 ≤ n) (hn : n ≤ 12) (x y : Nat) (hx : x < rkL L n) (hy : y < rkL L n) :
    Calls Tryz.prog 78 #[.int .i64 x, .int .i64 y, .pointer (some ⟨bf, 0, none⟩), .pointer (some ⟨bc, 0, none⟩), .pointer (some ⟨bs, 0, none⟩)] w fun e w' => e = .returned (.tuple #[.int .i64 ((quV n L f x y : Nat) : Int), .int .i64 ((quV n L g x y : Nat) : Int)]) ∧ ∃ m, w' = w.drewN m := by
  obtain ⟨b1, o1, A, O, C, rfl, gf⟩ := h1.grid hf hn1
  obtain ⟨b2, o2, A', O', C', rfl, gg⟩ := h2.grid hg hn1
  have hm := rkL_bd L n
  obtain ⟨b3, o3, rfl, e1⟩ := hrf.at x hx
  obtain ⟨b3', o3', e0, e2⟩ := hrf.at y hy
  cases e0
  rw [ldsL_get hx] at e1
  rw [ldsL_get hy] at e2
  have hX := hL.fs_lt hx
  have hY := hL.fs_lt hy
  have q1 := hf.lt hX hY
  have q2 := hg.lt hX hY
  obtain ⟨b4, o4, rfl, e3⟩ := hrc.at _ q1
  obtain ⟨b4', o4', e0, e4⟩ := hrc.at _ q2
  cases e0
  rw [clsL_get L q1] at e3
  rw [clsL_get L q2] at e4
  have d1 : quV n L f x y = clN L (tv f (fsN n L x) (fsN n L y)) := rfl
  have d2 : quV n L g x y = clN L (tv g (fsN n L x) (fsN n L y)) := rfl
  rw [d1, d2]
  have k1 := gf.look hX hY
  have k2 := gg.look hX hY
  generalize rkL L n = M at *
  generalize fsN n L x = X at *
  generalize fsN n L y = Y at *
  generalize tv f X Y = P at *
  generalize tv g X Y = Q at *
  generalize clN L P = P2 at *
  generalize clN L Q = Q2 at *
  have l1 := hFst.one
  have l2 := hCls.one
  have l3 := hS.two
  clear hL d1 d2
  have i1 : (0 : Int) ≤ (x : Int) := by omega
  have i2 : (x : Int) < (M : Int) := by omega
  have i3 : (0 : Int) ≤ (y : Int) := by omega
  have i4 : (y : Int) < (M : Int) := by omega
  have i5 : (0 : Int) ≤ (X : Int) := by omega
  have i6 : (X : Int) < (n : Int) := by omega
  have i7 : (0 : Int) ≤ (Y : Int) := by omega
  have i8 : (Y : Int) < (n : Int) := by omega
  have i9 : (0 : Int) ≤ (P : Int) := by omega
  have i10 : (P : Int) < (n : Int) := by omega
  have i11 : (0 : Int) ≤ (Q : Int) := by omega
  have i12 : (Q : Int) < (n : Int) := by omega
  go_enter Tryz.func78, Tryz.ntmps78
  go_wp2
  go_quiet (fail)
  go_wp2
  go_quiet (fail)
  go_wp2
  go_ret2
  exact ⟨rfl, _, by rw [World.drewN_drewN]⟩
theorem ent_ret1 : Ent 78 := fun _ _ => rfl
set_option maxHeartbeats 8000000 in
theorem retractOf_any (n : Nat) (a a' : Option Addr) (c c' : Nat) (f g : List (List Int)) (w : World) (h1 : Tbl w a n f) (h2 : Tbl w a' n g) (hf : Sq n f) (hg : Sq n g) (hn1 : 1 ≤ n) (hn : n ≤ 12) :
    Calls Tryz.prog 42 #[sAgg a n c a' n c'] w fun e w' => ∃ a1 c1 vs a1' c1' vs', e = .returned (sAgg a1 (rkL (ldA n f g) n) c1 a1' (rkL (ldA n f g) n) c1') ∧ OwnS w' w.heap.size a1 (rkL (ldA n f g) n) c1 vs (quT n (ldA n f g) f) a1' (rkL (ldA n f g) n) c1' vs' (quT n (ldA n f g) g) ∧ Below w.heap.size w w' := by
  have HF := Lib.hid hf; have HG := Lib.hid hg
  have HLD := Lib.hid (ldA_ldr n f g)
  have hmb := rkL_bd (ldA n f g) n
  clear hf hg
  have HAC := Lib.hid (fun (w : World) (h1 : Tbl w a n f) (h2 : Tbl w a' n g) => alikeClasses_any n a a' c c' f g w h1 h2 HF.out HG.out hn1 hn)
  obtain ⟨L, HLL⟩ : ∃ L, Hid (ldA n f g = L) := ⟨_, Lib.hid rfl⟩
  have hac := HAC.out; have hld := HLD.out
  rw [HLL.out] at hac hld hmb ⊢
  clear HAC HLD
  have HAC := Lib.hid hac; have HLD := Lib.hid hld
  clear hac hld
  obtain ⟨M, HM⟩ : ∃ M, Hid (rkL L n = M) := ⟨_, Lib.hid rfl⟩
  have hfo := fun (aa : Option Addr) (cc : Nat) (w : World) (hr : Row w aa n (clsL n L)) => firstOf_any n L aa cc w hr HLD.out hn
  rw [HM.out] at hmb hfo ⊢
  have HFO := Lib.hid hfo
  clear hfo
  obtain ⟨w0, hw0⟩ : ∃ w0, (w.alloc (.cells #[.slice a n c, .slice a' n c'] 29)).alloc (.cells #[.slice none 0 0, .slice none 0 0] 29) = w0 := ⟨_, rfl⟩
  have hz0 : w0.heap.size = w.heap.size + 2 := by rw [← hw0]; simp
  have hB : Below w.heap.size w w0 := by rw [← hw0]; exact below_al (below_al (Below.refl _ _) _) _
  have hA : Loc w0 w.heap.size #[.slice a n c, .slice a' n c'] 29 := by rw [← hw0]; exact (Loc.new w rfl _ _).alloc _
  have hO : Loc w0 (w.heap.size + 1) #[.slice none 0 0, .slice none 0 0] 29 := by rw [← hw0]; exact Loc.new _ (by simp) _ _
  have lA := hA.two
  go_enter Tryz.func42, Tryz.ntmps42
  go_wp2_with fail
  try rw [hw0]
  refine (HAC.out _ (h1.below hB) (h2.below hB)).mono ?_
  rintro e w1 ⟨ak, ck, rfl, hok, hb1⟩
  have hz1 := hb1.size
  have hB1 := below_th hB hb1
  have hA1 := hA.below hb1 hA.lt
  have hO1 := hO.below hb1 hO.lt
  obtain ⟨w2, hw2⟩ : ∃ w2, (w1.alloc (.cells #[.slice none 0 0] 50)).setCell ⟨w1.heap.size, 0, none⟩ (.slice ak n ck) = w2 := ⟨_, rfl⟩
  have hK2 : Loc w2 w1.heap.size #[.slice ak n ck] 50 := by rw [← hw2]; exact (Loc.new w1 rfl _ _).set 0 _
  have hb2 : Below w1.heap.size w1 w2 := by rw [← hw2]; exact (below_al (Below.refl _ _) _).setCell (Nat.le_refl _) _
  have hz2 := hb2.size
  have hB2 := below_th hB1 hb2
  have hA2 := hA1.below hb2 hA1.lt
  have hO2 := hO1.below hb2 hO1.lt
  have lK2 := hK2.one
  have hok2 := hok.below hb2
  go_wp2_with fail
  try rw [hw2]
  refine (HFO.out _ _ _ hok2.row).mono ?_
  rintro e w3 ⟨al, cl, rfl, hol, hb3⟩
  have hz3 := hb3.size
  have hB3 := below_th hB2 hb3
  have hA3 := hA2.below hb3 hA2.lt
  have hO3 := hO2.below hb3 hO2.lt
  have hK3 := hK2.below hb3 hK2.lt
  have hok3 := hok2.below hb3
  obtain ⟨w4, hw4⟩ : ∃ w4, (w3.alloc (.cells #[.slice none 0 0] 50)).setCell ⟨w3.heap.size, 0, none⟩ (.slice al M cl) = w4 := ⟨_, rfl⟩
  have hL4 : Loc w4 w3.heap.size #[.slice al M cl] 50 := by rw [← hw4]; exact (Loc.new w3 rfl _ _).set 0 _
  have hb4 : Below w3.heap.size w3 w4 := by rw [← hw4]; exact (below_al (Below.refl _ _) _).setCell (Nat.le_refl _) _
  have hz4 := hb4.size
  have hB4 := below_th hB3 hb4
  have hA4 := hA3.below hb4 hA3.lt
  have hO4 := hO3.below hb4 hO3.lt
  have hK4 := hK3.below hb4 hK3.lt
  have hrk := (hok3.below hb4).row
  have hrl := (hol.below hb4).row
  have lL4 := hL4.one
  have hp : Hid (PairAt 78 #[.pointer (some ⟨w3.heap.size, 0, none⟩), .pointer (some ⟨w1.heap.size, 0, none⟩), .pointer (some ⟨w.heap.size, 0, none⟩)] (fun x y => ((quV n L f x y : Nat) : Int)) (fun x y => ((quV n L g x y : Nat) : Int)) M w4) := Lib.hid fun x y hx hy w5 hb5 => by
    have := HM.out
    subst this
    exact (retractOf1_any n _ _ _ _ _ _ a a' al ak c c' cl ck f g L w5 (hL4.below hb5 hL4.lt) (hK4.below hb5 hK4.lt) (hA4.below hb5 hA4.lt) (h1.below (below_th hB4 hb5)) (h2.below (below_th hB4 hb5)) (hrl.below hb5) (hrk.below hb5) HLD.out HF.out HG.out hn1 hn x y hx hy).mono fun e w' ⟨he, k, hk⟩ => ⟨he, by rw [hk]; exact below_drewN (Below.refl _ _) k⟩
  have HQ1 : Hid (tabF M (fun x y => ((quV n L f x y : Nat) : Int)) = quT n L f) := Lib.hid (by unfold quT; rw [HM.out])
  have HQ2 : Hid (tabF M (fun x y => ((quV n L g x y : Nat) : Int)) = quT n L g) := Lib.hid (by unfold quT; rw [HM.out])
  go_wp2_with fail
  try rw [hw4]
  refine (solutionBy_any _ _ _ _ M _ (by omega) ent_ret1 hp.out).mono ?_
  rintro e w5 ⟨a1, c1, vs, a1', c1', vs', rfl, ho, hb5⟩
  rw [HQ1.out, HQ2.out] at ho
  have hB5 := below_th hB4 hb5
  have hO5 := hO4.below hb5 hO4.lt
  have lO := hO5.two
  go_wp2
  refine bodyPost_ret (v := sAgg a1 M c1 a1' M c1') (by simp [results, Tryz.results42, go_sem, lO]) rfl ⟨a1, c1, vs, a1', c1', vs', rfl, ⟨?_, ?_, ho.ap⟩, ?_⟩
  · exact ((ho.f.setlo (by show w.heap.size + 1 < w4.heap.size; omega) _).setlo (by show w.heap.size + 1 < w4.heap.size; omega) _).mono (by omega)
  · exact ((ho.s.setlo (by show w.heap.size + 1 < w4.heap.size; omega) _).setlo (by show w.heap.size + 1 < w4.heap.size; omega) _).mono (by omega)
  · exact below_setne (below_setne hB5 (by show w.heap.size ≤ w.heap.size + 1; omega) _) (by show w.heap.size ≤ w.heap.size + 1; omega) _
set_option maxHeartbeats 2000000 in
theorem isRegular_yes (n : Nat) (a a' : Option Addr) (c c' : Nat) (f g : List (List Int)) (w : World) (h1 : Tbl w a n f) (h2 : Tbl w a' n g) (hf : Sq n f) (hg : Sq n g) (hn : n ≤ 12) (hs : isSol f g = true) (hd : ndF f g = true) :
    Calls Tryz.prog 41 #[sAgg a n c a' n c'] w fun e w' => e = .returned (.bool true) ∧ Below w.heap.size w w' := by
  have HF := Lib.hid hf; have HG := Lib.hid hg; have HS := Lib.hid hs; have HD := Lib.hid hd
  clear hf hg hs hd
  have hA := Loc.new w rfl #[.slice a n c, .slice a' n c'] 29
  have hB := below_al (Below.refl w.heap.size w) (.cells #[.slice a n c, .slice a' n c'] 29)
  have lA := hA.two
  go_enter Tryz.func41, Tryz.ntmps41
  go_wp2_with fail
  refine (isSolution_any _ _ _ _ _ _ f g _ (h1.below hB) (h2.below hB) (by omega) (by omega)).mono ?_
  rintro e w1 ⟨rfl, hb1⟩
  rw [HS.out]
  have lA1 := (hA.below hb1 hA.lt).two
  have hB1 := below_th hB hb1
  go_wp2_with fail
  refine (isNondegenerate_any n _ _ _ _ f g _ (h1.below hB1) (h2.below hB1) HF.out HG.out hn).mono ?_
  rintro e w2 ⟨rfl, hb2⟩
  rw [HD.out]
  go_wp2
  go_ret
  exact ⟨rfl, below_th hB1 hb2⟩
set_option maxHeartbeats 8000000 in
theorem RetractOf_yes (n : Nat) (a a' : Option Addr) (c c' : Nat) (f g : List (List Int)) (w : World) (h1 : Tbl w a n f) (h2 : Tbl w a' n g) (hf : Sq n f) (hg : Sq n g) (hn1 : 1 ≤ n) (hn : n ≤ 12) (hs : isSol f g = true) (hd : ndF f g = true) :
    Calls Tryz.prog 15 #[sAgg a n c a' n c'] w fun e w' => ∃ a1 c1 vs a1' c1' vs', e = .returned (.tuple #[sAgg a1 (rkL (ldA n f g) n) c1 a1' (rkL (ldA n f g) n) c1', .int .i64 0]) ∧ OwnS w' w.heap.size a1 (rkL (ldA n f g) n) c1 vs (quT n (ldA n f g) f) a1' (rkL (ldA n f g) n) c1' vs' (quT n (ldA n f g) g) ∧ Below w.heap.size w w' := by
  have HRG := Lib.hid (fun (w : World) (h1 : Tbl w a n f) (h2 : Tbl w a' n g) => isRegular_yes n a a' c c' f g w h1 h2 hf hg hn hs hd)
  have HRT := Lib.hid (fun (w : World) (h1 : Tbl w a n f) (h2 : Tbl w a' n g) => retractOf_any n a a' c c' f g w h1 h2 hf hg hn1 hn)
  clear hf hg hs hd
  obtain ⟨M, HM⟩ : ∃ M, Hid (rkL (ldA n f g) n = M) := ⟨_, Lib.hid rfl⟩
  have hrt := HRT.out
  rw [HM.out] at hrt ⊢
  clear HRT
  have HRT := Lib.hid hrt
  clear hrt
  obtain ⟨w0, hw0⟩ : ∃ w0, (w.alloc (.cells #[.slice a n c, .slice a' n c'] 29)).alloc (.cells #[.slice none 0 0, .slice none 0 0] 29) = w0 := ⟨_, rfl⟩
  have hz0 : w0.heap.size = w.heap.size + 2 := by rw [← hw0]; simp
  have hB : Below w.heap.size w w0 := by rw [← hw0]; exact below_al (below_al (Below.refl _ _) _) _
  have hA : Loc w0 w.heap.size #[.slice a n c, .slice a' n c'] 29 := by rw [← hw0]; exact (Loc.new w rfl _ _).alloc _
  have hO : Loc w0 (w.heap.size + 1) #[.slice none 0 0, .slice none 0 0] 29 := by rw [← hw0]; exact Loc.new _ (by simp) _ _
  have lA := hA.two
  go_enter Tryz.func15, Tryz.ntmps15
  go_wp2_with fail
  try rw [hw0]
  refine (HRG.out _ (h1.below hB) (h2.below hB)).mono ?_
  rintro e w1 ⟨rfl, hb1⟩
  have hz1 := hb1.size
  have hA1 := hA.below hb1 hA.lt
  have hO1 := hO.below hb1 hO.lt
  have hB1 := below_th hB hb1
  have lA1 := hA1.two
  go_wp2_with fail
  refine (HRT.out _ (h1.below hB1) (h2.below hB1)).mono ?_
  rintro e w5 ⟨a1, c1, vs, a1', c1', vs', rfl, ho, hb5⟩
  have hB5 := below_th hB1 hb5
  have hO5 := hO1.below hb5 hO1.lt
  have lO := hO5.two
  go_wp2
  refine bodyPost_ret (v := .tuple #[sAgg a1 M c1 a1' M c1', .int .i64 0]) (by simp [results, Tryz.results15, go_sem, lO]) rfl ⟨a1, c1, vs, a1', c1', vs', rfl, ⟨?_, ?_, ho.ap⟩, ?_⟩
  · exact ((ho.f.setlo (by show w.heap.size + 1 < w1.heap.size; omega) _).setlo (by show w.heap.size + 1 < w1.heap.size; omega) _).mono (by omega)
  · exact ((ho.s.setlo (by show w.heap.size + 1 < w1.heap.size; omega) _).setlo (by show w.heap.size + 1 < w1.heap.size; omega) _).mono (by omega)
  · exact below_setne (below_setne hB5 (by show w.heap.size ≤ w.heap.size + 1; omega) _) (by show w.heap.size ≤ w.heap.size + 1; omega) _
end Go.Proofs.YtiliimkfobfbnaaGreat
