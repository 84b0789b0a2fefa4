/-
  A pair map, a braid and a tuple: what the reference's checks answer, BraidAction and IsColouring.
  No condition but bounds on lengths.
-/
import Derived.Test.YthkpdodhkgdiaaaActS
import Derived.Test.YthkpdodhkgdiaaaColI
namespace Go.Proofs.Ythkpdodhkgdiaaa
set_option maxRecDepth 100000
set_option linter.unusedVariables false
set_option linter.unusedSimpArgs false
open Go.RowKit

set_option maxHeartbeats 400000 in
theorem l04Elements_any (N : Nat) (a : Option Addr) (n c : Nat) (xs : List Int) (w : World) (h1 : Row w a n xs) (hm : n ≤ 9223372036854775807) (hN : N ≤ 1000000) :
    Calls Try.prog 170 #[.int .i64 N, .slice a n c] w fun e w' => e = .returned (.bool (xs.all (rngB 0 ((N : Int) - 1)))) ∧ w = w' := by
  have hl := h1.len
  have HL := Lib.hid hl; clear hl
  go_enter Try.func170, Try.ntmps170
  go_wp2
  go_loop [5] (fun i => ∃ k : Nat, k ≤ n ∧ i = .int .i64 k ∧ Hid ((xs.take k).all (rngB 0 ((N : Int) - 1)) = true)) (fun i => n - (intOf i).toNat)
  case atStart => exact ⟨0, Nat.zero_le _, rfl, by simp [Hid]⟩
  case round =>
    obtain ⟨k, hk, rfl, hall⟩ := hrel
    by_cases hlt : k < n
    · obtain ⟨b, off, rfl, g1⟩ := h1.at k hlt
      have hx : k < xs.length := by have := HL.out; omega
      rw [getD_eq_at hx] at g1
      clear h1
      cases hp : rngB 0 ((N : Int) - 1) xs[k] with
      | true =>
        have HC := Lib.hid (fun w => l01In_b xs[k] 0 ((N : Int) - 1) true hp w)
        have HP := Lib.hid hp; clear hp
        go_wp2_with fail
        refine (HC.out _).mono ?_
        rintro e w' ⟨rfl, rfl⟩
        go_wp2
        go_round
        case rel => exact ⟨k + 1, by omega, by go_num, all_get_succ hx hall HP.out⟩
        case measure => simp [intOf]; omega
      | false =>
        have HC := Lib.hid (fun w => l01In_b xs[k] 0 ((N : Int) - 1) false hp w)
        have HP := Lib.hid hp; clear hp
        go_wp2_with fail
        refine (HC.out _).mono ?_
        rintro e w' ⟨rfl, rfl⟩
        go_wp2
        go_ret
        exact ⟨ret_bool (all_no hx HP.out).symm, rfl⟩
    · obtain rfl : k = n := by omega
      have ha : (xs.take k).all (rngB 0 ((N : Int) - 1)) = true := hall
      rw [List.take_of_length_le (by have := HL.out; omega)] at ha
      have HA := Lib.hid ha; clear ha
      go_wp2
      go_ret
      exact ⟨ret_bool HA.out.symm, rfl⟩

def codeF (f g : List (List Int)) (s : Int) (xs : List Int) : Int := if isSol f g then (if isBr s xs then 0 else 1) else 1

set_option maxHeartbeats 1000000 in
theorem l16Code_any (a : Option Addr) (n c : Nat) (a' : Option Addr) (n' c' : Nat) (f g : List (List Int)) (s : Int) (ab : Option Addr) (nb cb : Nat) (xs : List Int) (w : World)
    (h1 : Tbl w a n f) (h2 : Tbl w a' n' g) (hm1 : n ≤ 9223372036854775807) (hm2 : n' ≤ 9223372036854775807) (hs : I64 s) (hr : Row w ab nb xs) (hnb : nb ≤ 9223372036854775807) :
    Calls Try.prog 169 #[sAgg a n c a' n' c', bAgg s ab nb cb] w fun e w' => e = .returned (.int .i64 (codeF f g s xs)) ∧ Below w.heap.size w w' := by
  have hA := (Loc.new w rfl #[.slice a n c, .slice a' n' c'] 35).alloc (.cells #[.int .i64 s, .slice ab nb cb] 24)
  have hE := Loc.new (w.alloc (.cells #[.slice a n c, .slice a' n' c'] 35)) rfl #[.int .i64 s, .slice ab nb cb] 24
  rw [size_alloc] at hE
  have hB := below_al (below_al (Below.refl w.heap.size w) (.cells #[.slice a n c, .slice a' n' c'] 35)) (.cells #[.int .i64 s, .slice ab nb cb] 24)
  cases q1 : isSol f g with
  | false =>
    have HQ : Hid (codeF f g s xs = 1) := Lib.hid (by unfold codeF; rw [q1]; rfl)
    have H1 := Lib.hid q1; clear q1
    go_enter Try.func169, Try.ntmps169
    go_wp2_with fail
    generalize (w.alloc (.cells #[.slice a n c, .slice a' n' c'] 35)).alloc (.cells #[.int .i64 s, .slice ab nb cb] 24) = w0 at *
    refine (l02Is_any _ _ _ _ _ _ _ _ _ (h1.below hB) (h2.below hB) hm1 hm2).mono ?_
    rintro e w1 ⟨rfl, hb1⟩
    rw [H1.out]
    go_wp2
    go_ret
    exact ⟨ret_int HQ.out.symm, below_th hB hb1⟩
  | true =>
    have H1 := Lib.hid q1
    cases q2 : isBr s xs
    all_goals
      have H2 := Lib.hid q2
      have HQ : Hid (codeF f g s xs = if isBr s xs then 0 else 1) := Lib.hid (by unfold codeF; rw [q1]; rfl)
      rw [q2] at HQ
      clear q2
      try clear q1
      go_enter Try.func169, Try.ntmps169
      go_wp2_with fail
      generalize (w.alloc (.cells #[.slice a n c, .slice a' n' c'] 35)).alloc (.cells #[.int .i64 s, .slice ab nb cb] 24) = w0 at *
      refine (l02Is_any _ _ _ _ _ _ _ _ _ (h1.below hB) (h2.below hB) hm1 hm2).mono ?_
      rintro e w1 ⟨rfl, hb1⟩
      rw [H1.out]
      have lE := (hE.below hb1 hE.lt).two
      go_wp2_with fail
      refine (l16Is_any _ _ _ _ xs _ (hr.below (below_th hB hb1)) hnb hs).mono ?_
      rintro e w2 ⟨rfl, hb2⟩
      rw [H2.out]
      go_wp2
      go_ret
      exact ⟨ret_int HQ.out.symm, below_th (below_th hB hb1) hb2⟩

theorem ckF_code {f g : List (List Int)} {s : Int} {xs l : List Int} (h : codeF f g s xs ≠ 0) : codeF f g s xs = 1 ∧ ckF f g s xs l = 1 := by
  unfold codeF at *
  unfold ckF
  by_cases h1 : isSol f g = true
  · rw [if_pos h1] at h ⊢
    by_cases h2 : isBr s xs = true
    · rw [if_pos h2] at h; omega
    · rw [if_neg h2, if_pos h1, if_neg h2]; exact ⟨rfl, rfl⟩
  · rw [if_neg h1, if_neg h1]; exact ⟨rfl, rfl⟩
theorem codeF_zero {f g : List (List Int)} {s : Int} {xs : List Int} (h : codeF f g s xs = 0) : isSol f g = true ∧ isBr s xs = true := by
  unfold codeF at h
  by_cases h1 : isSol f g = true
  · rw [if_pos h1] at h
    by_cases h2 : isBr s xs = true
    · exact ⟨h1, h2⟩
    · rw [if_neg h2] at h; omega
  · rw [if_neg h1] at h; omega

/-- what BraidAction hands back -/
def bacF (f g : List (List Int)) (s : Int) (xs l : List Int) : List Int × Int := if ckF f g s xs l = 0 then (actL f.length f g xs l, 0) else ([], ckF f g s xs l)

set_option maxHeartbeats 2000000 in
theorem spec_Bac_l (a : Option Addr) (n c : Nat) (f : List (List Int)) (a' : Option Addr) (n' c' : Nat) (g : List (List Int)) (s : Int) (ab : Option Addr) (nb cb : Nat) (xs : List Int) (al : Option Addr) (m cl : Nat) (l : List Int) (w : World)
    (h1 : Sol w a n f a' n' g) (hm : n ≤ 9223372036854775807 ∧ n' ≤ 9223372036854775807) (hs : I64 s) (hr : Row w ab nb xs) (hnb : nb ≤ 9223372036854775807) (hx : I64s xs) (hl : Row w al m l) (hml : m ≤ 9223372036854775807) (hxl : I64s l) :
    Calls Try.prog 118 #[sAgg a n c a' n' c', bAgg s ab nb cb, .slice al m cl] w (RetR w (bacF f g s xs l).1 (bacF f g s xs l).2) := by
  obtain ⟨hm1, hm2⟩ := hm
  have hA := (Loc.new w rfl #[.slice a n c, .slice a' n' c'] 35).alloc (.cells #[.int .i64 s, .slice ab nb cb] 24)
  have hE := Loc.new (w.alloc (.cells #[.slice a n c, .slice a' n' c'] 35)) rfl #[.int .i64 s, .slice ab nb cb] 24
  rw [size_alloc] at hE
  have hB := below_al (below_al (Below.refl w.heap.size w) (.cells #[.slice a n c, .slice a' n' c'] 35)) (.cells #[.int .i64 s, .slice ab nb cb] 24)
  by_cases hc : codeF f g s xs = 0
  · obtain ⟨q1, q2⟩ := codeF_zero hc
    obtain ⟨hn1, hn12, sf, sg⟩ := isSol_sq q1
    have hcc := isSol_coll q1
    have hfl := h1.f.len
    have hl2 : n' = n := by rw [h1.s.len, hfl]; have := sg.len; omega
    subst hl2
    have hml2 := hl.len
    have hs26 := (isBr_let q2).1
    obtain ⟨S, rfl⟩ : ∃ S : Nat, s = S := ⟨s.toNat, by omega⟩
    have hck : ckF f g S xs l = if (m : Int) = (S : Int) then (if l.all (rngB 0 ((n' : Int) - 1)) then 0 else 2) else 2 := by unfold ckF; rw [q1, q2, ← hfl, ← hml2]; simp
    by_cases q3 : m = S
    · subst q3
      rw [if_pos rfl] at hck
      have b3 : ((m : Int) != (m : Int)) = false := by simp
      cases q4 : l.all (rngB 0 ((n' : Int) - 1)) with
      | false =>
        have hq : bacF f g m xs l = ([], 2) := by unfold bacF; rw [hck, q4]; rfl
        rw [hq]
        have HC := Lib.hid hc; have H4 := Lib.hid q4
        rw [← hfl] at hn1 hn12
        clear hc hck q1 q2 q4 hfl hml2 hq hcc sf sg
        go_enter Try.func118, Try.ntmps118
        go_wp2_with fail
        generalize (w.alloc (.cells #[.slice a n' c, .slice a' n' c'] 35)).alloc (.cells #[.int .i64 m, .slice ab nb cb] 24) = w0 at *
        refine (l16Code_any _ _ _ _ _ _ f g _ _ _ _ xs _ (h1.f.below hB) (h1.s.below hB) hm1 hm2 hs (hr.below hB) hnb).mono ?_
        rintro e w1 ⟨rfl, hb1⟩
        rw [HC.out]
        have lA := (hA.below hb1 hA.lt).two
        have lE := (hE.below hb1 hE.lt).two
        go_wp2_with fail
        refine (l04Elements_any _ _ _ _ l _ (hl.below (below_th hB hb1)) hml (by omega)).mono ?_
        rintro e w2 ⟨rfl, rfl⟩
        rw [H4.out]
        go_wp2
        go_ret2
        exact ⟨none, 0, 0, rfl, Own.nil _ _, below_th hB hb1⟩
      | true =>
        have hq : bacF f g m xs l = (actL n' f g xs l, 0) := by unfold bacF; rw [hck, q4, ← hfl]; rfl
        rw [hq]
        have HC := Lib.hid hc; have H4 := Lib.hid q4; have H2 := Lib.hid q2
        have HLE : Hid (Less n' l) := Lib.hid (less_all q4)
        rw [← hfl] at hn1 hn12 hcc sf sg
        have HSF := Lib.hid sf; have HSG := Lib.hid sg; have HCC := Lib.hid hcc
        clear hc hck q1 q2 q4 hfl hml2 hq hcc sf sg
        go_enter Try.func118, Try.ntmps118
        go_wp2_with fail
        generalize (w.alloc (.cells #[.slice a n' c, .slice a' n' c'] 35)).alloc (.cells #[.int .i64 m, .slice ab nb cb] 24) = w0 at *
        refine (l16Code_any _ _ _ _ _ _ f g _ _ _ _ xs _ (h1.f.below hB) (h1.s.below hB) hm1 hm2 hs (hr.below hB) hnb).mono ?_
        rintro e w1 ⟨rfl, hb1⟩
        rw [HC.out]
        have lA := (hA.below hb1 hA.lt).two
        have lE := (hE.below hb1 hE.lt).two
        have hB1 := below_th hB hb1
        go_wp2_with fail
        refine (l04Elements_any _ _ _ _ l _ (hl.below hB1) hml (by omega)).mono ?_
        rintro e w2 ⟨rfl, rfl⟩
        rw [H4.out]
        go_wp2_with fail
        refine (l16Act_any _ _ _ _ _ f g m _ _ _ xs _ _ l _ (h1.f.below hB1) (h1.s.below hB1) hn1 hn12 HSF.out HSG.out HCC.out (hr.below hB1) H2.out (hl.below hB1) HLE.out).mono ?_
        rintro e w3 ⟨ao, co, rfl, ho, hb3⟩
        go_wp2
        go_ret2
        exact ⟨_, _, _, rfl, ho.mono hB1.size, below_th hB1 hb3⟩
    · rw [if_neg (by omega)] at hck
      have b3 : ((m : Int) != (S : Int)) = true := by simp; omega
      have hq : bacF f g S xs l = ([], 2) := by unfold bacF; rw [hck]; rfl
      rw [hq]
      have HC := Lib.hid hc
      clear hc hck q1 q2 q3 hfl hml2 hq hcc sf sg
      go_enter Try.func118, Try.ntmps118
      go_wp2_with fail
      generalize (w.alloc (.cells #[.slice a n' c, .slice a' n' c'] 35)).alloc (.cells #[.int .i64 S, .slice ab nb cb] 24) = w0 at *
      refine (l16Code_any _ _ _ _ _ _ f g _ _ _ _ xs _ (h1.f.below hB) (h1.s.below hB) hm1 hm2 hs (hr.below hB) hnb).mono ?_
      rintro e w1 ⟨rfl, hb1⟩
      rw [HC.out]
      have lA := (hA.below hb1 hA.lt).two
      have lE := (hE.below hb1 hE.lt).two
      go_wp2
      go_ret2
      exact ⟨none, 0, 0, rfl, Own.nil _ _, below_th hB hb1⟩
  · obtain ⟨e1, e2⟩ := ckF_code (l := l) hc
    have hq : bacF f g s xs l = ([], 1) := by unfold bacF; rw [e2]; rfl
    rw [hq]
    have HC := Lib.hid e1
    clear hc e1 e2 hq
    go_enter Try.func118, Try.ntmps118
    go_wp2_with fail
    generalize (w.alloc (.cells #[.slice a n c, .slice a' n' c'] 35)).alloc (.cells #[.int .i64 s, .slice ab nb cb] 24) = w0 at *
    refine (l16Code_any _ _ _ _ _ _ f g _ _ _ _ xs _ (h1.f.below hB) (h1.s.below hB) hm1 hm2 hs (hr.below hB) hnb).mono ?_
    rintro e w1 ⟨rfl, hb1⟩
    rw [HC.out]
    go_wp2
    go_ret2
    exact ⟨none, 0, 0, rfl, Own.nil _ _, below_th hB hb1⟩

set_option maxHeartbeats 2000000 in
theorem spec_Col_l (a : Option Addr) (n c : Nat) (f : List (List Int)) (a' : Option Addr) (n' c' : Nat) (g : List (List Int)) (s : Int) (ab : Option Addr) (nb cb : Nat) (xs : List Int) (al : Option Addr) (m cl : Nat) (l : List Int) (w : World)
    (h1 : Sol w a n f a' n' g) (hm : n ≤ 9223372036854775807 ∧ n' ≤ 9223372036854775807) (hs : I64 s) (hr : Row w ab nb xs) (hnb : nb ≤ 9223372036854775807) (hx : I64s xs) (hl : Row w al m l) (hml : m ≤ 9223372036854775807) (hxl : I64s l) :
    Calls Try.prog 62 #[sAgg a n c a' n' c', bAgg s ab nb cb, .slice al m cl] w (RetO w (colF f g s xs l).1 (colF f g s xs l).2) := by
  have hB := below_al (below_al (Below.refl w.heap.size w) (.cells #[.slice a n c, .slice a' n' c'] 35)) (.cells #[.int .i64 s, .slice ab nb cb] 24)
  by_cases hz : ckF f g s xs l = 0
  · have hq : colF f g s xs l = (decide (actL f.length f g xs l = l), 0) := by unfold colF; rw [if_pos hz]
    have hq2 : bacF f g s xs l = (actL f.length f g xs l, 0) := by unfold bacF; rw [if_pos hz]
    rw [hq]
    have HQ := Lib.hid hq2
    clear hz hq hq2
    go_enter Try.func62, Try.ntmps62
    go_wp2_with fail
    generalize (w.alloc (.cells #[.slice a n c, .slice a' n' c'] 35)).alloc (.cells #[.int .i64 s, .slice ab nb cb] 24) = w0 at *
    refine (spec_Bac_l _ _ _ f _ _ _ g _ _ _ _ xs _ _ _ l _ ⟨h1.f.below hB, h1.s.below hB⟩ hm hs (hr.below hB) hnb hx (hl.below hB) hml hxl).mono ?_
    rintro e w1 ⟨ao, no, co, rfl, ho, hb1⟩
    rw [HQ.out] at ho ⊢
    have hcap := ho.cap
    go_wp2_with fail
    refine (l01Same_b _ _ _ _ _ _ _ l _ ho.row (hl.below (below_th hB hb1)) (by omega) _ rfl).mono ?_
    rintro e w2 ⟨rfl, hb2⟩
    go_wp2
    go_ret2
    exact ⟨rfl, below_th (below_th hB hb1) hb2⟩
  · have hq : colF f g s xs l = (false, ckF f g s xs l) := by unfold colF; rw [if_neg hz]
    have hq2 : bacF f g s xs l = ([], ckF f g s xs l) := by unfold bacF; rw [if_neg hz]
    rw [hq]
    generalize ckF f g s xs l = K at *
    have hb : (K != 0) = true := by simpa using hz
    have HQ := Lib.hid hq2
    clear hz hq hq2
    go_enter Try.func62, Try.ntmps62
    go_wp2_with fail
    generalize (w.alloc (.cells #[.slice a n c, .slice a' n' c'] 35)).alloc (.cells #[.int .i64 s, .slice ab nb cb] 24) = w0 at *
    refine (spec_Bac_l _ _ _ f _ _ _ g _ _ _ _ xs _ _ _ l _ ⟨h1.f.below hB, h1.s.below hB⟩ hm hs (hr.below hB) hnb hx (hl.below hB) hml hxl).mono ?_
    rintro e w1 ⟨ao, no, co, rfl, ho, hb1⟩
    rw [HQ.out]
    go_wp2
    go_ret2
    exact ⟨rfl, below_th hB hb1⟩

end Go.Proofs.Ythkpdodhkgdiaaa
