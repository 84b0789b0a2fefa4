/-
  What the program's and the reference's DestabilizeBraid compute.
  No condition but bounds on lengths.
-/
import Derived.Test.YtehomfbehhlhmaaBraid
import Derived.Test.YtehomfbehhlhmaaSlices
import Derived.Test.YtehomfbehhlhmaaClone
import Derived.Test.YtehomfbehhlhmaaOwn
import Derived.Test.YtehomfbehhlhmaaPlace
import Derived.Deep.RegionHeld3
namespace Go.Proofs.Ytehomfbehhlhmaa
set_option maxRecDepth 100000
set_option linter.unusedVariables false
set_option linter.unusedSimpArgs false
open Go.RowKit

/-- how many letters lie at the greatest place -/
def cntP (s : Int) (xs : List Int) : Nat := xs.countP fun x => plc x == s - 2
theorem cntP_succ {s : Int} {xs : List Int} {k : Nat} (h : k < xs.length) : cntP s (xs.take (k + 1)) = cntP s (xs.take k) + if (plc xs[k] == s - 2) = true then 1 else 0 := by
  simp only [cntP, List.take_succ_eq_append_getElem h, List.countP_append, List.countP_cons, List.countP_nil, Nat.zero_add]
theorem Row.take {w : World} {a : Option Addr} {n : Nat} {xs : List Int} (h : Row w a n xs) (m : Nat) (hm : m ≤ n) : Row w a m (xs.take m) := by
  refine ⟨by rw [List.length_take]; have := h.len; omega, fun i hi => ?_⟩
  obtain ⟨b, off, h1, h2, h3⟩ := h.2 i (by omega)
  refine ⟨b, off, h1, h2, h3.trans ?_⟩
  simp [List.getD_eq_getElem?_getD, List.getElem?_take, hi]
/-- can it be destabilized -/
def destB (s : Int) (xs : List Int) : Bool := decide (3 ≤ s) && (decide (cntP s xs = 1) && (plc (xs.getD (xs.length - 1) 0) == s - 2))

set_option maxHeartbeats 1000000 in
theorem impl_Dest_no (s : Int) (a : Option Addr) (n c : Nat) (xs : List Int) (w : World) (h1 : Row w a n xs) (hm : n ≤ 9223372036854775807) (hs : I64 s) (hb : isBr s xs = false) :
    Calls Try.prog 44 #[bAgg s a n c] w (RetB w 0 [] 1) := by
  have HB := Lib.hid hb; clear hb
  go_enter Try.func44, Try.ntmps44
  go_wp2_with fail
  refine (isBraid_any _ _ _ _ xs _ ((h1.alloc _).alloc _) hm).mono ?_
  rintro e w1 ⟨rfl, hb1⟩
  rw [HB.out]
  have hA : Loc w1 w.heap.size _ _ := ((Loc.new _ (by simp) _ _).alloc _).below hb1 (by simp <;> omega)
  have hR : Loc w1 (w.heap.size + 1) _ _ := (Loc.new _ (by simp) _ _).below hb1 (by simp)
  have hr1 := ((h1.alloc _).alloc _).below hb1
  have hB1 : Below w.heap.size w w1 := below_alth (below_al (Below.refl _ _) _) hb1
  have lA := hA.two
  have lR := hR.two
  have z1 : w.heap.size + 1 < w1.heap.size := hR.lt
  have z0 : w.heap.size < w1.heap.size := hA.lt
  clear h1 hb1
  go_wp2
  refine bodyPost_ret (v := .tuple #[bAgg 0 none 0 0, .int .i64 1]) (by simp [results, Try.results44, go_sem, lR]) rfl ⟨none, 0, 0, rfl, Own.nil _ _, ?_⟩
  exact ((hB1.setCell (by simp) _).setCell (by simp) _)

set_option maxHeartbeats 400000 in
theorem dest1_any (s x : Int) (b : Nat) (t : TypeId) (w : World) (h1 : -1000 ≤ x) (h2 : x ≤ 1000) (hL : Loc w b #[.int .i64 (s - 2)] t) :
    Calls Try.prog 111 #[.int .i64 x, .pointer (some ⟨b, 0, none⟩)] w fun e w' => e = .returned (.bool (plc x == s - 2)) ∧ ∃ m, w' = w.drewN m := by
  have hc := hL.one
  have HP := Lib.hid (fun w0 => placeOf_any x w0 h1 h2)
  go_enter Try.func111, Try.ntmps111
  go_wp2
  go_quiet ((go_at_call 100; exact Calls.quiet_of_same (HP.out _)))
  go_wp2
  go_ret
  exact ⟨rfl, _, rfl⟩
theorem ent_dest1 : Ent 111 := fun _ _ => rfl

set_option maxHeartbeats 1000000 in
theorem impl_Dest_lt (s : Int) (a : Option Addr) (n c : Nat) (xs : List Int) (w : World) (h1 : Row w a n xs) (hm : n ≤ 9223372036854775807) (hs : I64 s) (hb : isBr s xs = true) (hd : s < 3) :
    Calls Try.prog 44 #[bAgg s a n c] w (RetB w 0 [] 5) := by
  obtain ⟨h26, h30, hlet⟩ := isBr_let hb
  have hl := h1.len
  have hn30 : n ≤ 30 := by omega
  have HLet := Lib.hid hlet; clear hlet
  have HB := Lib.hid hb; clear hb
  have HL := Lib.hid hl; clear hl
  have hw2 : IntKind.i64.wrap (s - 2) = s - 2 := IntWalk.i64_in _ (by omega)
  have HW2 := Lib.hid hw2; clear hw2
  have hw1 : IntKind.i64.wrap (s - 1) = s - 1 := IntWalk.i64_in _ (by omega)
  have HW1 := Lib.hid hw1; clear hw1
  go_enter Try.func44, Try.ntmps44
  go_wp2_with fail
  refine (isBraid_any _ _ _ _ xs _ ((h1.alloc _).alloc _) hm).mono ?_
  rintro e w1 ⟨rfl, hb1⟩
  rw [HB.out]
  have hA : Loc w1 w.heap.size _ _ := ((Loc.new _ (by simp) _ _).alloc _).below hb1 (by simp <;> omega)
  have hR : Loc w1 (w.heap.size + 1) _ _ := (Loc.new _ (by simp) _ _).below hb1 (by simp)
  have hr1 := ((h1.alloc _).alloc _).below hb1
  have hB1 : Below w.heap.size w w1 := below_alth (below_al (Below.refl _ _) _) hb1
  have lA := hA.two
  have lR := hR.two
  have z1 : w.heap.size + 1 < w1.heap.size := hR.lt
  have z0 : w.heap.size < w1.heap.size := hA.lt
  clear h1 hb1
  have hw2 := HW2.out
  go_wp2
  clear hw2
  have hG := Loc.new w1 rfl #[.int .i64 (s - 2)] 3
  have hA := hA.alloc (.cells #[.int .i64 (s - 2)] 3)
  have hR := hR.alloc (.cells #[.int .i64 (s - 2)] 3)
  have hr1 := hr1.alloc (.cells #[.int .i64 (s - 2)] 3)
  have hB := below_al hB1 (.cells #[.int .i64 (s - 2)] 3)
  clear lA lR
  generalize w1.alloc (.cells #[.int .i64 (s - 2)] 3) = W at hG hA hR hr1 hB ⊢
  have lA := hA.two
  have lR := hR.two
  have lG := hG.one
  have zr : w.heap.size + 1 < W.heap.size := hR.lt
  have zg : w1.heap.size < W.heap.size := hG.lt
  have b1 : decide (s < 3) = true := by simp; omega
  go_quiet (fail)
  go_wp2
  refine bodyPost_ret (v := .tuple #[bAgg 0 none 0 0, .int .i64 5]) (by simp [results, Try.results44, go_sem, lR]) rfl ⟨none, 0, 0, rfl, Own.nil _ _, ?_⟩
  exact (((below_drewN hB nq).setCell (by simp) _).setCell (by simp) _)

set_option maxHeartbeats 1000000 in
theorem impl_Dest_emp (s : Int) (a : Option Addr) (n c : Nat) (xs : List Int) (w : World) (h1 : Row w a n xs) (hm : n ≤ 9223372036854775807) (hs : I64 s) (hb : isBr s xs = true) (hd : 3 ≤ s) (hd0 : n = 0) :
    Calls Try.prog 44 #[bAgg s a n c] w (RetB w 0 [] 5) := by
  subst hd0
  obtain ⟨h26, h30, hlet⟩ := isBr_let hb
  have hl := h1.len
  have HLet := Lib.hid hlet; clear hlet
  have HB := Lib.hid hb; clear hb
  have HL := Lib.hid hl; clear hl
  have hw2 : IntKind.i64.wrap (s - 2) = s - 2 := IntWalk.i64_in _ (by omega)
  have HW2 := Lib.hid hw2; clear hw2
  have hw1 : IntKind.i64.wrap (s - 1) = s - 1 := IntWalk.i64_in _ (by omega)
  have HW1 := Lib.hid hw1; clear hw1
  go_enter Try.func44, Try.ntmps44
  go_wp2_with fail
  refine (isBraid_any _ _ _ _ xs _ ((h1.alloc _).alloc _) hm).mono ?_
  rintro e w1 ⟨rfl, hb1⟩
  rw [HB.out]
  have hA : Loc w1 w.heap.size _ _ := ((Loc.new _ (by simp) _ _).alloc _).below hb1 (by simp <;> omega)
  have hR : Loc w1 (w.heap.size + 1) _ _ := (Loc.new _ (by simp) _ _).below hb1 (by simp)
  have hr1 := ((h1.alloc _).alloc _).below hb1
  have hB1 : Below w.heap.size w w1 := below_alth (below_al (Below.refl _ _) _) hb1
  have lA := hA.two
  have lR := hR.two
  have z1 : w.heap.size + 1 < w1.heap.size := hR.lt
  have z0 : w.heap.size < w1.heap.size := hA.lt
  clear h1 hb1
  have hw2 := HW2.out
  go_wp2
  clear hw2
  have hG := Loc.new w1 rfl #[.int .i64 (s - 2)] 3
  have hA := hA.alloc (.cells #[.int .i64 (s - 2)] 3)
  have hR := hR.alloc (.cells #[.int .i64 (s - 2)] 3)
  have hr1 := hr1.alloc (.cells #[.int .i64 (s - 2)] 3)
  have hB := below_al hB1 (.cells #[.int .i64 (s - 2)] 3)
  clear lA lR
  generalize w1.alloc (.cells #[.int .i64 (s - 2)] 3) = W at hG hA hR hr1 hB ⊢
  have lA := hA.two
  have lR := hR.two
  have lG := hG.one
  have zr : w.heap.size + 1 < W.heap.size := hR.lt
  have zg : w1.heap.size < W.heap.size := hG.lt
  have b1 : decide (s < 3) = false := by simp; omega
  go_quiet (fail)
  go_wp2
  refine bodyPost_ret (v := .tuple #[bAgg 0 none 0 0, .int .i64 5]) (by simp [results, Try.results44, go_sem, lR]) rfl ⟨none, 0, 0, rfl, Own.nil _ _, ?_⟩
  exact (((below_drewN hB nq).setCell (by simp) _).setCell (by simp) _)

set_option maxHeartbeats 1000000 in
theorem impl_Dest_pl (s : Int) (a : Option Addr) (n c : Nat) (xs : List Int) (w : World) (h1 : Row w a n xs) (hm : n ≤ 9223372036854775807) (hs : I64 s) (hb : isBr s xs = true) (hd : 3 ≤ s) (hn0 : 0 < n) (hd3 : (plc (xs.getD (xs.length - 1) 0) == s - 2) = false) :
    Calls Try.prog 44 #[bAgg s a n c] w (RetB w 0 [] 5) := by
  obtain ⟨h26, h30, hlet⟩ := isBr_let hb
  have hl := h1.len
  have hn30 : n ≤ 30 := by omega
  have HLet := Lib.hid hlet; clear hlet
  have HB := Lib.hid hb; clear hb
  have HL := Lib.hid hl; clear hl
  have hw2 : IntKind.i64.wrap (s - 2) = s - 2 := IntWalk.i64_in _ (by omega)
  have HW2 := Lib.hid hw2; clear hw2
  have hw1 : IntKind.i64.wrap (s - 1) = s - 1 := IntWalk.i64_in _ (by omega)
  have HW1 := Lib.hid hw1; clear hw1
  go_enter Try.func44, Try.ntmps44
  go_wp2_with fail
  refine (isBraid_any _ _ _ _ xs _ ((h1.alloc _).alloc _) hm).mono ?_
  rintro e w1 ⟨rfl, hb1⟩
  rw [HB.out]
  have hA : Loc w1 w.heap.size _ _ := ((Loc.new _ (by simp) _ _).alloc _).below hb1 (by simp <;> omega)
  have hR : Loc w1 (w.heap.size + 1) _ _ := (Loc.new _ (by simp) _ _).below hb1 (by simp)
  have hr1 := ((h1.alloc _).alloc _).below hb1
  have hB1 : Below w.heap.size w w1 := below_alth (below_al (Below.refl _ _) _) hb1
  have lA := hA.two
  have lR := hR.two
  have z1 : w.heap.size + 1 < w1.heap.size := hR.lt
  have z0 : w.heap.size < w1.heap.size := hA.lt
  clear h1 hb1
  have hw2 := HW2.out
  go_wp2
  clear hw2
  have hG := Loc.new w1 rfl #[.int .i64 (s - 2)] 3
  have hA := hA.alloc (.cells #[.int .i64 (s - 2)] 3)
  have hR := hR.alloc (.cells #[.int .i64 (s - 2)] 3)
  have hr1 := hr1.alloc (.cells #[.int .i64 (s - 2)] 3)
  have hB := below_al hB1 (.cells #[.int .i64 (s - 2)] 3)
  clear lA lR
  generalize w1.alloc (.cells #[.int .i64 (s - 2)] 3) = W at hG hA hR hr1 hB ⊢
  have lA := hA.two
  have lR := hR.two
  have lG := hG.one
  have zr : w.heap.size + 1 < W.heap.size := hR.lt
  have zg : w1.heap.size < W.heap.size := hG.lt
  have b1 : decide (s < 3) = false := by simp; omega
  obtain ⟨m1, hm1⟩ : ∃ m1, m1 = n - 1 := ⟨_, rfl⟩
  have hm1n : m1 < n := by omega
  obtain ⟨b, off, rfl, g1⟩ := hr1.at m1 hm1n
  have hx : m1 < xs.length := by have := HL.out; omega
  have hx2 := HLet.out xs[m1] (List.getElem_mem hx)
  have hxb : -1000 ≤ xs[m1] ∧ xs[m1] ≤ 1000 := by omega
  have HP := Lib.hid (fun w0 => placeOf_any xs[m1] w0 hxb.1 hxb.2)
  have em : (n : Int) - 1 = (m1 : Int) := by omega
  have hrl := hr1.take m1 (by omega)
  have HM1 := Lib.hid hm1
  clear hx2 hxb

  have b2 : decide ((m1 : Int) < 0) = false := by (simp <;> omega)
  have b3 : (plc xs[m1] != s - 2) = true := by
    have e : xs.length - 1 = m1 := by have := HL.out; have := HM1.out; omega
    rw [e] at hd3
    simp [List.getD_eq_getElem?_getD, hx] at hd3
    simpa using hd3
  rw [em]
  clear hd3 hm1 em hrl
  go_quiet ((go_at_call 100; exact Calls.quiet_of_same (HP.out _)))
  go_wp2
  refine bodyPost_ret (v := .tuple #[bAgg 0 none 0 0, .int .i64 5]) (by simp [results, Try.results44, go_sem, lR]) rfl ⟨none, 0, 0, rfl, Own.nil _ _, ?_⟩
  exact (((below_drewN hB nq).setCell (by simp) _).setCell (by simp) _)

set_option maxHeartbeats 1000000 in
theorem impl_Dest_any' (s : Int) (a : Option Addr) (n c : Nat) (xs : List Int) (w : World) (h1 : Row w a n xs) (hm : n ≤ 9223372036854775807) (hs : I64 s) (hb : isBr s xs = true) (hd : 3 ≤ s) (hn0 : 0 < n) (hnc : n ≤ c) (hd3 : (plc (xs.getD (xs.length - 1) 0) == s - 2) = true) (hd4 : (xs.take (xs.length - 1)).any (fun x => plc x == s - 2) = true) :
    Calls Try.prog 44 #[bAgg s a n c] w (RetB w 0 [] 5) := by
  obtain ⟨h26, h30, hlet⟩ := isBr_let hb
  have hl := h1.len
  have hn30 : n ≤ 30 := by omega
  have HLet := Lib.hid hlet; clear hlet
  have HB := Lib.hid hb; clear hb
  have HL := Lib.hid hl; clear hl
  have hw2 : IntKind.i64.wrap (s - 2) = s - 2 := IntWalk.i64_in _ (by omega)
  have HW2 := Lib.hid hw2; clear hw2
  have hw1 : IntKind.i64.wrap (s - 1) = s - 1 := IntWalk.i64_in _ (by omega)
  have HW1 := Lib.hid hw1; clear hw1
  go_enter Try.func44, Try.ntmps44
  go_wp2_with fail
  refine (isBraid_any _ _ _ _ xs _ ((h1.alloc _).alloc _) hm).mono ?_
  rintro e w1 ⟨rfl, hb1⟩
  rw [HB.out]
  have hA : Loc w1 w.heap.size _ _ := ((Loc.new _ (by simp) _ _).alloc _).below hb1 (by simp <;> omega)
  have hR : Loc w1 (w.heap.size + 1) _ _ := (Loc.new _ (by simp) _ _).below hb1 (by simp)
  have hr1 := ((h1.alloc _).alloc _).below hb1
  have hB1 : Below w.heap.size w w1 := below_alth (below_al (Below.refl _ _) _) hb1
  have lA := hA.two
  have lR := hR.two
  have z1 : w.heap.size + 1 < w1.heap.size := hR.lt
  have z0 : w.heap.size < w1.heap.size := hA.lt
  clear h1 hb1
  have hw2 := HW2.out
  go_wp2
  clear hw2
  have hG := Loc.new w1 rfl #[.int .i64 (s - 2)] 3
  have hA := hA.alloc (.cells #[.int .i64 (s - 2)] 3)
  have hR := hR.alloc (.cells #[.int .i64 (s - 2)] 3)
  have hr1 := hr1.alloc (.cells #[.int .i64 (s - 2)] 3)
  have hB := below_al hB1 (.cells #[.int .i64 (s - 2)] 3)
  clear lA lR
  generalize w1.alloc (.cells #[.int .i64 (s - 2)] 3) = W at hG hA hR hr1 hB ⊢
  have lA := hA.two
  have lR := hR.two
  have lG := hG.one
  have zr : w.heap.size + 1 < W.heap.size := hR.lt
  have zg : w1.heap.size < W.heap.size := hG.lt
  have b1 : decide (s < 3) = false := by simp; omega
  obtain ⟨m1, hm1⟩ : ∃ m1, m1 = n - 1 := ⟨_, rfl⟩
  have hm1n : m1 < n := by omega
  obtain ⟨b, off, rfl, g1⟩ := hr1.at m1 hm1n
  have hx : m1 < xs.length := by have := HL.out; omega
  have hx2 := HLet.out xs[m1] (List.getElem_mem hx)
  have hxb : -1000 ≤ xs[m1] ∧ xs[m1] ≤ 1000 := by omega
  have HP := Lib.hid (fun w0 => placeOf_any xs[m1] w0 hxb.1 hxb.2)
  have em : (n : Int) - 1 = (m1 : Int) := by omega
  have hrl := hr1.take m1 (by omega)
  have HM1 := Lib.hid hm1
  clear hx2 hxb

  have b2 : decide ((m1 : Int) < 0) = false := by (simp <;> omega)
  have b3 : (plc xs[m1] != s - 2) = false := by
    have e : xs.length - 1 = m1 := by have := HL.out; have := HM1.out; omega
    rw [e] at hd3
    simp [List.getD_eq_getElem?_getD, hx] at hd3
    simpa using hd3
  rw [em]
  clear hd3 hm1 em
  go_quiet ((go_at_call 100; exact Calls.quiet_of_same (HP.out _)))
  have hrl := hrl.drewN nq
  have hA := hA.drewN nq
  have hR := hR.drewN nq
  have hG := hG.drewN nq
  have hB := below_drewN hB nq
  have hmc : m1 ≤ c := by omega
  have hmc' : (m1 : Int) ≤ (c : Int) := by omega
  have hm0 : (0 : Int) ≤ (m1 : Int) := by omega
  clear HP g1 lA lR lG zr zg b3 hr1
  generalize W.drewN nq = W2 at hA hR hB hrl hG ⊢
  have lA := hA.two
  have lR := hR.two
  have lG := hG.one
  have zr : w.heap.size + 1 < W2.heap.size := hR.lt
  have hcl : ∀ x ∈ xs.take m1, ∀ w5, (∃ m, w5 = W2.drewN m) → Calls Try.prog 111 (#[.int .i64 x] ++ #[.pointer (some ⟨w1.heap.size, 0, none⟩)]) w5 fun e w' => e = .returned (.bool (plc x == s - 2)) ∧ ∃ m, w' = W2.drewN m := fun x hx w5 hw5 => by
    obtain ⟨m, rfl⟩ := hw5
    have hxl := HLet.out x (List.mem_of_mem_take hx)
    rw [show (#[Value.int .i64 x] ++ #[Value.pointer (some ⟨w1.heap.size, 0, none⟩)] : Array Value) = #[.int .i64 x, .pointer (some ⟨w1.heap.size, 0, none⟩)] from rfl]
    exact (dest1_any s x _ _ _ (by omega) (by omega) (hG.drewN m)).mono fun e w' ⟨h, m', hm⟩ => ⟨h, m + m', by rw [hm, World.drewN_drewN]⟩
  have HCL := Lib.hid hcl; clear hcl
  have HAny := Lib.hid hd4; clear hd4
  go_wp2_with fail
  refine (containsFunc_inv (fun w5 => ∃ m, w5 = W2.drewN m) 111 _ (fun x => plc x == s - 2) _ _ _ (xs.take m1) _ ⟨0, rfl⟩ (fun w5 hw5 => by obtain ⟨m, rfl⟩ := hw5; exact hrl.drewN m) (by omega) ent_dest1 HCL.out).mono ?_
  rintro e w6 ⟨rfl, m6, hw6⟩
  have e6 : xs.length - 1 = m1 := by have := HL.out; have := HM1.out; omega
  have HE := Lib.hid e6; clear e6
  have hA : Loc w6 w.heap.size #[.int .i64 s, .slice (some ⟨b, off, none⟩) n c] 24 := by rw [hw6]; exact hA.drewN m6
  have hR : Loc w6 (w.heap.size + 1) #[.int .i64 0, .slice none 0 0] 24 := by rw [hw6]; exact hR.drewN m6
  have hrl : Row w6 (some ⟨b, off, none⟩) m1 (xs.take m1) := by rw [hw6]; exact hrl.drewN m6
  have hB : Below w.heap.size w w6 := by rw [hw6]; exact below_drewN hB m6
  clear hw6 lA lR lG hG zr
  have lA := hA.two
  have lR := hR.two
  have zr : w.heap.size + 1 < w6.heap.size := hR.lt
  have ha := HAny.out
  rw [HE.out] at ha
  rw [ha]
  clear ha
  go_wp2
  refine bodyPost_ret (v := .tuple #[bAgg 0 none 0 0, .int .i64 5]) (by simp [results, Try.results44, go_sem, lR]) rfl ⟨none, 0, 0, rfl, Own.nil _ _, ?_⟩
  exact ((hB.setCell (by simp) _).setCell (by simp) _)

set_option maxHeartbeats 1000000 in
theorem impl_Dest_ok (s : Int) (a : Option Addr) (n c : Nat) (xs : List Int) (w : World) (h1 : Row w a n xs) (hm : n ≤ 9223372036854775807) (hs : I64 s) (hb : isBr s xs = true) (hd : 3 ≤ s) (hn0 : 0 < n) (hnc : n ≤ c) (hd3 : (plc (xs.getD (xs.length - 1) 0) == s - 2) = true) (hd4 : (xs.take (xs.length - 1)).any (fun x => plc x == s - 2) = false) :
    Calls Try.prog 44 #[bAgg s a n c] w (RetB w (s - 1) (xs.take (n - 1)) 0) := by
  obtain ⟨h26, h30, hlet⟩ := isBr_let hb
  have hl := h1.len
  have hn30 : n ≤ 30 := by omega
  have HLet := Lib.hid hlet; clear hlet
  have HB := Lib.hid hb; clear hb
  have HL := Lib.hid hl; clear hl
  have hw2 : IntKind.i64.wrap (s - 2) = s - 2 := IntWalk.i64_in _ (by omega)
  have HW2 := Lib.hid hw2; clear hw2
  have hw1 : IntKind.i64.wrap (s - 1) = s - 1 := IntWalk.i64_in _ (by omega)
  have HW1 := Lib.hid hw1; clear hw1
  go_enter Try.func44, Try.ntmps44
  go_wp2_with fail
  refine (isBraid_any _ _ _ _ xs _ ((h1.alloc _).alloc _) hm).mono ?_
  rintro e w1 ⟨rfl, hb1⟩
  rw [HB.out]
  have hA : Loc w1 w.heap.size _ _ := ((Loc.new _ (by simp) _ _).alloc _).below hb1 (by simp <;> omega)
  have hR : Loc w1 (w.heap.size + 1) _ _ := (Loc.new _ (by simp) _ _).below hb1 (by simp)
  have hr1 := ((h1.alloc _).alloc _).below hb1
  have hB1 : Below w.heap.size w w1 := below_alth (below_al (Below.refl _ _) _) hb1
  have lA := hA.two
  have lR := hR.two
  have z1 : w.heap.size + 1 < w1.heap.size := hR.lt
  have z0 : w.heap.size < w1.heap.size := hA.lt
  clear h1 hb1
  have hw2 := HW2.out
  go_wp2
  clear hw2
  have hG := Loc.new w1 rfl #[.int .i64 (s - 2)] 3
  have hA := hA.alloc (.cells #[.int .i64 (s - 2)] 3)
  have hR := hR.alloc (.cells #[.int .i64 (s - 2)] 3)
  have hr1 := hr1.alloc (.cells #[.int .i64 (s - 2)] 3)
  have hB := below_al hB1 (.cells #[.int .i64 (s - 2)] 3)
  clear lA lR
  generalize w1.alloc (.cells #[.int .i64 (s - 2)] 3) = W at hG hA hR hr1 hB ⊢
  have lA := hA.two
  have lR := hR.two
  have lG := hG.one
  have zr : w.heap.size + 1 < W.heap.size := hR.lt
  have zg : w1.heap.size < W.heap.size := hG.lt
  have b1 : decide (s < 3) = false := by simp; omega
  obtain ⟨m1, hm1⟩ : ∃ m1, m1 = n - 1 := ⟨_, rfl⟩
  have hm1n : m1 < n := by omega
  obtain ⟨b, off, rfl, g1⟩ := hr1.at m1 hm1n
  have hx : m1 < xs.length := by have := HL.out; omega
  have hx2 := HLet.out xs[m1] (List.getElem_mem hx)
  have hxb : -1000 ≤ xs[m1] ∧ xs[m1] ≤ 1000 := by omega
  have HP := Lib.hid (fun w0 => placeOf_any xs[m1] w0 hxb.1 hxb.2)
  have em : (n : Int) - 1 = (m1 : Int) := by omega
  have hrl := hr1.take m1 (by omega)
  have HM1 := Lib.hid hm1
  clear hx2 hxb

  have b2 : decide ((m1 : Int) < 0) = false := by (simp <;> omega)
  have b3 : (plc xs[m1] != s - 2) = false := by
    have e : xs.length - 1 = m1 := by have := HL.out; have := HM1.out; omega
    rw [e] at hd3
    simp [List.getD_eq_getElem?_getD, hx] at hd3
    simpa using hd3
  rw [em]
  clear hd3 hm1 em
  go_quiet ((go_at_call 100; exact Calls.quiet_of_same (HP.out _)))
  have hrl := hrl.drewN nq
  have hA := hA.drewN nq
  have hR := hR.drewN nq
  have hG := hG.drewN nq
  have hB := below_drewN hB nq
  have hmc : m1 ≤ c := by omega
  have hmc' : (m1 : Int) ≤ (c : Int) := by omega
  have hm0 : (0 : Int) ≤ (m1 : Int) := by omega
  clear HP g1 lA lR lG zr zg b3 hr1
  generalize W.drewN nq = W2 at hA hR hB hrl hG ⊢
  have lA := hA.two
  have lR := hR.two
  have lG := hG.one
  have zr : w.heap.size + 1 < W2.heap.size := hR.lt
  have hcl : ∀ x ∈ xs.take m1, ∀ w5, (∃ m, w5 = W2.drewN m) → Calls Try.prog 111 (#[.int .i64 x] ++ #[.pointer (some ⟨w1.heap.size, 0, none⟩)]) w5 fun e w' => e = .returned (.bool (plc x == s - 2)) ∧ ∃ m, w' = W2.drewN m := fun x hx w5 hw5 => by
    obtain ⟨m, rfl⟩ := hw5
    have hxl := HLet.out x (List.mem_of_mem_take hx)
    rw [show (#[Value.int .i64 x] ++ #[Value.pointer (some ⟨w1.heap.size, 0, none⟩)] : Array Value) = #[.int .i64 x, .pointer (some ⟨w1.heap.size, 0, none⟩)] from rfl]
    exact (dest1_any s x _ _ _ (by omega) (by omega) (hG.drewN m)).mono fun e w' ⟨h, m', hm⟩ => ⟨h, m + m', by rw [hm, World.drewN_drewN]⟩
  have HCL := Lib.hid hcl; clear hcl
  have HAny := Lib.hid hd4; clear hd4
  go_wp2_with fail
  refine (containsFunc_inv (fun w5 => ∃ m, w5 = W2.drewN m) 111 _ (fun x => plc x == s - 2) _ _ _ (xs.take m1) _ ⟨0, rfl⟩ (fun w5 hw5 => by obtain ⟨m, rfl⟩ := hw5; exact hrl.drewN m) (by omega) ent_dest1 HCL.out).mono ?_
  rintro e w6 ⟨rfl, m6, hw6⟩
  have e6 : xs.length - 1 = m1 := by have := HL.out; have := HM1.out; omega
  have HE := Lib.hid e6; clear e6
  have hA : Loc w6 w.heap.size #[.int .i64 s, .slice (some ⟨b, off, none⟩) n c] 24 := by rw [hw6]; exact hA.drewN m6
  have hR : Loc w6 (w.heap.size + 1) #[.int .i64 0, .slice none 0 0] 24 := by rw [hw6]; exact hR.drewN m6
  have hrl : Row w6 (some ⟨b, off, none⟩) m1 (xs.take m1) := by rw [hw6]; exact hrl.drewN m6
  have hB : Below w.heap.size w w6 := by rw [hw6]; exact below_drewN hB m6
  clear hw6 lA lR lG hG zr
  have lA := hA.two
  have lR := hR.two
  have zr : w.heap.size + 1 < w6.heap.size := hR.lt
  have ha := HAny.out
  rw [HE.out] at ha
  rw [ha]
  clear ha
  go_wp2
  have hw1 := HW1.out
  go_region_held3 (fun w' => w'.cell? ⟨w.heap.size, 0, none⟩ = some (.int .i64 s) ∧ w'.cell? ⟨w.heap.size, 1, none⟩ = some (.slice (some ⟨b, off, none⟩) n c))
    (first | exact ⟨lA5.1, lA5.2.1⟩ | go_keep)
    (first
    | (go_at_call 99; refine (clone_any _ _ _ (xs.take m1) _ (hrl.drewN 1) (by omega)).mono ?_; rintro e w5 ⟨a', c', rfl, ho, hb5⟩; have hA5 : Loc w5 w.heap.size _ _ := (hA.drewN 1).below hb5 hA.lt; have hR5 : Loc w5 (w.heap.size + 1) _ _ := (hR.drewN 1).below hb5 hR.lt; have lA5 := hA5.two; have lR5 := hR5.two; have hB5 := below_th (below_drewN hB 1) hb5))
  all_goals
    go_wp2
    refine bodyPost_ret (v := .tuple #[bAgg (s - 1) a' m1 c', .int .i64 0]) (by simp [results, Try.results44, go_sem, lR5]) rfl ⟨_, _, c', rfl, ?_, ?_⟩
    · rw [← HM1.out]
      exact ((ho.setlo (by simp <;> omega) _).setlo (by simp <;> omega) _).mono hB.size
    · exact (hB5.setCell (by simp) _).setCell (by simp) _

theorem dest_iff (s : Int) (xs : List Int) (h : 0 < xs.length) (hl : (plc (xs.getD (xs.length - 1) 0) == s - 2) = true) : cntP s xs = 1 ↔ (xs.take (xs.length - 1)).any (fun x => plc x == s - 2) = false := by
  have hx : xs.length - 1 < xs.length := by omega
  have hs := cntP_succ (s := s) hx
  have e : xs.take (xs.length - 1 + 1) = xs := List.take_of_length_le (by omega)
  simp [List.getD_eq_getElem?_getD, hx] at hl
  rw [e, if_pos (by simpa using hl)] at hs
  rw [hs]
  have h0 : cntP s (xs.take (xs.length - 1)) = 0 ↔ (xs.take (xs.length - 1)).any (fun x => plc x == s - 2) = false := by
    unfold cntP
    rw [List.countP_eq_zero]
    simp
  rw [← h0]; omega
/-- what DestabilizeBraid answers: strands, word, code -/
def destF (s : Int) (xs : List Int) : Int × List Int × Int :=
  if isBr s xs then (if 3 ≤ s then (if 0 < xs.length then (if plc (xs.getD (xs.length - 1) 0) == s - 2 then (if cntP s xs = 1 then (s - 1, xs.take (xs.length - 1), 0) else (0, [], 5)) else (0, [], 5)) else (0, [], 5)) else (0, [], 5)) else (0, [], 1)
theorem Dest_len (s : Int) (xs : List Int) : (destF s xs).2.1.length ≤ 2000 := by
  unfold destF
  split
  · rename_i h
    have := (isBr_let h).2.1
    split
    · split
      · split
        · split
          · simp only [List.length_take]; omega
          · simp
        · simp
      · simp
    · simp
  · simp
theorem impl_Dest_any (s : Int) (a : Option Addr) (n c : Nat) (xs : List Int) (w : World) (h1 : Row w a n xs) (hm : n ≤ 9223372036854775807) (hs : I64 s) (hnc : n ≤ c) :
    Calls Try.prog 44 #[bAgg s a n c] w (RetB w (destF s xs).1 (destF s xs).2.1 (destF s xs).2.2) := by
  have hl := h1.len
  unfold destF
  cases h : isBr s xs with
  | false => exact impl_Dest_no s a n c xs w h1 hm hs h
  | true =>
    rw [if_pos rfl]
    by_cases h3 : 3 ≤ s
    · rw [if_pos h3]
      by_cases h0 : 0 < xs.length
      · rw [if_pos h0]
        cases hp : (plc (xs.getD (xs.length - 1) 0) == s - 2) with
        | true =>
          rw [if_pos rfl]
          have hi := dest_iff s xs h0 hp
          by_cases hc : cntP s xs = 1
          · rw [if_pos hc, ← hl]
            exact impl_Dest_ok s a n c xs w h1 hm hs h h3 (by omega) hnc hp (hi.1 hc)
          · rw [if_neg hc]
            refine impl_Dest_any' s a n c xs w h1 hm hs h h3 (by omega) hnc hp ?_
            cases ha : (xs.take (xs.length - 1)).any (fun x => plc x == s - 2) with
            | true => rfl
            | false => exact absurd (hi.2 ha) hc
        | false => exact impl_Dest_pl s a n c xs w h1 hm hs h h3 (by omega) hp
      · rw [if_neg h0]; exact impl_Dest_emp s a n c xs w h1 hm hs h h3 (by omega)
    · rw [if_neg h3]; exact impl_Dest_lt s a n c xs w h1 hm hs h (by omega)

end Go.Proofs.Ytehomfbehhlhmaa
