/-
  IsDesk, on both sides.
  No condition but bounds on lengths.
-/
import Derived.Test.YthkpdodhkgdiaaaUD
import Derived.Test.YthkpdodhkgdiaaaBraid
import Derived.Test.YthkpdodhkgdiaaaSolF
import Derived.Test.YthkpdodhkgdiaaaSolP
import Derived.Test.YthkpdodhkgdiaaaRackS
import Derived.Test.YthkpdodhkgdiaaaRackI
import Derived.Test.YthkpdodhkgdiaaaHelpT
namespace Go.Proofs.Ythkpdodhkgdiaaa
set_option maxRecDepth 100000
set_option linter.unusedVariables false
set_option linter.unusedSimpArgs false
open Go.RowKit

/-- a truth alone -/
def RetO0 (w : World) (x : Bool) (e : Ending) (w' : World) : Prop := e = .returned (.bool x) ∧ Below w.heap.size w w'
def iskD (f g t : List (List Int)) (s : Int) (xs : List Int) : Bool := isSol f g && isRk t && isBr s xs

set_option maxHeartbeats 2000000 in
theorem spec_IsD_any (a : Option Addr) (n c : Nat) (xss : List (List Int)) (a' : Option Addr) (n' c' : Nat) (yss : List (List Int)) (p : Option Addr) (m d : Nat) (zss : List (List Int)) (s : Int) (q : Option Addr) (l e : Nat) (ws : List Int) (w : World) (h : Dsk w a n xss a' n' yss p m zss q l ws)
    (hn : (n ≤ 9223372036854775807 ∧ n' ≤ 9223372036854775807) ∧ m ≤ 9223372036854775807 ∧ l ≤ 9223372036854775807) (hI : I64 s) : Calls Try.prog 59 #[dAgg a n c a' n' c' p m d s q l e] w (RetO0 w (iskD xss yss zss s ws)) := by
  have hA := Loc.new w rfl #[.slice a n c, .slice a' n' c', .slice p m d, .int .i64 s, .slice q l e] 39
  go_enter Try.func59, Try.ntmps59
  go_wp2_with fail
  refine (l02Is_any _ _ _ _ _ _ _ _ _ (h.s.f.alloc _) (h.s.s.alloc _) hn.1.1 hn.1.2).mono ?_
  rintro e1 w1 ⟨rfl, hb1⟩
  have lA := (hA.below hb1 hA.lt).five
  have k1 : Dsk w1 a n xss a' n' yss p m zss q l ws := (h.alloc _).below hb1
  cases hs : isSol xss yss with
  | false =>
    go_wp2
    go_ret
    exact ⟨by simp [iskD, hs], below_alth (Below.refl _ _) hb1⟩
  | true =>
    go_wp2_with fail
    refine (l03Is_any _ _ _ _ _ k1.r hn.2.1).mono ?_
    rintro e2 w2 ⟨rfl, hb2⟩
    have lA := ((hA.below hb1 hA.lt).below hb2 (hA.below hb1 hA.lt).lt).five
    have k2 := k1.below hb2
    cases hr : isRk zss with
    | false =>
      go_wp2
      go_ret
      exact ⟨by simp [iskD, hs, hr], below_th (below_alth (Below.refl _ _) hb1) hb2⟩
    | true =>
      go_wp2_with fail
      refine (l16Is_any _ _ _ _ _ _ k2.b hn.2.2 hI).mono ?_
      rintro e3 w3 ⟨rfl, hb3⟩
      go_wp2
      go_ret
      exact ⟨by simp [iskD, hs, hr], below_th (below_th (below_alth (Below.refl _ _) hb1) hb2) hb3⟩

set_option maxHeartbeats 2000000 in
theorem impl_IsD_any (a : Option Addr) (n c : Nat) (xss : List (List Int)) (a' : Option Addr) (n' c' : Nat) (yss : List (List Int)) (p : Option Addr) (m d : Nat) (zss : List (List Int)) (s : Int) (q : Option Addr) (l e : Nat) (ws : List Int) (w : World) (h : Dsk w a n xss a' n' yss p m zss q l ws)
    (hn : (n ≤ 9223372036854775807 ∧ n' ≤ 9223372036854775807) ∧ m ≤ 9223372036854775807 ∧ l ≤ 9223372036854775807) (hI : I64 s) : Calls Try.prog 61 #[dAgg a n c a' n' c' p m d s q l e] w (RetO0 w (iskD xss yss zss s ws)) := by
  have hA := Loc.new w rfl #[.slice a n c, .slice a' n' c', .slice p m d, .int .i64 s, .slice q l e] 39
  go_enter Try.func61, Try.ntmps61
  go_wp2_with fail
  refine (isSolution_any _ _ _ _ _ _ _ _ _ (h.s.f.alloc _) (h.s.s.alloc _) hn.1.1 hn.1.2).mono ?_
  rintro e1 w1 ⟨rfl, hb1⟩
  have lA := (hA.below hb1 hA.lt).five
  have k1 : Dsk w1 a n xss a' n' yss p m zss q l ws := (h.alloc _).below hb1
  cases hs : isSol xss yss with
  | false =>
    go_wp2
    go_ret
    exact ⟨by simp [iskD, hs], below_alth (Below.refl _ _) hb1⟩
  | true =>
    go_wp2_with fail
    refine (isRack_any _ _ _ _ _ k1.r hn.2.1).mono ?_
    rintro e2 w2 ⟨rfl, hb2⟩
    have lA := ((hA.below hb1 hA.lt).below hb2 (hA.below hb1 hA.lt).lt).five
    have k2 := k1.below hb2
    cases hr : isRk zss with
    | false =>
      go_wp2
      go_ret
      exact ⟨by simp [iskD, hs, hr], below_th (below_alth (Below.refl _ _) hb1) hb2⟩
    | true =>
      go_wp2_with fail
      refine (isBraid_any _ _ _ _ _ _ k2.b hn.2.2).mono ?_
      rintro e3 w3 ⟨rfl, hb3⟩
      go_wp2
      go_ret
      exact ⟨by simp [iskD, hs, hr], below_th (below_th (below_alth (Below.refl _ _) hb1) hb2) hb3⟩
theorem spec_IsD_l (a : Option Addr) (n c : Nat) (xss : List (List Int)) (a' : Option Addr) (n' c' : Nat) (yss : List (List Int)) (p : Option Addr) (m d : Nat) (zss : List (List Int)) (s : Int) (q : Option Addr) (l e : Nat) (ws : List Int) (w : World) (h : Dsk w a n xss a' n' yss p m zss q l ws)
    (hn : (n ≤ 9223372036854775807 ∧ n' ≤ 9223372036854775807) ∧ m ≤ 9223372036854775807 ∧ l ≤ 9223372036854775807) (hI : I64 s) (hx : I64s ws) : Calls Try.prog 59 #[dAgg a n c a' n' c' p m d s q l e] w (RetO0 w (iskD xss yss zss s ws)) := spec_IsD_any a n c xss a' n' c' yss p m d zss s q l e ws w h hn hI
theorem impl_IsD_l (a : Option Addr) (n c : Nat) (xss : List (List Int)) (a' : Option Addr) (n' c' : Nat) (yss : List (List Int)) (p : Option Addr) (m d : Nat) (zss : List (List Int)) (s : Int) (q : Option Addr) (l e : Nat) (ws : List Int) (w : World) (h : Dsk w a n xss a' n' yss p m zss q l ws)
    (hn : (n ≤ 9223372036854775807 ∧ n' ≤ 9223372036854775807) ∧ m ≤ 9223372036854775807 ∧ l ≤ 9223372036854775807) (hI : I64 s) (hx : I64s ws) : Calls Try.prog 61 #[dAgg a n c a' n' c' p m d s q l e] w (RetO0 w (iskD xss yss zss s ws)) := impl_IsD_any a n c xss a' n' c' yss p m d zss s q l e ws w h hn hI

end Go.Proofs.Ythkpdodhkgdiaaa
