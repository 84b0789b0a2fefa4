/-
  Racks, as the laws' walks take them.
  No condition but bounds on lengths.
-/
import Derived.Test.YtehomfbehhlhmaaBase
namespace Go.Proofs.Ytehomfbehhlhmaa
set_option maxRecDepth 100000
set_option linter.unusedVariables false
set_option linter.unusedSimpArgs false
open Go.RowKit

section
variable {w w' : World} {lo : Nat} {a a1 a2 : Option Addr} {n n1 n2 c c1 c2 : Nat} {vs : List SV} {xss : List (List Int)}
theorem szRack_ok' {L : Int} (hr : Tbl w a n xss) (h0 : (n : Int) + tot xss ≤ L) (h1 : L ≤ 1048576) : Calls Try.prog 60 #[rAgg a n c, .int .i64 L] w fun e w' => e = .returned (.int .i64 (L - n - tot xss)) ∧ Below w.heap.size w w' := by
  go_enter Try.func60, Try.ntmps60
  go_wp2_with fail
  refine (szInt64SS_ok _ _ _ _ _ _ (hr.alloc _) (by omega) (by omega)).mono ?_
  rintro e w1 ⟨rfl, rfl⟩
  go_wp2
  go_ret
  exact ⟨rfl, below_al (Below.refl _ _) _⟩
theorem szRack_no' {L : Int} (hr : Tbl w a n xss) (h0 : L < (n : Int) + tot xss) (h1 : L ≤ 1048576) (h2 : 0 ≤ L) (hn : n ≤ 9223372036854775807) : Calls Try.prog 60 #[rAgg a n c, .int .i64 L] w fun e w' => e = .returned (.int .i64 (-1)) ∧ Below w.heap.size w w' := by
  go_enter Try.func60, Try.ntmps60
  go_wp2_with fail
  refine (szInt64SS_no _ _ _ _ _ _ (hr.alloc _) h0 h1 h2 hn).mono ?_
  rintro e w1 ⟨rfl, rfl⟩
  go_wp2
  go_ret
  exact ⟨rfl, below_al (Below.refl _ _) _⟩
set_option maxHeartbeats 1000000 in
theorem eqRack_u (h1 : Tbl w a1 n1 xss) (h2 : Tbl w a2 n2 xss) (hm : n1 ≤ 9223372036854775807) : Calls Try.prog 64 #[rAgg a1 n1 c1, rAgg a2 n2 c2] w fun e w' => e = .returned (.bool true) ∧ Below w.heap.size w w' := by
  go_enter Try.func64, Try.ntmps64
  go_wp2_with fail
  refine (eqInt64SS_sameB _ _ _ _ _ _ _ _ ((h1.alloc _).alloc _) ((h2.alloc _).alloc _) hm).mono ?_
  rintro e w1 ⟨rfl, hb1⟩
  go_wp2
  go_ret
  exact ⟨rfl, below_th (below_al (below_al (Below.refl _ _) _) _) hb1⟩
set_option maxHeartbeats 1000000 in
theorem toRack_u (h : Tbl w a n xss) (hm : n + tot xss ≤ 1048576) : Calls Try.prog 62 #[rAgg a n c] w fun e w' => ∃ b d vs, e = .returned (rAgg b n d) ∧ OwnT w' w.heap.size b n d vs xss ∧ Below w.heap.size w w' := by
  have hR := (Loc.new (w.alloc (.cells #[.slice a n c] 62)) rfl #[.slice none 0 0] 65).alloc (.cells #[.slice none 0 0] 65)
  have hO := Loc.new ((w.alloc (.cells #[.slice a n c] 62)).alloc (.cells #[.slice none 0 0] 65)) rfl #[.slice none 0 0] 65
  have hB := below_al (below_al (below_al (Below.refl w.heap.size w) (.cells #[.slice a n c] 62)) (.cells #[.slice none 0 0] 65)) (.cells #[.slice none 0 0] 65)
  rw [size_alloc] at hR
  rw [size_alloc, size_alloc] at hO
  go_enter Try.func62, Try.ntmps62
  go_wp2_with fail
  generalize ((w.alloc (.cells #[.slice a n c] 62)).alloc (.cells #[.slice none 0 0] 65)).alloc (.cells #[.slice none 0 0] 65) = w0 at *
  refine (toInt64SS_any _ _ _ xss _ (h.below hB) hm).mono ?_
  rintro e w1 ⟨b, d, vs, rfl, ho, hb1⟩
  have lO := (hO.below hb1 hO.lt).one
  have lR := (hR.below hb1 hR.lt).one
  have hs := hO.lt
  go_wp2
  refine bodyPost_ret (v := rAgg b n d) (by simp [results, Try.results62, go_sem, lO, lR]) rfl ⟨b, d, vs, rfl, ?_, ?_⟩
  · exact ((ho.setlo (by show w.heap.size + 1 + 1 < w0.heap.size; omega) _).setlo (by show w.heap.size + 1 < w0.heap.size; omega) _).mono hB.size
  · exact below_setne (below_setne (below_th hB hb1) (by show w.heap.size ≤ w.heap.size + 1 + 1; omega) _) (by show w.heap.size ≤ w.heap.size + 1; omega) _
end
end Go.Proofs.Ytehomfbehhlhmaa
