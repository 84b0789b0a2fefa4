/-
  The program's compareSolutions.
  No condition but bounds.
-/
import Derived.Test.YthgafpeblpnolaaGreatBase
import Derived.Sort.Grow
namespace Go.Proofs.YthgafpeblpnolaaGreat
set_option maxRecDepth 100000
set_option linter.unusedVariables false
set_option linter.unusedSimpArgs false
open Go.RowKit

/-- the first one of two numbers that is not 0 -/
def orI (x y : Int) : Int := if x = 0 then y else x
set_option maxHeartbeats 1000000 in
theorem cmpOr_any (b : Nat) (x y : Int) (t : TypeId) (w : World) (h : Loc w b #[.int .i64 x, .int .i64 y] t) :
    Calls Tryz.prog 109 #[.slice (some ⟨b, 0, none⟩) 2 2] w fun e w' => e = .returned (.int .i64 (orI x y)) ∧ w = w' := by
  have l := h.two
  by_cases hx : x = 0
  · have HO : Hid (orI x y = y) := Lib.hid (if_pos hx)
    rw [HO.out]
    subst hx
    go_enter Tryz.func109, Tryz.ntmps109
    go_wp2
    go_loop [5, 8] (fun _ i => i = .int .i64 0 ∨ i = .int .i64 1 ∨ (i = .int .i64 2 ∧ y = 0)) (fun _ i => 2 - (intOf i).toNat)
    case atStart => exact .inl rfl
    case round =>
      rcases hrel with rfl | rfl | ⟨rfl, rfl⟩
      · go_wp2
        go_round
        case rel => exact .inr (.inl rfl)
        case measure => simp [intOf]
      · by_cases hy : y = 0
        · subst hy
          go_wp2
          go_round
          case rel => first | exact .inr (.inr ⟨rfl, rfl⟩) | exact .inr (.inr trivial) | simp
          case measure => simp [intOf]
        · have hy2 : (y != 0) = true := by simpa using hy
          go_wp2
          go_ret
          exact ⟨rfl, rfl⟩
      · go_wp2
        go_ret
        exact ⟨rfl, rfl⟩
  · have HO : Hid (orI x y = x) := Lib.hid (if_neg hx)
    rw [HO.out]
    have hx2 : (x != 0) = true := by simpa using hx
    go_enter Tryz.func109, Tryz.ntmps109
    go_wp2
    go_loop [5, 8] (fun _ i => i = .int .i64 0) (fun _ i => 2 - (intOf i).toNat)
    case atStart => rfl
    case round =>
      obtain rfl := hrel
      go_wp2
      go_ret
      exact ⟨rfl, rfl⟩
/-- how two pair maps compare -/
def cmpS (s t : List (List Int) × List (List Int)) : Int := orI (cmpT s.1 t.1) (cmpT s.2 t.2)
theorem orI_bd {x y : Int} (h1 : -1 ≤ x ∧ x ≤ 1) (h2 : -1 ≤ y ∧ y ≤ 1) : -1 ≤ orI x y ∧ orI x y ≤ 1 := by unfold orI; split <;> assumption
theorem cmpS_bd (s t : List (List Int) × List (List Int)) : -1 ≤ cmpS s t ∧ cmpS s t ≤ 1 := orI_bd (cmpT_bd _ _) (cmpT_bd _ _)
theorem grow3 (w : World) (o1 o2 o3 : Obj) : (((w.alloc o1).alloc o2).drew).alloc o3 = Go.Sort.grow (w.drewN 1) #[o1, o2, o3] := by
  have e : (((w.alloc o1).alloc o2).drew).alloc o3 = (((w.drewN 1).alloc o1).alloc o2).alloc o3 := rfl
  rw [e, Go.Sort.alloc_eq_grow, Go.Sort.alloc_eq_grow, Go.Sort.alloc_eq_grow, Go.Sort.grow_grow, Go.Sort.grow_grow]; rfl
set_option maxHeartbeats 4000000 in
theorem compareSolutions_any (a a' b b' : Option Addr) (n n' m m' c c' d d' : Nat) (f f' g g' : List (List Int)) (w : World) (h1 : Tbl w a n f) (h2 : Tbl w a' n' f') (h3 : Tbl w b m g) (h4 : Tbl w b' m' g') (hn : n ≤ 9223372036854775807) (hn' : n' ≤ 9223372036854775807) :
    Calls Tryz.prog 51 #[sAgg a n c a' n' c', sAgg b m d b' m' d'] w fun e w' => e = .returned (.int .i64 (cmpS (f, f') (g, g'))) ∧ ∃ q os', w' = Go.Sort.grow (w.drewN q) os' := by
  obtain ⟨w0, hw0⟩ : ∃ w0, (w.alloc (.cells #[.slice a n c, .slice a' n' c'] 28)).alloc (.cells #[.slice b m d, .slice b' m' d'] 28) = w0 := ⟨_, rfl⟩
  have hA : Loc w0 w.heap.size #[.slice a n c, .slice a' n' c'] 28 := by rw [← hw0]; exact (Loc.new w rfl _ _).alloc _
  have hC : Loc w0 (w.heap.size + 1) #[.slice b m d, .slice b' m' d'] 28 := by rw [← hw0]; exact Loc.new _ (by simp) _ _
  have hB0 : Below w.heap.size w w0 := by rw [← hw0]; exact below_al (below_al (Below.refl _ _) _) _
  have h1' := (h1.below hB0).drewN 1
  have h2' := (h2.below hB0).drewN 1
  have h3' := (h3.below hB0).drewN 1
  have h4' := (h4.below hB0).drewN 1
  have lA := hA.two
  have lC := hC.two
  have HW0 := Lib.hid hw0
  clear hw0
  obtain ⟨X, HX⟩ : ∃ X, Hid (cmpT f g = X) := ⟨_, Lib.hid rfl⟩
  obtain ⟨Y, HY⟩ : ∃ Y, Hid (cmpT f' g' = Y) := ⟨_, Lib.hid rfl⟩
  have HR : Hid (cmpS (f, f') (g, g') = orI X Y) := Lib.hid (by unfold cmpS; rw [HX.out, HY.out])
  rw [HR.out]
  go_enter Tryz.func51, Tryz.ntmps51
  go_wp2_with fail
  rw [HW0.out]
  go_region_held3 (fun w' => w'.cell? ⟨w.heap.size, 0, none⟩ = some (.slice a n c) ∧ w'.cell? ⟨w.heap.size, 1, none⟩ = some (.slice a' n' c') ∧ w'.cell? ⟨w.heap.size + 1, 0, none⟩ = some (.slice b m d) ∧ w'.cell? ⟨w.heap.size + 1, 1, none⟩ = some (.slice b' m' d'))
    (first | exact ⟨lA.1, lA.2.1, lC.1, lC.2.1⟩ | exact ⟨(hA.alloc _).cell 0 rfl, (hA.alloc _).cell 1 rfl, (hC.alloc _).cell 0 rfl, (hC.alloc _).cell 1 rfl⟩ | go_keep)
    (first
    | (go_at_call 107; refine (compareTables_any a b n m c d f g _ h1' h3' hn).mono ?_; rintro e w2 ⟨rfl, rfl⟩; rw [HX.out])
    | (go_at_call 107; refine (compareTables_any a' b' n' m' c' d' f' g' _ h2' h4' hn').mono ?_; rintro e w2 ⟨rfl, rfl⟩; rw [HY.out])
    | (go_at_call 109; refine (cmpOr_any _ X Y _ _ (Loc.new _ rfl _ _)).mono ?_; rintro e w2 ⟨rfl, rfl⟩))
  all_goals
    go_wp2
    go_ret
    exact ⟨rfl, 1, _, by rw [← HW0.out]; exact grow3 w _ _ _⟩
end Go.Proofs.YthgafpeblpnolaaGreat
