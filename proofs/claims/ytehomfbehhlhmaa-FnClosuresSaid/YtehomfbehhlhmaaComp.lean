/-
  The components of a braid: what the program's and the reference's functions compute.
  No condition but bounds.
-/
import Derived.Test.YtehomfbehhlhmaaOrbSS
import Derived.Deep.RegionHeld3
namespace Go.Proofs.Ytehomfbehhlhmaa
set_option maxRecDepth 100000
set_option linter.unusedVariables false
set_option linter.unusedSimpArgs false
open Go.RowKit

theorem IsP.own {n : Nat} {p : List Int} (h : IsP n p) : ∃ g, IsPf n p (fun i => (p.getD i 0).toNat) g := by
  obtain ⟨f, g, hl, h1, h2⟩ := h
  have e : ∀ i, i < n → (p.getD i 0).toNat = f i := fun i hi => by rw [h2 i hi]; simp
  refine ⟨g, hl, fun i hi => ?_, fun i hi => ?_⟩
  · have hh := h1 i hi
    refine ⟨by show (p.getD i 0).toNat < n; rw [e i hi]; exact hh.1, hh.2.1, ?_, ?_⟩
    · show (p.getD (g i) 0).toNat = i
      rw [e _ hh.2.1]; exact hh.2.2.1
    · show g ((p.getD i 0).toNat) = i
      rw [e i hi]; exact hh.2.2.2
  · show _ = (((p.getD i 0).toNat : Nat) : Int)
    rw [e i hi]; exact h2 i hi
def compL (s : Nat) (xs : List Int) : List Int := labF (fun i => ((brP s xs).getD i 0).toNat) s
theorem compL_len (s : Nat) (xs : List Int) : (compL s xs).length = s := labS_len _ _ _
theorem Tbl.single {w : World} {a : Option Addr} {n c b : Nat} {xs : List Int} {t : TypeId} (h : Row w a n xs) (hn : n ≤ 9223372036854775807) (hb : b = w.heap.size) : Tbl (w.alloc (.cells #[.slice a n c] t)) (some ⟨b, 0, none⟩) 1 [xs] :=
by
  refine ⟨rfl, fun i hi => ?_⟩
  have e : i = 0 := by omega
  subst e
  have hL := Loc.new w hb #[.slice a n c] t
  exact ⟨b, 0, a, n, c, rfl, hL.lt, hL.one.1, h.alloc _, hn⟩

set_option maxHeartbeats 1000000 in
theorem componentsOf_any (s : Nat) (a : Option Addr) (n c : Nat) (xs : List Int) (w : World) (h1 : Row w a n xs) (hb : isBr s xs = true) :
    Calls Try.prog 83 #[bAgg s a n c] w fun e w' => ∃ a' c', e = .returned (.slice a' s c') ∧ Own w' w.heap.size a' s c' (compL s xs) ∧ Below w.heap.size w w' := by
  obtain ⟨h26, h30, hlet⟩ := isBr_let hb
  obtain ⟨g, hpf⟩ := (brP_isP s xs (fun x hx => plc_let (hlet x hx))).own
  have HLet := Lib.hid hlet; clear hlet
  have HP := Lib.hid hpf; clear hpf
  have HB := Lib.hid hb; clear hb
  have hs6 : s ≤ 6 := by omega
  go_enter Try.func83, Try.ntmps83
  have hA := Loc.new w rfl #[.int .i64 s, .slice a n c] 24
  have lA := hA.two
  have hr := h1.alloc (.cells #[.int .i64 s, .slice a n c] 24)
  have hB := below_al (Below.refl w.heap.size w) (.cells #[.int .i64 s, .slice a n c] 24)
  go_wp2
  go_region_held3 (fun w' => w'.cell? ⟨w.heap.size, 0, none⟩ = some (.int .i64 s) ∧ w'.cell? ⟨w.heap.size, 1, none⟩ = some (.slice a n c))
    (first | exact ⟨lA3.1, lA3.2.1⟩ | exact ⟨lA2.1, lA2.2.1⟩ | exact ⟨lA.1, lA.2.1⟩ | go_keep)
    (first
    | (go_at_call 145; refine (braidPermutation_any s _ _ _ xs _ (hr.drewN 1) HB.out).mono ?_; rintro e w2 ⟨a2, c2, rfl, ho2, hb2⟩; have hA2 := (hA.drewN 1).below hb2 (by simp); have lA2 := hA2.two; have hB2 := below_th (below_drewN hB 1) hb2)
    | (go_at_call 144; refine (orbitLabels_any s _ g (brP s xs) _ _ _ (by omega) HP.out (Tbl.single ho2.row (by omega) rfl)).mono ?_; rintro e w3 ⟨a3, c3, rfl, ho3, hb3⟩; have hA3 := (hA2.alloc _).below hb3 (by have := hA2.lt; simp; omega); have lA3 := hA3.two; have hB3 := below_alth hB2 hb3))
  all_goals
    go_wp2
    go_ret
    exact ⟨_, _, rfl, ho3.mono (by have := hB2.size; simp; omega), hB3⟩

set_option maxHeartbeats 1000000 in
theorem l17Components_any (s : Nat) (a : Option Addr) (n c : Nat) (xs : List Int) (w : World) (h1 : Row w a n xs) (hb : isBr s xs = true) :
    Calls Try.prog 103 #[bAgg s a n c] w fun e w' => ∃ a' c', e = .returned (.slice a' s c') ∧ Own w' w.heap.size a' s c' (compL s xs) ∧ Below w.heap.size w w' := by
  obtain ⟨h26, h30, hlet⟩ := isBr_let hb
  obtain ⟨g, hpf⟩ := (brP_isP s xs (fun x hx => plc_let (hlet x hx))).own
  have HLet := Lib.hid hlet; clear hlet
  have HP := Lib.hid hpf; clear hpf
  have HB := Lib.hid hb; clear hb
  have hs6 : s ≤ 6 := by omega
  go_enter Try.func103, Try.ntmps103
  have hA := Loc.new w rfl #[.int .i64 s, .slice a n c] 24
  have lA := hA.two
  have hr := h1.alloc (.cells #[.int .i64 s, .slice a n c] 24)
  have hB := below_al (Below.refl w.heap.size w) (.cells #[.int .i64 s, .slice a n c] 24)
  go_wp2
  go_region_held3 (fun w' => w'.cell? ⟨w.heap.size, 0, none⟩ = some (.int .i64 s) ∧ w'.cell? ⟨w.heap.size, 1, none⟩ = some (.slice a n c))
    (first | exact ⟨lA3.1, lA3.2.1⟩ | exact ⟨lA2.1, lA2.2.1⟩ | exact ⟨lA.1, lA.2.1⟩ | go_keep)
    (first
    | (go_at_call 163; refine (l16Permutation_any s _ _ _ xs _ (hr.drewN 1) HB.out).mono ?_; rintro e w2 ⟨a2, c2, rfl, ho2, hb2⟩; have hA2 := (hA.drewN 1).below hb2 (by simp); have lA2 := hA2.two; have hB2 := below_th (below_drewN hB 1) hb2)
    | (go_at_call 162; refine (l01Orbits_any s _ g (brP s xs) _ _ _ (by omega) HP.out (Tbl.single ho2.row (by omega) rfl)).mono ?_; rintro e w3 ⟨a3, c3, rfl, ho3, hb3⟩; have hA3 := (hA2.alloc _).below hb3 (by have := hA2.lt; simp; omega); have lA3 := hA3.two; have hB3 := below_alth hB2 hb3))
  all_goals
    go_wp2
    go_ret
    exact ⟨_, _, rfl, ho3.mono (by have := hB2.size; simp; omega), hB3⟩

end Go.Proofs.Ytehomfbehhlhmaa
