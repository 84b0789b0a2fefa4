/-
  The reference's DrawBraidPeriod: a pair map and a braid that are read.
  No condition but bounds.
-/
import Derived.Test.YtjhdbgohdmdpeaaGreatPrDd
namespace Go.Proofs.YtjhdbgohdmdpeaaGreat
set_option linter.unusedVariables false
set_option linter.unusedSimpArgs false
set_option maxRecDepth 100000
open Go.RowKit

/-- a drawn pair map and a braid -/
def DrQ (w : World) (e : Ending) (w' : World) : Prop :=
  ∃ (n : Nat) (a : Option Addr) (c : Nat) (vs : List SV) (f : List (List Int)) (a' : Option Addr) (c' : Nat) (vs' : List SV) (g : List (List Int)) (S : Int) (ab : Option Addr) (nb cb : Nat) (xs : List Int),
    1 ≤ n ∧ n ≤ 6 ∧ 0 ≤ S ∧ S ≤ 10 ∧ nb ≤ 31 ∧ Sml xs ∧ e = .returned (.tuple #[sAgg a n c a' n c', bAgg S ab nb cb]) ∧ OwnS w' w.heap.size a n c vs f a' n c' vs' g ∧ Own w' w.heap.size ab nb cb xs ∧ Below w.heap.size w w'

set_option maxHeartbeats 32000000 in
theorem DrawBraidPeriod_ok (a : Option Addr) (n c : Nat) (xs : List Int) (w : World) (h : Bts w a n xs) (hn : n ≤ 9223372036854775807) :
    Calls Tryz.prog 20 #[.slice a n c] w (DrQ w) := by
  have hP := (Loc.new w rfl #[.slice none 0 0, .slice none 0 0] 26).alloc (.cells #[.int .i64 0, .slice none 0 0] 29)
  have hR := Loc.new (w.alloc (.cells #[.slice none 0 0, .slice none 0 0] 26)) rfl #[.int .i64 0, .slice none 0 0] 29
  have hB0 := below_al (below_al (Below.refl w.heap.size w) (.cells #[.slice none 0 0, .slice none 0 0] 26)) (.cells #[.int .i64 0, .slice none 0 0] 29)
  rw [size_alloc] at hR
  go_enter Tryz.func20, Tryz.ntmps20
  go_wp2_with fail
  refine (l01From_ok a n c xs _ (h.below hB0) hn).mono ?_
  rintro e w1 ⟨b, rfl, hb, hs1, hb1⟩
  have hP1 := hP.below hb1 hP.lt
  have hR1 := hR.below hb1 hR.lt
  have hB1 := below_th hB0 hb1
  rw [size_alloc, size_alloc] at hb
  have hlb := hs1.lt
  clear hP hR hB0 hb1
  go_wp2_with fail
  refine (DrawDerivedRack_ok a n c xs _ (h.below hB1) hn).mono ?_
  rintro e w2 ⟨n2, a2, c2, vs2, f, a2', c2', vs2', g, n1, n6, rfl, ho2, hb2⟩
  have hP2 := hP1.below hb2 hP1.lt
  have hR2 := hR1.below hb2 hR1.lt
  have hB2 := below_th hB1 hb2
  have hs2 := hs1.below hb2
  have hz2 := hb2.size
  obtain ⟨w3, hw3⟩ : ∃ w3, w2.alloc (.cells #[.slice a2 n2 c2, .slice a2' n2 c2'] 26) = w3 := ⟨_, rfl⟩
  have hb3 : Below w2.heap.size w2 w3 := by rw [← hw3]; exact below_al (Below.refl _ _) _
  have hX3 : Loc w3 w2.heap.size #[.slice a2 n2 c2, .slice a2' n2 c2'] 26 := by rw [← hw3]; exact Loc.new w2 rfl _ _
  have hz3 : w2.heap.size + 1 ≤ w3.heap.size := hX3.lt
  have HW3 := Lib.hid hw3
  have hP3 := hP2.below hb3 hP2.lt
  have hR3 := hR2.below hb3 hR2.lt
  have hB3 := below_th hB2 hb3
  have hs3 := hs2.below hb3
  have ho3 := ho2.below hb3
  have lX := hX3.two
  clear hP1 hP2 hR1 hR2 hB1 hB2 hs1 hs2 ho2 hb2 hb3
  obtain ⟨K, hK⟩ : ∃ K : Nat, K = if n2 < 4 then 5 else 3 := ⟨_, rfl⟩
  have hKb : 2 ≤ K ∧ K ≤ 10 := by rw [hK]; split <;> omega
  have HC : Hid (∀ W, Src W b → Calls Tryz.prog 85 #[.pointer (some ⟨b, 0, none⟩), .int .i64 K, .int .i64 6] W (DrB b W 0 10 31)) := Lib.hid fun W hW => l16DrawAny_ok b K 6 W hW hKb.1 hKb.2 (by omega)
  have hcase : (n2 < 4 ∧ K = 5) ∨ (¬ n2 < 4 ∧ K = 3) := by
    by_cases q : n2 < 4
    · exact .inl ⟨q, by rw [hK, if_pos q]⟩
    · exact .inr ⟨q, by rw [hK, if_neg q]⟩
  clear hK hKb
  have h6 : I64 6 := ⟨by omega, by omega⟩
  have hzw : w.heap.size + 1 < w1.heap.size := by omega
  have hx0 : w2.heap.size ≠ w.heap.size := by omega
  have hx1 : w2.heap.size ≠ w.heap.size + 1 := by omega
  have hXb : some w2.heap.size ≠ some b := by simp; omega
  have hPb : some w.heap.size ≠ some b := by simp; omega
  have hRb : some (w.heap.size + 1) ≠ some b := by simp; omega
  have qi : (n2 < 4 ∧ (n2 : Int) < 4 ∧ K = 5) ∨ (¬ n2 < 4 ∧ ¬ (n2 : Int) < 4 ∧ K = 3) := by omega
  clear hcase
  have lX2 := (Loc.new w2 rfl #[.slice a2 n2 c2, .slice a2' n2 c2'] 26).two
  clear hw3 lX
  rcases qi with ⟨q, qi, rfl⟩ | ⟨q, qi, rfl⟩
  all_goals
    go_wp2
    try rw [HW3.out]
    clear lX2
    have lX := hX3.two
    go_region_held3 (fun w' => w'.cell? ⟨w2.heap.size, 0, none⟩ = some (.slice a2 n2 c2) ∧ w'.cell? ⟨w2.heap.size, 1, none⟩ = some (.slice a2' n2 c2'))
      (first | exact lM2 | exact lM1 | exact l4 | exact ⟨lX.1, lX.2.1⟩ | go_keep)
      (first
        | (go_at_call 85; refine (HC.out _ (hs3.below (below_drewN (Below.refl _ _) 1))).mono ?_; rintro e w4 ⟨S, ab, nb, cb, ys, rfl, hS1, hS2, hnb, hsm, hob, hs4, hg4'⟩; have hg4 : w3.grownBy w4 (some b) := grown_trans (grown_of_below (below_drewN (Below.refl _ _) 1) (some b)) hg4'; have hX4' := hX3.grown hg4 hXb; have hX4 := hX4'.two; have l4 : w4.cell? ⟨w2.heap.size, 0, none⟩ = some (.slice a2 n2 c2) ∧ w4.cell? ⟨w2.heap.size, 1, none⟩ = some (.slice a2' n2 c2') := ⟨hX4.1, hX4.2.1⟩; have lM1' := ((hX4'.setne (a := ⟨w.heap.size, 0, none⟩) hx0 (.slice a2 n2 c2)).setne (a := ⟨w.heap.size, 1, none⟩) hx0 (.slice a2' n2 c2')).two; have lM1 := And.intro lM1'.1 lM1'.2.1; have lM2' := ((((hX4'.setne (a := ⟨w.heap.size, 0, none⟩) hx0 (.slice a2 n2 c2)).setne (a := ⟨w.heap.size, 1, none⟩) hx0 (.slice a2' n2 c2')).setne (a := ⟨w.heap.size + 1, 0, none⟩) hx1 (.int .i64 S)).setne (a := ⟨w.heap.size + 1, 1, none⟩) hx1 (.slice ab nb cb)).two; have lM2 := And.intro lM2'.1 lM2'.2.1; have lP := (hP3.grown hg4 hPb).two; have lR := (hR3.grown hg4 hRb).two))
    all_goals
      clear lM1 lM2 lM1' lM2' l4
      have hB4 := below_grown hB3 hg4 (by omega)
      have ho4 := ho3.grownb hg4 (by omega)
      have hz4 := hg4.size
      have hob : Own w4 w3.heap.size ab nb cb ys := hob
      have fin : ∀ V' : World, V' = (((w4.setCell ⟨w.heap.size, 0, none⟩ (.slice a2 n2 c2)).setCell ⟨w.heap.size, 1, none⟩ (.slice a2' n2 c2')).setCell ⟨w.heap.size + 1, 0, none⟩ (.int .i64 S)).setCell ⟨w.heap.size + 1, 1, none⟩ (.slice ab nb cb) → OwnS V' w.heap.size a2 n2 c2 vs2 f a2' n2 c2' vs2' g ∧ Own V' w.heap.size ab nb cb ys ∧ Below w.heap.size w V' := by
        intro V' e
        subst e
        refine ⟨⟨?_, ?_, ho4.ap⟩, ?_, ?_⟩
        · exact (((((ho4.f).setlo (by simp; omega) _).setlo (by simp; omega) _).setlo (by simp; omega) _).setlo (by simp; omega) _).mono (by omega)
        · exact (((((ho4.s).setlo (by simp; omega) _).setlo (by simp; omega) _).setlo (by simp; omega) _).setlo (by simp; omega) _).mono (by omega)
        · exact ((((hob.setlo (by simp; omega) _).setlo (by simp; omega) _).setlo (by simp; omega) _).setlo (by simp; omega) _).mono (by omega)
        · exact (((hB4.setCell (by simp) _).setCell (by simp) _).setCell (by simp) _).setCell (by simp) _
      go_wp2
      obtain ⟨f1, f2, f3⟩ := fin _ rfl
      exact bodyPost_ret (v := .tuple #[sAgg a2 n2 c2 a2' n2 c2', bAgg S ab nb cb]) (by simp [results, Tryz.results20, go_sem, lP, lR]) rfl ⟨n2, a2, c2, vs2, f, a2', c2', vs2', g, S, ab, nb, cb, ys, n1, n6, hS1, hS2, hnb, hsm, rfl, f1, f2, f3⟩
end Go.Proofs.YtjhdbgohdmdpeaaGreat
