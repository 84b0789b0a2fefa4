/-
  The reference's DrawBraidAction: a pair map, a braid and a list that are read.
  No condition but bounds.
-/
import Derived.Test.YtdkpalllfekiiaaGreatPrDd
namespace Go.Proofs.YtdkpalllfekiiaaGreat
set_option linter.unusedVariables false
set_option linter.unusedSimpArgs false
set_option maxRecDepth 100000
open Go.RowKit

/-- a drawn pair map, a braid and a list -/
def DrA (w : World) (e : Ending) (w' : World) : Prop :=
  ∃ (n : Nat) (a : Option Addr) (c : Nat) (vs : List SV) (f : List (List Int)) (a' : Option Addr) (c' : Nat) (vs' : List SV) (g : List (List Int)) (S : Int) (ab : Option Addr) (nb cb : Nat) (xs : List Int) (al : Option Addr) (m cl : Nat) (l : List Int),
    1 ≤ n ∧ n ≤ 6 ∧ 0 ≤ S ∧ S ≤ 10 ∧ nb ≤ 31 ∧ Sml xs ∧ m ≤ 20 ∧ Sml l ∧ e = .returned (.tuple #[sAgg a n c a' n c', bAgg S ab nb cb, .slice al m cl]) ∧ OwnS w' w.heap.size a n c vs f a' n c' vs' g ∧ Own w' w.heap.size ab nb cb xs ∧ Own w' w.heap.size al m cl l ∧ Below w.heap.size w w'
theorem tdiv_01 {y k : Int} (hk : 1 ≤ k) (h0 : 0 ≤ y) (h1 : y ≤ k) : ∃ z : Int, Int.tdiv y k = z ∧ 0 ≤ z ∧ z ≤ 1 := by
  refine ⟨_, rfl, ?_⟩
  rw [Int.tdiv_eq_ediv_of_nonneg h0]
  refine ⟨Int.ediv_nonneg h0 (by omega), ?_⟩
  have : y / k < 2 := Int.ediv_lt_of_lt_mul (by omega) (by omega)
  omega

set_option maxHeartbeats 32000000 in
theorem DrawBraidAction_ok (a : Option Addr) (n c : Nat) (xs : List Int) (w : World) (h : Bts w a n xs) (hn : n ≤ 9223372036854775807) :
    Calls Tryz.prog 15 #[.slice a n c] w (DrA w) := by
  have hP := (Loc.new w rfl #[.slice none 0 0, .slice none 0 0] 42).alloc (.cells #[.int .i64 0, .slice none 0 0] 26)
  have hR := Loc.new (w.alloc (.cells #[.slice none 0 0, .slice none 0 0] 42)) rfl #[.int .i64 0, .slice none 0 0] 26
  have hB0 := below_al (below_al (Below.refl w.heap.size w) (.cells #[.slice none 0 0, .slice none 0 0] 42)) (.cells #[.int .i64 0, .slice none 0 0] 26)
  rw [size_alloc] at hR
  go_enter Tryz.func15, Tryz.ntmps15
  go_wp2_with fail
  refine (l01From_ok a n c xs _ (h.below hB0) hn).mono ?_
  rintro e w1 ⟨b, rfl, hb, hs1, hb1⟩
  have hP1 := hP.below hb1 hP.lt
  have hR1 := hR.below hb1 hR.lt
  have hB1 := below_th hB0 hb1
  rw [size_alloc, size_alloc] at hb
  have hlb := hs1.lt
  clear hP hR hB0 hb1
  go_wp2_with fail
  refine (DrawDerivedRack_ok a n c xs _ (h.below hB1) hn).mono ?_
  rintro e w2 ⟨n2, a2, c2, vs2, f, a2', c2', vs2', g, n1, n6, rfl, ho2, hb2⟩
  have hP2 := hP1.below hb2 hP1.lt
  have hR2 := hR1.below hb2 hR1.lt
  have hB2 := below_th hB1 hb2
  have hs2 := hs1.below hb2
  have hz2 := hb2.size
  obtain ⟨w3, hw3⟩ : ∃ w3, w2.alloc (.cells #[.slice a2 n2 c2, .slice a2' n2 c2'] 42) = w3 := ⟨_, rfl⟩
  have hb3 : Below w2.heap.size w2 w3 := by rw [← hw3]; exact below_al (Below.refl _ _) _
  have hX3 : Loc w3 w2.heap.size #[.slice a2 n2 c2, .slice a2' n2 c2'] 42 := by rw [← hw3]; exact Loc.new w2 rfl _ _
  have hz3 : w2.heap.size + 1 ≤ w3.heap.size := hX3.lt
  have HW3 := Lib.hid hw3
  have hP3 := hP2.below hb3 hP2.lt
  have hR3 := hR2.below hb3 hR2.lt
  have hB3 := below_th hB2 hb3
  have hs3 := hs2.below hb3
  have ho3 := ho2.below hb3
  clear hw3 hP1 hP2 hR1 hR2 hB1 hB2 hs1 hs2 ho2 hb2 hb3
  go_wp2_with fail
  try rw [HW3.out]
  refine (l16DrawAny_ok b 5 8 _ hs3 (by omega) (by omega) (by omega)).mono ?_
  rintro e w4 ⟨S, ab, nb, cb, ys, rfl, hS1, hS2, hnb, hsm, hob, hs4, hg4⟩
  have hP4 := hP3.grown hg4 (by simp; omega)
  have hR4 := hR3.grown hg4 (by simp; omega)
  have hX4 := hX3.grown hg4 (by simp; omega)
  have hB4 := below_grown hB3 hg4 (by omega)
  have ho4 := ho3.grownb hg4 (by omega)
  have hz4 := hg4.size
  obtain ⟨w5, hw5⟩ : ∃ w5, w4.alloc (.cells #[.int .i64 S, .slice ab nb cb] 26) = w5 := ⟨_, rfl⟩
  have hb5 : Below w4.heap.size w4 w5 := by rw [← hw5]; exact below_al (Below.refl _ _) _
  have hE5 : Loc w5 w4.heap.size #[.int .i64 S, .slice ab nb cb] 26 := by rw [← hw5]; exact Loc.new w4 rfl _ _
  have hz5 : w4.heap.size + 1 ≤ w5.heap.size := hE5.lt
  have HW5 := Lib.hid hw5
  have hP5 := hP4.below hb5 hP4.lt
  have hR5 := hR4.below hb5 hR4.lt
  have hX5 := hX4.below hb5 hX4.lt
  have hB5 := below_th hB4 hb5
  have hs5 := hs4.below hb5
  have ho5 := ho4.below hb5
  have hob5 := (hob.mono (lo' := w1.heap.size) (by omega)).below hb5
  clear hw5 hP3 hP4 hR3 hR4 hX3 hX4 hB3 hB4 hs3 hs4 ho3 ho4 hob hb5 hg4
  have hO6 := Own.fresh w5 (show w4.heap.size + 1 = w5.heap.size by rw [← HW5.out]; simp)
  have hs6 := hs5.below (below_al (Below.refl w5.heap.size w5) (.cells #[] 2))
  have hG6 := World.grownBy_alloc w5 (.cells #[] 2) (some b)
  go_wp2
  try rw [HW5.out]
  go_loopw [8, 9] (fun z i wr => ∃ (j : Nat) (al : Option Addr) (cl : Nat) (l : List Int), j ≤ 12 ∧ i = .int .i64 j ∧ z = .slice al j cl ∧ Own wr w5.heap.size al j cl l ∧ Sml l ∧ Src wr b ∧ w5.grownBy wr (some b)) (fun _ i _ => 12 - (intOf i).toNat)
  case atStart => exact ⟨0, _, 0, [], Nat.zero_le _, rfl, rfl, hO6, fun x hx => (by cases hx), hs6, hG6⟩
  case round =>
    clear hO6 hs6 hG6
    obtain ⟨j, al, cl, l, hj, rfl, rfl, hol, hsl, hs, hG⟩ := hrel
    obtain ⟨V, rfl⟩ : ∃ V : World, V = wr := ⟨_, rfl⟩
    have hE := hE5.grown hG (by simp; omega)
    have hzV := hG.size
    have HSL := Lib.hid hsl
    have lE := hE.two
    clear hsl
    have h24 : I64 24 := ⟨by omega, by omega⟩
    have hEb : some w4.heap.size ≠ some b := by simp; omega
    have HB23 := Lib.hid (fun (y8 : Int) (h0 : 0 ≤ y8) (h1 : y8 < 24) => tdiv_01 (y := y8) (k := 23) (by omega) h0 (by omega))
    have HWS := Lib.hid (fun (z : Int) (h0 : 0 ≤ z) (h1 : z ≤ 1) => (⟨IntWalk.i64_in _ (by omega), IntWalk.wrap64_in _ (by omega), IntWalk.i64_in _ (by omega)⟩ : IntKind.i64.wrap (S + z) = S + z ∧ wrap64 (S + z) = S + z ∧ IntKind.i64.wrap z = z))
    go_wp2
    go_region_held3 (fun w' => w'.cell? ⟨w4.heap.size, 0, none⟩ = some (.int .i64 S))
      (first | exact l7 | exact lE.1 | go_keep)
      (first
        | (go_at_call 27; refine (l01Next_ok b 24 _ (hs.below (below_drewN (Below.refl _ _) 1)) h24).mono ?_; rintro e w7 ⟨y, rfl, _, hy, hs7, hg7'⟩; have hg7 : V.grownBy w7 (some b) := grown_trans (grown_of_below (below_drewN (Below.refl _ _) 1) (some b)) hg7'; obtain ⟨hy1, hy2⟩ := hy (by decide); obtain ⟨z, hz, hz0, hz1⟩ := HB23.out y hy1 hy2; have l7 : w7.cell? ⟨w4.heap.size, 0, none⟩ = some (.int .i64 S) := (hE.grown hg7 hEb).two.1; obtain ⟨hwS, hwS2, hwz⟩ := HWS.out z hz0 hz1))
    all_goals
    have hG7 := grown_trans hG hg7
    have hol7 := hol.grown hg7 (fun g e => by have := hol.lo g e; simp; omega)
    have hE7 := hE5.grown hG7 (by simp; omega)
    have hX7 := hX5.grown hG7 (by simp; omega)
    have hz7 := hG7.size
    clear l7 hol hs hG hE lE hg7 hy hy1 hy2 hwS hwS2 hwz hz
    by_cases hlt : (j : Int) < S + z
    · have lX := hX7.two
      have tok1 : True := trivial
      have HNE : ∀ g, al = some ⟨g, 0, none⟩ → some g ≠ some b := fun g e => by have := hol7.lo g e; simp; omega
      have hXb : some w2.heap.size ≠ some b := by simp; omega
      have hj1 : j + 1 ≤ 1000000000000 := by omega
      have h60 : I64 60 := ⟨by omega, by omega⟩
      have HB59 := Lib.hid (fun (y8 : Int) (h0 : 0 ≤ y8) (h1 : y8 < 60) => tdiv_01 (y := y8) (k := 59) (by omega) h0 (by omega))
      have HWN := Lib.hid (fun (z : Int) (h0 : 0 ≤ z) (h1 : z ≤ 1) => (⟨IntWalk.i64_in _ (by omega), IntWalk.i64_in _ (by omega), IntWalk.wrap64_in _ (by omega), ⟨by omega, by omega⟩, by omega⟩ : IntKind.i64.wrap z = z ∧ IntKind.i64.wrap ((n2 : Int) + z) = (n2 : Int) + z ∧ wrap64 ((n2 : Int) + z) = (n2 : Int) + z ∧ I64 ((n2 : Int) + z) ∧ (1 : Int) ≤ (n2 : Int) + z ∧ (n2 : Int) + z ≤ 10))
      go_wp2
      go_region_law (first
        | (go_simp; go_at_call 27; have _t := tok1; refine (l01Next_ok b 60 _ (hs7.below (below_drewN (Below.refl _ _) 1)) h60).mono ?_; rintro e w8 ⟨y8, rfl, _, hy8, hs8, hg8'⟩; clear _t tok1; have tok2 : True := trivial; have hg8 : w7.grownBy w8 (some b) := grown_trans (grown_of_below (below_drewN (Below.refl _ _) 1) (some b)) hg8'; obtain ⟨hy81, hy82⟩ := hy8 (by decide); obtain ⟨z8, hz8, hz80, hz81⟩ := HB59.out y8 hy81 hy82; have lX8 := (hX7.grown hg8 hXb).two; obtain ⟨hwz8, hwN, hwN2, hN64, hN1, hN10⟩ := HWN.out z8 hz80 hz81)
        | (go_simp; go_at_call 27; have _t := tok2; refine (l01Next_ok b ((n2 : Int) + z8) _ hs8 hN64).mono ?_; rintro e w9 ⟨y9, rfl, _, hy9, hs9, hg9⟩; clear _t tok2; have hol9 := (hol7.grown hg8 HNE).grown hg9 HNE; have hz9 : w5.heap.size ≤ w9.heap.size := Nat.le_trans hz7 (Nat.le_trans hg8.size hg9.size))
        | (refine step_app1n rfl rfl hol9 rfl rfl hj1 hz9 ?_; intro g' cc w10 hO hg10 hs10 hb10))
      all_goals
        clear hwN hwN2 hz8 hwz8
        obtain ⟨hy91, hy92⟩ := hy9 hN1
        go_wp2
        go_roundw
        case rel => exact ⟨j + 1, _, cc, _, by omega, by go_num, rfl, hO, HSL.out.snoc (by omega) (by omega), hs9.keepB hb10 (by omega), grown_below (grown_trans (grown_trans hG7 hg8) hg9) hb10 (Nat.le_refl _)⟩
        case measure => simp [intOf]; omega
    · have hP7 := hP5.grown hG7 (by simp; omega)
      have hR7 := hR5.grown hG7 (by simp; omega)
      have hB7 := below_grown hB5 hG7 (by omega)
      have ho7 := ho5.grownb hG7 (by omega)
      have hob7 := hob5.grown hG7 (fun g e => by have := hob5.lo g e; simp; omega)
      have lP := hP7.two
      have lR := hR7.two
      have lX := hX7.two
      have lE := hE7.two
      have hw1P : w.heap.size + 1 < w1.heap.size := by omega
      have fin : ∀ V' : World, V' = (((w7.drew.setCell ⟨w.heap.size, 0, none⟩ (.slice a2 n2 c2)).setCell ⟨w.heap.size, 1, none⟩ (.slice a2' n2 c2')).setCell ⟨w.heap.size + 1, 0, none⟩ (.int .i64 S)).setCell ⟨w.heap.size + 1, 1, none⟩ (.slice ab nb cb) → OwnS V' w.heap.size a2 n2 c2 vs2 f a2' n2 c2' vs2' g ∧ Own V' w.heap.size ab nb cb ys ∧ Own V' w.heap.size al j cl l ∧ Below w.heap.size w V' := by
        intro V' e
        subst e
        refine ⟨⟨?_, ?_, ho7.ap⟩, ?_, ?_, ?_⟩
        · exact ((((((ho7.f.drewN 1).setlo (by simp; omega) _).setlo (by simp; omega) _).setlo (by simp; omega) _).setlo (by simp; omega) _)).mono (by omega)
        · exact ((((((ho7.s.drewN 1).setlo (by simp; omega) _).setlo (by simp; omega) _).setlo (by simp; omega) _).setlo (by simp; omega) _)).mono (by omega)
        · exact ((((((hob7.drew).setlo (by simp; omega) _).setlo (by simp; omega) _).setlo (by simp; omega) _).setlo (by simp; omega) _)).mono (by omega)
        · exact ((((((hol7.drew).setlo (by simp; omega) _).setlo (by simp; omega) _).setlo (by simp; omega) _).setlo (by simp; omega) _)).mono (by omega)
        · exact ((((below_drewN hB7 1).setCell (by simp) _).setCell (by simp) _).setCell (by simp) _).setCell (by simp) _
      go_wp2
      go_region
      all_goals go_wp2
      all_goals
        obtain ⟨f1, f2, f3, f4⟩ := fin _ rfl
        exact bodyPost_ret (v := .tuple #[sAgg a2 n2 c2 a2' n2 c2', bAgg S ab nb cb, .slice al j cl]) (by simp [results, Tryz.results15, go_sem, lP, lR]) rfl ⟨n2, a2, c2, vs2, f, a2', c2', vs2', g, S, ab, nb, cb, ys, al, j, cl, l, n1, n6, hS1, hS2, hnb, hsm, by omega, HSL.out, rfl, f1, f2, f3, f4⟩
end Go.Proofs.YtdkpalllfekiiaaGreat
