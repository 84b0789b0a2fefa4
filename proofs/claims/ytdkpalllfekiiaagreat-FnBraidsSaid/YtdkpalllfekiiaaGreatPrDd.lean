/-
  The reference's DrawDerivedRack: a pair map that is read.
  No condition but bounds.
-/
import Derived.Test.YtdkpalllfekiiaaGreatPrLs
import Derived.Test.YtdkpalllfekiiaaGreatBase4
import Derived.Test.YtdkpalllfekiiaaGreatBase2
namespace Go.Proofs.YtdkpalllfekiiaaGreat
set_option linter.unusedVariables false
set_option linter.unusedSimpArgs false
set_option maxRecDepth 100000
open Go.RowKit

/-- a drawn pair map that is read -/
def DrS (w : World) (e : Ending) (w' : World) : Prop :=
  ∃ (n : Nat) (a : Option Addr) (c : Nat) (vs : List SV) (f : List (List Int)) (a' : Option Addr) (c' : Nat) (vs' : List SV) (g : List (List Int)), 1 ≤ n ∧ n ≤ 6 ∧ e = .returned (sAgg a n c a' n c') ∧ OwnS w' w.heap.size a n c vs f a' n c' vs' g ∧ Below w.heap.size w w'

theorem wrap_s64 {P : Nat} (h : P ≤ 1000) : wrap64 ((P : Int) + 1) = ((P + 1 : Nat) : Int) := (IntWalk.wrap64_in _ (by omega)).trans (by simp)
theorem wrap_si64 {P : Nat} (h : P ≤ 1000) : IntKind.i64.wrap ((P : Int) + 1) = ((P + 1 : Nat) : Int) := (IntWalk.i64_in _ (by omega)).trans (by simp)
set_option maxHeartbeats 16000000 in
theorem DrawDerivedRack_ok (a : Option Addr) (n c : Nat) (xs : List Int) (w : World) (h : Bts w a n xs) (hn : n ≤ 9223372036854775807) :
    Calls Tryz.prog 40 #[.slice a n c] w (DrS w) := by
  go_enter Tryz.func40, Tryz.ntmps40
  have hR := Loc.new w rfl #[.slice none 0 0, .slice none 0 0] 42
  go_wp2_with fail
  refine (l01From_ok a n c xs _ (h.below (below_al (Below.refl _ _) _)) hn).mono ?_
  rintro e w1 ⟨b, rfl, hb, hs1, hb1⟩
  have hR1 := hR.below hb1 hR.lt
  have hB1 := below_alth (Below.refl _ _) hb1
  rw [size_alloc] at hb
  have hlb := hs1.lt
  go_wp2_with fail
  refine (l06Draw_ok 6 b _ hs1 (by omega) (by omega)).mono ?_
  rintro e w2 ⟨n2, n1, nM, a2, c2, vs2, f, a2', c2', vs2', g, rfl, ho2, sf, sg, hs2, hg2⟩
  have hR2 := hR1.grown hg2 (by simp; omega)
  have hB2 := below_grown hB1 hg2 (by omega)
  have hz2 := hR2.lt
  have hzz2 := hg2.size
  have hw01 := hB1.size
  obtain ⟨w3, hw3⟩ : ∃ w3, w2.alloc (.cells #[.slice a2 n2 c2, .slice a2' n2 c2'] 42) = w3 := ⟨_, rfl⟩
  have hb3 : Below w2.heap.size w2 w3 := by rw [← hw3]; exact below_al (Below.refl _ _) _
  have hX3 : Loc w3 w2.heap.size #[.slice a2 n2 c2, .slice a2' n2 c2'] 42 := by rw [← hw3]; exact Loc.new w2 rfl _ _
  have HW3 := Lib.hid hw3
  have hR3 := hR2.below hb3 hz2
  have hB3 := below_th hB2 hb3
  have hs3 := hs2.below hb3
  have ho3 := ho2.below hb3
  have HF := Lib.hid ho2.f.uHi
  have SF := Lib.hid sf
  clear hw3 hR hR1 hR2 hB1 hB2 hs1 hs2 ho2 sf sg hg2 hb1
  go_wp2_with fail
  try rw [HW3.out]
  refine (l01Next_ok b 12 _ hs3 ⟨by omega, by omega⟩).mono ?_
  rintro e w4 ⟨x, rfl, _, hx, hs4, hg4⟩
  clear hx
  have hX4 := hX3.grown hg4 (by simp; omega)
  have hR4 := hR3.grown hg4 (by simp; omega)
  have hB4 := below_grown hB3 hg4 (by omega)
  have ho4 := ho3.grownb hg4 (by omega)
  have hz4 := hX4.lt
  have lX := hX4.two
  have lR := hR4.two
  clear hX3 hR3 hB3 hs3 ho3 hg4
  by_cases hx0 : x = 0
  · subst hx0
    have zn : (0 : Int) < (n2 : Int) := by omega
    have zn2 : 0 < n2 := by omega
    obtain ⟨gb, g1, k1, c1, z, e1, ev, hk1, r1, r2, r3⟩ := ho4.f.spot (u := 0) (v := 0) (by omega) (by rw [SF.out.row (by omega)]; omega)
    subst e1
    have mg1 : TblS (some ⟨gb, 0, none⟩) n2 vs2 g1 := .inr ⟨0, by omega, ev⟩
    have hg1 := HF.out g1 mg1
    have hgb := HF.out gb (.inl rfl)
    have hl1 := ho4.f.uLo g1 mg1
    have hlg := ho4.f.uLo gb (.inl rfl)
    have hgg : gb ≠ g1 := fun e => ho4.f.ap 0 (by omega) g1 (by rw [e]) ev
    have zk : (0 : Int) < (k1 : Int) := by omega
    have zk2 : 0 < k1 := by omega
    have hn26 : n2 ≤ 1000 := by omega
    have h64 : I64 ((n2 + 1 : Nat) : Int) := ⟨by omega, by omega⟩
    have hXb : some w2.heap.size ≠ some b := by simp; omega
    have hblo : b < w1.heap.size := hlb
    have hgbb : some gb ≠ some b := by simp; omega
    have hg1b : some g1 ≠ some b := by simp; omega
    have hx1 : w2.heap.size ≠ g1 := by omega
    have hfl : 0 < (f.getD 0 []).length := by rw [SF.out.row (by omega)]; omega
    have hw := wrap_s64 hn26
    have hwi := wrap_si64 hn26
    go_upto_region 4 with fail
    go_region_held3 (fun w' => w'.cell? ⟨w2.heap.size, 0, none⟩ = some (.slice (some ⟨gb, 0, none⟩) n2 c2) ∧ w'.cell? ⟨gb, 0, none⟩ = some (.slice (some ⟨g1, 0, none⟩) k1 c1))
      (first | exact lM | exact l5 | exact ⟨lX.1, r1⟩ | go_keep)
      (first
        | (go_at_call 27; refine (l01Next_ok b ((n2 + 1 : Nat) : Int) _ (hs4.below (below_drewN (Below.refl _ _) 1)) h64).mono ?_; rintro e w5 ⟨y, rfl, _, _, hs5, hg5'⟩; have hg5 : w4.grownBy w5 (some b) := grown_trans (grown_of_below (below_drewN (Below.refl _ _) 1) (some b)) hg5'; have hX5 := hX4.grown hg5 hXb; have ho5 := ho4.grownb hg5 hblo; have l5 : w5.cell? ⟨w2.heap.size, 0, none⟩ = some (.slice (some ⟨gb, 0, none⟩) n2 c2) ∧ w5.cell? ⟨gb, 0, none⟩ = some (.slice (some ⟨g1, 0, none⟩) k1 c1) := ⟨hX5.two.1, hg5.cell (a := ⟨gb, 0, none⟩) r1 hgbb⟩; obtain ⟨_, q1, _, _, z5, e5, ev5, _, _, r5, r5f⟩ := ho5.f.spot (u := 0) (v := 0) n1 hfl; obtain rfl : q1 = g1 := by rw [ev] at ev5; cases ev5; rfl
           have lM : (w5.setCell ⟨q1, 0, none⟩ (.int .i64 y)).cell? ⟨w2.heap.size, 0, none⟩ = some (.slice (some ⟨gb, 0, none⟩) n2 c2) ∧ (w5.setCell ⟨q1, 0, none⟩ (.int .i64 y)).cell? ⟨gb, 0, none⟩ = some (.slice (some ⟨q1, 0, none⟩) k1 c1) := ⟨cell_setne l5.1 hx1 _, cell_setne l5.2 hgg _⟩))
    all_goals
      clear r5 r5f l5 lM hw hwi e5 ev5
      have hR5 := hR4.grown hg5 (by simp; omega)
      have hB5 := below_grown hB4 hg5 (by omega)
      have hX6 := hX5.setne (a := ⟨q1, 0, none⟩) (by show w2.heap.size ≠ q1; omega) (.int .i64 y)
      have hR6 := hR5.setne (a := ⟨q1, 0, none⟩) (by show w.heap.size ≠ q1; omega) (.int .i64 y)
      have lX6 := hX6.two
      have lR6 := hR6.two
      have hof := ho5.f.setrow 0 (by omega) ev 0 y
      have hos := ho5.s.uSet (p := ⟨q1, 0, none⟩) (fun q hq e => by subst e; exact ho5.ap _ mg1 hq) (.int .i64 y)
      have hB6 := below_setne (a := ⟨q1, 0, none⟩) hB5 (by show w.heap.size ≤ q1; omega) (.int .i64 y)
      go_wp2
      refine bodyPost_ret (v := sAgg (some ⟨gb, 0, none⟩) n2 c2 a2' n2 c2') (by simp [results, Tryz.results40, go_sem, lR6, lX6]) rfl ⟨n2, _, _, vs2, f.set 0 ((f.getD 0 []).set 0 y), _, _, vs2', g, n1, nM, rfl, ⟨?_, ?_, ho4.ap⟩, ?_⟩
      · exact ((hof.setlo (p := ⟨w.heap.size, 0, none⟩) (by show w.heap.size < w1.heap.size; omega) _).setlo (p := ⟨w.heap.size, 1, none⟩) (by show w.heap.size < w1.heap.size; omega) _).mono (by omega)
      · exact ((hos.setlo (p := ⟨w.heap.size, 0, none⟩) (by show w.heap.size < w1.heap.size; omega) _).setlo (p := ⟨w.heap.size, 1, none⟩) (by show w.heap.size < w1.heap.size; omega) _).mono (by omega)
      · exact (hB6.setCell (by simp) _).setCell (by simp) _
  · have hx2 : (x == 0) = false := by simpa using hx0
    go_wp2
    refine bodyPost_ret (v := sAgg a2 n2 c2 a2' n2 c2') (by simp [results, Tryz.results40, go_sem, lR, lX]) rfl ⟨n2, _, _, vs2, f, _, _, vs2', g, n1, nM, rfl, ⟨?_, ?_, ho4.ap⟩, ?_⟩
    · exact ((ho4.f.setlo (p := ⟨w.heap.size, 0, none⟩) (by show w.heap.size < w1.heap.size; omega) _).setlo (p := ⟨w.heap.size, 1, none⟩) (by show w.heap.size < w1.heap.size; omega) _).mono (by omega)
    · exact ((ho4.s.setlo (p := ⟨w.heap.size, 0, none⟩) (by show w.heap.size < w1.heap.size; omega) _).setlo (p := ⟨w.heap.size, 1, none⟩) (by show w.heap.size < w1.heap.size; omega) _).mono (by omega)
    · exact (hB4.setCell (by simp) _).setCell (by simp) _
end Go.Proofs.YtdkpalllfekiiaaGreat
