/-
  Drawn solutions that permutations tell: two squares.
  No condition but bounds.
-/
import Derived.Test.YtdkpalllfekiiaaGreatBase3
import Derived.Test.YtdkpalllfekiiaaGreatBase2
namespace Go.Proofs.YtdkpalllfekiiaaGreat
set_option linter.unusedVariables false
set_option linter.unusedSimpArgs false
set_option maxRecDepth 100000
open Go.RowKit

/-- what a function that draws a pair map of n elements leaves -/
def SolDn (b : Nat) (w : World) (n : Nat) (e : Ending) (w' : World) : Prop :=
  ∃ (a : Option Addr) (c : Nat) (vs : List SV) (f : List (List Int)) (a' : Option Addr) (c' : Nat) (vs' : List SV) (g : List (List Int)), e = .returned (sAgg a n c a' n c') ∧ OwnS w' w.heap.size a n c vs f a' n c' vs' g ∧ Sq n f ∧ Sq n g ∧ Src w' b ∧ w.grownBy w' (some b)
/-- .. of at most so many -/
def SolD (b : Nat) (w : World) (N : Nat) (e : Ending) (w' : World) : Prop := ∃ n, 1 ≤ n ∧ n ≤ N ∧ SolDn b w n e w'
theorem sq_of {n : Nat} {t : List (List Int)} (hl : t.length = n) (h : ∀ x, x < n → (t.getD x []).length = n ∧ ∀ y, y < n → ∃ z : Nat, z < n ∧ (t.getD x []).getD y 0 = (z : Int)) : Sq n t :=
  ⟨hl, fun x hx => ⟨(h x hx).1, fun y hy => by
    obtain ⟨z, hz, e⟩ := (h x hx).2 y hy
    have : tv t x y = z := by unfold tv; rw [e, Int.toNat_natCast]
    rw [this]; exact ⟨hz, e⟩⟩⟩
theorem rep_sq {n : Nat} {p : List Int} (hp : IsP n p) : Sq n (repT n p) := by
  refine sq_of (by simp [repT]) fun x hx => ?_
  have e : (repT n p).getD x [] = p := by simp [repT, List.getD_eq_getElem?_getD, hx]
  rw [e]
  exact ⟨hp.len, fun y hy => by obtain ⟨z, h1, h2⟩ := hp.at hy; exact ⟨z, h2, h1⟩⟩
theorem col_sq {n : Nat} {q : List Int} (hq : IsP n q) : Sq n (colT n q) := by
  refine sq_of (by simp [colT]) fun x hx => ?_
  have e : (colT n q).getD x [] = conR n (q.getD x 0) := by simp [colT, List.getD_eq_getElem?_getD, hx]
  rw [e]
  refine ⟨conR_len _ _, fun y hy => ?_⟩
  obtain ⟨z, h1, h2⟩ := hq.at hx
  exact ⟨z, h2, by simp [conR, List.getD_eq_getElem?_getD, hy]; simpa [List.getD_eq_getElem?_getD] using h1⟩

set_option maxHeartbeats 8000000 in
theorem l02Twisted_ok (b n : Nat) (w : World) (h : Src w b) (h1 : 1 ≤ n) (hn : n ≤ 100) :
    Calls Tryz.prog 122 #[.pointer (some ⟨b, 0, none⟩), .int .i64 n] w (SolDn b w n) := by
  have hlt := h.lt
  have hR := Loc.new w rfl #[.slice none 0 0, .slice none 0 0] 42
  go_enter Tryz.func122, Tryz.ntmps122
  go_wp2_with fail
  refine (l01Draw_ok b n _ (h.below (below_al (Below.refl _ _) _)) h1 (by omega)).mono ?_
  rintro e w1 ⟨a1, c1, p, rfl, hp, ho1, hs1, hg1⟩
  have HP := Lib.hid hp; clear hp
  have hR1 := hR.grown hg1 (by simp; omega)
  have hG1 := grown_trans (World.grownBy_alloc w (.cells #[.slice none 0 0, .slice none 0 0] 42) (some b)) hg1
  replace ho1 := ho1.mono (lo' := w.heap.size + 1) (by simp)
  clear hR
  go_wp2_with fail
  refine (l01Unit_any n _ (by omega)).mono ?_
  rintro e w2 ⟨a2, c2, rfl, ho2, hb2⟩
  have hs2 := hs1.below hb2
  have hR2 := hR1.below hb2 hR1.lt
  have hG2 := grown_trans hG1 (grown_of_below hb2 (some b))
  replace ho1 := ho1.below hb2
  replace ho2 := ho2.mono (lo' := w.heap.size + 1) hR1.lt
  go_wp2_with fail
  refine (l01Next_ok b 4 _ hs2 ⟨by omega, by omega⟩).mono ?_
  rintro e w3 ⟨x, rfl, _, hx, hs3, hg3⟩
  obtain ⟨hx1, hx2⟩ := hx (by omega)
  obtain ⟨j0, rfl⟩ : ∃ k : Nat, x = k := ⟨x.toNat, by omega⟩
  clear hx
  have hR3 := hR2.grown hg3 (by simp; omega)
  have hG3 := grown_trans hG2 hg3
  have ho13 := ho1.grown hg3 (fun g e => by have := ho1.lo g e; simp; omega)
  have ho23 := ho2.grown hg3 (fun g e => by have := ho2.lo g e; simp; omega)
  have hsz3 := hR3.lt
  clear ho1 ho2 hR1 hR2 hs1 hs2 hG1 hG2 hb2 hg3 hg1
  go_wp2
  go_loopw [6, 7] (fun q k wr => ∃ (j : Nat) (aq : Option Addr) (cq : Nat) (ql : List Int), j ≤ j0 ∧ k = .int .i64 j ∧ q = .slice aq n cq ∧ Hid (IsP n ql) ∧ Own wr (w.heap.size + 1) aq n cq ql ∧ Own wr (w.heap.size + 1) a1 n c1 p ∧ Src wr b ∧ Loc wr w.heap.size #[.slice none 0 0, .slice none 0 0] 42 ∧ w.grownBy wr (some b)) (fun _ k _ => (intOf k).toNat)
  case atStart => exact ⟨j0, a2, c2, _, Nat.le_refl _, rfl, rfl, Lib.hid (unit_isP n), ho23, ho13, hs3, hR3, hG3⟩
  case round =>
    clear ho23 ho13 hs3 hR3 hG3
    obtain ⟨j, aq, cq, ql, hj, rfl, rfl, HQ, hoq, hop, hs, hR, hG⟩ := hrel
    have hRl := hR.lt
    rcases j with _ | j
    · go_wp2_with fail
      refine (l01Next_ok b 2 _ hs ⟨by omega, by omega⟩).mono ?_
      rintro e w4 ⟨x, rfl, _, hx, hs4, hg4⟩
      clear hx
      have hR4 := hR.grown hg4 (by simp; omega)
      have hG4 := grown_trans hG hg4
      have hop4 := hop.grown hg4 (fun g e => by have := hop.lo g e; simp; omega)
      have hoq4 := hoq.grown hg4 (fun g e => by have := hoq.lo g e; simp; omega)
      have hz4 := hR4.lt
      by_cases hx0 : x = 0
      · subst hx0
        go_wp2_with fail
        refine (l02Twist_any _ n _ p _ _ ql _ hop4.row hoq4.row (by omega)).mono ?_
        rintro e w5 ⟨a5, c5, vs5, a5', c5', vs5', rfl, ho5, hb5⟩
        have hR5 := hR4.below hb5 hz4
        have lR := hR5.two
        have hs5 := hs4.below hb5
        have hG5 := grown_trans hG4 (grown_of_below hb5 (some b))
        go_wp2
        refine bodyPost_ret (v := sAgg a5 n c5 a5' n c5') (by simp [results, Tryz.results122, go_sem, lR]) rfl ⟨a5, c5, vs5, _, a5', c5', vs5', _, rfl, ⟨?_, ?_, ho5.ap⟩, rep_sq HP.out, col_sq HQ.out, ?_, ?_⟩
        · exact ((ho5.f.setlo (by show w.heap.size < w4.heap.size; omega) _).setlo (by show w.heap.size < w4.heap.size; omega) _).mono (by omega)
        · exact ((ho5.s.setlo (by show w.heap.size < w4.heap.size; omega) _).setlo (by show w.heap.size < w4.heap.size; omega) _).mono (by omega)
        · exact (hs5.setne (by show b < w.heap.size; omega) _).setne (by show b < w.heap.size; omega) _
        · exact grown_set (grown_set hG5 (.inr (by simp)) _) (.inr (by simp)) _
      · have hx1 : (x == 0) = false := by simpa using hx0
        go_wp2_with fail
        refine (l02Twist_any _ n _ ql _ _ p _ hoq4.row hop4.row (by omega)).mono ?_
        rintro e w5 ⟨a5, c5, vs5, a5', c5', vs5', rfl, ho5, hb5⟩
        have hR5 := hR4.below hb5 hz4
        have lR := hR5.two
        have hs5 := hs4.below hb5
        have hG5 := grown_trans hG4 (grown_of_below hb5 (some b))
        go_wp2
        refine bodyPost_ret (v := sAgg a5 n c5 a5' n c5') (by simp [results, Tryz.results122, go_sem, lR]) rfl ⟨a5, c5, vs5, _, a5', c5', vs5', _, rfl, ⟨?_, ?_, ho5.ap⟩, rep_sq HQ.out, col_sq HP.out, ?_, ?_⟩
        · exact ((ho5.f.setlo (by show w.heap.size < w4.heap.size; omega) _).setlo (by show w.heap.size < w4.heap.size; omega) _).mono (by omega)
        · exact ((ho5.s.setlo (by show w.heap.size < w4.heap.size; omega) _).setlo (by show w.heap.size < w4.heap.size; omega) _).mono (by omega)
        · exact (hs5.setne (by show b < w.heap.size; omega) _).setne (by show b < w.heap.size; omega) _
        · exact grown_set (grown_set hG5 (.inr (by simp)) _) (.inr (by simp)) _
    · have hql : Hid (∀ x ∈ ql, 0 ≤ x ∧ x < n) := Lib.hid HQ.out.mem
      go_wp2_with fail
      refine (l01Then_any _ _ n n _ _ ql p _ hoq.row hop.row (by omega) hql.out).mono ?_
      rintro e w4 ⟨a4, c4, rfl, ho4, hb4⟩
      have hz4 := hb4.size
      go_wp2
      go_roundw
      case rel => exact ⟨j, a4, c4, _, by omega, by go_num, rfl, Lib.hid (thL_isP HQ.out HP.out), ho4.mono hRl, hop.below hb4, hs.below hb4, hR.below hb4 hRl, grown_trans hG (grown_of_below hb4 _)⟩
      case measure => simp [intOf]
end Go.Proofs.YtdkpalllfekiiaaGreat
