/-
  Walks and plain laws of this seat, some texts in one.
  No condition but bounds on lengths.
-/
import Derived.Test.YtaddclaadbjnlaaGreatPs11
import Derived.Test.YtaddclaadbjnlaaGreatPs14
import Derived.Test.YtaddclaadbjnlaaGreatPs10
import Derived.Test.YtaddclaadbjnlaaGreatPs15
import Derived.Test.YtaddclaadbjnlaaGreatPs5
import Derived.Test.YtaddclaadbjnlaaGreatPs7
namespace Go.Proofs.YtaddclaadbjnlaaGreat
set_option linter.unusedVariables false
set_option linter.unusedSimpArgs false
set_option maxRecDepth 100000
open Go.RowKit
theorem OwnS.grownb {w w' : World} {lo b : Nat} {a a' : Option Addr} {n c n' c' : Nat} {vs vs' : List SV} {f g : List (List Int)} (h : OwnS w lo a n c vs f a' n' c' vs' g) (hg : w.grownBy w' (some b)) (hb : b < lo) : OwnS w' lo a n c vs f a' n' c' vs' g :=
  ⟨h.f.keep fun q hq hl => hg.block q hl (fun e => by have := h.f.uLo q hq; cases e; omega), h.s.keep fun q hq hl => hg.block q hl (fun e => by have := h.s.uLo q hq; cases e; omega), h.ap⟩
theorem sol_ret {w wk : World} {b lo n c c' : Nat} {a a' : Option Addr} {vs vs' : List SV} {f g : List (List Int)} (ho : OwnS wk lo a n c vs f a' n c' vs' g) (hlo : w.heap.size < lo) (hs : Src wk b) (hb : b < w.heap.size) (hG : w.grownBy wk (some b)) (sf : Sq n f) (sg : Sq n g) :
    SolDn b w n (.returned (sAgg a n c a' n c')) ((wk.setCell ⟨w.heap.size, 0, none⟩ (.slice a n c)).setCell ⟨w.heap.size, 1, none⟩ (.slice a' n c')) := by
  refine ⟨a, c, vs, f, a', c', vs', g, rfl, ⟨?_, ?_, ho.ap⟩, sf, sg, ?_, ?_⟩
  · exact ((ho.f.setlo (p := ⟨w.heap.size, 0, none⟩) hlo _).setlo (p := ⟨w.heap.size, 1, none⟩) hlo _).mono (by omega)
  · exact ((ho.s.setlo (p := ⟨w.heap.size, 0, none⟩) hlo _).setlo (p := ⟨w.heap.size, 1, none⟩) hlo _).mono (by omega)
  · exact (hs.setne (p := ⟨w.heap.size, 0, none⟩) hb _).setne (p := ⟨w.heap.size, 1, none⟩) hb _
  · exact grown_set (grown_set hG (.inr (Nat.le_refl _)) _) (.inr (Nat.le_refl _)) _
theorem row_loc {w : World} {b n : Nat} {cs : Array Value} {t : TypeId} {xs : List Int} (h : Loc w b cs t) (hn : n = xs.length) (e : cs.toList = xs.map (Value.int .i64)) : Row w (some ⟨b, 0, none⟩) n xs := by
  subst hn
  refine ⟨rfl, fun i hi => ⟨b, 0, rfl, h.lt, h.cell _ ?_⟩⟩
  rw [Nat.zero_add, ← Array.getElem?_toList, e, List.getElem?_map, List.getElem?_eq_getElem hi]
  simp [List.getD_eq_getElem?_getD, List.getElem?_eq_getElem hi]
def rw4 : List (List Int) := [[0, 1, 3, 2], [0, 1, 3, 2], [1, 0, 2, 3], [1, 0, 2, 3]]
def rw3 : List (List Int) := [[0, 1, 2], [0, 1, 2], [1, 0, 2]]
theorem rw4_ok : RwsP 4 rw4 := ⟨rfl, fun i hi => by
  match i, hi with
  | 0, _ => exact isPb_ok (by decide)
  | 1, _ => exact isPb_ok (by decide)
  | 2, _ => exact isPb_ok (by decide)
  | 3, _ => exact isPb_ok (by decide)⟩
theorem rw3_ok : RwsP 3 rw3 := ⟨rfl, fun i hi => by
  match i, hi with
  | 0, _ => exact isPb_ok (by decide)
  | 1, _ => exact isPb_ok (by decide)
  | 2, _ => exact isPb_ok (by decide)⟩
theorem lit4 (w : World) (t t' : TypeId) : Tbl (((((w.alloc (.cells #[.int .i64 0, .int .i64 1, .int .i64 3, .int .i64 2] t)).alloc (.cells #[.int .i64 0, .int .i64 1, .int .i64 3, .int .i64 2] t)).alloc (.cells #[.int .i64 1, .int .i64 0, .int .i64 2, .int .i64 3] t)).alloc (.cells #[.int .i64 1, .int .i64 0, .int .i64 2, .int .i64 3] t)).alloc (.cells #[.slice (some ⟨w.heap.size, 0, none⟩) 4 4, .slice (some ⟨w.heap.size + 1, 0, none⟩) 4 4, .slice (some ⟨w.heap.size + 1 + 1, 0, none⟩) 4 4, .slice (some ⟨w.heap.size + 1 + 1 + 1, 0, none⟩) 4 4] t')) (some ⟨w.heap.size + 1 + 1 + 1 + 1, 0, none⟩) 4 rw4 := by
  have h1 := ((((Loc.new w rfl #[.int .i64 0, .int .i64 1, .int .i64 3, .int .i64 2] t).alloc (.cells #[.int .i64 0, .int .i64 1, .int .i64 3, .int .i64 2] t)).alloc (.cells #[.int .i64 1, .int .i64 0, .int .i64 2, .int .i64 3] t)).alloc (.cells #[.int .i64 1, .int .i64 0, .int .i64 2, .int .i64 3] t)).alloc (.cells #[.slice (some ⟨w.heap.size, 0, none⟩) 4 4, .slice (some ⟨w.heap.size + 1, 0, none⟩) 4 4, .slice (some ⟨w.heap.size + 1 + 1, 0, none⟩) 4 4, .slice (some ⟨w.heap.size + 1 + 1 + 1, 0, none⟩) 4 4] t')
  have h2 := (((Loc.new (w.alloc (.cells #[.int .i64 0, .int .i64 1, .int .i64 3, .int .i64 2] t)) (b := w.heap.size + 1) (by simp) #[.int .i64 0, .int .i64 1, .int .i64 3, .int .i64 2] t).alloc (.cells #[.int .i64 1, .int .i64 0, .int .i64 2, .int .i64 3] t)).alloc (.cells #[.int .i64 1, .int .i64 0, .int .i64 2, .int .i64 3] t)).alloc (.cells #[.slice (some ⟨w.heap.size, 0, none⟩) 4 4, .slice (some ⟨w.heap.size + 1, 0, none⟩) 4 4, .slice (some ⟨w.heap.size + 1 + 1, 0, none⟩) 4 4, .slice (some ⟨w.heap.size + 1 + 1 + 1, 0, none⟩) 4 4] t')
  have h3 := ((Loc.new ((w.alloc (.cells #[.int .i64 0, .int .i64 1, .int .i64 3, .int .i64 2] t)).alloc (.cells #[.int .i64 0, .int .i64 1, .int .i64 3, .int .i64 2] t)) (b := w.heap.size + 1 + 1) (by simp) #[.int .i64 1, .int .i64 0, .int .i64 2, .int .i64 3] t).alloc (.cells #[.int .i64 1, .int .i64 0, .int .i64 2, .int .i64 3] t)).alloc (.cells #[.slice (some ⟨w.heap.size, 0, none⟩) 4 4, .slice (some ⟨w.heap.size + 1, 0, none⟩) 4 4, .slice (some ⟨w.heap.size + 1 + 1, 0, none⟩) 4 4, .slice (some ⟨w.heap.size + 1 + 1 + 1, 0, none⟩) 4 4] t')
  have h4 := (Loc.new (((w.alloc (.cells #[.int .i64 0, .int .i64 1, .int .i64 3, .int .i64 2] t)).alloc (.cells #[.int .i64 0, .int .i64 1, .int .i64 3, .int .i64 2] t)).alloc (.cells #[.int .i64 1, .int .i64 0, .int .i64 2, .int .i64 3] t)) (b := w.heap.size + 1 + 1 + 1) (by simp) #[.int .i64 1, .int .i64 0, .int .i64 2, .int .i64 3] t).alloc (.cells #[.slice (some ⟨w.heap.size, 0, none⟩) 4 4, .slice (some ⟨w.heap.size + 1, 0, none⟩) 4 4, .slice (some ⟨w.heap.size + 1 + 1, 0, none⟩) 4 4, .slice (some ⟨w.heap.size + 1 + 1 + 1, 0, none⟩) 4 4] t')
  have hh := Loc.new ((((w.alloc (.cells #[.int .i64 0, .int .i64 1, .int .i64 3, .int .i64 2] t)).alloc (.cells #[.int .i64 0, .int .i64 1, .int .i64 3, .int .i64 2] t)).alloc (.cells #[.int .i64 1, .int .i64 0, .int .i64 2, .int .i64 3] t)).alloc (.cells #[.int .i64 1, .int .i64 0, .int .i64 2, .int .i64 3] t)) (b := w.heap.size + 1 + 1 + 1 + 1) (by simp) #[.slice (some ⟨w.heap.size, 0, none⟩) 4 4, .slice (some ⟨w.heap.size + 1, 0, none⟩) 4 4, .slice (some ⟨w.heap.size + 1 + 1, 0, none⟩) 4 4, .slice (some ⟨w.heap.size + 1 + 1 + 1, 0, none⟩) 4 4] t'
  refine ⟨rfl, fun i hi => ?_⟩
  match i, hi with
  | 0, _ => exact ⟨_, 0, _, 4, 4, rfl, hh.lt, hh.cell 0 rfl, row_loc h1 rfl rfl, by omega⟩
  | 1, _ => exact ⟨_, 0, _, 4, 4, rfl, hh.lt, hh.cell 1 rfl, row_loc h2 rfl rfl, by omega⟩
  | 2, _ => exact ⟨_, 0, _, 4, 4, rfl, hh.lt, hh.cell 2 rfl, row_loc h3 rfl rfl, by omega⟩
  | 3, _ => exact ⟨_, 0, _, 4, 4, rfl, hh.lt, hh.cell 3 rfl, row_loc h4 rfl rfl, by omega⟩
theorem lit3 (w : World) (t t' : TypeId) : Tbl ((((w.alloc (.cells #[.int .i64 0, .int .i64 1, .int .i64 2] t)).alloc (.cells #[.int .i64 0, .int .i64 1, .int .i64 2] t)).alloc (.cells #[.int .i64 1, .int .i64 0, .int .i64 2] t)).alloc (.cells #[.slice (some ⟨w.heap.size, 0, none⟩) 3 3, .slice (some ⟨w.heap.size + 1, 0, none⟩) 3 3, .slice (some ⟨w.heap.size + 1 + 1, 0, none⟩) 3 3] t')) (some ⟨w.heap.size + 1 + 1 + 1, 0, none⟩) 3 rw3 := by
  have h1 := (((Loc.new w rfl #[.int .i64 0, .int .i64 1, .int .i64 2] t).alloc (.cells #[.int .i64 0, .int .i64 1, .int .i64 2] t)).alloc (.cells #[.int .i64 1, .int .i64 0, .int .i64 2] t)).alloc (.cells #[.slice (some ⟨w.heap.size, 0, none⟩) 3 3, .slice (some ⟨w.heap.size + 1, 0, none⟩) 3 3, .slice (some ⟨w.heap.size + 1 + 1, 0, none⟩) 3 3] t')
  have h2 := ((Loc.new (w.alloc (.cells #[.int .i64 0, .int .i64 1, .int .i64 2] t)) (b := w.heap.size + 1) (by simp) #[.int .i64 0, .int .i64 1, .int .i64 2] t).alloc (.cells #[.int .i64 1, .int .i64 0, .int .i64 2] t)).alloc (.cells #[.slice (some ⟨w.heap.size, 0, none⟩) 3 3, .slice (some ⟨w.heap.size + 1, 0, none⟩) 3 3, .slice (some ⟨w.heap.size + 1 + 1, 0, none⟩) 3 3] t')
  have h3 := (Loc.new ((w.alloc (.cells #[.int .i64 0, .int .i64 1, .int .i64 2] t)).alloc (.cells #[.int .i64 0, .int .i64 1, .int .i64 2] t)) (b := w.heap.size + 1 + 1) (by simp) #[.int .i64 1, .int .i64 0, .int .i64 2] t).alloc (.cells #[.slice (some ⟨w.heap.size, 0, none⟩) 3 3, .slice (some ⟨w.heap.size + 1, 0, none⟩) 3 3, .slice (some ⟨w.heap.size + 1 + 1, 0, none⟩) 3 3] t')
  have hh := Loc.new (((w.alloc (.cells #[.int .i64 0, .int .i64 1, .int .i64 2] t)).alloc (.cells #[.int .i64 0, .int .i64 1, .int .i64 2] t)).alloc (.cells #[.int .i64 1, .int .i64 0, .int .i64 2] t)) (b := w.heap.size + 1 + 1 + 1) (by simp) #[.slice (some ⟨w.heap.size, 0, none⟩) 3 3, .slice (some ⟨w.heap.size + 1, 0, none⟩) 3 3, .slice (some ⟨w.heap.size + 1 + 1, 0, none⟩) 3 3] t'
  refine ⟨rfl, fun i hi => ?_⟩
  match i, hi with
  | 0, _ => exact ⟨_, 0, _, 3, 3, rfl, hh.lt, hh.cell 0 rfl, row_loc h1 rfl rfl, by omega⟩
  | 1, _ => exact ⟨_, 0, _, 3, 3, rfl, hh.lt, hh.cell 1 rfl, row_loc h2 rfl rfl, by omega⟩
  | 2, _ => exact ⟨_, 0, _, 3, 3, rfl, hh.lt, hh.cell 2 rfl, row_loc h3 rfl rfl, by omega⟩
set_option maxHeartbeats 32000000 in
theorem l02Any_ok : ∀ (M b : Nat) (w : World), Src w b → 1 ≤ M → M ≤ 12 → Calls Tryz.prog 149 #[.pointer (some ⟨b, 0, none⟩), .int .i64 M] w (SolD b w M) := by
  intro M
  induction M using Nat.strongRecOn with
  | _ M ih =>
  intro b w h h1 hM
  have IH := Lib.hid ih
  clear ih
  have hlt := h.lt
  have hR := Loc.new w rfl #[.slice none 0 0, .slice none 0 0] 53
  go_enter Tryz.func149, Tryz.ntmps149
  go_wp2_with fail
  refine (l01Next_ok b (M : Int) _ (h.below (below_al (Below.refl _ _) _)) ⟨by omega, by omega⟩).mono ?_
  rintro e w1 ⟨y, rfl, _, hy, hs1, hg1⟩
  obtain ⟨hy1, hy2⟩ := hy (by omega)
  obtain ⟨y0, rfl⟩ : ∃ k : Nat, y = k := ⟨y.toNat, by omega⟩
  obtain ⟨N, hN⟩ : ∃ N, N = y0 + 1 := ⟨_, rfl⟩
  have e1 : (1 : Int) + (y0 : Int) = (N : Int) := by omega
  have hN1 : 1 ≤ N := by omega
  have hNM : N ≤ M := by omega
  clear hy hy1 hy2 hN
  have hR1 := hR.grown hg1 (by simp; omega)
  have hG1 := grown_trans (World.grownBy_alloc w (.cells #[.slice none 0 0, .slice none 0 0] 53) (some b)) hg1
  go_wp2_with fail
  refine (l01Next_ok b 8 _ hs1 ⟨by omega, by omega⟩).mono ?_
  rintro e w2 ⟨x, rfl, _, hx, hs2, hg2⟩
  obtain ⟨hx1, hx2⟩ := hx (by omega)
  have hR2 := hR1.grown hg2 (by simp; omega)
  have hG2 := grown_trans hG1 hg2
  have hz2 := hR2.lt
  clear hx hR hR1 hs1 hg1 hg2 hG1 e1
  have hx8 : x = 0 ∨ x = 1 ∨ x = 2 ∨ x = 3 ∨ x = 4 ∨ x = 5 ∨ x = 6 ∨ x = 7 := by omega
  clear hx1 hx2
  rcases hx8 with rfl | rfl | rfl | rfl | rfl | rfl | rfl | rfl
  · go_wp2_with fail
    refine (l02Flip_any N _ (by omega)).mono ?_
    rintro e w3 ⟨a3, c3, vs3, a3', c3', vs3', rfl, ho3, hb3⟩
    have hR3 := hR2.below hb3 hR2.lt
    have lR := hR3.two
    have hs3 := hs2.below hb3
    have hG3 := grown_trans hG2 (grown_of_below hb3 (some b))
    go_wp2
    exact bodyPost_ret (v := sAgg a3 N c3 a3' N c3') (by simp [results, Tryz.results149, go_sem, lR]) rfl ⟨N, by omega, by omega, sol_ret ho3 hz2 hs3 hlt hG3 (rep_sq (unit_isP N)) (col_sq (unit_isP N))⟩
  · go_wp2_with fail
    refine (l02Polygon_any N _ hN1 (by omega)).mono ?_
    rintro e w3 ⟨a3, c3, vs3, f3, a3', c3', vs3', g3, rfl, ho3, sf3, sg3, hb3⟩
    have hR3 := hR2.below hb3 hR2.lt
    have lR := hR3.two
    have hs3 := hs2.below hb3
    have hG3 := grown_trans hG2 (grown_of_below hb3 (some b))
    go_wp2
    exact bodyPost_ret (v := sAgg a3 N c3 a3' N c3') (by simp [results, Tryz.results149, go_sem, lR]) rfl ⟨N, by omega, by omega, sol_ret ho3 hz2 hs3 hlt hG3 sf3 sg3⟩
  · by_cases c4 : 4 ≤ N ∧ N % 2 = 0
    · obtain ⟨c4, c2⟩ := c4
      obtain ⟨K, hK⟩ : ∃ K, N = 2 * K := ⟨N / 2, by omega⟩
      have d1 : Int.tdiv (N : Int) 2 = (K : Int) := by rw [hK, show ((2 * K : Nat) : Int) = 2 * (K : Int) by push_cast; rfl]; exact Int.mul_tdiv_cancel_left _ (by omega)
      have d2 : Int.tmod (N : Int) 2 = 0 := by rw [hK, show ((2 * K : Nat) : Int) = 2 * (K : Int) by push_cast; rfl]; exact Int.mul_tmod_right _ _
      have i1 : (4 : Int) ≤ (N : Int) := by omega
      have hK2 : 1 ≤ K := by omega
      have hKN : K * 2 = N := by omega
      have HKN := Lib.hid hKN
      have hKb : K ≤ 12 := by omega
      clear hK hKN c2
      go_wp2_with fail
      refine (l02Twisted_ok b K _ hs2 hK2 (by have := HKN.out; omega)).mono ?_
      rintro e w3 ⟨a3, c3, vs3, f3, a3', c3', vs3', g3, rfl, ho3, sf3, sg3, hs3, hg3⟩
      have hR3 := hR2.grown hg3 (by simp; omega)
      have hG3 := grown_trans hG2 hg3
      have hz3 := hR3.lt
      go_wp2_with fail
      refine (l02Twisted_ok b 2 _ hs3 (by omega) (by omega)).mono ?_
      rintro e w4 ⟨a4, c4, vs4, f4, a4', c4', vs4', g4, rfl, ho4, sf4, sg4, hs4, hg4⟩
      have hR4 := hR3.grown hg4 (by simp; omega)
      have hG4 := grown_trans hG3 hg4
      have hz4 := hR4.lt
      have ho34 := ho3.grownb hg4 (by omega)
      go_wp2_with fail
      refine (l02Product_any _ _ _ _ K 2 _ _ _ _ f3 g3 f4 g4 _ ho34.f.tbl ho34.s.tbl ho4.f.tbl ho4.s.tbl sf3 sg3 sf4 sg4 hK2 (by omega) (by have := HKN.out; omega) (by omega)).mono ?_
      rintro e w5 hr5
      rw [HKN.out] at hr5
      obtain ⟨a5, c5, vs5, f5, a5', c5', vs5', g5, rfl, ho5, sf5, sg5, hb5⟩ := hr5
      have hR5 := hR4.below hb5 hR4.lt
      have lR := hR5.two
      have hs5 := hs4.below hb5
      have hG5 := grown_trans hG4 (grown_of_below hb5 (some b))
      go_wp2
      exact bodyPost_ret (v := sAgg a5 N c5 a5' N c5') (by simp [results, Tryz.results149, go_sem, lR]) rfl ⟨N, by omega, by omega, sol_ret ho5 hz4 hs5 hlt hG5 sf5 sg5⟩
    · by_cases c5 : 4 ≤ N
      · have hodd : N % 2 = 1 := by omega
        have d2 : Int.tmod (N : Int) 2 = 1 := by show ((N % 2 : Nat) : Int) = 1; rw [hodd]; rfl
        clear hodd c4
        have i1 : (4 : Int) ≤ (N : Int) := by omega
        go_wp2_with fail
        refine (l02Twisted_ok b N _ hs2 hN1 (by omega)).mono ?_
        rintro e w3 ⟨a3, c3, vs3, f3, a3', c3', vs3', g3, rfl, ho3, sf3, sg3, hs3, hg3⟩
        have hR3 := hR2.grown hg3 (by simp; omega)
        have lR := hR3.two
        have hG3 := grown_trans hG2 hg3
        go_wp2
        exact bodyPost_ret (v := sAgg a3 N c3 a3' N c3') (by simp [results, Tryz.results149, go_sem, lR]) rfl ⟨N, by omega, by omega, sol_ret ho3 hz2 hs3 hlt hG3 sf3 sg3⟩
      · have i1 : ¬ (4 : Int) ≤ (N : Int) := by omega
        go_wp2_with fail
        refine (l02Twisted_ok b N _ hs2 hN1 (by omega)).mono ?_
        rintro e w3 ⟨a3, c3, vs3, f3, a3', c3', vs3', g3, rfl, ho3, sf3, sg3, hs3, hg3⟩
        have hR3 := hR2.grown hg3 (by simp; omega)
        have lR := hR3.two
        have hG3 := grown_trans hG2 hg3
        go_wp2
        exact bodyPost_ret (v := sAgg a3 N c3 a3' N c3') (by simp [results, Tryz.results149, go_sem, lR]) rfl ⟨N, by omega, by omega, sol_ret ho3 hz2 hs3 hlt hG3 sf3 sg3⟩
  · by_cases c2 : 2 ≤ N
    · have i1 : (2 : Int) ≤ (N : Int) := by omega
      go_wp2_with fail
      refine (l01Next_ok b ((N : Int) - 1) _ hs2 ⟨by omega, by omega⟩).mono ?_
      rintro e w3 ⟨q, rfl, _, hq, hs3, hg3⟩
      obtain ⟨hq1, hq2⟩ := hq (by omega)
      obtain ⟨q0, rfl⟩ : ∃ k : Nat, q = k := ⟨q.toNat, by omega⟩
      obtain ⟨K, hK⟩ : ∃ K, K = q0 + 1 := ⟨_, rfl⟩
      have e1 : (1 : Int) + (q0 : Int) = (K : Int) := by omega
      have hK1 : 1 ≤ K := by omega
      have hKN : K < N := by omega
      obtain ⟨J, hJ⟩ : ∃ J, J = N - K := ⟨_, rfl⟩
      have e2 : (N : Int) - (K : Int) = (J : Int) := by omega
      have hJ1 : 1 ≤ J := by omega
      have HJ := Lib.hid (show K + J = N by omega)
      clear hq hq1 hq2 hK hJ
      have hR3 := hR2.grown hg3 (by simp; omega)
      have hG3 := grown_trans hG2 hg3
      have hz3 := hR3.lt
      go_wp2_with fail
      refine (IH.out K (by omega) b _ hs3 hK1 (by omega)).mono ?_
      rintro e w4 ⟨n4, hn41, hn4K, a4, c4, vs4, f4, a4', c4', vs4', g4, rfl, ho4, sf4, sg4, hs4, hg4⟩
      have hR4 := hR3.grown hg4 (by simp; omega)
      have hG4 := grown_trans hG3 hg4
      have hz4 := hR4.lt
      go_wp2_with fail
      refine (l02Twisted_ok b J _ hs4 hJ1 (by have := HJ.out; omega)).mono ?_
      rintro e w5 ⟨a5, c5, vs5, f5, a5', c5', vs5', g5, rfl, ho5, sf5, sg5, hs5, hg5⟩
      have hR5 := hR4.grown hg5 (by simp; omega)
      have hG5 := grown_trans hG4 hg5
      have hz5 := hR5.lt
      have ho45 := ho4.grownb hg5 (by omega)
      go_wp2_with fail
      refine (l02Union_any _ _ _ _ n4 J _ _ _ _ f4 g4 f5 g5 _ ho45.f.tbl ho45.s.tbl ho5.f.tbl ho5.s.tbl sf4 sg4 sf5 sg5 hn41 hJ1 (by omega) (by have := HJ.out; omega)).mono ?_
      rintro e w6 ⟨a6, c6, vs6, f6, a6', c6', vs6', g6, rfl, ho6, sf6, sg6, hb6⟩
      have hJJ := HJ.out
      have hR6 := hR5.below hb6 hR5.lt
      have lR := hR6.two
      have hs6 := hs5.below hb6
      have hG6 := grown_trans hG5 (grown_of_below hb6 (some b))
      go_wp2
      exact bodyPost_ret (v := sAgg a6 (n4 + J) c6 a6' (n4 + J) c6') (by simp [results, Tryz.results149, go_sem, lR]) rfl ⟨(n4 + J), by omega, by omega, sol_ret ho6 hz5 hs6 hlt hG6 sf6 sg6⟩
    · have i1 : ¬ (2 : Int) ≤ (N : Int) := by omega
      go_wp2_with fail
      refine (l02Twisted_ok b N _ hs2 hN1 (by omega)).mono ?_
      rintro e w3 ⟨a3, c3, vs3, f3, a3', c3', vs3', g3, rfl, ho3, sf3, sg3, hs3, hg3⟩
      have hR3 := hR2.grown hg3 (by simp; omega)
      have lR := hR3.two
      have hG3 := grown_trans hG2 hg3
      go_wp2
      exact bodyPost_ret (v := sAgg a3 N c3 a3' N c3') (by simp [results, Tryz.results149, go_sem, lR]) rfl ⟨N, by omega, by omega, sol_ret ho3 hz2 hs3 hlt hG3 sf3 sg3⟩
  · by_cases c4 : 4 ≤ M
    · have i1 : (4 : Int) ≤ (M : Int) := by omega
      obtain ⟨w9, hw9⟩ : ∃ w9, ((((w2.alloc (.cells #[.int .i64 0, .int .i64 1, .int .i64 3, .int .i64 2] 2)).alloc (.cells #[.int .i64 0, .int .i64 1, .int .i64 3, .int .i64 2] 2)).alloc (.cells #[.int .i64 1, .int .i64 0, .int .i64 2, .int .i64 3] 2)).alloc (.cells #[.int .i64 1, .int .i64 0, .int .i64 2, .int .i64 3] 2)).alloc (.cells #[.slice (some ⟨w2.heap.size, 0, none⟩) 4 4, .slice (some ⟨w2.heap.size + 1, 0, none⟩) 4 4, .slice (some ⟨w2.heap.size + 1 + 1, 0, none⟩) 4 4, .slice (some ⟨w2.heap.size + 1 + 1 + 1, 0, none⟩) 4 4] 41) = w9 := ⟨_, rfl⟩
      have ht9 : Tbl w9 (some ⟨w2.heap.size + 1 + 1 + 1 + 1, 0, none⟩) 4 rw4 := by rw [← hw9]; exact lit4 w2 _ _
      have hb9 : Below w2.heap.size w2 w9 := by rw [← hw9]; exact below_al (below_al (below_al (below_al (below_al (Below.refl _ _) _) _) _) _) _
      have HW9 := Lib.hid hw9
      clear hw9
      have hR9 := hR2.below hb9 hz2
      have hs9 := hs2.below hb9
      have hG9 := grown_trans hG2 (grown_of_below hb9 (some b))
      have hz9 := hb9.size
      go_wp2_with fail
      try rw [HW9.out]
      refine (l02Involutive_any 4 _ _ rw4 _ ht9 rw4_ok (by omega) (by omega)).mono ?_
      rintro e w10 ⟨a10, c10, vs10, f10, a10', c10', vs10', g10, rfl, ho10, sf10, sg10, hb10⟩
      have hR10 := hR9.below hb10 hR9.lt
      have lR := hR10.two
      have hs10 := hs9.below hb10
      have hG10 := grown_trans hG9 (grown_of_below hb10 (some b))
      go_wp2
      exact bodyPost_ret (v := sAgg a10 4 c10 a10' 4 c10') (by simp [results, Tryz.results149, go_sem, lR]) rfl ⟨4, by omega, by omega, sol_ret ho10 (by omega) hs10 hlt hG10 sf10 sg10⟩
    · have i1 : ¬ (4 : Int) ≤ (M : Int) := by omega
      go_wp2_with fail
      refine (l02Twisted_ok b N _ hs2 hN1 (by omega)).mono ?_
      rintro e w3 ⟨a3, c3, vs3, f3, a3', c3', vs3', g3, rfl, ho3, sf3, sg3, hs3, hg3⟩
      have hR3 := hR2.grown hg3 (by simp; omega)
      have lR := hR3.two
      have hG3 := grown_trans hG2 hg3
      go_wp2
      exact bodyPost_ret (v := sAgg a3 N c3 a3' N c3') (by simp [results, Tryz.results149, go_sem, lR]) rfl ⟨N, by omega, by omega, sol_ret ho3 hz2 hs3 hlt hG3 sf3 sg3⟩
  · by_cases c2 : 2 ≤ N
    · have i1 : (2 : Int) ≤ (N : Int) := by omega
      go_wp2_with fail
      refine (l02Polygon_any N _ hN1 (by omega)).mono ?_
      rintro e w3 ⟨a3, c3, vs3, f3, a3', c3', vs3', g3, rfl, ho3, sf3, sg3, hb3⟩
      have hR3 := hR2.below hb3 hR2.lt
      have hs3 := hs2.below hb3
      have hG3 := grown_trans hG2 (grown_of_below hb3 (some b))
      have hz3 := hR3.lt
      go_wp2_with fail
      refine (l02Inverse_any N _ _ _ _ f3 g3 _ ho3.f.tbl ho3.s.tbl sf3 sg3 hN1 (by omega)).mono ?_
      rintro e w4 ⟨a4, c4, vs4, f4, a4', c4', vs4', g4, rfl, ho4, sf4, sg4, hb4⟩
      have hR4 := hR3.below hb4 hR3.lt
      have lR := hR4.two
      have hs4 := hs3.below hb4
      have hG4 := grown_trans hG3 (grown_of_below hb4 (some b))
      go_wp2
      exact bodyPost_ret (v := sAgg a4 N c4 a4' N c4') (by simp [results, Tryz.results149, go_sem, lR]) rfl ⟨N, by omega, by omega, sol_ret ho4 hz3 hs4 hlt hG4 sf4 sg4⟩
    · have i1 : ¬ (2 : Int) ≤ (N : Int) := by omega
      go_wp2_with fail
      refine (l02Twisted_ok b N _ hs2 hN1 (by omega)).mono ?_
      rintro e w3 ⟨a3, c3, vs3, f3, a3', c3', vs3', g3, rfl, ho3, sf3, sg3, hs3, hg3⟩
      have hR3 := hR2.grown hg3 (by simp; omega)
      have lR := hR3.two
      have hG3 := grown_trans hG2 hg3
      go_wp2
      exact bodyPost_ret (v := sAgg a3 N c3 a3' N c3') (by simp [results, Tryz.results149, go_sem, lR]) rfl ⟨N, by omega, by omega, sol_ret ho3 hz2 hs3 hlt hG3 sf3 sg3⟩
  · by_cases c4 : 3 ≤ M
    · have i1 : (3 : Int) ≤ (M : Int) := by omega
      obtain ⟨w9, hw9⟩ : ∃ w9, (((w2.alloc (.cells #[.int .i64 0, .int .i64 1, .int .i64 2] 2)).alloc (.cells #[.int .i64 0, .int .i64 1, .int .i64 2] 2)).alloc (.cells #[.int .i64 1, .int .i64 0, .int .i64 2] 2)).alloc (.cells #[.slice (some ⟨w2.heap.size, 0, none⟩) 3 3, .slice (some ⟨w2.heap.size + 1, 0, none⟩) 3 3, .slice (some ⟨w2.heap.size + 1 + 1, 0, none⟩) 3 3] 41) = w9 := ⟨_, rfl⟩
      have ht9 : Tbl w9 (some ⟨w2.heap.size + 1 + 1 + 1, 0, none⟩) 3 rw3 := by rw [← hw9]; exact lit3 w2 _ _
      have hb9 : Below w2.heap.size w2 w9 := by rw [← hw9]; exact below_al (below_al (below_al (below_al (Below.refl _ _) _) _) _) _
      have HW9 := Lib.hid hw9
      clear hw9
      have hR9 := hR2.below hb9 hz2
      have hs9 := hs2.below hb9
      have hG9 := grown_trans hG2 (grown_of_below hb9 (some b))
      have hz9 := hb9.size
      go_wp2_with fail
      try rw [HW9.out]
      refine (l02Involutive_any 3 _ _ rw3 _ ht9 rw3_ok (by omega) (by omega)).mono ?_
      rintro e w10 ⟨a10, c10, vs10, f10, a10', c10', vs10', g10, rfl, ho10, sf10, sg10, hb10⟩
      have hR10 := hR9.below hb10 hR9.lt
      have lR := hR10.two
      have hs10 := hs9.below hb10
      have hG10 := grown_trans hG9 (grown_of_below hb10 (some b))
      go_wp2
      exact bodyPost_ret (v := sAgg a10 3 c10 a10' 3 c10') (by simp [results, Tryz.results149, go_sem, lR]) rfl ⟨3, by omega, by omega, sol_ret ho10 (by omega) hs10 hlt hG10 sf10 sg10⟩
    · have i1 : ¬ (3 : Int) ≤ (M : Int) := by omega
      go_wp2_with fail
      refine (l02Twisted_ok b N _ hs2 hN1 (by omega)).mono ?_
      rintro e w3 ⟨a3, c3, vs3, f3, a3', c3', vs3', g3, rfl, ho3, sf3, sg3, hs3, hg3⟩
      have hR3 := hR2.grown hg3 (by simp; omega)
      have lR := hR3.two
      have hG3 := grown_trans hG2 hg3
      go_wp2
      exact bodyPost_ret (v := sAgg a3 N c3 a3' N c3') (by simp [results, Tryz.results149, go_sem, lR]) rfl ⟨N, by omega, by omega, sol_ret ho3 hz2 hs3 hlt hG3 sf3 sg3⟩
  · go_wp2_with fail
    refine (l02Twisted_ok b N _ hs2 hN1 (by omega)).mono ?_
    rintro e w3 ⟨a3, c3, vs3, f3, a3', c3', vs3', g3, rfl, ho3, sf3, sg3, hs3, hg3⟩
    have hR3 := hR2.grown hg3 (by simp; omega)
    have lR := hR3.two
    have hG3 := grown_trans hG2 hg3
    go_wp2
    exact bodyPost_ret (v := sAgg a3 N c3 a3' N c3') (by simp [results, Tryz.results149, go_sem, lR]) rfl ⟨N, by omega, by omega, sol_ret ho3 hz2 hs3 hlt hG3 sf3 sg3⟩
def cjI (L : List (List Int)) (x y : Nat) : Nat := L.findIdx fun r => decide (r = cjL (L.getD x []) (L.getD y []))
theorem cjI_at {L : List (List Int)} {x y : Nat} (h : cjI L x y < L.length) : L.getD (cjI L x y) [] = cjL (L.getD x []) (L.getD y []) := by
  have t : decide (L[cjI L x y] = cjL (L.getD x []) (L.getD y [])) = true := List.findIdx_getElem (p := fun r => decide (r = cjL (L.getD x []) (L.getD y []))) (xs := L) (w := h)
  rw [List.getD_eq_getElem?_getD (l := L) (i := cjI L x y), List.getElem?_eq_getElem h, Option.getD_some]
  simpa using t
theorem cjI_ne {L : List (List Int)} {x y j : Nat} (h : j < cjI L x y) : L.getD j [] ≠ cjL (L.getD x []) (L.getD y []) := by
  have hl : j < L.length := Nat.lt_of_lt_of_le h List.findIdx_le_length
  have t := List.not_of_lt_findIdx (p := fun r => decide (r = cjL (L.getD x []) (L.getD y []))) (xs := L) h
  rw [List.getD_eq_getElem?_getD (l := L) (i := j), List.getElem?_eq_getElem hl, Option.getD_some]
  simpa using t
def trL : List (List Int) := [[0, 2, 1], [1, 0, 2], [2, 1, 0]]
structure CjOk (m : Nat) (L : List (List Int)) : Prop where
  len : L.length = m
  isP : ∀ x, x < m → IsP 3 (L.getD x [])
  lt : ∀ x y, x < m → y < m → cjI L x y < m
theorem cj_of {m : Nat} {L : List (List Int)} (hl : L.length = m) (h : ((List.range m).all fun x => isPb 3 (L.getD x []) && (List.range m).all fun y => decide (cjI L x y < m)) = true) : CjOk m L := by
  refine ⟨hl, fun x hx => ?_, fun x y hx hy => ?_⟩
  · have := List.all_eq_true.1 h x (List.mem_range.2 hx)
    rw [Bool.and_eq_true] at this
    exact isPb_ok this.1
  · have := List.all_eq_true.1 h x (List.mem_range.2 hx)
    rw [Bool.and_eq_true] at this
    simpa using List.all_eq_true.1 this.2 y (List.mem_range.2 hy)
theorem cj_prm : CjOk 6 (prmL 3) := cj_of (by decide +kernel) (by decide +kernel)
theorem cj_tr : CjOk 3 trL := cj_of (by decide +kernel) (by decide +kernel)
theorem litT (w : World) (t t' : TypeId) : Tbl ((((w.alloc (.cells #[.int .i64 0, .int .i64 2, .int .i64 1] t)).alloc (.cells #[.int .i64 1, .int .i64 0, .int .i64 2] t)).alloc (.cells #[.int .i64 2, .int .i64 1, .int .i64 0] t)).alloc (.cells #[.slice (some ⟨w.heap.size, 0, none⟩) 3 3, .slice (some ⟨w.heap.size + 1, 0, none⟩) 3 3, .slice (some ⟨w.heap.size + 1 + 1, 0, none⟩) 3 3] t')) (some ⟨w.heap.size + 1 + 1 + 1, 0, none⟩) 3 trL := by
  have h1 := (((Loc.new w rfl #[.int .i64 0, .int .i64 2, .int .i64 1] t).alloc (.cells #[.int .i64 1, .int .i64 0, .int .i64 2] t)).alloc (.cells #[.int .i64 2, .int .i64 1, .int .i64 0] t)).alloc (.cells #[.slice (some ⟨w.heap.size, 0, none⟩) 3 3, .slice (some ⟨w.heap.size + 1, 0, none⟩) 3 3, .slice (some ⟨w.heap.size + 1 + 1, 0, none⟩) 3 3] t')
  have h2 := ((Loc.new (w.alloc (.cells #[.int .i64 0, .int .i64 2, .int .i64 1] t)) (b := w.heap.size + 1) (by simp) #[.int .i64 1, .int .i64 0, .int .i64 2] t).alloc (.cells #[.int .i64 2, .int .i64 1, .int .i64 0] t)).alloc (.cells #[.slice (some ⟨w.heap.size, 0, none⟩) 3 3, .slice (some ⟨w.heap.size + 1, 0, none⟩) 3 3, .slice (some ⟨w.heap.size + 1 + 1, 0, none⟩) 3 3] t')
  have h3 := (Loc.new ((w.alloc (.cells #[.int .i64 0, .int .i64 2, .int .i64 1] t)).alloc (.cells #[.int .i64 1, .int .i64 0, .int .i64 2] t)) (b := w.heap.size + 1 + 1) (by simp) #[.int .i64 2, .int .i64 1, .int .i64 0] t).alloc (.cells #[.slice (some ⟨w.heap.size, 0, none⟩) 3 3, .slice (some ⟨w.heap.size + 1, 0, none⟩) 3 3, .slice (some ⟨w.heap.size + 1 + 1, 0, none⟩) 3 3] t')
  have hh := Loc.new (((w.alloc (.cells #[.int .i64 0, .int .i64 2, .int .i64 1] t)).alloc (.cells #[.int .i64 1, .int .i64 0, .int .i64 2] t)).alloc (.cells #[.int .i64 2, .int .i64 1, .int .i64 0] t)) (b := w.heap.size + 1 + 1 + 1) (by simp) #[.slice (some ⟨w.heap.size, 0, none⟩) 3 3, .slice (some ⟨w.heap.size + 1, 0, none⟩) 3 3, .slice (some ⟨w.heap.size + 1 + 1, 0, none⟩) 3 3] t'
  refine ⟨rfl, fun i hi => ?_⟩
  match i, hi with
  | 0, _ => exact ⟨_, 0, _, 3, 3, rfl, hh.lt, hh.cell 0 rfl, row_loc h1 rfl rfl, by omega⟩
  | 1, _ => exact ⟨_, 0, _, 3, 3, rfl, hh.lt, hh.cell 1 rfl, row_loc h2 rfl rfl, by omega⟩
  | 2, _ => exact ⟨_, 0, _, 3, 3, rfl, hh.lt, hh.cell 2 rfl, row_loc h3 rfl rfl, by omega⟩
theorem cell_mark {w w' : World} {S : Nat → Prop} (hm : Marked S w w') {b o : Nat} (hb : b < w.heap.size) (hS : ¬ S b) : w'.cell? ⟨b, o, none⟩ = w.cell? ⟨b, o, none⟩ := World.cell?_of_block (hm.block b hb hS)
theorem Row.mark0 {w w' : World} {a : Option Addr} {n B0 : Nat} {xs : List Int} (h : Row w a n xs) (hm : Marked (fun g => g = B0) w w') (h0 : ∀ k, w.cell? ⟨B0, k, none⟩ = none) : Row w' a n xs :=
  ⟨h.1, fun i hi => by
    obtain ⟨b, off, h1, h3, h2⟩ := h.2 i hi
    exact ⟨b, off, h1, Nat.lt_of_lt_of_le h3 hm.size, (cell_mark hm h3 (fun e => by have e : b = B0 := e; rw [e, h0] at h2; cases h2)).trans h2⟩⟩
theorem Tbl.mark0 {w w' : World} {a : Option Addr} {n B0 : Nat} {xss : List (List Int)} (h : Tbl w a n xss) (hm : Marked (fun g => g = B0) w w') (h0 : ∀ k, w.cell? ⟨B0, k, none⟩ = none) : Tbl w' a n xss :=
  ⟨h.1, fun i hi => by
    obtain ⟨b, off, ai, ni, ci, h1, h3, h2, h4, h5⟩ := h.2 i hi
    exact ⟨b, off, ai, ni, ci, h1, Nat.lt_of_lt_of_le h3 hm.size, (cell_mark hm h3 (fun e => by have e : b = B0 := e; rw [e, h0] at h2; cases h2)).trans h2, h4.mark0 hm h0, h5⟩⟩
theorem loc_none {w : World} {b : Nat} {t : TypeId} (h : Loc w b #[] t) : ∀ k, w.cell? ⟨b, k, none⟩ = none := fun k => by
  unfold Loc at h; simp [World.cell?, h]
end Go.Proofs.YtaddclaadbjnlaaGreat
