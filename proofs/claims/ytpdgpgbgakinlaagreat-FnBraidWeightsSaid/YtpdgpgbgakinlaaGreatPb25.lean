/-
  Walks and plain laws of this seat, some texts in one.
  No condition but bounds on lengths.
-/
import Derived.Test.YtpdgpgbgakinlaaGreatPb24
import Derived.Test.YtpdgpgbgakinlaaGreatPb19
import Derived.Test.YtpdgpgbgakinlaaGreatPb18
namespace Go.Proofs.YtpdgpgbgakinlaaGreat
set_option maxRecDepth 100000
set_option linter.unusedVariables false
set_option linter.unusedSimpArgs false
open Go.RowKit
def TbA (b : Nat) (w : World) (e : Ending) (w' : World) : Prop :=
  ∃ (a : Option Addr) (n c : Nat) (vs : List SV) (f : List (List Int)), e = .returned (.slice a n c) ∧ n ≤ 14 ∧ OwnT w' w.heap.size a n c vs f ∧ Src w' b ∧ w.grownBy w' (some b)
theorem OwnT.head {w : World} {lo : Nat} {a : Option Addr} {n c : Nat} {vs : List SV} {f : List (List Int)} (h : OwnT w lo a n c vs f) (hn : 0 < n) : ∃ g, a = some ⟨g, 0, none⟩ := by
  rcases h.block with ⟨_, e, _⟩ | ⟨g, cur, e, _⟩
  · omega
  · exact ⟨g, e⟩
theorem OwnT.swapRow {w w' : World} {lo ga n c : Nat} {vs : List SV} {xss : List (List Int)} (h : OwnT w lo (some ⟨ga, 0, none⟩) n c vs xss) (i : Nat) (hi : i < n) {row : Option Nat} (hg : w.grownBy w' row) (hr : ∀ g, row = some g → (vs.getD i svO).1 = some ⟨g, 0, none⟩)
    {v : SV} {ys : List Int} (ho : Own w' lo v.1 v.2.1 v.2.2 ys) (hat : ∀ g, v.1 = some ⟨g, 0, none⟩ → (vs.getD i svO).1 = some ⟨g, 0, none⟩ ∨ w.heap.size ≤ g) :
    OwnT (w'.setCell ⟨ga, i, none⟩ (.slice v.1 v.2.1 v.2.2)) lo (some ⟨ga, 0, none⟩) n c (vs.set i v) (xss.set i ys) := by
  have hl := h.len
  have hv := h.vlen
  have hga : ∀ j, j < n → ∀ g', (vs.getD j svO).1 = some ⟨g', 0, none⟩ → g' ≠ ga := fun j hj g' hg' e => by subst e; exact h.ap j hj g' rfl hg'
  have hgs : ga < w.heap.size := h.high ga rfl
  have v1 : v.1 ≠ some ⟨ga, 0, none⟩ := fun e => by
    rcases hat ga e with q | q
    · exact hga i hi ga q rfl
    · omega
  have v2 : ∀ j, j < n → j ≠ i → Apart v.1 (vs.getD j svO).1 := fun j hj ne g e1 e2 => by
    rcases hat g e1 with q | q
    · exact h.pw i j hi hj (Ne.symm ne) g q e2
    · have := (h.row j hj).hi g e2; omega
  have keep : ∀ j, j < n → j ≠ i → Own w' lo (vs.getD j svO).1 (vs.getD j svO).2.1 (vs.getD j svO).2.2 (xss.getD j []) := fun j hj ne => (h.row j hj).grown hg fun g e q => h.pw j i hj hi ne g e (hr g q.symm)
  rcases h.block with ⟨h1, _⟩ | ⟨g', cur, e1, e2, e3, e4, e5, e6, e7⟩
  · cases h1
  cases e1
  have e3' : Loc w' ga cur 27 := e3.grown hg fun q => hga i hi ga (hr ga q.symm) rfl
  refine ⟨by simp [hl], by simp [hv], ?_, fun j hj => ?_, fun j hj => ?_, fun j k hj hk hjk => ?_⟩
  · refine ownsRow_mk (by simp [hv]) e2 (e3'.set i _) e4 e5 (by simpa using e6) ?_
    rw [Array.toList_setIfInBounds, List.take_set, e7, List.map_set]; rfl
  · rw [getD_set' _ _ _ _ _ (by omega), getD_set' _ _ _ _ _ (by omega)]
    by_cases e : j = i
    · rw [if_pos e, if_pos e]; exact ho.setne (fun g' hg' e => v1 (by rw [hg']; subst e; rfl)) _
    · rw [if_neg e, if_neg e]; exact (keep j hj e).setne (fun g' hg' => hga j hj g' hg') _
  · rw [getD_set' _ _ _ _ _ (by omega)]
    by_cases e : j = i
    · rw [if_pos e]; intro g' hg' hv'; cases hg'; exact v1 hv'
    · rw [if_neg e]; exact h.ap j hj
  · rw [getD_set' _ _ _ _ _ (by omega), getD_set' _ _ _ _ _ (by omega)]
    by_cases e : j = i
    · rw [if_pos e, if_neg (by omega)]; exact v2 k hk (by omega)
    · rw [if_neg e]
      by_cases e' : k = i
      · rw [if_pos e']; exact (v2 j hj e).symm
      · rw [if_neg e']; exact h.pw j k hj hk hjk
set_option maxHeartbeats 16000000 in
theorem l01Bad_ok (b n : Nat) (w : World) (h : Src w b) (h1 : 1 ≤ n) (hn : n ≤ 12) :
    Calls Tryz.prog 121 #[.pointer (some ⟨b, 0, none⟩), .int .i64 n] w (TbA b w) := by
  have hlt := h.lt
  go_enter Tryz.func121, Tryz.ntmps121
  go_wp2_with fail
  refine (l01Tables_ok b n _ h h1 (by omega)).mono ?_
  rintro e w1 ⟨a1, c1, vs1, f, rfl, sf, ho1, hs1, hg1⟩
  have hz1 := hg1.size
  go_wp2_with fail
  refine (l01Next_ok b 30 _ hs1 ⟨by omega, by omega⟩).mono ?_
  rintro e w2 ⟨x, rfl, _, hx, hs2, hg2⟩
  obtain ⟨hx1, hx2⟩ := hx (by omega)
  have ho2 := ho1.grownS hg2 hlt
  have hG2 := grown_trans hg1 hg2
  have hz2 := hg2.size
  clear hx ho1 hs1 hg1 hg2
  obtain ⟨ga, rfl⟩ := ho2.head (by omega)
  have hga := ho2.low ga rfl
  have HSF := Lib.hid sf
  clear sf
  by_cases x0 : x = 0
  · subst x0
    go_wp2_with fail
    refine (l01Unit_any n _ (by omega)).mono ?_
    rintro e w3 ⟨a3, c3, rfl, ho3, hb3⟩
    have hz3 := hb3.size
    have hO3 := ho2.below hb3
    have HH := Lib.hid ho2.uHi
    go_wp2_with (at_builtin; refine appT1g rfl rfl hO3 rfl (ho3.mono (by omega)) (fun g h1 h2 => by have h3 := HH.out _ (.inl h1); have h4 := ho3.lo _ h2; omega) (fun i hi g h1 h2 => by have h3 := ho3.lo _ h1; have h4 := HH.out _ (.inr ⟨i, hi, h2⟩); omega) rfl (by omega) (by omega) ?_; intro g' cc w9 hO9 hg9 hat9 hb9)
    go_ret
    exact ⟨_, _, _, _, _, rfl, by omega, hO9, (hs2.below hb3).keepB hb9 hlt, grown_below (grown_trans hG2 (grown_of_below hb3 (some b))) hb9 (Nat.le_refl _)⟩
  by_cases x1 : x = 1
  · subst x1
    obtain ⟨g0, hg0⟩ := (ho2.row 0 (by omega)).headS (by have := (ho2.row 0 (by omega)).len; rw [HSF.out.row (by omega)] at this; omega)
    have hr0 := ho2.row 0 (by omega)
    rw [hg0] at hr0
    have c0 := ho2.cells (by omega)
    obtain ⟨_, e0, e0lt, c0, f0⟩ := c0
    cases e0
    have c00 := c0 0 (by omega)
    have f00 := f0 0
    rw [hg0] at c00
    obtain ⟨M0, hM0⟩ : ∃ M0, (vs1.getD 0 svO).2.1 = M0 := ⟨_, rfl⟩
    obtain ⟨C0, hC0⟩ : ∃ C0, (vs1.getD 0 svO).2.2 = C0 := ⟨_, rfl⟩
    rw [hM0, hC0] at c00 hr0
    have hMn : M0 = n := by have := hr0.len; rw [HSF.out.row (by omega)] at this; exact this
    subst hMn
    have HAP := Lib.hid (fun j hj => ho2.pw 0 j (by omega) hj)
    have hne0 : g0 ≠ ga := fun e => by subst e; exact ho2.ap 0 (by omega) _ rfl hg0
    have hO0 := ho2
    have hrow0 : ((vs1.getD 0 svO).1, (vs1.getD 0 svO).2.1, (vs1.getD 0 svO).2.2) = (some ⟨g0, 0, none⟩, M0, C0) := by rw [hg0, hM0, hC0]
    have HR0 := Lib.hid hg0
    clear hM0 hC0 hrow0 hg0
    have HO2 := Lib.hid ho2
    have HLen := Lib.hid ho2.len
    clear ho2
    go_wp2_with (at_builtin; refine app1h rfl rfl hr0 rfl rfl (by omega) (by omega) ?_; intro g' cc w9 hO9 hg9 hat9 hb9; have c9 : w9.cell? ⟨ga, 0, none⟩ = some (.slice (some ⟨g0, 0, none⟩) M0 C0) := (World.cell?_of_block (hg9.block ga e0lt (by simp [Value.ownBlock]; omega))).trans c00; have f9 : w9.frozen? ⟨ga, 0, none⟩ = false := (World.frozen?_of_block (hg9.block ga e0lt (by simp [Value.ownBlock]; omega))).trans f00)
    go_ret
    have hob : (Value.slice (some ⟨g0, 0, none⟩) M0 C0).ownBlock = some g0 := rfl
    rw [hob] at hat9 hg9
    have hnew := HO2.out.swapRow 0 (by omega) hg9 (fun g e => by cases e; exact HR0.out) (v := (some ⟨g', 0, none⟩, M0 + 1, cc)) hO9 (fun g e => by
      cases e
      rcases hat9 with e | e
      · cases e; exact .inl HR0.out
      · exact .inr e)
    exact ⟨_, _, _, _, _, rfl, by omega, hnew, (hs2.keepB hb9 hlt).setne (by show b < ga; omega) _, grown_set (grown_below hG2 hb9 (Nat.le_refl _)) (.inr hga) _⟩
  by_cases x2 : x = 2
  · subst x2
    obtain ⟨g0, hg0⟩ := (ho2.row 0 (by omega)).headS (by have := (ho2.row 0 (by omega)).len; rw [HSF.out.row (by omega)] at this; omega)
    have hr0 := ho2.row 0 (by omega)
    rw [hg0] at hr0
    obtain ⟨_, e0, e0lt, c0, f0⟩ := ho2.cells (by omega)
    cases e0
    have c00 := c0 0 (by omega)
    rw [hg0] at c00
    obtain ⟨M0, hM0⟩ : ∃ M0, (vs1.getD 0 svO).2.1 = M0 := ⟨_, rfl⟩
    obtain ⟨C0, hC0⟩ : ∃ C0, (vs1.getD 0 svO).2.2 = C0 := ⟨_, rfl⟩
    rw [hM0, hC0] at c00 hr0
    have hMn : M0 = n := by have := hr0.len; rw [HSF.out.row (by omega)] at this; exact this
    subst hMn
    have d00 := hr0.cells.2.1 0 (by omega)
    have k00 := hr0.cells.2.2 0
    have hl0 := hr0.lo g0 rfl
    have hh0 := hr0.hi g0 rfl
    have HG0 := Lib.hid hg0
    have HR := Lib.hid hr0
    have hne0 : g0 ≠ ga := fun e => by subst e; exact ho2.ap 0 (by omega) _ rfl hg0
    have hM1 : (0 : Int) < (M0 : Int) := by omega
    have hM2 : 0 < M0 := by omega
    clear hg0 c0 f0 hM0 hC0 hr0
    go_upto_region 8 with fail
    go_region_held3 (fun v => v.cell? ⟨ga, 0, none⟩ = some (.slice (some ⟨g0, 0, none⟩) M0 C0))
      (first | exact c7 | exact c6 | exact c00 | go_keep)
      (first | (go_at_call 39; refine (l01Pick_ok b _ _ _ [-1, (M0 : Int), 1099511627776] _ (hs2.below (below_al (Below.refl _ _) _).drew) (pick3d w2 (-1) M0 1099511627776 _) (by decide) (by decide) (fun g o e => by cases e; simp; omega)).mono ?_; rintro e w3 ⟨y, rfl, hy, hs3, hg3⟩; have ho3 := ((ho2.alloc (.cells #[.int .i64 (-1), .int .i64 M0, .int .i64 1099511627776] 2)).drewN 1).grownS hg3 hlt; have hG3 := grown_trans (grown_drewN (grown_alloc hG2 (.cells #[.int .i64 (-1), .int .i64 M0, .int .i64 1099511627776] 2)) 1) hg3; have hrr := ((HR.out.alloc (.cells #[.int .i64 (-1), .int .i64 M0, .int .i64 1099511627776] 2)).drewN 1).grown hg3 (fun g e => by cases e; simp; omega); have d3 := hrr.cells.2.1 0 (by omega); have k3 := hrr.cells.2.2 0; have c6 : w3.cell? ⟨ga, 0, none⟩ = some (.slice (some ⟨g0, 0, none⟩) M0 C0) := (World.cell?_of_block (hg3.block ga (by simp; omega) (by simp; omega))).trans ((World.cell?_of_block (((Below.refl w2.heap.size w2).alloc (Nat.le_refl _) (.cells #[.int .i64 (-1), .int .i64 M0, .int .i64 1099511627776] 2)).block ga e0lt)).trans c00); have c7 : (w3.setCell ⟨g0, 0, none⟩ (.int .i64 y)).cell? ⟨ga, 0, none⟩ = some (.slice (some ⟨g0, 0, none⟩) M0 C0) := cell_setne c6 (by show ga ≠ g0; omega) _))
    all_goals
      go_wp2
      go_ret
      exact ⟨_, _, _, _, _, rfl, by omega, ho3.setrow 0 (by omega) HG0.out 0 y, hs3.setne (by show b < g0; omega) _, grown_set hG3 (.inr hl0) _⟩
  by_cases x3 : x = 3
  · subst x3
    go_wp2
    go_ret
    have hO3 := OwnT.fresh w2 rfl
    exact ⟨_, 0, _, _, _, rfl, by omega, hO3.mono (by omega), hs2.below (below_al (Below.refl _ _) _), grown_alloc hG2 _⟩
  by_cases x4 : x = 4
  · subst x4
    go_wp2_with fail
    refine (l01Tables_ok b 13 _ hs2 (by omega) (by omega)).mono ?_
    rintro e w3 ⟨a3, c3, vs3, f3, rfl, sf3, ho3, hs3, hg3⟩
    go_wp2
    go_ret
    exact ⟨_, 13, _, _, _, rfl, by omega, ho3.mono (by omega), hs3, grown_trans hG2 hg3⟩
  have q0 : (x == 0) = false := by simpa using x0
  have q1 : (x == 1) = false := by simpa using x1
  have q2 : (x == 2) = false := by simpa using x2
  have q3 : (x == 3) = false := by simpa using x3
  have q4 : (x == 4) = false := by simpa using x4
  go_wp2
  go_ret
  exact ⟨_, _, _, _, _, rfl, by omega, ho2, hs2, hG2⟩
def SpD (b : Nat) (w : World) (e : Ending) (w' : World) : Prop :=
  ∃ (a : Option Addr) (n c : Nat) (vs : List SV) (f : List (List Int)) (a' : Option Addr) (n' c' : Nat) (vs' : List SV) (g : List (List Int)), e = .returned (sAgg a n c a' n' c') ∧ n ≤ 14 ∧ n' ≤ 14 ∧ OwnT w' w.heap.size a n c vs f ∧ OwnT w' w.heap.size a' n' c' vs' g ∧ Src w' b ∧ w.grownBy w' (some b)
theorem spl_ret {w w6 : World} {b n n' : Nat} {a a' : Option Addr} {c c' : Nat} {vs vs' : List SV} {f g : List (List Int)} (h1 : OwnT w6 (w.heap.size + 1) a n c vs f) (h2 : OwnT w6 (w.heap.size + 1) a' n' c' vs' g) (hn : n ≤ 14) (hn' : n' ≤ 14) (hs : Src w6 b) (hb : b < w.heap.size) (hg : w.grownBy w6 (some b)) :
    SpD b w (.returned (sAgg a n c a' n' c')) ((w6.setCell ⟨w.heap.size, 0, none⟩ (.slice a n c)).setCell ⟨w.heap.size, 1, none⟩ (.slice a' n' c')) :=
  ⟨a, n, c, vs, f, a', n', c', vs', g, rfl, hn, hn', ((h1.setlo (by simp) _).setlo (by simp) _).mono (by omega), ((h2.setlo (by simp) _).setlo (by simp) _).mono (by omega), (hs.setne (by simpa using hb) _).setne (by simpa using hb) _, grown_set (grown_set hg (.inr (by simp)) _) (.inr (by simp)) _⟩
set_option maxHeartbeats 16000000 in
theorem l02Spoil_ok (M b : Nat) (w : World) (h : Src w b) (h1 : 1 ≤ M) (hM : M ≤ 12) :
    Calls Tryz.prog 76 #[.pointer (some ⟨b, 0, none⟩), .int .i64 M] w (SpD b w) := by
  have hlt := h.lt
  have hR := Loc.new w rfl #[.slice none 0 0, .slice none 0 0] 26
  go_enter Tryz.func76, Tryz.ntmps76
  go_wp2_with fail
  refine (l02Draw_ok M b _ (h.below (below_al (Below.refl _ _) _)) h1 hM).mono ?_
  rintro e w1 ⟨n, n1, nM, a1, c1, vs1, f, a1', c1', vs1', g, rfl, ho1, sf, sg, hs1, hg1⟩
  have hR1 := hR.grown hg1 (by simp; omega)
  have hG1 := grown_trans (World.grownBy_alloc w (.cells #[.slice none 0 0, .slice none 0 0] 26) (some b)) hg1
  have hz1 := hR1.lt
  obtain ⟨w2, hw2⟩ : ∃ w2, w1.alloc (.cells #[.slice a1 n c1, .slice a1' n c1'] 26) = w2 := ⟨_, rfl⟩
  have hb2 : Below w1.heap.size w1 w2 := by rw [← hw2]; exact below_al (Below.refl _ _) _
  have hO2 : Loc w2 w1.heap.size #[.slice a1 n c1, .slice a1' n c1'] 26 := by rw [← hw2]; exact Loc.new w1 rfl _ _
  have lO2 := (Loc.new w1 rfl #[.slice a1 n c1, .slice a1' n c1'] 26).two
  have hR2 := hR1.below hb2 hz1
  have hs2 := hs1.below hb2
  have hG2 := grown_trans hG1 (grown_of_below hb2 (some b))
  have ho2 := (ho1.below hb2).mono (lo' := w.heap.size + 1) (by simp)
  have HFH : Hid (∀ q, TblS a1 n vs1 q → q < w1.heap.size) := Lib.hid ho1.f.uHi
  have HGH : Hid (∀ q, TblS a1' n vs1' q → q < w1.heap.size) := Lib.hid ho1.s.uHi
  have HW2 := Lib.hid hw2
  have SF := Lib.hid sf; have SG := Lib.hid sg
  clear hw2 ho1 hR hR1 hG1 hs1 hg1 sf sg
  go_wp2_with fail
  rw [HW2.out]
  clear lO2
  refine (l01Next_ok b 24 _ hs2 ⟨by omega, by omega⟩).mono ?_
  rintro e w3 ⟨x, rfl, _, hx, hs3, hg3⟩
  obtain ⟨hx1, hx2⟩ := hx (by omega)
  clear hx
  have hR3 := hR2.grown hg3 (by simp; omega)
  have hO3 := hO2.grown hg3 (by simp; omega)
  have hG3 := grown_trans hG2 hg3
  have ho3 := ho2.grownb hg3 (by omega)
  have hO3l := hO3.lt
  have hR3l := hR3.lt
  clear hR2 hO2 hG2 ho2 hs2 hb2 hg3
  obtain ⟨hf3, hs3', hap3⟩ := ho3
  have HAP := Lib.hid hap3
  clear hap3
  have lO := hO3.two
  have hn64 : (1 : Int) ≤ (n : Int) := by omega
  by_cases x0 : x = 0
  · subst x0
    obtain ⟨ga, rfl⟩ := hf3.head (by omega)
    have hga := hf3.low ga rfl
    have hgah := HFH.out ga (.inl rfl)
    have tok1 : True := trivial
    go_upto_region 5 with fail
    go_region_held3 (fun v => v.cell? ⟨w1.heap.size, 0, none⟩ = some (.slice (some ⟨ga, 0, none⟩) n c1))
      (first | exact k7 | exact k6 | exact k5 | exact lO.1 | go_keep)
      (first
        | (go_at_call 36; have _t := tok1; refine (l01Next_ok b (n : Int) _ (hs3.below (below_drewN (Below.refl _ _) 1)) ⟨by omega, by omega⟩).mono ?_; rintro e w5 ⟨y, rfl, _, hy, hs5, hg5'⟩; clear _t tok1; have tok2 : True := trivial; obtain ⟨hy1, hy2⟩ := hy (by omega); obtain ⟨Y, rfl⟩ : ∃ Y : Nat, y = Y := ⟨y.toNat, by omega⟩; have hg5 : w3.grownBy w5 (some b) := grown_trans (grown_of_below (below_drewN (Below.refl _ _) 1) (some b)) hg5'; have hO5 := hO3.grown hg5 (by simp; omega); have k5 := hO5.two.1; have hz5 := hg5.size)
        | (go_at_call 119; have _t := tok2; refine (l01Draw_ok b n _ hs5 n1 (by omega)).mono ?_; rintro e w6 ⟨a6, c6, p, rfl, hp, ho6, hs6, hg6⟩; clear _t tok2; have hg36 := grown_trans hg5 hg6; have hO6 := hO3.grown hg36 (by simp; omega); have k6 := hO6.two.1; have hf6 := hf3.grownS hg36 (by omega); obtain ⟨_, e6, e6l, cc6, ff6⟩ := hf6.cells (by omega); cases e6; have c6y := cc6 Y (by omega); have f6y := ff6 Y; clear cc6 ff6; have k7 : (w6.setCell ⟨ga, Y, none⟩ (.slice a6 n c6)).cell? ⟨w1.heap.size, 0, none⟩ = some (.slice (some ⟨ga, 0, none⟩) n c1) := cell_setne k6 (by show w1.heap.size ≠ ga; omega) _))
    all_goals
      have hs36 := hs3'.grownS hg36 (by omega)
      have hz36 := hg36.size
      have hnew := hf6.put Y (by omega) (v := (a6, n, c6)) (ho6.mono (by omega)) (fun e => by have := ho6.lo ga e; omega) (fun j hj _ g e1 e2 => by have h3 := ho6.lo g e1; have h4 := HFH.out g (.inr ⟨j, hj, e2⟩); omega)
      have hsn := hs36.keep (w' := w6.setCell ⟨ga, Y, none⟩ (.slice a6 n c6)) (fun g hg _ => Below.heap_setCell _ _ _ _ (fun e => by subst e; exact HAP.out _ (.inl rfl) hg))
      have hO7 := hO6.setne (a := ⟨ga, Y, none⟩) (by show w1.heap.size ≠ ga; omega) (.slice a6 n c6)
      have hR7 := (hR3.grown hg36 (by simp; omega)).setne (a := ⟨ga, Y, none⟩) (by show w.heap.size ≠ ga; omega) (.slice a6 n c6)
      have hs7 := hs6.setne (p := ⟨ga, Y, none⟩) (by show b < ga; omega) (.slice a6 n c6)
      have hG7 := grown_set (p := ⟨ga, Y, none⟩) (grown_trans hG3 hg36) (.inr (by show w.heap.size ≤ ga; omega)) (.slice a6 n c6)
      have lO := hO7.two
      have lR := hR7.two
      go_wp2
      exact bodyPost_ret (v := sAgg (some ⟨ga, 0, none⟩) n c1 a1' n c1') (by simp [results, Tryz.results76, go_sem, lR, lO]) rfl (spl_ret hnew hsn (by omega) (by omega) hs7 hlt hG7)
  by_cases x1 : x = 1
  · subst x1
    obtain ⟨ga, rfl⟩ := hs3'.head (by omega)
    have hga := hs3'.low ga rfl
    have hgah := HGH.out ga (.inl rfl)
    have ROW : Hid (∀ Y, Y < n → ∃ gr cr, vs1'.getD Y svO = (some ⟨gr, 0, none⟩, n, cr) ∧ w.heap.size + 1 ≤ gr ∧ gr < w1.heap.size) := Lib.hid fun Y hY => by
      have hr := hs3'.row Y hY
      have hl := hr.len
      rw [SG.out.row hY] at hl
      obtain ⟨gr, hgr⟩ := hr.headS (by omega)
      exact ⟨gr, _, Prod.ext hgr (Prod.ext hl rfl), hr.lo gr hgr, HGH.out gr (.inr ⟨Y, hY, hgr⟩)⟩
    go_upto_region 7 with fail
    go_region_law (go_simp; go_at_call 36; refine (l01Next_ok b (n : Int) _ (hs3.below (below_drewN (Below.refl _ _) 1)) ⟨by omega, by omega⟩).mono ?_; rintro e w5 ⟨y, rfl, _, hy, hs5, hg5'⟩; obtain ⟨hy1, hy2⟩ := hy (by omega); obtain ⟨Y, rfl⟩ : ∃ Y : Nat, y = Y := ⟨y.toNat, by omega⟩; have hg5 : w3.grownBy w5 (some b) := grown_trans (grown_of_below (below_drewN (Below.refl _ _) 1) (some b)) hg5'; have hO5 := hO3.grown hg5 (by simp; omega); have k5 := hO5.two.2.1; have hz5 := hg5.size; have h5 := hs3'.grownS hg5 (by omega); obtain ⟨gr, cr, er, hgr, hgrh⟩ := ROW.out Y (by omega); obtain ⟨_, e6, e6l, cc6, _⟩ := h5.cells (by omega); cases e6; have c6y := cc6 Y (by omega); rw [er] at c6y; clear cc6)
    all_goals
      have hf5 := hf3.grownS hg5 (by omega)
      have hR5 := hR3.grown hg5 (by simp; omega)
      have hG5 := grown_trans hG3 hg5
      have ER := Lib.hid er
      clear er
      go_wp2_with fail
      refine (l01Next_ok b (n : Int) _ hs5 ⟨by omega, by omega⟩).mono ?_
      rintro e w6 ⟨y2, rfl, _, hy', hs6, hg6⟩
      obtain ⟨hy3, hy4⟩ := hy' (by omega)
      obtain ⟨J, rfl⟩ : ∃ J : Nat, y2 = J := ⟨y2.toNat, by omega⟩
      have h6 := h5.grownS hg6 (by omega)
      have hf6 := hf5.grownS hg6 (by omega)
      have hO6 := hO5.grown hg6 (by simp; omega)
      have hR6 := hR5.grown hg6 (by simp; omega)
      have hG6 := grown_trans hG5 hg6
      have hz6 := hg6.size
      clear h5 hf5 hO5 hR5 hG5 hg6 hs5 hy'
      go_wp2_with fail
      refine (l01Next_ok b (n : Int) _ hs6 ⟨by omega, by omega⟩).mono ?_
      rintro e w7 ⟨z, rfl, _, _, hs7, hg7⟩
      have h7 := h6.grownS hg7 (by omega)
      have hf7 := hf6.grownS hg7 (by omega)
      have hO7 := hO6.grown hg7 (by simp; omega)
      have hR7 := hR6.grown hg7 (by simp; omega)
      have hG7 := grown_trans hG6 hg7
      clear h6 hf6 hO6 hR6 hG6 hg7 hs6
      have hrr := h7.row Y (by omega)
      rw [ER.out] at hrr
      have d7 := hrr.cells.2.1 J (show J < n by omega)
      have k7 := hrr.cells.2.2 J
      clear hrr
      have h8 := h7.setrow Y (by omega) (g := gr) (by rw [ER.out]) J z
      have hf8 := hf7.keep (w' := w7.setCell ⟨gr, J, none⟩ (.int .i64 z)) (fun g hg _ => Below.heap_setCell _ _ _ _ (fun e => by subst e; exact HAP.out _ hg (.inr ⟨Y, by omega, by rw [ER.out]⟩)))
      have hO8 := hO7.setne (a := ⟨gr, J, none⟩) (by show w1.heap.size ≠ gr; omega) (.int .i64 z)
      have hR8 := hR7.setne (a := ⟨gr, J, none⟩) (by show w.heap.size ≠ gr; omega) (.int .i64 z)
      have hs8 := hs7.setne (p := ⟨gr, J, none⟩) (by show b < gr; omega) (.int .i64 z)
      have hG8 := grown_set (p := ⟨gr, J, none⟩) hG7 (.inr (by show w.heap.size ≤ gr; omega)) (.int .i64 z)
      have lO := hO8.two
      have lR := hR8.two
      go_wp2
      exact bodyPost_ret (v := sAgg a1 n c1 (some ⟨ga, 0, none⟩) n c1') (by simp [results, Tryz.results76, go_sem, lR, lO]) rfl (spl_ret hf8 h8 (by omega) (by omega) hs8 hlt hG8)
  by_cases x2 : x = 2
  · subst x2
    go_wp2_with fail
    refine (l01Tables_ok b n _ hs3 n1 (by omega)).mono ?_
    rintro e w4 ⟨a4, c4, vs4, f4, rfl, sf4, ho4, hs4, hg4⟩
    have hO4 := hO3.grown hg4 (by simp; omega)
    have hR4 := hR3.grown hg4 (by simp; omega)
    have hz4 := hg4.size
    have lO := hO4.two
    go_wp2_with fail
    refine (l01Tables_ok b n _ hs4 n1 (by omega)).mono ?_
    rintro e w5 ⟨a5, c5, vs5, f5, rfl, sf5, ho5, hs5, hg5⟩
    have hO5 := hO4.grown hg5 (by simp; omega)
    have hR5 := hR4.grown hg5 (by simp; omega)
    have hz5 := hg5.size
    have hO6 := (hO5.set 0 (.slice a4 n c4)).set 1 (.slice a5 n c5)
    have hR6 := (hR5.setne (a := ⟨w1.heap.size, 0, none⟩) (by show w.heap.size ≠ w1.heap.size; omega) (.slice a4 n c4)).setne (a := ⟨w1.heap.size, 1, none⟩) (by show w.heap.size ≠ w1.heap.size; omega) (.slice a5 n c5)
    have h46 := (((ho4.grownS hg5 (by omega)).setlo (p := ⟨w1.heap.size, 0, none⟩) (by show w1.heap.size < w3.heap.size; omega) (.slice a4 n c4)).setlo (p := ⟨w1.heap.size, 1, none⟩) (by show w1.heap.size < w3.heap.size; omega) (.slice a5 n c5)).mono (lo' := w.heap.size + 1) (by omega)
    have h56 := ((ho5.setlo (p := ⟨w1.heap.size, 0, none⟩) (by show w1.heap.size < w4.heap.size; omega) (.slice a4 n c4)).setlo (p := ⟨w1.heap.size, 1, none⟩) (by show w1.heap.size < w4.heap.size; omega) (.slice a5 n c5)).mono (lo' := w.heap.size + 1) (by omega)
    have hs6 := (hs5.setne (p := ⟨w1.heap.size, 0, none⟩) (by show b < w1.heap.size; omega) (.slice a4 n c4)).setne (p := ⟨w1.heap.size, 1, none⟩) (by show b < w1.heap.size; omega) (.slice a5 n c5)
    have hG6 := grown_set (p := ⟨w1.heap.size, 1, none⟩) (grown_set (p := ⟨w1.heap.size, 0, none⟩) (grown_trans (grown_trans hG3 hg4) hg5) (.inr (by show w.heap.size ≤ w1.heap.size; omega)) (.slice a4 n c4)) (.inr (by show w.heap.size ≤ w1.heap.size; omega)) (.slice a5 n c5)
    have lO := hO5.two
    have lO6 := hO6.two
    have lR := hR6.two
    go_wp2
    exact bodyPost_ret (v := sAgg a4 n c4 a5 n c5) (by simp [results, Tryz.results76, go_sem, lR, lO6]) rfl (spl_ret h46 h56 (by omega) (by omega) hs6 hlt hG6)
  by_cases x3 : x = 3
  · subst x3
    go_wp2_with fail
    refine (l01Bad_ok b n _ hs3 n1 (by omega)).mono ?_
    rintro e w4 ⟨a4, n4, c4, vs4, f4, rfl, hn4, ho4, hs4, hg4⟩
    have hO4 := hO3.grown hg4 (by simp; omega)
    have hR4 := hR3.grown hg4 (by simp; omega)
    have hz4 := hg4.size
    have hO5 := hO4.set 1 (.slice a4 n4 c4)
    have hR5 := hR4.setne (a := ⟨w1.heap.size, 1, none⟩) (by show w.heap.size ≠ w1.heap.size; omega) (.slice a4 n4 c4)
    have h45 := (ho4.setlo (p := ⟨w1.heap.size, 1, none⟩) (by show w1.heap.size < w3.heap.size; omega) (.slice a4 n4 c4)).mono (lo' := w.heap.size + 1) (by omega)
    have h35 := (hf3.grownS hg4 (by omega)).keep (w' := w4.setCell ⟨w1.heap.size, 1, none⟩ (.slice a4 n4 c4)) (fun g hg _ => Below.heap_setCell _ _ _ _ (fun e => by have := HFH.out g hg; simp at e; omega))
    have hs5 := hs4.setne (p := ⟨w1.heap.size, 1, none⟩) (by show b < w1.heap.size; omega) (.slice a4 n4 c4)
    have hG5 := grown_set (p := ⟨w1.heap.size, 1, none⟩) (grown_trans hG3 hg4) (.inr (by show w.heap.size ≤ w1.heap.size; omega)) (.slice a4 n4 c4)
    have lO := hO4.two
    have lO5 := hO5.two
    have lR := hR5.two
    go_wp2
    exact bodyPost_ret (v := sAgg a1 n c1 a4 n4 c4) (by simp [results, Tryz.results76, go_sem, lR, lO5]) rfl (spl_ret h35 h45 (by omega) (by omega) hs5 hlt hG5)
  by_cases x4 : x = 4
  · subst x4
    go_wp2_with fail
    refine (l01Bad_ok b n _ hs3 n1 (by omega)).mono ?_
    rintro e w4 ⟨a4, n4, c4, vs4, f4, rfl, hn4, ho4, hs4, hg4⟩
    have hO4 := hO3.grown hg4 (by simp; omega)
    have hR4 := hR3.grown hg4 (by simp; omega)
    have hz4 := hg4.size
    have hO5 := hO4.set 0 (.slice a4 n4 c4)
    have hR5 := hR4.setne (a := ⟨w1.heap.size, 0, none⟩) (by show w.heap.size ≠ w1.heap.size; omega) (.slice a4 n4 c4)
    have h45 := (ho4.setlo (p := ⟨w1.heap.size, 0, none⟩) (by show w1.heap.size < w3.heap.size; omega) (.slice a4 n4 c4)).mono (lo' := w.heap.size + 1) (by omega)
    have h35 := (hs3'.grownS hg4 (by omega)).keep (w' := w4.setCell ⟨w1.heap.size, 0, none⟩ (.slice a4 n4 c4)) (fun g hg _ => Below.heap_setCell _ _ _ _ (fun e => by have := HGH.out g hg; simp at e; omega))
    have hs5 := hs4.setne (p := ⟨w1.heap.size, 0, none⟩) (by show b < w1.heap.size; omega) (.slice a4 n4 c4)
    have hG5 := grown_set (p := ⟨w1.heap.size, 0, none⟩) (grown_trans hG3 hg4) (.inr (by show w.heap.size ≤ w1.heap.size; omega)) (.slice a4 n4 c4)
    have lO := hO4.two
    have lO5 := hO5.two
    have lR := hR5.two
    go_wp2
    exact bodyPost_ret (v := sAgg a4 n4 c4 a1' n c1') (by simp [results, Tryz.results76, go_sem, lR, lO5]) rfl (spl_ret h45 h35 (by omega) (by omega) hs5 hlt hG5)
  have q0 : (x == 0) = false := by simpa using x0
  have q1 : (x == 1) = false := by simpa using x1
  have q2 : (x == 2) = false := by simpa using x2
  have q3 : (x == 3) = false := by simpa using x3
  have q4 : (x == 4) = false := by simpa using x4
  have lR := hR3.two
  go_wp2
  exact bodyPost_ret (v := sAgg a1 n c1 a1' n c1') (by simp [results, Tryz.results76, go_sem, lR, lO]) rfl (spl_ret hf3 hs3' (by omega) (by omega) hs3 hlt hG3)
end Go.Proofs.YtpdgpgbgakinlaaGreat

namespace Go.Proofs.YtpdgpgbgakinlaaGreat
set_option linter.unusedVariables false
set_option linter.unusedSimpArgs false
set_option maxRecDepth 100000
open Go.RowKit
theorem below_grown {w0 w w' : World} {b : Nat} (h : Below w0.heap.size w0 w) (hg : w.grownBy w' (some b)) (hb : w0.heap.size ≤ b) : Below w0.heap.size w0 w' := h.grown hg h.size (fun k hk => by cases hk; exact hb)
end Go.Proofs.YtpdgpgbgakinlaaGreat

namespace Go.Proofs.YtpdgpgbgakinlaaGreat
set_option maxRecDepth 100000
set_option linter.unusedVariables false
set_option linter.unusedSimpArgs false
open Go.RowKit
def NmD (b : Nat) (w : World) (e : Ending) (w' : World) : Prop :=
  ∃ p : Int, e = .returned (.int .i64 p) ∧ -2 ≤ p ∧ p ≤ 13 ∧ Src w' b ∧ w.grownBy w' (some b)
set_option maxHeartbeats 4000000 in
theorem l18DrawModulus_ok (b : Nat) (w : World) (h : Src w b) :
    Calls Tryz.prog 78 #[.pointer (some ⟨b, 0, none⟩)] w (NmD b w) := by
  have hlt := h.lt
  go_enter Tryz.func78, Tryz.ntmps78
  go_wp2_with fail
  refine (l01Next_ok b 24 _ h ⟨by omega, by omega⟩).mono ?_
  rintro e w1 ⟨x, rfl, _, hx, hs1, hg1⟩
  have hz1 := hs1.lt
  by_cases x0 : x = 0
  · subst x0
    go_wp2_with fail
    refine (l01Pick_ok b _ _ _ [0, 13, -1] _ (hs1.below (below_al (Below.refl _ _) _)) (row_lit w1 _ _ _ rfl) (by decide) (by decide) (fun g o e => by cases e; omega)).mono ?_
    rintro e w2 ⟨q, rfl, hq, hs2, hg2⟩
    go_wp2
    go_ret
    have hq' : -2 ≤ q ∧ q ≤ 13 := by simp at hq; omega
    exact ⟨q, rfl, hq'.1, hq'.2, hs2, grown_trans (grown_alloc hg1 _) hg2⟩
  · have xb : (x == 0) = false := by simpa using x0
    go_wp2_with fail
    refine (l01Pick_ok b _ _ _ [2, 3, 2, 3, 4, 5, 1, 6] _ (hs1.below (below_al (Below.refl _ _) _)) (row_lit w1 _ _ _ rfl) (by decide) (by decide) (fun g o e => by cases e; omega)).mono ?_
    rintro e w2 ⟨q, rfl, hq, hs2, hg2⟩
    go_wp2
    go_ret
    have hq' : -2 ≤ q ∧ q ≤ 13 := by simp at hq; omega
    exact ⟨q, rfl, hq'.1, hq'.2, hs2, grown_trans (grown_alloc hg1 _) hg2⟩
end Go.Proofs.YtpdgpgbgakinlaaGreat

namespace Go.Proofs.YtpdgpgbgakinlaaGreat
set_option maxRecDepth 100000
set_option linter.unusedVariables false
set_option linter.unusedSimpArgs false
open Go.RowKit
set_option maxHeartbeats 4000000 in
theorem l14DrawList_ok (b N : Nat) (m : Int) (w : World) (h : Src w b) (hm : I64 m) (hN : N ≤ 1000000) :
    Calls Tryz.prog 37 #[.pointer (some ⟨b, 0, none⟩), .int .i64 N, .int .i64 m] w fun e w' => ∃ a c xs, e = .returned (.slice a N c) ∧ (1 ≤ m → ∀ x ∈ xs, 0 ≤ x ∧ x < m) ∧ (m < 1 → ∀ x ∈ xs, x = 0) ∧ Own w' w.heap.size a N c xs ∧ Src w' b ∧ w.grownBy w' (some b) := by
  have hlt := h.lt
  go_enter Tryz.func37, Tryz.ntmps37
  have hO := Own.fresh w rfl
  have hd := h.below (below_al (Below.refl w.heap.size w) (.cells #[] 2))
  have hG := World.grownBy_alloc w (.cells #[] 2) (some b)
  go_wp2
  go_loopw [1, 7] (fun z o wr => ∃ (j : Nat) (a : Option Addr) (c : Nat) (xs : List Int), j ≤ N ∧ z = .int .i64 ((N : Int) - (j : Int)) ∧ o = .slice a j c ∧ Hid ((1 ≤ m → ∀ x ∈ xs, 0 ≤ x ∧ x < m) ∧ (m < 1 → ∀ x ∈ xs, x = 0)) ∧ Own wr w.heap.size a j c xs ∧ Src wr b ∧ w.grownBy wr (some b)) (fun z _ _ => (intOf z).toNat)
  case atStart => exact ⟨0, _, 0, [], Nat.zero_le _, by go_num, rfl, Lib.hid ⟨fun _ x hx => (by cases hx), fun _ x hx => (by cases hx)⟩, hO, hd, hG⟩
  case round =>
    clear hO hd hG
    obtain ⟨j, a, c, xs, hj, rfl, rfl, HX, ho, hd, hG⟩ := hrel
    obtain ⟨V, rfl⟩ : ∃ V : World, V = wr := ⟨_, rfl⟩
    have hzV := hG.size
    obtain ⟨k, hk⟩ : ∃ k : Nat, (N : Int) - (j : Int) = (k : Int) := ⟨N - j, by omega⟩
    rw [hk]
    by_cases hlt2 : 0 < k
    · have hk0 : (0 : Int) < (k : Int) := by omega
      have hwk : IntKind.i64.wrap ((k : Int) - 1) = (k : Int) - 1 := IntWalk.i64_in _ (by omega)
      have HK := Lib.hid hk
      clear hk
      go_wp2_with fail
      refine (l01Next_ok b m _ hd hm).mono ?_
      rintro e w7 ⟨y, rfl, hy1, hy2, hd7, hg7⟩
      have ho7 := ho.grown hg7 (fun g e => by have := ho.lo g e; simp; omega)
      have hz7 := hg7.size
      have hG7 := grown_trans hG hg7
      have HY := Lib.hid (And.intro hy1 hy2)
      clear hy1 hy2 hd hG ho
      have hjb : j + 1 ≤ 1000000000000 := by have := HK.out; omega
      go_wp2_with (at_builtin; refine app1 rfl rfl ho7 rfl rfl hjb (by omega) ?_; intro g' cc w8 hO8 hg8 hs8 hb8)
      go_roundw
      case rel =>
        have hkk := HK.out
        refine ⟨j + 1, _, cc, _, by omega, by congr 1; omega, rfl, Lib.hid ⟨fun q x hx => ?_, fun q x hx => ?_⟩, hO8, hd7.keepB hb8 (by omega), grown_below hG7 hb8 (Nat.le_refl _)⟩
        · rcases List.mem_append.1 hx with hx | hx
          · exact HX.out.1 q x hx
          · rw [List.mem_singleton.1 hx]; exact HY.out.2 q
        · rcases List.mem_append.1 hx with hx | hx
          · exact HX.out.2 q x hx
          · rw [List.mem_singleton.1 hx]; exact HY.out.1 q
      case measure => simp [intOf]; omega
    · obtain rfl : k = 0 := by omega
      obtain rfl : j = N := by omega
      clear hk
      go_wp2
      go_ret
      exact ⟨_, c, xs, rfl, HX.out.1, HX.out.2, ho, hd, hG⟩
end Go.Proofs.YtpdgpgbgakinlaaGreat
