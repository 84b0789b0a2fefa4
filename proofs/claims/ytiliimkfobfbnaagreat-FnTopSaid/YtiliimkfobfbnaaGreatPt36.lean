/-
  Walks and plain laws of this seat, some texts in one.
  No condition but bounds on lengths.
-/
import Derived.Test.YtiliimkfobfbnaaGreatPt35
namespace Go.Proofs.YtiliimkfobfbnaaGreat
set_option maxRecDepth 100000
set_option linter.unusedVariables false
set_option linter.unusedSimpArgs false
open Go.RowKit
def TbX (w : World) (lo : Nat) (S : Nat → Prop) (a : Option Addr) (n : Nat) (F : List (List Int)) : Prop := ∀ w'' : World, (∀ g, lo ≤ g → g < w.heap.size → ¬ S g → w''.heap[g]? = w.heap[g]?) → Tbl w'' a n F
section
variable {w w' : World} {lo : Nat} {S : Nat → Prop} {a : Option Addr} {n : Nat} {F : List (List Int)}
theorem TbX.now (h : TbX w lo S a n F) : Tbl w a n F := h w fun _ _ _ _ => rfl
theorem TbX.below (h : TbX w lo S a n F) (hb : Below w.heap.size w w') : TbX w' lo S a n F := fun w'' hk => h w'' fun g h1 h2 h3 => (hk g h1 (Nat.lt_of_lt_of_le h2 hb.size) h3).trans (hb.block g h2)
theorem TbX.src {b : Nat} (h : TbX w lo S a n F) (hg : w.grownBy w' (some b)) (hb : b < lo) : TbX w' lo S a n F := fun w'' hk => h w'' fun g h1 h2 h3 => (hk g h1 (Nat.lt_of_lt_of_le h2 hg.size) h3).trans (hg.block g h2 (fun e => by cases e; omega))
theorem TbX.mono {lo' : Nat} (h : TbX w lo S a n F) (hl : lo' ≤ lo) : TbX w lo' S a n F := fun w'' hk => h w'' fun g h1 h2 h3 => hk g (by omega) h2 h3
theorem TbX.setlo (h : TbX w lo S a n F) {p : Addr} (hp : p.block < lo) (u : Value) : TbX (w.setCell p u) lo S a n F := fun w'' hk => h w'' fun g h1 h2 h3 => (hk g h1 (by rw [size_set]; exact h2) h3).trans (Below.heap_setCell _ _ _ _ (by omega))
theorem TbX.own {lo' c : Nat} {vs : List SV} (h : OwnT w lo' a n c vs F) (hl : lo ≤ lo') (hS : ∀ g, S g → ¬ TblS a n vs g) : TbX w lo S a n F := fun w'' hk => (h.keep (w' := w'') fun g h1 h2 => hk g (by have := h.uLo g h1; omega) h2 (fun e => hS g e h1)).tbl
theorem LstN.tbX {lo' : Nat} {vs : List SV} {L : List (List (List Int))} {aL : Option Addr} {N i : Nat} (h : LstN lo' w aL N vs L) (hi : i < N) (hl : lo ≤ lo') (hS : ∀ g, S g → g < lo') : TbX w lo S (vs.getD i svO).1 (vs.getD i svO).2.1 (L.getD i []) := fun w'' hk => ((h w'' fun g h1 h2 => hk g (by omega) h2 (fun e => by have := hS g e; omega)).el i hi).1
end
theorem LstN.src {w w' : World} {lo b n : Nat} {a : Option Addr} {vs : List SV} {L : List (List (List Int))} (h : LstN lo w a n vs L) (hg : w.grownBy w' (some b)) (hb : b < lo) : LstN lo w' a n vs L := fun w'' hk => h w'' fun g h1 h2 => (hk g h1 (Nat.lt_of_lt_of_le h2 hg.size)).trans (hg.block g h2 (fun e => by cases e; omega))
def BrDr (b most : Nat) (w : World) (e : Ending) (w' : World) : Prop := ∃ a1 n c1 vs f a2 c2 g, e = .returned (sAgg a1 n c1 a2 n c2) ∧ 1 ≤ n ∧ n ≤ most ∧ OwnT w' w.heap.size a1 n c1 vs f ∧ Sq n f ∧ TbX w' w.heap.size (TblS a1 n vs) a2 n g ∧ Sq n g ∧ Src w' b ∧ w.grownBy w' (some b)
theorem trnL_sqT {n : Nat} {f : List (List Int)} (h : Sq n f) : Sq n (trnL n f) := Sq.tab fun x y hx hy => h.lt hy hx
set_option maxHeartbeats 32000000 in
theorem l11Draw_of (b most : Nat) (w : World) (h : Src w b) (h1 : 1 ≤ most) (h8 : most ≤ 8) (HREC : Hid (8 ≤ most → ∀ (w : World) (m : Nat), (m = 4 ∨ m = 2) → Src w b → Calls Tryz.prog 91 #[.pointer (some ⟨b, 0, none⟩), .int .i64 m] w (BrDr b m w))) :
    Calls Tryz.prog 91 #[.pointer (some ⟨b, 0, none⟩), .int .i64 most] w (BrDr b most w) := by
  have hlt := h.lt
  have hs0 := h.below (below_al (Below.refl w.heap.size w) (.cells #[.slice none 0 0, .slice none 0 0] 26))
  have hR0 := Loc.new w rfl #[.slice none 0 0, .slice none 0 0] 26
  have hG0 := World.grownBy_alloc w (.cells #[.slice none 0 0, .slice none 0 0] 26) (some b)
  have hz0 : (w.alloc (.cells #[.slice none 0 0, .slice none 0 0] 26)).heap.size = w.heap.size + 1 := by simp
  obtain ⟨w0, hw0⟩ : ∃ w0, w.alloc (.cells #[.slice none 0 0, .slice none 0 0] 26) = w0 := ⟨_, rfl⟩
  rw [hw0] at hs0 hR0 hG0 hz0
  have HW0 := Lib.hid hw0; have HZ0 := Lib.hid hz0
  have FIN : Hid (∀ (V : World) (a1 : Option Addr) (n c1 : Nat) (vs : List SV) (f : List (List Int)) (a2 : Option Addr) (c2 : Nat) (g : List (List Int)), 1 ≤ n → n ≤ most → OwnT V (w.heap.size + 1) a1 n c1 vs f → Sq n f → TbX V (w.heap.size + 1) (TblS a1 n vs) a2 n g → Sq n g → Src V b → w.grownBy V (some b) → BrDr b most w (.returned (sAgg a1 n c1 a2 n c2)) ((V.setCell ⟨w.heap.size, 0, none⟩ (.slice a1 n c1)).setCell ⟨w.heap.size, 1, none⟩ (.slice a2 n c2))) := Lib.hid fun V a1 n c1 vs f a2 c2 g q1 q2 q3 q4 q5 q6 q7 q8 =>
    ⟨a1, n, c1, vs, f, a2, c2, g, rfl, q1, q2, ((q3.setlo (by show w.heap.size < w.heap.size + 1; omega) _).setlo (by show w.heap.size < w.heap.size + 1; omega) _).mono (by omega), q4, ((q5.setlo (by show w.heap.size < w.heap.size + 1; omega) _).setlo (by show w.heap.size < w.heap.size + 1; omega) _).mono (by omega), q6, (q7.setne (by show b < w.heap.size; exact hlt) _).setne (by show b < w.heap.size; exact hlt) _, grown_set (grown_set q8 (.inr (Nat.le_refl _)) _) (.inr (Nat.le_refl _)) _⟩
  clear h hw0 hz0
  go_enter Tryz.func91, Tryz.ntmps91
  go_wp2_with fail
  try rw [HW0.out]
  refine (l01Next_ok b 5 w0 hs0 ⟨by omega, by omega⟩).mono ?_
  rintro e w1 ⟨z, rfl, _, hz, hs1, hg1⟩
  obtain ⟨hz1, hz2⟩ := hz (by omega)
  have hR1 := hR0.grown hg1 (by simp; omega)
  have hG1 := grown_trans hG0 hg1
  have hw1 : w.heap.size + 1 ≤ w1.heap.size := by have := hg1.size; have := HZ0.out; omega
  clear hz hs0 hR0 hG0 hg1
  by_cases z0 : z = 0
  · have e0 : (z == 0) = true := by simp [z0]
    clear z0
    go_wp2_with fail
    refine (l10Draw_ok b most w1 hs1 h1 h8).mono ?_
    rintro e w2 ⟨a2, n, c2, vs2, f, rfl, hn1, hnm, ho2, hsq, hs2, hg2⟩
    have hR2 := hR1.grown hg2 (by simp; omega)
    have hG2 := grown_trans hG1 hg2
    have ho2 := ho2.mono hw1
    clear hs1 hR1 hG1 hg2
    go_wp2_with fail
    refine (l01Next_ok b 2 w2 hs2 ⟨by omega, by omega⟩).mono ?_
    rintro e w3 ⟨y, rfl, _, hy, hs3, hg3⟩
    have hR3 := hR2.grown hg3 (by simp; omega)
    have hG3 := grown_trans hG2 hg3
    have ho3 := ho2.src hg3 (by omega)
    have hw3 : w.heap.size + 1 ≤ w3.heap.size := by have := hG3.size; have := hR3.lt; omega
    have h3hi := ho3.uHi
    clear hy hs2 hR2 hG2 hg3 ho2
    by_cases y0 : y = 0
    · have e1 : (y == 0) = true := by simp [y0]
      clear y0
      go_wp2_with fail
      refine (l01Turn_any n a2 c2 f w3 ho3.tbl hsq hn1 (by omega)).mono ?_
      rintro e w4 ⟨a4, c4, vs4, rfl, ho4, hb4⟩
      have hR4 := hR3.below hb4 hR3.lt
      have hW := FIN.out w4 a2 n c2 vs2 f a4 c4 _ hn1 hnm (ho3.below hb4) hsq (TbX.own ho4 hw3 fun g h1 h2 => by have := h3hi g h1; have := ho4.uLo g h2; omega) (trnL_sqT hsq) (hs3.below hb4) (grown_below hG3 hb4 hG3.size)
      have lR := hR4.two
      go_wp2
      exact bodyPost_ret (v := sAgg a2 n c2 a4 n c4) (by simp [results, Tryz.results91, go_sem, lR]) rfl hW
    · have e1 : (y == 0) = false := by simp [y0]
      clear y0
      have hx : ∀ r ∈ f, r.length ≤ 1000000 := fun r hr => by
        obtain ⟨i, hi, rfl⟩ := List.getElem_of_mem hr
        have h9 := hsq.row (show i < n by rw [← hsq.1]; exact hi)
        rw [getD_atL hi] at h9; omega
      go_wp2_with fail
      refine (l01Own2_any a2 n c2 f w3 ho3.tbl (by omega) hx).mono ?_
      rintro e w4 ⟨a4, c4, vs4, rfl, ho4, hb4⟩
      have hR4 := hR3.below hb4 hR3.lt
      have hW := FIN.out w4 a2 n c2 vs2 f a4 c4 _ hn1 hnm (ho3.below hb4) hsq (TbX.own ho4 hw3 fun g h1 h2 => by have := h3hi g h1; have := ho4.uLo g h2; omega) hsq (hs3.below hb4) (grown_below hG3 hb4 hG3.size)
      have lR := hR4.two
      go_wp2
      exact bodyPost_ret (v := sAgg a2 n c2 a4 n c4) (by simp [results, Tryz.results91, go_sem, lR]) rfl hW
  have e0 : (z == 0) = false := by simp [z0]
  clear z0
  by_cases z1 : z = 1
  · have e1 : (z == 1) = true := by simp [z1]
    clear z1
    go_wp2
    go_loopw [6] (fun i wr => ∃ k : Nat, k ≤ 6 ∧ i = .int .i64 k ∧ Src wr b ∧ Loc wr w.heap.size #[.slice none 0 0, .slice none 0 0] 26 ∧ w.grownBy wr (some b)) (fun i _ => 6 - (intOf i).toNat)
    case atStart => exact ⟨0, Nat.zero_le _, rfl, hs1, hR1, hG1⟩
    case round =>
      clear hs1 hR1 hG1 hw1
      obtain ⟨k, hk, rfl, hsY, hRY, hGY⟩ := hrel
      obtain ⟨Y, rfl⟩ : ∃ Y : World, Y = wr := ⟨_, rfl⟩
      have hwY : w.heap.size + 1 ≤ Y.heap.size := by have := hGY.size; have := hRY.lt; omega
      by_cases hlt6 : k < 6
      · go_wp2_with fail
        refine (l01Next_ok b (most : Int) Y hsY ⟨by omega, by omega⟩).mono ?_
        rintro e w2 ⟨x, rfl, _, hx, hs2, hg2⟩
        obtain ⟨hx1, hx2⟩ := hx (by omega)
        obtain ⟨n, hn⟩ : ∃ n : Nat, 1 + x = (n : Int) := ⟨(1 + x).toNat, by omega⟩
        have hn1 : 1 ≤ n := by omega
        have hnm : n ≤ most := by omega
        have hwn : IntKind.i64.wrap (n : Int) = (n : Int) := IntWalk.i64_in _ ⟨by omega, by omega⟩
        have hR2 := hRY.grown hg2 (by simp; omega)
        have hG2 := grown_trans hGY hg2
        have hn0 : (0 : Int) ≤ (n : Int) := by omega
        clear hx
        go_wp2_with fail
        refine (l01Next_ok b (n : Int) w2 hs2 ⟨by omega, by omega⟩).mono ?_
        rintro e w3 ⟨x', rfl, _, hx, hs3, hg3⟩
        obtain ⟨hy1, hy2⟩ := hx (by omega)
        obtain ⟨q, rfl⟩ : ∃ q : Nat, x' = (q : Int) := ⟨x'.toNat, by omega⟩
        have hqn : q ≤ 12 := by omega
        have hR3 := hR2.grown hg3 (by simp; omega)
        have hG3 := grown_trans hG2 hg3
        have hw3 : w.heap.size + 1 ≤ w3.heap.size := by have := hG3.size; have := hR3.lt; omega
        clear hx hy1 hy2 hn hx1 hx2 hwn hg2 hg3 hs2 hR2 hG2
        go_wp2_with fail
        refine (l11Ring_any n q w3 hn1 (by omega) hqn).mono ?_
        rintro e w4 ⟨a1, c1, vs, a2, c2, vs2, rfl, hoS, hb4⟩
        have hs4 := hs3.below hb4
        have hR4 := hR3.below hb4 hR3.lt
        have hG4 := grown_below hG3 hb4 hG3.size
        have hP := Loc.new w4 rfl #[.slice a1 n c1, .slice a2 n c2] 26
        have hbA := below_al (Below.refl w4.heap.size w4) (.cells #[.slice a1 n c1, .slice a2 n c2] 26)
        have lP := hP.two
        have hRA := hR4.below hbA hR4.lt
        have lRA := hRA.two
        have hIS := l11Is_any a1 n c1 a2 n c2 (tabF n fun x y => ((cycV n x y : Nat) : Int)) (tabF n fun x y => ((ringV n q x y : Nat) : Int)) (w4.alloc (.cells #[.slice a1 n c1, .slice a2 n c2] 26)) (hoS.f.below hbA).tbl (hoS.s.below hbA).tbl (by omega) (by omega)
        obtain ⟨BB, HBB⟩ : ∃ B, Hid (isBrc (tabF n fun x y => ((cycV n x y : Nat) : Int)) (tabF n fun x y => ((ringV n q x y : Nat) : Int)) = B) := ⟨_, Lib.hid rfl⟩
        rw [HBB.out] at hIS
        go_wp2_with fail
        refine hIS.mono ?_
        rintro e w5 ⟨rfl, hb5⟩
        have hbA5 : Below w4.heap.size w4 w5 := hbA.trans (hb5.mono hbA.size)
        have hs5 := hs4.below hbA5
        have hR5 := hR4.below hbA5 hR4.lt
        have hG5 := grown_below hG4 hbA5 hG4.size
        have hP5 := hP.below hb5 hP.lt
        have hf5 := (hoS.f.below hbA5).mono hw3
        have hc5 := hoS.s.below hbA5
        have hap := hoS.ap
        clear hIS hb5 hbA lP hP lRA hRA hs4 hR4 hG4
        cases BB with
        | true =>
          have hW := FIN.out w5 a1 n c1 vs _ a2 c2 _ hn1 hnm hf5 (Sq.tab fun x y _ _ => Nat.mod_lt _ (by omega)) (TbX.own hc5 hw3 fun g h1 h2 => hap g h1 h2) (Sq.tab fun x y _ _ => Nat.mod_lt _ (by omega)) hs5 hG5
          have lR := hR5.two
          have lP5 := hP5.two
          go_wp2
          exact bodyPost_ret (v := sAgg a1 n c1 a2 n c2) (by simp [results, Tryz.results91, go_sem, lR]) rfl hW
        | false =>
          go_wp2
          go_roundw
          case rel => exact ⟨k + 1, by omega, by go_num, hs5, hR5, hG5⟩
          case measure => simp [intOf]; omega
      · obtain rfl : k = 6 := by omega
        by_cases h7 : (most : Int) ≤ 7
        · go_wp2_with fail
          refine (l01Next_ok b (most : Int) Y hsY ⟨by omega, by omega⟩).mono ?_
          rintro e w5 ⟨x, rfl, _, hx, hs5, hg5⟩
          obtain ⟨hx1, hx2⟩ := hx (by omega)
          have hR5 := hRY.grown hg5 (by simp; omega)
          have hG5 := grown_trans hGY hg5
          have hw5 : w.heap.size + 1 ≤ w5.heap.size := by have := hg5.size; omega
          obtain ⟨n, hn⟩ : ∃ n : Nat, 1 + x = (n : Int) := ⟨(1 + x).toNat, by omega⟩
          have hn1 : 1 ≤ n := by omega
          have hn7 : n ≤ 7 := by omega
          have hnm : n ≤ most := by omega
          have hwn : IntKind.i64.wrap (n : Int) = (n : Int) := IntWalk.i64_in _ ⟨by omega, by omega⟩
          clear hx hg5
          go_wp2_with fail
          refine (l10Named_any n w5 hn1 (by omega)).mono ?_
          rintro e w6 ⟨a6, N, c6, us, rfl, hN6, hb6⟩
          obtain ⟨hl1, hl2, hall⟩ := nmd_sq n hn1 (by omega)
          rw [← hN6.len] at hl1 hl2
          have hs6 := hs5.below hb6
          have hR6 := hR5.below hb6 hR5.lt
          have hG6 := grown_below hG5 hb6 hG5.size
          have hN6 := hN6.mono hw5
          clear hn hx1 hx2 hwn hs5 hR5 hG5
          have hN0 : (0 : Int) ≤ (N : Int) := by omega
          go_wp2_with fail
          refine (l01Next_ok b (N : Int) w6 hs6 ⟨by omega, by omega⟩).mono ?_
          rintro e w7 ⟨x, rfl, _, hx, hs7, hg7⟩
          obtain ⟨hx1, hx2⟩ := hx (by omega)
          obtain ⟨k, rfl⟩ : ∃ k : Nat, x = (k : Int) := ⟨x.toNat, by omega⟩
          have hkN : k < N := by omega
          have hN7 := hN6.src hg7 (by omega)
          have hR7 := hR6.grown hg7 (by simp; omega)
          have hG7 := grown_trans hG6 hg7
          obtain ⟨hb_, ho_, hae, _, kc⟩ := hN7.hd.read.2 k hkN
          subst hae
          obtain ⟨vs, ho⟩ := hN7.el k hkN
          obtain ⟨t, HT⟩ : ∃ t, Hid ((nmdL n).getD k [] = t) := ⟨_, Lib.hid rfl⟩
          rw [HT.out] at ho
          have hmem : t ∈ nmdL n := by rw [← HT.out, getD_atL (by rw [← hN7.len]; exact hkN)]; exact List.getElem_mem _
          have hsq := tabB_ok (hall t hmem)
          have hok := nmd_ok n hn1 hn7 t hmem
          obtain ⟨⟨ua, un, uc⟩, HU⟩ : ∃ u, Hid (us.getD k svO = u) := ⟨_, Lib.hid rfl⟩
          rw [HU.out] at ho kc
          change w7.cell? _ = some (.slice ua un uc) at kc
          change OwnT w7 (w.heap.size + 1) ua un uc vs t at ho
          obtain rfl : un = n := by rw [ho.len]; exact hsq.1
          have hw7 : w.heap.size + 1 ≤ w7.heap.size := by have := hG7.size; have := hR7.lt; omega
          have HHI : Hid (∀ g, TblS ua un vs g → g < w7.heap.size) := Lib.hid ho.uHi
          clear hx hx1 hx2 hN6 hg7 hs6 hR6 hG6 hall hmem
          have hC := l13Circles_any un uc t hsq hn1 hn7 hok ua w7 ho.tbl
          clear hok
          go_wp2_with fail
          refine hC.mono ?_
          rintro e w8 ⟨aL, NL, cL, vL, L, rfl, hL, hNL1, hNL2, hLs, hb8⟩
          have hs8 := hs7.below hb8
          have hR8 := hR7.below hb8 hR7.lt
          have hG8 := grown_below hG7 hb8 hG7.size
          have ho8 := ho.below hb8
          clear hC kc hN7 ho hs7 hR7 hG7
          have hNL0 : (0 : Int) ≤ (NL : Int) := by omega
          go_wp2_with fail
          refine (l01Next_ok b (NL : Int) w8 hs8 ⟨by omega, by omega⟩).mono ?_
          rintro e w9 ⟨x, rfl, _, hx, hs9, hg9⟩
          obtain ⟨hx1, hx2⟩ := hx (by omega)
          obtain ⟨k2, rfl⟩ : ∃ k : Nat, x = (k : Int) := ⟨x.toNat, by omega⟩
          have hk2 : k2 < NL := by omega
          have hL9 := hL.src hg9 (by omega)
          have hR9 := hR8.grown hg9 (by simp; omega)
          have hG9 := grown_trans hG8 hg9
          have ho9 := ho8.src hg9 (by omega)
          have hw9 : w.heap.size + 1 ≤ w9.heap.size := by have := hG9.size; have := hR9.lt; omega
          obtain ⟨lb_, lo_, hle, _, kc⟩ := hL9.now.hd.2 k2 hk2
          subst hle
          have hX9 := hL9.tbX (lo := w.heap.size + 1) (S := TblS ua un vs) hk2 (by omega) (fun g hg => HHI.out g hg)
          have hsg := hLs k2 hk2
          obtain ⟨g, HGG⟩ : ∃ g, Hid (L.getD k2 [] = g) := ⟨_, Lib.hid rfl⟩
          obtain ⟨⟨va, vn, vc⟩, HV⟩ : ∃ u, Hid (vL.getD k2 svO = u) := ⟨_, Lib.hid rfl⟩
          rw [HGG.out] at hX9 hsg
          rw [HV.out] at hX9 kc
          change w9.cell? _ = some (.slice va vn vc) at kc
          change TbX w9 (w.heap.size + 1) (TblS ua un vs) va vn g at hX9
          obtain rfl : vn = un := by rw [hX9.now.len]; exact hsg.1
          clear hx hx1 hx2 hL hL9 hg9 hs8 hR8 hG8 ho8 hLs hNL0
          have hbA := below_al (Below.refl w9.heap.size w9) (.cells #[.slice ua vn uc, .slice va vn vc] 26)
          have hP := Loc.new w9 rfl #[.slice ua vn uc, .slice va vn vc] 26
          have hzA : (w9.alloc (.cells #[.slice ua vn uc, .slice va vn vc] 26)).heap.size = w9.heap.size + 1 := by simp
          obtain ⟨wA, hwA⟩ : ∃ wA, w9.alloc (.cells #[.slice ua vn uc, .slice va vn vc] 26) = wA := ⟨_, rfl⟩
          rw [hwA] at hbA hP hzA
          have HWA := Lib.hid hwA
          have HZA := Lib.hid hzA
          have hsA := hs9.below hbA
          have hRA := hR9.below hbA hR9.lt
          have hGA := grown_below hG9 hbA hG9.size
          have hoA := ho9.below hbA
          have hXA := hX9.below hbA
          clear hwA hzA
          by_cases hn2 : (vn : Int) ≤ 1
          · have hW := FIN.out wA ua vn uc vs t va vc g hn1 hnm hoA hsq hXA hsg hsA hGA
            have lR := hRA.two
            have lP := hP.two
            rw [← HWA.out] at hW lR lP
            go_wp2
            exact bodyPost_ret (v := sAgg ua vn uc va vn vc) (by simp [results, Tryz.results91, go_sem, lR]) rfl hW
          have hn3 : (1 : Int) < (vn : Int) := by omega
          obtain ⟨m, hm⟩ : ∃ m, vn = m + 1 := ⟨vn - 1, by omega⟩
          have HM := Lib.hid hm
          have HM1 : Hid ((vn : Int) - 1 = (m : Int)) := Lib.hid (by omega)
          have HWM : Hid (IntKind.i64.wrap (m : Int) = (m : Int)) := Lib.hid (IntWalk.i64_in _ ⟨by omega, by omega⟩)
          clear hm
          go_wp2_with fail
          try rw [HWA.out]
          refine (l01Next_ok b 2 wA hsA ⟨by omega, by omega⟩).mono ?_
          rintro e w4 ⟨y, rfl, _, hy, hs4, hg4⟩
          obtain ⟨hy1, hy2⟩ := hy (by omega)
          have hR4 := hRA.grown hg4 (by simp; omega)
          have hP4 := hP.grown hg4 (by simp; omega)
          have hG4 := grown_trans hGA hg4
          have ho4 := hoA.src hg4 (by omega)
          have hX4 := hXA.src hg4 (by omega)
          have hw4 : w.heap.size + 1 ≤ w4.heap.size := by have := hG4.size; have := hR4.lt; omega
          have HZ4 : Hid (w9.heap.size < w4.heap.size) := Lib.hid hP4.lt
          clear hy hsA hRA hP hGA hoA hXA hg4 kc hX9 ho9 hG9 hR9 hs9
          by_cases y0 : y = 0
          · have e4 : (y == 0) = true := by simp [y0]
            clear y0
            have hp0 := Own.one w4 rfl 0
            have hbp := below_al (Below.refl w4.heap.size w4) (.cells #[.int .i64 0] 2)
            obtain ⟨wB, hwB⟩ : ∃ wB, w4.alloc (.cells #[.int .i64 0] 2) = wB := ⟨_, rfl⟩
            have HWB := Lib.hid hwB
            have HZB : Hid (w4.heap.size < wB.heap.size) := Lib.hid (by rw [← hwB, size_alloc]; omega)
            rw [hwB] at hp0 hbp
            have hsB := hs4.below hbp
            have hoB := ho4.below hbp
            have hXB := hX4.below hbp
            have hRB := hR4.below hbp hR4.lt
            have hPB := hP4.below hbp hP4.lt
            have hGB := grown_below hG4 hbp hG4.size
            have HIQ := Lib.hid ho4.uHi
            have HX4 : Hid (∀ V : World, (∀ k, w.heap.size + 1 ≤ k → k < w4.heap.size → V.heap[k]? = w4.heap[k]?) → Tbl V va vn g) := Lib.hid fun V hV => hX4 V fun k h1 h2 _ => hV k h1 h2
            have hm1 := HM1.out
            have hwm := HWM.out
            have hDP := l03DrawPerm_ok b m wB hsB (by have := HM.out; omega)
            clear hwB ho4 hX4 hR4 hP4 hG4 hs4
            go_wp2_with fail
            try rw [HWB.out]
            refine hDP.mono ?_
            rintro e w6 ⟨a6, c6, q, rfl, hq, hor6, hs6, hg6⟩
            clear hm1 hwm hDP
            have hp6 := hp0.src hg6 (by omega)
            have ho6 := hoB.src hg6 (by omega)
            have hX6 := hXB.src hg6 (by omega)
            have hR6 := hRB.grown hg6 (by simp; omega)
            have hP6 := hPB.grown hg6 (by simp; have := HZ4.out; omega)
            have hG6 := grown_trans hGB hg6
            have HQ := Lib.hid hq.len
            have HQM := Lib.hid hq.mem
            have hm7 : m ≤ 7 := by have := HM.out; omega
            have hz6 : wB.heap.size ≤ w6.heap.size := hg6.size
            have HB46 : Hid (∀ k, w.heap.size + 1 ≤ k → k < w4.heap.size → w6.heap[k]? = w4.heap[k]?) := Lib.hid fun k h1 h2 => (hg6.block k (Nat.lt_of_lt_of_le h2 hbp.size) (fun e => by cases e; omega)).trans (hbp.block k h2)
            clear hsB hoB hXB hRB hPB hGB hp0 hg6 hbp
            have hw4b : b < w4.heap.size := by omega
            have hap : Apr a6 (some ⟨w4.heap.size, 0, none⟩) := fun g e1 e2 => by cases e2; have := hor6.lo _ e1; have := HZB.out; omega
            have hbz : Below w4.heap.size w6 w6 := ⟨rfl, rfl, rfl, Nat.le_refl _, fun _ _ => rfl⟩
            have hw46 : w4.heap.size ≤ w6.heap.size := by have := HZB.out; omega
            have HXT : Hid (∀ V, Below w4.heap.size w6 V → Tbl V va vn g) := Lib.hid fun V hV => HX4.out V fun k h1 h2 => (hV.block k h2).trans (HB46.out k h1 h2)
            go_wp2
            go_loopw [16, 18] (fun s i wq => ∃ (j : Nat) (ar : Option Addr) (cr : Nat), j ≤ m ∧ i = .int .i64 j ∧ s = .slice ar (1 + j) cr ∧ Own wq w4.heap.size ar (1 + j) cr (0 :: (q.take j).map (· + 1)) ∧ Own wq wB.heap.size a6 m c6 q ∧ Apr a6 ar ∧ Below w4.heap.size w6 wq) (fun _ i _ => m - (intOf i).toNat)
            case atStart => exact ⟨0, _, 1, Nat.zero_le _, rfl, rfl, by simpa using hp6, hor6, hap, hbz⟩
            case round =>
              clear hp6 hor6 hap hbz
              obtain ⟨j, ar, cr, hj, rfl, rfl, hp, hor, hap, hbq⟩ := hrel
              obtain ⟨R, rfl⟩ : ∃ R : World, R = wr := ⟨_, rfl⟩
              have hRs := hbq.size
              by_cases hlt : j < m
              · have hjq : j < q.length := by have := HQ.out; omega
                have HST := Lib.hid (upL_take q hjq)
                obtain ⟨_, _, e9, f1⟩ := hor.row.at j hlt
                obtain ⟨v, HV⟩ : ∃ v, Hid (q.getD j 0 = v) := ⟨_, Lib.hid rfl⟩
                have hv := HQM.out _ (List.getElem_mem hjq)
                rw [← getD_at hjq, HV.out] at hv
                rw [HV.out] at f1 HST
                subst e9
                have i1 : (0 : Int) ≤ (j : Int) := by omega
                have i2 : (j : Int) < (m : Int) := by omega
                have hwv : IntKind.i64.wrap (v + 1) = v + 1 := IntWalk.i64_in _ ⟨by omega, by omega⟩
                have HWV := Lib.hid hwv
                clear hwv
                have hln : 1 + j + 1 ≤ 1000000000000 := by omega
                have hw4R : w4.heap.size ≤ R.heap.size := by omega
                have hwv := HWV.out
                go_wp2_with (at_builtin; refine app1h rfl rfl hp rfl rfl hln hw4R ?_; intro g' cc w8 hO8 hg8 hat8 hb8)
                clear hwv
                have hor8 := Own.beside hor hp hap hg8
                have hap8 := Own.apart hor hp hap hat8
                go_roundw
                case rel => exact ⟨j + 1, _, cc, by omega, by go_num, rfl, by rw [HST.out]; exact hO8, hor8, hap8, hbq.trans hb8⟩
                case measure => simp [intOf]; omega
              · obtain rfl : m = j := by omega
                rw [List.take_of_length_le (by have := HQ.out; omega)] at hp
                have hoR := ho6.keep (w' := R) fun g hg hlt => hbq.block g (HIQ.out g hg)
                have hsR := hs6.keepB hbq hw4b
                have hGR := grown_below hG6 hbq (by omega)
                have hRR := hR6.below hbq (by omega)
                have hPR := hP6.below hbq HZ4.out
                have hXR : Tbl R va vn g := HXT.out R hbq
                have hPn : IsP vn (upL q) := by have h9 := upL_isP hq; rw [← HM.out] at h9; exact h9
                have hr1 : Row R ar vn (upL q) := by have h9 := hp.row; rw [show 1 + m = vn by have := HM.out; omega] at h9; exact h9
                have hum : 1 + m = vn := by have := HM.out; omega
                have HUM := Lib.hid hum
                clear hum
                have HPN := Lib.hid hPn; have HSQ := Lib.hid hsq; have HSG := Lib.hid hsg
                have hPl := HZ4.out
                have hRw : w.heap.size + 1 ≤ R.heap.size := by omega
                have hPR2 : w9.heap.size < R.heap.size := by omega
                have lPR : (fun v => v.cell? ⟨w9.heap.size, 0, none⟩ = some (.slice ua vn uc) ∧ v.cell? ⟨w9.heap.size, 1, none⟩ = some (.slice va vn vc)) R := ⟨hPR.two.1, hPR.two.2.1⟩
                have tU : Tbl (R.drewN 1) ua vn t := hoR.tbl
                have tR : Row (R.drewN 1) ar vn (upL q) := hr1
                have tok1 : True := trivial
                have hn0 : 1 ≤ vn := hn1
                have hn12 : vn ≤ 12 := by omega
                clear hPn hsq hsg hor hap hbq hr1
                go_upto_region 30 with fail
                try rw [HUM.out]
                go_region_law (first
                  | (go_simp; go_at_call 125; have _t := tok1; clear _t tok1; have tok2 : True := trivial; refine (l03Image_any vn ua ar uc cr t (upL q) _ tU tR HSQ.out HPN.out hn0 hn12).mono ?_; rintro e wC ⟨aC, cC, vsC, rfl, hoC, hbC⟩; have hbRC : Below R.heap.size R wC := (below_drewN (Below.refl _ _) 1).trans hbC; have hPC := hPR.below hbRC hPR2; have lPC : (fun v => v.cell? ⟨w9.heap.size, 0, none⟩ = some (.slice ua vn uc) ∧ v.cell? ⟨w9.heap.size, 1, none⟩ = some (.slice va vn vc)) wC := ⟨hPC.two.1, hPC.two.2.1⟩; have tV := hXR.below hbRC; have tRC : Row wC ar vn (upL q) := tR.below hbC; have hRC := hRR.below hbRC hRR.lt; have hsC := hsR.below hbRC; have hGC := grown_below hGR hbRC hGR.size; have hzC : R.heap.size ≤ wC.heap.size := hbRC.size)
                  | (go_simp; go_at_call 125; have _t := tok2; clear _t tok2; refine (l03Image_any vn va ar vc cr g (upL q) _ tV tRC HSG.out HPN.out hn0 hn12).mono ?_; rintro e wD ⟨aD, cD, vsD, rfl, hoD, hbD⟩; have hPD := hPC.below hbD hPC.lt; have lPD : (fun v => v.cell? ⟨w9.heap.size, 0, none⟩ = some (.slice ua vn uc) ∧ v.cell? ⟨w9.heap.size, 1, none⟩ = some (.slice va vn vc)) wD := ⟨hPD.two.1, hPD.two.2.1⟩; have lPE := hPD.two; have hPS := (hPD.set 0 (.slice aC vn cC)).set 1 (.slice aD vn cD); have lPS := hPS.two; have hRD := hRC.below hbD hRC.lt; have hRS := (hRD.setne (a := ⟨w9.heap.size, 0, none⟩) (by show w.heap.size ≠ w9.heap.size; omega) (.slice aC vn cC)).setne (a := ⟨w9.heap.size, 1, none⟩) (by show w.heap.size ≠ w9.heap.size; omega) (.slice aD vn cD); have lRS := hRS.two))
                all_goals
                  have hCR : R.heap.size ≤ (R.drewN 1).heap.size := Nat.le_refl _
                  have hoC1 := (hoC.below hbD).mono hCR
                  have hoD1 := hoD.mono (lo' := R.heap.size) hzC
                  have h1hi := hoC.uHi
                  have h2lo := hoD.uLo
                  have hoC2 := ((hoC1.setlo (p := ⟨w9.heap.size, 0, none⟩) hPR2 (.slice aC vn cC)).setlo (p := ⟨w9.heap.size, 1, none⟩) hPR2 (.slice aD vn cD)).mono hRw
                  have hoD2 := ((hoD1.setlo (p := ⟨w9.heap.size, 0, none⟩) hPR2 (.slice aC vn cC)).setlo (p := ⟨w9.heap.size, 1, none⟩) hPR2 (.slice aD vn cD)).mono hRw
                  have hsD := ((hsC.below hbD).setne (p := ⟨w9.heap.size, 0, none⟩) (by show b < w9.heap.size; omega) (.slice aC vn cC)).setne (p := ⟨w9.heap.size, 1, none⟩) (by show b < w9.heap.size; omega) (.slice aD vn cD)
                  have hGD := grown_set (p := ⟨w9.heap.size, 1, none⟩) (grown_set (p := ⟨w9.heap.size, 0, none⟩) (grown_below hGC hbD hGC.size) (.inr (by show w.heap.size ≤ w9.heap.size; omega)) (.slice aC vn cC)) (.inr (by show w.heap.size ≤ w9.heap.size; omega)) (.slice aD vn cD)
                  have hW := FIN.out _ aC vn cC vsC _ aD cD _ hn1 hnm hoC2 (rnL_sqP HPN.out HSQ.out) (TbX.own hoD2 (Nat.le_refl _) fun g h1 h2 => by have := h1hi g h1; have := h2lo g h2; omega) (rnL_sqP HPN.out HSG.out) hsD hGD
                  go_wp2
                  exact bodyPost_ret (v := sAgg aC vn cC aD vn cD) (by simp [results, Tryz.results91, go_sem, lRS]) rfl hW
          · have e4 : (y == 0) = false := by simp [y0]
            clear y0
            have hW := FIN.out w4 ua vn uc vs t va vc g hn1 hnm ho4 hsq hX4 hsg hs4 hG4
            have lR := hR4.two
            have lP := hP4.two
            go_wp2
            exact bodyPost_ret (v := sAgg ua vn uc va vn vc) (by simp [results, Tryz.results91, go_sem, lR]) rfl hW
        · go_wp2_with fail
          refine (l01Next_ok b 7 Y hsY ⟨by omega, by omega⟩).mono ?_
          rintro e w5 ⟨x, rfl, _, hx, hs5, hg5⟩
          obtain ⟨hx1, hx2⟩ := hx (by omega)
          have hR5 := hRY.grown hg5 (by simp; omega)
          have hG5 := grown_trans hGY hg5
          have hw5 : w.heap.size + 1 ≤ w5.heap.size := by have := hg5.size; omega
          obtain ⟨n, hn⟩ : ∃ n : Nat, 1 + x = (n : Int) := ⟨(1 + x).toNat, by omega⟩
          have hn1 : 1 ≤ n := by omega
          have hn7 : n ≤ 7 := by omega
          have hnm : n ≤ most := by omega
          have hwn : IntKind.i64.wrap (n : Int) = (n : Int) := IntWalk.i64_in _ ⟨by omega, by omega⟩
          clear hx hg5
          go_wp2_with fail
          refine (l10Named_any n w5 hn1 (by omega)).mono ?_
          rintro e w6 ⟨a6, N, c6, us, rfl, hN6, hb6⟩
          obtain ⟨hl1, hl2, hall⟩ := nmd_sq n hn1 (by omega)
          rw [← hN6.len] at hl1 hl2
          have hs6 := hs5.below hb6
          have hR6 := hR5.below hb6 hR5.lt
          have hG6 := grown_below hG5 hb6 hG5.size
          have hN6 := hN6.mono hw5
          clear hn hx1 hx2 hwn hs5 hR5 hG5
          have hN0 : (0 : Int) ≤ (N : Int) := by omega
          go_wp2_with fail
          refine (l01Next_ok b (N : Int) w6 hs6 ⟨by omega, by omega⟩).mono ?_
          rintro e w7 ⟨x, rfl, _, hx, hs7, hg7⟩
          obtain ⟨hx1, hx2⟩ := hx (by omega)
          obtain ⟨k, rfl⟩ : ∃ k : Nat, x = (k : Int) := ⟨x.toNat, by omega⟩
          have hkN : k < N := by omega
          have hN7 := hN6.src hg7 (by omega)
          have hR7 := hR6.grown hg7 (by simp; omega)
          have hG7 := grown_trans hG6 hg7
          obtain ⟨hb_, ho_, hae, _, kc⟩ := hN7.hd.read.2 k hkN
          subst hae
          obtain ⟨vs, ho⟩ := hN7.el k hkN
          obtain ⟨t, HT⟩ : ∃ t, Hid ((nmdL n).getD k [] = t) := ⟨_, Lib.hid rfl⟩
          rw [HT.out] at ho
          have hmem : t ∈ nmdL n := by rw [← HT.out, getD_atL (by rw [← hN7.len]; exact hkN)]; exact List.getElem_mem _
          have hsq := tabB_ok (hall t hmem)
          have hok := nmd_ok n hn1 hn7 t hmem
          obtain ⟨⟨ua, un, uc⟩, HU⟩ : ∃ u, Hid (us.getD k svO = u) := ⟨_, Lib.hid rfl⟩
          rw [HU.out] at ho kc
          change w7.cell? _ = some (.slice ua un uc) at kc
          change OwnT w7 (w.heap.size + 1) ua un uc vs t at ho
          obtain rfl : un = n := by rw [ho.len]; exact hsq.1
          have hw7 : w.heap.size + 1 ≤ w7.heap.size := by have := hG7.size; have := hR7.lt; omega
          have HHI : Hid (∀ g, TblS ua un vs g → g < w7.heap.size) := Lib.hid ho.uHi
          clear hx hx1 hx2 hN6 hg7 hs6 hR6 hG6 hall hmem
          have hC := l13Circles_any un uc t hsq hn1 hn7 hok ua w7 ho.tbl
          clear hok
          go_wp2_with fail
          refine hC.mono ?_
          rintro e w8 ⟨aL, NL, cL, vL, L, rfl, hL, hNL1, hNL2, hLs, hb8⟩
          have hs8 := hs7.below hb8
          have hR8 := hR7.below hb8 hR7.lt
          have hG8 := grown_below hG7 hb8 hG7.size
          have ho8 := ho.below hb8
          clear hC kc hN7 ho hs7 hR7 hG7
          have hNL0 : (0 : Int) ≤ (NL : Int) := by omega
          go_wp2_with fail
          refine (l01Next_ok b (NL : Int) w8 hs8 ⟨by omega, by omega⟩).mono ?_
          rintro e w9 ⟨x, rfl, _, hx, hs9, hg9⟩
          obtain ⟨hx1, hx2⟩ := hx (by omega)
          obtain ⟨k2, rfl⟩ : ∃ k : Nat, x = (k : Int) := ⟨x.toNat, by omega⟩
          have hk2 : k2 < NL := by omega
          have hL9 := hL.src hg9 (by omega)
          have hR9 := hR8.grown hg9 (by simp; omega)
          have hG9 := grown_trans hG8 hg9
          have ho9 := ho8.src hg9 (by omega)
          have hw9 : w.heap.size + 1 ≤ w9.heap.size := by have := hG9.size; have := hR9.lt; omega
          obtain ⟨lb_, lo_, hle, _, kc⟩ := hL9.now.hd.2 k2 hk2
          subst hle
          have hX9 := hL9.tbX (lo := w.heap.size + 1) (S := TblS ua un vs) hk2 (by omega) (fun g hg => HHI.out g hg)
          have hsg := hLs k2 hk2
          obtain ⟨g, HGG⟩ : ∃ g, Hid (L.getD k2 [] = g) := ⟨_, Lib.hid rfl⟩
          obtain ⟨⟨va, vn, vc⟩, HV⟩ : ∃ u, Hid (vL.getD k2 svO = u) := ⟨_, Lib.hid rfl⟩
          rw [HGG.out] at hX9 hsg
          rw [HV.out] at hX9 kc
          change w9.cell? _ = some (.slice va vn vc) at kc
          change TbX w9 (w.heap.size + 1) (TblS ua un vs) va vn g at hX9
          obtain rfl : vn = un := by rw [hX9.now.len]; exact hsg.1
          clear hx hx1 hx2 hL hL9 hg9 hs8 hR8 hG8 ho8 hLs hNL0
          have hbA := below_al (Below.refl w9.heap.size w9) (.cells #[.slice ua vn uc, .slice va vn vc] 26)
          have hP := Loc.new w9 rfl #[.slice ua vn uc, .slice va vn vc] 26
          have hzA : (w9.alloc (.cells #[.slice ua vn uc, .slice va vn vc] 26)).heap.size = w9.heap.size + 1 := by simp
          obtain ⟨wA, hwA⟩ : ∃ wA, w9.alloc (.cells #[.slice ua vn uc, .slice va vn vc] 26) = wA := ⟨_, rfl⟩
          rw [hwA] at hbA hP hzA
          have HWA := Lib.hid hwA
          have HZA := Lib.hid hzA
          have hsA := hs9.below hbA
          have hRA := hR9.below hbA hR9.lt
          have hGA := grown_below hG9 hbA hG9.size
          have hoA := ho9.below hbA
          have hXA := hX9.below hbA
          clear hwA hzA
          by_cases hn2 : (vn : Int) ≤ 1
          · have hW := FIN.out wA ua vn uc vs t va vc g hn1 hnm hoA hsq hXA hsg hsA hGA
            have lR := hRA.two
            have lP := hP.two
            rw [← HWA.out] at hW lR lP
            go_wp2
            exact bodyPost_ret (v := sAgg ua vn uc va vn vc) (by simp [results, Tryz.results91, go_sem, lR]) rfl hW
          have hn3 : (1 : Int) < (vn : Int) := by omega
          obtain ⟨m, hm⟩ : ∃ m, vn = m + 1 := ⟨vn - 1, by omega⟩
          have HM := Lib.hid hm
          have HM1 : Hid ((vn : Int) - 1 = (m : Int)) := Lib.hid (by omega)
          have HWM : Hid (IntKind.i64.wrap (m : Int) = (m : Int)) := Lib.hid (IntWalk.i64_in _ ⟨by omega, by omega⟩)
          clear hm
          go_wp2_with fail
          try rw [HWA.out]
          refine (l01Next_ok b 2 wA hsA ⟨by omega, by omega⟩).mono ?_
          rintro e w4 ⟨y, rfl, _, hy, hs4, hg4⟩
          obtain ⟨hy1, hy2⟩ := hy (by omega)
          have hR4 := hRA.grown hg4 (by simp; omega)
          have hP4 := hP.grown hg4 (by simp; omega)
          have hG4 := grown_trans hGA hg4
          have ho4 := hoA.src hg4 (by omega)
          have hX4 := hXA.src hg4 (by omega)
          have hw4 : w.heap.size + 1 ≤ w4.heap.size := by have := hG4.size; have := hR4.lt; omega
          have HZ4 : Hid (w9.heap.size < w4.heap.size) := Lib.hid hP4.lt
          clear hy hsA hRA hP hGA hoA hXA hg4 kc hX9 ho9 hG9 hR9 hs9
          by_cases y0 : y = 0
          · have e4 : (y == 0) = true := by simp [y0]
            clear y0
            have hp0 := Own.one w4 rfl 0
            have hbp := below_al (Below.refl w4.heap.size w4) (.cells #[.int .i64 0] 2)
            obtain ⟨wB, hwB⟩ : ∃ wB, w4.alloc (.cells #[.int .i64 0] 2) = wB := ⟨_, rfl⟩
            have HWB := Lib.hid hwB
            have HZB : Hid (w4.heap.size < wB.heap.size) := Lib.hid (by rw [← hwB, size_alloc]; omega)
            rw [hwB] at hp0 hbp
            have hsB := hs4.below hbp
            have hoB := ho4.below hbp
            have hXB := hX4.below hbp
            have hRB := hR4.below hbp hR4.lt
            have hPB := hP4.below hbp hP4.lt
            have hGB := grown_below hG4 hbp hG4.size
            have HIQ := Lib.hid ho4.uHi
            have HX4 : Hid (∀ V : World, (∀ k, w.heap.size + 1 ≤ k → k < w4.heap.size → V.heap[k]? = w4.heap[k]?) → Tbl V va vn g) := Lib.hid fun V hV => hX4 V fun k h1 h2 _ => hV k h1 h2
            have hm1 := HM1.out
            have hwm := HWM.out
            have hDP := l03DrawPerm_ok b m wB hsB (by have := HM.out; omega)
            clear hwB ho4 hX4 hR4 hP4 hG4 hs4
            go_wp2_with fail
            try rw [HWB.out]
            refine hDP.mono ?_
            rintro e w6 ⟨a6, c6, q, rfl, hq, hor6, hs6, hg6⟩
            clear hm1 hwm hDP
            have hp6 := hp0.src hg6 (by omega)
            have ho6 := hoB.src hg6 (by omega)
            have hX6 := hXB.src hg6 (by omega)
            have hR6 := hRB.grown hg6 (by simp; omega)
            have hP6 := hPB.grown hg6 (by simp; have := HZ4.out; omega)
            have hG6 := grown_trans hGB hg6
            have HQ := Lib.hid hq.len
            have HQM := Lib.hid hq.mem
            have hm7 : m ≤ 7 := by have := HM.out; omega
            have hz6 : wB.heap.size ≤ w6.heap.size := hg6.size
            have HB46 : Hid (∀ k, w.heap.size + 1 ≤ k → k < w4.heap.size → w6.heap[k]? = w4.heap[k]?) := Lib.hid fun k h1 h2 => (hg6.block k (Nat.lt_of_lt_of_le h2 hbp.size) (fun e => by cases e; omega)).trans (hbp.block k h2)
            clear hsB hoB hXB hRB hPB hGB hp0 hg6 hbp
            have hw4b : b < w4.heap.size := by omega
            have hap : Apr a6 (some ⟨w4.heap.size, 0, none⟩) := fun g e1 e2 => by cases e2; have := hor6.lo _ e1; have := HZB.out; omega
            have hbz : Below w4.heap.size w6 w6 := ⟨rfl, rfl, rfl, Nat.le_refl _, fun _ _ => rfl⟩
            have hw46 : w4.heap.size ≤ w6.heap.size := by have := HZB.out; omega
            have HXT : Hid (∀ V, Below w4.heap.size w6 V → Tbl V va vn g) := Lib.hid fun V hV => HX4.out V fun k h1 h2 => (hV.block k h2).trans (HB46.out k h1 h2)
            go_wp2
            go_loopw [16, 18] (fun s i wq => ∃ (j : Nat) (ar : Option Addr) (cr : Nat), j ≤ m ∧ i = .int .i64 j ∧ s = .slice ar (1 + j) cr ∧ Own wq w4.heap.size ar (1 + j) cr (0 :: (q.take j).map (· + 1)) ∧ Own wq wB.heap.size a6 m c6 q ∧ Apr a6 ar ∧ Below w4.heap.size w6 wq) (fun _ i _ => m - (intOf i).toNat)
            case atStart => exact ⟨0, _, 1, Nat.zero_le _, rfl, rfl, by simpa using hp6, hor6, hap, hbz⟩
            case round =>
              clear hp6 hor6 hap hbz
              obtain ⟨j, ar, cr, hj, rfl, rfl, hp, hor, hap, hbq⟩ := hrel
              obtain ⟨R, rfl⟩ : ∃ R : World, R = wr := ⟨_, rfl⟩
              have hRs := hbq.size
              by_cases hlt : j < m
              · have hjq : j < q.length := by have := HQ.out; omega
                have HST := Lib.hid (upL_take q hjq)
                obtain ⟨_, _, e9, f1⟩ := hor.row.at j hlt
                obtain ⟨v, HV⟩ : ∃ v, Hid (q.getD j 0 = v) := ⟨_, Lib.hid rfl⟩
                have hv := HQM.out _ (List.getElem_mem hjq)
                rw [← getD_at hjq, HV.out] at hv
                rw [HV.out] at f1 HST
                subst e9
                have i1 : (0 : Int) ≤ (j : Int) := by omega
                have i2 : (j : Int) < (m : Int) := by omega
                have hwv : IntKind.i64.wrap (v + 1) = v + 1 := IntWalk.i64_in _ ⟨by omega, by omega⟩
                have HWV := Lib.hid hwv
                clear hwv
                have hln : 1 + j + 1 ≤ 1000000000000 := by omega
                have hw4R : w4.heap.size ≤ R.heap.size := by omega
                have hwv := HWV.out
                go_wp2_with (at_builtin; refine app1h rfl rfl hp rfl rfl hln hw4R ?_; intro g' cc w8 hO8 hg8 hat8 hb8)
                clear hwv
                have hor8 := Own.beside hor hp hap hg8
                have hap8 := Own.apart hor hp hap hat8
                go_roundw
                case rel => exact ⟨j + 1, _, cc, by omega, by go_num, rfl, by rw [HST.out]; exact hO8, hor8, hap8, hbq.trans hb8⟩
                case measure => simp [intOf]; omega
              · obtain rfl : m = j := by omega
                rw [List.take_of_length_le (by have := HQ.out; omega)] at hp
                have hoR := ho6.keep (w' := R) fun g hg hlt => hbq.block g (HIQ.out g hg)
                have hsR := hs6.keepB hbq hw4b
                have hGR := grown_below hG6 hbq (by omega)
                have hRR := hR6.below hbq (by omega)
                have hPR := hP6.below hbq HZ4.out
                have hXR : Tbl R va vn g := HXT.out R hbq
                have hPn : IsP vn (upL q) := by have h9 := upL_isP hq; rw [← HM.out] at h9; exact h9
                have hr1 : Row R ar vn (upL q) := by have h9 := hp.row; rw [show 1 + m = vn by have := HM.out; omega] at h9; exact h9
                have hum : 1 + m = vn := by have := HM.out; omega
                have HUM := Lib.hid hum
                clear hum
                have HPN := Lib.hid hPn; have HSQ := Lib.hid hsq; have HSG := Lib.hid hsg
                have hPl := HZ4.out
                have hRw : w.heap.size + 1 ≤ R.heap.size := by omega
                have hPR2 : w9.heap.size < R.heap.size := by omega
                have lPR : (fun v => v.cell? ⟨w9.heap.size, 0, none⟩ = some (.slice ua vn uc) ∧ v.cell? ⟨w9.heap.size, 1, none⟩ = some (.slice va vn vc)) R := ⟨hPR.two.1, hPR.two.2.1⟩
                have tU : Tbl (R.drewN 1) ua vn t := hoR.tbl
                have tR : Row (R.drewN 1) ar vn (upL q) := hr1
                have tok1 : True := trivial
                have hn0 : 1 ≤ vn := hn1
                have hn12 : vn ≤ 12 := by omega
                clear hPn hsq hsg hor hap hbq hr1
                go_upto_region 30 with fail
                try rw [HUM.out]
                go_region_law (first
                  | (go_simp; go_at_call 125; have _t := tok1; clear _t tok1; have tok2 : True := trivial; refine (l03Image_any vn ua ar uc cr t (upL q) _ tU tR HSQ.out HPN.out hn0 hn12).mono ?_; rintro e wC ⟨aC, cC, vsC, rfl, hoC, hbC⟩; have hbRC : Below R.heap.size R wC := (below_drewN (Below.refl _ _) 1).trans hbC; have hPC := hPR.below hbRC hPR2; have lPC : (fun v => v.cell? ⟨w9.heap.size, 0, none⟩ = some (.slice ua vn uc) ∧ v.cell? ⟨w9.heap.size, 1, none⟩ = some (.slice va vn vc)) wC := ⟨hPC.two.1, hPC.two.2.1⟩; have tV := hXR.below hbRC; have tRC : Row wC ar vn (upL q) := tR.below hbC; have hRC := hRR.below hbRC hRR.lt; have hsC := hsR.below hbRC; have hGC := grown_below hGR hbRC hGR.size; have hzC : R.heap.size ≤ wC.heap.size := hbRC.size)
                  | (go_simp; go_at_call 125; have _t := tok2; clear _t tok2; refine (l03Image_any vn va ar vc cr g (upL q) _ tV tRC HSG.out HPN.out hn0 hn12).mono ?_; rintro e wD ⟨aD, cD, vsD, rfl, hoD, hbD⟩; have hPD := hPC.below hbD hPC.lt; have lPD : (fun v => v.cell? ⟨w9.heap.size, 0, none⟩ = some (.slice ua vn uc) ∧ v.cell? ⟨w9.heap.size, 1, none⟩ = some (.slice va vn vc)) wD := ⟨hPD.two.1, hPD.two.2.1⟩; have lPE := hPD.two; have hPS := (hPD.set 0 (.slice aC vn cC)).set 1 (.slice aD vn cD); have lPS := hPS.two; have hRD := hRC.below hbD hRC.lt; have hRS := (hRD.setne (a := ⟨w9.heap.size, 0, none⟩) (by show w.heap.size ≠ w9.heap.size; omega) (.slice aC vn cC)).setne (a := ⟨w9.heap.size, 1, none⟩) (by show w.heap.size ≠ w9.heap.size; omega) (.slice aD vn cD); have lRS := hRS.two))
                all_goals
                  have hCR : R.heap.size ≤ (R.drewN 1).heap.size := Nat.le_refl _
                  have hoC1 := (hoC.below hbD).mono hCR
                  have hoD1 := hoD.mono (lo' := R.heap.size) hzC
                  have h1hi := hoC.uHi
                  have h2lo := hoD.uLo
                  have hoC2 := ((hoC1.setlo (p := ⟨w9.heap.size, 0, none⟩) hPR2 (.slice aC vn cC)).setlo (p := ⟨w9.heap.size, 1, none⟩) hPR2 (.slice aD vn cD)).mono hRw
                  have hoD2 := ((hoD1.setlo (p := ⟨w9.heap.size, 0, none⟩) hPR2 (.slice aC vn cC)).setlo (p := ⟨w9.heap.size, 1, none⟩) hPR2 (.slice aD vn cD)).mono hRw
                  have hsD := ((hsC.below hbD).setne (p := ⟨w9.heap.size, 0, none⟩) (by show b < w9.heap.size; omega) (.slice aC vn cC)).setne (p := ⟨w9.heap.size, 1, none⟩) (by show b < w9.heap.size; omega) (.slice aD vn cD)
                  have hGD := grown_set (p := ⟨w9.heap.size, 1, none⟩) (grown_set (p := ⟨w9.heap.size, 0, none⟩) (grown_below hGC hbD hGC.size) (.inr (by show w.heap.size ≤ w9.heap.size; omega)) (.slice aC vn cC)) (.inr (by show w.heap.size ≤ w9.heap.size; omega)) (.slice aD vn cD)
                  have hW := FIN.out _ aC vn cC vsC _ aD cD _ hn1 hnm hoC2 (rnL_sqP HPN.out HSQ.out) (TbX.own hoD2 (Nat.le_refl _) fun g h1 h2 => by have := h1hi g h1; have := h2lo g h2; omega) (rnL_sqP HPN.out HSG.out) hsD hGD
                  go_wp2
                  exact bodyPost_ret (v := sAgg aC vn cC aD vn cD) (by simp [results, Tryz.results91, go_sem, lRS]) rfl hW
          · have e4 : (y == 0) = false := by simp [y0]
            clear y0
            have hW := FIN.out w4 ua vn uc vs t va vc g hn1 hnm ho4 hsq hX4 hsg hs4 hG4
            have lR := hR4.two
            have lP := hP4.two
            go_wp2
            exact bodyPost_ret (v := sAgg ua vn uc va vn vc) (by simp [results, Tryz.results91, go_sem, lR]) rfl hW
  have e1 : (z == 1) = false := by simp [z1]
  clear z1
  by_cases z2 : z = 2
  · have e2 : (z == 2) = true := by simp [z2]
    clear z2
    by_cases h88 : 8 ≤ most
    · have h88i : (8 : Int) ≤ (most : Int) := by omega
      have HR4 : Hid (∀ V : World, Src V b → Calls Tryz.prog 91 #[.pointer (some ⟨b, 0, none⟩), .int .i64 4] V (BrDr b 4 V)) := Lib.hid fun V hV => HREC.out h88 V 4 (.inl rfl) hV
      have HR2 : Hid (∀ V : World, Src V b → Calls Tryz.prog 91 #[.pointer (some ⟨b, 0, none⟩), .int .i64 2] V (BrDr b 2 V)) := Lib.hid fun V hV => HREC.out h88 V 2 (.inr rfl) hV
      go_wp2_with fail
      refine (HR4.out w1 hs1).mono ?_
      rintro e w2 ⟨a1, n, c1, vs, f, a2, c2, g, rfl, hn1, hn4, ho2, hsf, hX2, hsg, hs2, hg2⟩
      have hR2 := hR1.grown hg2 (by simp; omega)
      have hG2 := grown_trans hG1 hg2
      go_wp2_with fail
      refine (HR2.out w2 hs2).mono ?_
      rintro e w3 ⟨a3, k, c3, vs3, f3, a4, c4, g3, rfl, hk1, hk2, ho3, hsf3, hX3, hsg3, hs3, hg3⟩
      have hR3 := hR2.grown hg3 (by simp; omega)
      have hG3 := grown_trans hG2 hg3
      have ho23 := ho2.src hg3 (by omega)
      have hX23 := hX2.src hg3 (by omega)
      have hw3 : w.heap.size + 1 ≤ w3.heap.size := by have := hG3.size; have := hR3.lt; omega
      clear hs1 hR1 hG1 hs2 hR2 hG2 hg2 hg3 ho2 hX2
      have hbA := below_al (below_al (Below.refl w3.heap.size w3) (.cells #[.slice a1 n c1, .slice a2 n c2] 26)) (.cells #[.slice a3 k c3, .slice a4 k c4] 26)
      have hP := (Loc.new w3 rfl #[.slice a1 n c1, .slice a2 n c2] 26).alloc (.cells #[.slice a3 k c3, .slice a4 k c4] 26)
      have hQ := Loc.new (w3.alloc (.cells #[.slice a1 n c1, .slice a2 n c2] 26)) (b := w3.heap.size + 1) (by simp) #[.slice a3 k c3, .slice a4 k c4] 26
      obtain ⟨wA, hwA⟩ : ∃ wA, (w3.alloc (.cells #[.slice a1 n c1, .slice a2 n c2] 26)).alloc (.cells #[.slice a3 k c3, .slice a4 k c4] 26) = wA := ⟨_, rfl⟩
      rw [hwA] at hbA hP hQ
      have HWA := Lib.hid hwA
      clear hwA
      have hsA := hs3.below hbA
      have hRA := hR3.below hbA hR3.lt
      have hGA := grown_below hG3 hbA hG3.size
      have hAz : w3.heap.size + 1 < wA.heap.size := hQ.lt
      have t1 : Tbl (wA.drewN 1) a1 n f := (ho23.tbl.below hbA).drewN 1
      have t2 : Tbl wA a2 n g := hX23.now.below hbA
      have t3 : Tbl (wA.drewN 1) a3 k f3 := (ho3.tbl.below hbA).drewN 1
      have t4 : Tbl wA a4 k g3 := hX3.now.below hbA
      obtain ⟨N, hN⟩ : ∃ N, n * k = N := ⟨_, rfl⟩
      have hN8 : N ≤ 8 := by rw [← hN]; exact Nat.mul_le_mul hn4 hk2
      have hN1 : 1 ≤ N := by rw [← hN]; exact Nat.mul_pos hn1 hk1
      have hNm : N ≤ most := by omega
      have HNK := Lib.hid hN
      clear hN
      have HP1 : Hid (∀ V, Tbl V a1 n f → Tbl V a3 k f3 → Calls Tryz.prog 121 #[.slice a1 n c1, .slice a3 k c3] V fun e w' => ∃ a c vs, e = .returned (.slice a N c) ∧ OwnT w' V.heap.size a N c vs (proT n k f f3) ∧ Below V.heap.size V w') := Lib.hid fun V h1 h2 => pro_of n k N HNK.out hn1 hk1 (by omega) hsf hsf3 a1 a3 c1 c3 V h1 h2
      have HP2 : Hid (∀ V, Tbl V a2 n g → Tbl V a4 k g3 → Calls Tryz.prog 121 #[.slice a2 n c2, .slice a4 k c4] V fun e w' => ∃ a c vs, e = .returned (.slice a N c) ∧ OwnT w' V.heap.size a N c vs (proT n k g g3) ∧ Below V.heap.size V w') := Lib.hid fun V h1 h2 => pro_of n k N HNK.out hn1 hk1 (by omega) hsg hsg3 a2 a4 c2 c4 V h1 h2
      have hq1 : Sq N (proT n k f f3) := by rw [← HNK.out]; exact proT_sq hsf hsf3
      have hq2 : Sq N (proT n k g g3) := by rw [← HNK.out]; exact proT_sq hsg hsg3
      have lS : (fun v => v.cell? ⟨w3.heap.size, 0, none⟩ = some (.slice a1 n c1) ∧ v.cell? ⟨w3.heap.size, 1, none⟩ = some (.slice a2 n c2) ∧ v.cell? ⟨w3.heap.size + 1, 0, none⟩ = some (.slice a3 k c3) ∧ v.cell? ⟨w3.heap.size + 1, 1, none⟩ = some (.slice a4 k c4)) wA := ⟨hP.two.1, hP.two.2.1, hQ.two.1, hQ.two.2.1⟩
      have tok1 : True := trivial
      clear ho23 hX23 ho3 hX3 hs3 hR3 hG3 hbA hsf hsf3 hsg hsg3
      go_upto_region 18 with fail
      try rw [HWA.out]
      go_region_held3 (fun v => v.cell? ⟨w3.heap.size, 0, none⟩ = some (.slice a1 n c1) ∧ v.cell? ⟨w3.heap.size, 1, none⟩ = some (.slice a2 n c2) ∧ v.cell? ⟨w3.heap.size + 1, 0, none⟩ = some (.slice a3 k c3) ∧ v.cell? ⟨w3.heap.size + 1, 1, none⟩ = some (.slice a4 k c4)) (first | exact lS | exact lSC | exact lSD | exact lSE | go_keep) (first
        | (go_at_call 121; have _t := tok1; clear _t tok1; have tok2 : True := trivial; refine (HP1.out _ t1 t3).mono ?_; rintro e wC ⟨aC, cC, vsC, rfl, hoC, hbC⟩; have hbRC : Below wA.heap.size wA wC := (below_drewN (Below.refl _ _) 1).trans hbC; have hPC := hP.below hbRC hP.lt; have hQC := hQ.below hbRC hQ.lt; have lSC : (fun v => v.cell? ⟨w3.heap.size, 0, none⟩ = some (.slice a1 n c1) ∧ v.cell? ⟨w3.heap.size, 1, none⟩ = some (.slice a2 n c2) ∧ v.cell? ⟨w3.heap.size + 1, 0, none⟩ = some (.slice a3 k c3) ∧ v.cell? ⟨w3.heap.size + 1, 1, none⟩ = some (.slice a4 k c4)) wC := ⟨hPC.two.1, hPC.two.2.1, hQC.two.1, hQC.two.2.1⟩; have t2C := t2.below hbRC; have t4C := t4.below hbRC; have hRC := hRA.below hbRC hRA.lt; have hsC := hsA.below hbRC; have hGC := grown_below hGA hbRC hGA.size; have hzC : wA.heap.size ≤ wC.heap.size := hbRC.size)
        | (go_at_call 121; have _t := tok2; clear _t tok2; refine (HP2.out _ t2C t4C).mono ?_; rintro e wD ⟨aD, cD, vsD, rfl, hoD, hbD⟩; have hPD := hPC.below hbD hPC.lt; have hQD := hQC.below hbD hQC.lt; have lSD : (fun v => v.cell? ⟨w3.heap.size, 0, none⟩ = some (.slice a1 n c1) ∧ v.cell? ⟨w3.heap.size, 1, none⟩ = some (.slice a2 n c2) ∧ v.cell? ⟨w3.heap.size + 1, 0, none⟩ = some (.slice a3 k c3) ∧ v.cell? ⟨w3.heap.size + 1, 1, none⟩ = some (.slice a4 k c4)) wD := ⟨hPD.two.1, hPD.two.2.1, hQD.two.1, hQD.two.2.1⟩; have hRD := hRC.below hbD hRC.lt; have lRD := hRD.two; have hPE := (hPD.setne (a := ⟨w.heap.size, 0, none⟩) (by show w3.heap.size ≠ w.heap.size; omega) (.slice aC N cC)).setne (a := ⟨w.heap.size, 1, none⟩) (by show w3.heap.size ≠ w.heap.size; omega) (.slice aD N cD); have hQE := (hQD.setne (a := ⟨w.heap.size, 0, none⟩) (by show w3.heap.size + 1 ≠ w.heap.size; omega) (.slice aC N cC)).setne (a := ⟨w.heap.size, 1, none⟩) (by show w3.heap.size + 1 ≠ w.heap.size; omega) (.slice aD N cD); have lSE : (fun v => v.cell? ⟨w3.heap.size, 0, none⟩ = some (.slice a1 n c1) ∧ v.cell? ⟨w3.heap.size, 1, none⟩ = some (.slice a2 n c2) ∧ v.cell? ⟨w3.heap.size + 1, 0, none⟩ = some (.slice a3 k c3) ∧ v.cell? ⟨w3.heap.size + 1, 1, none⟩ = some (.slice a4 k c4)) ((wD.setCell ⟨w.heap.size, 0, none⟩ (.slice aC N cC)).setCell ⟨w.heap.size, 1, none⟩ (.slice aD N cD)) := ⟨hPE.two.1, hPE.two.2.1, hQE.two.1, hQE.two.2.1⟩))
      all_goals
        have hoC1 := (hoC.below hbD).mono (show w.heap.size + 1 ≤ (wA.drewN 1).heap.size by show w.heap.size + 1 ≤ wA.heap.size; omega)
        have h1hi := hoC.uHi
        have h2lo := hoD.uLo
        have hW := FIN.out wD aC N cC vsC _ aD cD _ hN1 hNm hoC1 hq1 (TbX.own hoD (by omega) fun g h1 h2 => by have := h1hi g h1; have := h2lo g h2; omega) hq2 (hsC.below hbD) (grown_below hGC hbD hGC.size)
        go_wp2
        exact bodyPost_ret (v := sAgg aC N cC aD N cD) (by simp [results, Tryz.results91, go_sem, lRD]) rfl hW
    have h88i : ¬ (8 : Int) ≤ (most : Int) := by omega
    have h7 : (most : Int) ≤ 7 := by omega
    go_wp2_with fail
    refine (l01Next_ok b (most : Int) w1 hs1 ⟨by omega, by omega⟩).mono ?_
    rintro e w5 ⟨x, rfl, _, hx, hs5, hg5⟩
    obtain ⟨hx1, hx2⟩ := hx (by omega)
    have hR5 := hR1.grown hg5 (by simp; omega)
    have hG5 := grown_trans hG1 hg5
    have hw5 : w.heap.size + 1 ≤ w5.heap.size := by have := hg5.size; omega
    obtain ⟨n, hn⟩ : ∃ n : Nat, 1 + x = (n : Int) := ⟨(1 + x).toNat, by omega⟩
    have hn1 : 1 ≤ n := by omega
    have hn7 : n ≤ 7 := by omega
    have hnm : n ≤ most := by omega
    have hwn : IntKind.i64.wrap (n : Int) = (n : Int) := IntWalk.i64_in _ ⟨by omega, by omega⟩
    clear hx hg5
    go_wp2_with fail
    refine (l10Named_any n w5 hn1 (by omega)).mono ?_
    rintro e w6 ⟨a6, N, c6, us, rfl, hN6, hb6⟩
    obtain ⟨hl1, hl2, hall⟩ := nmd_sq n hn1 (by omega)
    rw [← hN6.len] at hl1 hl2
    have hs6 := hs5.below hb6
    have hR6 := hR5.below hb6 hR5.lt
    have hG6 := grown_below hG5 hb6 hG5.size
    have hN6 := hN6.mono hw5
    clear hn hx1 hx2 hwn hs5 hR5 hG5
    have hN0 : (0 : Int) ≤ (N : Int) := by omega
    go_wp2_with fail
    refine (l01Next_ok b (N : Int) w6 hs6 ⟨by omega, by omega⟩).mono ?_
    rintro e w7 ⟨x, rfl, _, hx, hs7, hg7⟩
    obtain ⟨hx1, hx2⟩ := hx (by omega)
    obtain ⟨k, rfl⟩ : ∃ k : Nat, x = (k : Int) := ⟨x.toNat, by omega⟩
    have hkN : k < N := by omega
    have hN7 := hN6.src hg7 (by omega)
    have hR7 := hR6.grown hg7 (by simp; omega)
    have hG7 := grown_trans hG6 hg7
    obtain ⟨hb_, ho_, hae, _, kc⟩ := hN7.hd.read.2 k hkN
    subst hae
    obtain ⟨vs, ho⟩ := hN7.el k hkN
    obtain ⟨t, HT⟩ : ∃ t, Hid ((nmdL n).getD k [] = t) := ⟨_, Lib.hid rfl⟩
    rw [HT.out] at ho
    have hmem : t ∈ nmdL n := by rw [← HT.out, getD_atL (by rw [← hN7.len]; exact hkN)]; exact List.getElem_mem _
    have hsq := tabB_ok (hall t hmem)
    have hok := nmd_ok n hn1 hn7 t hmem
    obtain ⟨⟨ua, un, uc⟩, HU⟩ : ∃ u, Hid (us.getD k svO = u) := ⟨_, Lib.hid rfl⟩
    rw [HU.out] at ho kc
    change w7.cell? _ = some (.slice ua un uc) at kc
    change OwnT w7 (w.heap.size + 1) ua un uc vs t at ho
    obtain rfl : un = n := by rw [ho.len]; exact hsq.1
    have hw7 : w.heap.size + 1 ≤ w7.heap.size := by have := hG7.size; have := hR7.lt; omega
    have HHI : Hid (∀ g, TblS ua un vs g → g < w7.heap.size) := Lib.hid ho.uHi
    clear hx hx1 hx2 hN6 hg7 hs6 hR6 hG6 hall hmem
    have hC := l13Circles_any un uc t hsq hn1 hn7 hok ua w7 ho.tbl
    clear hok
    go_wp2_with fail
    refine hC.mono ?_
    rintro e w8 ⟨aL, NL, cL, vL, L, rfl, hL, hNL1, hNL2, hLs, hb8⟩
    have hs8 := hs7.below hb8
    have hR8 := hR7.below hb8 hR7.lt
    have hG8 := grown_below hG7 hb8 hG7.size
    have ho8 := ho.below hb8
    clear hC kc hN7 ho hs7 hR7 hG7
    have hNL0 : (0 : Int) ≤ (NL : Int) := by omega
    go_wp2_with fail
    refine (l01Next_ok b (NL : Int) w8 hs8 ⟨by omega, by omega⟩).mono ?_
    rintro e w9 ⟨x, rfl, _, hx, hs9, hg9⟩
    obtain ⟨hx1, hx2⟩ := hx (by omega)
    obtain ⟨k2, rfl⟩ : ∃ k : Nat, x = (k : Int) := ⟨x.toNat, by omega⟩
    have hk2 : k2 < NL := by omega
    have hL9 := hL.src hg9 (by omega)
    have hR9 := hR8.grown hg9 (by simp; omega)
    have hG9 := grown_trans hG8 hg9
    have ho9 := ho8.src hg9 (by omega)
    have hw9 : w.heap.size + 1 ≤ w9.heap.size := by have := hG9.size; have := hR9.lt; omega
    obtain ⟨lb_, lo_, hle, _, kc⟩ := hL9.now.hd.2 k2 hk2
    subst hle
    have hX9 := hL9.tbX (lo := w.heap.size + 1) (S := TblS ua un vs) hk2 (by omega) (fun g hg => HHI.out g hg)
    have hsg := hLs k2 hk2
    obtain ⟨g, HGG⟩ : ∃ g, Hid (L.getD k2 [] = g) := ⟨_, Lib.hid rfl⟩
    obtain ⟨⟨va, vn, vc⟩, HV⟩ : ∃ u, Hid (vL.getD k2 svO = u) := ⟨_, Lib.hid rfl⟩
    rw [HGG.out] at hX9 hsg
    rw [HV.out] at hX9 kc
    change w9.cell? _ = some (.slice va vn vc) at kc
    change TbX w9 (w.heap.size + 1) (TblS ua un vs) va vn g at hX9
    obtain rfl : vn = un := by rw [hX9.now.len]; exact hsg.1
    clear hx hx1 hx2 hL hL9 hg9 hs8 hR8 hG8 ho8 hLs hNL0
    have hbA := below_al (Below.refl w9.heap.size w9) (.cells #[.slice ua vn uc, .slice va vn vc] 26)
    have hP := Loc.new w9 rfl #[.slice ua vn uc, .slice va vn vc] 26
    have hzA : (w9.alloc (.cells #[.slice ua vn uc, .slice va vn vc] 26)).heap.size = w9.heap.size + 1 := by simp
    obtain ⟨wA, hwA⟩ : ∃ wA, w9.alloc (.cells #[.slice ua vn uc, .slice va vn vc] 26) = wA := ⟨_, rfl⟩
    rw [hwA] at hbA hP hzA
    have HWA := Lib.hid hwA
    have HZA := Lib.hid hzA
    have hsA := hs9.below hbA
    have hRA := hR9.below hbA hR9.lt
    have hGA := grown_below hG9 hbA hG9.size
    have hoA := ho9.below hbA
    have hXA := hX9.below hbA
    clear hwA hzA
    by_cases hn2 : (vn : Int) ≤ 1
    · have hW := FIN.out wA ua vn uc vs t va vc g hn1 hnm hoA hsq hXA hsg hsA hGA
      have lR := hRA.two
      have lP := hP.two
      rw [← HWA.out] at hW lR lP
      go_wp2
      exact bodyPost_ret (v := sAgg ua vn uc va vn vc) (by simp [results, Tryz.results91, go_sem, lR]) rfl hW
    have hn3 : (1 : Int) < (vn : Int) := by omega
    obtain ⟨m, hm⟩ : ∃ m, vn = m + 1 := ⟨vn - 1, by omega⟩
    have HM := Lib.hid hm
    have HM1 : Hid ((vn : Int) - 1 = (m : Int)) := Lib.hid (by omega)
    have HWM : Hid (IntKind.i64.wrap (m : Int) = (m : Int)) := Lib.hid (IntWalk.i64_in _ ⟨by omega, by omega⟩)
    clear hm
    go_wp2_with fail
    try rw [HWA.out]
    refine (l01Next_ok b 2 wA hsA ⟨by omega, by omega⟩).mono ?_
    rintro e w4 ⟨y, rfl, _, hy, hs4, hg4⟩
    obtain ⟨hy1, hy2⟩ := hy (by omega)
    have hR4 := hRA.grown hg4 (by simp; omega)
    have hP4 := hP.grown hg4 (by simp; omega)
    have hG4 := grown_trans hGA hg4
    have ho4 := hoA.src hg4 (by omega)
    have hX4 := hXA.src hg4 (by omega)
    have hw4 : w.heap.size + 1 ≤ w4.heap.size := by have := hG4.size; have := hR4.lt; omega
    have HZ4 : Hid (w9.heap.size < w4.heap.size) := Lib.hid hP4.lt
    clear hy hsA hRA hP hGA hoA hXA hg4 kc hX9 ho9 hG9 hR9 hs9
    by_cases y0 : y = 0
    · have e4 : (y == 0) = true := by simp [y0]
      clear y0
      have hp0 := Own.one w4 rfl 0
      have hbp := below_al (Below.refl w4.heap.size w4) (.cells #[.int .i64 0] 2)
      obtain ⟨wB, hwB⟩ : ∃ wB, w4.alloc (.cells #[.int .i64 0] 2) = wB := ⟨_, rfl⟩
      have HWB := Lib.hid hwB
      have HZB : Hid (w4.heap.size < wB.heap.size) := Lib.hid (by rw [← hwB, size_alloc]; omega)
      rw [hwB] at hp0 hbp
      have hsB := hs4.below hbp
      have hoB := ho4.below hbp
      have hXB := hX4.below hbp
      have hRB := hR4.below hbp hR4.lt
      have hPB := hP4.below hbp hP4.lt
      have hGB := grown_below hG4 hbp hG4.size
      have HIQ := Lib.hid ho4.uHi
      have HX4 : Hid (∀ V : World, (∀ k, w.heap.size + 1 ≤ k → k < w4.heap.size → V.heap[k]? = w4.heap[k]?) → Tbl V va vn g) := Lib.hid fun V hV => hX4 V fun k h1 h2 _ => hV k h1 h2
      have hm1 := HM1.out
      have hwm := HWM.out
      have hDP := l03DrawPerm_ok b m wB hsB (by have := HM.out; omega)
      clear hwB ho4 hX4 hR4 hP4 hG4 hs4
      go_wp2_with fail
      try rw [HWB.out]
      refine hDP.mono ?_
      rintro e w6 ⟨a6, c6, q, rfl, hq, hor6, hs6, hg6⟩
      clear hm1 hwm hDP
      have hp6 := hp0.src hg6 (by omega)
      have ho6 := hoB.src hg6 (by omega)
      have hX6 := hXB.src hg6 (by omega)
      have hR6 := hRB.grown hg6 (by simp; omega)
      have hP6 := hPB.grown hg6 (by simp; have := HZ4.out; omega)
      have hG6 := grown_trans hGB hg6
      have HQ := Lib.hid hq.len
      have HQM := Lib.hid hq.mem
      have hm7 : m ≤ 7 := by have := HM.out; omega
      have hz6 : wB.heap.size ≤ w6.heap.size := hg6.size
      have HB46 : Hid (∀ k, w.heap.size + 1 ≤ k → k < w4.heap.size → w6.heap[k]? = w4.heap[k]?) := Lib.hid fun k h1 h2 => (hg6.block k (Nat.lt_of_lt_of_le h2 hbp.size) (fun e => by cases e; omega)).trans (hbp.block k h2)
      clear hsB hoB hXB hRB hPB hGB hp0 hg6 hbp
      have hw4b : b < w4.heap.size := by omega
      have hap : Apr a6 (some ⟨w4.heap.size, 0, none⟩) := fun g e1 e2 => by cases e2; have := hor6.lo _ e1; have := HZB.out; omega
      have hbz : Below w4.heap.size w6 w6 := ⟨rfl, rfl, rfl, Nat.le_refl _, fun _ _ => rfl⟩
      have hw46 : w4.heap.size ≤ w6.heap.size := by have := HZB.out; omega
      have HXT : Hid (∀ V, Below w4.heap.size w6 V → Tbl V va vn g) := Lib.hid fun V hV => HX4.out V fun k h1 h2 => (hV.block k h2).trans (HB46.out k h1 h2)
      go_wp2
      go_loopw [16, 18] (fun s i wq => ∃ (j : Nat) (ar : Option Addr) (cr : Nat), j ≤ m ∧ i = .int .i64 j ∧ s = .slice ar (1 + j) cr ∧ Own wq w4.heap.size ar (1 + j) cr (0 :: (q.take j).map (· + 1)) ∧ Own wq wB.heap.size a6 m c6 q ∧ Apr a6 ar ∧ Below w4.heap.size w6 wq) (fun _ i _ => m - (intOf i).toNat)
      case atStart => exact ⟨0, _, 1, Nat.zero_le _, rfl, rfl, by simpa using hp6, hor6, hap, hbz⟩
      case round =>
        clear hp6 hor6 hap hbz
        obtain ⟨j, ar, cr, hj, rfl, rfl, hp, hor, hap, hbq⟩ := hrel
        obtain ⟨R, rfl⟩ : ∃ R : World, R = wr := ⟨_, rfl⟩
        have hRs := hbq.size
        by_cases hlt : j < m
        · have hjq : j < q.length := by have := HQ.out; omega
          have HST := Lib.hid (upL_take q hjq)
          obtain ⟨_, _, e9, f1⟩ := hor.row.at j hlt
          obtain ⟨v, HV⟩ : ∃ v, Hid (q.getD j 0 = v) := ⟨_, Lib.hid rfl⟩
          have hv := HQM.out _ (List.getElem_mem hjq)
          rw [← getD_at hjq, HV.out] at hv
          rw [HV.out] at f1 HST
          subst e9
          have i1 : (0 : Int) ≤ (j : Int) := by omega
          have i2 : (j : Int) < (m : Int) := by omega
          have hwv : IntKind.i64.wrap (v + 1) = v + 1 := IntWalk.i64_in _ ⟨by omega, by omega⟩
          have HWV := Lib.hid hwv
          clear hwv
          have hln : 1 + j + 1 ≤ 1000000000000 := by omega
          have hw4R : w4.heap.size ≤ R.heap.size := by omega
          have hwv := HWV.out
          go_wp2_with (at_builtin; refine app1h rfl rfl hp rfl rfl hln hw4R ?_; intro g' cc w8 hO8 hg8 hat8 hb8)
          clear hwv
          have hor8 := Own.beside hor hp hap hg8
          have hap8 := Own.apart hor hp hap hat8
          go_roundw
          case rel => exact ⟨j + 1, _, cc, by omega, by go_num, rfl, by rw [HST.out]; exact hO8, hor8, hap8, hbq.trans hb8⟩
          case measure => simp [intOf]; omega
        · obtain rfl : m = j := by omega
          rw [List.take_of_length_le (by have := HQ.out; omega)] at hp
          have hoR := ho6.keep (w' := R) fun g hg hlt => hbq.block g (HIQ.out g hg)
          have hsR := hs6.keepB hbq hw4b
          have hGR := grown_below hG6 hbq (by omega)
          have hRR := hR6.below hbq (by omega)
          have hPR := hP6.below hbq HZ4.out
          have hXR : Tbl R va vn g := HXT.out R hbq
          have hPn : IsP vn (upL q) := by have h9 := upL_isP hq; rw [← HM.out] at h9; exact h9
          have hr1 : Row R ar vn (upL q) := by have h9 := hp.row; rw [show 1 + m = vn by have := HM.out; omega] at h9; exact h9
          have hum : 1 + m = vn := by have := HM.out; omega
          have HUM := Lib.hid hum
          clear hum
          have HPN := Lib.hid hPn; have HSQ := Lib.hid hsq; have HSG := Lib.hid hsg
          have hPl := HZ4.out
          have hRw : w.heap.size + 1 ≤ R.heap.size := by omega
          have hPR2 : w9.heap.size < R.heap.size := by omega
          have lPR : (fun v => v.cell? ⟨w9.heap.size, 0, none⟩ = some (.slice ua vn uc) ∧ v.cell? ⟨w9.heap.size, 1, none⟩ = some (.slice va vn vc)) R := ⟨hPR.two.1, hPR.two.2.1⟩
          have tU : Tbl (R.drewN 1) ua vn t := hoR.tbl
          have tR : Row (R.drewN 1) ar vn (upL q) := hr1
          have tok1 : True := trivial
          have hn0 : 1 ≤ vn := hn1
          have hn12 : vn ≤ 12 := by omega
          clear hPn hsq hsg hor hap hbq hr1
          go_upto_region 30 with fail
          try rw [HUM.out]
          go_region_law (first
            | (go_simp; go_at_call 125; have _t := tok1; clear _t tok1; have tok2 : True := trivial; refine (l03Image_any vn ua ar uc cr t (upL q) _ tU tR HSQ.out HPN.out hn0 hn12).mono ?_; rintro e wC ⟨aC, cC, vsC, rfl, hoC, hbC⟩; have hbRC : Below R.heap.size R wC := (below_drewN (Below.refl _ _) 1).trans hbC; have hPC := hPR.below hbRC hPR2; have lPC : (fun v => v.cell? ⟨w9.heap.size, 0, none⟩ = some (.slice ua vn uc) ∧ v.cell? ⟨w9.heap.size, 1, none⟩ = some (.slice va vn vc)) wC := ⟨hPC.two.1, hPC.two.2.1⟩; have tV := hXR.below hbRC; have tRC : Row wC ar vn (upL q) := tR.below hbC; have hRC := hRR.below hbRC hRR.lt; have hsC := hsR.below hbRC; have hGC := grown_below hGR hbRC hGR.size; have hzC : R.heap.size ≤ wC.heap.size := hbRC.size)
            | (go_simp; go_at_call 125; have _t := tok2; clear _t tok2; refine (l03Image_any vn va ar vc cr g (upL q) _ tV tRC HSG.out HPN.out hn0 hn12).mono ?_; rintro e wD ⟨aD, cD, vsD, rfl, hoD, hbD⟩; have hPD := hPC.below hbD hPC.lt; have lPD : (fun v => v.cell? ⟨w9.heap.size, 0, none⟩ = some (.slice ua vn uc) ∧ v.cell? ⟨w9.heap.size, 1, none⟩ = some (.slice va vn vc)) wD := ⟨hPD.two.1, hPD.two.2.1⟩; have lPE := hPD.two; have hPS := (hPD.set 0 (.slice aC vn cC)).set 1 (.slice aD vn cD); have lPS := hPS.two; have hRD := hRC.below hbD hRC.lt; have hRS := (hRD.setne (a := ⟨w9.heap.size, 0, none⟩) (by show w.heap.size ≠ w9.heap.size; omega) (.slice aC vn cC)).setne (a := ⟨w9.heap.size, 1, none⟩) (by show w.heap.size ≠ w9.heap.size; omega) (.slice aD vn cD); have lRS := hRS.two))
          all_goals
            have hCR : R.heap.size ≤ (R.drewN 1).heap.size := Nat.le_refl _
            have hoC1 := (hoC.below hbD).mono hCR
            have hoD1 := hoD.mono (lo' := R.heap.size) hzC
            have h1hi := hoC.uHi
            have h2lo := hoD.uLo
            have hoC2 := ((hoC1.setlo (p := ⟨w9.heap.size, 0, none⟩) hPR2 (.slice aC vn cC)).setlo (p := ⟨w9.heap.size, 1, none⟩) hPR2 (.slice aD vn cD)).mono hRw
            have hoD2 := ((hoD1.setlo (p := ⟨w9.heap.size, 0, none⟩) hPR2 (.slice aC vn cC)).setlo (p := ⟨w9.heap.size, 1, none⟩) hPR2 (.slice aD vn cD)).mono hRw
            have hsD := ((hsC.below hbD).setne (p := ⟨w9.heap.size, 0, none⟩) (by show b < w9.heap.size; omega) (.slice aC vn cC)).setne (p := ⟨w9.heap.size, 1, none⟩) (by show b < w9.heap.size; omega) (.slice aD vn cD)
            have hGD := grown_set (p := ⟨w9.heap.size, 1, none⟩) (grown_set (p := ⟨w9.heap.size, 0, none⟩) (grown_below hGC hbD hGC.size) (.inr (by show w.heap.size ≤ w9.heap.size; omega)) (.slice aC vn cC)) (.inr (by show w.heap.size ≤ w9.heap.size; omega)) (.slice aD vn cD)
            have hW := FIN.out _ aC vn cC vsC _ aD cD _ hn1 hnm hoC2 (rnL_sqP HPN.out HSQ.out) (TbX.own hoD2 (Nat.le_refl _) fun g h1 h2 => by have := h1hi g h1; have := h2lo g h2; omega) (rnL_sqP HPN.out HSG.out) hsD hGD
            go_wp2
            exact bodyPost_ret (v := sAgg aC vn cC aD vn cD) (by simp [results, Tryz.results91, go_sem, lRS]) rfl hW
    · have e4 : (y == 0) = false := by simp [y0]
      clear y0
      have hW := FIN.out w4 ua vn uc vs t va vc g hn1 hnm ho4 hsq hX4 hsg hs4 hG4
      have lR := hR4.two
      have lP := hP4.two
      go_wp2
      exact bodyPost_ret (v := sAgg ua vn uc va vn vc) (by simp [results, Tryz.results91, go_sem, lR]) rfl hW
  have e2 : (z == 2) = false := by simp [z2]
  clear z2
  by_cases h7 : (most : Int) ≤ 7
  · go_wp2_with fail
    refine (l01Next_ok b (most : Int) w1 hs1 ⟨by omega, by omega⟩).mono ?_
    rintro e w5 ⟨x, rfl, _, hx, hs5, hg5⟩
    obtain ⟨hx1, hx2⟩ := hx (by omega)
    have hR5 := hR1.grown hg5 (by simp; omega)
    have hG5 := grown_trans hG1 hg5
    have hw5 : w.heap.size + 1 ≤ w5.heap.size := by have := hg5.size; omega
    obtain ⟨n, hn⟩ : ∃ n : Nat, 1 + x = (n : Int) := ⟨(1 + x).toNat, by omega⟩
    have hn1 : 1 ≤ n := by omega
    have hn7 : n ≤ 7 := by omega
    have hnm : n ≤ most := by omega
    have hwn : IntKind.i64.wrap (n : Int) = (n : Int) := IntWalk.i64_in _ ⟨by omega, by omega⟩
    clear hx hg5
    go_wp2_with fail
    refine (l10Named_any n w5 hn1 (by omega)).mono ?_
    rintro e w6 ⟨a6, N, c6, us, rfl, hN6, hb6⟩
    obtain ⟨hl1, hl2, hall⟩ := nmd_sq n hn1 (by omega)
    rw [← hN6.len] at hl1 hl2
    have hs6 := hs5.below hb6
    have hR6 := hR5.below hb6 hR5.lt
    have hG6 := grown_below hG5 hb6 hG5.size
    have hN6 := hN6.mono hw5
    clear hn hx1 hx2 hwn hs5 hR5 hG5
    have hN0 : (0 : Int) ≤ (N : Int) := by omega
    go_wp2_with fail
    refine (l01Next_ok b (N : Int) w6 hs6 ⟨by omega, by omega⟩).mono ?_
    rintro e w7 ⟨x, rfl, _, hx, hs7, hg7⟩
    obtain ⟨hx1, hx2⟩ := hx (by omega)
    obtain ⟨k, rfl⟩ : ∃ k : Nat, x = (k : Int) := ⟨x.toNat, by omega⟩
    have hkN : k < N := by omega
    have hN7 := hN6.src hg7 (by omega)
    have hR7 := hR6.grown hg7 (by simp; omega)
    have hG7 := grown_trans hG6 hg7
    obtain ⟨hb_, ho_, hae, _, kc⟩ := hN7.hd.read.2 k hkN
    subst hae
    obtain ⟨vs, ho⟩ := hN7.el k hkN
    obtain ⟨t, HT⟩ : ∃ t, Hid ((nmdL n).getD k [] = t) := ⟨_, Lib.hid rfl⟩
    rw [HT.out] at ho
    have hmem : t ∈ nmdL n := by rw [← HT.out, getD_atL (by rw [← hN7.len]; exact hkN)]; exact List.getElem_mem _
    have hsq := tabB_ok (hall t hmem)
    have hok := nmd_ok n hn1 hn7 t hmem
    obtain ⟨⟨ua, un, uc⟩, HU⟩ : ∃ u, Hid (us.getD k svO = u) := ⟨_, Lib.hid rfl⟩
    rw [HU.out] at ho kc
    change w7.cell? _ = some (.slice ua un uc) at kc
    change OwnT w7 (w.heap.size + 1) ua un uc vs t at ho
    obtain rfl : un = n := by rw [ho.len]; exact hsq.1
    have hw7 : w.heap.size + 1 ≤ w7.heap.size := by have := hG7.size; have := hR7.lt; omega
    have HHI : Hid (∀ g, TblS ua un vs g → g < w7.heap.size) := Lib.hid ho.uHi
    clear hx hx1 hx2 hN6 hg7 hs6 hR6 hG6 hall hmem
    have hC := l13Circles_any un uc t hsq hn1 hn7 hok ua w7 ho.tbl
    clear hok
    go_wp2_with fail
    refine hC.mono ?_
    rintro e w8 ⟨aL, NL, cL, vL, L, rfl, hL, hNL1, hNL2, hLs, hb8⟩
    have hs8 := hs7.below hb8
    have hR8 := hR7.below hb8 hR7.lt
    have hG8 := grown_below hG7 hb8 hG7.size
    have ho8 := ho.below hb8
    clear hC kc hN7 ho hs7 hR7 hG7
    have hNL0 : (0 : Int) ≤ (NL : Int) := by omega
    go_wp2_with fail
    refine (l01Next_ok b (NL : Int) w8 hs8 ⟨by omega, by omega⟩).mono ?_
    rintro e w9 ⟨x, rfl, _, hx, hs9, hg9⟩
    obtain ⟨hx1, hx2⟩ := hx (by omega)
    obtain ⟨k2, rfl⟩ : ∃ k : Nat, x = (k : Int) := ⟨x.toNat, by omega⟩
    have hk2 : k2 < NL := by omega
    have hL9 := hL.src hg9 (by omega)
    have hR9 := hR8.grown hg9 (by simp; omega)
    have hG9 := grown_trans hG8 hg9
    have ho9 := ho8.src hg9 (by omega)
    have hw9 : w.heap.size + 1 ≤ w9.heap.size := by have := hG9.size; have := hR9.lt; omega
    obtain ⟨lb_, lo_, hle, _, kc⟩ := hL9.now.hd.2 k2 hk2
    subst hle
    have hX9 := hL9.tbX (lo := w.heap.size + 1) (S := TblS ua un vs) hk2 (by omega) (fun g hg => HHI.out g hg)
    have hsg := hLs k2 hk2
    obtain ⟨g, HGG⟩ : ∃ g, Hid (L.getD k2 [] = g) := ⟨_, Lib.hid rfl⟩
    obtain ⟨⟨va, vn, vc⟩, HV⟩ : ∃ u, Hid (vL.getD k2 svO = u) := ⟨_, Lib.hid rfl⟩
    rw [HGG.out] at hX9 hsg
    rw [HV.out] at hX9 kc
    change w9.cell? _ = some (.slice va vn vc) at kc
    change TbX w9 (w.heap.size + 1) (TblS ua un vs) va vn g at hX9
    obtain rfl : vn = un := by rw [hX9.now.len]; exact hsg.1
    clear hx hx1 hx2 hL hL9 hg9 hs8 hR8 hG8 ho8 hLs hNL0
    have hbA := below_al (Below.refl w9.heap.size w9) (.cells #[.slice ua vn uc, .slice va vn vc] 26)
    have hP := Loc.new w9 rfl #[.slice ua vn uc, .slice va vn vc] 26
    have hzA : (w9.alloc (.cells #[.slice ua vn uc, .slice va vn vc] 26)).heap.size = w9.heap.size + 1 := by simp
    obtain ⟨wA, hwA⟩ : ∃ wA, w9.alloc (.cells #[.slice ua vn uc, .slice va vn vc] 26) = wA := ⟨_, rfl⟩
    rw [hwA] at hbA hP hzA
    have HWA := Lib.hid hwA
    have HZA := Lib.hid hzA
    have hsA := hs9.below hbA
    have hRA := hR9.below hbA hR9.lt
    have hGA := grown_below hG9 hbA hG9.size
    have hoA := ho9.below hbA
    have hXA := hX9.below hbA
    clear hwA hzA
    by_cases hn2 : (vn : Int) ≤ 1
    · have hW := FIN.out wA ua vn uc vs t va vc g hn1 hnm hoA hsq hXA hsg hsA hGA
      have lR := hRA.two
      have lP := hP.two
      rw [← HWA.out] at hW lR lP
      go_wp2
      exact bodyPost_ret (v := sAgg ua vn uc va vn vc) (by simp [results, Tryz.results91, go_sem, lR]) rfl hW
    have hn3 : (1 : Int) < (vn : Int) := by omega
    obtain ⟨m, hm⟩ : ∃ m, vn = m + 1 := ⟨vn - 1, by omega⟩
    have HM := Lib.hid hm
    have HM1 : Hid ((vn : Int) - 1 = (m : Int)) := Lib.hid (by omega)
    have HWM : Hid (IntKind.i64.wrap (m : Int) = (m : Int)) := Lib.hid (IntWalk.i64_in _ ⟨by omega, by omega⟩)
    clear hm
    go_wp2_with fail
    try rw [HWA.out]
    refine (l01Next_ok b 2 wA hsA ⟨by omega, by omega⟩).mono ?_
    rintro e w4 ⟨y, rfl, _, hy, hs4, hg4⟩
    obtain ⟨hy1, hy2⟩ := hy (by omega)
    have hR4 := hRA.grown hg4 (by simp; omega)
    have hP4 := hP.grown hg4 (by simp; omega)
    have hG4 := grown_trans hGA hg4
    have ho4 := hoA.src hg4 (by omega)
    have hX4 := hXA.src hg4 (by omega)
    have hw4 : w.heap.size + 1 ≤ w4.heap.size := by have := hG4.size; have := hR4.lt; omega
    have HZ4 : Hid (w9.heap.size < w4.heap.size) := Lib.hid hP4.lt
    clear hy hsA hRA hP hGA hoA hXA hg4 kc hX9 ho9 hG9 hR9 hs9
    by_cases y0 : y = 0
    · have e4 : (y == 0) = true := by simp [y0]
      clear y0
      have hp0 := Own.one w4 rfl 0
      have hbp := below_al (Below.refl w4.heap.size w4) (.cells #[.int .i64 0] 2)
      obtain ⟨wB, hwB⟩ : ∃ wB, w4.alloc (.cells #[.int .i64 0] 2) = wB := ⟨_, rfl⟩
      have HWB := Lib.hid hwB
      have HZB : Hid (w4.heap.size < wB.heap.size) := Lib.hid (by rw [← hwB, size_alloc]; omega)
      rw [hwB] at hp0 hbp
      have hsB := hs4.below hbp
      have hoB := ho4.below hbp
      have hXB := hX4.below hbp
      have hRB := hR4.below hbp hR4.lt
      have hPB := hP4.below hbp hP4.lt
      have hGB := grown_below hG4 hbp hG4.size
      have HIQ := Lib.hid ho4.uHi
      have HX4 : Hid (∀ V : World, (∀ k, w.heap.size + 1 ≤ k → k < w4.heap.size → V.heap[k]? = w4.heap[k]?) → Tbl V va vn g) := Lib.hid fun V hV => hX4 V fun k h1 h2 _ => hV k h1 h2
      have hm1 := HM1.out
      have hwm := HWM.out
      have hDP := l03DrawPerm_ok b m wB hsB (by have := HM.out; omega)
      clear hwB ho4 hX4 hR4 hP4 hG4 hs4
      go_wp2_with fail
      try rw [HWB.out]
      refine hDP.mono ?_
      rintro e w6 ⟨a6, c6, q, rfl, hq, hor6, hs6, hg6⟩
      clear hm1 hwm hDP
      have hp6 := hp0.src hg6 (by omega)
      have ho6 := hoB.src hg6 (by omega)
      have hX6 := hXB.src hg6 (by omega)
      have hR6 := hRB.grown hg6 (by simp; omega)
      have hP6 := hPB.grown hg6 (by simp; have := HZ4.out; omega)
      have hG6 := grown_trans hGB hg6
      have HQ := Lib.hid hq.len
      have HQM := Lib.hid hq.mem
      have hm7 : m ≤ 7 := by have := HM.out; omega
      have hz6 : wB.heap.size ≤ w6.heap.size := hg6.size
      have HB46 : Hid (∀ k, w.heap.size + 1 ≤ k → k < w4.heap.size → w6.heap[k]? = w4.heap[k]?) := Lib.hid fun k h1 h2 => (hg6.block k (Nat.lt_of_lt_of_le h2 hbp.size) (fun e => by cases e; omega)).trans (hbp.block k h2)
      clear hsB hoB hXB hRB hPB hGB hp0 hg6 hbp
      have hw4b : b < w4.heap.size := by omega
      have hap : Apr a6 (some ⟨w4.heap.size, 0, none⟩) := fun g e1 e2 => by cases e2; have := hor6.lo _ e1; have := HZB.out; omega
      have hbz : Below w4.heap.size w6 w6 := ⟨rfl, rfl, rfl, Nat.le_refl _, fun _ _ => rfl⟩
      have hw46 : w4.heap.size ≤ w6.heap.size := by have := HZB.out; omega
      have HXT : Hid (∀ V, Below w4.heap.size w6 V → Tbl V va vn g) := Lib.hid fun V hV => HX4.out V fun k h1 h2 => (hV.block k h2).trans (HB46.out k h1 h2)
      go_wp2
      go_loopw [16, 18] (fun s i wq => ∃ (j : Nat) (ar : Option Addr) (cr : Nat), j ≤ m ∧ i = .int .i64 j ∧ s = .slice ar (1 + j) cr ∧ Own wq w4.heap.size ar (1 + j) cr (0 :: (q.take j).map (· + 1)) ∧ Own wq wB.heap.size a6 m c6 q ∧ Apr a6 ar ∧ Below w4.heap.size w6 wq) (fun _ i _ => m - (intOf i).toNat)
      case atStart => exact ⟨0, _, 1, Nat.zero_le _, rfl, rfl, by simpa using hp6, hor6, hap, hbz⟩
      case round =>
        clear hp6 hor6 hap hbz
        obtain ⟨j, ar, cr, hj, rfl, rfl, hp, hor, hap, hbq⟩ := hrel
        obtain ⟨R, rfl⟩ : ∃ R : World, R = wr := ⟨_, rfl⟩
        have hRs := hbq.size
        by_cases hlt : j < m
        · have hjq : j < q.length := by have := HQ.out; omega
          have HST := Lib.hid (upL_take q hjq)
          obtain ⟨_, _, e9, f1⟩ := hor.row.at j hlt
          obtain ⟨v, HV⟩ : ∃ v, Hid (q.getD j 0 = v) := ⟨_, Lib.hid rfl⟩
          have hv := HQM.out _ (List.getElem_mem hjq)
          rw [← getD_at hjq, HV.out] at hv
          rw [HV.out] at f1 HST
          subst e9
          have i1 : (0 : Int) ≤ (j : Int) := by omega
          have i2 : (j : Int) < (m : Int) := by omega
          have hwv : IntKind.i64.wrap (v + 1) = v + 1 := IntWalk.i64_in _ ⟨by omega, by omega⟩
          have HWV := Lib.hid hwv
          clear hwv
          have hln : 1 + j + 1 ≤ 1000000000000 := by omega
          have hw4R : w4.heap.size ≤ R.heap.size := by omega
          have hwv := HWV.out
          go_wp2_with (at_builtin; refine app1h rfl rfl hp rfl rfl hln hw4R ?_; intro g' cc w8 hO8 hg8 hat8 hb8)
          clear hwv
          have hor8 := Own.beside hor hp hap hg8
          have hap8 := Own.apart hor hp hap hat8
          go_roundw
          case rel => exact ⟨j + 1, _, cc, by omega, by go_num, rfl, by rw [HST.out]; exact hO8, hor8, hap8, hbq.trans hb8⟩
          case measure => simp [intOf]; omega
        · obtain rfl : m = j := by omega
          rw [List.take_of_length_le (by have := HQ.out; omega)] at hp
          have hoR := ho6.keep (w' := R) fun g hg hlt => hbq.block g (HIQ.out g hg)
          have hsR := hs6.keepB hbq hw4b
          have hGR := grown_below hG6 hbq (by omega)
          have hRR := hR6.below hbq (by omega)
          have hPR := hP6.below hbq HZ4.out
          have hXR : Tbl R va vn g := HXT.out R hbq
          have hPn : IsP vn (upL q) := by have h9 := upL_isP hq; rw [← HM.out] at h9; exact h9
          have hr1 : Row R ar vn (upL q) := by have h9 := hp.row; rw [show 1 + m = vn by have := HM.out; omega] at h9; exact h9
          have hum : 1 + m = vn := by have := HM.out; omega
          have HUM := Lib.hid hum
          clear hum
          have HPN := Lib.hid hPn; have HSQ := Lib.hid hsq; have HSG := Lib.hid hsg
          have hPl := HZ4.out
          have hRw : w.heap.size + 1 ≤ R.heap.size := by omega
          have hPR2 : w9.heap.size < R.heap.size := by omega
          have lPR : (fun v => v.cell? ⟨w9.heap.size, 0, none⟩ = some (.slice ua vn uc) ∧ v.cell? ⟨w9.heap.size, 1, none⟩ = some (.slice va vn vc)) R := ⟨hPR.two.1, hPR.two.2.1⟩
          have tU : Tbl (R.drewN 1) ua vn t := hoR.tbl
          have tR : Row (R.drewN 1) ar vn (upL q) := hr1
          have tok1 : True := trivial
          have hn0 : 1 ≤ vn := hn1
          have hn12 : vn ≤ 12 := by omega
          clear hPn hsq hsg hor hap hbq hr1
          go_upto_region 30 with fail
          try rw [HUM.out]
          go_region_law (first
            | (go_simp; go_at_call 125; have _t := tok1; clear _t tok1; have tok2 : True := trivial; refine (l03Image_any vn ua ar uc cr t (upL q) _ tU tR HSQ.out HPN.out hn0 hn12).mono ?_; rintro e wC ⟨aC, cC, vsC, rfl, hoC, hbC⟩; have hbRC : Below R.heap.size R wC := (below_drewN (Below.refl _ _) 1).trans hbC; have hPC := hPR.below hbRC hPR2; have lPC : (fun v => v.cell? ⟨w9.heap.size, 0, none⟩ = some (.slice ua vn uc) ∧ v.cell? ⟨w9.heap.size, 1, none⟩ = some (.slice va vn vc)) wC := ⟨hPC.two.1, hPC.two.2.1⟩; have tV := hXR.below hbRC; have tRC : Row wC ar vn (upL q) := tR.below hbC; have hRC := hRR.below hbRC hRR.lt; have hsC := hsR.below hbRC; have hGC := grown_below hGR hbRC hGR.size; have hzC : R.heap.size ≤ wC.heap.size := hbRC.size)
            | (go_simp; go_at_call 125; have _t := tok2; clear _t tok2; refine (l03Image_any vn va ar vc cr g (upL q) _ tV tRC HSG.out HPN.out hn0 hn12).mono ?_; rintro e wD ⟨aD, cD, vsD, rfl, hoD, hbD⟩; have hPD := hPC.below hbD hPC.lt; have lPD : (fun v => v.cell? ⟨w9.heap.size, 0, none⟩ = some (.slice ua vn uc) ∧ v.cell? ⟨w9.heap.size, 1, none⟩ = some (.slice va vn vc)) wD := ⟨hPD.two.1, hPD.two.2.1⟩; have lPE := hPD.two; have hPS := (hPD.set 0 (.slice aC vn cC)).set 1 (.slice aD vn cD); have lPS := hPS.two; have hRD := hRC.below hbD hRC.lt; have hRS := (hRD.setne (a := ⟨w9.heap.size, 0, none⟩) (by show w.heap.size ≠ w9.heap.size; omega) (.slice aC vn cC)).setne (a := ⟨w9.heap.size, 1, none⟩) (by show w.heap.size ≠ w9.heap.size; omega) (.slice aD vn cD); have lRS := hRS.two))
          all_goals
            have hCR : R.heap.size ≤ (R.drewN 1).heap.size := Nat.le_refl _
            have hoC1 := (hoC.below hbD).mono hCR
            have hoD1 := hoD.mono (lo' := R.heap.size) hzC
            have h1hi := hoC.uHi
            have h2lo := hoD.uLo
            have hoC2 := ((hoC1.setlo (p := ⟨w9.heap.size, 0, none⟩) hPR2 (.slice aC vn cC)).setlo (p := ⟨w9.heap.size, 1, none⟩) hPR2 (.slice aD vn cD)).mono hRw
            have hoD2 := ((hoD1.setlo (p := ⟨w9.heap.size, 0, none⟩) hPR2 (.slice aC vn cC)).setlo (p := ⟨w9.heap.size, 1, none⟩) hPR2 (.slice aD vn cD)).mono hRw
            have hsD := ((hsC.below hbD).setne (p := ⟨w9.heap.size, 0, none⟩) (by show b < w9.heap.size; omega) (.slice aC vn cC)).setne (p := ⟨w9.heap.size, 1, none⟩) (by show b < w9.heap.size; omega) (.slice aD vn cD)
            have hGD := grown_set (p := ⟨w9.heap.size, 1, none⟩) (grown_set (p := ⟨w9.heap.size, 0, none⟩) (grown_below hGC hbD hGC.size) (.inr (by show w.heap.size ≤ w9.heap.size; omega)) (.slice aC vn cC)) (.inr (by show w.heap.size ≤ w9.heap.size; omega)) (.slice aD vn cD)
            have hW := FIN.out _ aC vn cC vsC _ aD cD _ hn1 hnm hoC2 (rnL_sqP HPN.out HSQ.out) (TbX.own hoD2 (Nat.le_refl _) fun g h1 h2 => by have := h1hi g h1; have := h2lo g h2; omega) (rnL_sqP HPN.out HSG.out) hsD hGD
            go_wp2
            exact bodyPost_ret (v := sAgg aC vn cC aD vn cD) (by simp [results, Tryz.results91, go_sem, lRS]) rfl hW
    · have e4 : (y == 0) = false := by simp [y0]
      clear y0
      have hW := FIN.out w4 ua vn uc vs t va vc g hn1 hnm ho4 hsq hX4 hsg hs4 hG4
      have lR := hR4.two
      have lP := hP4.two
      go_wp2
      exact bodyPost_ret (v := sAgg ua vn uc va vn vc) (by simp [results, Tryz.results91, go_sem, lR]) rfl hW
  · go_wp2_with fail
    refine (l01Next_ok b 7 w1 hs1 ⟨by omega, by omega⟩).mono ?_
    rintro e w5 ⟨x, rfl, _, hx, hs5, hg5⟩
    obtain ⟨hx1, hx2⟩ := hx (by omega)
    have hR5 := hR1.grown hg5 (by simp; omega)
    have hG5 := grown_trans hG1 hg5
    have hw5 : w.heap.size + 1 ≤ w5.heap.size := by have := hg5.size; omega
    obtain ⟨n, hn⟩ : ∃ n : Nat, 1 + x = (n : Int) := ⟨(1 + x).toNat, by omega⟩
    have hn1 : 1 ≤ n := by omega
    have hn7 : n ≤ 7 := by omega
    have hnm : n ≤ most := by omega
    have hwn : IntKind.i64.wrap (n : Int) = (n : Int) := IntWalk.i64_in _ ⟨by omega, by omega⟩
    clear hx hg5
    go_wp2_with fail
    refine (l10Named_any n w5 hn1 (by omega)).mono ?_
    rintro e w6 ⟨a6, N, c6, us, rfl, hN6, hb6⟩
    obtain ⟨hl1, hl2, hall⟩ := nmd_sq n hn1 (by omega)
    rw [← hN6.len] at hl1 hl2
    have hs6 := hs5.below hb6
    have hR6 := hR5.below hb6 hR5.lt
    have hG6 := grown_below hG5 hb6 hG5.size
    have hN6 := hN6.mono hw5
    clear hn hx1 hx2 hwn hs5 hR5 hG5
    have hN0 : (0 : Int) ≤ (N : Int) := by omega
    go_wp2_with fail
    refine (l01Next_ok b (N : Int) w6 hs6 ⟨by omega, by omega⟩).mono ?_
    rintro e w7 ⟨x, rfl, _, hx, hs7, hg7⟩
    obtain ⟨hx1, hx2⟩ := hx (by omega)
    obtain ⟨k, rfl⟩ : ∃ k : Nat, x = (k : Int) := ⟨x.toNat, by omega⟩
    have hkN : k < N := by omega
    have hN7 := hN6.src hg7 (by omega)
    have hR7 := hR6.grown hg7 (by simp; omega)
    have hG7 := grown_trans hG6 hg7
    obtain ⟨hb_, ho_, hae, _, kc⟩ := hN7.hd.read.2 k hkN
    subst hae
    obtain ⟨vs, ho⟩ := hN7.el k hkN
    obtain ⟨t, HT⟩ : ∃ t, Hid ((nmdL n).getD k [] = t) := ⟨_, Lib.hid rfl⟩
    rw [HT.out] at ho
    have hmem : t ∈ nmdL n := by rw [← HT.out, getD_atL (by rw [← hN7.len]; exact hkN)]; exact List.getElem_mem _
    have hsq := tabB_ok (hall t hmem)
    have hok := nmd_ok n hn1 hn7 t hmem
    obtain ⟨⟨ua, un, uc⟩, HU⟩ : ∃ u, Hid (us.getD k svO = u) := ⟨_, Lib.hid rfl⟩
    rw [HU.out] at ho kc
    change w7.cell? _ = some (.slice ua un uc) at kc
    change OwnT w7 (w.heap.size + 1) ua un uc vs t at ho
    obtain rfl : un = n := by rw [ho.len]; exact hsq.1
    have hw7 : w.heap.size + 1 ≤ w7.heap.size := by have := hG7.size; have := hR7.lt; omega
    have HHI : Hid (∀ g, TblS ua un vs g → g < w7.heap.size) := Lib.hid ho.uHi
    clear hx hx1 hx2 hN6 hg7 hs6 hR6 hG6 hall hmem
    have hC := l13Circles_any un uc t hsq hn1 hn7 hok ua w7 ho.tbl
    clear hok
    go_wp2_with fail
    refine hC.mono ?_
    rintro e w8 ⟨aL, NL, cL, vL, L, rfl, hL, hNL1, hNL2, hLs, hb8⟩
    have hs8 := hs7.below hb8
    have hR8 := hR7.below hb8 hR7.lt
    have hG8 := grown_below hG7 hb8 hG7.size
    have ho8 := ho.below hb8
    clear hC kc hN7 ho hs7 hR7 hG7
    have hNL0 : (0 : Int) ≤ (NL : Int) := by omega
    go_wp2_with fail
    refine (l01Next_ok b (NL : Int) w8 hs8 ⟨by omega, by omega⟩).mono ?_
    rintro e w9 ⟨x, rfl, _, hx, hs9, hg9⟩
    obtain ⟨hx1, hx2⟩ := hx (by omega)
    obtain ⟨k2, rfl⟩ : ∃ k : Nat, x = (k : Int) := ⟨x.toNat, by omega⟩
    have hk2 : k2 < NL := by omega
    have hL9 := hL.src hg9 (by omega)
    have hR9 := hR8.grown hg9 (by simp; omega)
    have hG9 := grown_trans hG8 hg9
    have ho9 := ho8.src hg9 (by omega)
    have hw9 : w.heap.size + 1 ≤ w9.heap.size := by have := hG9.size; have := hR9.lt; omega
    obtain ⟨lb_, lo_, hle, _, kc⟩ := hL9.now.hd.2 k2 hk2
    subst hle
    have hX9 := hL9.tbX (lo := w.heap.size + 1) (S := TblS ua un vs) hk2 (by omega) (fun g hg => HHI.out g hg)
    have hsg := hLs k2 hk2
    obtain ⟨g, HGG⟩ : ∃ g, Hid (L.getD k2 [] = g) := ⟨_, Lib.hid rfl⟩
    obtain ⟨⟨va, vn, vc⟩, HV⟩ : ∃ u, Hid (vL.getD k2 svO = u) := ⟨_, Lib.hid rfl⟩
    rw [HGG.out] at hX9 hsg
    rw [HV.out] at hX9 kc
    change w9.cell? _ = some (.slice va vn vc) at kc
    change TbX w9 (w.heap.size + 1) (TblS ua un vs) va vn g at hX9
    obtain rfl : vn = un := by rw [hX9.now.len]; exact hsg.1
    clear hx hx1 hx2 hL hL9 hg9 hs8 hR8 hG8 ho8 hLs hNL0
    have hbA := below_al (Below.refl w9.heap.size w9) (.cells #[.slice ua vn uc, .slice va vn vc] 26)
    have hP := Loc.new w9 rfl #[.slice ua vn uc, .slice va vn vc] 26
    have hzA : (w9.alloc (.cells #[.slice ua vn uc, .slice va vn vc] 26)).heap.size = w9.heap.size + 1 := by simp
    obtain ⟨wA, hwA⟩ : ∃ wA, w9.alloc (.cells #[.slice ua vn uc, .slice va vn vc] 26) = wA := ⟨_, rfl⟩
    rw [hwA] at hbA hP hzA
    have HWA := Lib.hid hwA
    have HZA := Lib.hid hzA
    have hsA := hs9.below hbA
    have hRA := hR9.below hbA hR9.lt
    have hGA := grown_below hG9 hbA hG9.size
    have hoA := ho9.below hbA
    have hXA := hX9.below hbA
    clear hwA hzA
    by_cases hn2 : (vn : Int) ≤ 1
    · have hW := FIN.out wA ua vn uc vs t va vc g hn1 hnm hoA hsq hXA hsg hsA hGA
      have lR := hRA.two
      have lP := hP.two
      rw [← HWA.out] at hW lR lP
      go_wp2
      exact bodyPost_ret (v := sAgg ua vn uc va vn vc) (by simp [results, Tryz.results91, go_sem, lR]) rfl hW
    have hn3 : (1 : Int) < (vn : Int) := by omega
    obtain ⟨m, hm⟩ : ∃ m, vn = m + 1 := ⟨vn - 1, by omega⟩
    have HM := Lib.hid hm
    have HM1 : Hid ((vn : Int) - 1 = (m : Int)) := Lib.hid (by omega)
    have HWM : Hid (IntKind.i64.wrap (m : Int) = (m : Int)) := Lib.hid (IntWalk.i64_in _ ⟨by omega, by omega⟩)
    clear hm
    go_wp2_with fail
    try rw [HWA.out]
    refine (l01Next_ok b 2 wA hsA ⟨by omega, by omega⟩).mono ?_
    rintro e w4 ⟨y, rfl, _, hy, hs4, hg4⟩
    obtain ⟨hy1, hy2⟩ := hy (by omega)
    have hR4 := hRA.grown hg4 (by simp; omega)
    have hP4 := hP.grown hg4 (by simp; omega)
    have hG4 := grown_trans hGA hg4
    have ho4 := hoA.src hg4 (by omega)
    have hX4 := hXA.src hg4 (by omega)
    have hw4 : w.heap.size + 1 ≤ w4.heap.size := by have := hG4.size; have := hR4.lt; omega
    have HZ4 : Hid (w9.heap.size < w4.heap.size) := Lib.hid hP4.lt
    clear hy hsA hRA hP hGA hoA hXA hg4 kc hX9 ho9 hG9 hR9 hs9
    by_cases y0 : y = 0
    · have e4 : (y == 0) = true := by simp [y0]
      clear y0
      have hp0 := Own.one w4 rfl 0
      have hbp := below_al (Below.refl w4.heap.size w4) (.cells #[.int .i64 0] 2)
      obtain ⟨wB, hwB⟩ : ∃ wB, w4.alloc (.cells #[.int .i64 0] 2) = wB := ⟨_, rfl⟩
      have HWB := Lib.hid hwB
      have HZB : Hid (w4.heap.size < wB.heap.size) := Lib.hid (by rw [← hwB, size_alloc]; omega)
      rw [hwB] at hp0 hbp
      have hsB := hs4.below hbp
      have hoB := ho4.below hbp
      have hXB := hX4.below hbp
      have hRB := hR4.below hbp hR4.lt
      have hPB := hP4.below hbp hP4.lt
      have hGB := grown_below hG4 hbp hG4.size
      have HIQ := Lib.hid ho4.uHi
      have HX4 : Hid (∀ V : World, (∀ k, w.heap.size + 1 ≤ k → k < w4.heap.size → V.heap[k]? = w4.heap[k]?) → Tbl V va vn g) := Lib.hid fun V hV => hX4 V fun k h1 h2 _ => hV k h1 h2
      have hm1 := HM1.out
      have hwm := HWM.out
      have hDP := l03DrawPerm_ok b m wB hsB (by have := HM.out; omega)
      clear hwB ho4 hX4 hR4 hP4 hG4 hs4
      go_wp2_with fail
      try rw [HWB.out]
      refine hDP.mono ?_
      rintro e w6 ⟨a6, c6, q, rfl, hq, hor6, hs6, hg6⟩
      clear hm1 hwm hDP
      have hp6 := hp0.src hg6 (by omega)
      have ho6 := hoB.src hg6 (by omega)
      have hX6 := hXB.src hg6 (by omega)
      have hR6 := hRB.grown hg6 (by simp; omega)
      have hP6 := hPB.grown hg6 (by simp; have := HZ4.out; omega)
      have hG6 := grown_trans hGB hg6
      have HQ := Lib.hid hq.len
      have HQM := Lib.hid hq.mem
      have hm7 : m ≤ 7 := by have := HM.out; omega
      have hz6 : wB.heap.size ≤ w6.heap.size := hg6.size
      have HB46 : Hid (∀ k, w.heap.size + 1 ≤ k → k < w4.heap.size → w6.heap[k]? = w4.heap[k]?) := Lib.hid fun k h1 h2 => (hg6.block k (Nat.lt_of_lt_of_le h2 hbp.size) (fun e => by cases e; omega)).trans (hbp.block k h2)
      clear hsB hoB hXB hRB hPB hGB hp0 hg6 hbp
      have hw4b : b < w4.heap.size := by omega
      have hap : Apr a6 (some ⟨w4.heap.size, 0, none⟩) := fun g e1 e2 => by cases e2; have := hor6.lo _ e1; have := HZB.out; omega
      have hbz : Below w4.heap.size w6 w6 := ⟨rfl, rfl, rfl, Nat.le_refl _, fun _ _ => rfl⟩
      have hw46 : w4.heap.size ≤ w6.heap.size := by have := HZB.out; omega
      have HXT : Hid (∀ V, Below w4.heap.size w6 V → Tbl V va vn g) := Lib.hid fun V hV => HX4.out V fun k h1 h2 => (hV.block k h2).trans (HB46.out k h1 h2)
      go_wp2
      go_loopw [16, 18] (fun s i wq => ∃ (j : Nat) (ar : Option Addr) (cr : Nat), j ≤ m ∧ i = .int .i64 j ∧ s = .slice ar (1 + j) cr ∧ Own wq w4.heap.size ar (1 + j) cr (0 :: (q.take j).map (· + 1)) ∧ Own wq wB.heap.size a6 m c6 q ∧ Apr a6 ar ∧ Below w4.heap.size w6 wq) (fun _ i _ => m - (intOf i).toNat)
      case atStart => exact ⟨0, _, 1, Nat.zero_le _, rfl, rfl, by simpa using hp6, hor6, hap, hbz⟩
      case round =>
        clear hp6 hor6 hap hbz
        obtain ⟨j, ar, cr, hj, rfl, rfl, hp, hor, hap, hbq⟩ := hrel
        obtain ⟨R, rfl⟩ : ∃ R : World, R = wr := ⟨_, rfl⟩
        have hRs := hbq.size
        by_cases hlt : j < m
        · have hjq : j < q.length := by have := HQ.out; omega
          have HST := Lib.hid (upL_take q hjq)
          obtain ⟨_, _, e9, f1⟩ := hor.row.at j hlt
          obtain ⟨v, HV⟩ : ∃ v, Hid (q.getD j 0 = v) := ⟨_, Lib.hid rfl⟩
          have hv := HQM.out _ (List.getElem_mem hjq)
          rw [← getD_at hjq, HV.out] at hv
          rw [HV.out] at f1 HST
          subst e9
          have i1 : (0 : Int) ≤ (j : Int) := by omega
          have i2 : (j : Int) < (m : Int) := by omega
          have hwv : IntKind.i64.wrap (v + 1) = v + 1 := IntWalk.i64_in _ ⟨by omega, by omega⟩
          have HWV := Lib.hid hwv
          clear hwv
          have hln : 1 + j + 1 ≤ 1000000000000 := by omega
          have hw4R : w4.heap.size ≤ R.heap.size := by omega
          have hwv := HWV.out
          go_wp2_with (at_builtin; refine app1h rfl rfl hp rfl rfl hln hw4R ?_; intro g' cc w8 hO8 hg8 hat8 hb8)
          clear hwv
          have hor8 := Own.beside hor hp hap hg8
          have hap8 := Own.apart hor hp hap hat8
          go_roundw
          case rel => exact ⟨j + 1, _, cc, by omega, by go_num, rfl, by rw [HST.out]; exact hO8, hor8, hap8, hbq.trans hb8⟩
          case measure => simp [intOf]; omega
        · obtain rfl : m = j := by omega
          rw [List.take_of_length_le (by have := HQ.out; omega)] at hp
          have hoR := ho6.keep (w' := R) fun g hg hlt => hbq.block g (HIQ.out g hg)
          have hsR := hs6.keepB hbq hw4b
          have hGR := grown_below hG6 hbq (by omega)
          have hRR := hR6.below hbq (by omega)
          have hPR := hP6.below hbq HZ4.out
          have hXR : Tbl R va vn g := HXT.out R hbq
          have hPn : IsP vn (upL q) := by have h9 := upL_isP hq; rw [← HM.out] at h9; exact h9
          have hr1 : Row R ar vn (upL q) := by have h9 := hp.row; rw [show 1 + m = vn by have := HM.out; omega] at h9; exact h9
          have hum : 1 + m = vn := by have := HM.out; omega
          have HUM := Lib.hid hum
          clear hum
          have HPN := Lib.hid hPn; have HSQ := Lib.hid hsq; have HSG := Lib.hid hsg
          have hPl := HZ4.out
          have hRw : w.heap.size + 1 ≤ R.heap.size := by omega
          have hPR2 : w9.heap.size < R.heap.size := by omega
          have lPR : (fun v => v.cell? ⟨w9.heap.size, 0, none⟩ = some (.slice ua vn uc) ∧ v.cell? ⟨w9.heap.size, 1, none⟩ = some (.slice va vn vc)) R := ⟨hPR.two.1, hPR.two.2.1⟩
          have tU : Tbl (R.drewN 1) ua vn t := hoR.tbl
          have tR : Row (R.drewN 1) ar vn (upL q) := hr1
          have tok1 : True := trivial
          have hn0 : 1 ≤ vn := hn1
          have hn12 : vn ≤ 12 := by omega
          clear hPn hsq hsg hor hap hbq hr1
          go_upto_region 30 with fail
          try rw [HUM.out]
          go_region_law (first
            | (go_simp; go_at_call 125; have _t := tok1; clear _t tok1; have tok2 : True := trivial; refine (l03Image_any vn ua ar uc cr t (upL q) _ tU tR HSQ.out HPN.out hn0 hn12).mono ?_; rintro e wC ⟨aC, cC, vsC, rfl, hoC, hbC⟩; have hbRC : Below R.heap.size R wC := (below_drewN (Below.refl _ _) 1).trans hbC; have hPC := hPR.below hbRC hPR2; have lPC : (fun v => v.cell? ⟨w9.heap.size, 0, none⟩ = some (.slice ua vn uc) ∧ v.cell? ⟨w9.heap.size, 1, none⟩ = some (.slice va vn vc)) wC := ⟨hPC.two.1, hPC.two.2.1⟩; have tV := hXR.below hbRC; have tRC : Row wC ar vn (upL q) := tR.below hbC; have hRC := hRR.below hbRC hRR.lt; have hsC := hsR.below hbRC; have hGC := grown_below hGR hbRC hGR.size; have hzC : R.heap.size ≤ wC.heap.size := hbRC.size)
            | (go_simp; go_at_call 125; have _t := tok2; clear _t tok2; refine (l03Image_any vn va ar vc cr g (upL q) _ tV tRC HSG.out HPN.out hn0 hn12).mono ?_; rintro e wD ⟨aD, cD, vsD, rfl, hoD, hbD⟩; have hPD := hPC.below hbD hPC.lt; have lPD : (fun v => v.cell? ⟨w9.heap.size, 0, none⟩ = some (.slice ua vn uc) ∧ v.cell? ⟨w9.heap.size, 1, none⟩ = some (.slice va vn vc)) wD := ⟨hPD.two.1, hPD.two.2.1⟩; have lPE := hPD.two; have hPS := (hPD.set 0 (.slice aC vn cC)).set 1 (.slice aD vn cD); have lPS := hPS.two; have hRD := hRC.below hbD hRC.lt; have hRS := (hRD.setne (a := ⟨w9.heap.size, 0, none⟩) (by show w.heap.size ≠ w9.heap.size; omega) (.slice aC vn cC)).setne (a := ⟨w9.heap.size, 1, none⟩) (by show w.heap.size ≠ w9.heap.size; omega) (.slice aD vn cD); have lRS := hRS.two))
          all_goals
            have hCR : R.heap.size ≤ (R.drewN 1).heap.size := Nat.le_refl _
            have hoC1 := (hoC.below hbD).mono hCR
            have hoD1 := hoD.mono (lo' := R.heap.size) hzC
            have h1hi := hoC.uHi
            have h2lo := hoD.uLo
            have hoC2 := ((hoC1.setlo (p := ⟨w9.heap.size, 0, none⟩) hPR2 (.slice aC vn cC)).setlo (p := ⟨w9.heap.size, 1, none⟩) hPR2 (.slice aD vn cD)).mono hRw
            have hoD2 := ((hoD1.setlo (p := ⟨w9.heap.size, 0, none⟩) hPR2 (.slice aC vn cC)).setlo (p := ⟨w9.heap.size, 1, none⟩) hPR2 (.slice aD vn cD)).mono hRw
            have hsD := ((hsC.below hbD).setne (p := ⟨w9.heap.size, 0, none⟩) (by show b < w9.heap.size; omega) (.slice aC vn cC)).setne (p := ⟨w9.heap.size, 1, none⟩) (by show b < w9.heap.size; omega) (.slice aD vn cD)
            have hGD := grown_set (p := ⟨w9.heap.size, 1, none⟩) (grown_set (p := ⟨w9.heap.size, 0, none⟩) (grown_below hGC hbD hGC.size) (.inr (by show w.heap.size ≤ w9.heap.size; omega)) (.slice aC vn cC)) (.inr (by show w.heap.size ≤ w9.heap.size; omega)) (.slice aD vn cD)
            have hW := FIN.out _ aC vn cC vsC _ aD cD _ hn1 hnm hoC2 (rnL_sqP HPN.out HSQ.out) (TbX.own hoD2 (Nat.le_refl _) fun g h1 h2 => by have := h1hi g h1; have := h2lo g h2; omega) (rnL_sqP HPN.out HSG.out) hsD hGD
            go_wp2
            exact bodyPost_ret (v := sAgg aC vn cC aD vn cD) (by simp [results, Tryz.results91, go_sem, lRS]) rfl hW
    · have e4 : (y == 0) = false := by simp [y0]
      clear y0
      have hW := FIN.out w4 ua vn uc vs t va vc g hn1 hnm ho4 hsq hX4 hsg hs4 hG4
      have lR := hR4.two
      have lP := hP4.two
      go_wp2
      exact bodyPost_ret (v := sAgg ua vn uc va vn vc) (by simp [results, Tryz.results91, go_sem, lR]) rfl hW
end Go.Proofs.YtiliimkfobfbnaaGreat
