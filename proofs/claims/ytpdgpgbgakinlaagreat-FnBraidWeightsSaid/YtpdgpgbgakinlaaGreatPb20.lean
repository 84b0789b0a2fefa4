/-
  Walks and plain laws of this seat, some texts in one.
  No condition but bounds on lengths.
-/
import Derived.Test.YtpdgpgbgakinlaaGreatPb19
import Derived.Deep.DeepCutAuto
import Derived.Deep.RegionLaw
import Derived.Test.YtpdgpgbgakinlaaGreatPb16
import Derived.Test.YtpdgpgbgakinlaaGreatPb17
namespace Go.Proofs.YtpdgpgbgakinlaaGreat
set_option linter.unusedVariables false
set_option linter.unusedSimpArgs false
set_option maxRecDepth 100000
open Go.RowKit
theorem make_eq (n : Nat) (hn : n ≤ 1000000000000) : ∃ mk : World → World, ∀ v : World, (Instr.makeSlice 27 (.int .i64 n) (.int .i64 n)).run Tryz.prog v = .ok (.slice (some ⟨v.heap.size, 0, none⟩) n n) (mk v) ∧ Own (mk v) v.heap.size (some ⟨v.heap.size, 0, none⟩) n n (List.replicate n 0) ∧ Below v.heap.size v (mk v) ∧ v.heap.size < (mk v).heap.size := by
  have H : ∀ v : World, ∃ w' : World, (Instr.makeSlice 27 (.int .i64 n) (.int .i64 n)).run Tryz.prog v = .ok (.slice (some ⟨v.heap.size, 0, none⟩) n n) w' ∧ Own w' v.heap.size (some ⟨v.heap.size, 0, none⟩) n n (List.replicate n 0) ∧ Below v.heap.size v w' ∧ v.heap.size < w'.heap.size := fun v => by
    obtain ⟨i0, hi, hz0, hz1, hz2⟩ := info_parts info_int
    obtain ⟨w', hrun, r1, r2⟩ := run_make_full (P := Tryz.prog) v v.heap.size 27 2 i0 (.int .i64 0) 1 und_ints hi hz0 hz1 .i64 .i64 n (by rw [hz2]; omega) (by unfold maxLen; omega) (Nat.le_refl _)
    have ho : Own w' v.heap.size (some ⟨v.heap.size, 0, none⟩) n n (List.replicate n 0) := by
      refine ⟨by simp, ?_⟩
      have e : (madeCells (Value.int IntKind.i64 0).cells (n * 1)).toList = (List.replicate n (0 : Int)).map (.int .i64) := by
        rw [Nat.mul_one, List.map_replicate]; exact toList_madeCells_one _ _
      rw [e] at r1; exact r1
    exact ⟨w', hrun, ho, (Below.refl _ _).grown r2 (Nat.le_refl _) (by simp), ho.lt.2⟩
  obtain ⟨mk, h⟩ := Classical.axiomOfChoice H
  exact ⟨mk, h⟩
def zT (n : Nat) : List (List Int) := tabF n fun _ _ => 0
theorem zT_succ {n k : Nat} (h : k < n) : (zT n).take (k + 1) = (zT n).take k ++ [List.replicate n 0] := by
  unfold zT
  rw [tabF_succ _ h]
  congr 2
  apply List.ext_getElem
  · simp
  · intro i h1 h2; simp
set_option maxHeartbeats 16000000 in
theorem l02Empty_any (n : Nat) (w : World) (hn : n ≤ 100) :
    Calls Tryz.prog 186 #[.int .i64 n] w fun e w' => ∃ a c vs a' c' vs', e = .returned (sAgg a n c a' n c') ∧ OwnS w' w.heap.size a n c vs (zT n) a' n c' vs' (zT n) ∧ Below w.heap.size w w' := by
  obtain ⟨w0, hw0⟩ : ∃ w0, (w.alloc (.cells #[.slice none 0 0, .slice none 0 0] 26)).alloc (.cells #[.slice none 0 0, .slice none 0 0] 26) = w0 := ⟨_, rfl⟩
  have HZ0 : Hid (w0.heap.size = w.heap.size + 1 + 1) := Lib.hid (by rw [← hw0]; simp)
  have hB : Below w.heap.size w w0 := by rw [← hw0]; exact below_al (below_al (Below.refl _ _) _) _
  have hR : Loc w0 (w.heap.size) #[.slice none 0 0, .slice none 0 0] 26 := by rw [← hw0]; exact (Loc.new _ (by simp) _ _).alloc _
  have hO : Loc w0 (w.heap.size + 1) #[.slice none 0 0, .slice none 0 0] 26 := by rw [← hw0]; exact Loc.new _ (by simp) _ _
  have HW0 := Lib.hid hw0; clear hw0
  obtain ⟨mk, hmk⟩ := make_eq n (by omega)
  have HMK := Lib.hid hmk
  have hmk1 := fun v => (hmk v).1
  clear hmk
  go_enter Tryz.func186, Tryz.ntmps186
  go_wp2
  rw [HW0.out]
  go_loopw [4] (fun i wr => ∃ (k : Nat) (az : Option Addr) (cz : Nat) (vz : List SV) (ay : Option Addr) (cy : Nat) (vy : List SV), k ≤ n ∧ i = .int .i64 k ∧ Loc wr (w.heap.size + 1) #[.slice az k cz, .slice ay k cy] 26 ∧ Loc wr (w.heap.size) #[.slice none 0 0, .slice none 0 0] 26 ∧ OwnT wr w0.heap.size az k cz vz ((zT n).take k) ∧ OwnT wr w0.heap.size ay k cy vy ((zT n).take k) ∧ ApT az k vz ay k vy ∧ Below w.heap.size w wr) (fun i _ => n - (intOf i).toNat)
  case atStart => exact ⟨0, none, 0, [], none, 0, [], Nat.zero_le _, rfl, hO, hR, by simpa using OwnT.nil _ _, by simpa using OwnT.nil _ _, (fun g h _ => by rcases h with h | ⟨i, hi, _⟩; (cases h); omega), hB⟩
  case round =>
    clear hR hO hB
    obtain ⟨k, az, cz, vz, ay, cy, vy, hk, rfl, hO, hR, hz, hy, hap, hB⟩ := hrel
    have hOlt := hO.lt
    have hZ0 := HZ0.out
    obtain ⟨W, rfl⟩ : ∃ W : World, W = wr := ⟨_, rfl⟩
    by_cases hlt : k < n
    · have HZS := Lib.hid (zT_succ hlt)
      have lO := hO.two
      have hzhi := hz.uHi
      have hyhi := hy.uHi
      have hWs : w0.heap.size ≤ W.heap.size := by omega
      have ho5 : Own (mk W.drew) W.heap.size (some ⟨W.heap.size, 0, none⟩) n n (List.replicate n 0) := (HMK.out W.drew).2.1
      have hr5 : Below W.heap.size W (mk W.drew) := (Below.drew (Below.refl _ _)).trans (HMK.out W.drew).2.2.1
      have hs5 : W.heap.size < (mk W.drew).heap.size := (HMK.out W.drew).2.2.2
      have hO5 := hO.below hr5 hO.lt
      have lO5 := hO5.two
      have lO5a := (hO5.alloc (.cells #[.slice (some ⟨W.heap.size, 0, none⟩) n n] 27)).two
      have hz5 := hz.below hr5
      go_wp2
      go_region_law (refine step_appT1n rfl rfl hz5 rfl (ho5.mono hWs) (fun g h1 h2 => by have h3 := hzhi _ (.inl h1); have h4 := ho5.lo _ h2; omega) (fun i hi g h1 h2 => by have h3 := ho5.lo _ h1; have h4 := hzhi _ (.inr ⟨i, hi, h2⟩); omega) rfl (by omega) (by omega) ?_; intro g6 cc6 w6 hOT6 hg6 hat6 hb6; have hO6 := hO5.below hb6 (by omega); have lO6 := hO6.two)
      all_goals
        have hvl := hz5.vlen
        have hy5 := hy.below hr5
        have hy6 := hz5.other hy5 hap hg6
        have hap6 := ApT.snoc hz5 hy5 hap (v := (some ⟨W.heap.size, 0, none⟩, n, n)) hvl hat6 (fun q h1 h2 => by have h3 := ho5.lo _ h1; have h4 := hyhi _ h2; omega)
        have hsz6 := hg6.size
        have hBw := hB.size
        have hB6 := (hB.trans (hr5.mono hBw)).trans (hb6.mono (by omega))
        have hR6 := (hR.below hr5 hR.lt).below hb6 (by omega)
        have hz7 := hOT6.setlo (p := ⟨w.heap.size + 1, 0, none⟩) (by show w.heap.size + 1 < w0.heap.size; omega) (.slice (some ⟨g6, 0, none⟩) (k + 1) cc6)
        have hy7 := hy6.setlo (p := ⟨w.heap.size + 1, 0, none⟩) (by show w.heap.size + 1 < w0.heap.size; omega) (.slice (some ⟨g6, 0, none⟩) (k + 1) cc6)
        have hO7 := hO6.set 0 (.slice (some ⟨g6, 0, none⟩) (k + 1) cc6)
        have hR7 := hR6.setne (a := ⟨w.heap.size + 1, 0, none⟩) (by show w.heap.size ≠ w.heap.size + 1; omega) (.slice (some ⟨g6, 0, none⟩) (k + 1) cc6)
        have hB7 := below_setne (a := ⟨w.heap.size + 1, 0, none⟩) hB6 (by show w.heap.size ≤ w.heap.size + 1; omega) (.slice (some ⟨g6, 0, none⟩) (k + 1) cc6)
        have hsz7 : (w6.setCell ⟨w.heap.size + 1, 0, none⟩ (.slice (some ⟨g6, 0, none⟩) (k + 1) cc6)).heap.size = w6.heap.size := size_set _ _ _
        simp only [Array.setIfInBounds, List.size_toArray, List.length_cons, List.length_nil, Nat.zero_add, Nat.lt_add_one, Nat.reduceAdd, Nat.reduceLT, dif_pos, Nat.zero_lt_succ] at hO7
        have hlo7 : w0.heap.size ≤ (w6.setCell ⟨w.heap.size + 1, 0, none⟩ (.slice (some ⟨g6, 0, none⟩) (k + 1) cc6)).heap.size := by rw [hsz7]; omega
        clear hsz7 hO6 lO6 hB6 hR6 hz hy hO hR lO lO5 lO5a hz5 hy5 hy6 hOT6 hO5 ho5 hB hr5 hs5 hzhi hyhi hg6 hat6 hb6 hsz6 hap hvl
        generalize w6.setCell ⟨w.heap.size + 1, 0, none⟩ (.slice (some ⟨g6, 0, none⟩) (k + 1) cc6) = w7 at *
        have hyhi := hy7.uHi
        have hzhi := hz7.uHi
        have hvl7 := hy7.vlen
        have lO7 := hO7.two
        have ho5 : Own (mk w7.drew) w7.heap.size (some ⟨w7.heap.size, 0, none⟩) n n (List.replicate n 0) := (HMK.out w7.drew).2.1
        have hr5 : Below w7.heap.size w7 (mk w7.drew) := (Below.drew (Below.refl _ _)).trans (HMK.out w7.drew).2.2.1
        have hs5 : w7.heap.size < (mk w7.drew).heap.size := (HMK.out w7.drew).2.2.2
        have hO5 := hO7.below hr5 hO7.lt
        have lO5 := hO5.two
        have lO5a := (hO5.alloc (.cells #[.slice (some ⟨w7.heap.size, 0, none⟩) n n] 27)).two
        have hy5 := hy7.below hr5
        go_upto_region 6 with fail
        go_region_law (refine step_appT1n rfl rfl hy5 rfl (ho5.mono hlo7) (fun g h1 h2 => by have h3 := hyhi _ (.inl h1); have h4 := ho5.lo _ h2; omega) (fun i hi g h1 h2 => by have h3 := ho5.lo _ h1; have h4 := hyhi _ (.inr ⟨i, hi, h2⟩); omega) rfl (by omega) (by omega) ?_; intro g9 cc9 w9 hOT9 hg9 hat9 hb9; have hO9 := hO5.below hb9 (by omega); have lO9 := hO9.two)
        all_goals
          have hz5 := hz7.below hr5
          have hz9 := hy5.other hz5 hap6.symm hg9
          have hap9 := (ApT.snoc hy5 hz5 hap6.symm (v := (some ⟨w7.heap.size, 0, none⟩, n, n)) hvl7 hat9 (fun q h1 h2 => by have h3 := ho5.lo _ h1; have h4 := hzhi _ h2; omega)).symm
          have hO10 := hO9.set 1 (.slice (some ⟨g9, 0, none⟩) (k + 1) cc9)
          have hR9 := ((hR7.below hr5 hR7.lt).below hb9 (by omega)).setne (a := ⟨w.heap.size + 1, 1, none⟩) (by show w.heap.size ≠ w.heap.size + 1; omega) (.slice (some ⟨g9, 0, none⟩) (k + 1) cc9)
          have hB9 := below_setne (a := ⟨w.heap.size + 1, 1, none⟩) ((hB7.trans (hr5.mono hB7.size)).trans (hb9.mono (by omega))) (by show w.heap.size ≤ w.heap.size + 1; omega) (.slice (some ⟨g9, 0, none⟩) (k + 1) cc9)
          go_wp2
          go_roundw
          case rel => exact ⟨k + 1, _, _, _, _, _, _, by omega, by go_num, hO10, hR9, by rw [HZS.out]; exact hz9.setlo (by show w.heap.size + 1 < w0.heap.size; omega) _, by rw [HZS.out]; exact hOT9.setlo (by show w.heap.size + 1 < w0.heap.size; omega) _, hap9, hB9⟩
          case measure => simp [intOf]; omega
    · obtain rfl : k = n := by omega
      rw [List.take_of_length_le (by unfold zT; rw [tabF_len]; exact Nat.le_refl _)] at hz hy
      have lO := hO.two
      have lR := hR.two
      go_wp2
      refine bodyPost_ret (v := sAgg az k cz ay k cy) (by simp [results, Tryz.results186, go_sem, lR, lO]) rfl ⟨az, cz, vz, ay, cy, vy, rfl, ⟨?_, ?_, hap⟩, ?_⟩
      · exact ((hz.setlo (by show w.heap.size < w0.heap.size; omega) _).setlo (by show w.heap.size < w0.heap.size; omega) _).mono (by omega)
      · exact ((hy.setlo (by show w.heap.size < w0.heap.size; omega) _).setlo (by show w.heap.size < w0.heap.size; omega) _).mono (by omega)
      · exact below_setne (below_setne hB (by show w.heap.size ≤ w.heap.size; omega) _) (by show w.heap.size ≤ w.heap.size; omega) _
end Go.Proofs.YtpdgpgbgakinlaaGreat

namespace Go.Proofs.YtpdgpgbgakinlaaGreat
set_option linter.unusedVariables false
set_option linter.unusedSimpArgs false
set_option maxRecDepth 100000
open Go.RowKit
def InR (n : Nat) (V : Nat → Nat → Int) : Prop := ∀ x y, x < n → y < n → 0 ≤ V x y ∧ V x y < n
theorem InR.upd {n : Nat} {V : Nat → Nat → Int} (h : InR n V) (u v : Nat) {z : Nat} (hz : z < n) : InR n (updQ V u v z) := fun x y hx hy => by
  unfold updQ
  split
  · omega
  · exact h x y hx hy
set_option maxHeartbeats 16000000 in
theorem l02Inverse_any (n : Nat) (a a' : Option Addr) (c c' : Nat) (f g : List (List Int)) (w : World) (t1 : Tbl w a n f) (t2 : Tbl w a' n g) (s1 : Sq n f) (s2 : Sq n g) (n1 : 1 ≤ n) (hn : n ≤ 100) :
    Calls Tryz.prog 178 #[sAgg a n c a' n c'] w (SolB w n) := by
  obtain ⟨ba, oa, A1, O1, C1, rfl, G1⟩ := t1.grid s1 n1
  obtain ⟨ba', oa', A2, O2, C2, rfl, G2⟩ := t2.grid s2 n1
  clear t1 t2
  obtain ⟨w0, hw0⟩ : ∃ w0, (w.alloc (.cells #[.slice (some ⟨ba, oa, none⟩) n c, .slice (some ⟨ba', oa', none⟩) n c'] 26)).alloc (.cells #[.slice none 0 0, .slice none 0 0] 26) = w0 := ⟨_, rfl⟩
  have HZ0 : Hid (w0.heap.size = w.heap.size + 1 + 1) := Lib.hid (by rw [← hw0]; simp)
  have hB0 : Below w.heap.size w w0 := by rw [← hw0]; exact below_al (below_al (Below.refl _ _) _) _
  have hX : Loc w0 w.heap.size #[.slice (some ⟨ba, oa, none⟩) n c, .slice (some ⟨ba', oa', none⟩) n c'] 26 := by rw [← hw0]; exact (Loc.new w rfl _ _).alloc _
  have hR : Loc w0 (w.heap.size + 1) #[.slice none 0 0, .slice none 0 0] 26 := by rw [← hw0]; exact Loc.new _ (by simp) _ _
  have HW0 := Lib.hid hw0; clear hw0
  have lX := hX.two
  have S1 := Lib.hid (fun x y (hx : x < n) (hy : y < n) => s1.lt (x := x) (y := y) hx hy)
  have S2 := Lib.hid (fun x y (hx : x < n) (hy : y < n) => s2.lt (x := x) (y := y) hx hy)
  clear s1 s2
  go_enter Tryz.func178, Tryz.ntmps178
  go_wp2_with fail
  rw [HW0.out]
  refine (l02Empty_any n _ hn).mono ?_
  rintro e w1 ⟨az, cz, vz, ay, cy, vy, rfl, ho1, hb1⟩
  obtain ⟨gz, rfl, _⟩ := ho1.f.cells (by omega)
  obtain ⟨gy, rfl, _⟩ := ho1.s.cells (by omega)
  have hX1 := hX.below hb1 hX.lt
  have hR1 := hR.below hb1 hR.lt
  have hB1 := below_th hB0 hb1
  have HHZ : Hid (∀ q, TblS (some ⟨gz, 0, none⟩) n vz q → w0.heap.size ≤ q ∧ q < w1.heap.size) := Lib.hid fun q h => ⟨ho1.f.uLo q h, ho1.f.uHi q h⟩
  have HHY : Hid (∀ q, TblS (some ⟨gy, 0, none⟩) n vy q → w0.heap.size ≤ q ∧ q < w1.heap.size) := Lib.hid fun q h => ⟨ho1.s.uLo q h, ho1.s.uHi q h⟩
  have HAP := Lib.hid ho1.ap
  have hz1 := hb1.size
  obtain ⟨w2, hw2⟩ : ∃ w2, w1.alloc (.cells #[.slice (some ⟨gz, 0, none⟩) n cz, .slice (some ⟨gy, 0, none⟩) n cy] 26) = w2 := ⟨_, rfl⟩
  have hb2 : Below w1.heap.size w1 w2 := by rw [← hw2]; exact below_al (Below.refl _ _) _
  have hO2 : Loc w2 w1.heap.size #[.slice (some ⟨gz, 0, none⟩) n cz, .slice (some ⟨gy, 0, none⟩) n cy] 26 := by rw [← hw2]; exact Loc.new w1 rfl _ _
  have hZ2 : OwnT w2 w0.heap.size (some ⟨gz, 0, none⟩) n cz vz (tabF n fun _ _ => 0) := ho1.f.below hb2
  have hY2 : OwnT w2 w0.heap.size (some ⟨gy, 0, none⟩) n cy vy (tabF n fun _ _ => 0) := ho1.s.below hb2
  have hX2 := hX1.below hb2 hX1.lt
  have hR2 := hR1.below hb2 hR1.lt
  have hB2 := below_th hB1 hb2
  have hX1l := hX1.lt
  have HW2 := Lib.hid hw2
  clear hw2 ho1 hX hR hX1 hR1 hB0 hB1 lX
  go_wp2
  try rw [HW2.out]
  go_loopw [5, 6, 7, 8] (fun i _ _ _ wr => ∃ (k : Nat) (V U : Nat → Nat → Int), k ≤ n ∧ i = .int .i64 k ∧ OwnT wr w0.heap.size (some ⟨gz, 0, none⟩) n cz vz (tabF n V) ∧ OwnT wr w0.heap.size (some ⟨gy, 0, none⟩) n cy vy (tabF n U) ∧ Hid (InR n V) ∧ Hid (InR n U) ∧ Loc wr w1.heap.size #[.slice (some ⟨gz, 0, none⟩) n cz, .slice (some ⟨gy, 0, none⟩) n cy] 26 ∧ Loc wr w.heap.size #[.slice (some ⟨ba, oa, none⟩) n c, .slice (some ⟨ba', oa', none⟩) n c'] 26 ∧ Loc wr (w.heap.size + 1) #[.slice none 0 0, .slice none 0 0] 26 ∧ Below w.heap.size w wr) (fun i _ _ _ _ => n - (intOf i).toNat)
  case atStart => exact ⟨0, _, _, Nat.zero_le _, rfl, hZ2, hY2, Lib.hid (fun x y _ _ => by show 0 ≤ (0 : Int) ∧ (0 : Int) < n; omega), Lib.hid (fun x y _ _ => by show 0 ≤ (0 : Int) ∧ (0 : Int) < n; omega), hO2, hX2, hR2, hB2⟩
  case round =>
    clear hZ2 hY2 hO2 hX2 hR2 hB2
    obtain ⟨k, V, U, hk, rfl, hZ, hY, HV, HU, hO, hX, hR, hB⟩ := hrel
    have hz0 := HZ0.out
    by_cases hlt : k < n
    · go_wp2
      go_loopw [6, 7, 8] (fun i _ _ wr => ∃ (j : Nat) (V U : Nat → Nat → Int), j ≤ n ∧ i = .int .i64 j ∧ OwnT wr w0.heap.size (some ⟨gz, 0, none⟩) n cz vz (tabF n V) ∧ OwnT wr w0.heap.size (some ⟨gy, 0, none⟩) n cy vy (tabF n U) ∧ Hid (InR n V) ∧ Hid (InR n U) ∧ Loc wr w1.heap.size #[.slice (some ⟨gz, 0, none⟩) n cz, .slice (some ⟨gy, 0, none⟩) n cy] 26 ∧ Loc wr w.heap.size #[.slice (some ⟨ba, oa, none⟩) n c, .slice (some ⟨ba', oa', none⟩) n c'] 26 ∧ Loc wr (w.heap.size + 1) #[.slice none 0 0, .slice none 0 0] 26 ∧ Below w.heap.size w wr) (fun i _ _ _ => n - (intOf i).toNat)
      case atStart => exact ⟨0, V, U, Nat.zero_le _, rfl, hZ, hY, HV, HU, hO, hX, hR, hB⟩
      case round =>
        clear hZ hY hO hX hR hB HV HU
        obtain ⟨j, V, U, hj, rfl, hZ, hY, HV, HU, hO, hX, hR, hB⟩ := hrel
        obtain ⟨W, rfl⟩ : ∃ W : World, W = wr := ⟨_, rfl⟩
        by_cases hjt : j < n
        · have hu := S1.out k j hlt hjt
          have hv := S2.out k j hlt hjt
          obtain ⟨r1, k1⟩ := (G1.below hB).look hlt hjt
          obtain ⟨r2, k2⟩ := (G2.below hB).look hlt hjt
          obtain ⟨u, HUU⟩ : ∃ u, Hid (tv f k j = u) := ⟨_, Lib.hid rfl⟩
          obtain ⟨v, HVV⟩ : ∃ v, Hid (tv g k j = v) := ⟨_, Lib.hid rfl⟩
          rw [HUU.out] at k1 hu
          rw [HVV.out] at k2 hv
          obtain ⟨gz', g1, cg1, e1, ev1, rz, hcz, htz⟩ := hZ.spotQ hu
          cases e1
          obtain ⟨gy', g2, cg2, e2, ev2, ry, hcy, hty⟩ := hY.spotQ hu
          cases e2
          have hgz := HHZ.out g1 htz
          have hgy := HHY.out g2 hty
          have lO := hO.two
          have lX := hX.two
          have i1 : (0 : Int) ≤ (k : Int) := by omega
          have i2 : (k : Int) < (n : Int) := by omega
          have i3 : (0 : Int) ≤ (j : Int) := by omega
          have i4 : (j : Int) < (n : Int) := by omega
          have i5 : (0 : Int) ≤ (u : Int) := by omega
          have i6 : (u : Int) < (n : Int) := by omega
          have i7 : (0 : Int) ≤ (v : Int) := by omega
          have i8 : (v : Int) < (n : Int) := by omega
          have EV1 := Lib.hid ev1; have EV2 := Lib.hid ev2
          have HCZ := Lib.hid (hcz v hv); have HCY := Lib.hid (hcy v hv)
          clear ev1 ev2 hcz hcy
          go_wp2
          go_quiet (fail)
          have hZd := hZ.drewN nq
          have hYd := hY.drewN nq
          have hXd := hX.drewN nq
          have hOd := hO.drewN nq
          have hRd := hR.drewN nq
          have hBd := below_drewN hB nq
          have r2d : (W.drewN nq).cell? _ = _ := r2
          have k2d : (W.drewN nq).cell? _ = _ := k2
          have z1 : (W.drewN nq).cell? ⟨g1, v, none⟩ = _ := HCZ.out.1
          have z2 : (W.drewN nq).frozen? ⟨g1, v, none⟩ = false := HCZ.out.2
          clear r1 k1 r2 k2 rz ry lO lX hZ hY hX hO hR hB
          generalize W.drewN nq = w5 at *
          have lX := hXd.two
          go_upto_region 11 with fail
          have hZ6 := hZd.putQ hu hv EV1.out (k : Int)
          have hY6 := hYd.asetQ (p := ⟨g1, v, none⟩) (fun q h e => HAP.out g1 htz (by have : q = g1 := e; rwa [this] at h)) (.int .i64 k)
          have hO6 := hOd.setne (a := ⟨g1, v, none⟩) (by show w1.heap.size ≠ g1; omega) (.int .i64 k)
          have hX6 := hXd.setne (a := ⟨g1, v, none⟩) (by show w.heap.size ≠ g1; omega) (.int .i64 k)
          have hR6 := hRd.setne (a := ⟨g1, v, none⟩) (by show w.heap.size + 1 ≠ g1; omega) (.int .i64 k)
          have hB6 := below_setne (a := ⟨g1, v, none⟩) hBd (by show w.heap.size ≤ g1; omega) (.int .i64 k)
          clear hZd hYd hXd hOd hRd hBd r2d k2d z1 z2 lX
          generalize w5.setCell ⟨g1, v, none⟩ (.int .i64 k) = w6 at *
          obtain ⟨r2, k2⟩ := (G2.below hB6).look hlt hjt
          rw [HVV.out] at k2
          obtain ⟨gy'', g2', cg2', e2, ev2, ry, hcy, hty2⟩ := hY6.spotQ hu
          cases e2
          have ev3 := EV2.out.symm.trans ev2
          cases ev3
          have z3 := (hcy v hv).1
          have z4 := (hcy v hv).2
          have lX := hX6.two
          clear ev2 hcy hty2
          have hY7 := hY6.putQ hu hv EV2.out (j : Int)
          have hZ7 := hZ6.asetQ (p := ⟨g2, v, none⟩) (fun q h e => HAP.out q h (by have : q = g2 := e; rw [this]; exact hty)) (.int .i64 j)
          have HY7 := Lib.hid hY7; have HZ7 := Lib.hid hZ7
          clear hY7 hZ7
          go_wp2
          go_roundw
          case rel => exact ⟨j + 1, _, _, by omega, by go_num, HZ7.out, HY7.out, Lib.hid (HV.out.upd u v hlt), Lib.hid (HU.out.upd u v hjt), hO6.setne (a := ⟨g2, v, none⟩) (by show w1.heap.size ≠ g2; omega) _, hX6.setne (a := ⟨g2, v, none⟩) (by show w.heap.size ≠ g2; omega) _, hR6.setne (a := ⟨g2, v, none⟩) (by show w.heap.size + 1 ≠ g2; omega) _, below_setne (a := ⟨g2, v, none⟩) hB6 (by show w.heap.size ≤ g2; omega) _⟩
          case measure => simp [intOf]; omega
        · obtain rfl : j = n := by omega
          go_wp2
          go_roundw
          case rel => exact ⟨k + 1, V, U, by omega, by go_num, hZ, hY, HV, HU, hO, hX, hR, hB⟩
          case measure => simp [intOf]; omega
    · obtain rfl : k = n := by omega
      have lO := hO.two
      have lR := hR.two
      go_wp2
      refine bodyPost_ret (v := sAgg (some ⟨gz, 0, none⟩) k cz (some ⟨gy, 0, none⟩) k cy) (by simp [results, Tryz.results178, go_sem, lR, lO]) rfl ⟨_, cz, vz, _, _, cy, vy, _, rfl, ⟨?_, ?_, HAP.out⟩, tabF_sqI HV.out, tabF_sqI HU.out, ?_⟩
      · exact ((hZ.setlo (by show w.heap.size + 1 < w0.heap.size; omega) _).setlo (by show w.heap.size + 1 < w0.heap.size; omega) _).mono (by omega)
      · exact ((hY.setlo (by show w.heap.size + 1 < w0.heap.size; omega) _).setlo (by show w.heap.size + 1 < w0.heap.size; omega) _).mono (by omega)
      · exact below_setne (below_setne hB (by show w.heap.size ≤ w.heap.size + 1; omega) _) (by show w.heap.size ≤ w.heap.size + 1; omega) _
end Go.Proofs.YtpdgpgbgakinlaaGreat

namespace Go.Proofs.YtpdgpgbgakinlaaGreat
set_option linter.unusedVariables false
set_option linter.unusedSimpArgs false
set_option maxRecDepth 100000
open Go.RowKit
def idxP (p : List Int) (x : Int) : Nat := p.findIdx fun y => decide (y = x)
theorem idxP_of {p : List Int} {x : Int} {k : Nat} (hk : k < p.length) (h : p.getD k 0 = x) (h2 : ∀ j, j < k → p.getD j 0 ≠ x) : idxP p x = k := by
  unfold idxP
  rw [List.findIdx_eq hk]
  rw [List.getD_eq_getElem?_getD, List.getElem?_eq_getElem hk] at h
  refine ⟨by simpa using h, fun j hj => ?_⟩
  have := h2 j hj
  rw [List.getD_eq_getElem?_getD, List.getElem?_eq_getElem (by omega)] at this
  simpa using this
set_option maxHeartbeats 2000000 in
theorem l01Index_perm (n x : Nat) (a : Option Addr) (c : Nat) (p : List Int) (w : World) (h : Row w a n p) (hp : IsP n p) (hx : x < n) (hn : n ≤ 1000) :
    Calls Tryz.prog 170 #[.slice a n c, .int .i64 x] w fun e w' => e = .returned (.int .i64 (idxP p x)) ∧ idxP p x < n ∧ w' = w := by
  have HL := Lib.hid h.len
  obtain ⟨k0, hk0, hk1⟩ : ∃ k, k < n ∧ p.getD k 0 = (x : Int) := by
    obtain ⟨f, g, _, h1, h2⟩ := hp
    exact ⟨g x, (h1 x hx).2.1, by rw [h2 _ (h1 x hx).2.1, (h1 x hx).2.2.1]⟩
  have HK := Lib.hid (And.intro hk0 hk1)
  clear hk0 hk1 hp
  go_enter Tryz.func170, Tryz.ntmps170
  go_wp2
  go_loop [5] (fun i => ∃ k : Nat, k ≤ n ∧ i = .int .i64 k ∧ Hid (∀ j, j < k → p.getD j 0 ≠ (x : Int))) (fun i => n - (intOf i).toNat)
  case atStart => exact ⟨0, Nat.zero_le _, rfl, Lib.hid fun j hj => absurd hj (by omega)⟩
  case round =>
    obtain ⟨k, hk, rfl, HN⟩ := hrel
    by_cases hlt : k < n
    · obtain ⟨b, o, rfl, g⟩ := h.at k hlt
      obtain ⟨v, HV⟩ : ∃ v, Hid (p.getD k 0 = v) := ⟨_, Lib.hid rfl⟩
      rw [HV.out] at g
      have i1 : (0 : Int) ≤ (k : Int) := by omega
      have i2 : (k : Int) < (n : Int) := by omega
      by_cases hv : v = (x : Int)
      · have HI : Hid (idxP p x = k) := Lib.hid (idxP_of (by have := HL.out; omega) (by rw [HV.out, hv]) HN.out)
        have hb : (v == (x : Int)) = true := by simpa using hv
        subst hv
        go_wp2
        go_ret
        exact ⟨by rw [HI.out]; rfl, by rw [HI.out]; exact hlt, rfl⟩
      · have hb : (v == (x : Int)) = false := by simpa using hv
        go_wp2
        go_round
        case rel => exact ⟨k + 1, by omega, by go_num, Lib.hid fun j hj => by
          by_cases e : j = k
          · rw [e, HV.out]; exact hv
          · exact HN.out j (by omega)⟩
        case measure => simp [intOf]; omega
    · exact absurd HK.out.2 (HN.out k0 (by have := HK.out.1; omega))
set_option maxHeartbeats 8000000 in
theorem l02Involutive_any (n : Nat) (a : Option Addr) (c : Nat) (t : List (List Int)) (w : World) (h1 : Tbl w a n t) (hp : RwsP n t) (n1 : 1 ≤ n) (hn : n ≤ 100) :
    Calls Tryz.prog 177 #[.slice a n c] w (SolB w n) := by
  have hs := hp.sq
  have HRL : Hid (∀ x ∈ t, x.length ≤ 1000000) := Lib.hid fun x hx => by
    obtain ⟨i, hi, rfl⟩ := List.getElem_of_mem hx
    have := hs.row (x := i) (by rw [← hs.len]; exact hi)
    rw [List.getD_eq_getElem?_getD, List.getElem?_eq_getElem hi, Option.getD_some] at this
    omega
  obtain ⟨U, hU⟩ : ∃ U : Nat → Nat → Int, U = fun x y => ((idxP (t.getD (tv t x y) []) x : Nat) : Int) := ⟨_, rfl⟩
  have HUE : Hid (∀ x y, U x y = ((idxP (t.getD (tv t x y) []) x : Nat) : Int)) := Lib.hid fun x y => by rw [hU]
  have HSU : Hid (Sq n (tabF n U)) := Lib.hid (tabF_sqI fun x y hx hy => by
    rw [HUE.out]
    have hq := hp.2 _ (hs.lt hx hy)
    obtain ⟨f, g, hl, g1, g2⟩ := hq
    have hlt := (g1 x hx).2.1
    have : idxP (t.getD (tv t x y) []) x < n := by
      unfold idxP
      have h2 : List.findIdx (fun y => decide (y = (x : Int))) (t.getD (tv t x y) []) < (t.getD (tv t x y) []).length := by
        rw [List.findIdx_lt_length]
        refine ⟨(t.getD (tv t x y) [])[g x]'(by omega), List.getElem_mem _, ?_⟩
        have h3 := g2 (g x) hlt
        rw [(g1 x hx).2.2.1, getD_at (by omega)] at h3
        simpa using h3
      omega
    omega)
  clear hU
  have HP := Lib.hid hp.2
  have HS := Lib.hid hs
  obtain ⟨bt, ot, A, O, C, rfl, G⟩ := h1.grid hs n1
  clear hs hp
  have hR := Loc.new w rfl #[.slice none 0 0, .slice none 0 0] 26
  have hB0 := below_al (Below.refl w.heap.size w) (.cells #[.slice none 0 0, .slice none 0 0] 26)
  go_enter Tryz.func177, Tryz.ntmps177
  go_wp2_with fail
  refine (l01Own2_any _ n c t _ (h1.below hB0) (by omega) HRL.out).mono ?_
  rintro e w1 ⟨aF, cF, vF, rfl, hoF, hb1⟩
  have hR1 := hR.below hb1 hR.lt
  have hB1 := below_th hB0 hb1
  have hFhi := hoF.uHi
  have hFlo := hoF.uLo
  rw [size_alloc] at hFlo
  obtain ⟨w2, hw2⟩ : ∃ w2, w1.alloc (.cells #[.slice aF n cF, .slice none 0 0] 26) = w2 := ⟨_, rfl⟩
  have hO2 : Loc w2 w1.heap.size #[.slice aF n cF, .slice none 0 0] 26 := by rw [← hw2]; exact Loc.new w1 rfl _ _
  have hb2 : Below w1.heap.size w1 w2 := by rw [← hw2]; exact below_al (Below.refl _ _) _
  have hR2 := hR1.below hb2 hR1.lt
  have hF2 := (hoF.mono (lo' := w.heap.size + 1) (by rw [size_alloc]; exact Nat.le_refl _)).below hb2
  have hB2 := below_th hB1 hb2
  have hz2 : w2.heap.size = w1.heap.size + 1 := by rw [← hw2]; simp
  have HZ2 := Lib.hid hz2
  have hR1l := hR1.lt
  have HW2 := Lib.hid hw2
  clear hw2 hz2 hoF hR hR1 hB0 hB1 h1
  go_wp2
  try rw [HW2.out]
  go_loopw [4, 5, 6] (fun i _ _ wr => ∃ (k : Nat) (ay : Option Addr) (cy : Nat) (vy : List SV), k ≤ n ∧ i = .int .i64 k ∧ Loc wr w1.heap.size #[.slice aF n cF, .slice ay k cy] 26 ∧ Loc wr w.heap.size #[.slice none 0 0, .slice none 0 0] 26 ∧ OwnT wr (w.heap.size + 1) aF n cF vF t ∧ OwnT wr w2.heap.size ay k cy vy ((tabF n U).take k) ∧ Below w.heap.size w wr) (fun i _ _ _ => n - (intOf i).toNat)
  case atStart => exact ⟨0, none, 0, [], Nat.zero_le _, rfl, hO2, hR2, hF2, by simpa using OwnT.nil _ _, hB2⟩
  case round =>
    clear hO2 hR2 hF2 hB2
    obtain ⟨k, ay, cy, vy, hk, rfl, hO, hR, hF, hy, hB⟩ := hrel
    have hz2 := HZ2.out
    have hOlt := hO.lt
    by_cases hlt : k < n
    · have hE := Own.fresh wr rfl
      have hqe := below_al (Below.refl wr.heap.size wr) (.cells #[] 2)
      have HRU := Lib.hid (tabF_succ U hlt)
      go_wp2
      go_loopw [5, 6] (fun z i wq => ∃ (j : Nat) (ar : Option Addr) (cr : Nat), j ≤ n ∧ i = .int .i64 j ∧ z = .slice ar j cr ∧ Own wq wr.heap.size ar j cr ((List.range j).map fun y => U k y) ∧ Below wr.heap.size wr wq) (fun _ i _ => n - (intOf i).toNat)
      case atStart => exact ⟨0, _, 0, Nat.zero_le _, rfl, rfl, by simpa using hE, hqe⟩
      case round =>
        clear hE hqe
        obtain ⟨j, ar, cr, hj, rfl, rfl, hor, hqr⟩ := hrel
        have hwq := hqr.size
        obtain ⟨W, rfl⟩ : ∃ W : World, W = wr := ⟨_, rfl⟩
        by_cases hjt : j < n
        · have HU1 : Hid (((List.range (j + 1)).map fun y => U k y) = ((List.range j).map fun y => U k y) ++ [U k j]) := Lib.hid (by simp [List.range_succ])
          have hBW := hB.trans (hqr.mono hB.size)
          have hu := HS.out.lt hlt hjt
          obtain ⟨r1, k1⟩ := (G.below hBW).look hlt hjt
          have hUkj := HUE.out k j
          have HIP := Lib.hid (HP.out (tv t k j) hu)
          have r2 := (G.below hBW).row _ hu
          have hrow : Row W (some ⟨A (tv t k j), O (tv t k j), none⟩) n (t.getD (tv t k j) []) := ⟨by rw [HS.out.row hu], fun y hy => ⟨_, _, rfl, (G.below hBW).rlt _ hu, by rw [HS.out.val hu hy]; exact (G.below hBW).cell _ _ hu hy⟩⟩
          obtain ⟨u, HUU⟩ : ∃ u, Hid (tv t k j = u) := ⟨_, Lib.hid rfl⟩
          rw [HUU.out] at k1 hu hUkj HIP r2 hrow
          rw [hUkj] at HU1
          clear hUkj
          obtain ⟨X, HX⟩ : ∃ X, Hid (idxP (t.getD u []) (k : Int) = X) := ⟨_, Lib.hid rfl⟩
          have HCX := Lib.hid (fun (v : World) (hv : Row v (some ⟨A u, O u, none⟩) n (t.getD u [])) => l01Index_perm n k _ (C u) _ v hv HIP.out hlt (by omega))
          have hcx := HCX.out
          rw [HX.out] at hcx HU1
          have HCY := Lib.hid hcx
          clear hcx HCX
          have i1 : (0 : Int) ≤ (k : Int) := by omega
          have i2 : (k : Int) < (n : Int) := by omega
          have i3 : (0 : Int) ≤ (j : Int) := by omega
          have i4 : (j : Int) < (n : Int) := by omega
          have i5 : (0 : Int) ≤ (u : Int) := by omega
          have i6 : (u : Int) < (n : Int) := by omega
          go_wp2_with fail
          refine (HCY.out _ hrow).mono ?_
          rintro e w5 ⟨rfl, _, hw5⟩
          obtain rfl : W = w5 := hw5.symm
          go_wp2_with (at_builtin; refine app1 rfl rfl hor rfl rfl (by omega) hwq ?_; intro g' cc w8 hO8 hg8 hs8 hb8)
          go_roundw
          case rel => exact ⟨j + 1, _, _, by omega, by go_num, rfl, by rw [HU1.out]; exact hO8, hqr.trans hb8⟩
          case measure => simp [intOf]; omega
        · obtain rfl : j = n := by omega
          have hO3 := hO.below hqr hO.lt
          have hR3 := hR.below hqr hR.lt
          have hF3 := hF.below hqr
          have lO := hO3.two
          have hy3 := hy.below hqr
          have hyhi := hy.uHi
          have hylo := hy.uLo
          have hrlo := hor.lo
          have hBs := hB.size
          have hB3 := hB.trans (hqr.mono hBs)
          go_wp2_with (at_builtin; refine appT1g rfl rfl hy3 rfl (hor.mono (by omega)) (fun g h1 h2 => by have h3 := hyhi _ (.inl h1); have h4 := hrlo _ h2; omega) (fun i hi g h1 h2 => by have h3 := hrlo _ h1; have h4 := hyhi _ (.inr ⟨i, hi, h2⟩); omega) rfl (by omega) (by omega) ?_; intro g6 cc6 w6 hOT6 hg6 hat6 hb6; have hO6 := hO3.below hb6 (by omega); have lO6 := hO6.two)
          have hF6 := hF3.keep (w' := w6) (fun q hq hl => hb6.block q (by have := hFhi q hq; omega))
          have hR6 := hR3.below hb6 (by omega)
          have hB6 := hB3.trans (hb6.mono (by omega))
          have hO7 := hO6.set 1 (.slice (some ⟨g6, 0, none⟩) (k + 1) cc6)
          go_roundw
          case rel => exact ⟨k + 1, _, _, _, by omega, by go_num, hO7, hR6.setne (a := ⟨w1.heap.size, 1, none⟩) (by show w.heap.size ≠ w1.heap.size; omega) _, hF6.keep (fun q hq hl => Below.heap_setCell _ _ _ _ (by have := hFhi q hq; show q ≠ w1.heap.size; omega)), by rw [HRU.out]; exact hOT6.setlo (by show w1.heap.size < w2.heap.size; omega) _, below_setne (a := ⟨w1.heap.size, 1, none⟩) hB6 (by show w.heap.size ≤ w1.heap.size; omega) _⟩
          case measure => simp [intOf]; omega
    · obtain rfl : k = n := by omega
      rw [List.take_of_length_le (by rw [tabF_len]; exact Nat.le_refl _)] at hy
      have lO := hO.two
      have lR := hR.two
      have hylo := hy.uLo
      go_wp2
      refine bodyPost_ret (v := sAgg aF k cF ay k cy) (by simp [results, Tryz.results177, go_sem, lR, lO]) rfl ⟨aF, cF, vF, _, ay, cy, vy, _, rfl, ⟨?_, ?_, fun q e1 e2 => by have := hFhi q e1; have := hylo q e2; omega⟩, HS.out, HSU.out, ?_⟩
      · exact ((hF.setlo (by show w.heap.size < w.heap.size + 1; omega) _).setlo (by show w.heap.size < w.heap.size + 1; omega) _).mono (by omega)
      · exact ((hy.setlo (by show w.heap.size < w2.heap.size; omega) _).setlo (by show w.heap.size < w2.heap.size; omega) _).mono (by omega)
      · exact below_setne (below_setne hB (by show w.heap.size ≤ w.heap.size; omega) _) (by show w.heap.size ≤ w.heap.size; omega) _
end Go.Proofs.YtpdgpgbgakinlaaGreat
