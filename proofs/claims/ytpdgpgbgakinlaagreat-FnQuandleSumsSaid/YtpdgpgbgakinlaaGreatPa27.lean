/-
  Walks and plain laws of this seat, some texts in one.
  No condition but bounds on lengths.
-/
import Derived.Test.YtpdgpgbgakinlaaGreatPa8
import Derived.Test.YtpdgpgbgakinlaaGreatPa5
import Derived.Test.YtpdgpgbgakinlaaGreatPa3
import Derived.Test.YtpdgpgbgakinlaaGreatPa2
import Derived.Test.YtpdgpgbgakinlaaGreatPa1
import Derived.Deep.RegionHeld3
namespace Go.Proofs.YtpdgpgbgakinlaaGreat
set_option maxRecDepth 100000
set_option linter.unusedVariables false
set_option linter.unusedSimpArgs false
open Go.RowKit
set_option maxHeartbeats 400000 in
theorem l14Numbers_any (N m : Int) (a : Option Addr) (n c : Nat) (xs : List Int) (w : World) (h1 : Row w a n xs) (hm : n ≤ 9223372036854775807) (hm1 : 1 ≤ m) (hm2 : m ≤ 12) :
    Calls Tryz.prog 49 #[.int .i64 N, .int .i64 m, .slice a n c] w fun e w' => e = .returned (.bool (rowOk N m xs)) ∧ w = w' := by
  have hl := h1.len
  have HL := Lib.hid hl; clear hl
  go_enter Tryz.func49, Tryz.ntmps49
  go_wp2
  go_loop [7] (fun i => ∃ k : Nat, k ≤ n ∧ i = .int .i64 k ∧ Hid ((xs.take k).all (rngB 0 (m - 1)) = true)) (fun i => n - (intOf i).toNat)
  case atStart => exact ⟨0, Nat.zero_le _, rfl, by simp [Hid]⟩
  case round =>
    obtain ⟨k, hk, rfl, hall⟩ := hrel
    by_cases hlt : k < n
    · obtain ⟨b, off, rfl, g1⟩ := h1.at k hlt
      have hx : k < xs.length := by have := HL.out; omega
      clear h1
      cases hp : rngB 0 (m - 1) xs[k] with
      | true =>
        have HC := Lib.hid (fun w => l01In_b xs[k] 0 (m - 1) true hp w)
        have HP := Lib.hid hp; clear hp
        go_wp2_with fail
        refine (HC.out _).mono ?_
        rintro e w' ⟨rfl, rfl⟩
        go_wp2
        go_round
        case rel => exact ⟨k + 1, by omega, by go_num, all_get_succ hx hall HP.out⟩
        case measure => simp [intOf]; omega
      | false =>
        have HC := Lib.hid (fun w => l01In_b xs[k] 0 (m - 1) false hp w)
        have HP := Lib.hid hp; clear hp
        go_wp2_with fail
        refine (HC.out _).mono ?_
        rintro e w' ⟨rfl, rfl⟩
        go_wp2
        go_ret
        have hno : rowOk N m xs = false := by
          unfold rowOk; rw [all_no hx HP.out]; simp
        exact ⟨ret_bool hno.symm, rfl⟩
    · obtain rfl : k = n := by omega
      have ha : (xs.take k).all (rngB 0 (m - 1)) = true := hall
      rw [List.take_of_length_le (by have := HL.out; omega)] at ha
      have hq : rowOk N m xs = decide ((k : Int) = N) := by unfold rowOk; rw [ha, HL.out]; simp
      have HQ := Lib.hid hq; clear ha hq
      go_wp2
      go_ret
      exact ⟨ret_bool (by rw [HQ.out]; rfl), rfl⟩
set_option maxHeartbeats 400000 in
theorem l14Matrix_any (N m : Int) (a : Option Addr) (n c : Nat) (xs : List (List Int)) (w : World) (h1 : Tbl w a n xs) (hm : n ≤ 9223372036854775807) (hm1 : 1 ≤ m) (hm2 : m ≤ 12) :
    Calls Tryz.prog 116 #[.int .i64 N, .int .i64 m, .slice a n c] w fun e w' => e = .returned (.bool (isMx N m xs)) ∧ w = w' := by
  have hl := h1.len
  have hp : rngB 1 12 m = true := by simp [rngB, hm1, hm2]
  by_cases hn : (n : Int) = N
  · have b1 : ((n : Int) != N) = false := by simpa using hn
    have hq : isMx N m xs = xs.all (rowOk N m) := by simp [isMx, hp, ← hl, hn]
    have HQ := Lib.hid hq
    have HL := Lib.hid hl; clear hl hn hp hq
    go_enter Tryz.func116, Tryz.ntmps116
    go_wp2
    go_loop [7] (fun i => ∃ k : Nat, k ≤ n ∧ i = .int .i64 k ∧ Hid ((xs.take k).all (rowOk N m) = true)) (fun i => n - (intOf i).toNat)
    case atStart => exact ⟨0, Nat.zero_le _, rfl, by simp [Hid]⟩
    case round =>
      obtain ⟨k, hk, rfl, hall⟩ := hrel
      by_cases hlt : k < n
      · obtain ⟨b, off, ai, ni, ci, rfl, g1, hri, hni⟩ := h1.at k hlt
        have hx : k < xs.length := by have := HL.out; omega
        rw [Tbl.getD hx] at hri
        have hc := l14Numbers_any N m ai ni ci xs[k] w hri hni hm1 hm2
        clear h1
        cases hp : rowOk N m xs[k] with
        | true =>
          rw [hp] at hc
          have HC := Lib.hid hc
          have HP := Lib.hid hp; clear hp hc
          go_wp2_with fail
          refine HC.out.mono ?_
          rintro e w' ⟨rfl, rfl⟩
          go_wp2
          go_round
          case rel => exact ⟨k + 1, by omega, by go_num, all_get_succ hx hall HP.out⟩
          case measure => simp [intOf]; omega
        | false =>
          rw [hp] at hc
          have HC := Lib.hid hc
          have HP := Lib.hid hp; clear hp hc
          go_wp2_with fail
          refine HC.out.mono ?_
          rintro e w' ⟨rfl, rfl⟩
          go_wp2
          go_ret
          exact ⟨ret_bool (by rw [HQ.out]; exact (all_no hx HP.out).symm), rfl⟩
      · obtain rfl : k = n := by omega
        have ha : (xs.take k).all (rowOk N m) = true := hall
        rw [List.take_of_length_le (by have := HL.out; omega)] at ha
        have HA := Lib.hid ha; clear ha
        go_wp2
        go_ret
        exact ⟨ret_bool (by rw [HQ.out]; exact HA.out.symm), rfl⟩
  · have b1 : ((n : Int) != N) = true := by simpa using hn
    have hq : isMx N m xs = false := by simp [isMx, ← hl, hn]
    have HQ := Lib.hid hq; clear hq hl hn hp
    go_enter Tryz.func116, Tryz.ntmps116
    go_wp2
    go_ret
    exact ⟨ret_bool HQ.out.symm, rfl⟩
set_option maxHeartbeats 400000 in
theorem l14Code_any (N m : Int) (a : Option Addr) (n c : Nat) (xs : List (List Int)) (w : World) (h1 : Tbl w a n xs) (hm : n ≤ 9223372036854775807) (r : Int) (hr : (if isMx N m xs then 0 else 2) = r) :
    Calls Tryz.prog 73 #[.int .i64 N, .int .i64 m, .slice a n c] w fun e w' => e = .returned (.int .i64 r) ∧ w = w' := by
  cases hp : rngB 1 12 m with
  | false =>
    have hq : isMx N m xs = false := by simp [isMx, hp]
    rw [hq] at hr
    simp only [Bool.false_eq_true, if_false] at hr
    subst hr
    have HC := Lib.hid (fun w => l01In_b m 1 12 false hp w); clear hp hq
    go_enter Tryz.func73, Tryz.ntmps73
    go_wp2_with fail
    refine (HC.out _).mono ?_
    rintro e w' ⟨rfl, rfl⟩
    go_wp2
    go_ret
    exact ⟨rfl, rfl⟩
  | true =>
    have hmm : 1 ≤ m ∧ m ≤ 12 := by simpa [rngB] using hp
    have HC := Lib.hid (fun w => l01In_b m 1 12 true hp w); clear hp
    have hc := fun w h => l14Matrix_any N m a n c xs w h hm hmm.1 hmm.2
    cases hq : isMx N m xs with
    | true =>
      rw [hq] at hr hc
      simp only [if_true] at hr
      subst hr
      have HD := Lib.hid hc; clear hc hq
      go_enter Tryz.func73, Tryz.ntmps73
      go_wp2_with fail
      refine (HC.out _).mono ?_
      rintro e w' ⟨rfl, rfl⟩
      go_wp2_with fail
      refine (HD.out _ h1).mono ?_
      rintro e w' ⟨rfl, rfl⟩
      go_wp2
      go_ret
      exact ⟨rfl, rfl⟩
    | false =>
      rw [hq] at hr hc
      simp only [Bool.false_eq_true, if_false] at hr
      subst hr
      have HD := Lib.hid hc; clear hc hq
      go_enter Tryz.func73, Tryz.ntmps73
      go_wp2_with fail
      refine (HC.out _).mono ?_
      rintro e w' ⟨rfl, rfl⟩
      go_wp2_with fail
      refine (HD.out _ h1).mono ?_
      rintro e w' ⟨rfl, rfl⟩
      go_wp2
      go_ret
      exact ⟨rfl, rfl⟩
end Go.Proofs.YtpdgpgbgakinlaaGreat

namespace Go.Proofs.YtpdgpgbgakinlaaGreat
set_option maxRecDepth 100000
set_option linter.unusedVariables false
set_option linter.unusedSimpArgs false
open Go.RowKit
def get2 (f : List (List Int)) (x y : Nat) : Int := (f.getD x []).getD y 0
def addE (m : Int) (f g : List (List Int)) (x y : Nat) : Int := (get2 f x y + get2 g x y) % m
theorem isMx_row {N m : Int} {f : List (List Int)} (h : isMx N m f = true) (x : Nat) (hx : x < f.length) : ((f.getD x []).length : Int) = N ∧ (1 ≤ m ∧ m ≤ 12) ∧ ∀ y ∈ f.getD x [], 0 ≤ y ∧ y ≤ m - 1 := by
  simp only [isMx, Bool.and_eq_true, rngB, decide_eq_true_eq, List.all_eq_true] at h
  obtain ⟨hm, hl, hr⟩ := h
  have := hr (f.getD x []) (by rw [Tbl.getD hx]; exact List.getElem_mem hx)
  simp only [rowOk, Bool.and_eq_true, decide_eq_true_eq, List.all_eq_true, rngB] at this
  exact ⟨this.1, hm, this.2⟩
theorem isMx_len {N m : Int} {f : List (List Int)} (h : isMx N m f = true) : (f.length : Int) = N := by
  simp only [isMx, Bool.and_eq_true, decide_eq_true_eq] at h
  exact h.2.1
theorem get2_mem {f : List (List Int)} {x y : Nat} (hy : y < (f.getD x []).length) : get2 f x y ∈ f.getD x [] := by
  unfold get2
  generalize f.getD x [] = r at *
  rw [List.getD_eq_getElem?_getD, List.getElem?_eq_getElem hy]
  exact List.getElem_mem hy
theorem Tbl.cell2 {w : World} {a : Option Addr} {n : Nat} {f : List (List Int)} (h : Tbl w a n f) (x y : Nat) (hx : x < n) (hy : y < (f.getD x []).length) :
    ∃ b off b2 off2 ni ci, a = some ⟨b, off, none⟩ ∧ w.cell? ⟨b, off + x, none⟩ = some (.slice (some ⟨b2, off2, none⟩) ni ci) ∧ w.cell? ⟨b2, off2 + y, none⟩ = some (.int .i64 (get2 f x y)) ∧ y < ni := by
  obtain ⟨b, off, ai, ni, ci, h1, h2, h3, h4⟩ := h.at x hx
  have hyn : y < ni := by have := h3.len; omega
  obtain ⟨b2, off2, h5, h6⟩ := h3.at y hyn
  subst h5
  exact ⟨b, off, b2, off2, ni, ci, h1, h2, h6, hyn⟩
set_option maxHeartbeats 1000000 in
theorem addM1_any (m : Int) (x y : Nat) (b1 b2 b3 : Nat) (t1 t2 t3 : TypeId) (a1 a2 : Option Addr) (n1 c1 n2 c2 : Nat) (f g : List (List Int)) (w : World) (hL1 : Loc w b1 #[.slice a1 n1 c1] t1) (hL2 : Loc w b2 #[.slice a2 n2 c2] t2) (hL3 : Loc w b3 #[.int .i64 m] t3)
    (h1 : Tbl w a1 n1 f) (h2 : Tbl w a2 n2 g) (hm1 : n1 ≤ 9223372036854775807) (hm2 : n2 ≤ 9223372036854775807) (hf : isMx n1 m f = true) (hg : isMx n1 m g = true) (hx : x < n1) (hy : y < n1) :
    Calls Tryz.prog 72 #[.int .i64 x, .int .i64 y, .pointer (some ⟨b1, 0, none⟩), .pointer (some ⟨b2, 0, none⟩), .pointer (some ⟨b3, 0, none⟩)] w fun e w' => e = .returned (.int .i64 (addE m f g x y)) ∧ ∃ k, w' = w.drewN k := by
  have l1 := hL1.one
  have l2 := hL2.one
  have l3 := hL3.one
  have e1 := h1.len
  have e2 := h2.len
  have hg2 := isMx_len hg
  have r1 := isMx_row hf x (by omega)
  have r2 := isMx_row hg x (by omega)
  obtain ⟨p1, o1, q1, s1, ni1, ci1, rfl, d1, d2, d3⟩ := h1.cell2 x y hx (by omega)
  obtain ⟨p2, o2, q2, s2, ni2, ci2, rfl, d4, d5, d6⟩ := h2.cell2 x y (by omega) (by omega)
  have v1 := r1.2.2 _ (get2_mem (show y < (f.getD x []).length by omega))
  have v2 := r2.2.2 _ (get2_mem (show y < (g.getD x []).length by omega))
  have hm := r1.2.1
  have hx2 : x < n2 := by omega
  have hE : addE m f g x y = (get2 f x y + get2 g x y) % m := rfl
  have HE := Lib.hid hE; clear hE
  obtain ⟨F, hF⟩ : ∃ F, F = get2 f x y := ⟨_, rfl⟩
  obtain ⟨G, hG⟩ : ∃ G, G = get2 g x y := ⟨_, rfl⟩
  rw [← hF] at d2 v1
  rw [← hG] at d5 v2
  have HFF := Lib.hid hF; have HGG := Lib.hid hG
  clear hF hG r1 r2 e1 e2 hg2 h1 h2 hf hg
  have hsum : IntKind.i64.wrap (F + G) = F + G := IntWalk.i64_in _ (by omega)
  go_enter Tryz.func72, Tryz.ntmps72
  go_wp2
  go_quiet (fail)
  go_wp2
  go_ret
  refine ⟨ret_int ?_, _, rfl⟩
  rw [HE.out, ← HFF.out, ← HGG.out]
theorem tabF_take_succ (n : Nat) (v : Nat → Nat → Int) (k : Nat) (hk : k < n) : (tabF n v).take (k + 1) = (tabF n v).take k ++ [(List.range n).map fun y => v k y] := by
  have := tabP_next n v k hk []
  rw [List.append_nil] at this
  exact this.symm
theorem rowF_take_succ (n : Nat) (f : Nat → Int) (j : Nat) (h : j < n) : ((List.range n).map f).take (j + 1) = ((List.range n).map f).take j ++ [f j] := by
  have hx : j < ((List.range n).map f).length := by simpa using h
  rw [List.take_succ_eq_append_getElem hx]; simp
set_option maxHeartbeats 2000000 in
theorem l18Plus_any (m : Int) (a1 a2 : Option Addr) (n n2 c1 c2 : Nat) (f g : List (List Int)) (w : World) (h1 : Tbl w a1 n f) (h2 : Tbl w a2 n2 g) (hn : n ≤ 12) (hf : isMx n m f = true) (hg : isMx n m g = true) :
    Calls Tryz.prog 131 #[.int .i64 m, .slice a1 n c1, .slice a2 n2 c2] w fun e w' => ∃ a c vs, e = .returned (.slice a n c) ∧ OwnT w' w.heap.size a n c vs (tabF n (addE m f g)) ∧ Below w.heap.size w w' := by
  have e1 := h1.len
  have e2 := h2.len
  have hg2 := isMx_len hg
  have hnn : n2 = n := by omega
  have HFM := Lib.hid hf; have HGM := Lib.hid hg
  have HE1 := Lib.hid e1; have HE2 := Lib.hid e2; have HNN := Lib.hid hnn
  clear e1 e2 hg2 hf hg hnn
  go_enter Tryz.func131, Tryz.ntmps131
  go_wp2
  have ho := OwnT.fresh w rfl
  have hb := below_al (Below.refl w.heap.size w) (.cells #[] 27)
  go_loopw [7, 8] (fun z i wr => ∃ (k : Nat) (a' : Option Addr) (c' : Nat) (vs : List SV), k ≤ n ∧ i = .int .i64 k ∧ z = .slice a' k c' ∧ OwnT wr w.heap.size a' k c' vs ((tabF n (addE m f g)).take k) ∧ Below w.heap.size w wr) (fun _ i _ => n - (intOf i).toNat)
  case atStart => exact ⟨0, _, _, _, Nat.zero_le _, rfl, rfl, by simpa using ho, hb⟩
  case round =>
    clear ho hb
    obtain ⟨k, a', c', vs, hk, rfl, rfl, ho, hb⟩ := hrel
    by_cases hlt : k < n
    · go_wp2
      have hrow := Own.fresh wr rfl
      have hbr := below_al (Below.refl wr.heap.size wr) (.cells #[] 2)
      go_loopw [9, 10] (fun z i w4 => ∃ (j : Nat) (a2 : Option Addr) (c2 : Nat), j ≤ n ∧ i = .int .i64 j ∧ z = .slice a2 j c2 ∧ Own w4 wr.heap.size a2 j c2 (((List.range n).map fun y => addE m f g k y).take j) ∧ Below wr.heap.size wr w4 ∧ wr.heap.size < w4.heap.size) (fun _ i _ => n - (intOf i).toNat)
      case atStart => exact ⟨0, _, _, Nat.zero_le _, rfl, rfl, by simpa using hrow, hbr, by simp⟩
      case round =>
        clear hrow hbr
        obtain ⟨j, a2', c2', hj, rfl, rfl, hor, hbr, hsz⟩ := hrel
        by_cases hjt : j < n
        · have hB4 := below_th hb hbr
          have t1 := h1.below hB4
          have t2 := h2.below hB4
          have r1 := isMx_row HFM.out k (by have := HE1.out; omega)
          have r2 := isMx_row HGM.out k (by have := HE2.out; have := HNN.out; omega)
          obtain ⟨p1, o1, q1, s1, ni1, ci1, rfl, d1, d2, d3⟩ := h1.cell2 k j hlt (by omega)
          obtain ⟨p2, o2, q2, s2, ni2, ci2, rfl, d4, d5, d6⟩ := h2.cell2 k j (by have := HNN.out; omega) (by omega)
          have b1 : p1 < w.heap.size := World.block_lt_of_cell? w _ d1
          have b2 : q1 < w.heap.size := World.block_lt_of_cell? w _ d2
          have b4 : p2 < w.heap.size := World.block_lt_of_cell? w _ d4
          have b5 : q2 < w.heap.size := World.block_lt_of_cell? w _ d5
          have d1 := (hB4.cell (p := ⟨p1, o1 + k, none⟩) b1).trans d1
          have d2 := (hB4.cell (p := ⟨q1, s1 + j, none⟩) b2).trans d2
          have d4 := (hB4.cell (p := ⟨p2, o2 + k, none⟩) b4).trans d4
          have d5 := (hB4.cell (p := ⟨q2, s2 + j, none⟩) b5).trans d5
          have v1 := r1.2.2 _ (get2_mem (show j < (f.getD k []).length by omega))
          have v2 := r2.2.2 _ (get2_mem (show j < (g.getD k []).length by omega))
          have hm := r1.2.1
          have hk2 : k < n2 := by have := HNN.out; omega
          have hE : addE m f g k j = (get2 f k j + get2 g k j) % m := rfl
          obtain ⟨F, hF⟩ : ∃ F, F = get2 f k j := ⟨_, rfl⟩
          obtain ⟨G, hG⟩ : ∃ G, G = get2 g k j := ⟨_, rfl⟩
          rw [← hF] at d2 v1 hE
          rw [← hG] at d5 v2 hE
          have HE := Lib.hid hE
          have hwr := hb.size
          clear hF hG r1 r2 hE
          have hrem : (F + G).tmod m = (F + G) % m := IntWalk.rem_in _ _ (by omega)
          have hm0 : m ≠ 0 := by omega
          have hsum : IntKind.i64.wrap (F + G) = F + G := IntWalk.i64_in _ (by omega)
          go_wp2
          go_region_held3 (fun w' => w'.cell? ⟨p1, o1 + k, none⟩ = some (.slice (some ⟨q1, s1, none⟩) ni1 ci1) ∧ w'.cell? ⟨q1, s1 + j, none⟩ = some (.int .i64 F) ∧ w'.cell? ⟨p2, o2 + k, none⟩ = some (.slice (some ⟨q2, s2, none⟩) ni2 ci2) ∧ w'.cell? ⟨q2, s2 + j, none⟩ = some (.int .i64 G))
            (first | exact ⟨d1, d2, d4, d5⟩ | exact ⟨hK1, hK2, hK3, hK4⟩ | go_keep)
            (first
            | (refine step_app1 rfl rfl hor rfl rfl ?_ ?_ ?_; (omega); (omega); intro g' cc w5 hO hg5 hs5 hb5; have hK1 := (hb5.cell (p := ⟨p1, o1 + k, none⟩) (Nat.lt_of_lt_of_le b1 hwr)).trans d1; have hK2 := (hb5.cell (p := ⟨q1, s1 + j, none⟩) (Nat.lt_of_lt_of_le b2 hwr)).trans d2; have hK3 := (hb5.cell (p := ⟨p2, o2 + k, none⟩) (Nat.lt_of_lt_of_le b4 hwr)).trans d4; have hK4 := (hb5.cell (p := ⟨q2, s2 + j, none⟩) (Nat.lt_of_lt_of_le b5 hwr)).trans d5))
          all_goals
            go_wp2
            go_roundw
            case rel =>
              refine ⟨j + 1, _, _, by omega, by go_num, rfl, ?_, hbr.trans hb5, by omega⟩
              rw [rowF_take_succ n _ j hjt, HE.out]
              exact hO
            case measure => simp [intOf]; omega
        · obtain rfl : j = n := by omega
          have e1 : ((List.range j).map fun y => addE m f g k y).take j = (List.range j).map fun y => addE m f g k y := List.take_of_length_le (by simp)
          rw [e1] at hor
          have hwr := hb.size
          have ho4 := ho.below hbr
          go_wp2_with (at_builtin; refine appT1 rfl rfl ho4 rfl (hor.mono hwr) (fun g h1 h2 => by have h3 := ho.high _ h1; have h4 := hor.lo _ h2; omega) (fun i hi g h1 h2 => by have h3 := hor.lo _ h1; have h4 := (ho.row i hi).hi _ h2; omega) rfl (by omega) (by omega) ?_; intro g' cc w5 hO hb5)
          go_roundw
          case rel =>
            refine ⟨k + 1, _, _, vs ++ [(a2', j, c2')], by omega, by go_num, rfl, ?_, (below_th hb hbr).trans hb5⟩
            rw [tabF_take_succ _ _ k hlt]
            exact hO
          case measure => simp [intOf]; omega
    · obtain rfl : k = n := by omega
      go_wp2
      go_ret
      rw [List.take_of_length_le (by rw [tabF_len]; omega)] at ho
      exact ⟨_, _, _, rfl, ho, hb⟩
set_option maxHeartbeats 1000000 in
theorem impl_AddM_any' (m : Int) (a1 a2 : Option Addr) (n n2 c1 c2 : Nat) (f g : List (List Int)) (w : World) (h1 : Tbl w a1 n f) (h2 : Tbl w a2 n2 g) (hm1 : n ≤ 9223372036854775807) (hm2 : n2 ≤ 9223372036854775807) :
    ((rngB 1 12 (n : Int) && (isMx n m f && isMx n m g)) = false → Calls Tryz.prog 27 #[.int .i64 m, .slice a1 n c1, .slice a2 n2 c2] w (RetT w [] 2)) ∧
    ((rngB 1 12 (n : Int) && (isMx n m f && isMx n m g)) = true → Calls Tryz.prog 27 #[.int .i64 m, .slice a1 n c1, .slice a2 n2 c2] w (RetT w (tabF n (addE m f g)) 0)) := by
  have hB0 := below_al (below_al (below_al (Below.refl w.heap.size w) (.cells #[.int .i64 m] 2)) (.cells #[.slice a1 n c1] 24)) (.cells #[.slice a2 n2 c2] 24)
  have t1 := ((h1.alloc (.cells #[.int .i64 m] 2)).alloc (.cells #[.slice a1 n c1] 24)).alloc (.cells #[.slice a2 n2 c2] 24)
  have t2 := ((h2.alloc (.cells #[.int .i64 m] 2)).alloc (.cells #[.slice a1 n c1] 24)).alloc (.cells #[.slice a2 n2 c2] 24)
  have L1 : Loc (((w.alloc (.cells #[.int .i64 m] 2)).alloc (.cells #[.slice a1 n c1] 24)).alloc (.cells #[.slice a2 n2 c2] 24)) w.heap.size _ _ := ((Loc.new _ rfl _ _).alloc _).alloc _
  have L2 : Loc (((w.alloc (.cells #[.int .i64 m] 2)).alloc (.cells #[.slice a1 n c1] 24)).alloc (.cells #[.slice a2 n2 c2] 24)) (w.heap.size + 1) _ _ := ((Loc.new _ (by simp) _ _).alloc _)
  have L3 : Loc (((w.alloc (.cells #[.int .i64 m] 2)).alloc (.cells #[.slice a1 n c1] 24)).alloc (.cells #[.slice a2 n2 c2] 24)) (w.heap.size + 1 + 1) _ _ := (Loc.new _ (by simp) _ _)
  cases hs : rngB 1 12 (n : Int) with
  | false =>
    refine ⟨fun _ => ?_, fun h => by simp at h⟩
    have HS := Lib.hid (fun w => within_b (n : Int) 1 12 false hs w); clear hs
    go_enter Tryz.func27, Tryz.ntmps27
    go_wp2_with fail
    refine (HS.out _).mono ?_
    rintro e w' ⟨rfl, rfl⟩
    go_wp2
    go_ret2
    exact ⟨none, 0, 0, [], rfl, OwnT.nil _ _, hB0⟩
  | true =>
    have HS := Lib.hid (fun w => within_b (n : Int) 1 12 true hs w)
    have hn : n ≤ 12 := by simp [rngB] at hs; omega
    clear hs
    cases hf : isMx n m f with
    | false =>
      refine ⟨fun _ => ?_, fun h => by simp at h⟩
      have HF := Lib.hid (fun w h => isMatrix_any n m a1 n c1 f w h hm1)
      have HFB := Lib.hid hf; clear hf
      go_enter Tryz.func27, Tryz.ntmps27
      go_wp2_with fail
      refine (HS.out _).mono ?_
      rintro e w' ⟨rfl, rfl⟩
      go_wp2_with fail
      refine (HF.out _ t1).mono ?_
      rintro e w1 ⟨rfl, hb1⟩
      rw [HFB.out]
      go_wp2
      go_ret2
      exact ⟨none, 0, 0, [], rfl, OwnT.nil _ _, below_th hB0 hb1⟩
    | true =>
      have HF := Lib.hid (fun w h => isMatrix_any n m a1 n c1 f w h hm1)
      have HG := Lib.hid (fun w h => isMatrix_any n m a2 n2 c2 g w h hm2)
      have HFB := Lib.hid hf; clear hf
      cases hg : isMx n m g with
      | false =>
        refine ⟨fun _ => ?_, fun h => by simp at h⟩
        have HGB := Lib.hid hg; clear hg
        go_enter Tryz.func27, Tryz.ntmps27
        go_wp2_with fail
        refine (HS.out _).mono ?_
        rintro e w' ⟨rfl, rfl⟩
        go_wp2_with fail
        refine (HF.out _ t1).mono ?_
        rintro e w1 ⟨rfl, hb1⟩
        rw [HFB.out]
        have l1 := (L1.below hb1 L1.lt).one
        have l2 := (L2.below hb1 L2.lt).one
        have l3 := (L3.below hb1 L3.lt).one
        go_wp2_with fail
        refine (HG.out _ (t2.below hb1)).mono ?_
        rintro e w2 ⟨rfl, hb2⟩
        rw [HGB.out]
        go_wp2
        go_ret2
        exact ⟨none, 0, 0, [], rfl, OwnT.nil _ _, below_th (below_th hB0 hb1) hb2⟩
      | true =>
        refine ⟨fun h => by simp at h, fun _ => ?_⟩
        have HGB := Lib.hid hg; clear hg
        go_enter Tryz.func27, Tryz.ntmps27
        go_wp2_with fail
        refine (HS.out _).mono ?_
        rintro e w' ⟨rfl, rfl⟩
        go_wp2_with fail
        refine (HF.out _ t1).mono ?_
        rintro e w1 ⟨rfl, hb1⟩
        rw [HFB.out]
        have L1 := L1.below hb1 L1.lt
        have L2 := L2.below hb1 L2.lt
        have L3 := L3.below hb1 L3.lt
        have l1 := L1.one
        have l2 := L2.one
        have l3 := L3.one
        go_wp2_with fail
        refine (HG.out _ (t2.below hb1)).mono ?_
        rintro e w2 ⟨rfl, hb2⟩
        rw [HGB.out]
        have L1 := L1.below hb2 L1.lt
        have L2 := L2.below hb2 L2.lt
        have L3 := L3.below hb2 L3.lt
        have l1 := L1.one
        have l2 := L2.one
        have l3 := L3.one
        have hB2 := below_th (below_th hB0 hb1) hb2
        have t1 := h1.below hB2
        have t2 := h2.below hB2
        have hcl : ∀ x y, x < n → y < n → ∀ w3, Below w2.heap.size w2 w3 → Calls Tryz.prog 72 (#[.int .i64 x, .int .i64 y] ++ #[.pointer (some ⟨w.heap.size + 1, 0, none⟩), .pointer (some ⟨w.heap.size + 1 + 1, 0, none⟩), .pointer (some ⟨w.heap.size, 0, none⟩)]) w3 fun e w' => e = .returned (.int .i64 (addE m f g x y)) ∧ Below w3.heap.size w3 w' := fun x y hx hy w3 hb3 => by
          refine (addM1_any m x y _ _ _ _ _ _ a1 a2 n c1 n2 c2 f g w3 (L2.below hb3 L2.lt) (L3.below hb3 L3.lt) (L1.below hb3 L1.lt) (t1.below hb3) (t2.below hb3) hm1 hm2 HFB.out HGB.out hx hy).mono fun e w' ⟨he, k, hk⟩ => ⟨he, ?_⟩
          rw [hk]; exact below_drewN (Below.refl _ _) k
        have HCL := Lib.hid hcl; clear hcl
        go_wp2_with fail
        refine (tableBy_any 72 _ (addE m f g) n _ (by omega) (fun _ _ => rfl) HCL.out).mono ?_
        rintro e w3 ⟨a, c, vs, rfl, ho, hb3⟩
        go_wp2
        go_ret2
        exact ⟨_, _, _, _, rfl, ho.mono hB2.size, below_th hB2 hb3⟩
def addMF (m : Int) (f g : List (List Int)) : List (List Int) × Int :=
  if rngB 1 12 (f.length : Int) && (isMx f.length m f && isMx f.length m g) then (tabF f.length (addE m f g), 0) else ([], 2)
theorem impl_AddM_any (m : Int) (a1 a2 : Option Addr) (n n2 c1 c2 : Nat) (f g : List (List Int)) (w : World) (h1 : Tbl w a1 n f) (h2 : Tbl w a2 n2 g) (hm1 : n ≤ 9223372036854775807) (hm2 : n2 ≤ 9223372036854775807) :
    Calls Tryz.prog 27 #[.int .i64 m, .slice a1 n c1, .slice a2 n2 c2] w (RetT w (addMF m f g).1 (addMF m f g).2) := by
  have h := impl_AddM_any' m a1 a2 n n2 c1 c2 f g w h1 h2 hm1 hm2
  unfold addMF
  rw [← h1.len]
  cases hs : (rngB 1 12 (n : Int) && (isMx n m f && isMx n m g)) with
  | false => exact h.1 hs
  | true => exact h.2 hs
theorem impl_AddM_l (m : Int) (a1 : Option Addr) (n c1 : Nat) (f : List (List Int)) (a2 : Option Addr) (n2 c2 : Nat) (g : List (List Int)) (w : World) (hm : I64 m) (h1 : Tbl w a1 n f) (hm1 : n ≤ 9223372036854775807) (h2 : Tbl w a2 n2 g) (hm2 : n2 ≤ 9223372036854775807) :
    Calls Tryz.prog 27 #[.int .i64 m, .slice a1 n c1, .slice a2 n2 c2] w (RetT w (addMF m f g).1 (addMF m f g).2) := impl_AddM_any m a1 a2 n n2 c1 c2 f g w h1 h2 hm1 hm2
end Go.Proofs.YtpdgpgbgakinlaaGreat
