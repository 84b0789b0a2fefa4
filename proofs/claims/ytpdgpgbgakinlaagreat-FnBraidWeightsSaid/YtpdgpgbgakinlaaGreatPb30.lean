/-
  Walks and plain laws of this seat, some texts in one.
  No condition but bounds on lengths.
-/
import Derived.Test.YtpdgpgbgakinlaaGreatPb14
import Derived.Test.YtpdgpgbgakinlaaGreatPb27
import Derived.Test.YtpdgpgbgakinlaaGreatPb9
import Derived.Test.YtpdgpgbgakinlaaGreatPb3
import Derived.Test.YtpdgpgbgakinlaaGreatPb8
import Derived.Test.YtpdgpgbgakinlaaGreatPb7
import Derived.Deep.RegionHeld3
import Derived.Test.YtpdgpgbgakinlaaGreatPb13
import Derived.Test.YtpdgpgbgakinlaaGreatPb10
import Derived.StillTailTactics
import Derived.Test.YtpdgpgbgakinlaaGreatPb22
namespace Go.Proofs.YtpdgpgbgakinlaaGreat
set_option maxRecDepth 100000
set_option linter.unusedVariables false
set_option linter.unusedSimpArgs false
open Go.RowKit
def iswF (f g : List (List Int)) (m : Int) (M : List (List Int)) : Bool × Int := if isSol f g then (if isMx f.length m M then (decide (wtFlt f.length f g M m = []), 0) else (false, 2)) else (false, 1)
set_option maxHeartbeats 1000000 in
theorem impl_Isw_l (a : Option Addr) (n c : Nat) (f : List (List Int)) (a' : Option Addr) (n' c' : Nat) (g : List (List Int)) (m : Int) (am : Option Addr) (nm cm : Nat) (M : List (List Int)) (w : World) (h1 : Sol w a n f a' n' g) (hm : n ≤ 9223372036854775807 ∧ n' ≤ 9223372036854775807) (hi : I64 m) (h5 : Tbl w am nm M) (hnm : nm ≤ 9223372036854775807) :
    Calls Tryz.prog 13 #[sAgg a n c a' n' c', .int .i64 m, .slice am nm cm] w (RetO w (iswF f g m M).1 (iswF f g m M).2) := by
  obtain ⟨hm1, hm2⟩ := hm
  have hA := Loc.new w rfl #[.slice a n c, .slice a' n' c'] 26
  have hfl := h1.f.len
  obtain ⟨r, hr⟩ : ∃ r : Int, (if isSol f g then (if isMx n m M then 0 else 2) else 1) = r := ⟨_, rfl⟩
  have HCK := Lib.hid (fun w (h1 : Tbl w a n f) (h2 : Tbl w a' n' g) (h5 : Tbl w am nm M) => checkWeight_any a n c a' n' c' f g m am nm cm M w h1 h2 hm1 hm2 h5 hnm r hr)
  by_cases hz : r = 0
  · have hz2 : isSol f g = true ∧ isMx n m M = true := by
      by_cases q1 : isSol f g = true
      · rw [if_pos q1] at hr
        by_cases q2 : isMx n m M = true
        · exact ⟨q1, q2⟩
        · rw [if_neg q2] at hr; omega
      · rw [if_neg q1] at hr; omega
    subst hz
    obtain ⟨q1, q2⟩ := hz2
    have hq : iswF f g m M = (decide (wtFlt n f g M m = []), 0) := by unfold iswF; rw [if_pos q1, ← hfl, if_pos q2]
    rw [hq]
    obtain ⟨hn1, hn12, sf, sg⟩ := isSol_sq q1
    rw [← hfl] at hn12
    obtain ⟨hmm, hM⟩ := isMx_sq q2
    have hl2 : n' = n := by rw [h1.s.len]; have := sg.len; omega
    have hl3 : nm = n := by rw [h5.len]; exact hM.1
    subst hl2 hl3
    have H1 := Lib.hid q1; have HM := Lib.hid hM; have HMM := Lib.hid hmm
    clear hr q1 q2 hq sf sg hM hmm hfl
    go_enter Tryz.func13, Tryz.ntmps13
    go_wp2_with fail
    refine (HCK.out _ (h1.f.alloc _) (h1.s.alloc _) (h5.alloc _)).mono ?_
    rintro e w1 ⟨rfl, hb1⟩
    have lA := (hA.below hb1 (by simp)).two
    have nn := fun (w : World) (a : Option Addr) (n c : Nat) => Lib.run_eql_slice_nil (P := Tryz.prog) w 27 2 a n c 0 0 und_ints
    go_wp2_with fail
    refine (weightFault_any _ _ _ _ _ f g m _ _ M _ ((h1.f.alloc _).below hb1) ((h1.s.alloc _).below hb1) H1.out HMM.out HM.out ((h5.alloc _).below hb1)).mono ?_
    rintro e w2 ⟨he, hb2⟩
    rcases he with ⟨hL, rfl⟩ | ⟨hL, b, k, rfl, _⟩
    · have HL := Lib.hid hL; clear hL
      go_wp2
      go_ret2
      exact ⟨by rw [HL.out]; rfl, below_th (below_alth (Below.refl _ _) hb1) hb2⟩
    · have HL : Hid (decide (wtFlt nm f g M m = []) = false) := Lib.hid (decide_eq_false hL)
      clear hL
      go_wp2
      go_ret2
      exact ⟨by rw [HL.out]; rfl, below_th (below_alth (Below.refl _ _) hb1) hb2⟩
  · have hq : iswF f g m M = (false, r) := by
      unfold iswF
      rw [← hfl, ← hr]
      by_cases q1 : isSol f g = true
      · rw [if_pos q1, if_pos q1]
        by_cases q2 : isMx n m M = true
        · rw [if_pos q1, if_pos q2] at hr; exact absurd hr.symm hz
        · rw [if_neg q2, if_neg q2]
      · rw [if_neg q1, if_neg q1]
    rw [hq]
    have hb : (r != 0) = true := by simpa using hz
    clear hr hq hz hfl
    go_enter Tryz.func13, Tryz.ntmps13
    go_wp2_with fail
    (with_reducible refine (HCK.out _ (h1.f.alloc _) (h1.s.alloc _) (h5.alloc _)).mono ?_)
    rintro e w1 ⟨rfl, hb1⟩
    go_wp2
    go_ret2
    exact ⟨rfl, below_alth (Below.refl _ _) hb1⟩
end Go.Proofs.YtpdgpgbgakinlaaGreat

namespace Go.Proofs.YtpdgpgbgakinlaaGreat
set_option linter.unusedVariables false
set_option linter.unusedSimpArgs false
/-! ### the kernel -/
theorem Rdc.lead {p : Int} {N : Nat} {R : List (List Int)} (h : Rdc p N R) {i j : Nat} (hi : i < j) (hj : j < R.length) : ldN R[i] ≠ ldN R[j] := by
  have h1 := List.pairwise_iff_getElem.1 h.ort i j (by omega) hj hi
  intro e
  have h2 := h.one R[j] (List.getElem_mem hj)
  rw [← e, h1.2] at h2; omega
theorem isPr_inv {p : Int} (hp : isPr p) : 1 < p ∧ ∀ a, 0 < a → a < p → IsInv p a (invF p a) := by
  refine ⟨by unfold isPr at hp; omega, fun a h1 h2 => (invF_ok hp a h1 h2).1⟩
def rkL (p : Int) (N : Nat) (rows : List (List Int)) : List (List Int) := echL p (invF p) N (kerL p N (echL p (invF p) N rows) N)
theorem rk_rdc {p : Int} {N : Nat} {rows : List (List Int)} (hp : isPr p) : Rdc p N (rkL p N rows) :=
  (ech_ok (isPr_inv hp).1 (isPr_inv hp).2 (kerL_vec (isPr_inv hp).1 N)).1
/-! ### matrices -/
def chL (n : Nat) (xs : List Int) : List (List Int) := (List.range n).map fun x => (xs.drop (x * n)).take n
theorem chL_len (n : Nat) (xs : List Int) : (chL n xs).length = n := by simp [chL]
theorem chL_row {n x : Nat} {xs : List Int} (hx : x < n) : (chL n xs).getD x [] = (xs.drop (x * n)).take n := by
  unfold chL; rw [List.getD_eq_getElem?_getD, List.getElem?_eq_getElem (by simpa using hx)]; simp
theorem pairN {n x y : Nat} (hx : x < n) (hy : y < n) : x * n + y < n * n := by
  have : (x + 1) * n ≤ n * n := Nat.mul_le_mul_right n hx
  rw [Nat.add_mul] at this; omega
theorem rowN {n x : Nat} (hx : x < n) : x * n + n ≤ n * n := by
  have : (x + 1) * n ≤ n * n := Nat.mul_le_mul_right n hx
  rw [Nat.add_mul] at this; omega
theorem chL_rlen {n x : Nat} {xs : List Int} (hx : x < n) (hl : xs.length = n * n) : ((chL n xs).getD x []).length = n := by
  have := rowN hx
  rw [chL_row hx, List.length_take, List.length_drop, hl]; omega
theorem chL_at {n x y : Nat} {xs : List Int} (hx : x < n) (hy : y < n) : ((chL n xs).getD x []).getD y 0 = gv xs (x * n + y) := by
  rw [chL_row hx]; unfold gv
  rw [List.getD_eq_getElem?_getD, List.getElem?_take, if_pos hy, List.getElem?_drop, ← List.getD_eq_getElem?_getD]
theorem chL_mx {n : Nat} {p : Int} {xs : List Int} (hp : 1 ≤ p ∧ p ≤ 12) (h : Vec p (n * n) xs) : isMx (n : Int) p (chL n xs) = true := by
  unfold isMx rngB
  have h1 : decide (1 ≤ p) = true := by simpa using hp.1
  have h2 : decide (p ≤ 12) = true := by simpa using hp.2
  rw [h1, h2, chL_len]
  simp only [Bool.and_self, decide_true, Bool.true_and]
  rw [List.all_eq_true]
  intro row hrow
  obtain ⟨x, hx, rfl⟩ := List.mem_iff_getElem.1 hrow
  rw [chL_len] at hx
  have e : (chL n xs)[x] = (chL n xs).getD x [] := by rw [List.getD_eq_getElem?_getD, List.getElem?_eq_getElem (by rw [chL_len]; exact hx)]; rfl
  rw [e]
  have hl := chL_rlen hx h.1
  unfold rowOk
  rw [hl, List.all_eq_true.2]
  · simp
  · intro z hz
    obtain ⟨y, hy, rfl⟩ := List.mem_iff_getElem.1 hz
    have hy' : y < n := by rw [hl] at hy; exact hy
    have e2 : ((chL n xs).getD x [])[y] = gv xs (x * n + y) := by rw [← chL_at hx hy', List.getD_eq_getElem?_getD (l := (chL n xs).getD x []), List.getElem?_eq_getElem hy]; rfl
    rw [e2]
    have := h.2 _ (pairN hx hy')
    unfold rngB; simp; omega
theorem wb_rk (f g : List (List Int)) (n : Nat) (p : Int) : wbL f g n p = rkL p (n * n) (rowsW f g n p) := rfl
end Go.Proofs.YtpdgpgbgakinlaaGreat

namespace Go.Proofs.YtpdgpgbgakinlaaGreat
set_option linter.unusedVariables false
set_option linter.unusedSimpArgs false
open Go.RowKit
theorem chL_take {n x : Nat} {R : List Int} (h : x < n) : (chL n R).take (x + 1) = (chL n R).take x ++ [(R.drop (x * n)).take n] := by
  have hl : x < (chL n R).length := by rw [chL_len]; exact h
  rw [List.take_succ_eq_append_getElem hl]
  simp [chL]
theorem Vec.mem {p : Int} {N : Nat} {xs : List Int} (h : Vec p N xs) : ∀ x ∈ xs, 0 ≤ x ∧ x < p := fun x hx => by
  obtain ⟨i, hi, rfl⟩ := List.getElem_of_mem hx
  have := h.2 i (by rw [← h.1]; exact hi)
  unfold gv at this
  rw [List.getD_eq_getElem?_getD, List.getElem?_eq_getElem hi] at this
  exact this
theorem wb_row {f g : List (List Int)} {p : Int} (hs : isSol f g = true) (hp : isPr p) {b : List Int} (hb : b ∈ wbL f g f.length p) : Vec p (f.length * f.length) b ∧ ldN b < f.length * f.length ∧ gv b (ldN b) = 1 := by
  have h := rk_rdc (p := p) (N := f.length * f.length) (rows := rowsW f g f.length p) hp
  rw [← wb_rk] at h
  exact ⟨h.vec b hb, h.lt b hb, h.one b hb⟩
theorem Row.mid2 {w : World} {g N : Nat} {xs : List Int} (h : Row w (some ⟨g, 0, none⟩) N xs) (q m : Nat) (hq : q + m ≤ N) : Row w (some ⟨g, q, none⟩) m ((xs.drop q).take m) := by
  refine ⟨by rw [List.length_take, List.length_drop, ← h.1]; omega, fun i hi => ?_⟩
  obtain ⟨b, off, e1, e2, e3⟩ := h.2 (q + i) (by omega)
  cases e1
  refine ⟨g, q, rfl, e2, ?_⟩
  rw [Nat.zero_add] at e3
  rw [e3]
  simp [List.getD_eq_getElem?_getD, List.getElem?_take, hi]
end Go.Proofs.YtpdgpgbgakinlaaGreat

namespace Go.Proofs.YtpdgpgbgakinlaaGreat
set_option maxRecDepth 100000
set_option linter.unusedVariables false
set_option linter.unusedSimpArgs false
open Go.RowKit
def get2 (f : List (List Int)) (x y : Nat) : Int := (f.getD x []).getD y 0
def addE (m : Int) (f g : List (List Int)) (x y : Nat) : Int := (get2 f x y + get2 g x y) % m
theorem isMx_row {N m : Int} {f : List (List Int)} (h : isMx N m f = true) (x : Nat) (hx : x < f.length) : ((f.getD x []).length : Int) = N ∧ (1 ≤ m ∧ m ≤ 12) ∧ ∀ y ∈ f.getD x [], 0 ≤ y ∧ y ≤ m - 1 := by
  simp only [isMx, Bool.and_eq_true, rngB, decide_eq_true_eq, List.all_eq_true] at h
  obtain ⟨hm, hl, hr⟩ := h
  have := hr (f.getD x []) (by rw [Tbl.getD hx]; exact List.getElem_mem hx)
  simp only [rowOk, Bool.and_eq_true, decide_eq_true_eq, List.all_eq_true, rngB] at this
  exact ⟨this.1, hm, this.2⟩
theorem isMx_len {N m : Int} {f : List (List Int)} (h : isMx N m f = true) : (f.length : Int) = N := by
  simp only [isMx, Bool.and_eq_true, decide_eq_true_eq] at h
  exact h.2.1
theorem get2_mem {f : List (List Int)} {x y : Nat} (hy : y < (f.getD x []).length) : get2 f x y ∈ f.getD x [] := by
  unfold get2
  generalize f.getD x [] = r at *
  rw [List.getD_eq_getElem?_getD, List.getElem?_eq_getElem hy]
  exact List.getElem_mem hy
theorem Tbl.cell2 {w : World} {a : Option Addr} {n : Nat} {f : List (List Int)} (h : Tbl w a n f) (x y : Nat) (hx : x < n) (hy : y < (f.getD x []).length) :
    ∃ b off b2 off2 ni ci, a = some ⟨b, off, none⟩ ∧ w.cell? ⟨b, off + x, none⟩ = some (.slice (some ⟨b2, off2, none⟩) ni ci) ∧ w.cell? ⟨b2, off2 + y, none⟩ = some (.int .i64 (get2 f x y)) ∧ y < ni := by
  obtain ⟨b, off, ai, ni, ci, h1, h2, h3, h4⟩ := h.at x hx
  have hyn : y < ni := by have := h3.len; omega
  obtain ⟨b2, off2, h5, h6⟩ := h3.at y hyn
  subst h5
  exact ⟨b, off, b2, off2, ni, ci, h1, h2, h6, hyn⟩
theorem tabF_take_succ (n : Nat) (v : Nat → Nat → Int) (k : Nat) (hk : k < n) : (tabF n v).take (k + 1) = (tabF n v).take k ++ [(List.range n).map fun y => v k y] := by
  have := tabP_next n v k hk []
  rw [List.append_nil] at this
  exact this.symm
theorem rowF_take_succ (n : Nat) (f : Nat → Int) (j : Nat) (h : j < n) : ((List.range n).map f).take (j + 1) = ((List.range n).map f).take j ++ [f j] := by
  have hx : j < ((List.range n).map f).length := by simpa using h
  rw [List.take_succ_eq_append_getElem hx]; simp
set_option maxHeartbeats 2000000 in
theorem l18Plus_any (m : Int) (a1 a2 : Option Addr) (n n2 c1 c2 : Nat) (f g : List (List Int)) (w : World) (h1 : Tbl w a1 n f) (h2 : Tbl w a2 n2 g) (hn : n ≤ 12) (hf : isMx n m f = true) (hg : isMx n m g = true) :
    Calls Tryz.prog 131 #[.int .i64 m, .slice a1 n c1, .slice a2 n2 c2] w fun e w' => ∃ a c vs, e = .returned (.slice a n c) ∧ OwnT w' w.heap.size a n c vs (tabF n (addE m f g)) ∧ Below w.heap.size w w' := by
  have e1 := h1.len
  have e2 := h2.len
  have hg2 := isMx_len hg
  have hnn : n2 = n := by omega
  have HFM := Lib.hid hf; have HGM := Lib.hid hg
  have HE1 := Lib.hid e1; have HE2 := Lib.hid e2; have HNN := Lib.hid hnn
  clear e1 e2 hg2 hf hg hnn
  go_enter Tryz.func131, Tryz.ntmps131
  go_wp2
  have ho := OwnT.fresh w rfl
  have hb := below_al (Below.refl w.heap.size w) (.cells #[] 27)
  go_loopw [7, 8] (fun z i wr => ∃ (k : Nat) (a' : Option Addr) (c' : Nat) (vs : List SV), k ≤ n ∧ i = .int .i64 k ∧ z = .slice a' k c' ∧ OwnT wr w.heap.size a' k c' vs ((tabF n (addE m f g)).take k) ∧ Below w.heap.size w wr) (fun _ i _ => n - (intOf i).toNat)
  case atStart => exact ⟨0, _, _, _, Nat.zero_le _, rfl, rfl, by simpa using ho, hb⟩
  case round =>
    clear ho hb
    obtain ⟨k, a', c', vs, hk, rfl, rfl, ho, hb⟩ := hrel
    by_cases hlt : k < n
    · go_wp2
      have hrow := Own.fresh wr rfl
      have hbr := below_al (Below.refl wr.heap.size wr) (.cells #[] 2)
      go_loopw [9, 10] (fun z i w4 => ∃ (j : Nat) (a2 : Option Addr) (c2 : Nat), j ≤ n ∧ i = .int .i64 j ∧ z = .slice a2 j c2 ∧ Own w4 wr.heap.size a2 j c2 (((List.range n).map fun y => addE m f g k y).take j) ∧ Below wr.heap.size wr w4 ∧ wr.heap.size < w4.heap.size) (fun _ i _ => n - (intOf i).toNat)
      case atStart => exact ⟨0, _, _, Nat.zero_le _, rfl, rfl, by simpa using hrow, hbr, by simp⟩
      case round =>
        clear hrow hbr
        obtain ⟨j, a2', c2', hj, rfl, rfl, hor, hbr, hsz⟩ := hrel
        by_cases hjt : j < n
        · have hB4 := below_th hb hbr
          have t1 := h1.below hB4
          have t2 := h2.below hB4
          have r1 := isMx_row HFM.out k (by have := HE1.out; omega)
          have r2 := isMx_row HGM.out k (by have := HE2.out; have := HNN.out; omega)
          obtain ⟨p1, o1, q1, s1, ni1, ci1, rfl, d1, d2, d3⟩ := h1.cell2 k j hlt (by omega)
          obtain ⟨p2, o2, q2, s2, ni2, ci2, rfl, d4, d5, d6⟩ := h2.cell2 k j (by have := HNN.out; omega) (by omega)
          have b1 : p1 < w.heap.size := World.block_lt_of_cell? w _ d1
          have b2 : q1 < w.heap.size := World.block_lt_of_cell? w _ d2
          have b4 : p2 < w.heap.size := World.block_lt_of_cell? w _ d4
          have b5 : q2 < w.heap.size := World.block_lt_of_cell? w _ d5
          have d1 := (hB4.cell (p := ⟨p1, o1 + k, none⟩) b1).trans d1
          have d2 := (hB4.cell (p := ⟨q1, s1 + j, none⟩) b2).trans d2
          have d4 := (hB4.cell (p := ⟨p2, o2 + k, none⟩) b4).trans d4
          have d5 := (hB4.cell (p := ⟨q2, s2 + j, none⟩) b5).trans d5
          have v1 := r1.2.2 _ (get2_mem (show j < (f.getD k []).length by omega))
          have v2 := r2.2.2 _ (get2_mem (show j < (g.getD k []).length by omega))
          have hm := r1.2.1
          have hk2 : k < n2 := by have := HNN.out; omega
          have hE : addE m f g k j = (get2 f k j + get2 g k j) % m := rfl
          obtain ⟨F, hF⟩ : ∃ F, F = get2 f k j := ⟨_, rfl⟩
          obtain ⟨G, hG⟩ : ∃ G, G = get2 g k j := ⟨_, rfl⟩
          rw [← hF] at d2 v1 hE
          rw [← hG] at d5 v2 hE
          have HE := Lib.hid hE
          have hwr := hb.size
          clear hF hG r1 r2 hE
          have hrem : (F + G).tmod m = (F + G) % m := IntWalk.rem_in _ _ (by omega)
          have hm0 : m ≠ 0 := by omega
          have hsum : IntKind.i64.wrap (F + G) = F + G := IntWalk.i64_in _ (by omega)
          go_wp2
          go_region_held3 (fun w' => w'.cell? ⟨p1, o1 + k, none⟩ = some (.slice (some ⟨q1, s1, none⟩) ni1 ci1) ∧ w'.cell? ⟨q1, s1 + j, none⟩ = some (.int .i64 F) ∧ w'.cell? ⟨p2, o2 + k, none⟩ = some (.slice (some ⟨q2, s2, none⟩) ni2 ci2) ∧ w'.cell? ⟨q2, s2 + j, none⟩ = some (.int .i64 G))
            (first | exact ⟨d1, d2, d4, d5⟩ | exact ⟨hK1, hK2, hK3, hK4⟩ | go_keep)
            (first
            | (refine step_app1 rfl rfl hor rfl rfl ?_ ?_ ?_; (omega); (omega); intro g' cc w5 hO hg5 hs5 hb5; have hK1 := (hb5.cell (p := ⟨p1, o1 + k, none⟩) (Nat.lt_of_lt_of_le b1 hwr)).trans d1; have hK2 := (hb5.cell (p := ⟨q1, s1 + j, none⟩) (Nat.lt_of_lt_of_le b2 hwr)).trans d2; have hK3 := (hb5.cell (p := ⟨p2, o2 + k, none⟩) (Nat.lt_of_lt_of_le b4 hwr)).trans d4; have hK4 := (hb5.cell (p := ⟨q2, s2 + j, none⟩) (Nat.lt_of_lt_of_le b5 hwr)).trans d5))
          all_goals
            go_wp2
            go_roundw
            case rel =>
              refine ⟨j + 1, _, _, by omega, by go_num, rfl, ?_, hbr.trans hb5, by omega⟩
              rw [rowF_take_succ n _ j hjt, HE.out]
              exact hO
            case measure => simp [intOf]; omega
        · obtain rfl : j = n := by omega
          have e1 : ((List.range j).map fun y => addE m f g k y).take j = (List.range j).map fun y => addE m f g k y := List.take_of_length_le (by simp)
          rw [e1] at hor
          have hwr := hb.size
          have ho4 := ho.below hbr
          go_wp2_with (at_builtin; refine appT1 rfl rfl ho4 rfl (hor.mono hwr) (fun g h1 h2 => by have h3 := ho.high _ h1; have h4 := hor.lo _ h2; omega) (fun i hi g h1 h2 => by have h3 := hor.lo _ h1; have h4 := (ho.row i hi).hi _ h2; omega) rfl (by omega) (by omega) ?_; intro g' cc w5 hO hb5)
          go_roundw
          case rel =>
            refine ⟨k + 1, _, _, vs ++ [(a2', j, c2')], by omega, by go_num, rfl, ?_, (below_th hb hbr).trans hb5⟩
            rw [tabF_take_succ _ _ k hlt]
            exact hO
          case measure => simp [intOf]; omega
    · obtain rfl : k = n := by omega
      go_wp2
      go_ret
      rw [List.take_of_length_le (by rw [tabF_len]; omega)] at ho
      exact ⟨_, _, _, rfl, ho, hb⟩
end Go.Proofs.YtpdgpgbgakinlaaGreat

namespace Go.Proofs.YtpdgpgbgakinlaaGreat
set_option maxRecDepth 100000
set_option linter.unusedVariables false
set_option linter.unusedSimpArgs false
open Go.RowKit
theorem tabF_take_succ' (n : Nat) (v : Nat → Nat → Int) (k : Nat) (hk : k < n) : (tabF n v).take (k + 1) = (tabF n v).take k ++ [(List.range n).map fun y => v k y] := by
  have := tabP_next n v k hk []
  rw [List.append_nil] at this
  exact this.symm
theorem rowF_take_succ' (n : Nat) (f : Nat → Int) (j : Nat) (h : j < n) : ((List.range n).map f).take (j + 1) = ((List.range n).map f).take j ++ [f j] := by
  have hx : j < ((List.range n).map f).length := by simpa using h
  rw [List.take_succ_eq_append_getElem hx]; simp
def bndE (m : Int) (f g : List (List Int)) (gs : List Int) (x y : Nat) : Int := (gs.getD (tv f x y) 0 + gs.getD (tv g x y) 0 - gs.getD x 0 - gs.getD y 0 + 2 * m) % m
def bndL (n : Nat) (m : Int) (f g : List (List Int)) (gs : List Int) : List (List Int) := tabF n (bndE m f g gs)
theorem rowOk_val {n m : Int} {gs : List Int} (h : rowOk n m gs = true) (i : Nat) (hi : (i : Int) < n) : 0 ≤ gs.getD i 0 ∧ gs.getD i 0 < m := by
  obtain ⟨h1, h2⟩ := rowOk_get h
  exact h2 i (by omega)
set_option maxHeartbeats 4000000 in
theorem l18Bound_any (m : Int) (a : Option Addr) (n c : Nat) (a' : Option Addr) (c' : Nat) (f g : List (List Int)) (al : Option Addr) (cl : Nat) (gs : List Int) (w : World) (h1 : Tbl w a n f) (h2 : Tbl w a' n g) (hn1 : 1 ≤ n) (hn : n ≤ 12) (hf : Sq n f) (hg : Sq n g) (hr : Row w al n gs) (hm1 : 1 ≤ m) (hm2 : m ≤ 12) (hk : rowOk n m gs = true) :
    Calls Tryz.prog 125 #[sAgg a n c a' n c', .int .i64 m, .slice al n cl] w fun e w' => ∃ a c vs, e = .returned (.slice a n c) ∧ OwnT w' w.heap.size a n c vs (bndL n m f g gs) ∧ Below w.heap.size w w' := by
  obtain ⟨bf, of, A, O, C, rfl, Gf⟩ := h1.grid hf hn1
  obtain ⟨bg, og, A', O', C', rfl, Gg⟩ := h2.grid hg hn1
  obtain ⟨bl, ol, rfl, hbl, hall⟩ := hr.all hn1
  have hA := Loc.new w rfl #[.slice (some ⟨bf, of, none⟩) n c, .slice (some ⟨bg, og, none⟩) n c'] 26
  have gf := Gf.alloc (.cells #[.slice (some ⟨bf, of, none⟩) n c, .slice (some ⟨bg, og, none⟩) n c'] 26)
  have gg := Gg.alloc (.cells #[.slice (some ⟨bf, of, none⟩) n c, .slice (some ⟨bg, og, none⟩) n c'] 26)
  have HSF := Lib.hid hf; have HSG := Lib.hid hg; have HK := Lib.hid hk; have HALL := Lib.hid hall
  have lA := hA.two
  clear h1 h2 hr hf hg hk hall Gf Gg
  go_enter Tryz.func125, Tryz.ntmps125
  go_wp2
  have hB0 := below_al (Below.refl w.heap.size w) (.cells #[.slice (some ⟨bf, of, none⟩) n c, .slice (some ⟨bg, og, none⟩) n c'] 26)
  have hbl0 : bl < (w.alloc (.cells #[.slice (some ⟨bf, of, none⟩) n c, .slice (some ⟨bg, og, none⟩) n c'] 26)).heap.size := Nat.lt_of_lt_of_le hbl (size_le_alloc _ _)
  have HALL0 : Hid (∀ i, i < n → (w.alloc (.cells #[.slice (some ⟨bf, of, none⟩) n c, .slice (some ⟨bg, og, none⟩) n c'] 26)).cell? ⟨bl, ol + i, none⟩ = some (.int .i64 (gs.getD i 0))) := Lib.hid fun i hi => (((Below.refl w.heap.size w).alloc (Nat.le_refl _) _).cell (p := ⟨bl, ol + i, none⟩) hbl).trans (HALL.out i hi)
  clear HALL hbl
  have hsz : w.heap.size < (w.alloc (.cells #[.slice (some ⟨bf, of, none⟩) n c, .slice (some ⟨bg, og, none⟩) n c'] 26)).heap.size := hA.lt
  generalize hw0 : w.alloc (.cells #[.slice (some ⟨bf, of, none⟩) n c, .slice (some ⟨bg, og, none⟩) n c'] 26) = w0 at *
  have hsz0 : w.heap.size + 1 = w0.heap.size := by rw [← hw0]; simp
  clear hw0
  have ho := OwnT.fresh w0 hsz0
  have HSZ := Lib.hid hsz0; clear hsz0
  have hb := below_al (Below.refl w0.heap.size w0) (.cells #[] 27)
  clear lA
  go_loopw [7, 8] (fun z i wr => ∃ (k : Nat) (a' : Option Addr) (c' : Nat) (vs : List SV), k ≤ n ∧ i = .int .i64 k ∧ z = .slice a' k c' ∧ OwnT wr w0.heap.size a' k c' vs ((bndL n m f g gs).take k) ∧ Below w0.heap.size w0 wr) (fun _ i _ => n - (intOf i).toNat)
  case atStart => exact ⟨0, _, _, _, Nat.zero_le _, rfl, rfl, by simpa using ho, hb⟩
  case round =>
    clear ho hb
    obtain ⟨x, za, zc, vs, hk, rfl, rfl, ho, hb⟩ := hrel
    have lA := (hA.below hb hA.lt).two
    by_cases hlt : x < n
    · go_wp2
      have hrow := Own.fresh wr rfl
      have hbr := below_al (Below.refl wr.heap.size wr) (.cells #[] 2)
      clear lA
      go_loopw [9, 10] (fun z i w4 => ∃ (j : Nat) (a2 : Option Addr) (c2 : Nat), j ≤ n ∧ i = .int .i64 j ∧ z = .slice a2 j c2 ∧ Own w4 wr.heap.size a2 j c2 (((List.range n).map fun y => bndE m f g gs x y).take j) ∧ Below wr.heap.size wr w4 ∧ wr.heap.size < w4.heap.size) (fun _ i _ => n - (intOf i).toNat)
      case atStart => exact ⟨0, _, _, Nat.zero_le _, rfl, rfl, by simpa using hrow, hbr, by simp⟩
      case round =>
        clear hrow hbr
        obtain ⟨y, a2', c2', hj, rfl, rfl, hor, hbr, hsz4⟩ := hrel
        have hB4 := below_th hb hbr
        have lA := (hA.below hB4 hA.lt).two
        by_cases hjt : y < n
        · obtain ⟨r1, k1⟩ := (gf.below hB4).look hlt hjt
          obtain ⟨r2, k2⟩ := (gg.below hB4).look hlt hjt
          have hu := HSF.out.lt hlt hjt
          have hv := HSG.out.lt hlt hjt
          have vA := rowOk_val HK.out (tv f x y) (by omega)
          have vB := rowOk_val HK.out (tv g x y) (by omega)
          have vX := rowOk_val HK.out x (by omega)
          have vY := rowOk_val HK.out y (by omega)
          have gA := (hB4.cell (p := ⟨bl, ol + tv f x y, none⟩) hbl0).trans (HALL0.out _ hu)
          have gB := (hB4.cell (p := ⟨bl, ol + tv g x y, none⟩) hbl0).trans (HALL0.out _ hv)
          have gX := (hB4.cell (p := ⟨bl, ol + x, none⟩) hbl0).trans (HALL0.out _ hlt)
          have gY := (hB4.cell (p := ⟨bl, ol + y, none⟩) hbl0).trans (HALL0.out _ hjt)
          have e1 : bndE m f g gs x y = (gs.getD (tv f x y) 0 + gs.getD (tv g x y) 0 + 2 * m - gs.getD x 0 - gs.getD y 0) % m := by
            unfold bndE; congr 1; omega
          have HE := Lib.hid e1
          have b1 := gf.lt; have b2 := gf.rlt x hlt; have b3 := gg.lt; have b4 := gg.rlt x hlt
          clear e1
          generalize tv f x y = u at *
          generalize tv g x y = v at *
          generalize gs.getD u 0 = P at *
          generalize gs.getD v 0 = Q at *
          generalize gs.getD x 0 = R at *
          generalize gs.getD y 0 = S at *
          have q1 : IntKind.i64.wrap (P + Q) = P + Q := IntWalk.i64_in _ (by omega)
          have q4 : IntKind.i64.wrap (2 * m) = 2 * m := IntWalk.i64_in _ (by omega)
          have q5 : IntKind.i64.wrap (P + Q + 2 * m) = P + Q + 2 * m := IntWalk.i64_in _ (by omega)
          have q2 : IntKind.i64.wrap (P + Q + 2 * m - R) = P + Q + 2 * m - R := IntWalk.i64_in _ (by omega)
          have q3 : IntKind.i64.wrap (P + Q + 2 * m - R - S) = P + Q + 2 * m - R - S := IntWalk.i64_in _ (by omega)
          have q6 : (P + Q + 2 * m - R - S).tmod m = (P + Q + 2 * m - R - S) % m := IntWalk.rem_in _ _ (by omega)
          have v0 : 0 ≤ (P + Q + 2 * m - R - S) % m := Int.emod_nonneg _ (by omega)
          have v1 : (P + Q + 2 * m - R - S) % m < m := Int.emod_lt_of_pos _ (by omega)
          generalize (P + Q + 2 * m - R - S) % m = V at *
          have q7 : IntKind.i64.wrap V = V := IntWalk.i64_in _ (by omega)
          have hm0 : m ≠ 0 := by omega
          have hwr := hb.size
          go_wp2
          go_region_held3 (fun w' => (w'.cell? ⟨w.heap.size, 0, none⟩ = some (.slice (some ⟨bf, of, none⟩) n c) ∧ w'.cell? ⟨w.heap.size, 1, none⟩ = some (.slice (some ⟨bg, og, none⟩) n c')) ∧ w'.cell? ⟨bf, of + x, none⟩ = some (.slice (some ⟨A x, O x, none⟩) n (C x)) ∧ w'.cell? ⟨A x, O x + y, none⟩ = some (.int .i64 ((u : Nat) : Int)) ∧ w'.cell? ⟨bg, og + x, none⟩ = some (.slice (some ⟨A' x, O' x, none⟩) n (C' x)) ∧ w'.cell? ⟨A' x, O' x + y, none⟩ = some (.int .i64 ((v : Nat) : Int)) ∧ w'.cell? ⟨bl, ol + u, none⟩ = some (.int .i64 P) ∧ w'.cell? ⟨bl, ol + v, none⟩ = some (.int .i64 Q) ∧ w'.cell? ⟨bl, ol + x, none⟩ = some (.int .i64 R) ∧ w'.cell? ⟨bl, ol + y, none⟩ = some (.int .i64 S))
            (first | exact ⟨⟨lA.1, lA.2.1⟩, r1, k1, r2, k2, gA, gB, gX, gY⟩ | exact ⟨⟨lB.1, lB.2.1⟩, hK1, hK2, hK3, hK4, hK5, hK6, hK7, hK8⟩ | go_keep)
            (first
            | (refine step_app1 rfl rfl hor rfl rfl ?_ ?_ ?_; (omega); (omega); intro g' cc w5 hO hg5 hs5 hb5; have hR := hb5.mono hwr; have lB := (hA.below (below_th hb (hbr.trans hb5)) hA.lt).two; have hK1 := (hR.cell (p := ⟨bf, of + x, none⟩) b1).trans r1; have hK2 := (hR.cell (p := ⟨A x, O x + y, none⟩) b2).trans k1; have hK3 := (hR.cell (p := ⟨bg, og + x, none⟩) b3).trans r2; have hK4 := (hR.cell (p := ⟨A' x, O' x + y, none⟩) b4).trans k2; have hK5 := (hR.cell (p := ⟨bl, ol + u, none⟩) hbl0).trans gA; have hK6 := (hR.cell (p := ⟨bl, ol + v, none⟩) hbl0).trans gB; have hK7 := (hR.cell (p := ⟨bl, ol + x, none⟩) hbl0).trans gX; have hK8 := (hR.cell (p := ⟨bl, ol + y, none⟩) hbl0).trans gY))
          all_goals
            go_wp2
            go_roundw
            case rel =>
              refine ⟨y + 1, _, _, by omega, by go_num, rfl, ?_, hbr.trans hb5, by omega⟩
              rw [rowF_take_succ' n _ y hjt, HE.out]
              exact hO
            case measure => simp [intOf]; omega
        · obtain rfl : y = n := by omega
          have e1 : ((List.range y).map fun z => bndE m f g gs x z).take y = (List.range y).map fun z => bndE m f g gs x z := List.take_of_length_le (by simp)
          rw [e1] at hor
          have hwr := hb.size
          have ho4 := ho.below hbr
          go_wp2_with (at_builtin; refine appT1 rfl rfl ho4 rfl (hor.mono hwr) (fun g h1 h2 => by have h3 := ho.high _ h1; have h4 := hor.lo _ h2; omega) (fun i hi g h1 h2 => by have h3 := hor.lo _ h1; have h4 := (ho.row i hi).hi _ h2; omega) rfl (by omega) (by omega) ?_; intro g' cc w5 hO hb5)
          go_roundw
          case rel =>
            refine ⟨x + 1, _, _, vs ++ [(a2', y, c2')], by omega, by go_num, rfl, ?_, (below_th hb hbr).trans hb5⟩
            unfold bndL
            rw [tabF_take_succ' _ _ x hlt]
            exact hO
          case measure => simp [intOf]; omega
    · obtain rfl : x = n := by omega
      go_wp2
      go_ret
      unfold bndL at ho
      rw [List.take_of_length_le (by rw [tabF_len]; omega)] at ho
      exact ⟨_, _, _, rfl, ho.mono (by omega), hB0.trans (hb.mono (by omega))⟩
end Go.Proofs.YtpdgpgbgakinlaaGreat

namespace Go.Proofs.YtpdgpgbgakinlaaGreat
set_option maxRecDepth 100000
set_option linter.unusedVariables false
set_option linter.unusedSimpArgs false
open Go.RowKit
/-! ### a table by a function, in memory -/
/-! ### the labels of the strands at the places -/
section
variable {s : Nat} {xs : List Int} {k : Nat}
end
end Go.Proofs.YtpdgpgbgakinlaaGreat

namespace Go.Proofs.YtpdgpgbgakinlaaGreat
set_option linter.unusedVariables false
set_option linter.unusedSimpArgs false
set_option maxRecDepth 100000
open Go.RowKit
theorem wrap_a6 {P x : Nat} (h : P ≤ 10000) (h2 : x ≤ 10000) : wrap64 ((P : Int) + (x : Int)) = (P : Int) + (x : Int) := IntWalk.wrap64_in _ (by omega)
def IsBo (e : Ending) : Prop := ∃ q, e = .returned (.bool q)
def SqB (w : World) (n : Nat) (e : Ending) (w' : World) : Prop :=
  ∃ (a : Option Addr) (c : Nat) (vs : List SV) (t : List (List Int)), e = .returned (.slice a n c) ∧ OwnT w' w.heap.size a n c vs t ∧ Sq n t ∧ Below w.heap.size w w'
set_option maxHeartbeats 4000000 in
theorem l03Alexander_any (n a b : Nat) (w : World) (n1 : 1 ≤ n) (hn : n ≤ 100) (ha : a ≤ 100) (hb : b ≤ 100) :
    Calls Tryz.prog 158 #[.int .i64 n, .int .i64 a, .int .i64 b] w (SqB w n) := by
  obtain ⟨V, hV⟩ : ∃ V : Nat → Nat → Int, V = fun x y => (((b * x + a * y) % n : Nat) : Int) := ⟨_, rfl⟩
  have HVE : Hid (∀ x y, V x y = (((b * x + a * y) % n : Nat) : Int)) := Lib.hid fun x y => by rw [hV]
  have HSV : Hid (Sq n (tabF n V)) := Lib.hid (tabF_sqI fun x y hx hy => by
    rw [HVE.out]; have := Nat.mod_lt (b * x + a * y) (show n > 0 by omega); omega)
  clear hV
  have hO := OwnT.fresh w rfl
  have hB := below_al (Below.refl w.heap.size w) (.cells #[] 27)
  go_enter Tryz.func158, Tryz.ntmps158
  go_wp2
  go_loopw [7, 8, 9, 10] (fun z i _ _ wr => ∃ (k : Nat) (az : Option Addr) (cz : Nat) (vz : List SV), k ≤ n ∧ i = .int .i64 k ∧ z = .slice az k cz ∧ OwnT wr w.heap.size az k cz vz ((tabF n V).take k) ∧ Below w.heap.size w wr) (fun _ i _ _ _ => n - (intOf i).toNat)
  case atStart => exact ⟨0, _, 0, _, Nat.zero_le _, rfl, rfl, by simpa using hO, hB⟩
  case round =>
    clear hO hB
    obtain ⟨k, az, cz, vz, hk, rfl, rfl, ho, hb'⟩ := hrel
    by_cases hlt : k < n
    · have HRV := Lib.hid (tabF_succ V hlt)
      have hE := Own.fresh wr rfl
      have hqe := below_al (Below.refl wr.heap.size wr) (.cells #[] 2)
      go_wp2
      go_loopw [9, 10] (fun z i wq => ∃ (j : Nat) (ar : Option Addr) (cr : Nat), j ≤ n ∧ i = .int .i64 j ∧ z = .slice ar j cr ∧ Own wq wr.heap.size ar j cr ((List.range j).map fun y => V k y) ∧ Below wr.heap.size wr wq) (fun _ i _ => n - (intOf i).toNat)
      case atStart => exact ⟨0, _, 0, Nat.zero_le _, rfl, rfl, by simpa using hE, hqe⟩
      case round =>
        clear hE hqe
        obtain ⟨j, ar, cr, hj, rfl, rfl, hor, hqr⟩ := hrel
        have hwq := hqr.size
        obtain ⟨W, rfl⟩ : ∃ W : World, W = wr := ⟨_, rfl⟩
        by_cases hjt : j < n
        · have HV1 : Hid (((List.range (j + 1)).map fun y => V k y) = ((List.range j).map fun y => V k y) ++ [V k j]) := Lib.hid (by simp [List.range_succ])
          have hm1 : b * k ≤ 100 * 100 := Nat.mul_le_mul hb (by omega)
          have hm2 : a * j ≤ 100 * 100 := Nat.mul_le_mul ha (by omega)
          have hve := HVE.out k j
          obtain ⟨P, hP⟩ : ∃ P, b * k = P := ⟨_, rfl⟩
          obtain ⟨Q, hQ⟩ : ∃ Q, a * j = Q := ⟨_, rfl⟩
          rw [hP, hQ] at hve
          have f1 : (b : Int) * (k : Int) = (P : Int) := by rw [← hP]; push_cast; rfl
          have f2 : (a : Int) * (j : Int) = (Q : Int) := by rw [← hQ]; push_cast; rfl
          rw [hP] at hm1
          rw [hQ] at hm2
          have hPQ : P ≤ 10000 ∧ Q ≤ 10000 := by omega
          have e1 : Int.tmod ((P : Int) + (Q : Int)) (n : Int) = V k j := by rw [hve]; rfl
          have hvb : 0 ≤ V k j ∧ V k j < n := by rw [hve]; have := Nat.mod_lt (P + Q) (show n > 0 by omega); omega
          have hz1 : ¬ (n : Int) = 0 := by omega
          have hz2 : ((n : Int) == 0) = false := by simpa using hz1
          have c1 : wrap64 ((b : Int) * (k : Int)) = (P : Int) := by rw [f1]; exact wrap_n6 (by omega)
          have c2 : wrap64 ((a : Int) * (j : Int)) = (Q : Int) := by rw [f2]; exact wrap_n6 (by omega)
          have c5 : wrap64 ((P : Int) + (Q : Int)) = (P : Int) + (Q : Int) := wrap_a6 hPQ.1 hPQ.2
          clear hP hQ hm1 hm2 f1 f2 hve hPQ
          generalize V k j = v at *
          go_wp2_with (at_builtin; refine app1 rfl rfl hor rfl rfl (by omega) hwq ?_; intro g' cc w8 hO8 hg8 hs8 hb8)
          go_roundw
          case rel => exact ⟨j + 1, _, _, by omega, by go_num, rfl, by rw [HV1.out]; exact hO8, hqr.trans hb8⟩
          case measure => simp [intOf]; omega
        · obtain rfl : j = n := by omega
          have hbb := hb'.size
          have hz1 := ho.below hqr
          have hq1 := hb'.trans (hqr.mono hbb)
          go_wp2_with (at_builtin; refine appT1 rfl rfl hz1 rfl (hor.mono hbb) (fun g h1 h2 => by have h3 := ho.high _ h1; have h4 := hor.lo _ h2; omega) (fun i hi g h1 h2 => by have h3 := hor.lo _ h1; have h4 := (ho.row i hi).hi _ h2; omega) rfl (by omega) (by omega) ?_; intro g' cc w2 hO hb2)
          go_roundw
          case rel => exact ⟨k + 1, _, _, _, by omega, by go_num, rfl, by rw [HRV.out]; exact hO, hq1.trans hb2⟩
          case measure => simp [intOf]; omega
    · obtain rfl : k = n := by omega
      rw [List.take_of_length_le (by rw [tabF_len]; exact Nat.le_refl _)] at ho
      go_wp2
      go_ret
      exact ⟨_, _, vz, _, rfl, ho, HSV.out, hb'⟩
set_option maxHeartbeats 4000000 in
theorem l03Coprime_any (a n : Nat) (w : World) (ha : a ≤ 100) (hn : n ≤ 100) :
    Calls Tryz.prog 159 #[.int .i64 a, .int .i64 n] w fun e w' => IsBo e ∧ w' = w := by
  go_enter Tryz.func159, Tryz.ntmps159
  go_wp2
  go_loop [5] (fun i => ∃ d : Nat, 2 ≤ d ∧ d ≤ 200 ∧ i = .int .i64 d) (fun i => n + 1 - (intOf i).toNat)
  case atStart => exact ⟨2, by omega, by omega, rfl⟩
  case round =>
    obtain ⟨d, hd2, hd, rfl⟩ := hrel
    by_cases hlt : d ≤ n
    · have hz1 : ¬ (d : Int) = 0 := by omega
      have hz2 : ((d : Int) == 0) = false := by simpa using hz1
      have hz3 : ¬ d = 0 := by omega
      have i1 : (d : Int) ≤ (n : Int) := by omega
      have e1 : Int.tmod (a : Int) (d : Int) = ((a % d : Nat) : Int) := rfl
      have e2 : Int.tmod (n : Int) (d : Int) = ((n % d : Nat) : Int) := rfl
      have b1 : a % d ≤ 100 := Nat.le_trans (Nat.mod_le _ _) ha
      have b2 : n % d ≤ 100 := Nat.le_trans (Nat.mod_le _ _) hn
      generalize a % d = u at *
      generalize n % d = v at *
      by_cases hu : u = 0
      · subst hu
        by_cases hv : v = 0
        · subst hv
          go_wp2
          go_ret
          exact ⟨⟨_, rfl⟩, rfl⟩
        · have hv2 : ((v : Int) == 0) = false := by simpa using hv
          have hv3 : ¬ (v : Int) = 0 := by omega
          go_wp2
          go_round
          case rel => exact ⟨d + 1, by omega, by omega, by go_num⟩
          case measure => simp [intOf]; omega
      · have hv2 : ((u : Int) == 0) = false := by simpa using hu
        have hv3 : ¬ (u : Int) = 0 := by omega
        go_wp2
        go_round
        case rel => exact ⟨d + 1, by omega, by omega, by go_num⟩
        case measure => simp [intOf]; omega
    · have i1 : ¬ (d : Int) ≤ (n : Int) := by omega
      go_wp2
      go_ret
      exact ⟨⟨_, rfl⟩, rfl⟩
end Go.Proofs.YtpdgpgbgakinlaaGreat
