/-
  The rows of the equations of weights: the pairs that a triple goes through, counted.
  No condition but bounds.
-/
import Derived.Test.YtnlgmhckjpifiaaGreatWbM
import Derived.Test.YtnlgmhckjpifiaaGreatBase5
import Derived.Test.YtnlgmhckjpifiaaGreatBase2
namespace Go.Proofs.YtnlgmhckjpifiaaGreat
set_option maxRecDepth 100000
set_option linter.unusedVariables false
set_option linter.unusedSimpArgs false
open Go.RowKit

set_option maxHeartbeats 1000000 in
theorem l15Tuple_any (n k N : Nat) (w : World) (hn1 : 1 ≤ n) (hn : n ≤ 1000000) (hk : k ≤ 1000000) (hN : N ≤ 1000000000000) :
    Calls Tryz.prog 102 #[.int .i64 n, .int .i64 k, .int .i64 N] w fun e w' => ∃ a c, e = .returned (.slice a k c) ∧ Own w' w.heap.size a k c (digL n k N) ∧ Below w.heap.size w w' := by
  go_enter Tryz.func102, Tryz.ntmps102
  go_wp2_with (at_make; refine make1 rfl rfl rfl rfl (by omega) ?_; intro w1 ho hs hb)
  have hn0 : (n : Int) ≠ 0 := by omega
  go_loopw [2, 8] (fun q i wr => ∃ j : Nat, j ≤ k ∧ i = .int .i64 ((k : Int) - 1 - j) ∧ q = .int .i64 ((N / n ^ j : Nat) : Int) ∧ Own wr w.heap.size (some ⟨w.heap.size, 0, none⟩) k k (digP n k N j) ∧ Below w.heap.size w wr) (fun _ i _ => (intOf i + 1).toNat)
  case atStart => exact ⟨0, Nat.zero_le _, by go_num, by simp, by rw [digP_zero]; exact ho, hb⟩
  case round =>
    clear ho hb
    obtain ⟨j, hj, rfl, rfl, ho, hb⟩ := hrel
    by_cases hlt : j < k
    · have hq : N / n ^ j ≤ N := Nat.div_le_self _ _
      have hst := digP_step n k N j hlt
      have hdv := div_pow_succ n j N
      obtain ⟨Q, hQ⟩ : ∃ Q, Q = N / n ^ j := ⟨_, rfl⟩
      rw [← hQ] at hq hst hdv ⊢
      have Qr : ((Q : Int)).tmod (n : Int) = ((Q % n : Nat) : Int) := by rw [Int.tmod_eq_emod_of_nonneg (by omega)]; simp
      have Qd : ((Q : Int)).tdiv (n : Int) = ((Q / n : Nat) : Int) := by rw [Int.tdiv_eq_ediv_of_nonneg (by omega)]; simp
      have b1 : Q % n ≤ Q := Nat.mod_le _ _
      have b2 : Q / n ≤ Q := Nat.div_le_self _ _
      have HST := Lib.hid hst; have HDV := Lib.hid hdv
      clear hst hdv hQ
      obtain ⟨i, hi⟩ : ∃ i : Nat, i = k - 1 - j := ⟨_, rfl⟩
      have hii : (k : Int) - 1 - (j : Int) = (i : Int) := by omega
      have hik : i < k := by omega
      rw [hii]
      have HI := Lib.hid hi; have HII := Lib.hid hii
      clear hi hii
      generalize hR : Q % n = R at *
      generalize hD : Q / n = D at *
      have HR := Lib.hid hR; have HD := Lib.hid hD; clear hR hD
      have Wr : IntKind.i64.wrap (R : Int) = (R : Int) := IntWalk.i64_in _ (by omega)
      have Wd : IntKind.i64.wrap (D : Int) = (D : Int) := IntWalk.i64_in _ (by omega)
      have Wi : IntKind.i64.wrap ((i : Int) - 1) = (i : Int) - 1 := IntWalk.i64_in _ (by omega)
      obtain ⟨_, hc, hf⟩ := ho.cells
      have hc1 := hc i hik
      have hf1 := hf i
      clear hc hf
      go_wp2
      go_roundw
      case rel =>
        refine ⟨j + 1, by omega, ?_, by rw [← HDV.out], ?_, hb.setCell (by simp) _⟩
        · have := HII.out
          congr 1
          omega
        · rw [← HST.out, ← HI.out]
          exact ho.set i _
      case measure => first | (simp [intOf]; done) | (simp [intOf]; omega)
    · obtain rfl : j = k := by omega
      have e1 : (j : Int) - 1 - (j : Int) = -1 := by omega
      rw [e1]
      rw [digP_full] at ho
      go_wp2
      go_ret
      exact ⟨_, _, rfl, ho, hb⟩

/-! ### counted pairs -/
/-- the number of the pair at a place -/
def numP (n : Nat) (l : List Int) (k : Nat) : Nat := (l.getD k 0).toNat * n + (l.getD (k + 1) 0).toNat
def cpS (f g : List (List Int)) (n : Nat) (p t : Int) (st : List Int × List Int) (k : Nat) : List Int × List Int :=
  (doF f g k st.1, st.2.set (numP n st.1 k) ((gv st.2 (numP n st.1 k) + t) % p))
def cpF (f g : List (List Int)) (n : Nat) (p t : Int) (ks : List Nat) (st : List Int × List Int) : List Int × List Int := ks.foldl (cpS f g n p t) st
def rowW (f g : List (List Int)) (n : Nat) (p : Int) (m : Nat) : List Int :=
  (cpF f g n p (p - 1) [1, 0, 1] (digL n 3 m, (cpF f g n p 1 [0, 1, 0] (digL n 3 m, List.replicate (n * n) 0)).2)).2
theorem cpF_take {f g : List (List Int)} {n : Nat} {p t : Int} {ks : List Nat} {st : List Int × List Int} {i : Nat} (h : i < ks.length) : cpF f g n p t (ks.take (i + 1)) st = cpS f g n p t (cpF f g n p t (ks.take i) st) ks[i] := by
  unfold cpF; rw [List.take_succ_eq_append_getElem h, List.foldl_append]; rfl
theorem numP_lt {n : Nat} {l : List Int} {k : Nat} (h : Less n l) (hk : k + 1 < l.length) : numP n l k < n * n := by
  obtain ⟨x, hx, ex⟩ := h k (by omega)
  obtain ⟨y, hy, ey⟩ := h (k + 1) hk
  unfold numP; rw [ex, ey]; exact pair_lt hx hy
theorem set_vec {p : Int} {N : Nat} {r : List Int} (h : Vec p N r) (j : Nat) {z : Int} (h0 : 0 ≤ z) (h1 : z < p) : Vec p N (r.set j z) := by
  refine ⟨by rw [List.length_set]; exact h.1, fun i hi => ?_⟩
  rw [gv_set (by rw [h.1]; exact hi)]
  by_cases e : i = j
  · rw [if_pos e]; exact ⟨h0, h1⟩
  · rw [if_neg e]; exact h.2 i hi
structure CpI (n : Nat) (p : Int) (s : Nat) (st : List Int × List Int) : Prop where
  len : st.1.length = s
  less : Less n st.1
  vec : Vec p (n * n) st.2
theorem CpI.step {f g : List (List Int)} {n : Nat} {p t : Int} {s : Nat} {st : List Int × List Int} (h : CpI n p s st) (hf : Sq n f) (hg : Sq n g) (hp : 0 < p) {k : Nat} (hk : k + 1 < s) : CpI n p s (cpS f g n p t st k) := by
  have hl := h.len
  exact ⟨by show (doF f g k st.1).length = s; rw [doF_len]; exact hl, h.less.do_ hf hg k (by omega), set_vec h.vec _ (Int.emod_nonneg _ (by omega)) (Int.emod_lt_of_pos _ hp)⟩
theorem CpI.fold {f g : List (List Int)} {n : Nat} {p t : Int} {s : Nat} {st : List Int × List Int} (h : CpI n p s st) (hf : Sq n f) (hg : Sq n g) (hp : 0 < p) {ks : List Nat} (hk : ∀ k, k ∈ ks → k + 1 < s) : CpI n p s (cpF f g n p t ks st) := by
  induction ks generalizing st with
  | nil => exact h
  | cons k ks ih => exact ih (h.step hf hg hp (hk k (by simp))) fun j hj => hk j (by simp [hj])
theorem stepL_pos {n : Nat} {f g : List (List Int)} {k : Nat} {l : List Int} : stepL n f g ((k : Int) + 1) l = doF f g k l := by
  unfold stepL plc
  rw [if_pos (by omega), if_neg (by omega)]
  congr 1; omega

theorem Row.mid {w : World} {b o n : Nat} {xs : List Int} (h : Row w (some ⟨b, o, none⟩) n xs) (q : Nat) (hq : q + 2 ≤ n) : Row w (some ⟨b, o + q, none⟩) 2 [xs.getD q 0, xs.getD (q + 1) 0] := by
  refine ⟨rfl, fun i hi => ?_⟩
  obtain ⟨b', o', e, hlt, hc⟩ := h.2 (q + i) (by omega)
  cases e
  refine ⟨b, o + q, rfl, hlt, ?_⟩
  rw [Nat.add_assoc, hc]
  have hi2 : i = 0 ∨ i = 1 := by omega
  rcases hi2 with rfl | rfl <;> rfl
theorem numL_two (n : Nat) (x y : Nat) : numL n [(x : Int), (y : Int)] = x * n + y := by simp [numL]
end Go.Proofs.YtnlgmhckjpifiaaGreat
