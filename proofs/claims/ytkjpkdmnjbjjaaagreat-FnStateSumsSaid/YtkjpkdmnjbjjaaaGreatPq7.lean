/-
  Walks and plain laws of this seat, some texts in one.
  No condition but bounds on lengths.
-/
import Derived.Test.YtkjpkdmnjbjjaaaGreatPq6
import Derived.IntWalk
import Derived.Test.YtkjpkdmnjbjjaaaGreatPq3
import Derived.RegionTactic
import Derived.Test.YtkjpkdmnjbjjaaaGreatPq5
import Derived.Test.YtkjpkdmnjbjjaaaGreatPq2
namespace Go.Proofs.YtkjpkdmnjbjjaaaGreat
set_option maxRecDepth 100000
set_option linter.unusedVariables false
set_option linter.unusedSimpArgs false
open Go.RowKit
theorem quo_nat {p n : Nat} (hn : 1 ≤ n) (hp : p ≤ 1000000) : ((p : Int)).tdiv (n : Int) = ((p / n : Nat) : Int) := by
  rw [Int.tdiv_eq_ediv_of_nonneg (by omega)]; simp
theorem rem_nat {p n : Nat} (hn : 1 ≤ n) (hp : p ≤ 1000000) : ((p : Int)).tmod (n : Int) = ((p % n : Nat) : Int) := by
  rw [Int.tmod_eq_emod_of_nonneg (by omega)]; simp
theorem div_lt_sq {p n : Nat} (h : p < n * n) : p / n < n := Nat.div_lt_of_lt_mul h
set_option maxHeartbeats 4000000 in
theorem collisionOf_any (a : Option Addr) (n c : Nat) (a' : Option Addr) (c' : Nat) (f g : List (List Int)) (w : World) (h1 : Tbl w a n f) (h2 : Tbl w a' n g) (hn1 : 1 ≤ n) (hn : n ≤ 12) (hf : Sq n f) (hg : Sq n g) :
    Calls Tryz.prog 134 #[sAgg a n c a' n c'] w (FltR (collOk n f g) w w) := by
  obtain ⟨bf, of, A, O, C, rfl, Gf⟩ := h1.grid hf hn1
  obtain ⟨bg, og, A', O', C', rfl, Gg⟩ := h2.grid hg hn1
  clear h1 h2
  obtain ⟨N, hN⟩ : ∃ N, N = n * n := ⟨_, rfl⟩
  have hN144 : N ≤ 144 := by rw [hN]; exact Nat.mul_le_mul hn hn
  have hmul : (n : Int) * (n : Int) = (N : Int) := by rw [hN]; simp
  have HN := Lib.hid hN
  have HOK : Hid (collOk n f g = allN N fun p => allN N fun q => !collAt n f g p q) := Lib.hid (by rw [hN]; rfl)
  clear hN
  have hn0 : (n : Int) ≠ 0 := by omega
  go_enter Tryz.func134, Tryz.ntmps134
  have hA := Loc.new w rfl #[.slice (some ⟨bf, of, none⟩) n c, .slice (some ⟨bg, og, none⟩) n c'] 26
  have lA := hA.two
  have gf := Gf.alloc (.cells #[.slice (some ⟨bf, of, none⟩) n c, .slice (some ⟨bg, og, none⟩) n c'] 26)
  have gg := Gg.alloc (.cells #[.slice (some ⟨bf, of, none⟩) n c, .slice (some ⟨bg, og, none⟩) n c'] 26)
  have hB := below_al (Below.refl w.heap.size w) (.cells #[.slice (some ⟨bf, of, none⟩) n c, .slice (some ⟨bg, og, none⟩) n c'] 26)
  clear Gf Gg
  go_wp2
  generalize (w.alloc (.cells #[.slice (some ⟨bf, of, none⟩) n c, .slice (some ⟨bg, og, none⟩) n c'] 26)) = w0 at *
  go_loopw [16] (fun i wr => ∃ k : Nat, k ≤ N ∧ i = .int .i64 k ∧ Hid (allN k (fun p => allN N fun q => !collAt n f g p q) = true) ∧ ∃ m, wr = w0.drewN m) (fun i _ => N - (intOf i).toNat)
  case atStart => exact ⟨0, Nat.zero_le _, rfl, Lib.hid rfl, 0, rfl⟩
  case round =>
    obtain ⟨p, hp, rfl, hp1, m1, rfl⟩ := hrel
    by_cases hlt : p < N
    · have Qp := quo_nat (n := n) (p := p) hn1 (by omega)
      have Rp := rem_nat (n := n) (p := p) hn1 (by omega)
      have bx := div_lt_sq (n := n) (p := p) (by rw [← HN.out]; exact hlt)
      have bY := Nat.mod_lt p hn1
      generalize hx : p / n = x at Qp bx
      generalize hy : p % n = y at Rp bY
      have Wp : IntKind.i64.wrap (x : Int) = (x : Int) := IntWalk.i64_in _ (by omega)
      have Wr : IntKind.i64.wrap (y : Int) = (y : Int) := IntWalk.i64_in _ (by omega)
      have HX := Lib.hid hx; have HY := Lib.hid hy; clear hx hy
      go_wp2
      go_quiet (fail)
      go_wp2
      clear Qp Rp Wp Wr
      go_loopw [28] (fun i wr => ∃ k : Nat, k ≤ N ∧ i = .int .i64 k ∧ Hid (allN k (fun q => !collAt n f g p q) = true) ∧ ∃ m, wr = w0.drewN m) (fun i _ => N - (intOf i).toNat)
      case atStart => exact ⟨0, Nat.zero_le _, rfl, Lib.hid rfl, _, rfl⟩
      case round =>
        obtain ⟨q, hq, rfl, hq1, m2, rfl⟩ := hrel
        by_cases hltq : q < N
        · have Qq := quo_nat (n := n) (p := q) hn1 (by omega)
          have Rq := rem_nat (n := n) (p := q) hn1 (by omega)
          have bu := div_lt_sq (n := n) (p := q) (by rw [← HN.out]; exact hltq)
          have bv := Nat.mod_lt q hn1
          generalize hu : q / n = u at Qq bu
          generalize hv : q % n = v at Rq bv
          have Wq : IntKind.i64.wrap (u : Int) = (u : Int) := IntWalk.i64_in _ (by omega)
          have Wv : IntKind.i64.wrap (v : Int) = (v : Int) := IntWalk.i64_in _ (by omega)
          have hE : collAt n f g p q = ((!decide (p = q)) && (decide (tv f x y = tv f u v) && decide (tv g x y = tv g u v))) := by
            unfold collAt; rw [HX.out, HY.out, hu, hv]
          obtain ⟨r1, k1⟩ := gf.look bx bY
          obtain ⟨r2, k2⟩ := gf.look bu bv
          obtain ⟨r3, k3⟩ := gg.look bx bY
          obtain ⟨r4, k4⟩ := gg.look bu bv
          generalize tv f x y = A1 at hE k1
          generalize tv f u v = A2 at hE k2
          generalize tv g x y = A3 at hE k3
          generalize tv g u v = A4 at hE k4
          have HE := Lib.hid hE
          clear hE hu hv gf gg hf hg
          go_wp2
          go_quiet (fail)
          go_wp2
          clear Qq Rq Wq Wv
          by_cases p0 : p = q
          · have u0 : ((p : Int) != (q : Int)) = false := by simp [p0]
            have HE2 : Hid ((!collAt n f g p q) = true) := Lib.hid (by rw [HE.out]; simp [p0])
            clear p0
            go_quiet (fail)
            go_wp2
            go_roundw
            case rel => exact ⟨q + 1, by omega, by go_num, Lib.hid (allN_succ hq1.out HE2.out), _, rfl⟩
            case measure => simp [intOf]; omega
          · have u0 : ((p : Int) != (q : Int)) = true := by simp; omega
            by_cases p1 : A1 = A2
            · have u1 : ((A1 : Int) == (A2 : Int)) = true := by simp [p1]
              by_cases p2 : A3 = A4
              · have u2 : ((A3 : Int) == (A4 : Int)) = true := by simp [p2]
                have HE2 : Hid ((!collAt n f g p q) = false) := Lib.hid (by rw [HE.out]; simp [p0, p1, p2])
                clear p0 p1 p2
                go_quiet (fail)
                go_wp2
                go_ret
                exact ⟨.inr ⟨by rw [HOK.out]; exact allN_no hlt (allN_no hltq HE2.out), _, _, _, rfl⟩, below_al (below_drewN hB _) _⟩
              · have u2 : ((A3 : Int) == (A4 : Int)) = false := by simp; omega
                have HE2 : Hid ((!collAt n f g p q) = true) := Lib.hid (by rw [HE.out]; simp [p2])
                clear p0 p1 p2
                go_quiet (fail)
                go_wp2
                go_roundw
                case rel => exact ⟨q + 1, by omega, by go_num, Lib.hid (allN_succ hq1.out HE2.out), _, rfl⟩
                case measure => simp [intOf]; omega
            · have u1 : ((A1 : Int) == (A2 : Int)) = false := by simp; omega
              have HE2 : Hid ((!collAt n f g p q) = true) := Lib.hid (by rw [HE.out]; simp [p1])
              clear p0 p1
              go_quiet (fail)
              go_wp2
              go_roundw
              case rel => exact ⟨q + 1, by omega, by go_num, Lib.hid (allN_succ hq1.out HE2.out), _, rfl⟩
              case measure => simp [intOf]; omega
        · obtain rfl : q = N := by omega
          go_wp2
          go_roundw
          case rel => exact ⟨p + 1, by omega, by go_num, Lib.hid (allN_succ hp1.out hq1.out), _, rfl⟩
          case measure => simp [intOf]; omega
    · obtain rfl : p = N := by omega
      go_wp2
      go_ret
      exact ⟨.inl ⟨by rw [HOK.out]; exact hp1.out, rfl⟩, below_drewN hB _⟩
end Go.Proofs.YtkjpkdmnjbjjaaaGreat

namespace Go.Proofs.YtkjpkdmnjbjjaaaGreat
set_option maxRecDepth 100000
set_option linter.unusedVariables false
set_option linter.unusedSimpArgs false
open Go.RowKit
def doF (f g : List (List Int)) (i : Nat) (l : List Int) : List Int :=
  (l.set i ((tv f (l.getD i 0).toNat (l.getD (i + 1) 0).toNat : Nat) : Int)).set (i + 1) ((tv g (l.getD i 0).toNat (l.getD (i + 1) 0).toNat : Nat) : Int)
theorem doF_len (f g : List (List Int)) (i : Nat) (l : List Int) : (doF f g i l).length = l.length := by simp [doF]
def Less (n : Nat) (l : List Int) : Prop := ∀ i, i < l.length → ∃ k : Nat, k < n ∧ l.getD i 0 = (k : Int)
theorem Less.set {n : Nat} {l : List Int} (h : Less n l) (i k : Nat) (hk : k < n) : Less n (l.set i (k : Int)) := by
  intro j hj
  rw [List.length_set] at hj
  rw [getD_set' _ _ _ _ _ hj]
  by_cases e : j = i
  · rw [if_pos e]; exact ⟨k, hk, rfl⟩
  · rw [if_neg e]; exact h j hj
theorem Less.do_ {n : Nat} {f g : List (List Int)} {l : List Int} (h : Less n l) (hf : Sq n f) (hg : Sq n g) (i : Nat) (hi : i + 1 < l.length) : Less n (doF f g i l) := by
  obtain ⟨x, hx, ex⟩ := h i (by omega)
  obtain ⟨y, hy, ey⟩ := h (i + 1) hi
  unfold doF
  rw [ex, ey]
  exact (h.set i _ (hf.lt (by simpa using hx) (by simpa using hy))).set (i + 1) _ (hg.lt (by simpa using hx) (by simpa using hy))
set_option maxHeartbeats 2000000 in
theorem l02Do_any (a : Option Addr) (n c : Nat) (a' : Option Addr) (c' : Nat) (f g : List (List Int)) (al : Option Addr) (m cl : Nat) (l : List Int) (i : Nat) (w : World) (h1 : Tbl w a n f) (h2 : Tbl w a' n g) (hn1 : 1 ≤ n) (hf : Sq n f) (hg : Sq n g)
    (hl : Row w al m l) (hm : m ≤ 1000000) (hi : i + 1 < m) (hle : Less n l) :
    Calls Tryz.prog 72 #[sAgg a n c a' n c', .slice al m cl, .int .i64 i] w fun e w' => ∃ ao co, e = .returned (.slice ao m co) ∧ Own w' w.heap.size ao m co (doF f g i l) ∧ Below w.heap.size w w' := by
  obtain ⟨bf, of, A, O, C, rfl, Gf⟩ := h1.grid hf hn1
  obtain ⟨bg, og, A', O', C', rfl, Gg⟩ := h2.grid hg hn1
  clear h1 h2
  have hll := hl.len
  obtain ⟨x, hx, ex⟩ := hle i (by omega)
  obtain ⟨y, hy, ey⟩ := hle (i + 1) (by omega)
  have HDO : Hid (doF f g i l = (l.set i ((tv f x y : Nat) : Int)).set (i + 1) ((tv g x y : Nat) : Int)) := Lib.hid (by unfold doF; rw [ex, ey]; simp)
  have HX := Lib.hid ex; have HY := Lib.hid ey
  clear ex ey hll hle
  have hA := Loc.new w rfl #[.slice (some ⟨bf, of, none⟩) n c, .slice (some ⟨bg, og, none⟩) n c'] 26
  have gf := Gf.alloc (.cells #[.slice (some ⟨bf, of, none⟩) n c, .slice (some ⟨bg, og, none⟩) n c'] 26)
  have gg := Gg.alloc (.cells #[.slice (some ⟨bf, of, none⟩) n c, .slice (some ⟨bg, og, none⟩) n c'] 26)
  have hl0 := hl.alloc (.cells #[.slice (some ⟨bf, of, none⟩) n c, .slice (some ⟨bg, og, none⟩) n c'] 26)
  have hB := below_al (Below.refl w.heap.size w) (.cells #[.slice (some ⟨bf, of, none⟩) n c, .slice (some ⟨bg, og, none⟩) n c'] 26)
  clear Gf Gg hl
  have hwi : IntKind.i64.wrap ((i : Int) + 1) = ((i + 1 : Nat) : Int) := (IntWalk.i64_in _ (by omega)).trans (by simp)
  go_enter Tryz.func72, Tryz.ntmps72
  go_wp2_with fail
  refine (l01Own_any _ _ _ l _ hl0 (by omega)).mono ?_
  rintro e w1 ⟨ao, co, rfl, ho, hb1⟩
  have ho1 : Own w1 (w.heap.size + 1) ao m co l := ho.mono (by simp)
  clear ho
  obtain ⟨go, oo, rfl, _⟩ := ho1.row.at i (by omega)
  obtain ⟨rfl, hc, hfr⟩ := ho1.cells
  have hgo := ho1.lt
  obtain ⟨bl, ol, e1, hbl, hall⟩ := hl0.all (by omega)
  subst e1
  have hbB := hb1
  have hA1 := hA.below hb1 (by simp)
  have lA1 := hA1.two
  obtain ⟨r1, k1⟩ := (gf.below hb1).look hx hy
  have hl1 := hl0.below hb1
  have kx := (hb1.cell (p := ⟨bl, ol + i, none⟩) hbl).trans (hall i (by omega))
  have ky := (hb1.cell (p := ⟨bl, ol + (i + 1), none⟩) hbl).trans (hall (i + 1) (by omega))
  rw [HX.out] at kx; rw [HY.out] at ky
  have hci := hc i (by omega)
  have hfi := hfr i
  generalize hF : tv f x y = F at *
  generalize hG : tv g x y = G at *
  clear hc hfr hl1 hb1
  have HALL := Lib.hid hall; clear hall
  go_wp2
  go_region
  have hb2 := (below_setne (a := ⟨go, i, none⟩) hbB (by simpa using hgo.1) (.int .i64 F)).drew
  have ho2 : Own (w1.setCell ⟨go, i, none⟩ (.int .i64 F)).drew (w.heap.size + 1) (some ⟨go, 0, none⟩) m co (l.set i (F : Int)) := (ho1.set i _).drew
  clear hbB ho1 kx ky r1 k1 hci hfi hA1 lA1
  generalize (w1.setCell ⟨go, i, none⟩ (.int .i64 F)).drew = w2 at *
  obtain ⟨_, hc, hfr⟩ := ho2.cells
  have hA1 := hA.below hb2 (by simp)
  have lA1 := hA1.two
  obtain ⟨r2, k2⟩ := (gg.below hb2).look hx hy
  have kx := (hb2.cell (p := ⟨bl, ol + i, none⟩) hbl).trans (HALL.out i (by omega))
  have ky := (hb2.cell (p := ⟨bl, ol + (i + 1), none⟩) hbl).trans (HALL.out (i + 1) (by omega))
  rw [HX.out] at kx; rw [HY.out] at ky
  rw [hG] at k2
  have hci := hc (i + 1) (by omega)
  have hfi := hfr (i + 1)
  have HF := Lib.hid hF; have HG := Lib.hid hG; clear hF hG
  clear hc hfr
  go_wp2
  go_region
  go_wp2
  go_ret
  refine ⟨_, _, rfl, ?_, ?_⟩
  · rw [HDO.out]
    exact ((ho2.set (i + 1) _).drew).mono (by omega)
  · exact (below_setne (a := ⟨go, i + 1, none⟩) (hB.trans (hb2.mono (by simp))) (by have := hgo.1; show w.heap.size ≤ go; omega) _).drew
end Go.Proofs.YtkjpkdmnjbjjaaaGreat

namespace Go.Proofs.YtkjpkdmnjbjjaaaGreat
set_option linter.unusedVariables false
set_option linter.unusedSimpArgs false
theorem inj_surj (N : Nat) : ∀ (f : Nat → Nat), (∀ i, i < N → f i < N) → (∀ i j, i < N → j < N → f i = f j → i = j) → ∀ j, j < N → ∃ i, i < N ∧ f i = j := by
  induction N with
  | zero => intro f _ _ j hj; omega
  | succ N ih =>
    intro f hlt hinj j hj
    by_cases hm : f N = j
    · exact ⟨N, by omega, hm⟩
    · have hne : ∀ i, i < N → f i ≠ f N := fun i hi e => by have := hinj i N (by omega) (by omega) e; omega
      have hNlt := hlt N (by omega)
      obtain ⟨F, hF⟩ : ∃ F : Nat → Nat, ∀ i, F i = if f i = N then f N else f i := ⟨_, fun _ => rfl⟩
      have h1 : ∀ i, i < N → F i < N := by
        intro i hi
        have a := hlt i (by omega)
        have b := hne i hi
        rw [hF]
        by_cases e : f i = N
        · rw [if_pos e]; omega
        · rw [if_neg e]; omega
      have h2 : ∀ i k, i < N → k < N → F i = F k → i = k := by
        intro i k hi hk e
        rw [hF, hF] at e
        have b1 := hne i hi
        have b2 := hne k hk
        by_cases e1 : f i = N
        · by_cases e2 : f k = N
          · exact hinj i k (by omega) (by omega) (by omega)
          · rw [if_pos e1, if_neg e2] at e; omega
        · by_cases e2 : f k = N
          · rw [if_neg e1, if_pos e2] at e; omega
          · rw [if_neg e1, if_neg e2] at e; exact hinj i k (by omega) (by omega) e
      by_cases hjN : j = N
      · subst hjN
        obtain ⟨i, hi, e⟩ := ih F h1 h2 (f j) (by omega)
        rw [hF] at e
        by_cases e1 : f i = j
        · exact ⟨i, by omega, e1⟩
        · rw [if_neg e1] at e; exact absurd e (hne i hi)
      · obtain ⟨i, hi, e⟩ := ih F h1 h2 j (by omega)
        rw [hF] at e
        by_cases e1 : f i = N
        · rw [if_pos e1] at e; exact absurd e hm
        · rw [if_neg e1] at e; exact ⟨i, by omega, e⟩
theorem pair_div {n x y : Nat} (hn : 1 ≤ n) (hy : y < n) : (x * n + y) / n = x := by
  rw [Nat.mul_comm, Nat.mul_add_div (by omega), Nat.div_eq_of_lt hy, Nat.add_zero]
theorem pair_mod {n x y : Nat} (hy : y < n) : (x * n + y) % n = y := by
  rw [Nat.mul_comm, Nat.mul_add_mod, Nat.mod_eq_of_lt hy]
theorem pair_lt {n x y : Nat} (hx : x < n) (hy : y < n) : x * n + y < n * n := by
  have : (x + 1) * n ≤ n * n := Nat.mul_le_mul_right n hx
  have e : (x + 1) * n = x * n + n := by rw [Nat.add_mul]; simp
  omega
def prN (n : Nat) (f g : List (List Int)) (u v : Nat) : Nat := ((List.range (n * n)).find? fun p => decide (tv f (p / n) (p % n) = u) && decide (tv g (p / n) (p % n) = v)).getD 0
theorem coll_inj {n : Nat} {f g : List (List Int)} (hc : collOk n f g = true) {p q : Nat} (hp : p < n * n) (hq : q < n * n) (h1 : tv f (p / n) (p % n) = tv f (q / n) (q % n)) (h2 : tv g (p / n) (p % n) = tv g (q / n) (q % n)) : p = q := by
  have := allN_get (allN_get hc hp) hq
  unfold collAt at this
  by_cases e : p = q
  · exact e
  · simp [e, h1, h2] at this
theorem prN_eq {n : Nat} {f g : List (List Int)} (hn : 1 ≤ n) (hc : collOk n f g = true) {x y u v : Nat} (hx : x < n) (hy : y < n) (h1 : tv f x y = u) (h2 : tv g x y = v) : prN n f g u v = x * n + y := by
  unfold prN
  have hlt := pair_lt hx hy
  have hP : (fun p => decide (tv f (p / n) (p % n) = u) && decide (tv g (p / n) (p % n) = v)) (x * n + y) = true := by
    show (decide (tv f ((x * n + y) / n) ((x * n + y) % n) = u) && decide (tv g ((x * n + y) / n) ((x * n + y) % n) = v)) = true
    rw [pair_div hn hy, pair_mod hy]; simp [h1, h2]
  cases hq : (List.range (n * n)).find? (fun p => decide (tv f (p / n) (p % n) = u) && decide (tv g (p / n) (p % n) = v)) with
  | none => rw [List.find?_eq_none] at hq; exact absurd hP (hq _ (List.mem_range.2 hlt))
  | some q =>
    have h3 := List.find?_some hq
    have h4 := List.mem_range.1 (List.mem_of_find?_eq_some hq)
    rw [Bool.and_eq_true, decide_eq_true_iff, decide_eq_true_iff] at h3
    show q = _
    refine coll_inj hc h4 hlt ?_ ?_
    · rw [pair_div hn hy, pair_mod hy, h1]; exact h3.1
    · rw [pair_div hn hy, pair_mod hy, h2]; exact h3.2
theorem pr_ex {n : Nat} {f g : List (List Int)} (hn : 1 ≤ n) (hf : Sq n f) (hg : Sq n g) (hc : collOk n f g = true) {u v : Nat} (hu : u < n) (hv : v < n) : ∃ x y, x < n ∧ y < n ∧ tv f x y = u ∧ tv g x y = v := by
  obtain ⟨p, hp, e⟩ := inj_surj (n * n) (fun p => tv f (p / n) (p % n) * n + tv g (p / n) (p % n))
    (fun p hp => pair_lt (hf.lt (div_lt_sq hp) (Nat.mod_lt _ hn)) (hg.lt (div_lt_sq hp) (Nat.mod_lt _ hn)))
    (fun p q hp hq e => by
      have bp := hg.lt (div_lt_sq hp) (Nat.mod_lt p hn)
      have bq := hg.lt (div_lt_sq hq) (Nat.mod_lt q hn)
      have e1 := congrArg (· / n) e
      have e2 := congrArg (· % n) e
      simp only [pair_div hn bp, pair_div hn bq, pair_mod bp, pair_mod bq] at e1 e2
      exact coll_inj hc hp hq e1 e2)
    (u * n + v) (pair_lt hu hv)
  have bp := hg.lt (div_lt_sq hp) (Nat.mod_lt p hn)
  have e1 := congrArg (· / n) e
  have e2 := congrArg (· % n) e
  simp only [pair_div hn bp, pair_mod bp, pair_div hn hv, pair_mod hv] at e1 e2
  exact ⟨p / n, p % n, div_lt_sq hp, Nat.mod_lt _ hn, e1, e2⟩
def bfT (n : Nat) (f g : List (List Int)) : List (List Int) := tabF n fun u v => ((prN n f g u v / n : Nat) : Int)
def bgT (n : Nat) (f g : List (List Int)) : List (List Int) := tabF n fun u v => ((prN n f g u v % n : Nat) : Int)
theorem tv_tabF (n : Nat) (V : Nat → Nat → Int) {x y : Nat} (hx : x < n) (hy : y < n) : ((tabF n V).getD x []).getD y 0 = V x y := by
  rw [tabF_get n V x hx]
  simp [List.getD_eq_getElem?_getD, List.getElem?_map, hy]
theorem Sq.tab {n : Nat} {V : Nat → Nat → Nat} (h : ∀ x y, x < n → y < n → V x y < n) : Sq n (tabF n fun x y => ((V x y : Nat) : Int)) := by
  refine ⟨tabF_len _ _, fun x hx => ⟨by rw [tabF_get _ _ x hx]; simp, fun y hy => ?_⟩⟩
  unfold tv
  rw [tv_tabF n _ hx hy]
  simp [h x y hx hy]
theorem tv_tab {n : Nat} {V : Nat → Nat → Nat} {x y : Nat} (hx : x < n) (hy : y < n) : tv (tabF n fun x y => ((V x y : Nat) : Int)) x y = V x y := by
  unfold tv; rw [tv_tabF n _ hx hy]; simp
theorem prN_lt {n : Nat} {f g : List (List Int)} (hn : 1 ≤ n) (hf : Sq n f) (hg : Sq n g) (hc : collOk n f g = true) {u v : Nat} (hu : u < n) (hv : v < n) : prN n f g u v < n * n := by
  obtain ⟨x, y, hx, hy, h1, h2⟩ := pr_ex hn hf hg hc hu hv
  rw [prN_eq hn hc hx hy h1 h2]; exact pair_lt hx hy
theorem bf_sq {n : Nat} {f g : List (List Int)} (hn : 1 ≤ n) (hf : Sq n f) (hg : Sq n g) (hc : collOk n f g = true) : Sq n (bfT n f g) := Sq.tab fun u v hu hv => div_lt_sq (prN_lt hn hf hg hc hu hv)
theorem bg_sq {n : Nat} {f g : List (List Int)} (hn : 1 ≤ n) : Sq n (bgT n f g) := Sq.tab fun u v hu hv => Nat.mod_lt _ hn
theorem bf_tv {n : Nat} {f g : List (List Int)} (hn : 1 ≤ n) (hc : collOk n f g = true) {x y u v : Nat} (hx : x < n) (hy : y < n) (hu : u < n) (hv : v < n) (h1 : tv f x y = u) (h2 : tv g x y = v) : tv (bfT n f g) u v = x := by
  unfold bfT; rw [tv_tab hu hv, prN_eq hn hc hx hy h1 h2, pair_div hn hy]
theorem bg_tv {n : Nat} {f g : List (List Int)} (hn : 1 ≤ n) (hc : collOk n f g = true) {x y u v : Nat} (hx : x < n) (hy : y < n) (hu : u < n) (hv : v < n) (h1 : tv f x y = u) (h2 : tv g x y = v) : tv (bgT n f g) u v = y := by
  unfold bgT; rw [tv_tab hu hv, prN_eq hn hc hx hy h1 h2, pair_mod hy]
theorem isSol_coll {f g : List (List Int)} (h : isSol f g = true) : collOk f.length f g = true := by
  unfold isSol at h; rw [Bool.and_eq_true, Bool.and_eq_true] at h; exact h.2.1
def stepL (n : Nat) (f g : List (List Int)) (x : Int) (l : List Int) : List Int := if 0 < x then doF f g (plc x).toNat l else doF (bfT n f g) (bgT n f g) (plc x).toNat l
def actL (n : Nat) (f g : List (List Int)) (xs : List Int) (l : List Int) : List Int := xs.foldl (fun l x => stepL n f g x l) l
theorem stepL_len (n : Nat) (f g : List (List Int)) (x : Int) (l : List Int) : (stepL n f g x l).length = l.length := by
  unfold stepL; split <;> exact doF_len _ _ _ _
theorem actL_take (n : Nat) (f g : List (List Int)) (xs : List Int) (l : List Int) (k : Nat) (h : k < xs.length) : actL n f g (xs.take (k + 1)) l = stepL n f g xs[k] (actL n f g (xs.take k) l) := by
  unfold actL; rw [List.take_succ_eq_append_getElem h, List.foldl_append]; rfl
theorem actL_len (n : Nat) (f g : List (List Int)) (xs : List Int) (l : List Int) : (actL n f g xs l).length = l.length := by
  unfold actL
  induction xs generalizing l with
  | nil => rfl
  | cons x r ih => rw [List.foldl_cons, ih, stepL_len]
theorem Less.step {n : Nat} {f g : List (List Int)} {l : List Int} (hn : 1 ≤ n) (hf : Sq n f) (hg : Sq n g) (hc : collOk n f g = true) (h : Less n l) (x : Int) (hx : (plc x).toNat + 1 < l.length) : Less n (stepL n f g x l) := by
  unfold stepL
  split
  · exact h.do_ hf hg _ hx
  · exact h.do_ (bf_sq hn hf hg hc) (bg_sq hn) _ hx
theorem Less.act {n : Nat} {f g : List (List Int)} {l : List Int} (hn : 1 ≤ n) (hf : Sq n f) (hg : Sq n g) (hc : collOk n f g = true) (h : Less n l) (xs : List Int) (hx : ∀ x ∈ xs, (plc x).toNat + 1 < l.length) : Less n (actL n f g xs l) := by
  unfold actL
  induction xs generalizing l with
  | nil => exact h
  | cons x r ih =>
    rw [List.foldl_cons]
    exact ih (h.step hn hf hg hc x (hx x (by simp))) (fun y hy => by rw [stepL_len]; exact hx y (by simp [hy]))
end Go.Proofs.YtkjpkdmnjbjjaaaGreat

namespace Go.Proofs.YtkjpkdmnjbjjaaaGreat
set_option linter.unusedVariables false
set_option linter.unusedSimpArgs false
def permOk (p : List Int) : Bool := allN p.length fun x : Nat => p.contains (x : Int)
/-! ### racks -/
end Go.Proofs.YtkjpkdmnjbjjaaaGreat

namespace Go.Proofs.YtkjpkdmnjbjjaaaGreat
set_option linter.unusedVariables false
set_option linter.unusedSimpArgs false
def digL (n k N : Nat) : List Int := (List.range k).map fun i => ((N / n ^ (k - 1 - i) % n : Nat) : Int)
def digP (n k N j : Nat) : List Int := (List.range k).map fun i => if k ≤ i + j then ((N / n ^ (k - 1 - i) % n : Nat) : Int) else 0
theorem digL_len (n k N : Nat) : (digL n k N).length = k := by simp [digL]
theorem digP_zero (n k N : Nat) : digP n k N 0 = List.replicate k 0 := by
  apply List.ext_getElem
  · simp [digP]
  · intro i h1 h2
    have hi : i < k := by simpa [digP] using h1
    simp [digP]; omega
theorem digP_full (n k N : Nat) : digP n k N k = digL n k N := by
  unfold digP digL
  apply List.map_congr_left
  intro i hi
  rw [if_pos (by omega)]
theorem digP_step (n k N j : Nat) (hj : j < k) : (digP n k N j).set (k - 1 - j) ((N / n ^ j % n : Nat) : Int) = digP n k N (j + 1) := by
  apply List.ext_getElem
  · simp [digP]
  · intro i h1 h2
    have hi : i < k := by simpa [digP] using h2
    rw [List.getElem_set]
    by_cases e : k - 1 - j = i
    · rw [if_pos e]
      simp only [digP, List.getElem_map, List.getElem_range]
      rw [if_pos (by omega)]
      have : k - 1 - i = j := by omega
      rw [this]
    · rw [if_neg e]
      simp only [digP, List.getElem_map, List.getElem_range]
      by_cases e2 : k ≤ i + j
      · rw [if_pos e2, if_pos (by omega)]
      · rw [if_neg e2, if_neg (by omega)]
theorem digL_less (n k N : Nat) (hn : 1 ≤ n) : Less n (digL n k N) := by
  intro i hi
  have hi' : i < k := by rw [digL_len] at hi; exact hi
  refine ⟨N / n ^ (k - 1 - i) % n, Nat.mod_lt _ hn, ?_⟩
  rw [List.getD_eq_getElem?_getD, List.getElem?_eq_getElem hi]
  simp [digL]
theorem div_pow_succ (n j N : Nat) : N / n ^ j / n = N / n ^ (j + 1) := by rw [Nat.div_div_eq_div_mul, Nat.pow_succ]
theorem digL_three (n N : Nat) (h : N < n * n * n) : digL n 3 N = [((N / n / n : Nat) : Int), ((N / n % n : Nat) : Int), ((N % n : Nat) : Int)] := by
  have hlt : N / n / n < n := by
    rw [Nat.div_div_eq_div_mul]
    exact Nat.div_lt_of_lt_mul h
  have e : N / n ^ 2 % n = N / n / n := by
    rw [Nat.pow_two, ← Nat.div_div_eq_div_mul, Nat.mod_eq_of_lt hlt]
  simp only [digL, List.range_succ, List.range_zero, List.nil_append, List.map_append, List.map_cons, List.map_nil, List.cons_append]
  show [((N / n ^ 2 % n : Nat) : Int), ((N / n ^ 1 % n : Nat) : Int), ((N / n ^ 0 % n : Nat) : Int)] = _
  rw [e, Nat.pow_one, Nat.pow_zero, Nat.div_one]
def tri (n x y z : Nat) : Nat := (x * n + y) * n + z
theorem tri_lt {n x y z : Nat} (hx : x < n) (hy : y < n) (hz : z < n) : tri n x y z < n * n * n := by
  unfold tri
  have h1 := pair_lt hx hy
  have h2 : (x * n + y + 1) * n ≤ n * n * n := Nat.mul_le_mul_right n h1
  rw [Nat.add_mul, Nat.one_mul] at h2
  omega
theorem tri_z {n x y z : Nat} (hz : z < n) : tri n x y z % n = z := pair_mod hz
theorem tri_q {n x y z : Nat} (hn : 1 ≤ n) (hz : z < n) : tri n x y z / n = x * n + y := pair_div hn hz
theorem tri_three {n x y z : Nat} (hx : x < n) (hy : y < n) (hz : z < n) : digL n 3 (tri n x y z) = [(x : Int), (y : Int), (z : Int)] := by
  have hn : 1 ≤ n := by omega
  rw [digL_three n _ (tri_lt hx hy hz), tri_q hn hz, tri_z hz, pair_div hn hy, pair_mod hy]
def fltL (n : Nat) (P : List Int → Bool) : List Int := match (List.range (n * n * n)).find? (fun N => P (digL n 3 N)) with | some N => digL n 3 N | none => []
theorem fltL_hit {n N : Nat} {P : List Int → Bool} (hN : N < n * n * n) (h1 : ∀ M, M < N → P (digL n 3 M) = false) (h2 : P (digL n 3 N) = true) : fltL n P = digL n 3 N := by
  have : (List.range (n * n * n)).find? (fun N => P (digL n 3 N)) = some N := by
    rw [List.find?_range_eq_some]
    exact ⟨h2, List.mem_range.2 hN, fun j hj => by simp [h1 j hj]⟩
  unfold fltL; rw [this]
theorem fltL_miss {n : Nat} {P : List Int → Bool} (h1 : ∀ M, M < n * n * n → P (digL n 3 M) = false) : fltL n P = [] := by
  have : (List.range (n * n * n)).find? (fun N => P (digL n 3 N)) = none := by
    rw [List.find?_eq_none]
    intro N hN
    rw [h1 N (List.mem_range.1 hN)]; simp
  unfold fltL; rw [this]
end Go.Proofs.YtkjpkdmnjbjjaaaGreat

namespace Go.Proofs.YtkjpkdmnjbjjaaaGreat
set_option maxRecDepth 100000
set_option linter.unusedVariables false
set_option linter.unusedSimpArgs false
open Go.RowKit
def isMx (n m : Int) (f : List (List Int)) : Bool := rngB 1 12 m && (decide ((f.length : Int) = n) && f.all (rowOk n m))
set_option maxHeartbeats 400000 in
theorem isShift_any (N m : Int) (a : Option Addr) (n c : Nat) (xs : List Int) (w : World) (h1 : Row w a n xs) (hm : n ≤ 9223372036854775807) :
    Calls Tryz.prog 119 #[.int .i64 N, .int .i64 m, .slice a n c] w fun e w' => e = .returned (.bool (rngB 1 12 m && rowOk N m xs)) ∧ w = w' := by
  have hl := h1.len
  cases hp : rngB 1 12 m with
  | false =>
    have HC := Lib.hid (fun w => within_b m 1 12 false hp w); clear hp hl
    go_enter Tryz.func119, Tryz.ntmps119
    go_wp2_with fail
    refine (HC.out _).mono ?_
    rintro e w' ⟨rfl, rfl⟩
    go_wp2
    go_ret
    exact ⟨ret_bool (by simp), rfl⟩
  | true =>
    have HC := Lib.hid (fun w => within_b m 1 12 true hp w)
    have hmm : 1 ≤ m ∧ m ≤ 12 := by simpa [rngB] using hp
    clear hp
    by_cases hn : (n : Int) = N
    · have b1 : ((n : Int) == N) = true := by simpa using hn
      have hq : rowOk N m xs = xs.all (rngB 0 (m - 1)) := by simp [rowOk, ← hl, hn]
      have HQ := Lib.hid hq; have HA := Lib.hid (fun w hr => allWithin_any a n c xs 0 (m - 1) w hr hm); clear hq hl hn
      go_enter Tryz.func119, Tryz.ntmps119
      go_wp2_with fail
      refine (HC.out _).mono ?_
      rintro e w' ⟨rfl, rfl⟩
      go_wp2_with fail
      refine (HA.out _ h1).mono ?_
      rintro e w' ⟨rfl, rfl⟩
      go_wp2
      go_ret
      exact ⟨ret_bool (by rw [HQ.out]; simp), rfl⟩
    · have b1 : ((n : Int) == N) = false := by simpa using hn
      have hq : rowOk N m xs = false := by simp [rowOk, ← hl, hn]
      have HQ := Lib.hid hq; clear hq hl hn
      go_enter Tryz.func119, Tryz.ntmps119
      go_wp2_with fail
      refine (HC.out _).mono ?_
      rintro e w' ⟨rfl, rfl⟩
      go_wp2
      go_ret
      exact ⟨ret_bool (by rw [HQ.out]; simp), rfl⟩
set_option maxHeartbeats 400000 in
theorem isMatrix1_any (N m : Int) (b1 b2 : Nat) (t1 t2 : TypeId) (a : Option Addr) (n c : Nat) (xs : List Int) (w : World) (hL1 : Loc w b1 #[.int .i64 N] t1) (hL2 : Loc w b2 #[.int .i64 m] t2) (h1 : Row w a n xs) (hm : n ≤ 9223372036854775807) (hmm : rngB 1 12 m = true) :
    Calls Tryz.prog 165 #[.slice a n c, .pointer (some ⟨b1, 0, none⟩), .pointer (some ⟨b2, 0, none⟩)] w fun e w' => e = .returned (.bool (!rowOk N m xs)) ∧ w = w' := by
  have l1 := hL1.one
  have l2 := hL2.one
  have hc := isShift_any N m a n c xs w h1 hm
  rw [hmm, Bool.true_and] at hc
  have HC := Lib.hid hc; clear hc hmm
  go_enter Tryz.func165, Tryz.ntmps165
  go_wp2_with fail
  refine HC.out.mono ?_
  rintro e w' ⟨rfl, rfl⟩
  go_wp2
  go_ret
  exact ⟨rfl, rfl⟩
theorem ent_isMatrix1 : Ent 165 := fun _ _ => rfl
set_option maxHeartbeats 1000000 in
theorem isMatrix_any (N m : Int) (a : Option Addr) (n c : Nat) (xs : List (List Int)) (w : World) (h1 : Tbl w a n xs) (hm : n ≤ 9223372036854775807) :
    Calls Tryz.prog 96 #[.int .i64 N, .int .i64 m, .slice a n c] w fun e w' => e = .returned (.bool (isMx N m xs)) ∧ Below w.heap.size w w' := by
  have hl := h1.len
  have hB := below_al (below_al (Below.refl w.heap.size w) (.cells #[.int .i64 N] 3)) (.cells #[.int .i64 m] 2)
  cases hp : rngB 1 12 m with
  | false =>
    have hq : isMx N m xs = false := by simp [isMx, hp]
    have HQ := Lib.hid hq
    have HC := Lib.hid (fun w => within_b m 1 12 false hp w); clear hp hl hq
    go_enter Tryz.func96, Tryz.ntmps96
    go_wp2_with fail
    refine (HC.out _).mono ?_
    rintro e w' ⟨rfl, rfl⟩
    go_wp2
    go_ret
    exact ⟨ret_bool HQ.out.symm, hB⟩
  | true =>
    have HC := Lib.hid (fun w => within_b m 1 12 true hp w)
    have HP := Lib.hid hp
    by_cases hn : (n : Int) = N
    · have b1 : ((n : Int) == N) = true := by simpa using hn
      have hq : isMx N m xs = xs.all (rowOk N m) := by simp [isMx, hp, ← hl, hn]
      have HQ := Lib.hid hq; clear hq hl hn hp
      have hcl : ∀ x ∈ xs, ∀ w1, ((w.alloc (.cells #[.int .i64 N] 3)).alloc (.cells #[.int .i64 m] 2)) = w1 → ∀ a' n' c', Row w1 a' n' x → n' ≤ 9223372036854775807 → Calls Tryz.prog 165 (#[.slice a' n' c'] ++ #[.pointer (some ⟨w.heap.size, 0, none⟩), .pointer (some ⟨w.heap.size + 1, 0, none⟩)]) w1 fun e w' => e = .returned (.bool (!rowOk N m x)) ∧ ((w.alloc (.cells #[.int .i64 N] 3)).alloc (.cells #[.int .i64 m] 2)) = w' := fun x hx w1 hw1 a' n' c' hr hn' => by
        subst hw1
        exact isMatrix1_any N m _ _ _ _ a' n' c' x _ ((Loc.new _ rfl _ _).alloc _) (Loc.new _ (by simp) _ _) hr hn' HP.out
      have HCL := Lib.hid hcl; clear hcl
      go_enter Tryz.func96, Tryz.ntmps96
      go_wp2_with fail
      refine (HC.out _).mono ?_
      rintro e w' ⟨rfl, rfl⟩
      go_wp2_with fail
      refine (containsFunc_rows (fun w1 => ((w.alloc (.cells #[.int .i64 N] 3)).alloc (.cells #[.int .i64 m] 2)) = w1) 165 _ (fun x => !rowOk N m x) _ _ _ xs _ rfl (fun w1 h => h ▸ (h1.alloc _).alloc _) hm ent_isMatrix1 HCL.out).mono ?_
      rintro e w' ⟨rfl, rfl⟩
      go_wp2
      go_ret
      refine ⟨ret_bool ?_, hB⟩
      rw [HQ.out]
      simp [List.any_eq_not_all_not]
    · have b1 : ((n : Int) == N) = false := by simpa using hn
      have hq : isMx N m xs = false := by simp [isMx, ← hl, hn]
      have HQ := Lib.hid hq; clear hq hl hn hp
      go_enter Tryz.func96, Tryz.ntmps96
      go_wp2_with fail
      refine (HC.out _).mono ?_
      rintro e w' ⟨rfl, rfl⟩
      go_wp2
      go_ret
      exact ⟨ret_bool HQ.out.symm, hB⟩
end Go.Proofs.YtkjpkdmnjbjjaaaGreat

namespace Go.Proofs.YtkjpkdmnjbjjaaaGreat
set_option linter.unusedVariables false
set_option linter.unusedSimpArgs false
def SqM (n m : Nat) (t : List (List Int)) : Prop := t.length = n ∧ ∀ x, x < n → (t.getD x []).length = n ∧ ∀ y, y < n → tv t x y < m ∧ (t.getD x []).getD y 0 = ((tv t x y : Nat) : Int)
theorem isMx_sq {n : Nat} {m : Int} {t : List (List Int)} (h : isMx n m t = true) : (1 ≤ m ∧ m ≤ 12) ∧ SqM n m.toNat t := by
  unfold isMx at h
  rw [Bool.and_eq_true, Bool.and_eq_true] at h
  obtain ⟨h1, h2, h3⟩ := h
  have hm : 1 ≤ m ∧ m ≤ 12 := by unfold rngB at h1; simpa using h1
  have hl : t.length = n := by have := of_decide_eq_true h2; omega
  refine ⟨hm, hl, fun x hx => ?_⟩
  have hxl : x < t.length := by omega
  have hr := List.all_eq_true.1 h3 t[x] (List.getElem_mem hxl)
  have e : t.getD x [] = t[x] := by simp [List.getD_eq_getElem?_getD, List.getElem?_eq_getElem hxl]
  obtain ⟨h4, h5⟩ := rowOk_get hr
  rw [e]
  refine ⟨by omega, fun y hy => ?_⟩
  have := h5 y (by omega)
  unfold tv
  rw [e]
  omega
def wtT (M : List (List Int)) (m : Int) (x : Int) (l r : List Int) : Int :=
  if 0 < x then ((tv M (l.getD (plc x).toNat 0).toNat (l.getD ((plc x).toNat + 1) 0).toNat : Nat) : Int)
  else m - ((tv M (r.getD (plc x).toNat 0).toNat (r.getD ((plc x).toNat + 1) 0).toNat : Nat) : Int)
def wtS (n : Nat) (f g M : List (List Int)) (m : Int) : List Int → List Int → Int
  | [], _ => 0
  | x :: xs, l => wtT M m x l (stepL n f g x l) + wtS n f g M m xs (stepL n f g x l)
theorem wtS_append (n : Nat) (f g M : List (List Int)) (m : Int) (xs ys l : List Int) : wtS n f g M m (xs ++ ys) l = wtS n f g M m xs l + wtS n f g M m ys (actL n f g xs l) := by
  induction xs generalizing l with
  | nil => simp [wtS, actL]
  | cons x r ih =>
    simp only [List.cons_append, wtS]
    rw [ih]
    show _ = _ + wtS n f g M m ys (actL n f g r (stepL n f g x l))
    omega
theorem wtS_take (n : Nat) (f g M : List (List Int)) (m : Int) (xs l : List Int) (k : Nat) (h : k < xs.length) :
    wtS n f g M m (xs.take (k + 1)) l = wtS n f g M m (xs.take k) l + wtT M m xs[k] (actL n f g (xs.take k) l) (actL n f g (xs.take (k + 1)) l) := by
  rw [actL_take n f g xs l k h, List.take_succ_eq_append_getElem h, wtS_append]
  simp [wtS]
theorem wtT_bd {n : Nat} {M : List (List Int)} {m : Int} (hM : SqM n m.toNat M) (hm : 1 ≤ m ∧ m ≤ 12) {x : Int} {l r : List Int} (hl : Less n l) (hr : Less n r) (h1 : (plc x).toNat + 1 < l.length) (h2 : (plc x).toNat + 1 < r.length) : 0 ≤ wtT M m x l r ∧ wtT M m x l r ≤ m := by
  unfold wtT
  split
  · obtain ⟨a, ha, ea⟩ := hl _ (show (plc x).toNat < l.length by omega)
    obtain ⟨b, hb, eb⟩ := hl _ h1
    rw [ea, eb]
    have := ((hM.2 a ha).2 b hb).1
    simp only [Int.toNat_natCast]
    omega
  · obtain ⟨a, ha, ea⟩ := hr _ (show (plc x).toNat < r.length by omega)
    obtain ⟨b, hb, eb⟩ := hr _ h2
    rw [ea, eb]
    have := ((hM.2 a ha).2 b hb).1
    simp only [Int.toNat_natCast]
    omega
def wtF (n : Nat) (f g M : List (List Int)) (m : Int) (xs l : List Int) : Int := wtS n f g M m xs l % m
def wtBad (n : Nat) (f g M : List (List Int)) (m : Int) (l : List Int) : Bool := !decide (wtF n f g M m [1, 2, 1] l = wtF n f g M m [2, 1, 2] l)
def wtFlt (n : Nat) (f g M : List (List Int)) (m : Int) : List Int := fltL n (wtBad n f g M m)
end Go.Proofs.YtkjpkdmnjbjjaaaGreat

namespace Go.Proofs.YtkjpkdmnjbjjaaaGreat
set_option linter.unusedVariables false
set_option linter.unusedSimpArgs false
def cstL (n : Nat) : List (List Int) := tabF n fun x _ => (x : Int)
section
variable {t M : List (List Int)} {m : Int}
end
end Go.Proofs.YtkjpkdmnjbjjaaaGreat
