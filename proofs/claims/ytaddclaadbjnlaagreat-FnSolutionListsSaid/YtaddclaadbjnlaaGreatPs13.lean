/-
  Walks and plain laws of this seat, some texts in one.
  No condition but bounds on lengths.
-/
import Derived.Test.YtaddclaadbjnlaaGreatPs12
import Derived.IntWalk
import Derived.Test.YtaddclaadbjnlaaGreatPs4
import Derived.Test.YtaddclaadbjnlaaGreatPs3
import Derived.RegionTactic
import Derived.Test.YtaddclaadbjnlaaGreatPs7
import Derived.Test.YtaddclaadbjnlaaGreatPs2
namespace Go.Proofs.YtaddclaadbjnlaaGreat
set_option maxRecDepth 100000
set_option linter.unusedVariables false
set_option linter.unusedSimpArgs false
open Go.RowKit
theorem quo_nat {p n : Nat} (hn : 1 ≤ n) (hp : p ≤ 1000000) : ((p : Int)).tdiv (n : Int) = ((p / n : Nat) : Int) := by
  rw [Int.tdiv_eq_ediv_of_nonneg (by omega)]; simp
theorem rem_nat {p n : Nat} (hn : 1 ≤ n) (hp : p ≤ 1000000) : ((p : Int)).tmod (n : Int) = ((p % n : Nat) : Int) := by
  rw [Int.tmod_eq_emod_of_nonneg (by omega)]; simp
theorem div_lt_sq {p n : Nat} (h : p < n * n) : p / n < n := Nat.div_lt_of_lt_mul h
set_option maxHeartbeats 4000000 in
theorem collisionOf_any (a : Option Addr) (n c : Nat) (a' : Option Addr) (c' : Nat) (f g : List (List Int)) (w : World) (h1 : Tbl w a n f) (h2 : Tbl w a' n g) (hn1 : 1 ≤ n) (hn : n ≤ 12) (hf : Sq n f) (hg : Sq n g) :
    Calls Tryz.prog 71 #[sAgg a n c a' n c'] w (FltR (collOk n f g) w w) := by
  obtain ⟨bf, of, A, O, C, rfl, Gf⟩ := h1.grid hf hn1
  obtain ⟨bg, og, A', O', C', rfl, Gg⟩ := h2.grid hg hn1
  clear h1 h2
  obtain ⟨N, hN⟩ : ∃ N, N = n * n := ⟨_, rfl⟩
  have hN144 : N ≤ 144 := by rw [hN]; exact Nat.mul_le_mul hn hn
  have hmul : (n : Int) * (n : Int) = (N : Int) := by rw [hN]; simp
  have HN := Lib.hid hN
  have HOK : Hid (collOk n f g = allN N fun p => allN N fun q => !collAt n f g p q) := Lib.hid (by rw [hN]; rfl)
  clear hN
  have hn0 : (n : Int) ≠ 0 := by omega
  go_enter Tryz.func71, Tryz.ntmps71
  have hA := Loc.new w rfl #[.slice (some ⟨bf, of, none⟩) n c, .slice (some ⟨bg, og, none⟩) n c'] 53
  have lA := hA.two
  have gf := Gf.alloc (.cells #[.slice (some ⟨bf, of, none⟩) n c, .slice (some ⟨bg, og, none⟩) n c'] 53)
  have gg := Gg.alloc (.cells #[.slice (some ⟨bf, of, none⟩) n c, .slice (some ⟨bg, og, none⟩) n c'] 53)
  have hB := below_al (Below.refl w.heap.size w) (.cells #[.slice (some ⟨bf, of, none⟩) n c, .slice (some ⟨bg, og, none⟩) n c'] 53)
  clear Gf Gg
  go_wp2
  generalize (w.alloc (.cells #[.slice (some ⟨bf, of, none⟩) n c, .slice (some ⟨bg, og, none⟩) n c'] 53)) = w0 at *
  go_loopw [16] (fun i wr => ∃ k : Nat, k ≤ N ∧ i = .int .i64 k ∧ Hid (allN k (fun p => allN N fun q => !collAt n f g p q) = true) ∧ ∃ m, wr = w0.drewN m) (fun i _ => N - (intOf i).toNat)
  case atStart => exact ⟨0, Nat.zero_le _, rfl, Lib.hid rfl, 0, rfl⟩
  case round =>
    obtain ⟨p, hp, rfl, hp1, m1, rfl⟩ := hrel
    by_cases hlt : p < N
    · have Qp := quo_nat (n := n) (p := p) hn1 (by omega)
      have Rp := rem_nat (n := n) (p := p) hn1 (by omega)
      have bx := div_lt_sq (n := n) (p := p) (by rw [← HN.out]; exact hlt)
      have bY := Nat.mod_lt p hn1
      generalize hx : p / n = x at Qp bx
      generalize hy : p % n = y at Rp bY
      have Wp : IntKind.i64.wrap (x : Int) = (x : Int) := IntWalk.i64_in _ (by omega)
      have Wr : IntKind.i64.wrap (y : Int) = (y : Int) := IntWalk.i64_in _ (by omega)
      have HX := Lib.hid hx; have HY := Lib.hid hy; clear hx hy
      go_wp2
      go_quiet (fail)
      go_wp2
      clear Qp Rp Wp Wr
      go_loopw [28] (fun i wr => ∃ k : Nat, k ≤ N ∧ i = .int .i64 k ∧ Hid (allN k (fun q => !collAt n f g p q) = true) ∧ ∃ m, wr = w0.drewN m) (fun i _ => N - (intOf i).toNat)
      case atStart => exact ⟨0, Nat.zero_le _, rfl, Lib.hid rfl, _, rfl⟩
      case round =>
        obtain ⟨q, hq, rfl, hq1, m2, rfl⟩ := hrel
        by_cases hltq : q < N
        · have Qq := quo_nat (n := n) (p := q) hn1 (by omega)
          have Rq := rem_nat (n := n) (p := q) hn1 (by omega)
          have bu := div_lt_sq (n := n) (p := q) (by rw [← HN.out]; exact hltq)
          have bv := Nat.mod_lt q hn1
          generalize hu : q / n = u at Qq bu
          generalize hv : q % n = v at Rq bv
          have Wq : IntKind.i64.wrap (u : Int) = (u : Int) := IntWalk.i64_in _ (by omega)
          have Wv : IntKind.i64.wrap (v : Int) = (v : Int) := IntWalk.i64_in _ (by omega)
          have hE : collAt n f g p q = ((!decide (p = q)) && (decide (tv f x y = tv f u v) && decide (tv g x y = tv g u v))) := by
            unfold collAt; rw [HX.out, HY.out, hu, hv]
          obtain ⟨r1, k1⟩ := gf.look bx bY
          obtain ⟨r2, k2⟩ := gf.look bu bv
          obtain ⟨r3, k3⟩ := gg.look bx bY
          obtain ⟨r4, k4⟩ := gg.look bu bv
          generalize tv f x y = A1 at hE k1
          generalize tv f u v = A2 at hE k2
          generalize tv g x y = A3 at hE k3
          generalize tv g u v = A4 at hE k4
          have HE := Lib.hid hE
          clear hE hu hv gf gg hf hg
          go_wp2
          go_quiet (fail)
          go_wp2
          clear Qq Rq Wq Wv
          by_cases p0 : p = q
          · have u0 : ((p : Int) != (q : Int)) = false := by simp [p0]
            have HE2 : Hid ((!collAt n f g p q) = true) := Lib.hid (by rw [HE.out]; simp [p0])
            clear p0
            go_quiet (fail)
            go_wp2
            go_roundw
            case rel => exact ⟨q + 1, by omega, by go_num, Lib.hid (allN_succ hq1.out HE2.out), _, rfl⟩
            case measure => simp [intOf]; omega
          · have u0 : ((p : Int) != (q : Int)) = true := by simp; omega
            by_cases p1 : A1 = A2
            · have u1 : ((A1 : Int) == (A2 : Int)) = true := by simp [p1]
              by_cases p2 : A3 = A4
              · have u2 : ((A3 : Int) == (A4 : Int)) = true := by simp [p2]
                have HE2 : Hid ((!collAt n f g p q) = false) := Lib.hid (by rw [HE.out]; simp [p0, p1, p2])
                clear p0 p1 p2
                go_quiet (fail)
                go_wp2
                go_ret
                exact ⟨.inr ⟨by rw [HOK.out]; exact allN_no hlt (allN_no hltq HE2.out), _, _, _, rfl⟩, below_al (below_drewN hB _) _⟩
              · have u2 : ((A3 : Int) == (A4 : Int)) = false := by simp; omega
                have HE2 : Hid ((!collAt n f g p q) = true) := Lib.hid (by rw [HE.out]; simp [p2])
                clear p0 p1 p2
                go_quiet (fail)
                go_wp2
                go_roundw
                case rel => exact ⟨q + 1, by omega, by go_num, Lib.hid (allN_succ hq1.out HE2.out), _, rfl⟩
                case measure => simp [intOf]; omega
            · have u1 : ((A1 : Int) == (A2 : Int)) = false := by simp; omega
              have HE2 : Hid ((!collAt n f g p q) = true) := Lib.hid (by rw [HE.out]; simp [p1])
              clear p0 p1
              go_quiet (fail)
              go_wp2
              go_roundw
              case rel => exact ⟨q + 1, by omega, by go_num, Lib.hid (allN_succ hq1.out HE2.out), _, rfl⟩
              case measure => simp [intOf]; omega
        · obtain rfl : q = N := by omega
          go_wp2
          go_roundw
          case rel => exact ⟨p + 1, by omega, by go_num, Lib.hid (allN_succ hp1.out hq1.out), _, rfl⟩
          case measure => simp [intOf]; omega
    · obtain rfl : p = N := by omega
      go_wp2
      go_ret
      exact ⟨.inl ⟨by rw [HOK.out]; exact hp1.out, rfl⟩, below_drewN hB _⟩
def doF (f g : List (List Int)) (i : Nat) (l : List Int) : List Int :=
  (l.set i ((tv f (l.getD i 0).toNat (l.getD (i + 1) 0).toNat : Nat) : Int)).set (i + 1) ((tv g (l.getD i 0).toNat (l.getD (i + 1) 0).toNat : Nat) : Int)
theorem doF_len (f g : List (List Int)) (i : Nat) (l : List Int) : (doF f g i l).length = l.length := by simp [doF]
def Less (n : Nat) (l : List Int) : Prop := ∀ i, i < l.length → ∃ k : Nat, k < n ∧ l.getD i 0 = (k : Int)
theorem Less.set {n : Nat} {l : List Int} (h : Less n l) (i k : Nat) (hk : k < n) : Less n (l.set i (k : Int)) := by
  intro j hj
  rw [List.length_set] at hj
  rw [getD_set' _ _ _ _ _ hj]
  by_cases e : j = i
  · rw [if_pos e]; exact ⟨k, hk, rfl⟩
  · rw [if_neg e]; exact h j hj
theorem Less.do_ {n : Nat} {f g : List (List Int)} {l : List Int} (h : Less n l) (hf : Sq n f) (hg : Sq n g) (i : Nat) (hi : i + 1 < l.length) : Less n (doF f g i l) := by
  obtain ⟨x, hx, ex⟩ := h i (by omega)
  obtain ⟨y, hy, ey⟩ := h (i + 1) hi
  unfold doF
  rw [ex, ey]
  exact (h.set i _ (hf.lt (by simpa using hx) (by simpa using hy))).set (i + 1) _ (hg.lt (by simpa using hx) (by simpa using hy))
set_option maxHeartbeats 2000000 in
theorem l02Do_any (a : Option Addr) (n c : Nat) (a' : Option Addr) (c' : Nat) (f g : List (List Int)) (al : Option Addr) (m cl : Nat) (l : List Int) (i : Nat) (w : World) (h1 : Tbl w a n f) (h2 : Tbl w a' n g) (hn1 : 1 ≤ n) (hf : Sq n f) (hg : Sq n g)
    (hl : Row w al m l) (hm : m ≤ 1000000) (hi : i + 1 < m) (hle : Less n l) :
    Calls Tryz.prog 152 #[sAgg a n c a' n c', .slice al m cl, .int .i64 i] w fun e w' => ∃ ao co, e = .returned (.slice ao m co) ∧ Own w' w.heap.size ao m co (doF f g i l) ∧ Below w.heap.size w w' := by
  obtain ⟨bf, of, A, O, C, rfl, Gf⟩ := h1.grid hf hn1
  obtain ⟨bg, og, A', O', C', rfl, Gg⟩ := h2.grid hg hn1
  clear h1 h2
  have hll := hl.len
  obtain ⟨x, hx, ex⟩ := hle i (by omega)
  obtain ⟨y, hy, ey⟩ := hle (i + 1) (by omega)
  have HDO : Hid (doF f g i l = (l.set i ((tv f x y : Nat) : Int)).set (i + 1) ((tv g x y : Nat) : Int)) := Lib.hid (by unfold doF; rw [ex, ey]; simp)
  have HX := Lib.hid ex; have HY := Lib.hid ey
  clear ex ey hll hle
  have hA := Loc.new w rfl #[.slice (some ⟨bf, of, none⟩) n c, .slice (some ⟨bg, og, none⟩) n c'] 53
  have gf := Gf.alloc (.cells #[.slice (some ⟨bf, of, none⟩) n c, .slice (some ⟨bg, og, none⟩) n c'] 53)
  have gg := Gg.alloc (.cells #[.slice (some ⟨bf, of, none⟩) n c, .slice (some ⟨bg, og, none⟩) n c'] 53)
  have hl0 := hl.alloc (.cells #[.slice (some ⟨bf, of, none⟩) n c, .slice (some ⟨bg, og, none⟩) n c'] 53)
  have hB := below_al (Below.refl w.heap.size w) (.cells #[.slice (some ⟨bf, of, none⟩) n c, .slice (some ⟨bg, og, none⟩) n c'] 53)
  clear Gf Gg hl
  have hwi : IntKind.i64.wrap ((i : Int) + 1) = ((i + 1 : Nat) : Int) := (IntWalk.i64_in _ (by omega)).trans (by simp)
  go_enter Tryz.func152, Tryz.ntmps152
  go_wp2_with fail
  refine (l01Own_any _ _ _ l _ hl0 (by omega)).mono ?_
  rintro e w1 ⟨ao, co, rfl, ho, hb1⟩
  have ho1 : Own w1 (w.heap.size + 1) ao m co l := ho.mono (by simp)
  clear ho
  obtain ⟨go, oo, rfl, _⟩ := ho1.row.at i (by omega)
  obtain ⟨rfl, hc, hfr⟩ := ho1.cells
  have hgo := ho1.lt
  obtain ⟨bl, ol, e1, hbl, hall⟩ := hl0.all (by omega)
  subst e1
  have hbB := hb1
  have hA1 := hA.below hb1 (by simp)
  have lA1 := hA1.two
  obtain ⟨r1, k1⟩ := (gf.below hb1).look hx hy
  have hl1 := hl0.below hb1
  have kx := (hb1.cell (p := ⟨bl, ol + i, none⟩) hbl).trans (hall i (by omega))
  have ky := (hb1.cell (p := ⟨bl, ol + (i + 1), none⟩) hbl).trans (hall (i + 1) (by omega))
  rw [HX.out] at kx; rw [HY.out] at ky
  have hci := hc i (by omega)
  have hfi := hfr i
  generalize hF : tv f x y = F at *
  generalize hG : tv g x y = G at *
  clear hc hfr hl1 hb1
  have HALL := Lib.hid hall; clear hall
  go_wp2
  go_region
  have hb2 := (below_setne (a := ⟨go, i, none⟩) hbB (by simpa using hgo.1) (.int .i64 F)).drew
  have ho2 : Own (w1.setCell ⟨go, i, none⟩ (.int .i64 F)).drew (w.heap.size + 1) (some ⟨go, 0, none⟩) m co (l.set i (F : Int)) := (ho1.set i _).drew
  clear hbB ho1 kx ky r1 k1 hci hfi hA1 lA1
  generalize (w1.setCell ⟨go, i, none⟩ (.int .i64 F)).drew = w2 at *
  obtain ⟨_, hc, hfr⟩ := ho2.cells
  have hA1 := hA.below hb2 (by simp)
  have lA1 := hA1.two
  obtain ⟨r2, k2⟩ := (gg.below hb2).look hx hy
  have kx := (hb2.cell (p := ⟨bl, ol + i, none⟩) hbl).trans (HALL.out i (by omega))
  have ky := (hb2.cell (p := ⟨bl, ol + (i + 1), none⟩) hbl).trans (HALL.out (i + 1) (by omega))
  rw [HX.out] at kx; rw [HY.out] at ky
  rw [hG] at k2
  have hci := hc (i + 1) (by omega)
  have hfi := hfr (i + 1)
  have HF := Lib.hid hF; have HG := Lib.hid hG; clear hF hG
  clear hc hfr
  go_wp2
  go_region
  go_wp2
  go_ret
  refine ⟨_, _, rfl, ?_, ?_⟩
  · rw [HDO.out]
    exact ((ho2.set (i + 1) _).drew).mono (by omega)
  · exact (below_setne (a := ⟨go, i + 1, none⟩) (hB.trans (hb2.mono (by simp))) (by have := hgo.1; show w.heap.size ≤ go; omega) _).drew
end Go.Proofs.YtaddclaadbjnlaaGreat
namespace Go.Proofs.YtaddclaadbjnlaaGreat
set_option linter.unusedVariables false
set_option linter.unusedSimpArgs false
theorem inj_surj (N : Nat) : ∀ (f : Nat → Nat), (∀ i, i < N → f i < N) → (∀ i j, i < N → j < N → f i = f j → i = j) → ∀ j, j < N → ∃ i, i < N ∧ f i = j := by
  induction N with
  | zero => intro f _ _ j hj; omega
  | succ N ih =>
    intro f hlt hinj j hj
    by_cases hm : f N = j
    · exact ⟨N, by omega, hm⟩
    · have hne : ∀ i, i < N → f i ≠ f N := fun i hi e => by have := hinj i N (by omega) (by omega) e; omega
      have hNlt := hlt N (by omega)
      obtain ⟨F, hF⟩ : ∃ F : Nat → Nat, ∀ i, F i = if f i = N then f N else f i := ⟨_, fun _ => rfl⟩
      have h1 : ∀ i, i < N → F i < N := by
        intro i hi
        have a := hlt i (by omega)
        have b := hne i hi
        rw [hF]
        by_cases e : f i = N
        · rw [if_pos e]; omega
        · rw [if_neg e]; omega
      have h2 : ∀ i k, i < N → k < N → F i = F k → i = k := by
        intro i k hi hk e
        rw [hF, hF] at e
        have b1 := hne i hi
        have b2 := hne k hk
        by_cases e1 : f i = N
        · by_cases e2 : f k = N
          · exact hinj i k (by omega) (by omega) (by omega)
          · rw [if_pos e1, if_neg e2] at e; omega
        · by_cases e2 : f k = N
          · rw [if_neg e1, if_pos e2] at e; omega
          · rw [if_neg e1, if_neg e2] at e; exact hinj i k (by omega) (by omega) e
      by_cases hjN : j = N
      · subst hjN
        obtain ⟨i, hi, e⟩ := ih F h1 h2 (f j) (by omega)
        rw [hF] at e
        by_cases e1 : f i = j
        · exact ⟨i, by omega, e1⟩
        · rw [if_neg e1] at e; exact absurd e (hne i hi)
      · obtain ⟨i, hi, e⟩ := ih F h1 h2 j (by omega)
        rw [hF] at e
        by_cases e1 : f i = N
        · rw [if_pos e1] at e; exact absurd e hm
        · rw [if_neg e1] at e; exact ⟨i, by omega, e⟩
theorem pair_div {n x y : Nat} (hn : 1 ≤ n) (hy : y < n) : (x * n + y) / n = x := by
  rw [Nat.mul_comm, Nat.mul_add_div (by omega), Nat.div_eq_of_lt hy, Nat.add_zero]
theorem pair_mod {n x y : Nat} (hy : y < n) : (x * n + y) % n = y := by
  rw [Nat.mul_comm, Nat.mul_add_mod, Nat.mod_eq_of_lt hy]
theorem pair_lt {n x y : Nat} (hx : x < n) (hy : y < n) : x * n + y < n * n := by
  have : (x + 1) * n ≤ n * n := Nat.mul_le_mul_right n hx
  have e : (x + 1) * n = x * n + n := by rw [Nat.add_mul]; simp
  omega
def prN (n : Nat) (f g : List (List Int)) (u v : Nat) : Nat := ((List.range (n * n)).find? fun p => decide (tv f (p / n) (p % n) = u) && decide (tv g (p / n) (p % n) = v)).getD 0
theorem coll_inj {n : Nat} {f g : List (List Int)} (hc : collOk n f g = true) {p q : Nat} (hp : p < n * n) (hq : q < n * n) (h1 : tv f (p / n) (p % n) = tv f (q / n) (q % n)) (h2 : tv g (p / n) (p % n) = tv g (q / n) (q % n)) : p = q := by
  have := allN_get (allN_get hc hp) hq
  unfold collAt at this
  by_cases e : p = q
  · exact e
  · simp [e, h1, h2] at this
theorem prN_eq {n : Nat} {f g : List (List Int)} (hn : 1 ≤ n) (hc : collOk n f g = true) {x y u v : Nat} (hx : x < n) (hy : y < n) (h1 : tv f x y = u) (h2 : tv g x y = v) : prN n f g u v = x * n + y := by
  unfold prN
  have hlt := pair_lt hx hy
  have hP : (fun p => decide (tv f (p / n) (p % n) = u) && decide (tv g (p / n) (p % n) = v)) (x * n + y) = true := by
    show (decide (tv f ((x * n + y) / n) ((x * n + y) % n) = u) && decide (tv g ((x * n + y) / n) ((x * n + y) % n) = v)) = true
    rw [pair_div hn hy, pair_mod hy]; simp [h1, h2]
  cases hq : (List.range (n * n)).find? (fun p => decide (tv f (p / n) (p % n) = u) && decide (tv g (p / n) (p % n) = v)) with
  | none => rw [List.find?_eq_none] at hq; exact absurd hP (hq _ (List.mem_range.2 hlt))
  | some q =>
    have h3 := List.find?_some hq
    have h4 := List.mem_range.1 (List.mem_of_find?_eq_some hq)
    rw [Bool.and_eq_true, decide_eq_true_iff, decide_eq_true_iff] at h3
    show q = _
    refine coll_inj hc h4 hlt ?_ ?_
    · rw [pair_div hn hy, pair_mod hy, h1]; exact h3.1
    · rw [pair_div hn hy, pair_mod hy, h2]; exact h3.2
theorem pr_ex {n : Nat} {f g : List (List Int)} (hn : 1 ≤ n) (hf : Sq n f) (hg : Sq n g) (hc : collOk n f g = true) {u v : Nat} (hu : u < n) (hv : v < n) : ∃ x y, x < n ∧ y < n ∧ tv f x y = u ∧ tv g x y = v := by
  obtain ⟨p, hp, e⟩ := inj_surj (n * n) (fun p => tv f (p / n) (p % n) * n + tv g (p / n) (p % n))
    (fun p hp => pair_lt (hf.lt (div_lt_sq hp) (Nat.mod_lt _ hn)) (hg.lt (div_lt_sq hp) (Nat.mod_lt _ hn)))
    (fun p q hp hq e => by
      have bp := hg.lt (div_lt_sq hp) (Nat.mod_lt p hn)
      have bq := hg.lt (div_lt_sq hq) (Nat.mod_lt q hn)
      have e1 := congrArg (· / n) e
      have e2 := congrArg (· % n) e
      simp only [pair_div hn bp, pair_div hn bq, pair_mod bp, pair_mod bq] at e1 e2
      exact coll_inj hc hp hq e1 e2)
    (u * n + v) (pair_lt hu hv)
  have bp := hg.lt (div_lt_sq hp) (Nat.mod_lt p hn)
  have e1 := congrArg (· / n) e
  have e2 := congrArg (· % n) e
  simp only [pair_div hn bp, pair_mod bp, pair_div hn hv, pair_mod hv] at e1 e2
  exact ⟨p / n, p % n, div_lt_sq hp, Nat.mod_lt _ hn, e1, e2⟩
def bfT (n : Nat) (f g : List (List Int)) : List (List Int) := tabF n fun u v => ((prN n f g u v / n : Nat) : Int)
def bgT (n : Nat) (f g : List (List Int)) : List (List Int) := tabF n fun u v => ((prN n f g u v % n : Nat) : Int)
theorem tv_tabF (n : Nat) (V : Nat → Nat → Int) {x y : Nat} (hx : x < n) (hy : y < n) : ((tabF n V).getD x []).getD y 0 = V x y := by
  rw [tabF_get n V x hx]
  simp [List.getD_eq_getElem?_getD, List.getElem?_map, hy]
theorem Sq.tab {n : Nat} {V : Nat → Nat → Nat} (h : ∀ x y, x < n → y < n → V x y < n) : Sq n (tabF n fun x y => ((V x y : Nat) : Int)) := by
  refine ⟨tabF_len _ _, fun x hx => ⟨by rw [tabF_get _ _ x hx]; simp, fun y hy => ?_⟩⟩
  unfold tv
  rw [tv_tabF n _ hx hy]
  simp [h x y hx hy]
theorem prN_lt {n : Nat} {f g : List (List Int)} (hn : 1 ≤ n) (hf : Sq n f) (hg : Sq n g) (hc : collOk n f g = true) {u v : Nat} (hu : u < n) (hv : v < n) : prN n f g u v < n * n := by
  obtain ⟨x, y, hx, hy, h1, h2⟩ := pr_ex hn hf hg hc hu hv
  rw [prN_eq hn hc hx hy h1 h2]; exact pair_lt hx hy
theorem bf_sq {n : Nat} {f g : List (List Int)} (hn : 1 ≤ n) (hf : Sq n f) (hg : Sq n g) (hc : collOk n f g = true) : Sq n (bfT n f g) := Sq.tab fun u v hu hv => div_lt_sq (prN_lt hn hf hg hc hu hv)
theorem bg_sq {n : Nat} {f g : List (List Int)} (hn : 1 ≤ n) : Sq n (bgT n f g) := Sq.tab fun u v hu hv => Nat.mod_lt _ hn
def stepL (n : Nat) (f g : List (List Int)) (x : Int) (l : List Int) : List Int := if 0 < x then doF f g (plc x).toNat l else doF (bfT n f g) (bgT n f g) (plc x).toNat l
def actL (n : Nat) (f g : List (List Int)) (xs : List Int) (l : List Int) : List Int := xs.foldl (fun l x => stepL n f g x l) l
theorem stepL_len (n : Nat) (f g : List (List Int)) (x : Int) (l : List Int) : (stepL n f g x l).length = l.length := by
  unfold stepL; split <;> exact doF_len _ _ _ _
theorem Less.step {n : Nat} {f g : List (List Int)} {l : List Int} (hn : 1 ≤ n) (hf : Sq n f) (hg : Sq n g) (hc : collOk n f g = true) (h : Less n l) (x : Int) (hx : (plc x).toNat + 1 < l.length) : Less n (stepL n f g x l) := by
  unfold stepL
  split
  · exact h.do_ hf hg _ hx
  · exact h.do_ (bf_sq hn hf hg hc) (bg_sq hn) _ hx
theorem Less.act {n : Nat} {f g : List (List Int)} {l : List Int} (hn : 1 ≤ n) (hf : Sq n f) (hg : Sq n g) (hc : collOk n f g = true) (h : Less n l) (xs : List Int) (hx : ∀ x ∈ xs, (plc x).toNat + 1 < l.length) : Less n (actL n f g xs l) := by
  unfold actL
  induction xs generalizing l with
  | nil => exact h
  | cons x r ih =>
    rw [List.foldl_cons]
    exact ih (h.step hn hf hg hc x (hx x (by simp))) (fun y hy => by rw [stepL_len]; exact hx y (by simp [hy]))
def permOk (p : List Int) : Bool := allN p.length fun x : Nat => p.contains (x : Int)
def permTo (p : List Int) (k : Nat) : Prop := (∀ i, i < k → 0 ≤ p.getD i 0 ∧ p.getD i 0 < p.length) ∧ ∀ i j, i < k → j < k → p.getD i 0 = p.getD j 0 → i = j
theorem getD_mem {p : List Int} {i : Nat} (h : i < p.length) : p.getD i 0 ∈ p := by
  rw [List.getD_eq_getElem?_getD, List.getElem?_eq_getElem h]; exact List.getElem_mem h
theorem permTo_ok {p : List Int} (h : permTo p p.length) : permOk p = true := by
  unfold permOk allN
  rw [List.all_eq_true]
  intro x hx
  have hx := List.mem_range.1 hx
  obtain ⟨i, hi, e⟩ := inj_surj p.length (fun i => (p.getD i 0).toNat) (fun i hi => by have := h.1 i hi; show (p.getD i 0).toNat < _; omega)
    (fun i j hi hj e => h.2 i j hi hj (by have a := h.1 i hi; have b := h.1 j hj; have e : (p.getD i 0).toNat = (p.getD j 0).toNat := e; omega)) x hx
  have a := h.1 i hi
  have e : (p.getD i 0).toNat = x := e
  have e2 : p.getD i 0 = (x : Int) := by omega
  rw [List.contains_iff_mem, ← e2]
  exact getD_mem hi
theorem permOk_to {p : List Int} (h : permOk p = true) : permTo p p.length := by
  have hm : ∀ x, x < p.length → ∃ i, i < p.length ∧ p.getD i 0 = (x : Int) := by
    intro x hx
    have := allN_get h hx
    rw [List.contains_iff_mem] at this
    obtain ⟨i, hi, e⟩ := List.getElem_of_mem this
    exact ⟨i, hi, by rw [List.getD_eq_getElem?_getD, List.getElem?_eq_getElem hi]; simpa using e⟩
  have H : ∀ x, ∃ i, x < p.length → i < p.length ∧ p.getD i 0 = (x : Int) := by
    intro x
    by_cases hx : x < p.length
    · obtain ⟨i, hi⟩ := hm x hx; exact ⟨i, fun _ => hi⟩
    · exact ⟨0, fun h => absurd h hx⟩
  obtain ⟨g, hg⟩ := Classical.axiomOfChoice H
  have hs := inj_surj p.length g (fun x hx => (hg x hx).1) (fun x y hx hy e => by have a := (hg x hx).2; have b := (hg y hy).2; rw [e] at a; omega)
  have hv : ∀ i, i < p.length → ∃ x, x < p.length ∧ g x = i ∧ p.getD i 0 = (x : Int) := by
    intro i hi
    obtain ⟨x, hx, e⟩ := hs i hi
    have := (hg x hx).2
    rw [e] at this
    exact ⟨x, hx, e, this⟩
  refine ⟨fun i hi => ?_, fun i j hi hj e => ?_⟩
  · obtain ⟨x, hx, _, e⟩ := hv i hi; omega
  · obtain ⟨x, hx, e1, e2⟩ := hv i hi
    obtain ⟨y, hy, e3, e4⟩ := hv j hj
    have : x = y := by omega
    subst this; omega
theorem permOk_out {p : List Int} {k : Nat} (hk : k < p.length) (h : ¬ (0 ≤ p.getD k 0 ∧ p.getD k 0 < p.length)) : permOk p = false := by
  cases hp : permOk p with
  | false => rfl
  | true => exact absurd ((permOk_to hp).1 k hk) h
theorem permOk_twice {p : List Int} {k i : Nat} (hk : k < p.length) (hi : i < k) (h : p.getD i 0 = p.getD k 0) : permOk p = false := by
  cases hp : permOk p with
  | false => rfl
  | true => have := (permOk_to hp).2 i k (by omega) hk h; omega
theorem permTo_succ {p : List Int} {k : Nat} (h : permTo p k) (h1 : 0 ≤ p.getD k 0 ∧ p.getD k 0 < p.length) (h2 : ∀ i, i < k → p.getD i 0 ≠ p.getD k 0) : permTo p (k + 1) := by
  refine ⟨fun i hi => ?_, fun i j hi hj e => ?_⟩
  · by_cases e : i = k
    · subst e; exact h1
    · exact h.1 i (by omega)
  · by_cases e1 : i = k
    · by_cases e2 : j = k
      · omega
      · subst e1; exact absurd e.symm (h2 j (by omega))
    · by_cases e2 : j = k
      · subst e2; exact absurd e (h2 i (by omega))
      · exact h.2 i j (by omega) (by omega) e
def seenL (p : List Int) (n k : Nat) : List Bool := (List.range n).map fun x : Nat => (p.take k).contains (x : Int)
theorem seenL_zero (p : List Int) (n : Nat) : seenL p n 0 = List.replicate n false := by
  apply List.ext_getElem
  · simp [seenL]
  · intro i h1 h2; simp [seenL]
theorem seenL_get (p : List Int) (n k x : Nat) (hx : x < n) : (seenL p n k).getD x false = (p.take k).contains (x : Int) := by
  simp [seenL, List.getD_eq_getElem?_getD, List.getElem?_map, hx]
theorem seenL_succ (p : List Int) (n k x : Nat) (hk : k < p.length) (hx : x < n) (h : p[k] = (x : Int)) : (seenL p n k).set x true = seenL p n (k + 1) := by
  apply List.ext_getElem
  · simp [seenL]
  · intro i h1 h2
    have hi : i < n := by simpa [seenL] using h2
    rw [List.getElem_set]
    simp only [seenL, List.getElem_map, List.getElem_range]
    rw [List.take_succ_eq_append_getElem hk]
    by_cases e : x = i
    · subst e; simp [h]
    · rw [if_neg e]
      have : ¬ (i : Int) = p[k] := by rw [h]; omega
      rw [Bool.eq_iff_iff, List.contains_iff_mem, List.contains_iff_mem, List.mem_append, List.mem_singleton]
      exact ⟨Or.inl, fun h => h.elim id (fun h => absurd h this)⟩
theorem seen_mem {p : List Int} {k : Nat} {x : Int} (h : (p.take k).contains x = true) (hk : k ≤ p.length) : ∃ i, i < k ∧ p.getD i 0 = x := by
  rw [List.contains_iff_mem] at h
  obtain ⟨i, hi, e⟩ := List.getElem_of_mem h
  rw [List.length_take] at hi
  refine ⟨i, by omega, ?_⟩
  rw [List.getElem_take] at e
  rw [List.getD_eq_getElem?_getD, List.getElem?_eq_getElem (by omega)]
  simpa using e
theorem not_seen {p : List Int} {k : Nat} {x : Int} (h : (p.take k).contains x = false) (hk : k ≤ p.length) : ∀ i, i < k → p.getD i 0 ≠ x := by
  intro i hi e
  have : x ∈ p.take k := by
    rw [List.mem_take_iff_getElem]
    refine ⟨i, by omega, ?_⟩
    rw [List.getD_eq_getElem?_getD, List.getElem?_eq_getElem (by omega)] at e
    simpa using e
  rw [← List.contains_iff_mem, h] at this
  exact Bool.noConfusion this
theorem rngB_t {lo hi x : Int} (h : rngB lo hi x = true) : lo ≤ x ∧ x ≤ hi := by unfold rngB at h; simpa using h
theorem rngB_f {lo hi x : Int} (h : rngB lo hi x = false) : ¬ (lo ≤ x ∧ x ≤ hi) := fun hh => by
  have : rngB lo hi x = true := by unfold rngB; simp [hh.1, hh.2]
  rw [this] at h; exact Bool.noConfusion h
/-! ### racks -/
def rkAt (t : List (List Int)) (x y z : Nat) : Bool := decide (tv t x (tv t y z) = tv t (tv t x y) (tv t x z))
def rkOk (n : Nat) (t : List (List Int)) : Bool := allN n fun x => allN n fun y => allN n fun z => rkAt t x y z
def isRk (t : List (List Int)) : Bool := isTab t && (t.all permOk && rkOk t.length t)
end Go.Proofs.YtaddclaadbjnlaaGreat
namespace Go.Proofs.YtaddclaadbjnlaaGreat
set_option maxRecDepth 100000
set_option linter.unusedVariables false
set_option linter.unusedSimpArgs false
open Go.RowKit
def FltN (ok : Bool) (W : World) (e : Ending) (w' : World) : Prop := ((ok = true ∧ e = .returned (.slice none 0 0)) ∨ (ok = false ∧ ∃ b c, e = .returned (.slice (some ⟨b, 0, none⟩) 3 c))) ∧ Below W.heap.size W w'
set_option maxHeartbeats 2000000 in
theorem isPermuted_any (a : Option Addr) (n c : Nat) (p : List Int) (w : World) (h1 : Row w a n p) (hm : n ≤ 1000000) :
    Calls Tryz.prog 102 #[.slice a n c] w fun e w' => e = .returned (.bool (permOk p)) ∧ Below w.heap.size w w' := by
  have hl := h1.len
  have HL := Lib.hid hl; clear hl
  go_enter Tryz.func102, Tryz.ntmps102
  go_wp2_with (at_make; refine makeBo rfl rfl rfl rfl (by omega) ?_; intro w1 ho hs hb)
  go_loopw [11] (fun i wr => ∃ k : Nat, k ≤ n ∧ i = .int .i64 k ∧ Hid (permTo p k) ∧ OwnBo wr w.heap.size (some ⟨w.heap.size, 0, none⟩) n n (seenL p n k) ∧ Below w.heap.size w wr) (fun i _ => n - (intOf i).toNat)
  case atStart => exact ⟨0, Nat.zero_le _, rfl, Lib.hid ⟨fun i h => absurd h (by omega), fun i j h => absurd h (by omega)⟩, by rw [seenL_zero]; exact ho, hb⟩
  case round =>
    clear ho hb
    obtain ⟨k, hk, rfl, hp, ho, hb⟩ := hrel
    by_cases hlt : k < n
    · have hr := h1.below hb
      obtain ⟨b, off, rfl, g1⟩ := hr.at k hlt
      have hx : k < p.length := by have := HL.out; omega
      have hpk : p.getD k 0 = p[k] := by simp [List.getD_eq_getElem?_getD, List.getElem?_eq_getElem hx]
      have wn : IntKind.i64.wrap ((n : Int) - 1) = (n : Int) - 1 := IntWalk.i64_in _ (by omega)
      cases hv : rngB 0 ((n : Int) - 1) (p.getD k 0) with
      | false =>
        have HC := Lib.hid (fun w => within_b (p.getD k 0) 0 ((n : Int) - 1) false hv w)
        have hno : permOk p = false := permOk_out hx (by have h := rngB_f hv; have := HL.out; omega)
        have HN := Lib.hid hno
        clear hv hno hpk
        generalize p.getD k 0 = V at *
        go_wp2_with fail
        refine (HC.out _).mono ?_
        rintro e w2 ⟨rfl, rfl⟩
        go_wp2
        go_ret
        exact ⟨ret_bool HN.out.symm, hb⟩
      | true =>
        have HC := Lib.hid (fun w => within_b (p.getD k 0) 0 ((n : Int) - 1) true hv w)
        have hin : 0 ≤ p.getD k 0 ∧ p.getD k 0 < p.length := by have h := rngB_t hv; have := HL.out; omega
        obtain ⟨X, hX⟩ : ∃ X : Nat, p.getD k 0 = X := ⟨(p.getD k 0).toNat, by omega⟩
        have hXn : X < n := by have := HL.out; omega
        obtain ⟨_, hc, hf⟩ := ho.cells
        have hc1 := hc X hXn
        have hf1 := hf X
        rw [seenL_get p n k X hXn] at hc1
        have HIN := Lib.hid hin
        rw [hX] at g1 HC
        clear hc hf hv hin
        cases hs : (p.take k).contains (X : Int) with
        | true =>
          rw [hs] at hc1
          obtain ⟨i, hi, e⟩ := seen_mem hs (by omega)
          have HN : Hid (permOk p = false) := Lib.hid (permOk_twice hx hi (by rw [e, hX]))
          clear hs e hX hpk
          go_wp2_with fail
          refine (HC.out _).mono ?_
          rintro e w2 ⟨rfl, rfl⟩
          go_wp2
          go_ret
          exact ⟨ret_bool HN.out.symm, hb⟩
        | false =>
          rw [hs] at hc1
          have HT : Hid (permTo p (k + 1)) := Lib.hid (permTo_succ hp.out HIN.out (by rw [hX]; exact not_seen hs (by omega)))
          have HSE : Hid ((seenL p n k).set X true = seenL p n (k + 1)) := Lib.hid (seenL_succ p n k X hx hXn (by rw [← hpk, hX]))
          clear hs hX hpk
          go_wp2_with fail
          refine (HC.out _).mono ?_
          rintro e w2 ⟨rfl, rfl⟩
          go_wp2
          go_roundw
          case rel => exact ⟨k + 1, by omega, by go_num, HT, by rw [← HSE.out]; exact ho.set X true, hb.setCell (by simp) _⟩
          case measure => simp [intOf]; omega
    · obtain rfl : k = n := by omega
      have HP : Hid (permOk p = true) := Lib.hid (permTo_ok (by rw [← HL.out]; exact hp.out))
      go_wp2
      go_ret
      exact ⟨ret_bool HP.out.symm, hb⟩
theorem permRows1_any (a : Option Addr) (n c : Nat) (p : List Int) (w : World) (h1 : Row w a n p) (hm : n ≤ 1000000) :
    Calls Tryz.prog 101 #[.slice a n c] w fun e w' => e = .returned (.bool (!permOk p)) ∧ Below w.heap.size w w' := by
  go_enter Tryz.func101, Tryz.ntmps101
  go_wp2_with fail
  refine (isPermuted_any _ _ _ p _ h1 hm).mono ?_
  rintro e w1 ⟨rfl, hb⟩
  go_wp2
  go_ret
  exact ⟨rfl, hb⟩
theorem ent_permRows1 : Ent 101 := fun _ _ => rfl
set_option maxHeartbeats 1000000 in
theorem permutationRows_any (a : Option Addr) (n c : Nat) (t : List (List Int)) (w : World) (h1 : Tbl w a n t) (hm : n ≤ 9223372036854775807) (hx : ∀ x ∈ t, x.length ≤ 1000000) :
    Calls Tryz.prog 54 #[.slice a n c] w fun e w' => e = .returned (.bool (t.all permOk)) ∧ Below w.heap.size w w' := by
  have hcl : ∀ x ∈ t, ∀ w1, Below w.heap.size w w1 → ∀ a' n' c', Row w1 a' n' x → n' ≤ 9223372036854775807 → Calls Tryz.prog 101 (#[.slice a' n' c'] ++ #[]) w1 fun e w' => e = .returned (.bool (!permOk x)) ∧ Below w.heap.size w w' := fun x hxm w1 hb a' n' c' hr _ =>
    (permRows1_any a' n' c' x w1 hr (by have := hx x hxm; have := hr.len; omega)).mono fun e w' ⟨he, hb'⟩ => ⟨he, below_th hb hb'⟩
  have HCL := Lib.hid hcl; clear hcl
  go_enter Tryz.func54, Tryz.ntmps54
  go_wp2_with fail
  refine (containsFunc_rows (fun w1 => Below w.heap.size w w1) 101 #[] (fun x => !permOk x) _ _ _ t _ (Below.refl _ _) (fun w1 h => h1.below h) hm ent_permRows1 HCL.out).mono ?_
  rintro e w1 ⟨rfl, hb⟩
  go_wp2
  go_ret
  exact ⟨ret_bool (by simp [List.any_eq_not_all_not]), hb⟩
theorem isRk_no {t : List (List Int)} (h : isTab t = false) : isRk t = false := by unfold isRk; rw [h]; rfl
end Go.Proofs.YtaddclaadbjnlaaGreat
