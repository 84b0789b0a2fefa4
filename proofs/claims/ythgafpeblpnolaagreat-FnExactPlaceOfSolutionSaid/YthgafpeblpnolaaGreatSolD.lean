/-
  Pairs that a pair map leads to one pair: what the reference's question answers.
  No condition but bounds on lengths.
-/
import Derived.Test.YthgafpeblpnolaaGreatBase2
namespace Go.Proofs.YthgafpeblpnolaaGreat
set_option maxRecDepth 100000
set_option linter.unusedVariables false
set_option linter.unusedSimpArgs false
open Go.RowKit

/-- an empty list, or a list with an element -/
def SptR (ok : Bool) (W w : World) (e : Ending) (w' : World) : Prop := (∃ a n c, e = .returned (.slice a n c) ∧ ((ok = true ∧ n = 0) ∨ (ok = false ∧ n ≠ 0))) ∧ Below W.heap.size W w'

set_option maxHeartbeats 4000000 in
theorem l02Collision_any (a : Option Addr) (n c : Nat) (a' : Option Addr) (c' : Nat) (f g : List (List Int)) (w : World) (h1 : Tbl w a n f) (h2 : Tbl w a' n g) (hn1 : 1 ≤ n) (hn : n ≤ 12) (hf : Sq n f) (hg : Sq n g) :
    Calls Tryz.prog 90 #[sAgg a n c a' n c'] w (SptR (collOk n f g) w w) := by
  obtain ⟨bf, of, A, O, C, rfl, Gf⟩ := h1.grid hf hn1
  obtain ⟨bg, og, A', O', C', rfl, Gg⟩ := h2.grid hg hn1
  clear h1 h2
  obtain ⟨N, hN⟩ : ∃ N, N = n * n := ⟨_, rfl⟩
  have hN144 : N ≤ 144 := by rw [hN]; exact Nat.mul_le_mul hn hn
  have hmul : (n : Int) * (n : Int) = (N : Int) := by rw [hN]; simp
  have HN := Lib.hid hN
  have HOK : Hid (collOk n f g = allN N fun p => allN N fun q => !collAt n f g p q) := Lib.hid (by rw [hN]; rfl)
  clear hN
  have hn0 : (n : Int) ≠ 0 := by omega
  go_enter Tryz.func90, Tryz.ntmps90
  have hA := Loc.new w rfl #[.slice (some ⟨bf, of, none⟩) n c, .slice (some ⟨bg, og, none⟩) n c'] 28
  have lA := hA.two
  have gf := Gf.alloc (.cells #[.slice (some ⟨bf, of, none⟩) n c, .slice (some ⟨bg, og, none⟩) n c'] 28)
  have gg := Gg.alloc (.cells #[.slice (some ⟨bf, of, none⟩) n c, .slice (some ⟨bg, og, none⟩) n c'] 28)
  have hB := below_al (Below.refl w.heap.size w) (.cells #[.slice (some ⟨bf, of, none⟩) n c, .slice (some ⟨bg, og, none⟩) n c'] 28)
  clear Gf Gg
  go_wp2
  generalize (w.alloc (.cells #[.slice (some ⟨bf, of, none⟩) n c, .slice (some ⟨bg, og, none⟩) n c'] 28)) = w0 at *
  go_loopw [4] (fun i wr => ∃ k : Nat, k ≤ N ∧ i = .int .i64 k ∧ Hid (allN k (fun p => allN N fun q => !collAt n f g p q) = true) ∧ ∃ m, wr = w0.drewN m) (fun i _ => N - (intOf i).toNat)
  case atStart => exact ⟨0, Nat.zero_le _, rfl, Lib.hid rfl, 0, rfl⟩
  case round =>
    obtain ⟨p, hp, rfl, hp1, m1, rfl⟩ := hrel
    by_cases hlt : p < N
    · have Qp := quo_nat (n := n) (p := p) hn1 (by omega)
      have Rp := rem_nat (n := n) (p := p) hn1 (by omega)
      have bx := div_lt_sq (n := n) (p := p) (by rw [← HN.out]; exact hlt)
      have bY := Nat.mod_lt p hn1
      generalize hx : p / n = x at Qp bx
      generalize hy : p % n = y at Rp bY
      have Wp : IntKind.i64.wrap (x : Int) = (x : Int) := IntWalk.i64_in _ (by omega)
      have Wr : IntKind.i64.wrap (y : Int) = (y : Int) := IntWalk.i64_in _ (by omega)
      have HX := Lib.hid hx; have HY := Lib.hid hy; clear hx hy
      go_wp2
      go_loopw [5] (fun i wr => ∃ k : Nat, k ≤ N ∧ i = .int .i64 k ∧ Hid (allN k (fun q => !collAt n f g p q) = true) ∧ ∃ m, wr = w0.drewN m) (fun i _ => N - (intOf i).toNat)
      case atStart => exact ⟨0, Nat.zero_le _, rfl, Lib.hid rfl, _, rfl⟩
      case round =>
        obtain ⟨q, hq, rfl, hq1, m2, rfl⟩ := hrel
        by_cases hltq : q < N
        · have Qq := quo_nat (n := n) (p := q) hn1 (by omega)
          have Rq := rem_nat (n := n) (p := q) hn1 (by omega)
          have bu := div_lt_sq (n := n) (p := q) (by rw [← HN.out]; exact hltq)
          have bv := Nat.mod_lt q hn1
          generalize hu : q / n = u at Qq bu
          generalize hv : q % n = v at Rq bv
          have Wq : IntKind.i64.wrap (u : Int) = (u : Int) := IntWalk.i64_in _ (by omega)
          have Wv : IntKind.i64.wrap (v : Int) = (v : Int) := IntWalk.i64_in _ (by omega)
          have hE : collAt n f g p q = ((!decide (p = q)) && (decide (tv f x y = tv f u v) && decide (tv g x y = tv g u v))) := by
            unfold collAt; rw [HX.out, HY.out, hu, hv]
          obtain ⟨r1, k1⟩ := gf.look bx bY
          obtain ⟨r2, k2⟩ := gf.look bu bv
          obtain ⟨r3, k3⟩ := gg.look bx bY
          obtain ⟨r4, k4⟩ := gg.look bu bv
          generalize tv f x y = A1 at hE k1
          generalize tv f u v = A2 at hE k2
          generalize tv g x y = A3 at hE k3
          generalize tv g u v = A4 at hE k4
          have HE := Lib.hid hE
          clear hE hu hv gf gg hf hg
          go_wp2
          go_quiet (fail)
          go_wp2
          clear Qq Rq Wq Wv Qp Rp Wp Wr
          by_cases p0 : p = q
          · have u0 : ((p : Int) != (q : Int)) = false := by simp [p0]
            have HE2 : Hid ((!collAt n f g p q) = true) := Lib.hid (by rw [HE.out]; simp [p0])
            clear p0
            go_quiet (fail)
            go_wp2
            go_roundw
            case rel => exact ⟨q + 1, by omega, by go_num, Lib.hid (allN_succ hq1.out HE2.out), _, rfl⟩
            case measure => simp [intOf]; omega
          · have u0 : ((p : Int) != (q : Int)) = true := by simp; omega
            by_cases p1 : A1 = A2
            · have u1 : ((A1 : Int) == (A2 : Int)) = true := by simp [p1]
              by_cases p2 : A3 = A4
              · have u2 : ((A3 : Int) == (A4 : Int)) = true := by simp [p2]
                have HE2 : Hid ((!collAt n f g p q) = false) := Lib.hid (by rw [HE.out]; simp [p0, p1, p2])
                clear p0 p1 p2
                go_quiet (fail)
                go_wp2
                go_ret
                exact ⟨⟨_, _, _, rfl, .inr ⟨by rw [HOK.out]; exact allN_no hlt (allN_no hltq HE2.out), by omega⟩⟩, below_al (below_drewN hB _) _⟩
              · have u2 : ((A3 : Int) == (A4 : Int)) = false := by simp; omega
                have HE2 : Hid ((!collAt n f g p q) = true) := Lib.hid (by rw [HE.out]; simp [p2])
                clear p0 p1 p2
                go_quiet (fail)
                go_wp2
                go_roundw
                case rel => exact ⟨q + 1, by omega, by go_num, Lib.hid (allN_succ hq1.out HE2.out), _, rfl⟩
                case measure => simp [intOf]; omega
            · have u1 : ((A1 : Int) == (A2 : Int)) = false := by simp; omega
              have HE2 : Hid ((!collAt n f g p q) = true) := Lib.hid (by rw [HE.out]; simp [p1])
              clear p0 p1
              go_quiet (fail)
              go_wp2
              go_roundw
              case rel => exact ⟨q + 1, by omega, by go_num, Lib.hid (allN_succ hq1.out HE2.out), _, rfl⟩
              case measure => simp [intOf]; omega
        · obtain rfl : q = N := by omega
          go_wp2
          go_roundw
          case rel => exact ⟨p + 1, by omega, by go_num, Lib.hid (allN_succ hp1.out hq1.out), _, rfl⟩
          case measure => simp [intOf]; omega
    · obtain rfl : p = N := by omega
      go_wp2
      go_ret
      exact ⟨⟨_, _, _, rfl, .inl ⟨by rw [HOK.out]; exact hp1.out, rfl⟩⟩, below_al (below_drewN hB _) _⟩

end Go.Proofs.YthgafpeblpnolaaGreat
