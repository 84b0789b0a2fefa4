/-
  The equation of a pair map: what the program's question answers.
  No condition but bounds on lengths.
-/
import Derived.Test.YtehomfbehhlhmaaBase
namespace Go.Proofs.Ytehomfbehhlhmaa
set_option maxRecDepth 100000
set_option linter.unusedVariables false
set_option linter.unusedSimpArgs false
open Go.RowKit

/-- no fault and nil, or a fault and no nil -/
def FltR (ok : Bool) (W w : World) (e : Ending) (w' : World) : Prop := ((ok = true ∧ e = .returned (.slice none 0 0)) ∨ (ok = false ∧ ∃ b n c, e = .returned (.slice (some ⟨b, 0, none⟩) n c))) ∧ Below W.heap.size W w'

/-- what one look at the equation reads -/
theorem eq_reads (n : Nat) (f g : List (List Int)) (hf : Sq n f) (hg : Sq n g) {x y z : Nat} (hx : x < n) (hy : y < n) (hz : z < n) :
    ∃ a1 b1 b2 c2 a3 b3 e1 f1 d2 e2 e3 f3 : Nat, (a1 < n ∧ b1 < n ∧ b2 < n ∧ e1 < n ∧ f1 < n ∧ e2 < n) ∧
      (tv f x y = a1 ∧ tv g x y = b1 ∧ tv f b1 z = b2 ∧ tv g b1 z = c2 ∧ tv f a1 b2 = a3 ∧ tv g a1 b2 = b3) ∧
      (tv f y z = e1 ∧ tv g y z = f1 ∧ tv f x e1 = d2 ∧ tv g x e1 = e2 ∧ tv f e2 f1 = e3 ∧ tv g e2 f1 = f3) ∧
      eqAt f g x y z = ((decide (a3 = d2) && decide (b3 = e3)) && decide (c2 = f3)) :=
  ⟨_, _, _, _, _, _, _, _, _, _, _, _, ⟨hf.lt hx hy, hg.lt hx hy, hf.lt (hg.lt hx hy) hz, hf.lt hy hz, hg.lt hy hz, hg.lt hx (hf.lt hy hz)⟩, ⟨rfl, rfl, rfl, rfl, rfl, rfl⟩, ⟨rfl, rfl, rfl, rfl, rfl, rfl⟩, rfl⟩

set_option maxHeartbeats 4000000 in
theorem equationFault_any (a : Option Addr) (n c : Nat) (a' : Option Addr) (c' : Nat) (f g : List (List Int)) (w : World) (h1 : Tbl w a n f) (h2 : Tbl w a' n g) (hn1 : 1 ≤ n) (hn : n ≤ 12) (hf : Sq n f) (hg : Sq n g) :
    Calls Try.prog 160 #[sAgg a n c a' n c'] w (FltR (eqOk n f g) w w) := by
  obtain ⟨bf, of, A, O, C, rfl, Gf⟩ := h1.grid hf hn1
  obtain ⟨bg, og, A', O', C', rfl, Gg⟩ := h2.grid hg hn1
  clear h1 h2
  go_enter Try.func160, Try.ntmps160
  have hA := Loc.new w rfl #[.slice (some ⟨bf, of, none⟩) n c, .slice (some ⟨bg, og, none⟩) n c'] 126
  have lA := hA.two
  have gf := Gf.alloc (.cells #[.slice (some ⟨bf, of, none⟩) n c, .slice (some ⟨bg, og, none⟩) n c'] 126)
  have gg := Gg.alloc (.cells #[.slice (some ⟨bf, of, none⟩) n c, .slice (some ⟨bg, og, none⟩) n c'] 126)
  have hB := below_al (Below.refl w.heap.size w) (.cells #[.slice (some ⟨bf, of, none⟩) n c, .slice (some ⟨bg, og, none⟩) n c'] 126)
  clear Gf Gg
  go_wp2
  generalize (w.alloc (.cells #[.slice (some ⟨bf, of, none⟩) n c, .slice (some ⟨bg, og, none⟩) n c'] 126)) = w0 at *
  go_loopw [17] (fun i wr => ∃ k : Nat, k ≤ n ∧ i = .int .i64 k ∧ Hid (allN k (fun x => allN n fun y => allN n fun z => eqAt f g x y z) = true) ∧ ∃ m, wr = w0.drewN m) (fun i _ => n - (intOf i).toNat)
  case atStart => exact ⟨0, Nat.zero_le _, rfl, Lib.hid rfl, 0, rfl⟩
  case round =>
    obtain ⟨x, hx, rfl, hx1, m1, rfl⟩ := hrel
    by_cases hlt : x < n
    · go_wp2
      go_loopw [21] (fun i wr => ∃ k : Nat, k ≤ n ∧ i = .int .i64 k ∧ Hid (allN k (fun y => allN n fun z => eqAt f g x y z) = true) ∧ ∃ m, wr = w0.drewN m) (fun i _ => n - (intOf i).toNat)
      case atStart => exact ⟨0, Nat.zero_le _, rfl, Lib.hid rfl, m1, rfl⟩
      case round =>
        obtain ⟨y, hy, rfl, hy1, m2, rfl⟩ := hrel
        by_cases hlty : y < n
        · go_wp2
          go_loopw [25] (fun i wr => ∃ k : Nat, k ≤ n ∧ i = .int .i64 k ∧ Hid (allN k (fun z => eqAt f g x y z) = true) ∧ ∃ m, wr = w0.drewN m) (fun i _ => n - (intOf i).toNat)
          case atStart => exact ⟨0, Nat.zero_le _, rfl, Lib.hid rfl, m2, rfl⟩
          case round =>
            obtain ⟨z, hz, rfl, hz1, m3, rfl⟩ := hrel
            by_cases hltz : z < n
            · obtain ⟨a1, b1, b2, c2, a3, b3, e1, f1, d2, e2, e3, f3, ⟨l1, l2, l3, l4, l5, l6⟩, ⟨q1, q2, q3, q4, q5, q6⟩, ⟨q7, q8, q9, q10, q11, q12⟩, hE⟩ := eq_reads n f g hf hg hlt hlty hltz
              obtain ⟨r1, k1⟩ := gf.look hlt hlty
              obtain ⟨r2, k2⟩ := gg.look hlt hlty
              obtain ⟨r3, k3⟩ := gf.look l2 hltz
              obtain ⟨r4, k4⟩ := gg.look l2 hltz
              obtain ⟨r5, k5⟩ := gf.look l1 l3
              obtain ⟨r6, k6⟩ := gg.look l1 l3
              obtain ⟨r7, k7⟩ := gf.look hlty hltz
              obtain ⟨r8, k8⟩ := gg.look hlty hltz
              have k9 := gf.cell _ _ hlt l4
              have k10 := gg.cell _ _ hlt l4
              obtain ⟨r11, k11⟩ := gf.look l6 l5
              obtain ⟨r12, k12⟩ := gg.look l6 l5
              rw [q1] at k1; rw [q2] at k2; rw [q3] at k3; rw [q4] at k4; rw [q5] at k5; rw [q6] at k6; rw [q7] at k7; rw [q8] at k8; rw [q9] at k9; rw [q10] at k10; rw [q11] at k11; rw [q12] at k12
              have HE := Lib.hid hE
              clear q1 q2 q3 q4 q5 q6 q7 q8 q9 q10 q11 q12 hE gf gg hf hg
              go_wp2
              go_quiet (fail)
              go_wp2
              go_quiet (fail)
              go_wp2
              go_quiet (fail)
              go_wp2
              go_quiet (fail)
              go_wp2
              go_quiet (fail)
              go_wp2
              go_quiet (fail)
              clear r1 r2 r3 r4 r5 r6 r7 r8 r11 r12 k1 k2 k3 k4 k5 k6 k7 k8 k9 k10 k11 k12
              by_cases p1 : a3 = d2
              · by_cases p2 : b3 = e3
                · by_cases p3 : c2 = f3
                  · have u1 : ((a3 : Int) != (d2 : Int)) = false := by simp [p1]
                    have u2 : ((b3 : Int) != (e3 : Int)) = false := by simp [p2]
                    have u3 : ((c2 : Int) != (f3 : Int)) = false := by simp [p3]
                    have HE2 : Hid (eqAt f g x y z = true) := Lib.hid (by rw [HE.out]; simp [p1, p2, p3])
                    clear p1 p2 p3
                    go_wp2
                    go_roundw
                    case rel => exact ⟨z + 1, by omega, by go_num, Lib.hid (allN_succ hz1.out HE2.out), _, rfl⟩
                    case measure => simp [intOf]; omega
                  · have u1 : ((a3 : Int) != (d2 : Int)) = false := by simp [p1]
                    have u2 : ((b3 : Int) != (e3 : Int)) = false := by simp [p2]
                    have u3 : ((c2 : Int) != (f3 : Int)) = true := by simp; omega
                    have HE2 : Hid (eqAt f g x y z = false) := Lib.hid (by rw [HE.out]; simp [p3])
                    clear p1 p2 p3
                    go_wp2
                    go_ret
                    exact ⟨.inr ⟨allN_no hlt (allN_no hlty (allN_no hltz HE2.out)), _, _, _, rfl⟩, below_al (below_drewN hB _) _⟩
                · have u1 : ((a3 : Int) != (d2 : Int)) = false := by simp [p1]
                  have u2 : ((b3 : Int) != (e3 : Int)) = true := by simp; omega
                  have HE2 : Hid (eqAt f g x y z = false) := Lib.hid (by rw [HE.out]; simp [p2])
                  clear p1 p2
                  go_wp2
                  go_ret
                  exact ⟨.inr ⟨allN_no hlt (allN_no hlty (allN_no hltz HE2.out)), _, _, _, rfl⟩, below_al (below_drewN hB _) _⟩
              · have u1 : ((a3 : Int) != (d2 : Int)) = true := by simp; omega
                have HE2 : Hid (eqAt f g x y z = false) := Lib.hid (by rw [HE.out]; simp [p1])
                clear p1
                go_wp2
                go_ret
                exact ⟨.inr ⟨allN_no hlt (allN_no hlty (allN_no hltz HE2.out)), _, _, _, rfl⟩, below_al (below_drewN hB _) _⟩
            · obtain rfl : z = n := by omega
              go_wp2
              go_roundw
              case rel => exact ⟨y + 1, by omega, by go_num, Lib.hid (allN_succ hy1.out hz1.out), _, rfl⟩
              case measure => simp [intOf]; omega
        · obtain rfl : y = n := by omega
          go_wp2
          go_roundw
          case rel => exact ⟨x + 1, by omega, by go_num, Lib.hid (allN_succ hx1.out hy1.out), _, rfl⟩
          case measure => simp [intOf]; omega
    · obtain rfl : x = n := by omega
      go_wp2
      go_ret
      exact ⟨.inl ⟨hx1.out, rfl⟩, below_drewN hB _⟩

end Go.Proofs.Ytehomfbehhlhmaa
