/-
  Walks and plain laws of this seat, some texts in one.
  No condition but bounds on lengths.
-/
import Derived.Test.YtpdgpgbgakinlaaGreatPa7
import Derived.Test.YtpdgpgbgakinlaaGreatPa30
import Derived.Test.YtpdgpgbgakinlaaGreatPa2
import Derived.Test.YtpdgpgbgakinlaaGreatPa3
import Derived.Test.YtpdgpgbgakinlaaGreatPa17
import Derived.Test.YtpdgpgbgakinlaaGreatPa26
namespace Go.Proofs.YtpdgpgbgakinlaaGreat
set_option maxRecDepth 100000
set_option linter.unusedVariables false
set_option linter.unusedSimpArgs false
open Go.RowKit
theorem below_undrew {w w' : World} {n : Nat} (h : Below (w.drewN n).heap.size (w.drewN n) w') : Below w.heap.size w w' := (below_drewN (Below.refl w.heap.size w) n).trans h
set_option maxHeartbeats 4000000 in
theorem l16Pair_any (a : Option Addr) (n c : Nat) (a' : Option Addr) (c' : Nat) (f g : List (List Int)) (u v : Nat) (w : World) (h1 : Tbl w a n f) (h2 : Tbl w a' n g) (hn1 : 1 ≤ n) (hn : n ≤ 12) (hf : Sq n f) (hg : Sq n g) (hc : collOk n f g = true) (hu : u < n) (hv : v < n) :
    Calls Tryz.prog 141 #[sAgg a n c a' n c', .int .i64 u, .int .i64 v] w fun e w' => e = .returned (.tuple #[.int .i64 ((tv (bfT n f g) u v : Nat) : Int), .int .i64 ((tv (bgT n f g) u v : Nat) : Int)]) ∧ Below w.heap.size w w' := by
  obtain ⟨bf, of, A, O, C, rfl, Gf⟩ := h1.grid hf hn1
  obtain ⟨bg, og, A', O', C', rfl, Gg⟩ := h2.grid hg hn1
  clear h1 h2
  have HEX : Hid (∃ x y, x < n ∧ y < n ∧ tv f x y = u ∧ tv g x y = v) := Lib.hid (pr_ex hn1 hf hg hc hu hv)
  have HBF : Hid (∀ x y, x < n → y < n → tv f x y = u → tv g x y = v → tv (bfT n f g) u v = x ∧ tv (bgT n f g) u v = y) := Lib.hid fun x y hx hy e1 e2 => ⟨bf_tv hn1 hc hx hy hu hv e1 e2, bg_tv hn1 hc hx hy hu hv e1 e2⟩
  clear hf hg hc
  go_enter Tryz.func141, Tryz.ntmps141
  have hA := Loc.new w rfl #[.slice (some ⟨bf, of, none⟩) n c, .slice (some ⟨bg, og, none⟩) n c'] 26
  have lA := hA.two
  have gf := Gf.alloc (.cells #[.slice (some ⟨bf, of, none⟩) n c, .slice (some ⟨bg, og, none⟩) n c'] 26)
  have gg := Gg.alloc (.cells #[.slice (some ⟨bf, of, none⟩) n c, .slice (some ⟨bg, og, none⟩) n c'] 26)
  have hB := below_al (Below.refl w.heap.size w) (.cells #[.slice (some ⟨bf, of, none⟩) n c, .slice (some ⟨bg, og, none⟩) n c'] 26)
  clear Gf Gg
  go_wp2
  generalize (w.alloc (.cells #[.slice (some ⟨bf, of, none⟩) n c, .slice (some ⟨bg, og, none⟩) n c'] 26)) = w0 at *
  go_loopw [8] (fun i wr => ∃ k : Nat, k ≤ n ∧ i = .int .i64 k ∧ Hid (∀ x y, x < k → y < n → ¬ (tv f x y = u ∧ tv g x y = v)) ∧ ∃ m, wr = w0.drewN m) (fun i _ => n - (intOf i).toNat)
  case atStart => exact ⟨0, Nat.zero_le _, rfl, Lib.hid fun x y hx => absurd hx (by omega), 0, rfl⟩
  case round =>
    obtain ⟨x, hx, rfl, hx1, m1, rfl⟩ := hrel
    by_cases hlt : x < n
    · go_wp2
      go_loopw [9] (fun i wr => ∃ k : Nat, k ≤ n ∧ i = .int .i64 k ∧ Hid (∀ y, y < k → ¬ (tv f x y = u ∧ tv g x y = v)) ∧ ∃ m, wr = w0.drewN m) (fun i _ => n - (intOf i).toNat)
      case atStart => exact ⟨0, Nat.zero_le _, rfl, Lib.hid fun y hy => absurd hy (by omega), m1, rfl⟩
      case round =>
        obtain ⟨y, hy, rfl, hy1, m2, rfl⟩ := hrel
        by_cases hlty : y < n
        · obtain ⟨r1, k1⟩ := gf.look hlt hlty
          obtain ⟨r2, k2⟩ := gg.look hlt hlty
          by_cases p1 : tv f x y = u
          · have u1 : ((tv f x y : Nat) : Int) = (u : Int) := by rw [p1]
            rw [u1] at k1
            by_cases p2 : tv g x y = v
            · have u2 : ((tv g x y : Nat) : Int) = (v : Int) := by rw [p2]
              rw [u2] at k2
              have b1 : ((u : Int) == (u : Int)) = true := by simp
              have b2 : ((v : Int) == (v : Int)) = true := by simp
              obtain ⟨e1, e2⟩ := HBF.out x y hlt hlty p1 p2
              have HE1 := Lib.hid e1; have HE2 := Lib.hid e2
              clear e1 e2 u1 u2 p1 p2
              go_wp2
              go_ret2
              exact ⟨by rw [HE1.out, HE2.out]; rfl, below_drewN hB _⟩
            · have b1 : ((u : Int) == (u : Int)) = true := by simp
              have b2 : (((tv g x y : Nat) : Int) == (v : Int)) = false := by simp; omega
              have HN : Hid (¬ (tv f x y = u ∧ tv g x y = v)) := Lib.hid fun h => p2 h.2
              generalize tv g x y = V at k2 b2
              clear p1 p2 u1
              go_wp2
              go_roundw
              case rel => exact ⟨y + 1, by omega, by go_num, Lib.hid fun z hz => by
                  by_cases e : z = y
                  · subst e; exact HN.out
                  · exact hy1.out z (by omega), _, rfl⟩
              case measure => simp [intOf]; omega
          · have b1 : (((tv f x y : Nat) : Int) == (u : Int)) = false := by simp; omega
            have HN : Hid (¬ (tv f x y = u ∧ tv g x y = v)) := Lib.hid fun h => p1 h.1
            generalize tv f x y = V at k1 b1
            clear p1
            go_wp2
            go_roundw
            case rel => exact ⟨y + 1, by omega, by go_num, Lib.hid fun z hz => by
                by_cases e : z = y
                · subst e; exact HN.out
                · exact hy1.out z (by omega), _, rfl⟩
            case measure => simp [intOf]; omega
        · obtain rfl : y = n := by omega
          go_wp2
          go_roundw
          case rel => exact ⟨x + 1, by omega, by go_num, Lib.hid fun z q hz hq => by
              by_cases e : z = x
              · subst e; exact hy1.out q hq
              · exact hx1.out z q (by omega) hq, _, rfl⟩
          case measure => simp [intOf]; omega
    · exfalso
      obtain ⟨x', y', h1, h2, h3, h4⟩ := HEX.out
      exact hx1.out x' y' (by omega) h2 ⟨h3, h4⟩
set_option maxHeartbeats 8000000 in
theorem l16Act_any (a : Option Addr) (n c : Nat) (a' : Option Addr) (c' : Nat) (f g : List (List Int)) (s : Nat) (ab : Option Addr) (nb cb : Nat) (xs : List Int) (al : Option Addr) (cl : Nat) (l : List Int) (w : World)
    (h1 : Tbl w a n f) (h2 : Tbl w a' n g) (hn1 : 1 ≤ n) (hn : n ≤ 12) (hf : Sq n f) (hg : Sq n g) (hc : collOk n f g = true)
    (hr : Row w ab nb xs) (hb : isBr s xs = true) (hl : Row w al s l) (hle : Less n l) :
    Calls Tryz.prog 97 #[sAgg a n c a' n c', bAgg s ab nb cb, .slice al s cl] w fun e w' => ∃ ao co, e = .returned (.slice ao s co) ∧ Own w' w.heap.size ao s co (actL n f g xs l) ∧ Below w.heap.size w w' := by
  obtain ⟨h26, h30, hlet⟩ := isBr_let hb
  have hll := hl.len
  have hrl := hr.len
  have hpl : ∀ x ∈ xs, 0 ≤ plc x ∧ plc x + 1 < s := fun x hx => by
    have := hlet x hx
    unfold plc; split <;> omega
  have hlt2 : ∀ k, Less n (actL n f g (xs.take k) l) := fun k => hle.act hn1 hf hg hc _ (fun x hx => by have := hpl x (List.mem_of_mem_take hx); omega)
  have hlen2 : ∀ k, (actL n f g (xs.take k) l).length = s := fun k => by rw [actL_len]; exact hll.symm
  have hn30 : nb ≤ 30 := by omega
  have hs2 : 2 ≤ s := by omega
  have hs6 : s ≤ 6 := by omega
  have HLet := Lib.hid hlet; have HP := Lib.hid hpl; have HLT := Lib.hid hlt2; have HLEN := Lib.hid hlen2; have HRL := Lib.hid hrl
  have HSF := Lib.hid hf; have HSG := Lib.hid hg; have HC := Lib.hid hc
  clear hlet hpl hlt2 hlen2 hb hf hg hc hrl hll h26
  have hA := (Loc.new w rfl #[.slice a n c, .slice a' n c'] 26).alloc (.cells #[.int .i64 s, .slice ab nb cb] 29)
  have hE := Loc.new (w.alloc (.cells #[.slice a n c, .slice a' n c'] 26)) rfl #[.int .i64 s, .slice ab nb cb] 29
  rw [size_alloc] at hE
  have hB := below_al (below_al (Below.refl w.heap.size w) (.cells #[.slice a n c, .slice a' n c'] 26)) (.cells #[.int .i64 s, .slice ab nb cb] 29)
  have hl0 := (hl.alloc (.cells #[.slice a n c, .slice a' n c'] 26)).alloc (.cells #[.int .i64 s, .slice ab nb cb] 29)
  go_enter Tryz.func97, Tryz.ntmps97
  go_wp2_with fail
  generalize (w.alloc (.cells #[.slice a n c, .slice a' n c'] 26)).alloc (.cells #[.int .i64 s, .slice ab nb cb] 29) = w0 at *
  refine (l01Own_any _ _ _ l _ hl0 (by omega)).mono ?_
  rintro e w1 ⟨ao, co, rfl, ho, hb1⟩
  have hA1 := hA.below hb1 hA.lt
  have hE1 := hE.below hb1 hE.lt
  have hB1 := below_th hB hb1
  have hsz := hE.lt
  have ho1 := ho.mono (lo' := w.heap.size + 2) (by omega)
  clear hA hE hB hb1 ho hl0 hl hsz
  go_wp2
  go_loopw [7, 8] (fun t i wr => ∃ (k : Nat) (ao : Option Addr) (co : Nat), k ≤ nb ∧ i = .int .i64 k ∧ t = .slice ao s co ∧ Own wr (w.heap.size + 2) ao s co (actL n f g (xs.take k) l) ∧ Loc wr w.heap.size #[.slice a n c, .slice a' n c'] 26 ∧ Loc wr (w.heap.size + 1) #[.int .i64 s, .slice ab nb cb] 29 ∧ Below w.heap.size w wr) (fun _ i _ => nb - (intOf i).toNat)
  case atStart => exact ⟨0, _, _, Nat.zero_le _, rfl, rfl, by simpa [actL] using ho1, hA1, hE1, hB1⟩
  case round =>
    clear ho1 hA1 hB1 hE1
    obtain ⟨k, ao, co, hk, rfl, rfl, ho, hA, hE, hB⟩ := hrel
    obtain ⟨W, rfl⟩ : ∃ W : World, W = wr := ⟨_, rfl⟩
    have lA := hA.two
    have lE := hE.two
    by_cases hlt : k < nb
    · have hr2 := hr.below hB
      obtain ⟨bb, off, rfl, g1⟩ := hr2.at k hlt
      have hx : k < xs.length := by have := HRL.out; omega
      rw [getD_eq_at hx] at g1
      have hle2 := HLet.out xs[k] (List.getElem_mem hx)
      have hpl2 := HP.out xs[k] (List.getElem_mem hx)
      have HS : Hid (actL n f g (xs.take (k + 1)) l = stepL n f g xs[k] (actL n f g (xs.take k) l)) := Lib.hid (actL_take n f g xs l k hx)
      have b1 : -1000 ≤ xs[k] := by omega
      have b2 : xs[k] ≤ 1000 := by omega
      have LT := HLT.out k
      have LEN := HLEN.out k
      obtain ⟨j, hj⟩ : ∃ j : Nat, plc xs[k] = j := ⟨(plc xs[k]).toNat, by omega⟩
      have hjs : j + 1 < s := by omega
      have hne0 : xs[k] ≠ 0 := hle2.1
      have HJ := Lib.hid hj
      clear hle2 hpl2
      generalize actL n f g (xs.take k) l = L at *
      generalize xs[k] = X at *
      have T1 := h1.below hB; have T2 := h2.below hB
      by_cases hpos : 0 < X
      · have HST : Hid (stepL n f g X L = doF f g j L) := Lib.hid (by unfold stepL; rw [if_pos hpos, hj]; rfl)
        clear hj
        go_wp2_with fail
        refine (l16Place_any _ _ b1 b2).mono ?_
        rintro e w2 ⟨rfl, rfl⟩
        rw [HJ.out]
        go_wp2_with fail
        refine (l06Move_any _ _ _ _ _ f g _ _ _ L j _ T1 T2 hn1 HSF.out HSG.out ho.row (by omega) hjs LT).mono ?_
        rintro e w2 ⟨ao2, co2, rfl, ho2, hb2⟩
        have hA2 := hA.below hb2 hA.lt
        have hE2 := hE.below hb2 hE.lt
        have hB2 := below_th hB hb2
        have hlo := hE.lt
        go_wp2
        go_roundw
        case rel => exact ⟨k + 1, _, _, by omega, by go_num, rfl, by rw [HS.out, HST.out]; exact ho2.mono (by omega), hA2, hE2, hB2⟩
        case measure => simp [intOf]; omega
      · obtain ⟨u, hu, eu⟩ := LT j (by omega)
        obtain ⟨v, hv, ev⟩ := LT (j + 1) (by omega)
        have HST : Hid (stepL n f g X L = (L.set j ((tv (bfT n f g) u v : Nat) : Int)).set (j + 1) ((tv (bgT n f g) u v : Nat) : Int)) := Lib.hid (by unfold stepL; rw [if_neg hpos, hj]; unfold doF; rw [Int.toNat_natCast, eu, ev]; simp)
        have HP0 := Lib.hid (l16Pair_any a n c a' c' f g u v)
        generalize tv (bfT n f g) u v = BX at *
        generalize tv (bgT n f g) u v = BY at *
        clear hj
        obtain ⟨go, oo, rfl, _⟩ := ho.row.at j (by omega)
        obtain ⟨rfl, hcs, hfs⟩ := ho.cells
        have hcj := hcs j (by omega)
        have hcj1 := hcs (j + 1) (by omega)
        rw [eu] at hcj; rw [ev] at hcj1
        have hgo := ho.lt
        have hwj : IntKind.i64.wrap ((j : Int) + 1) = ((j + 1 : Nat) : Int) := (IntWalk.i64_in _ (by omega)).trans (by simp)
        have hb0 : decide (0 < X) = false := by simpa using hpos
        have i1 : (0 : Int) ≤ (j : Int) := by omega
        have i2 : (j : Int) ≤ (s : Int) := by omega
        have i3 : (j : Int) < (s : Int) := by omega
        have i4 : ((j + 1 : Nat) : Int) < (s : Int) := by omega
        have i5 : (j : Int) + 1 < (s : Int) := by omega
        have i6 : (0 : Int) ≤ (j : Int) + 1 := by omega
        have i7 : (0 : Int) ≤ ((j + 1 : Nat) : Int) := by omega
        have i8 : ((j + 1 : Nat) : Int) ≤ (s : Int) := by omega
        clear hcs hfs eu ev
        go_wp2_with fail
        refine (l16Place_any _ _ b1 b2).mono ?_
        rintro e w2 ⟨rfl, rfl⟩
        rw [HJ.out]
        go_wp2
        go_region_held3 (fun w' => (w'.cell? ⟨w.heap.size, 0, none⟩ = some (.slice a n c) ∧ w'.cell? ⟨w.heap.size, 1, none⟩ = some (.slice a' n c')) ∧ w'.cell? ⟨go, j, none⟩ = some (.int .i64 u) ∧ w'.cell? ⟨go, j + 1, none⟩ = some (.int .i64 v))
          (first | exact ⟨⟨lA2.1, lA2.2.1⟩, hj2, hj3⟩ | exact ⟨⟨lA.1, lA.2.1⟩, hcj, hcj1⟩)
          (first
            | (go_at_call 141; refine (HP0.out _ (T1.drewN 1) (T2.drewN 1) hn1 hn HSF.out HSG.out HC.out hu hv).mono ?_; rintro e w2 ⟨rfl, hb2⟩; have hq2 := below_undrew hb2; have lA2 := (hA.below hq2 hA.lt).two; have hj2 := (hq2.cell (p := ⟨go, j, none⟩) hgo.2).trans hcj; have hj3 := (hq2.cell (p := ⟨go, j + 1, none⟩) hgo.2).trans hcj1))
        have ho2 := ho.below hq2
        obtain ⟨_, hcs, hfs⟩ := ho2.cells
        have hfj := hfs j
        have hfj1 := hfs (j + 1)
        clear hcs hfs lA hcj hcj1 g1
        have hne : (⟨go, j, none⟩ : Addr) ≠ ⟨go, j + 1, none⟩ := fun e => by simp at e
        go_wp2
        go_roundw
        case rel =>
          refine ⟨k + 1, _, _, by omega, by go_num, rfl, ?_, ?_, ?_, ?_⟩
          · rw [HS.out, HST.out]
            exact (ho2.set j _).set (j + 1) _
          · exact ((hA.below hq2 hA.lt).setne (a := ⟨go, j, none⟩) (by show w.heap.size ≠ go; omega) _).setne (a := ⟨go, j + 1, none⟩) (by show w.heap.size ≠ go; omega) _
          · exact ((hE.below hq2 hE.lt).setne (a := ⟨go, j, none⟩) (by show w.heap.size + 1 ≠ go; omega) _).setne (a := ⟨go, j + 1, none⟩) (by show w.heap.size + 1 ≠ go; omega) _
          · exact below_setne (below_setne (a := ⟨go, j, none⟩) (below_th hB hq2) (by show w.heap.size ≤ go; omega) _) (a := ⟨go, j + 1, none⟩) (by show w.heap.size ≤ go; omega) _
        case measure => simp [intOf]; omega
    · obtain rfl : k = nb := by omega
      rw [List.take_of_length_le (by have := HRL.out; omega)] at ho
      go_wp2
      go_ret
      exact ⟨_, _, rfl, ho.mono (by omega), hB⟩
end Go.Proofs.YtpdgpgbgakinlaaGreat

namespace Go.Proofs.YtpdgpgbgakinlaaGreat
set_option maxRecDepth 100000
set_option linter.unusedVariables false
set_option linter.unusedSimpArgs false
open Go.RowKit
theorem isBr_mk {s : Nat} {xs : List Int} (hs2 : 2 ≤ s) (hs6 : s ≤ 6) (h : IsWd s xs) : isBr s xs = true := by
  have e1 : wrap64 (1 - (s : Int)) = 1 - (s : Int) := IntWalk.wrap64_in _ ⟨by omega, by omega⟩
  have e2 : wrap64 ((s : Int) - 1) = (s : Int) - 1 := IntWalk.wrap64_in _ ⟨by omega, by omega⟩
  unfold isBr
  rw [Bool.and_eq_true, Bool.and_eq_true, Bool.and_eq_true]
  refine ⟨⟨⟨decide_eq_true (by omega), decide_eq_true (by omega)⟩, decide_eq_true h.1⟩, ?_⟩
  rw [List.all_eq_true]
  intro x hx
  have := h.2 x hx
  unfold isLet
  rw [e1, e2]
  simp
  omega
theorem Row.lit1 {w : World} {b off : Nat} {x : Int} (h : w.cell? ⟨b, off, none⟩ = some (.int .i64 x)) : Row w (some ⟨b, off, none⟩) 1 [x] := by
  refine ⟨rfl, fun i hi => ?_⟩
  obtain rfl : i = 0 := by omega
  exact ⟨b, off, rfl, World.block_lt_of_cell? w _ h, h⟩
theorem isBr_wd {s : Nat} {xs : List Int} (h : isBr s xs = true) : IsWd s xs := ⟨(isBr_let h).2.1, (isBr_let h).2.2⟩
theorem IsWd.one {s : Nat} {xs : List Int} (h : IsWd s xs) {x : Int} (hx : x ∈ xs) : IsWd s [x] := ⟨by simp, fun y hy => by rw [List.mem_singleton] at hy; subst hy; exact h.2 _ hx⟩
set_option maxHeartbeats 8000000 in
theorem l18Sum_any (a : Option Addr) (n c : Nat) (a' : Option Addr) (c' : Nat) (f g : List (List Int)) (m : Int) (am : Option Addr) (cm : Nat) (M : List (List Int)) (s : Nat) (ab : Option Addr) (nb cb : Nat) (xs : List Int) (al : Option Addr) (cl : Nat) (l : List Int) (w : World)
    (h1 : Tbl w a n f) (h2 : Tbl w a' n g) (hn1 : 1 ≤ n) (hn12 : n ≤ 12) (hf : Sq n f) (hg : Sq n g) (hc : collOk n f g = true)
    (hmm : 1 ≤ m ∧ m ≤ 12) (hM : SqM n m.toNat M) (h5 : Tbl w am n M) (hr : Row w ab nb xs) (hcap : nb ≤ cb) (hcb : cb ≤ 9223372036854775807) (hwd : IsWd s xs) (hs2 : 2 ≤ s) (hs6 : s ≤ 6) (hl : Row w al s l) (hle : Less n l) :
    Calls Tryz.prog 50 #[sAgg a n c a' n c', .int .i64 m, .slice am n cm, bAgg s ab nb cb, .slice al s cl] w fun e w' => e = .returned (.int .i64 (wtF n f g M m xs l)) ∧ Below w.heap.size w w' := by
  have hll := hl.len
  have hrl := hr.len
  have hn30 : nb ≤ 30 := by have := hwd.1; omega
  have hlt2 : ∀ k, Less n (actL n f g (xs.take k) l) := fun k => hle.act hn1 hf hg hc _ (fun x hx => by have := hwd.plc x (List.mem_of_mem_take hx); omega)
  have hlen2 : ∀ k, (actL n f g (xs.take k) l).length = s := fun k => by rw [actL_len]; exact hll.symm
  obtain ⟨hm1, hm2⟩ := hmm
  have HWD := Lib.hid hwd; have HLT := Lib.hid hlt2; have HLEN := Lib.hid hlen2; have HRL := Lib.hid hrl
  have HSF := Lib.hid hf; have HSG := Lib.hid hg; have HC := Lib.hid hc; have HM := Lib.hid hM
  obtain ⟨bM, oM, AM, OM, CM, rfl, gM⟩ := h5.gridM hM (by omega)
  clear hwd hlt2 hlen2 hf hg hc hM hrl hll h5
  have hA := (Loc.new w rfl #[.slice a n c, .slice a' n c'] 26).alloc (.cells #[.int .i64 s, .slice ab nb cb] 29)
  have hE := Loc.new (w.alloc (.cells #[.slice a n c, .slice a' n c'] 26)) rfl #[.int .i64 s, .slice ab nb cb] 29
  rw [size_alloc] at hE
  have hB := below_al (below_al (Below.refl w.heap.size w) (.cells #[.slice a n c, .slice a' n c'] 26)) (.cells #[.int .i64 s, .slice ab nb cb] 29)
  have hm0 : m ≠ 0 := by omega
  go_enter Tryz.func50, Tryz.ntmps50
  go_wp2
  generalize (w.alloc (.cells #[.slice a n c, .slice a' n c'] 26)).alloc (.cells #[.int .i64 s, .slice ab nb cb] 29) = w0 at *
  go_loopw [4, 11, 12] (fun t z i wr => ∃ (k : Nat) (ao : Option Addr) (co : Nat) (S : Int), k ≤ nb ∧ i = .int .i64 k ∧ t = .slice ao s co ∧ z = .int .i64 S ∧ Hid (S = wtS n f g M m (xs.take k) l % m) ∧ (0 ≤ S ∧ S < m) ∧ Row wr ao s (actL n f g (xs.take k) l) ∧ Loc wr w.heap.size #[.slice a n c, .slice a' n c'] 26 ∧ Loc wr (w.heap.size + 1) #[.int .i64 s, .slice ab nb cb] 29 ∧ Below w.heap.size w wr) (fun _ _ i _ => nb - (intOf i).toNat)
  case atStart => exact ⟨0, _, _, 0, Nat.zero_le _, rfl, rfl, rfl, Lib.hid (by simp [wtS]), by omega, by simpa [actL] using hl.below hB, hA, hE, hB⟩
  case round =>
    clear hA hB hE hl
    obtain ⟨k, ao, co, S, hk, rfl, rfl, rfl, hS, hSb, ho, hA, hE, hB⟩ := hrel
    obtain ⟨W, rfl⟩ : ∃ W : World, W = wr := ⟨_, rfl⟩
    obtain ⟨hS0, hS1⟩ := hSb
    have lA := hA.two
    have lE := hE.two
    by_cases hlt : k < nb
    · have hr2 := hr.below hB
      obtain ⟨bb, off, rfl, g1⟩ := hr2.at k hlt
      have hx : k < xs.length := by have := HRL.out; omega
      rw [getD_eq_at hx] at g1
      have hmem : xs[k] ∈ xs := List.getElem_mem hx
      have hle2 := HWD.out.2 xs[k] hmem
      have hpl2 := HWD.out.plc xs[k] hmem
      have HBR : Hid (isBr s [xs[k]] = true) := Lib.hid (isBr_mk hs2 hs6 (HWD.out.one hmem))
      have hst := actL_take n f g xs l k hx
      have hwt := wtS_take n f g M m xs l k hx
      have LT := HLT.out k
      have LT2 := HLT.out (k + 1)
      have LEN := HLEN.out k
      have LEN2 := HLEN.out (k + 1)
      obtain ⟨j, hj⟩ : ∃ j : Nat, plc xs[k] = j := ⟨(plc xs[k]).toNat, by omega⟩
      have hjs : j + 1 < s := by omega
      have hne0 : xs[k] ≠ 0 := hle2.1
      have hbd := wtT_bd HM.out ⟨hm1, hm2⟩ (x := xs[k]) LT LT2 (by omega) (by omega)
      have hsplit : (xs[k] = ((j + 1 : Nat) : Int)) ∨ (xs[k] = -((j + 1 : Nat) : Int)) := by
        unfold plc at hj; split at hj <;> omega
      have HS2 : Hid (wtS n f g M m (xs.take (k + 1)) l % m = (S + wtT M m xs[k] (actL n f g (xs.take k) l) (actL n f g (xs.take (k + 1)) l)) % m) := Lib.hid (by rw [hwt, hS.out, Int.emod_add_emod])
      have T1 := h1.below hB; have T2 := h2.below hB
      rw [hst] at LT2 LEN2 hbd HS2
      have HST := Lib.hid hst
      have H1 : Hid (actL n f g [xs[k]] (actL n f g (xs.take k) l) = stepL n f g xs[k] (actL n f g (xs.take k) l)) := Lib.hid rfl
      have hrow1 := Row.lit1 g1
      clear hle2 hst hwt hmem
      generalize actL n f g (xs.take k) l = L at *
      generalize xs[k] = X at *
      have i1 : (0 : Int) ≤ (k : Int) := by omega
      have i2 : (k : Int) ≤ (nb : Int) := by omega
      have i3 : (k : Int) < (nb : Int) := by omega
      have i4 : ((k + 1 : Nat) : Int) ≤ (cb : Int) := by omega
      have i5 : (k : Int) + 1 ≤ (cb : Int) := by omega
      have hwk : IntKind.i64.wrap ((k : Int) + 1) = ((k + 1 : Nat) : Int) := (IntWalk.i64_in _ (by omega)).trans (by simp)
      have i6 : (0 : Int) ≤ (k : Int) + 1 := by omega
      have i7 : ¬ cb = k := by omega
      have lEa := (hE.alloc (.cells #[.int .i64 0, .slice none 0 0] 29)).two
      go_wp2
      go_region
      all_goals clear lEa
      all_goals go_wp2
      have hO := (Loc.new W rfl #[.int .i64 s, .slice (some ⟨bb, off + k, none⟩) 1 (cb - k)] 29).drew
      have hQ : Below W.heap.size W (W.alloc (.cells #[.int .i64 s, .slice (some ⟨bb, off + k, none⟩) 1 (cb - k)] 29)).drew := (below_al (Below.refl _ _) _).drew
      generalize (W.alloc (.cells #[.int .i64 s, .slice (some ⟨bb, off + k, none⟩) 1 (cb - k)] 29)).drew = w2 at *
      have hA2 := hA.below hQ hA.lt
      have hE2 := hE.below hQ hE.lt
      have hr3 := hrow1.below hQ
      have ho2 := ho.below hQ
      have g2 := (hQ.cell (p := ⟨bb, off + k, none⟩) (World.block_lt_of_cell? W _ g1)).trans g1
      have hbb : bb < w2.heap.size := World.block_lt_of_cell? w2 _ g2
      have hB2 := below_th hB hQ
      have lA2 := hA2.two
      have lE2 := hE2.two
      have lO2 := hO.two
      clear lA lE g1 hr2
      go_region_held3 (fun w' => ((w'.cell? ⟨w.heap.size, 0, none⟩ = some (.slice a n c) ∧ w'.cell? ⟨w.heap.size, 1, none⟩ = some (.slice a' n c')) ∧ (w'.cell? ⟨W.heap.size, 0, none⟩ = some (.int .i64 s) ∧ w'.cell? ⟨W.heap.size, 1, none⟩ = some (.slice (some ⟨bb, off + k, none⟩) 1 (cb - k)))) ∧ w'.cell? ⟨w.heap.size + 1, 1, none⟩ = some (.slice (some ⟨bb, off, none⟩) nb cb) ∧ w'.cell? ⟨bb, off + k, none⟩ = some (.int .i64 X))
        (first | exact ⟨⟨⟨lA3.1, lA3.2.1⟩, lO3.1, lO3.2.1⟩, lE3.2.1, g3⟩ | exact ⟨⟨⟨lA2.1, lA2.2.1⟩, lO2.1, lO2.2.1⟩, lE2.2.1, g2⟩)
        (first
          | (go_at_call 97; refine (l16Act_any _ _ _ _ _ f g s _ _ _ [X] _ _ L _ ((T1.below hQ).drewN 1) ((T2.below hQ).drewN 1) hn1 hn12 HSF.out HSG.out HC.out (hr3.drewN 1) HBR.out (ho2.drewN 1) LT).mono ?_; rintro e w3 ⟨ao3, co3, rfl, ho3, hb3⟩; have hq3 := below_undrew hb3; have lA3 := (hA2.below hq3 hA2.lt).two; have lE3 := (hE2.below hq3 hE2.lt).two; have lO3 := (hO.below hq3 hO.lt).two; have g3 := (hq3.cell (p := ⟨bb, off + k, none⟩) hbb).trans g2))
      rw [H1.out] at ho3
      have hA3 := hA2.below hq3 hA2.lt
      have hE3 := hE2.below hq3 hE2.lt
      have hor := ho2.below hq3
      have hB3 := below_th hB2 hq3
      have gM3 := gM.below hB3
      clear lA2 lA3 lE2 lE3 lO2 lO3 g2 g3
      have i8 : (0 : Int) ≤ (j : Int) := by omega
      have i9 : (j : Int) ≤ (s : Int) := by omega
      have i10 : (j : Int) < (s : Int) := by omega
      have i11 : ((j + 1 : Nat) : Int) < (s : Int) := by omega
      have i12 : (j : Int) + 1 < (s : Int) := by omega
      have i13 : (0 : Int) ≤ (j : Int) + 1 := by omega
      rcases hsplit with hX | hX
      · have hpos : 0 < X := by omega
        obtain ⟨u, hu, eu⟩ := LT j (by omega)
        obtain ⟨v, hv, ev⟩ := LT (j + 1) (by omega)
        obtain ⟨bt, ot, e1, kx⟩ := hor.at j (by omega)
        obtain ⟨bt', ot', e2, ky⟩ := hor.at (j + 1) (by omega)
        rw [e1] at e2; cases e2; subst e1
        rw [eu] at kx; rw [ev] at ky
        obtain ⟨rM, kM⟩ := gM3.look hu hv
        have hval : wtT M m X L (stepL n f g X L) = ((tv M u v : Nat) : Int) := by unfold wtT; rw [if_pos hpos, hj, Int.toNat_natCast, eu, ev]; simp
        rw [hval] at HS2 hbd
        generalize tv M u v = T at *
        subst hX
        have hwx : IntKind.i64.wrap (((j + 1 : Nat) : Int) - 1) = (j : Int) := (IntWalk.i64_in _ (by omega)).trans (by simp)
        have hsum : IntKind.i64.wrap (S + (T : Int)) = S + (T : Int) := IntWalk.i64_in _ (by omega)
        have hrem : (S + (T : Int)).tmod m = (S + (T : Int)) % m := IntWalk.rem_in _ _ (by omega)
        have v0 : 0 ≤ (S + (T : Int)) % m := Int.emod_nonneg _ (by omega)
        have v1 : (S + (T : Int)) % m < m := Int.emod_lt_of_pos _ (by omega)
        generalize (S + (T : Int)) % m = V at *
        have hwV : IntKind.i64.wrap V = V := IntWalk.i64_in _ (by omega)
        have hb0 : decide (0 < ((j + 1 : Nat) : Int)) = true := decide_eq_true (by omega)
        clear hval eu ev hj
        go_wp2
        go_quiet (fail)
        go_wp2
        go_roundw
        case rel => exact ⟨k + 1, _, _, _, by omega, by go_num, rfl, rfl, Lib.hid HS2.out.symm, by omega, by rw [HST.out]; exact ho3.row.drewN _, hA3.drewN _, hE3.drewN _, below_drewN hB3 _⟩
        case measure => simp [intOf]; omega
      · have hneg : ¬ 0 < X := by omega
        obtain ⟨u, hu, eu⟩ := LT2 j (by omega)
        obtain ⟨v, hv, ev⟩ := LT2 (j + 1) (by omega)
        obtain ⟨bt, ot, e1, kx⟩ := ho3.row.at j (by omega)
        obtain ⟨bt', ot', e2, ky⟩ := ho3.row.at (j + 1) (by omega)
        rw [e1] at e2; cases e2; subst e1
        rw [eu] at kx; rw [ev] at ky
        obtain ⟨rM, kM⟩ := gM3.look hu hv
        have hval : wtT M m X L (stepL n f g X L) = m - ((tv M u v : Nat) : Int) := by unfold wtT; rw [if_neg hneg, hj, Int.toNat_natCast, eu, ev]; simp
        rw [hval] at HS2 hbd
        generalize tv M u v = T at *
        have hwn : IntKind.i64.wrap (-X) = ((j + 1 : Nat) : Int) := (IntWalk.i64_in _ (by omega)).trans (by omega)
        have hwx : IntKind.i64.wrap (((j + 1 : Nat) : Int) - 1) = (j : Int) := (IntWalk.i64_in _ (by omega)).trans (by simp)
        have hs1 : IntKind.i64.wrap (S + m) = S + m := IntWalk.i64_in _ (by omega)
        have hsum : IntKind.i64.wrap (S + m - (T : Int)) = S + m - (T : Int) := IntWalk.i64_in _ (by omega)
        have hrem : (S + m - (T : Int)).tmod m = (S + m - (T : Int)) % m := IntWalk.rem_in _ _ (by omega)
        have v0 : 0 ≤ (S + m - (T : Int)) % m := Int.emod_nonneg _ (by omega)
        have v1 : (S + m - (T : Int)) % m < m := Int.emod_lt_of_pos _ (by omega)
        have HE : Hid ((S + (m - (T : Int))) % m = (S + m - (T : Int)) % m) := Lib.hid (by congr 1; omega)
        generalize (S + m - (T : Int)) % m = V at *
        have hwV : IntKind.i64.wrap V = V := IntWalk.i64_in _ (by omega)
        have hb0 : decide (0 < X) = false := by simpa using hneg
        clear hval eu ev hj hX
        go_wp2
        go_quiet (fail)
        go_wp2
        go_roundw
        case rel => exact ⟨k + 1, _, _, _, by omega, by go_num, rfl, rfl, Lib.hid (HS2.out.trans HE.out).symm, by omega, by rw [HST.out]; exact ho3.row.drewN _, hA3.drewN _, hE3.drewN _, below_drewN hB3 _⟩
        case measure => simp [intOf]; omega
    · obtain rfl : k = nb := by omega
      have e1 := hS.out
      rw [List.take_of_length_le (by have := HRL.out; omega)] at e1
      have HV : Hid (wtF n f g M m xs l = S) := Lib.hid e1.symm
      clear e1
      go_wp2
      go_ret
      exact ⟨ret_int HV.out.symm, hB⟩
end Go.Proofs.YtpdgpgbgakinlaaGreat
