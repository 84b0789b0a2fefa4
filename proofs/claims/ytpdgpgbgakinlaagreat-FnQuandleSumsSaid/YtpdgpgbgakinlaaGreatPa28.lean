/-
  Walks and plain laws of this seat, some texts in one.
  No condition but bounds on lengths.
-/
import Derived.Test.YtpdgpgbgakinlaaGreatPa17
import Derived.Test.YtpdgpgbgakinlaaGreatPa27
import Derived.Test.YtpdgpgbgakinlaaGreatPa5
import Derived.Test.YtpdgpgbgakinlaaGreatPa3
import Derived.Test.YtpdgpgbgakinlaaGreatPa2
import Derived.Deep.RegionLaw
import Derived.Deep.RegionHeld3
import Derived.Test.YtpdgpgbgakinlaaGreatPa9
import Derived.StillTailTactics
import Derived.Test.YtpdgpgbgakinlaaGreatPa15
import Derived.Test.YtpdgpgbgakinlaaGreatPa1
import Derived.Test.YtpdgpgbgakinlaaGreatPa16
import Derived.Test.YtpdgpgbgakinlaaGreatPa4
namespace Go.Proofs.YtpdgpgbgakinlaaGreat
set_option maxRecDepth 100000
set_option linter.unusedVariables false
set_option linter.unusedSimpArgs false
open Go.RowKit
theorem tabF_take_succ' (n : Nat) (v : Nat → Nat → Int) (k : Nat) (hk : k < n) : (tabF n v).take (k + 1) = (tabF n v).take k ++ [(List.range n).map fun y => v k y] := by
  have := tabP_next n v k hk []
  rw [List.append_nil] at this
  exact this.symm
theorem rowF_take_succ' (n : Nat) (f : Nat → Int) (j : Nat) (h : j < n) : ((List.range n).map f).take (j + 1) = ((List.range n).map f).take j ++ [f j] := by
  have hx : j < ((List.range n).map f).length := by simpa using h
  rw [List.take_succ_eq_append_getElem hx]; simp
def bndE (m : Int) (f g : List (List Int)) (gs : List Int) (x y : Nat) : Int := (gs.getD (tv f x y) 0 + gs.getD (tv g x y) 0 - gs.getD x 0 - gs.getD y 0 + 2 * m) % m
def bndL (n : Nat) (m : Int) (f g : List (List Int)) (gs : List Int) : List (List Int) := tabF n (bndE m f g gs)
theorem rowOk_val {n m : Int} {gs : List Int} (h : rowOk n m gs = true) (i : Nat) (hi : (i : Int) < n) : 0 ≤ gs.getD i 0 ∧ gs.getD i 0 < m := by
  obtain ⟨h1, h2⟩ := rowOk_get h
  exact h2 i (by omega)
set_option maxHeartbeats 4000000 in
theorem bound1_any (m : Int) (b1 b2 b3 : Nat) (t1 t2 t3 : TypeId) (bf of bg og : Nat) (A O C A' O' C' : Nat → Nat) (n c c' : Nat) (f g : List (List Int)) (al : Option Addr) (cl : Nat) (gs : List Int) (x y : Nat) (w : World)
    (hL1 : Loc w b1 #[.slice al n cl] t1) (hL2 : Loc w b2 #[.slice (some ⟨bf, of, none⟩) n c, .slice (some ⟨bg, og, none⟩) n c'] t2) (hL3 : Loc w b3 #[.int .i64 m] t3)
    (gf : Grid w bf of A O C n f) (gg : Grid w bg og A' O' C' n g) (hf : Sq n f) (hg : Sq n g) (hr : Row w al n gs) (hm1 : 1 ≤ m) (hm2 : m ≤ 12) (hk : rowOk n m gs = true) (hx : x < n) (hy : y < n) :
    Calls Tryz.prog 70 #[.int .i64 x, .int .i64 y, .pointer (some ⟨b1, 0, none⟩), .pointer (some ⟨b2, 0, none⟩), .pointer (some ⟨b3, 0, none⟩)] w fun e w' => e = .returned (.int .i64 (bndE m f g gs x y)) ∧ ∃ k, w' = w.drewN k := by
  have l1 := hL1.one
  have l2 := hL2.two
  have l3 := hL3.one
  obtain ⟨bl, ol, rfl, _, hall⟩ := hr.all (by omega)
  obtain ⟨r1, k1⟩ := gf.look hx hy
  obtain ⟨r2, k2⟩ := gg.look hx hy
  have hu := hf.lt hx hy
  have hv := hg.lt hx hy
  have vA := rowOk_val hk (tv f x y) (by omega)
  have vB := rowOk_val hk (tv g x y) (by omega)
  have vX := rowOk_val hk x (by omega)
  have vY := rowOk_val hk y (by omega)
  have gA := hall _ hu
  have gB := hall _ hv
  have gX := hall _ hx
  have gY := hall _ hy
  have HE : Hid (bndE m f g gs x y = (gs.getD (tv f x y) 0 + gs.getD (tv g x y) 0 - gs.getD x 0 - gs.getD y 0 + 2 * m) % m) := Lib.hid rfl
  clear hall hr hL1 hL2 hL3 hk hf hg gf gg
  generalize tv f x y = u at *
  generalize tv g x y = v at *
  generalize gs.getD u 0 = P at *
  generalize gs.getD v 0 = Q at *
  generalize gs.getD x 0 = R at *
  generalize gs.getD y 0 = S at *
  have w1 : IntKind.i64.wrap (P + Q) = P + Q := IntWalk.i64_in _ (by omega)
  have w2 : IntKind.i64.wrap (P + Q - R) = P + Q - R := IntWalk.i64_in _ (by omega)
  have w3 : IntKind.i64.wrap (P + Q - R - S) = P + Q - R - S := IntWalk.i64_in _ (by omega)
  have w4 : IntKind.i64.wrap (2 * m) = 2 * m := IntWalk.i64_in _ (by omega)
  have w5 : IntKind.i64.wrap (P + Q - R - S + 2 * m) = P + Q - R - S + 2 * m := IntWalk.i64_in _ (by omega)
  have w6 : (P + Q - R - S + 2 * m).tmod m = (P + Q - R - S + 2 * m) % m := IntWalk.rem_in _ _ (by omega)
  have hm0 : m ≠ 0 := by omega
  go_enter Tryz.func70, Tryz.ntmps70
  go_wp2
  go_quiet (fail)
  go_wp2
  go_ret
  exact ⟨ret_int (by rw [HE.out]; simp), _, rfl⟩
theorem ent_bound1 : Ent 70 := fun _ _ => rfl
set_option maxHeartbeats 4000000 in
theorem l18Bound_any (m : Int) (a : Option Addr) (n c : Nat) (a' : Option Addr) (c' : Nat) (f g : List (List Int)) (al : Option Addr) (cl : Nat) (gs : List Int) (w : World) (h1 : Tbl w a n f) (h2 : Tbl w a' n g) (hn1 : 1 ≤ n) (hn : n ≤ 12) (hf : Sq n f) (hg : Sq n g) (hr : Row w al n gs) (hm1 : 1 ≤ m) (hm2 : m ≤ 12) (hk : rowOk n m gs = true) :
    Calls Tryz.prog 125 #[sAgg a n c a' n c', .int .i64 m, .slice al n cl] w fun e w' => ∃ a c vs, e = .returned (.slice a n c) ∧ OwnT w' w.heap.size a n c vs (bndL n m f g gs) ∧ Below w.heap.size w w' := by
  obtain ⟨bf, of, A, O, C, rfl, Gf⟩ := h1.grid hf hn1
  obtain ⟨bg, og, A', O', C', rfl, Gg⟩ := h2.grid hg hn1
  obtain ⟨bl, ol, rfl, hbl, hall⟩ := hr.all hn1
  have hA := Loc.new w rfl #[.slice (some ⟨bf, of, none⟩) n c, .slice (some ⟨bg, og, none⟩) n c'] 26
  have gf := Gf.alloc (.cells #[.slice (some ⟨bf, of, none⟩) n c, .slice (some ⟨bg, og, none⟩) n c'] 26)
  have gg := Gg.alloc (.cells #[.slice (some ⟨bf, of, none⟩) n c, .slice (some ⟨bg, og, none⟩) n c'] 26)
  have HSF := Lib.hid hf; have HSG := Lib.hid hg; have HK := Lib.hid hk; have HALL := Lib.hid hall
  have lA := hA.two
  clear h1 h2 hr hf hg hk hall Gf Gg
  go_enter Tryz.func125, Tryz.ntmps125
  go_wp2
  have hB0 := below_al (Below.refl w.heap.size w) (.cells #[.slice (some ⟨bf, of, none⟩) n c, .slice (some ⟨bg, og, none⟩) n c'] 26)
  have hbl0 : bl < (w.alloc (.cells #[.slice (some ⟨bf, of, none⟩) n c, .slice (some ⟨bg, og, none⟩) n c'] 26)).heap.size := Nat.lt_of_lt_of_le hbl (size_le_alloc _ _)
  have HALL0 : Hid (∀ i, i < n → (w.alloc (.cells #[.slice (some ⟨bf, of, none⟩) n c, .slice (some ⟨bg, og, none⟩) n c'] 26)).cell? ⟨bl, ol + i, none⟩ = some (.int .i64 (gs.getD i 0))) := Lib.hid fun i hi => (((Below.refl w.heap.size w).alloc (Nat.le_refl _) _).cell (p := ⟨bl, ol + i, none⟩) hbl).trans (HALL.out i hi)
  clear HALL hbl
  have hsz : w.heap.size < (w.alloc (.cells #[.slice (some ⟨bf, of, none⟩) n c, .slice (some ⟨bg, og, none⟩) n c'] 26)).heap.size := hA.lt
  generalize hw0 : w.alloc (.cells #[.slice (some ⟨bf, of, none⟩) n c, .slice (some ⟨bg, og, none⟩) n c'] 26) = w0 at *
  have hsz0 : w.heap.size + 1 = w0.heap.size := by rw [← hw0]; simp
  clear hw0
  have ho := OwnT.fresh w0 hsz0
  have HSZ := Lib.hid hsz0; clear hsz0
  have hb := below_al (Below.refl w0.heap.size w0) (.cells #[] 27)
  clear lA
  go_loopw [7, 8] (fun z i wr => ∃ (k : Nat) (a' : Option Addr) (c' : Nat) (vs : List SV), k ≤ n ∧ i = .int .i64 k ∧ z = .slice a' k c' ∧ OwnT wr w0.heap.size a' k c' vs ((bndL n m f g gs).take k) ∧ Below w0.heap.size w0 wr) (fun _ i _ => n - (intOf i).toNat)
  case atStart => exact ⟨0, _, _, _, Nat.zero_le _, rfl, rfl, by simpa using ho, hb⟩
  case round =>
    clear ho hb
    obtain ⟨x, za, zc, vs, hk, rfl, rfl, ho, hb⟩ := hrel
    have lA := (hA.below hb hA.lt).two
    by_cases hlt : x < n
    · go_wp2
      have hrow := Own.fresh wr rfl
      have hbr := below_al (Below.refl wr.heap.size wr) (.cells #[] 2)
      clear lA
      go_loopw [9, 10] (fun z i w4 => ∃ (j : Nat) (a2 : Option Addr) (c2 : Nat), j ≤ n ∧ i = .int .i64 j ∧ z = .slice a2 j c2 ∧ Own w4 wr.heap.size a2 j c2 (((List.range n).map fun y => bndE m f g gs x y).take j) ∧ Below wr.heap.size wr w4 ∧ wr.heap.size < w4.heap.size) (fun _ i _ => n - (intOf i).toNat)
      case atStart => exact ⟨0, _, _, Nat.zero_le _, rfl, rfl, by simpa using hrow, hbr, by simp⟩
      case round =>
        clear hrow hbr
        obtain ⟨y, a2', c2', hj, rfl, rfl, hor, hbr, hsz4⟩ := hrel
        have hB4 := below_th hb hbr
        have lA := (hA.below hB4 hA.lt).two
        by_cases hjt : y < n
        · obtain ⟨r1, k1⟩ := (gf.below hB4).look hlt hjt
          obtain ⟨r2, k2⟩ := (gg.below hB4).look hlt hjt
          have hu := HSF.out.lt hlt hjt
          have hv := HSG.out.lt hlt hjt
          have vA := rowOk_val HK.out (tv f x y) (by omega)
          have vB := rowOk_val HK.out (tv g x y) (by omega)
          have vX := rowOk_val HK.out x (by omega)
          have vY := rowOk_val HK.out y (by omega)
          have gA := (hB4.cell (p := ⟨bl, ol + tv f x y, none⟩) hbl0).trans (HALL0.out _ hu)
          have gB := (hB4.cell (p := ⟨bl, ol + tv g x y, none⟩) hbl0).trans (HALL0.out _ hv)
          have gX := (hB4.cell (p := ⟨bl, ol + x, none⟩) hbl0).trans (HALL0.out _ hlt)
          have gY := (hB4.cell (p := ⟨bl, ol + y, none⟩) hbl0).trans (HALL0.out _ hjt)
          have e1 : bndE m f g gs x y = (gs.getD (tv f x y) 0 + gs.getD (tv g x y) 0 + 2 * m - gs.getD x 0 - gs.getD y 0) % m := by
            unfold bndE; congr 1; omega
          have HE := Lib.hid e1
          have b1 := gf.lt; have b2 := gf.rlt x hlt; have b3 := gg.lt; have b4 := gg.rlt x hlt
          clear e1
          generalize tv f x y = u at *
          generalize tv g x y = v at *
          generalize gs.getD u 0 = P at *
          generalize gs.getD v 0 = Q at *
          generalize gs.getD x 0 = R at *
          generalize gs.getD y 0 = S at *
          have q1 : IntKind.i64.wrap (P + Q) = P + Q := IntWalk.i64_in _ (by omega)
          have q4 : IntKind.i64.wrap (2 * m) = 2 * m := IntWalk.i64_in _ (by omega)
          have q5 : IntKind.i64.wrap (P + Q + 2 * m) = P + Q + 2 * m := IntWalk.i64_in _ (by omega)
          have q2 : IntKind.i64.wrap (P + Q + 2 * m - R) = P + Q + 2 * m - R := IntWalk.i64_in _ (by omega)
          have q3 : IntKind.i64.wrap (P + Q + 2 * m - R - S) = P + Q + 2 * m - R - S := IntWalk.i64_in _ (by omega)
          have q6 : (P + Q + 2 * m - R - S).tmod m = (P + Q + 2 * m - R - S) % m := IntWalk.rem_in _ _ (by omega)
          have v0 : 0 ≤ (P + Q + 2 * m - R - S) % m := Int.emod_nonneg _ (by omega)
          have v1 : (P + Q + 2 * m - R - S) % m < m := Int.emod_lt_of_pos _ (by omega)
          generalize (P + Q + 2 * m - R - S) % m = V at *
          have q7 : IntKind.i64.wrap V = V := IntWalk.i64_in _ (by omega)
          have hm0 : m ≠ 0 := by omega
          have hwr := hb.size
          go_wp2
          go_region_held3 (fun w' => (w'.cell? ⟨w.heap.size, 0, none⟩ = some (.slice (some ⟨bf, of, none⟩) n c) ∧ w'.cell? ⟨w.heap.size, 1, none⟩ = some (.slice (some ⟨bg, og, none⟩) n c')) ∧ w'.cell? ⟨bf, of + x, none⟩ = some (.slice (some ⟨A x, O x, none⟩) n (C x)) ∧ w'.cell? ⟨A x, O x + y, none⟩ = some (.int .i64 ((u : Nat) : Int)) ∧ w'.cell? ⟨bg, og + x, none⟩ = some (.slice (some ⟨A' x, O' x, none⟩) n (C' x)) ∧ w'.cell? ⟨A' x, O' x + y, none⟩ = some (.int .i64 ((v : Nat) : Int)) ∧ w'.cell? ⟨bl, ol + u, none⟩ = some (.int .i64 P) ∧ w'.cell? ⟨bl, ol + v, none⟩ = some (.int .i64 Q) ∧ w'.cell? ⟨bl, ol + x, none⟩ = some (.int .i64 R) ∧ w'.cell? ⟨bl, ol + y, none⟩ = some (.int .i64 S))
            (first | exact ⟨⟨lA.1, lA.2.1⟩, r1, k1, r2, k2, gA, gB, gX, gY⟩ | exact ⟨⟨lB.1, lB.2.1⟩, hK1, hK2, hK3, hK4, hK5, hK6, hK7, hK8⟩ | go_keep)
            (first
            | (refine step_app1 rfl rfl hor rfl rfl ?_ ?_ ?_; (omega); (omega); intro g' cc w5 hO hg5 hs5 hb5; have hR := hb5.mono hwr; have lB := (hA.below (below_th hb (hbr.trans hb5)) hA.lt).two; have hK1 := (hR.cell (p := ⟨bf, of + x, none⟩) b1).trans r1; have hK2 := (hR.cell (p := ⟨A x, O x + y, none⟩) b2).trans k1; have hK3 := (hR.cell (p := ⟨bg, og + x, none⟩) b3).trans r2; have hK4 := (hR.cell (p := ⟨A' x, O' x + y, none⟩) b4).trans k2; have hK5 := (hR.cell (p := ⟨bl, ol + u, none⟩) hbl0).trans gA; have hK6 := (hR.cell (p := ⟨bl, ol + v, none⟩) hbl0).trans gB; have hK7 := (hR.cell (p := ⟨bl, ol + x, none⟩) hbl0).trans gX; have hK8 := (hR.cell (p := ⟨bl, ol + y, none⟩) hbl0).trans gY))
          all_goals
            go_wp2
            go_roundw
            case rel =>
              refine ⟨y + 1, _, _, by omega, by go_num, rfl, ?_, hbr.trans hb5, by omega⟩
              rw [rowF_take_succ' n _ y hjt, HE.out]
              exact hO
            case measure => simp [intOf]; omega
        · obtain rfl : y = n := by omega
          have e1 : ((List.range y).map fun z => bndE m f g gs x z).take y = (List.range y).map fun z => bndE m f g gs x z := List.take_of_length_le (by simp)
          rw [e1] at hor
          have hwr := hb.size
          have ho4 := ho.below hbr
          go_wp2_with (at_builtin; refine appT1 rfl rfl ho4 rfl (hor.mono hwr) (fun g h1 h2 => by have h3 := ho.high _ h1; have h4 := hor.lo _ h2; omega) (fun i hi g h1 h2 => by have h3 := hor.lo _ h1; have h4 := (ho.row i hi).hi _ h2; omega) rfl (by omega) (by omega) ?_; intro g' cc w5 hO hb5)
          go_roundw
          case rel =>
            refine ⟨x + 1, _, _, vs ++ [(a2', y, c2')], by omega, by go_num, rfl, ?_, (below_th hb hbr).trans hb5⟩
            unfold bndL
            rw [tabF_take_succ' _ _ x hlt]
            exact hO
          case measure => simp [intOf]; omega
    · obtain rfl : x = n := by omega
      go_wp2
      go_ret
      unfold bndL at ho
      rw [List.take_of_length_le (by rw [tabF_len]; omega)] at ho
      exact ⟨_, _, _, rfl, ho.mono (by omega), hB0.trans (hb.mono (by omega))⟩
end Go.Proofs.YtpdgpgbgakinlaaGreat

namespace Go.Proofs.YtpdgpgbgakinlaaGreat
set_option maxRecDepth 100000
set_option linter.unusedVariables false
set_option linter.unusedSimpArgs false
open Go.RowKit
theorem IsP.own {n : Nat} {p : List Int} (h : IsP n p) : ∃ g, IsPf n p (fun i => (p.getD i 0).toNat) g := by
  obtain ⟨f, g, hl, h1, h2⟩ := h
  have e : ∀ i, i < n → (p.getD i 0).toNat = f i := fun i hi => by rw [h2 i hi]; simp
  refine ⟨g, hl, fun i hi => ?_, fun i hi => ?_⟩
  · have hh := h1 i hi
    refine ⟨by show (p.getD i 0).toNat < n; rw [e i hi]; exact hh.1, hh.2.1, ?_, ?_⟩
    · show (p.getD (g i) 0).toNat = i
      rw [e _ hh.2.1]; exact hh.2.2.1
    · show g ((p.getD i 0).toNat) = i
      rw [e i hi]; exact hh.2.2.2
  · show _ = (((p.getD i 0).toNat : Nat) : Int)
    rw [e i hi]; exact h2 i hi
theorem Tbl.single {w : World} {a : Option Addr} {n c b : Nat} {xs : List Int} {t : TypeId} (h : Row w a n xs) (hn : n ≤ 9223372036854775807) (hb : b = w.heap.size) : Tbl (w.alloc (.cells #[.slice a n c] t)) (some ⟨b, 0, none⟩) 1 [xs] :=
by
  refine ⟨rfl, fun i hi => ?_⟩
  have e : i = 0 := by omega
  subst e
  have hL := Loc.new w hb #[.slice a n c] t
  exact ⟨b, 0, a, n, c, rfl, hL.lt, hL.one.1, h.alloc _, hn⟩
end Go.Proofs.YtpdgpgbgakinlaaGreat

namespace Go.Proofs.YtpdgpgbgakinlaaGreat
set_option linter.unusedVariables false
set_option linter.unusedSimpArgs false
/-! ### tables by a function, one value of which turns -/
/-! ### labels are numbers of at least 0, and the greatest of them -/
/-! ### the numbers -/
end Go.Proofs.YtpdgpgbgakinlaaGreat

namespace Go.Proofs.YtpdgpgbgakinlaaGreat
set_option maxRecDepth 100000
set_option linter.unusedVariables false
set_option linter.unusedSimpArgs false
open Go.RowKit
/-! ### a table by a function, in memory -/
/-! ### the labels of the strands at the places -/
section
variable {s : Nat} {xs : List Int} {k : Nat}
end
end Go.Proofs.YtpdgpgbgakinlaaGreat

namespace Go.Proofs.YtpdgpgbgakinlaaGreat
set_option linter.unusedVariables false
set_option linter.unusedSimpArgs false
set_option maxRecDepth 100000
open Go.RowKit
theorem wrap_a6 {P x : Nat} (h : P ≤ 10000) (h2 : x ≤ 10000) : wrap64 ((P : Int) + (x : Int)) = (P : Int) + (x : Int) := IntWalk.wrap64_in _ (by omega)
def IsBo (e : Ending) : Prop := ∃ q, e = .returned (.bool q)
def SqB (w : World) (n : Nat) (e : Ending) (w' : World) : Prop :=
  ∃ (a : Option Addr) (c : Nat) (vs : List SV) (t : List (List Int)), e = .returned (.slice a n c) ∧ OwnT w' w.heap.size a n c vs t ∧ Sq n t ∧ Below w.heap.size w w'
set_option maxHeartbeats 4000000 in
theorem l03Alexander_any (n a b : Nat) (w : World) (n1 : 1 ≤ n) (hn : n ≤ 100) (ha : a ≤ 100) (hb : b ≤ 100) :
    Calls Tryz.prog 158 #[.int .i64 n, .int .i64 a, .int .i64 b] w (SqB w n) := by
  obtain ⟨V, hV⟩ : ∃ V : Nat → Nat → Int, V = fun x y => (((b * x + a * y) % n : Nat) : Int) := ⟨_, rfl⟩
  have HVE : Hid (∀ x y, V x y = (((b * x + a * y) % n : Nat) : Int)) := Lib.hid fun x y => by rw [hV]
  have HSV : Hid (Sq n (tabF n V)) := Lib.hid (tabF_sqI fun x y hx hy => by
    rw [HVE.out]; have := Nat.mod_lt (b * x + a * y) (show n > 0 by omega); omega)
  clear hV
  have hO := OwnT.fresh w rfl
  have hB := below_al (Below.refl w.heap.size w) (.cells #[] 27)
  go_enter Tryz.func158, Tryz.ntmps158
  go_wp2
  go_loopw [7, 8, 9, 10] (fun z i _ _ wr => ∃ (k : Nat) (az : Option Addr) (cz : Nat) (vz : List SV), k ≤ n ∧ i = .int .i64 k ∧ z = .slice az k cz ∧ OwnT wr w.heap.size az k cz vz ((tabF n V).take k) ∧ Below w.heap.size w wr) (fun _ i _ _ _ => n - (intOf i).toNat)
  case atStart => exact ⟨0, _, 0, _, Nat.zero_le _, rfl, rfl, by simpa using hO, hB⟩
  case round =>
    clear hO hB
    obtain ⟨k, az, cz, vz, hk, rfl, rfl, ho, hb'⟩ := hrel
    by_cases hlt : k < n
    · have HRV := Lib.hid (tabF_succ V hlt)
      have hE := Own.fresh wr rfl
      have hqe := below_al (Below.refl wr.heap.size wr) (.cells #[] 2)
      go_wp2
      go_loopw [9, 10] (fun z i wq => ∃ (j : Nat) (ar : Option Addr) (cr : Nat), j ≤ n ∧ i = .int .i64 j ∧ z = .slice ar j cr ∧ Own wq wr.heap.size ar j cr ((List.range j).map fun y => V k y) ∧ Below wr.heap.size wr wq) (fun _ i _ => n - (intOf i).toNat)
      case atStart => exact ⟨0, _, 0, Nat.zero_le _, rfl, rfl, by simpa using hE, hqe⟩
      case round =>
        clear hE hqe
        obtain ⟨j, ar, cr, hj, rfl, rfl, hor, hqr⟩ := hrel
        have hwq := hqr.size
        obtain ⟨W, rfl⟩ : ∃ W : World, W = wr := ⟨_, rfl⟩
        by_cases hjt : j < n
        · have HV1 : Hid (((List.range (j + 1)).map fun y => V k y) = ((List.range j).map fun y => V k y) ++ [V k j]) := Lib.hid (by simp [List.range_succ])
          have hm1 : b * k ≤ 100 * 100 := Nat.mul_le_mul hb (by omega)
          have hm2 : a * j ≤ 100 * 100 := Nat.mul_le_mul ha (by omega)
          have hve := HVE.out k j
          obtain ⟨P, hP⟩ : ∃ P, b * k = P := ⟨_, rfl⟩
          obtain ⟨Q, hQ⟩ : ∃ Q, a * j = Q := ⟨_, rfl⟩
          rw [hP, hQ] at hve
          have f1 : (b : Int) * (k : Int) = (P : Int) := by rw [← hP]; push_cast; rfl
          have f2 : (a : Int) * (j : Int) = (Q : Int) := by rw [← hQ]; push_cast; rfl
          rw [hP] at hm1
          rw [hQ] at hm2
          have hPQ : P ≤ 10000 ∧ Q ≤ 10000 := by omega
          have e1 : Int.tmod ((P : Int) + (Q : Int)) (n : Int) = V k j := by rw [hve]; rfl
          have hvb : 0 ≤ V k j ∧ V k j < n := by rw [hve]; have := Nat.mod_lt (P + Q) (show n > 0 by omega); omega
          have hz1 : ¬ (n : Int) = 0 := by omega
          have hz2 : ((n : Int) == 0) = false := by simpa using hz1
          have c1 : wrap64 ((b : Int) * (k : Int)) = (P : Int) := by rw [f1]; exact wrap_n6 (by omega)
          have c2 : wrap64 ((a : Int) * (j : Int)) = (Q : Int) := by rw [f2]; exact wrap_n6 (by omega)
          have c5 : wrap64 ((P : Int) + (Q : Int)) = (P : Int) + (Q : Int) := wrap_a6 hPQ.1 hPQ.2
          clear hP hQ hm1 hm2 f1 f2 hve hPQ
          generalize V k j = v at *
          go_wp2_with (at_builtin; refine app1 rfl rfl hor rfl rfl (by omega) hwq ?_; intro g' cc w8 hO8 hg8 hs8 hb8)
          go_roundw
          case rel => exact ⟨j + 1, _, _, by omega, by go_num, rfl, by rw [HV1.out]; exact hO8, hqr.trans hb8⟩
          case measure => simp [intOf]; omega
        · obtain rfl : j = n := by omega
          have hbb := hb'.size
          have hz1 := ho.below hqr
          have hq1 := hb'.trans (hqr.mono hbb)
          go_wp2_with (at_builtin; refine appT1 rfl rfl hz1 rfl (hor.mono hbb) (fun g h1 h2 => by have h3 := ho.high _ h1; have h4 := hor.lo _ h2; omega) (fun i hi g h1 h2 => by have h3 := hor.lo _ h1; have h4 := (ho.row i hi).hi _ h2; omega) rfl (by omega) (by omega) ?_; intro g' cc w2 hO hb2)
          go_roundw
          case rel => exact ⟨k + 1, _, _, _, by omega, by go_num, rfl, by rw [HRV.out]; exact hO, hq1.trans hb2⟩
          case measure => simp [intOf]; omega
    · obtain rfl : k = n := by omega
      rw [List.take_of_length_le (by rw [tabF_len]; exact Nat.le_refl _)] at ho
      go_wp2
      go_ret
      exact ⟨_, _, vz, _, rfl, ho, HSV.out, hb'⟩
set_option maxHeartbeats 4000000 in
theorem l03Coprime_any (a n : Nat) (w : World) (ha : a ≤ 100) (hn : n ≤ 100) :
    Calls Tryz.prog 159 #[.int .i64 a, .int .i64 n] w fun e w' => IsBo e ∧ w' = w := by
  go_enter Tryz.func159, Tryz.ntmps159
  go_wp2
  go_loop [5] (fun i => ∃ d : Nat, 2 ≤ d ∧ d ≤ 200 ∧ i = .int .i64 d) (fun i => n + 1 - (intOf i).toNat)
  case atStart => exact ⟨2, by omega, by omega, rfl⟩
  case round =>
    obtain ⟨d, hd2, hd, rfl⟩ := hrel
    by_cases hlt : d ≤ n
    · have hz1 : ¬ (d : Int) = 0 := by omega
      have hz2 : ((d : Int) == 0) = false := by simpa using hz1
      have hz3 : ¬ d = 0 := by omega
      have i1 : (d : Int) ≤ (n : Int) := by omega
      have e1 : Int.tmod (a : Int) (d : Int) = ((a % d : Nat) : Int) := rfl
      have e2 : Int.tmod (n : Int) (d : Int) = ((n % d : Nat) : Int) := rfl
      have b1 : a % d ≤ 100 := Nat.le_trans (Nat.mod_le _ _) ha
      have b2 : n % d ≤ 100 := Nat.le_trans (Nat.mod_le _ _) hn
      generalize a % d = u at *
      generalize n % d = v at *
      by_cases hu : u = 0
      · subst hu
        by_cases hv : v = 0
        · subst hv
          go_wp2
          go_ret
          exact ⟨⟨_, rfl⟩, rfl⟩
        · have hv2 : ((v : Int) == 0) = false := by simpa using hv
          have hv3 : ¬ (v : Int) = 0 := by omega
          go_wp2
          go_round
          case rel => exact ⟨d + 1, by omega, by omega, by go_num⟩
          case measure => simp [intOf]; omega
      · have hv2 : ((u : Int) == 0) = false := by simpa using hu
        have hv3 : ¬ (u : Int) = 0 := by omega
        go_wp2
        go_round
        case rel => exact ⟨d + 1, by omega, by omega, by go_num⟩
        case measure => simp [intOf]; omega
    · have i1 : ¬ (d : Int) ≤ (n : Int) := by omega
      go_wp2
      go_ret
      exact ⟨⟨_, rfl⟩, rfl⟩
end Go.Proofs.YtpdgpgbgakinlaaGreat

namespace Go.Proofs.YtpdgpgbgakinlaaGreat
set_option linter.unusedVariables false
set_option linter.unusedSimpArgs false
set_option maxRecDepth 100000
open Go.RowKit
theorem ins_isP {i q : Nat} {p : List Int} (h : IsP i p) (hq : q ≤ i) : IsP (i + 1) (p.take q ++ ((i : Int) :: p.drop q)) := by
  obtain ⟨f, g, hl, h1, h2⟩ := h
  refine ⟨fun j => if j < q then f j else if j = q then i else f (j - 1), fun v => if v = i then q else if g v < q then g v else g v + 1, ?_, fun j hj => ?_, fun j hj => ?_⟩
  · simp; omega
  · refine ⟨?_, ?_, ?_, ?_⟩
    · dsimp only
      split
      · have := (h1 j (by omega)).1; omega
      · split
        · omega
        · have := (h1 (j - 1) (by omega)).1; omega
    · dsimp only
      split
      · omega
      · have := (h1 j (by omega)).2.1
        split <;> omega
    · dsimp only
      by_cases e : j = i
      · rw [if_pos e, if_neg (by omega), if_pos rfl, e]
      · rw [if_neg e]
        have h3 := h1 j (by omega)
        by_cases e2 : g j < q
        · rw [if_pos e2, if_pos e2, h3.2.2.1]
        · rw [if_neg e2, if_neg (by omega), if_neg (by omega), Nat.add_sub_cancel, h3.2.2.1]
    · dsimp only
      by_cases e : j < q
      · have h3 := h1 j (by omega)
        rw [if_pos e, if_neg (by omega), h3.2.2.2, if_pos e]
      · rw [if_neg e]
        by_cases e2 : j = q
        · rw [if_pos e2, if_pos rfl, e2]
        · have h3 := h1 (j - 1) (by omega)
          rw [if_neg e2, if_neg (by omega), h3.2.2.2, if_neg (by omega)]; omega
  · dsimp only
    by_cases e : j < q
    · rw [if_pos e, List.getD_eq_getElem?_getD, List.getElem?_append_left (by simp; omega), List.getElem?_take, if_pos e, ← List.getD_eq_getElem?_getD]
      exact h2 j (by omega)
    · rw [if_neg e, List.getD_eq_getElem?_getD, List.getElem?_append_right (by simp; omega)]
      have : (p.take q).length = q := by simp; omega
      rw [this]
      by_cases e2 : j = q
      · rw [if_pos e2, e2, Nat.sub_self]; simp
      · rw [if_neg e2]
        obtain ⟨r, hr⟩ : ∃ r, j - q = r + 1 := ⟨j - q - 1, by omega⟩
        rw [hr, List.getElem?_cons_succ, List.getElem?_drop, ← List.getD_eq_getElem?_getD]
        have : q + r = j - 1 := by omega
        rw [this]
        exact h2 (j - 1) (by omega)
theorem Row.take0 {w : World} {a : Option Addr} {n : Nat} {xs : List Int} (h : Row w a n xs) (m : Nat) (hm : m ≤ n) : Row w a m (xs.take m) := by
  refine ⟨by rw [List.length_take, ← h.len]; omega, fun i hi => ?_⟩
  obtain ⟨b, off, e1, e2, e3⟩ := h.2 i (by omega)
  refine ⟨b, off, e1, e2, ?_⟩
  rw [e3]
  simp [List.getD_eq_getElem?_getD, List.getElem?_take, hi]
theorem Row.drop0 {w : World} {g n : Nat} {xs : List Int} (h : Row w (some ⟨g, 0, none⟩) n xs) (q : Nat) (hq : q ≤ n) : Row w (some ⟨g, q, none⟩) (n - q) (xs.drop q) := by
  refine ⟨by rw [List.length_drop, h.len], fun i hi => ?_⟩
  obtain ⟨b, off, e1, e2, e3⟩ := h.2 (q + i) (by omega)
  cases e1
  refine ⟨g, q, rfl, e2, ?_⟩
  rw [Nat.zero_add] at e3
  rw [e3]
  simp [List.getD_eq_getElem?_getD]
set_option maxHeartbeats 8000000 in
theorem l03DrawPerm_ok (b n : Nat) (w : World) (h : Src w b) (hn : n ≤ 100) :
    Calls Tryz.prog 124 #[.pointer (some ⟨b, 0, none⟩), .int .i64 n] w (PrD b w n) := by
  have hlt := h.lt
  have hO := Own.fresh w rfl
  have hs0 := h.below (below_al (Below.refl w.heap.size w) (.cells #[] 2))
  have hG0 := World.grownBy_alloc w (.cells #[] 2) (some b)
  go_enter Tryz.func124, Tryz.ntmps124
  go_wp2
  go_loopw [5, 6, 7, 8] (fun z i _ _ wr => ∃ (k : Nat) (g c : Nat) (p : List Int), k ≤ n ∧ i = .int .i64 k ∧ z = .slice (some ⟨g, 0, none⟩) k c ∧ Hid (IsP k p) ∧ Own wr w.heap.size (some ⟨g, 0, none⟩) k c p ∧ Src wr b ∧ w.grownBy wr (some b)) (fun _ i _ _ _ => n - (intOf i).toNat)
  case atStart => exact ⟨0, _, 0, [], Nat.zero_le _, rfl, rfl, Lib.hid ⟨id, id, rfl, fun i hi => absurd hi (by omega), fun i hi => absurd hi (by omega)⟩, hO, hs0, hG0⟩
  case round =>
    clear hO hs0 hG0
    obtain ⟨k, g, c, p, hk, rfl, rfl, HP, ho, hs, hG⟩ := hrel
    by_cases hlt2 : k < n
    · go_wp2_with fail
      refine (l01Next_ok b ((k : Int) + 1) _ hs ⟨by omega, by omega⟩).mono ?_
      rintro e w3 ⟨x, rfl, _, hx, hs3, hg3⟩
      obtain ⟨hx1, hx2⟩ := hx (by omega)
      obtain ⟨q, rfl⟩ : ∃ q : Nat, x = q := ⟨x.toNat, by omega⟩
      have hq : q ≤ k := by omega
      clear hx hx1 hx2
      have hlo := ho.lo _ rfl
      have ho3 := ho.grown hg3 (fun g e => by have := ho.lo g e; simp; omega)
      have hG3 := grown_trans hG hg3
      have hcap := ho3.cap
      have i1 : (0 : Int) ≤ (q : Int) := by omega
      have i2 : (q : Int) ≤ (k : Int) := by omega
      have i3 : (q : Int) ≤ (c : Int) := by omega
      have i4 : (k : Int) ≤ (c : Int) := by omega
      have hrow : Row (w3.alloc (.cells #[.int .i64 k] 2)) (if c = q then some ⟨g, 0, none⟩ else some ⟨g, q, none⟩) (k - q) (p.drop q) := by
        split
        · have e0 : k - q = 0 := by omega
          have e1 : p.drop q = [] := List.drop_of_length_le (by have := ho3.len; omega)
          rw [e0, e1]; exact Row.nil _ _
        · exact (ho3.row.alloc _).drop0 q hq
      have HINS := Lib.hid (ins_isP HP.out hq)

      go_upto_region 7 with (at_builtin; refine appL rfl rfl (Own.single w3 rfl (k : Int)) rfl hrow rfl (by omega) (by simp) ?_; intro a5 c5 w5 hO5 hg5 hb5')
      have hb5 : Below w3.heap.size w3 w5 := (below_al (Below.refl w3.heap.size w3) _).trans hb5'
      have hz5 := hb5.size
      have ho5 : Own w5 w.heap.size (some ⟨g, 0, none⟩) k c p := ho3.below hb5
      have hs5 := hs3.below hb5
      have hG5 := grown_trans hG3 (grown_of_below hb5 (some b))
      have htk := ((ho5.row).take0 q hq).alloc (.cells #[] 2)
      have hw3s : w.heap.size ≤ w3.heap.size := Nat.le_of_lt (Nat.lt_of_le_of_lt hlo (ho3.hi _ rfl))
      go_wp2_with (first
        | (at_builtin; refine appL rfl rfl (Own.fresh w5 rfl) rfl htk rfl (by omega) (by simp) ?_; intro a6 c6 w6 hO6 hg6 hb6'; have hb6 : Below w5.heap.size w5 w6 := (below_al (Below.refl w5.heap.size w5) _).trans hb6'; rw [Nat.zero_add] at hO6 ⊢; have hO5' := hO5.below hb6)
        | (at_builtin; refine appL rfl rfl hO6 rfl hO5'.row rfl (by omega) hb6.size ?_; intro a7 c7 w7 hO7 hg7 hb7; rw [show q + (1 + (k - q)) = k + 1 by omega] at hO7 ⊢))
      have hb56 : Below w5.heap.size w5 w7 := hb6.trans hb7
      obtain ⟨g7, rfl⟩ : ∃ g7, a7 = some ⟨g7, 0, none⟩ := by
        rcases hO7.block with ⟨_, e, _⟩ | ⟨g7, cur, e, _⟩
        · omega
        · exact ⟨g7, e⟩
      go_roundw
      case rel => exact ⟨k + 1, g7, c7, _, by omega, by go_num, rfl, HINS.out, (by simpa using hO7.mono (lo' := w.heap.size) (by omega)), hs5.below hb56, grown_trans hG5 (grown_of_below hb56 _)⟩
      case measure => simp [intOf]; omega
    · obtain rfl : k = n := by omega
      go_wp2
      go_ret
      exact ⟨_, _, p, rfl, HP.out, ho, hs, hG⟩
end Go.Proofs.YtpdgpgbgakinlaaGreat

namespace Go.Proofs.YtpdgpgbgakinlaaGreat
set_option linter.unusedVariables false
set_option linter.unusedSimpArgs false
set_option maxRecDepth 100000
open Go.RowKit
def cjI (L : List (List Int)) (x y : Nat) : Nat := L.findIdx fun r => decide (r = cjL (L.getD x []) (L.getD y []))
theorem cjI_at {L : List (List Int)} {x y : Nat} (h : cjI L x y < L.length) : L.getD (cjI L x y) [] = cjL (L.getD x []) (L.getD y []) := by
  have t : decide (L[cjI L x y] = cjL (L.getD x []) (L.getD y [])) = true := List.findIdx_getElem (p := fun r => decide (r = cjL (L.getD x []) (L.getD y []))) (xs := L) (w := h)
  rw [List.getD_eq_getElem?_getD (l := L) (i := cjI L x y), List.getElem?_eq_getElem h, Option.getD_some]
  simpa using t
theorem cjI_ne {L : List (List Int)} {x y j : Nat} (h : j < cjI L x y) : L.getD j [] ≠ cjL (L.getD x []) (L.getD y []) := by
  have hl : j < L.length := Nat.lt_of_lt_of_le h List.findIdx_le_length
  have t := List.not_of_lt_findIdx (p := fun r => decide (r = cjL (L.getD x []) (L.getD y []))) (xs := L) h
  rw [List.getD_eq_getElem?_getD (l := L) (i := j), List.getElem?_eq_getElem hl, Option.getD_some]
  simpa using t
def trL : List (List Int) := [[0, 2, 1], [1, 0, 2], [2, 1, 0]]
structure CjOk (m : Nat) (L : List (List Int)) : Prop where
  len : L.length = m
  isP : ∀ x, x < m → IsP 3 (L.getD x [])
  lt : ∀ x y, x < m → y < m → cjI L x y < m
theorem cj_of {m : Nat} {L : List (List Int)} (hl : L.length = m) (h : ((List.range m).all fun x => isPb 3 (L.getD x []) && (List.range m).all fun y => decide (cjI L x y < m)) = true) : CjOk m L := by
  refine ⟨hl, fun x hx => ?_, fun x y hx hy => ?_⟩
  · have := List.all_eq_true.1 h x (List.mem_range.2 hx)
    rw [Bool.and_eq_true] at this
    exact isPb_ok this.1
  · have := List.all_eq_true.1 h x (List.mem_range.2 hx)
    rw [Bool.and_eq_true] at this
    simpa using List.all_eq_true.1 this.2 y (List.mem_range.2 hy)
theorem cj_prm : CjOk 6 (prmL 3) := cj_of (by decide +kernel) (by decide +kernel)
theorem cj_tr : CjOk 3 trL := cj_of (by decide +kernel) (by decide +kernel)
theorem litT (w : World) (t t' : TypeId) : Tbl ((((w.alloc (.cells #[.int .i64 0, .int .i64 2, .int .i64 1] t)).alloc (.cells #[.int .i64 1, .int .i64 0, .int .i64 2] t)).alloc (.cells #[.int .i64 2, .int .i64 1, .int .i64 0] t)).alloc (.cells #[.slice (some ⟨w.heap.size, 0, none⟩) 3 3, .slice (some ⟨w.heap.size + 1, 0, none⟩) 3 3, .slice (some ⟨w.heap.size + 1 + 1, 0, none⟩) 3 3] t')) (some ⟨w.heap.size + 1 + 1 + 1, 0, none⟩) 3 trL := by
  have h1 := (((Loc.new w rfl #[.int .i64 0, .int .i64 2, .int .i64 1] t).alloc (.cells #[.int .i64 1, .int .i64 0, .int .i64 2] t)).alloc (.cells #[.int .i64 2, .int .i64 1, .int .i64 0] t)).alloc (.cells #[.slice (some ⟨w.heap.size, 0, none⟩) 3 3, .slice (some ⟨w.heap.size + 1, 0, none⟩) 3 3, .slice (some ⟨w.heap.size + 1 + 1, 0, none⟩) 3 3] t')
  have h2 := ((Loc.new (w.alloc (.cells #[.int .i64 0, .int .i64 2, .int .i64 1] t)) (b := w.heap.size + 1) (by simp) #[.int .i64 1, .int .i64 0, .int .i64 2] t).alloc (.cells #[.int .i64 2, .int .i64 1, .int .i64 0] t)).alloc (.cells #[.slice (some ⟨w.heap.size, 0, none⟩) 3 3, .slice (some ⟨w.heap.size + 1, 0, none⟩) 3 3, .slice (some ⟨w.heap.size + 1 + 1, 0, none⟩) 3 3] t')
  have h3 := (Loc.new ((w.alloc (.cells #[.int .i64 0, .int .i64 2, .int .i64 1] t)).alloc (.cells #[.int .i64 1, .int .i64 0, .int .i64 2] t)) (b := w.heap.size + 1 + 1) (by simp) #[.int .i64 2, .int .i64 1, .int .i64 0] t).alloc (.cells #[.slice (some ⟨w.heap.size, 0, none⟩) 3 3, .slice (some ⟨w.heap.size + 1, 0, none⟩) 3 3, .slice (some ⟨w.heap.size + 1 + 1, 0, none⟩) 3 3] t')
  have hh := Loc.new (((w.alloc (.cells #[.int .i64 0, .int .i64 2, .int .i64 1] t)).alloc (.cells #[.int .i64 1, .int .i64 0, .int .i64 2] t)).alloc (.cells #[.int .i64 2, .int .i64 1, .int .i64 0] t)) (b := w.heap.size + 1 + 1 + 1) (by simp) #[.slice (some ⟨w.heap.size, 0, none⟩) 3 3, .slice (some ⟨w.heap.size + 1, 0, none⟩) 3 3, .slice (some ⟨w.heap.size + 1 + 1, 0, none⟩) 3 3] t'
  refine ⟨rfl, fun i hi => ?_⟩
  match i, hi with
  | 0, _ => exact ⟨_, 0, _, 3, 3, rfl, hh.lt, hh.cell 0 rfl, row_loc h1 rfl rfl, by omega⟩
  | 1, _ => exact ⟨_, 0, _, 3, 3, rfl, hh.lt, hh.cell 1 rfl, row_loc h2 rfl rfl, by omega⟩
  | 2, _ => exact ⟨_, 0, _, 3, 3, rfl, hh.lt, hh.cell 2 rfl, row_loc h3 rfl rfl, by omega⟩
theorem cell_mark {w w' : World} {S : Nat → Prop} (hm : Marked S w w') {b o : Nat} (hb : b < w.heap.size) (hS : ¬ S b) : w'.cell? ⟨b, o, none⟩ = w.cell? ⟨b, o, none⟩ := World.cell?_of_block (hm.block b hb hS)
theorem Row.mark0 {w w' : World} {a : Option Addr} {n B0 : Nat} {xs : List Int} (h : Row w a n xs) (hm : Marked (fun g => g = B0) w w') (h0 : ∀ k, w.cell? ⟨B0, k, none⟩ = none) : Row w' a n xs :=
  ⟨h.1, fun i hi => by
    obtain ⟨b, off, h1, h3, h2⟩ := h.2 i hi
    exact ⟨b, off, h1, Nat.lt_of_lt_of_le h3 hm.size, (cell_mark hm h3 (fun e => by have e : b = B0 := e; rw [e, h0] at h2; cases h2)).trans h2⟩⟩
theorem Tbl.mark0 {w w' : World} {a : Option Addr} {n B0 : Nat} {xss : List (List Int)} (h : Tbl w a n xss) (hm : Marked (fun g => g = B0) w w') (h0 : ∀ k, w.cell? ⟨B0, k, none⟩ = none) : Tbl w' a n xss :=
  ⟨h.1, fun i hi => by
    obtain ⟨b, off, ai, ni, ci, h1, h3, h2, h4, h5⟩ := h.2 i hi
    exact ⟨b, off, ai, ni, ci, h1, Nat.lt_of_lt_of_le h3 hm.size, (cell_mark hm h3 (fun e => by have e : b = B0 := e; rw [e, h0] at h2; cases h2)).trans h2, h4.mark0 hm h0, h5⟩⟩
theorem loc_none {w : World} {b : Nat} {t : TypeId} (h : Loc w b #[] t) : ∀ k, w.cell? ⟨b, k, none⟩ = none := fun k => by
  unfold Loc at h; simp [World.cell?, h]
end Go.Proofs.YtpdgpgbgakinlaaGreat
