/-
  The bound of a list: what the program's and the reference's functions compute.
  No condition but bounds on lengths.
-/
import Derived.Test.YthkpdodhkgdiaaaSolF
import Derived.Test.YthkpdodhkgdiaaaMatrixS
import Derived.Test.YthkpdodhkgdiaaaTabBy
import Derived.Test.YthkpdodhkgdiaaaTabA
import Derived.Test.YthkpdodhkgdiaaaHelpT
namespace Go.Proofs.Ythkpdodhkgdiaaa
set_option maxRecDepth 100000
set_option linter.unusedVariables false
set_option linter.unusedSimpArgs false
open Go.RowKit

theorem tabF_take_succ' (n : Nat) (v : Nat → Nat → Int) (k : Nat) (hk : k < n) : (tabF n v).take (k + 1) = (tabF n v).take k ++ [(List.range n).map fun y => v k y] := by
  have := tabP_next n v k hk []
  rw [List.append_nil] at this
  exact this.symm
theorem rowF_take_succ' (n : Nat) (f : Nat → Int) (j : Nat) (h : j < n) : ((List.range n).map f).take (j + 1) = ((List.range n).map f).take j ++ [f j] := by
  have hx : j < ((List.range n).map f).length := by simpa using h
  rw [List.take_succ_eq_append_getElem hx]; simp

/-- the bound of gs at x and y -/
def bndE (m : Int) (f g : List (List Int)) (gs : List Int) (x y : Nat) : Int := (gs.getD (tv f x y) 0 + gs.getD (tv g x y) 0 - gs.getD x 0 - gs.getD y 0 + 2 * m) % m
def bndL (n : Nat) (m : Int) (f g : List (List Int)) (gs : List Int) : List (List Int) := tabF n (bndE m f g gs)

theorem rowOk_val {n m : Int} {gs : List Int} (h : rowOk n m gs = true) (i : Nat) (hi : (i : Int) < n) : 0 ≤ gs.getD i 0 ∧ gs.getD i 0 < m := by
  obtain ⟨h1, h2⟩ := rowOk_get h
  exact h2 i (by omega)

set_option maxHeartbeats 4000000 in
theorem bound1_any (m : Int) (b1 b2 b3 : Nat) (t1 t2 t3 : TypeId) (bf of bg og : Nat) (A O C A' O' C' : Nat → Nat) (n c c' : Nat) (f g : List (List Int)) (al : Option Addr) (cl : Nat) (gs : List Int) (x y : Nat) (w : World)
    (hL1 : Loc w b1 #[.slice al n cl] t1) (hL2 : Loc w b2 #[.slice (some ⟨bf, of, none⟩) n c, .slice (some ⟨bg, og, none⟩) n c'] t2) (hL3 : Loc w b3 #[.int .i64 m] t3)
    (gf : Grid w bf of A O C n f) (gg : Grid w bg og A' O' C' n g) (hf : Sq n f) (hg : Sq n g) (hr : Row w al n gs) (hm1 : 1 ≤ m) (hm2 : m ≤ 12) (hk : rowOk n m gs = true) (hx : x < n) (hy : y < n) :
    Calls Try.prog 95 #[.int .i64 x, .int .i64 y, .pointer (some ⟨b1, 0, none⟩), .pointer (some ⟨b2, 0, none⟩), .pointer (some ⟨b3, 0, none⟩)] w fun e w' => e = .returned (.int .i64 (bndE m f g gs x y)) ∧ ∃ k, w' = w.drewN k := by
  have l1 := hL1.one
  have l2 := hL2.two
  have l3 := hL3.one
  obtain ⟨bl, ol, rfl, _, hall⟩ := hr.all (by omega)
  obtain ⟨r1, k1⟩ := gf.look hx hy
  obtain ⟨r2, k2⟩ := gg.look hx hy
  have hu := hf.lt hx hy
  have hv := hg.lt hx hy
  have vA := rowOk_val hk (tv f x y) (by omega)
  have vB := rowOk_val hk (tv g x y) (by omega)
  have vX := rowOk_val hk x (by omega)
  have vY := rowOk_val hk y (by omega)
  have gA := hall _ hu
  have gB := hall _ hv
  have gX := hall _ hx
  have gY := hall _ hy
  have HE : Hid (bndE m f g gs x y = (gs.getD (tv f x y) 0 + gs.getD (tv g x y) 0 - gs.getD x 0 - gs.getD y 0 + 2 * m) % m) := Lib.hid rfl
  clear hall hr hL1 hL2 hL3 hk hf hg gf gg
  generalize tv f x y = u at *
  generalize tv g x y = v at *
  generalize gs.getD u 0 = P at *
  generalize gs.getD v 0 = Q at *
  generalize gs.getD x 0 = R at *
  generalize gs.getD y 0 = S at *
  have w1 : IntKind.i64.wrap (P + Q) = P + Q := IntWalk.i64_in _ (by omega)
  have w2 : IntKind.i64.wrap (P + Q - R) = P + Q - R := IntWalk.i64_in _ (by omega)
  have w3 : IntKind.i64.wrap (P + Q - R - S) = P + Q - R - S := IntWalk.i64_in _ (by omega)
  have w4 : IntKind.i64.wrap (2 * m) = 2 * m := IntWalk.i64_in _ (by omega)
  have w5 : IntKind.i64.wrap (P + Q - R - S + 2 * m) = P + Q - R - S + 2 * m := IntWalk.i64_in _ (by omega)
  have w6 : (P + Q - R - S + 2 * m).tmod m = (P + Q - R - S + 2 * m) % m := IntWalk.rem_in _ _ (by omega)
  have hm0 : m ≠ 0 := by omega
  go_enter Try.func95, Try.ntmps95
  go_wp2
  go_quiet (fail)
  go_wp2
  go_ret
  exact ⟨ret_int (by rw [HE.out]; simp), _, rfl⟩
theorem ent_bound1 : Ent 95 := fun _ _ => rfl

set_option maxHeartbeats 4000000 in
theorem l18Bound_any (m : Int) (a : Option Addr) (n c : Nat) (a' : Option Addr) (c' : Nat) (f g : List (List Int)) (al : Option Addr) (cl : Nat) (gs : List Int) (w : World) (h1 : Tbl w a n f) (h2 : Tbl w a' n g) (hn1 : 1 ≤ n) (hn : n ≤ 12) (hf : Sq n f) (hg : Sq n g) (hr : Row w al n gs) (hm1 : 1 ≤ m) (hm2 : m ≤ 12) (hk : rowOk n m gs = true) :
    Calls Try.prog 91 #[sAgg a n c a' n c', .int .i64 m, .slice al n cl] w fun e w' => ∃ a c vs, e = .returned (.slice a n c) ∧ OwnT w' w.heap.size a n c vs (bndL n m f g gs) ∧ Below w.heap.size w w' := by
  obtain ⟨bf, of, A, O, C, rfl, Gf⟩ := h1.grid hf hn1
  obtain ⟨bg, og, A', O', C', rfl, Gg⟩ := h2.grid hg hn1
  obtain ⟨bl, ol, rfl, hbl, hall⟩ := hr.all hn1
  have hA := Loc.new w rfl #[.slice (some ⟨bf, of, none⟩) n c, .slice (some ⟨bg, og, none⟩) n c'] 35
  have gf := Gf.alloc (.cells #[.slice (some ⟨bf, of, none⟩) n c, .slice (some ⟨bg, og, none⟩) n c'] 35)
  have gg := Gg.alloc (.cells #[.slice (some ⟨bf, of, none⟩) n c, .slice (some ⟨bg, og, none⟩) n c'] 35)
  have HSF := Lib.hid hf; have HSG := Lib.hid hg; have HK := Lib.hid hk; have HALL := Lib.hid hall
  have lA := hA.two
  clear h1 h2 hr hf hg hk hall Gf Gg
  go_enter Try.func91, Try.ntmps91
  go_wp2
  have hB0 := below_al (Below.refl w.heap.size w) (.cells #[.slice (some ⟨bf, of, none⟩) n c, .slice (some ⟨bg, og, none⟩) n c'] 35)
  have hbl0 : bl < (w.alloc (.cells #[.slice (some ⟨bf, of, none⟩) n c, .slice (some ⟨bg, og, none⟩) n c'] 35)).heap.size := Nat.lt_of_lt_of_le hbl (size_le_alloc _ _)
  have HALL0 : Hid (∀ i, i < n → (w.alloc (.cells #[.slice (some ⟨bf, of, none⟩) n c, .slice (some ⟨bg, og, none⟩) n c'] 35)).cell? ⟨bl, ol + i, none⟩ = some (.int .i64 (gs.getD i 0))) := Lib.hid fun i hi => (((Below.refl w.heap.size w).alloc (Nat.le_refl _) _).cell (p := ⟨bl, ol + i, none⟩) hbl).trans (HALL.out i hi)
  clear HALL hbl
  have hsz : w.heap.size < (w.alloc (.cells #[.slice (some ⟨bf, of, none⟩) n c, .slice (some ⟨bg, og, none⟩) n c'] 35)).heap.size := hA.lt
  generalize hw0 : w.alloc (.cells #[.slice (some ⟨bf, of, none⟩) n c, .slice (some ⟨bg, og, none⟩) n c'] 35) = w0 at *
  have hsz0 : w.heap.size + 1 = w0.heap.size := by rw [← hw0]; simp
  clear hw0
  have ho := OwnT.fresh w0 hsz0
  have HSZ := Lib.hid hsz0; clear hsz0
  have hb := below_al (Below.refl w0.heap.size w0) (.cells #[] 22)
  clear lA
  go_loopw [7, 8] (fun z i wr => ∃ (k : Nat) (a' : Option Addr) (c' : Nat) (vs : List SV), k ≤ n ∧ i = .int .i64 k ∧ z = .slice a' k c' ∧ OwnT wr w0.heap.size a' k c' vs ((bndL n m f g gs).take k) ∧ Below w0.heap.size w0 wr) (fun _ i _ => n - (intOf i).toNat)
  case atStart => exact ⟨0, _, _, _, Nat.zero_le _, rfl, rfl, by simpa using ho, hb⟩
  case round =>
    clear ho hb
    obtain ⟨x, za, zc, vs, hk, rfl, rfl, ho, hb⟩ := hrel
    have lA := (hA.below hb hA.lt).two
    by_cases hlt : x < n
    · go_wp2
      have hrow := Own.fresh wr rfl
      have hbr := below_al (Below.refl wr.heap.size wr) (.cells #[] 2)
      clear lA
      go_loopw [9, 10] (fun z i w4 => ∃ (j : Nat) (a2 : Option Addr) (c2 : Nat), j ≤ n ∧ i = .int .i64 j ∧ z = .slice a2 j c2 ∧ Own w4 wr.heap.size a2 j c2 (((List.range n).map fun y => bndE m f g gs x y).take j) ∧ Below wr.heap.size wr w4 ∧ wr.heap.size < w4.heap.size) (fun _ i _ => n - (intOf i).toNat)
      case atStart => exact ⟨0, _, _, Nat.zero_le _, rfl, rfl, by simpa using hrow, hbr, by simp⟩
      case round =>
        clear hrow hbr
        obtain ⟨y, a2', c2', hj, rfl, rfl, hor, hbr, hsz4⟩ := hrel
        have hB4 := below_th hb hbr
        have lA := (hA.below hB4 hA.lt).two
        by_cases hjt : y < n
        · obtain ⟨r1, k1⟩ := (gf.below hB4).look hlt hjt
          obtain ⟨r2, k2⟩ := (gg.below hB4).look hlt hjt
          have hu := HSF.out.lt hlt hjt
          have hv := HSG.out.lt hlt hjt
          have vA := rowOk_val HK.out (tv f x y) (by omega)
          have vB := rowOk_val HK.out (tv g x y) (by omega)
          have vX := rowOk_val HK.out x (by omega)
          have vY := rowOk_val HK.out y (by omega)
          have gA := (hB4.cell (p := ⟨bl, ol + tv f x y, none⟩) hbl0).trans (HALL0.out _ hu)
          have gB := (hB4.cell (p := ⟨bl, ol + tv g x y, none⟩) hbl0).trans (HALL0.out _ hv)
          have gX := (hB4.cell (p := ⟨bl, ol + x, none⟩) hbl0).trans (HALL0.out _ hlt)
          have gY := (hB4.cell (p := ⟨bl, ol + y, none⟩) hbl0).trans (HALL0.out _ hjt)
          have e1 : bndE m f g gs x y = (gs.getD (tv f x y) 0 + gs.getD (tv g x y) 0 + 2 * m - gs.getD x 0 - gs.getD y 0) % m := by
            unfold bndE; congr 1; omega
          have HE := Lib.hid e1
          have b1 := gf.lt; have b2 := gf.rlt x hlt; have b3 := gg.lt; have b4 := gg.rlt x hlt
          clear e1
          generalize tv f x y = u at *
          generalize tv g x y = v at *
          generalize gs.getD u 0 = P at *
          generalize gs.getD v 0 = Q at *
          generalize gs.getD x 0 = R at *
          generalize gs.getD y 0 = S at *
          have q1 : IntKind.i64.wrap (P + Q) = P + Q := IntWalk.i64_in _ (by omega)
          have q4 : IntKind.i64.wrap (2 * m) = 2 * m := IntWalk.i64_in _ (by omega)
          have q5 : IntKind.i64.wrap (P + Q + 2 * m) = P + Q + 2 * m := IntWalk.i64_in _ (by omega)
          have q2 : IntKind.i64.wrap (P + Q + 2 * m - R) = P + Q + 2 * m - R := IntWalk.i64_in _ (by omega)
          have q3 : IntKind.i64.wrap (P + Q + 2 * m - R - S) = P + Q + 2 * m - R - S := IntWalk.i64_in _ (by omega)
          have q6 : (P + Q + 2 * m - R - S).tmod m = (P + Q + 2 * m - R - S) % m := IntWalk.rem_in _ _ (by omega)
          have v0 : 0 ≤ (P + Q + 2 * m - R - S) % m := Int.emod_nonneg _ (by omega)
          have v1 : (P + Q + 2 * m - R - S) % m < m := Int.emod_lt_of_pos _ (by omega)
          generalize (P + Q + 2 * m - R - S) % m = V at *
          have q7 : IntKind.i64.wrap V = V := IntWalk.i64_in _ (by omega)
          have hm0 : m ≠ 0 := by omega
          have hwr := hb.size
          go_wp2
          go_region_held3 (fun w' => (w'.cell? ⟨w.heap.size, 0, none⟩ = some (.slice (some ⟨bf, of, none⟩) n c) ∧ w'.cell? ⟨w.heap.size, 1, none⟩ = some (.slice (some ⟨bg, og, none⟩) n c')) ∧ w'.cell? ⟨bf, of + x, none⟩ = some (.slice (some ⟨A x, O x, none⟩) n (C x)) ∧ w'.cell? ⟨A x, O x + y, none⟩ = some (.int .i64 ((u : Nat) : Int)) ∧ w'.cell? ⟨bg, og + x, none⟩ = some (.slice (some ⟨A' x, O' x, none⟩) n (C' x)) ∧ w'.cell? ⟨A' x, O' x + y, none⟩ = some (.int .i64 ((v : Nat) : Int)) ∧ w'.cell? ⟨bl, ol + u, none⟩ = some (.int .i64 P) ∧ w'.cell? ⟨bl, ol + v, none⟩ = some (.int .i64 Q) ∧ w'.cell? ⟨bl, ol + x, none⟩ = some (.int .i64 R) ∧ w'.cell? ⟨bl, ol + y, none⟩ = some (.int .i64 S))
            (first | exact ⟨⟨lA.1, lA.2.1⟩, r1, k1, r2, k2, gA, gB, gX, gY⟩ | exact ⟨⟨lB.1, lB.2.1⟩, hK1, hK2, hK3, hK4, hK5, hK6, hK7, hK8⟩ | go_keep)
            (first
            | (refine step_app1 rfl rfl hor rfl rfl ?_ ?_ ?_; (omega); (omega); intro g' cc w5 hO hg5 hs5 hb5; have hR := hb5.mono hwr; have lB := (hA.below (below_th hb (hbr.trans hb5)) hA.lt).two; have hK1 := (hR.cell (p := ⟨bf, of + x, none⟩) b1).trans r1; have hK2 := (hR.cell (p := ⟨A x, O x + y, none⟩) b2).trans k1; have hK3 := (hR.cell (p := ⟨bg, og + x, none⟩) b3).trans r2; have hK4 := (hR.cell (p := ⟨A' x, O' x + y, none⟩) b4).trans k2; have hK5 := (hR.cell (p := ⟨bl, ol + u, none⟩) hbl0).trans gA; have hK6 := (hR.cell (p := ⟨bl, ol + v, none⟩) hbl0).trans gB; have hK7 := (hR.cell (p := ⟨bl, ol + x, none⟩) hbl0).trans gX; have hK8 := (hR.cell (p := ⟨bl, ol + y, none⟩) hbl0).trans gY))
          all_goals
            go_wp2
            go_roundw
            case rel =>
              refine ⟨y + 1, _, _, by omega, by go_num, rfl, ?_, hbr.trans hb5, by omega⟩
              rw [rowF_take_succ' n _ y hjt, HE.out]
              exact hO
            case measure => simp [intOf]; omega
        · obtain rfl : y = n := by omega
          have e1 : ((List.range y).map fun z => bndE m f g gs x z).take y = (List.range y).map fun z => bndE m f g gs x z := List.take_of_length_le (by simp)
          rw [e1] at hor
          have hwr := hb.size
          have ho4 := ho.below hbr
          go_wp2_with (at_builtin; refine appT1 rfl rfl ho4 rfl (hor.mono hwr) (fun g h1 h2 => by have h3 := ho.high _ h1; have h4 := hor.lo _ h2; omega) (fun i hi g h1 h2 => by have h3 := hor.lo _ h1; have h4 := (ho.row i hi).hi _ h2; omega) rfl (by omega) (by omega) ?_; intro g' cc w5 hO hb5)
          go_roundw
          case rel =>
            refine ⟨x + 1, _, _, vs ++ [(a2', y, c2')], by omega, by go_num, rfl, ?_, (below_th hb hbr).trans hb5⟩
            unfold bndL
            rw [tabF_take_succ' _ _ x hlt]
            exact hO
          case measure => simp [intOf]; omega
    · obtain rfl : x = n := by omega
      go_wp2
      go_ret
      unfold bndL at ho
      rw [List.take_of_length_le (by rw [tabF_len]; omega)] at ho
      exact ⟨_, _, _, rfl, ho.mono (by omega), hB0.trans (hb.mono (by omega))⟩

end Go.Proofs.Ythkpdodhkgdiaaa
