/-
  Rows modulo primes: a row added to another one in place, a row times a number in place, a new row less a multiple.
  No condition but bounds.
-/
import Derived.Test.YtnlgmhckjpifiaaGreatWbL
namespace Go.Proofs.YtnlgmhckjpifiaaGreat
set_option maxRecDepth 100000
set_option linter.unusedVariables false
set_option linter.unusedSimpArgs false
open Go.RowKit

theorem grw_trans {a b c : World} {r : Option Nat} (h : a.grownBy b r) (k : b.grownBy c r) : a.grownBy c r :=
  ⟨k.os.trans h.os, k.tape.trans h.tape, k.output.trans h.output, Nat.le_trans h.size k.size, fun i hi hn => (k.block i (Nat.lt_of_lt_of_le hi h.size) hn).trans (h.block i hi hn)⟩
theorem grw_refl (w : World) (r : Option Nat) : w.grownBy w r := ⟨rfl, rfl, rfl, Nat.le_refl _, fun _ _ _ => rfl⟩
theorem grw_set {a w : World} {b : Nat} (h : a.grownBy w (some b)) {p : Addr} (hp : p.block = b ∨ a.heap.size ≤ p.block) (u : Value) : a.grownBy (w.setCell p u) (some b) :=
  ⟨h.os, h.tape, h.output, by rw [size_set]; exact h.size, fun k hk hn => (Below.heap_setCell _ _ _ k (fun e => by rcases hp with hp | hp; exact hn (by rw [e, hp]); omega)).trans (h.block k hk hn)⟩
theorem Row.grw {w w' : World} {a : Option Addr} {n : Nat} {xs : List Int} {r : Option Nat} (h : Row w a n xs) (hg : w.grownBy w' r) (hne : ∀ g o, 0 < n → a = some ⟨g, o, none⟩ → some g ≠ r) : Row w' a n xs :=
  ⟨h.1, fun i hi => by
    obtain ⟨b, off, h1, h3, h2⟩ := h.2 i hi
    exact ⟨b, off, h1, Nat.lt_of_lt_of_le h3 hg.size, hg.cell (a := ⟨b, off + i, none⟩) h2 (hne b off (by omega) h1)⟩⟩
/-- a row of a table turns, in its own block -/
theorem OwnT.rowg {w w' : World} {lo : Nat} {a : Option Addr} {n c : Nat} {vs : List SV} {xss : List (List Int)} (h : OwnT w lo a n c vs xss) (i : Nat) (hi : i < n) {g : Nat} (hg : (vs.getD i svO).1 = some ⟨g, 0, none⟩) {ys : List Int} (ho : Own w' lo (vs.getD i svO).1 (vs.getD i svO).2.1 (vs.getD i svO).2.2 ys) (hw : w.grownBy w' (some g)) :
    OwnT w' lo a n c vs (xss.set i ys) := by
  have hl := h.len
  refine ⟨by simp [hl], h.vlen, ?_, fun k hk => ?_, h.ap, h.pw⟩
  · rcases h.block with ⟨h1, h2, h3⟩ | ⟨g', cur, e1, e2, e3, e4, e5, e6, e7⟩
    · omega
    · subst e1
      exact ownsRow_mk h.vlen e2 (e3.grown hw (fun e => h.ap i hi g' rfl (by rw [hg]; cases e; rfl))) e4 e5 e6 e7
  · rw [getD_set' _ _ _ _ _ (by omega)]
    by_cases e : k = i
    · subst e; rw [if_pos rfl]; exact ho
    · rw [if_neg e]
      exact (h.row k hk).grown hw (fun g' hg' e' => h.pw k i hk hi e g' hg' (by rw [hg]; cases e'; rfl))

/-- the first k places of a row are turned -/
def updK (f : Nat → Int) (a : List Int) (k : Nat) : List Int := (List.range a.length).map fun i => if i < k then f i else gv a i
theorem updK_len (f : Nat → Int) (a : List Int) (k : Nat) : (updK f a k).length = a.length := by simp [updK]
theorem updK_gv {f : Nat → Int} {a : List Int} {k i : Nat} (h : i < a.length) : gv (updK f a k) i = if i < k then f i else gv a i := gv_map _ h
theorem gv_ext {a b : List Int} (hl : a.length = b.length) (h : ∀ i, i < a.length → gv a i = gv b i) : a = b := by
  refine List.ext_getElem hl fun i h1 h2 => ?_
  have := h i h1
  unfold gv at this
  simpa [List.getD_eq_getElem?_getD, h1, h2] using this
theorem gv_set {a : List Int} {j i : Nat} {x : Int} (h : i < a.length) : gv (a.set j x) i = if i = j then x else gv a i := by
  unfold gv
  simp only [List.getD_eq_getElem?_getD, List.getElem?_set]
  by_cases e : i = j
  · subst e; simp [h]
  · rw [if_neg e, if_neg (fun h => e h.symm)]
theorem updK_zero (f : Nat → Int) (a : List Int) : updK f a 0 = a := gv_ext (updK_len _ _ _) fun i hi => by rw [updK_len] at hi; rw [updK_gv hi, if_neg (by omega)]
theorem updK_full {f : Nat → Int} {a : List Int} {k : Nat} (h : a.length ≤ k) : updK f a k = (List.range a.length).map f := gv_ext (by rw [updK_len]; simp) fun i hi => by
  rw [updK_len] at hi; rw [updK_gv hi, if_pos (by omega), gv_map _ hi]
theorem updK_step {f : Nat → Int} {a : List Int} {k : Nat} (h : k < a.length) : (updK f a k).set k (f k) = updK f a (k + 1) := gv_ext (by simp [updK_len]) fun i hi => by
  rw [List.length_set, updK_len] at hi
  rw [gv_set (by rw [updK_len]; exact hi), updK_gv hi, updK_gv hi]
  by_cases e : i = k
  · subst e; rw [if_pos rfl, if_pos (by omega)]
  · rw [if_neg e]
    by_cases q : i < k
    · rw [if_pos q, if_pos (by omega)]
    · rw [if_neg q, if_neg (by omega)]
theorem updK_at {f : Nat → Int} {a : List Int} {k : Nat} (h : k < a.length) : (updK f a k).getD k 0 = gv a k := by
  have := updK_gv (f := f) (a := a) (k := k) h
  unfold gv at this ⊢
  rw [this, if_neg (by omega)]
theorem mul_bd {x y : Int} (h0 : 0 ≤ x) (h1 : x ≤ 7) (g0 : 0 ≤ y) (g1 : y ≤ 7) : 0 ≤ x * y ∧ x * y ≤ 49 :=
  ⟨Int.mul_nonneg h0 g0, by have : x * y ≤ 7 * 7 := Int.mul_le_mul h1 g1 g0 (by omega); omega⟩

set_option maxHeartbeats 1000000 in
theorem addRow_ok (p t : Int) (g n c lo : Nat) (xs ys : List Int) (a2 : Option Addr) (c2 : Nat) (w : World) (ho : Own w lo (some ⟨g, 0, none⟩) n c xs) (hr : Row w a2 n ys) (hne : ∀ o, a2 ≠ some ⟨g, o, none⟩) (hn : n ≤ 1000000)
    (p2 : 2 ≤ p ∧ p ≤ 7) (ht : 0 ≤ t ∧ t ≤ 7) (hx : Vec p n xs) (hy : Vec p n ys) :
    Calls Tryz.prog 157 #[.int .i64 p, .slice (some ⟨g, 0, none⟩) n c, .slice a2 n c2, .int .i64 t] w fun e w' => e = .returned (.tuple #[]) ∧ Own w' lo (some ⟨g, 0, none⟩) n c (addL p t xs ys) ∧ w.grownBy w' (some g) := by
  have HX := Lib.hid hx; have HY := Lib.hid hy; have HN := Lib.hid hne; have HR := Lib.hid hr
  clear hx hy hne hr
  have p0 : p ≠ 0 := by omega
  obtain ⟨f, hf⟩ : ∃ f : Nat → Int, (fun i => (gv xs i + t * gv ys i) % p) = f := ⟨_, rfl⟩
  have HF := Lib.hid hf; clear hf
  have hfull : Hid (∀ k, n ≤ k → updK f xs k = addL p t xs ys) := Lib.hid fun k hk => by rw [updK_full (by have := HX.out.1; omega), ← HF.out]; rfl
  go_enter Tryz.func157, Tryz.ntmps157
  go_wp2
  go_loopw [12] (fun i wr => ∃ k : Nat, k ≤ n ∧ i = .int .i64 k ∧ Own wr lo (some ⟨g, 0, none⟩) n c (updK f xs k) ∧ w.grownBy wr (some g)) (fun i _ => n - (intOf i).toNat)
  case atStart => exact ⟨0, Nat.zero_le _, rfl, by rw [updK_zero]; exact ho, grw_refl _ _⟩
  case round =>
    clear ho
    obtain ⟨k, hk, rfl, ho, hg⟩ := hrel
    by_cases hlt : k < n
    · have hr2 := HR.out.grw hg (fun g' o _ e h => by cases h; exact HN.out o e)
      obtain ⟨b, off, rfl, g1'⟩ := hr2.at k hlt
      clear hr2
      obtain ⟨_, hc, hf⟩ := ho.cells
      have hc1 := hc k hlt
      have hf1 := hf k
      clear hc hf
      rw [updK_at (by have := HX.out.1; omega)] at hc1
      have hX := HX.out.2 k hlt
      have hY := HY.out.2 k hlt
      have hst : (updK f xs k).set k ((gv xs k + t * gv ys k) % p) = updK f xs (k + 1) := by
        have := updK_step (f := f) (a := xs) (k := k) (by have := HX.out.1; omega)
        rw [← this, ← HF.out]
      have g1 : wr.cell? ⟨b, off + k, none⟩ = some (.int .i64 (gv ys k)) := g1'
      clear g1'
      generalize gv xs k = X at *
      generalize gv ys k = Y at *
      have hm := mul_bd ht.1 ht.2 hY.1 (by omega)
      have hmw : IntKind.i64.wrap (t * Y) = t * Y := IntWalk.i64_in _ (by omega)
      have hsw : IntKind.i64.wrap (X + t * Y) = X + t * Y := IntWalk.i64_in _ (by omega)
      have hrw : (X + t * Y).tmod p = (X + t * Y) % p := IntWalk.rem_in _ _ (by omega)
      have HST := Lib.hid hst; clear hst hX hY hm
      go_wp2
      go_roundw
      case rel =>
        refine ⟨k + 1, by omega, by go_num, ?_, grw_set hg (.inl rfl) _⟩
        rw [← HST.out]
        exact ho.set k _
      case measure => first | (simp [intOf]; done) | (simp [intOf]; omega)
    · obtain rfl : k = n := by omega
      rw [hfull.out k (by omega)] at ho
      go_wp2
      go_end0
      exact ⟨rfl, ho, hg⟩

set_option maxHeartbeats 1000000 in
theorem scaleRow_ok (p t : Int) (g n c lo : Nat) (xs : List Int) (w : World) (ho : Own w lo (some ⟨g, 0, none⟩) n c xs) (hn : n ≤ 1000000)
    (p2 : 2 ≤ p ∧ p ≤ 7) (ht : 0 ≤ t ∧ t ≤ 7) (hx : Vec p n xs) :
    Calls Tryz.prog 158 #[.int .i64 p, .slice (some ⟨g, 0, none⟩) n c, .int .i64 t] w fun e w' => e = .returned (.tuple #[]) ∧ Own w' lo (some ⟨g, 0, none⟩) n c (sclL p t xs) ∧ w.grownBy w' (some g) := by
  have HX := Lib.hid hx
  clear hx
  have p0 : p ≠ 0 := by omega
  obtain ⟨f, hf⟩ : ∃ f : Nat → Int, (fun i => gv xs i * t % p) = f := ⟨_, rfl⟩
  have HF := Lib.hid hf; clear hf
  have hfull : Hid (∀ k, n ≤ k → updK f xs k = sclL p t xs) := Lib.hid fun k hk => by rw [updK_full (by have := HX.out.1; omega), ← HF.out]; rfl
  go_enter Tryz.func158, Tryz.ntmps158
  go_wp2
  go_loopw [9] (fun i wr => ∃ k : Nat, k ≤ n ∧ i = .int .i64 k ∧ Own wr lo (some ⟨g, 0, none⟩) n c (updK f xs k) ∧ w.grownBy wr (some g)) (fun i _ => n - (intOf i).toNat)
  case atStart => exact ⟨0, Nat.zero_le _, rfl, by rw [updK_zero]; exact ho, grw_refl _ _⟩
  case round =>
    clear ho
    obtain ⟨k, hk, rfl, ho, hg⟩ := hrel
    by_cases hlt : k < n
    · obtain ⟨_, hc, hf⟩ := ho.cells
      have hc1 := hc k hlt
      have hf1 := hf k
      clear hc hf
      rw [updK_at (by have := HX.out.1; omega)] at hc1
      have hX := HX.out.2 k hlt
      have hst : (updK f xs k).set k (gv xs k * t % p) = updK f xs (k + 1) := by
        have := updK_step (f := f) (a := xs) (k := k) (by have := HX.out.1; omega)
        rw [← this, ← HF.out]
      generalize gv xs k = X at *
      have hm := mul_bd hX.1 (by omega) ht.1 ht.2
      have hmw : IntKind.i64.wrap (X * t) = X * t := IntWalk.i64_in _ (by omega)
      have hrw : (X * t).tmod p = X * t % p := IntWalk.rem_in _ _ (by omega)
      have HST := Lib.hid hst; clear hst hX hm
      go_wp2
      go_roundw
      case rel =>
        refine ⟨k + 1, by omega, by go_num, ?_, grw_set hg (.inl rfl) _⟩
        rw [← HST.out]
        exact ho.set k _
      case measure => first | (simp [intOf]; done) | (simp [intOf]; omega)
    · obtain rfl : k = n := by omega
      rw [hfull.out k (by omega)] at ho
      go_wp2
      go_end0
      exact ⟨rfl, ho, hg⟩

theorem addL_take {p t : Int} {a b : List Int} {j : Nat} (h : j < a.length) : (addL p t a b).take (j + 1) = (addL p t a b).take j ++ [(gv a j + t * gv b j) % p] := by
  have hx : j < (addL p t a b).length := by rw [addL_len]; exact h
  rw [List.take_succ_eq_append_getElem hx]
  simp [addL]

set_option maxHeartbeats 2000000 in
theorem l15Less_ok (p f : Int) (a1 a2 : Option Addr) (n c1 c2 : Nat) (xs ys : List Int) (w : World) (h1 : Row w a1 n xs) (h2 : Row w a2 n ys) (hn : n ≤ 1000000)
    (p2 : 2 ≤ p ∧ p ≤ 7) (ht : 0 ≤ p - f ∧ p - f ≤ 7) (hx : Vec p n xs) (hy : Vec p n ys) :
    Calls Tryz.prog 165 #[.slice a1 n c1, .slice a2 n c2, .int .i64 f, .int .i64 p] w fun e w' => ∃ a c, e = .returned (.slice a n c) ∧ Own w' w.heap.size a n c (addL p (p - f) xs ys) ∧ Below w.heap.size w w' := by
  have HX := Lib.hid hx; have HY := Lib.hid hy
  clear hx hy
  have p0 : p ≠ 0 := by omega
  obtain ⟨t, hT⟩ : ∃ t, p - f = t := ⟨_, rfl⟩
  have hWT : IntKind.i64.wrap (p - f) = t := by rw [hT]; exact IntWalk.i64_in _ (by omega)
  rw [hT] at ht ⊢
  clear hT
  have hlen : Hid (∀ k, n ≤ k → (addL p t xs ys).take k = addL p t xs ys) := Lib.hid fun k hk => List.take_of_length_le (by rw [addL_len]; have := HX.out.1; omega)
  go_enter Tryz.func165, Tryz.ntmps165
  go_wp2
  have ho := Own.fresh w rfl
  have hb := below_al (Below.refl w.heap.size w) (.cells #[] 2)
  go_loopw [9, 10] (fun z i wr => ∃ (k : Nat) (a' : Option Addr) (c' : Nat), k ≤ n ∧ i = .int .i64 k ∧ z = .slice a' k c' ∧ Own wr w.heap.size a' k c' ((addL p t xs ys).take k) ∧ Below w.heap.size w wr) (fun _ i _ => n - (intOf i).toNat)
  case atStart => exact ⟨0, _, _, Nat.zero_le _, rfl, rfl, by simpa using ho, hb⟩
  case round =>
    clear ho hb
    obtain ⟨k, a', c', hk, rfl, rfl, ho, hb⟩ := hrel
    by_cases hlt : k < n
    · obtain ⟨b1, o1, rfl, d1⟩ := h1.at k hlt
      obtain ⟨b2, o2, rfl, d2⟩ := h2.at k hlt
      clear h1 h2
      have z1 : b1 < w.heap.size := World.block_lt_of_cell? w _ d1
      have z2 : b2 < w.heap.size := World.block_lt_of_cell? w _ d2
      have d1 : wr.cell? ⟨b1, o1 + k, none⟩ = some (.int .i64 (gv xs k)) := (hb.cell (p := ⟨b1, o1 + k, none⟩) z1).trans d1
      have d2 : wr.cell? ⟨b2, o2 + k, none⟩ = some (.int .i64 (gv ys k)) := (hb.cell (p := ⟨b2, o2 + k, none⟩) z2).trans d2
      have hX := HX.out.2 k hlt
      have hY := HY.out.2 k hlt
      have hst := addL_take (p := p) (t := t) (a := xs) (b := ys) (j := k) (by have := HX.out.1; omega)
      have hwr := hb.size
      generalize gv xs k = X at *
      generalize gv ys k = Y at *
      have hm := mul_bd ht.1 ht.2 hY.1 (by omega)
      have hmw : IntKind.i64.wrap (t * Y) = t * Y := IntWalk.i64_in _ (by omega)
      have hsw : IntKind.i64.wrap (X + t * Y) = X + t * Y := IntWalk.i64_in _ (by omega)
      have hrw : (X + t * Y).tmod p = (X + t * Y) % p := IntWalk.rem_in _ _ (by omega)
      have HST := Lib.hid hst; clear hst hX hY hm
      go_wp2
      go_region_held3 (fun w' => w'.cell? ⟨b1, o1 + k, none⟩ = some (.int .i64 X) ∧ w'.cell? ⟨b2, o2 + k, none⟩ = some (.int .i64 Y))
        (first | exact ⟨d1, d2⟩ | exact ⟨hK1, hK2⟩ | go_keep)
        (first
        | (refine step_app1 rfl rfl ho rfl rfl ?_ ?_ ?_; (omega); (omega); intro g' cc w5 hO hg5 hs5 hb5; have hK1 := (hb5.cell (p := ⟨b1, o1 + k, none⟩) (z1)).trans d1; have hK2 := (hb5.cell (p := ⟨b2, o2 + k, none⟩) (z2)).trans d2))
      all_goals
        go_wp2
        go_roundw
        case rel =>
          refine ⟨k + 1, _, _, by omega, by go_num, rfl, ?_, hb.trans hb5⟩
          rw [HST.out]
          exact hO
        case measure => simp [intOf]; omega
    · obtain rfl : k = n := by omega
      rw [hlen.out k (by omega)] at ho
      go_wp2
      go_ret
      exact ⟨_, _, rfl, ho, hb⟩
end Go.Proofs.YtnlgmhckjpifiaaGreat
