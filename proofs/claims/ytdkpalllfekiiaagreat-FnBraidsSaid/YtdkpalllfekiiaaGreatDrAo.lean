/-
  The reference's draw of another word of a braid: its shape. (under way)
  No condition but bounds.
-/
import Derived.Test.YtdkpalllfekiiaaGreatDrawT
import Derived.Deep.DeepCutAuto
namespace Go.Proofs.YtdkpalllfekiiaaGreat
set_option maxRecDepth 100000
set_option linter.unusedVariables false
set_option linter.unusedSimpArgs false
open Go.RowKit

/-- what the loop keeps -/
structure OtI (w wr : World) (b B5 S : Nat) (a : Option Addr) (n c : Nat) (a5 : Option Addr) (n5 c5 : Nat) (us : List Int) : Prop where
  n30 : n5 ≤ 30
  sml : Sml us
  src : Src wr b
  box : Loc wr w.heap.size #[.int .i64 S, .slice a n c] 26
  res : Loc wr (w.heap.size + 1) #[.int .i64 0, .slice none 0 0] 26
  out : Loc wr B5 #[.int .i64 S, .slice a5 n5 c5] 26
  own : Own wr (w.heap.size + 2) a5 n5 c5 us
  gr : w.grownBy wr (some b)
theorem OtI.grown {w wr wx : World} {b B5 S : Nat} {a : Option Addr} {n c : Nat} {a5 : Option Addr} {n5 c5 : Nat} {us : List Int} (h : OtI w wr b B5 S a n c a5 n5 c5 us) (hs : Src wx b) (hg : wr.grownBy wx (some b)) (hb : b < w.heap.size) (h5 : w.heap.size + 2 ≤ B5) : OtI w wx b B5 S a n c a5 n5 c5 us :=
  ⟨h.n30, h.sml, hs, h.box.grown hg (by simp; omega), h.res.grown hg (by simp; omega), h.out.grown hg (by simp; omega), h.own.grown hg (fun g e => by have := h.own.lo g e; simp; omega), grown_trans h.gr hg⟩

theorem OtI.upd {w wr wx : World} {b B5 S : Nat} {a : Option Addr} {n c : Nat} {a5 : Option Addr} {n5 c5 : Nat} {us : List Int} {row : Option Nat} (h : OtI w wr b B5 S a n c a5 n5 c5 us) (hg : wr.grownBy wx row) (hb : Below (w.heap.size + 2) wr wx) (hbw : b < w.heap.size) (h1 : some B5 ≠ row) (h2 : ∀ g, a5 = some ⟨g, 0, none⟩ → some g ≠ row) : OtI w wx b B5 S a n c a5 n5 c5 us :=
  ⟨h.n30, h.sml, h.src.keepB hb (by omega), h.box.below hb (by omega), h.res.below hb (by omega), h.out.grown hg h1, h.own.grown hg h2, grown_below h.gr hb (by omega)⟩
theorem OtI.alloc {w wr : World} {b B5 S : Nat} {a : Option Addr} {n c : Nat} {a5 : Option Addr} {n5 c5 : Nat} {us : List Int} (h : OtI w wr b B5 S a n c a5 n5 c5 us) (o : Obj) (hbw : b < w.heap.size) (hz : w.heap.size + 2 ≤ wr.heap.size) : OtI w (wr.alloc o) b B5 S a n c a5 n5 c5 us :=
  h.upd (World.grownBy_alloc wr o none) ((Below.refl _ _).alloc hz o) hbw (by simp) (fun _ _ => by simp)
/-- a new word is stored -/
theorem OtI.put2 {w wr : World} {b B5 S : Nat} {a : Option Addr} {n c : Nat} {v : Value} (hsr : Src wr b) (hbx : Loc wr w.heap.size #[.int .i64 S, .slice a n c] 26) (hrs : Loc wr (w.heap.size + 1) #[.int .i64 0, .slice none 0 0] 26) (hL : Loc wr B5 #[.int .i64 S, v] 26) (hg : w.grownBy wr (some b)) {a6 : Option Addr} {n6 c6 : Nat} {vs : List Int} (h6 : n6 ≤ 30) (hs : Sml vs) (ho : Own wr (w.heap.size + 2) a6 n6 c6 vs) (hbw : b < w.heap.size) (h5 : w.heap.size + 2 ≤ B5) :
    OtI w (wr.setCell ⟨B5, 1, none⟩ (.slice a6 n6 c6)) b B5 S a n c a6 n6 c6 vs :=
  ⟨h6, hs, hsr.setne (p := ⟨B5, 1, none⟩) (by show b < B5; omega) _, hbx.setne (by show w.heap.size ≠ B5; omega) _, hrs.setne (by show w.heap.size + 1 ≠ B5; omega) _, hL.set 1 _, ho.setne (fun g e => by
    subst e
    exact ho.ne_loc hL (by decide)) _, grown_set hg (.inr (by show w.heap.size ≤ B5; omega)) _⟩
/-- a letter of the word is stored in its place -/
theorem OtI.letter {w wr : World} {b B5 S : Nat} {a : Option Addr} {n c g n5 c5 : Nat} {us : List Int} (h : OtI w wr b B5 S a n c (some ⟨g, 0, none⟩) n5 c5 us) (hbw : b < w.heap.size) (i : Nat) {x : Int} (hx : -100 ≤ x ∧ x ≤ 100) :
    OtI w (wr.setCell ⟨g, i, none⟩ (.int .i64 x)) b B5 S a n c (some ⟨g, 0, none⟩) n5 c5 (us.set i x) :=
  have hlo := h.own.lo g rfl
  ⟨h.n30, fun y hy => by
    rcases List.mem_or_eq_of_mem_set hy with q | rfl
    · exact h.sml _ q
    · exact hx, h.src.setne (p := ⟨g, i, none⟩) (by show b < g; omega) _, h.box.setne (by show w.heap.size ≠ g; omega) _, h.res.setne (by show w.heap.size + 1 ≠ g; omega) _, h.out.setne (by exact (h.own.ne_loc h.out (by decide)).symm) _, h.own.set i x, grown_set h.gr (.inr (by show w.heap.size ≤ g; omega)) _⟩
theorem sml_at {xs : List Int} (h : Sml xs) (i : Nat) : -100 ≤ xs.getD i 0 ∧ xs.getD i 0 ≤ 100 := by
  rw [List.getD_eq_getElem?_getD]
  cases e : xs[i]? with
  | none => simp
  | some x => exact h x (List.mem_of_getElem? e)
theorem getD_set_ne2 {xs : List Int} {i j : Nat} {x : Int} (h : j ≠ i) : (xs.set j x).getD i 0 = xs.getD i 0 := by
  rw [List.getD_eq_getElem?_getD, List.getD_eq_getElem?_getD, List.getElem?_set_ne h]
theorem getD_set_eq2 {xs : List Int} {i : Nat} {x : Int} (h : i < xs.length) : (xs.set i x).getD i 0 = x := by
  rw [List.getD_eq_getElem?_getD, List.getElem?_set_self h]; rfl
theorem OtI.drewN {w wr : World} {b B5 S : Nat} {a : Option Addr} {n c : Nat} {a5 : Option Addr} {n5 c5 : Nat} {us : List Int} (h : OtI w wr b B5 S a n c a5 n5 c5 us) (k : Nat) : OtI w (wr.drewN k) b B5 S a n c a5 n5 c5 us :=
  ⟨h.n30, h.sml, h.src, h.box.drewN k, h.res.drewN k, h.out.drewN k, h.own.drewN k, grown_drewN h.gr k⟩
theorem sml_app {xs ys : List Int} (h1 : Sml xs) (h2 : Sml ys) : Sml (xs ++ ys) := fun x hx => (List.mem_append.1 hx).elim (h1 x) (h2 x)
theorem sml_take {xs : List Int} (h : Sml xs) (k : Nat) : Sml (xs.take k) := fun x hx => h x (List.mem_of_mem_take hx)
theorem sml_drop {xs : List Int} (h : Sml xs) (k : Nat) : Sml (xs.drop k) := fun x hx => h x (List.mem_of_mem_drop hx)
theorem rowTake {w : World} {a : Option Addr} {n : Nat} {xs : List Int} (h : Row w a n xs) (m : Nat) (hm : m ≤ n) : Row w a m (xs.take m) := by
  refine ⟨by rw [List.length_take, ← h.len]; omega, fun i hi => ?_⟩
  obtain ⟨b, off, e1, e2, e3⟩ := h.2 i (by omega)
  refine ⟨b, off, e1, e2, ?_⟩
  rw [e3]
  simp [List.getD_eq_getElem?_getD, List.getElem?_take, hi]
theorem rowDrop {w : World} {g n : Nat} {xs : List Int} (h : Row w (some ⟨g, 0, none⟩) n xs) (q : Nat) (hq : q ≤ n) : Row w (some ⟨g, q, none⟩) (n - q) (xs.drop q) := by
  refine ⟨by rw [List.length_drop, h.len], fun i hi => ?_⟩
  obtain ⟨b, off, e1, e2, e3⟩ := h.2 (q + i) (by omega)
  cases e1
  refine ⟨g, q, rfl, e2, ?_⟩
  rw [Nat.zero_add] at e3
  rw [e3]
  simp [List.getD_eq_getElem?_getD]
theorem own_lit2 (w : World) (x y : Int) (lo : Nat) (hl : lo ≤ w.heap.size) : Own (w.alloc (.cells #[.int .i64 x, .int .i64 y] 2)) lo (some ⟨w.heap.size, 0, none⟩) 2 2 [x, y] :=
  ⟨rfl, by simp, .inr ⟨w.heap.size, 2, #[.int .i64 x, .int .i64 y], rfl, hl, Loc.new w rfl _ _, Nat.le_refl _, by unfold maxLen; omega, rfl, rfl⟩⟩

set_option maxHeartbeats 100000000 in
theorem l16Other_ok (b S : Nat) (a : Option Addr) (n c : Nat) (xs : List Int) (w : World) (hs : Src w b) (hS : 2 ≤ S ∧ S ≤ 10) (hr : Row w a n xs) (hn : n ≤ 30) (hsm : Sml xs) :
    Calls Tryz.prog 28 #[.pointer (some ⟨b, 0, none⟩), bAgg S a n c] w fun e w' => ∃ a' n' c' ys, e = .returned (bAgg S a' n' c') ∧ n' ≤ 30 ∧ Sml ys ∧ Own w' w.heap.size a' n' c' ys ∧ Src w' b ∧ w.grownBy w' (some b) := by
  have hlt := hs.lt
  obtain ⟨W0, hW0⟩ : ∃ W0, (w.alloc (.cells #[.int .i64 S, .slice a n c] 26)).alloc (.cells #[.int .i64 0, .slice none 0 0] 26) = W0 := ⟨_, rfl⟩
  have hA : Loc W0 w.heap.size #[.int .i64 S, .slice a n c] 26 := by rw [← hW0]; exact (Loc.new w rfl _ _).alloc _
  have hR : Loc W0 (w.heap.size + 1) #[.int .i64 0, .slice none 0 0] 26 := by rw [← hW0]; exact Loc.new _ (by simp) _ _
  have hB0 : Below w.heap.size w W0 := by rw [← hW0]; exact below_al (below_al (Below.refl _ _) _) _
  have HZ0 : Hid (W0.heap.size = w.heap.size + 2) := Lib.hid (by rw [← hW0]; simp)
  have hz0 : w.heap.size + 2 ≤ W0.heap.size := by have := HZ0.out; omega
  have hr0 := hr.below hB0
  have HW0 := Lib.hid hW0
  clear hW0
  have lA := hA.two
  go_enter Tryz.func28, Tryz.ntmps28
  go_upto_region 1 with fail
  rw [HW0.out]
  go_cut [5] (fun s5 wx => ∃ (B5 : Nat) (a5 : Option Addr) (c5 : Nat), s5 = .pointer (some ⟨B5, 0, none⟩) ∧ w.heap.size + 2 ≤ B5 ∧ Loc wx B5 #[.int .i64 S, .slice a5 n c5] 26 ∧ Own wx (w.heap.size + 2) a5 n c5 xs ∧ Below W0.heap.size W0 wx)
  case first => as_aux_lemma =>
    have hqA : Below W0.heap.size W0 ((W0.alloc (.cells #[.int .i64 0, .slice none 0 0] 26)).drewN 1) := below_drewN (below_al (Below.refl _ _) _) 1
    have hqB : Below W0.heap.size W0 (W0.drewN 1) := below_drewN (Below.refl _ _) 1
    have hOA := (Loc.new W0 rfl #[.int .i64 0, .slice none 0 0] 26).drewN 1
    go_region_held3 (fun v => v.cell? ⟨w.heap.size, 0, none⟩ = some (.int .i64 S) ∧ v.cell? ⟨w.heap.size, 1, none⟩ = some (.slice a n c))
      (first | exact lM | exact l4 | exact ⟨lA.1, lA.2.1⟩ | go_keep)
      (first
        | (go_at_call 54; refine (l01Own_any a n c xs ((W0.alloc (.cells #[.int .i64 0, .slice none 0 0] 26)).drewN 1) (hr0.below hqA) (by omega)).mono ?_; rintro e w4 ⟨a5, c5, rfl, ho5, hb5⟩; have kindA : True := trivial; have q4 := below_th hqA hb5; have hO4 := hOA.below hb5 hOA.lt; have lO4 := hO4.two; have l4 : w4.cell? ⟨w.heap.size, 0, none⟩ = some (.int .i64 S) ∧ w4.cell? ⟨w.heap.size, 1, none⟩ = some (.slice a n c) := ⟨(hA.below q4 hA.lt).two.1, (hA.below q4 hA.lt).two.2.1⟩; have l5 := (((hA.below q4 hA.lt).setne (a := ⟨W0.heap.size, 0, none⟩) (by show w.heap.size ≠ W0.heap.size; omega) (.int .i64 S)).setne (a := ⟨W0.heap.size, 1, none⟩) (by show w.heap.size ≠ W0.heap.size; omega) (.slice a5 n c5)).two; have lM := (⟨l5.1, l5.2.1⟩ : _ ∧ _))
        | (go_at_call 54; refine (l01Own_any a n c xs (W0.drewN 1) (hr0.below hqB) (by omega)).mono ?_; rintro e w4 ⟨a5, c5, rfl, ho5, hb5⟩; have kindB : True := trivial; have q4 := below_th hqB hb5; have l4 : w4.cell? ⟨w.heap.size, 0, none⟩ = some (.int .i64 S) ∧ w4.cell? ⟨w.heap.size, 1, none⟩ = some (.slice a n c) := ⟨(hA.below q4 hA.lt).two.1, (hA.below q4 hA.lt).two.2.1⟩))
    all_goals first
    | (have kind := kindA
       have hlt8 : W0.heap.size < ((W0.alloc (.cells #[.int .i64 0, .slice none 0 0] 26)).drewN 1).heap.size := by simp
       have hr9 := (((ho5.setlo (p := ⟨W0.heap.size, 0, none⟩) hlt8 (.int .i64 S)).setlo (p := ⟨W0.heap.size, 1, none⟩) hlt8 (.slice a5 n c5))).mono (show w.heap.size + 2 ≤ _ by omega)
       have hL9 := (hO4.set 0 (.int .i64 S)).set 1 (.slice a5 n c5)
       have hG9 := below_setne (a := ⟨W0.heap.size, 1, none⟩) (below_setne (a := ⟨W0.heap.size, 0, none⟩) q4 (Nat.le_refl _) (.int .i64 S)) (Nat.le_refl _) (.slice a5 n c5)
       go_wp2
       go_meet
       exact ⟨W0.heap.size, a5, c5, rfl, hz0, hL9, hr9, hG9⟩)
    | (have kind := kindB
       have hz4 := q4.size
       have hr9 := (ho5.alloc (.cells #[.int .i64 S, .slice a5 n c5] 26)).mono (show w.heap.size + 2 ≤ _ from hz0)
       have hL9 := Loc.new w4 rfl #[.int .i64 S, .slice a5 n c5] 26
       have hG9 := below_al q4 (.cells #[.int .i64 S, .slice a5 n c5] 26)
       go_wp2
       go_meet
       exact ⟨w4.heap.size, a5, c5, rfl, by omega, hL9, hr9, hG9⟩)
  case rest =>
  obtain ⟨B5, a5, c5, rfl, h5, hL5, hO5, hbc⟩ := hcut
  have hI : OtI w wc b B5 S a n c a5 n c5 xs := ⟨hn, hsm, (hs.below hB0).below hbc, hA.below hbc hA.lt, hR.below hbc hR.lt, hL5, hO5, grown_trans (grown_of_below hB0 (some b)) (grown_of_below hbc (some b))⟩
  clear hL5 hO5 hbc hA hR hB0 hr0 lA hs hsm hr
  go_wp2
  go_loopw [6] (fun s6 wr => ∃ (k : Nat) (a5 : Option Addr) (n5 c5 : Nat) (us : List Int), k ≤ 20 ∧ s6 = .int .i64 k ∧ OtI w wr b B5 S a n c a5 n5 c5 us) (fun s6 _ => 20 - (intOf s6).toNat)
  case atStart => exact ⟨0, a5, n, c5, xs, by omega, rfl, hI⟩
  case round =>
    clear hI
    obtain ⟨k, a5, n5, c5, us, hk, rfl, hI⟩ := hrel
    by_cases hlt2 : k < 20
    · have l5 := hI.out.two
      have hn30 := hI.n30
      go_wp2_with fail
      refine (l01Next_ok b ((n5 : Int) + 1) _ hI.src ⟨by omega, by omega⟩).mono ?_
      rintro e w2 ⟨y, rfl, _, hy, hs2, hg2⟩
      obtain ⟨hy1, hy2⟩ := hy (by omega)
      obtain ⟨i, rfl⟩ : ∃ i : Nat, y = i := ⟨y.toNat, by omega⟩
      have hI2 := hI.grown hs2 hg2 hlt h5
      have l52 := hI2.out.two
      clear hy hI l5
      go_upto_region 7 with fail
      go_cut [31] (fun s31 wx => ∃ t : Bool, s31 = .bool t ∧ (t = true → n5 + 2 ≤ 30) ∧ OtI w wx b B5 S a n c a5 n5 c5 us)
      case first => as_aux_lemma =>
        go_wp2_with fail
        refine (l01Next_ok b 5 _ hI2.src ⟨by omega, by omega⟩).mono ?_
        rintro e w3 ⟨z, rfl, _, hz, hs3, hg3⟩
        have hI3 := hI2.grown hs3 hg3 hlt h5
        by_cases z0 : z = 0
        · subst z0
          by_cases h28 : n5 + 2 ≤ 30
          · have hd : decide ((n5 : Int) + 2 ≤ 30) = true := by simp; omega
            go_wp2
            go_meet
            exact ⟨true, rfl, fun _ => h28, hI3⟩
          · have hd : decide ((n5 : Int) + 2 ≤ 30) = false := by simp; omega
            go_wp2
            go_meet
            exact ⟨false, rfl, fun e => by simp at e, hI3⟩
        · have hzb : (z == 0) = false := by simpa using z0
          go_wp2
          go_meet
          exact ⟨false, rfl, fun e => by simp at e, hI3⟩
      case rest =>
      obtain ⟨t, rfl, ht, hI3⟩ := hcut
      clear hI2 l52 hs2 hg2
      cases t with
      | true => as_aux_lemma =>
        have h28 := ht rfl
        have lA := hI3.box.two
        have hwS : IntKind.i64.wrap ((S : Int) - 1) = (S : Int) - 1 := IntWalk.i64_in _ (by omega)
        go_wp2_with fail
        refine (l01Next_ok b ((S : Int) - 1) _ hI3.src ⟨by omega, by omega⟩).mono ?_
        rintro e w4 ⟨z, rfl, _, hz, hs4, hg4⟩
        obtain ⟨hz1, hz2⟩ := hz (by omega)
        have hI4 := hI3.grown hs4 hg4 hlt h5
        obtain ⟨K, hK⟩ : ∃ K, 1 + z = K := ⟨_, rfl⟩
        have hwK : IntKind.i64.wrap (1 + z) = K := by rw [hK]; exact IntWalk.i64_in _ (by omega)
        have hwN : IntKind.i64.wrap (-K) = -K := IntWalk.i64_in _ (by omega)
        have hKb : 1 ≤ K ∧ K ≤ 9 := by omega
        clear hK hz hI3 lA hwS hs4 hg4
        go_upto_region 9 with fail
        go_cut [10] (fun s10 wx => ∃ (a6 : Option Addr) (c6 : Nat) (rs : List Int), s10 = .slice a6 (2 + (n5 - i)) c6 ∧ Sml rs ∧ Own wx (w.heap.size + 2) a6 (2 + (n5 - i)) c6 rs ∧ OtI w wx b B5 S a n c a5 n5 c5 us)
        case first => as_aux_lemma =>
          have hzw : w.heap.size + 2 ≤ w4.heap.size := by have := hI4.out.lt; omega
          have hIA := hI4.alloc (.cells #[.int .i64 K, .int .i64 (-K)] 2) hlt hzw
          have hB4 := hI4.out.lt
          have hH4 := Lib.hid hI4.own.hi
          have hsK : Sml [K, -K] := fun x hx => by simp at hx; omega
          have hOL := own_lit2 w4 K (-K) (w.heap.size + 2) hzw
          rcases hI4.own.block with ⟨rfl, rfl, rfl⟩ | ⟨g, cur, rfl, hg, _⟩
          · obtain rfl : i = 0 := by omega
            go_wp2_with (at_builtin; refine appL rfl rfl hOL rfl (Row.nil _ _) rfl (by omega) (by simp; omega) ?_; intro ad' c' w5 hO hg5 hb5)
            go_meet
            exact ⟨ad', c', _, rfl, sml_app hsK (fun x hx => by cases hx), hO, hIA.upd hg5 hb5 hlt (by simp [Value.ownBlock]; omega) (fun g e => by cases e)⟩
          · have hrd := (rowDrop hI4.own.row i (by omega)).alloc (.cells #[.int .i64 K, .int .i64 (-K)] 2)
            have hcp := hI4.own.cap
            have hi1 : (i : Int) ≤ (n5 : Int) := by omega
            have hdn0 : n5 = i → us.drop i = [] := fun e => List.drop_eq_nil_of_le (by have := hI4.own.len; omega)
            have hsd0 := sml_drop hI4.sml i
            by_cases hce : c5 = i
            · obtain rfl : n5 = i := by omega
              subst hce
              go_wp2_with (at_builtin; refine appL rfl rfl hOL rfl (Row.nil _ _) rfl (by omega) (by simp; omega) ?_; intro ad' c' w5 hO hg5 hb5)
              go_meet
              refine ⟨ad', c', [K, -K] ++ [], by rw [Nat.sub_self], sml_app hsK (fun x hx => absurd hx (by simp)), ?_, hIA.upd hg5 hb5 hlt (by simp [Value.ownBlock]; omega) (fun g' e => by have := hH4.out g' e; simp [Value.ownBlock]; omega)⟩
              rw [Nat.sub_self]; exact hO
            · have hic : i ≤ c5 := by omega
              go_wp2_with (at_builtin; refine appL rfl rfl hOL rfl hrd rfl (by omega) (by simp; omega) ?_; intro ad' c' w5 hO hg5 hb5)
              go_meet
              exact ⟨ad', c', _, rfl, sml_app hsK hsd0, hO, hIA.upd hg5 hb5 hlt (by simp [Value.ownBlock]; omega) (fun g' e => by have := hH4.out g' e; simp [Value.ownBlock]; omega)⟩
        case rest =>
        obtain ⟨a6, c6, rs, rfl, hsr, hor, hI5⟩ := hcut
        clear hI4 hwK hwN
        have hcp := hI5.own.cap
        have hzc : w.heap.size + 2 ≤ wc.heap.size := by have := hI5.out.lt; omega
        have hrt := rowTake hI5.own.row i (by omega)
        have hi1 : (i : Int) ≤ (n5 : Int) := by omega
        have hst := sml_take hI5.sml i
        go_wp2_with fail
        refine (l01Own_any _ i _ (us.take i) _ hrt (by omega)).mono ?_
        rintro e w7 ⟨a7, c7, rfl, ho7, hb7⟩
        have hI7 := hI5.upd (grown_of_below hb7 none) (hb7.mono hzc) hlt (by simp) (fun _ _ => by simp)
        have hor7 := hor.below hb7
        have ho7' := ho7.mono hzc
        have hz7 := hb7.size
        have hL7 := hI7.out
        have hn7 : some B5 ≠ (Value.slice a7 i c7).ownBlock := ho7.blk_ne fun q e => by subst e; exact ho7.ne_loc hL7 (by decide)
        go_wp2_with (at_builtin; refine appL rfl rfl ho7' rfl hor7.row rfl (by omega) (by omega) ?_; intro ad' c' w8 hO hg8 hb8; have hL8 := hL7.grown hg8 hn7; have l8 := hL8.two)
        go_roundw
        case rel =>
          exact ⟨k + 1, ad', i + (2 + (n5 - i)), c', _, by omega, by go_num, OtI.put2 (hI7.src.keepB hb8 (by omega)) (hI7.box.below hb8 (by omega)) (hI7.res.below hb8 (by omega)) hL8 (grown_below hI7.gr hb8 (by omega)) (by omega) (sml_app hst hsr) hO hlt h5⟩
        case measure => simp [intOf]; omega
      | false =>
        clear ht
        have hcp := hI3.own.cap
        have hn30' := hI3.n30
        have hwi : IntKind.i64.wrap ((i : Int) + 1) = (i : Int) + 1 := IntWalk.i64_in _ (by omega)
        have hwi2 : IntKind.i64.wrap ((i : Int) + 2) = (i : Int) + 2 := IntWalk.i64_in _ (by omega)
        go_upto_region 12 with fail
        go_cut [62] (fun s62 wx => ∃ t : Bool, s62 = .bool t ∧ (t = true → i + 2 ≤ n5) ∧ OtI w wx b B5 S a n c a5 n5 c5 us)
        case first => as_aux_lemma =>
          by_cases h1 : i + 1 < n5
          · have hd : decide ((i : Int) + 1 < (n5 : Int)) = true := by simp; omega
            have hi1 : (i : Int) + 1 < (n5 : Int) := by omega
            have hi0 : (i : Int) < (n5 : Int) := by omega
            rcases hI3.own.block with ⟨_, e, _⟩ | ⟨g, cur, rfl, _, _⟩
            · omega
            obtain ⟨_, hcs, hfs⟩ := hI3.own.cells
            obtain ⟨x, hx⟩ : ∃ x, us.getD i 0 = x := ⟨_, rfl⟩
            obtain ⟨y, hy⟩ : ∃ y, us.getD (i + 1) 0 = y := ⟨_, rfl⟩
            have hc0 := hcs i (by omega)
            rw [hx] at hc0
            have hc1 := hcs (i + 1) (by omega)
            rw [hy] at hc1
            have hby := sml_at hI3.sml (i + 1)
            rw [hy] at hby
            have hwy : IntKind.i64.wrap (-y) = -y := IntWalk.i64_in _ (by omega)
            have HI := Lib.hid hI3
            clear hI3 hcs hfs hx hy
            go_wp2
            go_quiet (fail)
            go_wp2
            go_meet
            exact ⟨_, rfl, fun _ => by omega, HI.out.drewN _⟩
          · have hd : decide ((i : Int) + 1 < (n5 : Int)) = false := by simp; omega
            go_wp2
            go_quiet (fail)
            go_wp2
            go_meet
            exact ⟨_, rfl, fun e => by simp at e, hI3.drewN _⟩
        case rest =>
        obtain ⟨t, rfl, ht, hI4⟩ := hcut
        clear hI3
        cases t with
        | true => as_aux_lemma =>
          have h2 := ht rfl
          rcases hI4.own.block with ⟨_, e, _⟩ | ⟨g, cur, rfl, _, _⟩
          · omega
          have hi0 : (i : Int) ≤ (n5 : Int) := by omega
          have hrt := rowTake hI4.own.row i (by omega)
          have hst := sml_take hI4.sml i
          obtain ⟨J, hJ⟩ : ∃ J : Nat, J = i + 2 := ⟨_, rfl⟩
          have hwJ : IntKind.i64.wrap ((i : Int) + 2) = (J : Int) := by rw [hwi2, hJ]; rfl
          rw [← hJ] at h2
          have hsd := sml_drop hI4.sml J
          have hJ1 : (0 : Int) ≤ (J : Int) := by omega
          have hJ2 : (J : Int) ≤ (n5 : Int) := by omega
          have hiJ : i ≤ J := by omega
          have hiJ' : (i : Int) ≤ (J : Int) := by omega
          have hcp4 := hI4.own.cap
          have hle5 := hI4.own.len
          have hic : i ≤ c5 := by omega
          have hci' : (i : Int) ≤ (c5 : Int) := by omega
          have hz4 : w.heap.size + 2 ≤ wc.heap.size := by have := hI4.out.lt; omega
          have h5l := hI4.out.lt
          clear hwi2 hJ hle5
          by_cases hce : c5 = J
          · obtain rfl : n5 = J := by omega
            subst hce
            go_wp2
            go_region_law (first
              | (refine step_appL rfl rfl ho7' rfl (Row.nil _ _) rfl ?_ ?_ ?_; (omega); (omega); intro ad' c' w8 hO hg8 hb8; have hL8 := hL7.grown hg8 hn7; have l8 := hL8.two)
              | (go_simp; go_at_call 54; refine (l01Own_any _ i _ (us.take i) _ (hrt.drewN 1) (by omega)).mono ?_; rintro e w7 ⟨a7, c7, rfl, ho7, hb7⟩; have hI7 := (hI4.drewN 1).upd (grown_of_below hb7 none) (hb7.mono hz4) hlt (by simp) (fun _ _ => by simp); have ho7' := ho7.mono hz4; have hL7 := hI7.out; have hz7 : wc.heap.size ≤ w7.heap.size := hb7.size; have hn7 : some B5 ≠ (Value.slice a7 i c7).ownBlock := ho7.blk_ne (fun q e => by subst e; exact ho7.ne_loc hL7 (by decide))))
            all_goals go_wp2
            all_goals go_roundw
            case rel =>
              exact ⟨k + 1, ad', i + 0, c', _, by omega, by go_num, OtI.put2 (hI7.src.keepB hb8 (by omega)) (hI7.box.below hb8 (by omega)) (hI7.res.below hb8 (by omega)) hL8 (grown_below hI7.gr hb8 (by omega)) (by omega) (sml_app hst (fun x hx => absurd hx (by simp))) hO hlt h5⟩
            case measure => simp [intOf]; omega
          · have hci : ¬ (c5 : Int) = (J : Int) := by omega
            go_wp2
            go_region_law (first
              | (refine step_appL rfl rfl ho7' rfl hrd rfl ?_ ?_ ?_; (omega); (omega); intro ad' c' w8 hO hg8 hb8; have hL8 := hL7.grown hg8 hn7; have l8 := hL8.two)
              | (go_simp; go_at_call 54; refine (l01Own_any _ i _ (us.take i) _ (hrt.drewN 1) (by omega)).mono ?_; rintro e w7 ⟨a7, c7, rfl, ho7, hb7⟩; have hI7 := (hI4.drewN 1).upd (grown_of_below hb7 none) (hb7.mono hz4) hlt (by simp) (fun _ _ => by simp); have hrd := rowDrop hI7.own.row J h2; have ho7' := ho7.mono hz4; have hL7 := hI7.out; have hz7 : wc.heap.size ≤ w7.heap.size := hb7.size; have hn7 : some B5 ≠ (Value.slice a7 i c7).ownBlock := ho7.blk_ne (fun q e => by subst e; exact ho7.ne_loc hL7 (by decide))))
            all_goals go_wp2
            all_goals go_roundw
            case rel =>
              exact ⟨k + 1, ad', i + (n5 - J), c', _, by omega, by go_num, OtI.put2 (hI7.src.keepB hb8 (by omega)) (hI7.box.below hb8 (by omega)) (hI7.res.below hb8 (by omega)) hL8 (grown_below hI7.gr hb8 (by omega)) (by omega) (sml_app hst hsd) hO hlt h5⟩
            case measure => simp [intOf]; omega
        | false =>
          clear ht
          go_upto_region 14 with fail
          go_cut [91] (fun s91 wx => ∃ t : Bool, s91 = .bool t ∧ (t = true → i + 2 ≤ n5) ∧ OtI w wx b B5 S a n c a5 n5 c5 us)
          case first => as_aux_lemma =>
            by_cases h1 : i + 1 < n5
            · have hd : decide ((i : Int) + 1 < (n5 : Int)) = true := by simp; omega
              have hi1 : (i : Int) + 1 < (n5 : Int) := by omega
              have hi0 : (i : Int) < (n5 : Int) := by omega
              rcases hI4.own.block with ⟨_, e, _⟩ | ⟨g, cur, rfl, _, _⟩
              · omega
              obtain ⟨_, hcs, hfs⟩ := hI4.own.cells
              obtain ⟨x, hx⟩ : ∃ x, us.getD i 0 = x := ⟨_, rfl⟩
              obtain ⟨y, hy⟩ : ∃ y, us.getD (i + 1) 0 = y := ⟨_, rfl⟩
              have hc0 := hcs i (by omega)
              rw [hx] at hc0
              have hc1 := hcs (i + 1) (by omega)
              rw [hy] at hc1
              have hbx := sml_at hI4.sml i
              have hby := sml_at hI4.sml (i + 1)
              rw [hx] at hbx
              rw [hy] at hby
              have hpx : -200 ≤ plc x ∧ plc x ≤ 200 := by unfold plc; split <;> omega
              have hpy : -200 ≤ plc y ∧ plc y ≤ 200 := by unfold plc; split <;> omega
              have HPX := Lib.hid (fun w0 => l16Place_any x w0 (by omega) (by omega))
              have HPY := Lib.hid (fun w0 => l16Place_any y w0 (by omega) (by omega))
              have HI := Lib.hid hI4
              clear hI4 hcs hfs hx hy hbx hby
              generalize plc x = X at *
              generalize plc y = Y at *
              have hw1 : IntKind.i64.wrap (X - Y) = X - Y := IntWalk.i64_in _ (by omega)
              have hw2 : IntKind.i64.wrap (Y - X) = Y - X := IntWalk.i64_in _ (by omega)
              by_cases hg1 : 2 ≤ X - Y
              · have hd1 : decide (2 ≤ X - Y) = true := by simpa using hg1
                go_wp2
                go_quiet ((go_at_call 55; first | with_reducible exact Calls.quiet_of_same (HPX.out _) | with_reducible exact Calls.quiet_of_same (HPY.out _)))
                go_wp2
                go_meet
                exact ⟨_, rfl, fun _ => by omega, HI.out.drewN _⟩
              · have hd1 : decide (2 ≤ X - Y) = false := by simpa using hg1
                go_wp2
                go_quiet ((go_at_call 55; first | with_reducible exact Calls.quiet_of_same (HPX.out _) | with_reducible exact Calls.quiet_of_same (HPY.out _)))
                go_wp2
                go_meet
                exact ⟨_, rfl, fun _ => by omega, HI.out.drewN _⟩
            · have hd : decide ((i : Int) + 1 < (n5 : Int)) = false := by simp; omega
              go_wp2
              go_quiet (fail)
              go_wp2
              go_meet
              exact ⟨_, rfl, fun e => by simp at e, hI4.drewN _⟩
          case rest =>
          obtain ⟨t, rfl, ht, hI5⟩ := hcut
          clear hI4
          cases t with
          | true => as_aux_lemma =>
            have h2 := ht rfl
            rcases hI5.own.block with ⟨_, e, _⟩ | ⟨g, cur, rfl, _, _⟩
            · omega
            have hi1 : (i : Int) + 1 < (n5 : Int) := by omega
            have hi0 : (i : Int) < (n5 : Int) := by omega
            obtain ⟨_, hcs, hfs⟩ := hI5.own.cells
            obtain ⟨x, hx⟩ : ∃ x, us.getD i 0 = x := ⟨_, rfl⟩
            obtain ⟨y, hy⟩ : ∃ y, us.getD (i + 1) 0 = y := ⟨_, rfl⟩
            have hc0 := hcs i (by omega)
            rw [hx] at hc0
            have hc1 := hcs (i + 1) (by omega)
            rw [hy] at hc1
            have hf0 := hfs i
            have hf1 := hfs (i + 1)
            have hL1 := (hI5.letter hlt i (by rw [← hy]; exact sml_at hI5.sml (i + 1) : -100 ≤ y ∧ y ≤ 100)).letter hlt (i + 1) (by rw [← hx]; exact sml_at hI5.sml i : -100 ≤ x ∧ x ≤ 100)
            have HL := Lib.hid hL1
            clear hL1 hI5 hcs hfs hx hy
            go_wp2
            go_roundw
            case rel => exact ⟨k + 1, _, n5, c5, _, by omega, by go_num, HL.out⟩
            case measure => simp [intOf]; omega
          | false =>
            clear ht
            go_upto_region 18 with fail
            go_cut [151] (fun s151 wx => ∃ t : Bool, s151 = .bool t ∧ (t = true → i + 3 ≤ n5) ∧ OtI w wx b B5 S a n c a5 n5 c5 us)
            case first => as_aux_lemma =>
              by_cases h1 : i + 2 < n5
              · have hd : decide ((i : Int) + 2 < (n5 : Int)) = true := by simp; omega
                have hi2 : (i : Int) + 2 < (n5 : Int) := by omega
                have hi1 : (i : Int) + 1 < (n5 : Int) := by omega
                have hi0 : (i : Int) < (n5 : Int) := by omega
                rcases hI5.own.block with ⟨_, e, _⟩ | ⟨g, cur, rfl, _, _⟩
                · omega
                obtain ⟨_, hcs, hfs⟩ := hI5.own.cells
                obtain ⟨x, hx⟩ : ∃ x, us.getD i 0 = x := ⟨_, rfl⟩
                obtain ⟨y, hy⟩ : ∃ y, us.getD (i + 1) 0 = y := ⟨_, rfl⟩
                obtain ⟨z, hz⟩ : ∃ z, us.getD (i + 2) 0 = z := ⟨_, rfl⟩
                have hc0 := hcs i (by omega)
                rw [hx] at hc0
                have hc1 := hcs (i + 1) (by omega)
                rw [hy] at hc1
                have hc2 := hcs (i + 2) (by omega)
                rw [hz] at hc2
                have hbx := sml_at hI5.sml i
                rw [hx] at hbx
                have hwx1 : IntKind.i64.wrap (x + 1) = x + 1 := IntWalk.i64_in _ (by omega)
                have hwx2 : IntKind.i64.wrap (x - 1) = x - 1 := IntWalk.i64_in _ (by omega)
                have HI := Lib.hid hI5
                clear hI5 hcs hfs hx hy hz
                obtain ⟨hbx1, hbx2⟩ := hbx
                obtain ⟨b1, hb1⟩ : ∃ b1, decide (0 < x) = b1 := ⟨_, rfl⟩
                obtain ⟨b2, hb2⟩ : ∃ b2, (x == z) = b2 := ⟨_, rfl⟩
                obtain ⟨b3, hb3⟩ : ∃ b3, (y == x + 1) = b3 := ⟨_, rfl⟩
                obtain ⟨b4, hb4⟩ : ∃ b4, (y == x - 1) = b4 := ⟨_, rfl⟩
                obtain ⟨b5, hb5⟩ : ∃ b5, decide (1 < x) = b5 := ⟨_, rfl⟩
                cases b1 with
                | false =>
                  go_wp2
                  try simp only [List.append_eq, List.cons_append, List.nil_append]
                  go_quiet (fail)
                  go_wp2
                  go_meet
                  exact ⟨_, rfl, fun _ => by omega, HI.out.drewN _⟩
                | true =>
                  cases b2 with
                  | false =>
                    go_wp2
                    try simp only [List.append_eq, List.cons_append, List.nil_append]
                    go_quiet (fail)
                    go_wp2
                    go_meet
                    exact ⟨_, rfl, fun _ => by omega, HI.out.drewN _⟩
                  | true =>
                    obtain rfl : x = z := by simpa using hb2
                    have hb2' : (x == x) = true := by simp
                    clear hb2
                    cases b3 with
                    | true =>
                      obtain rfl : y = x + 1 := by simpa using hb3
                      have hb3' : (x + 1 == x + 1) = true := by simp
                      clear hb3 hb4
                      go_wp2
                      try simp only [List.append_eq, List.cons_append, List.nil_append]
                      go_quiet (fail)
                      go_wp2
                      go_meet
                      exact ⟨_, rfl, fun _ => by omega, HI.out.drewN _⟩
                    | false =>
                      cases b4 with
                      | false =>
                        go_wp2
                        try simp only [List.append_eq, List.cons_append, List.nil_append]
                        go_quiet (fail)
                        go_wp2
                        go_meet
                        exact ⟨_, rfl, fun _ => by omega, HI.out.drewN _⟩
                      | true =>
                        obtain rfl : y = x - 1 := by simpa using hb4
                        have hb4' : (x - 1 == x - 1) = true := by simp
                        clear hb4
                        go_wp2
                        try simp only [List.append_eq, List.cons_append, List.nil_append]
                        go_quiet (fail)
                        go_wp2
                        go_meet
                        exact ⟨_, rfl, fun _ => by omega, HI.out.drewN _⟩
              · have hd : decide ((i : Int) + 2 < (n5 : Int)) = false := by simp; omega
                go_wp2
                go_quiet (fail)
                go_wp2
                go_meet
                exact ⟨_, rfl, fun e => by simp at e, hI5.drewN _⟩
            case rest =>
            obtain ⟨t, rfl, ht, hI6⟩ := hcut
            clear hI5
            cases t with
            | true => as_aux_lemma =>
              have h3 := ht rfl
              rcases hI6.own.block with ⟨_, e, _⟩ | ⟨g, cur, rfl, _, _⟩
              · omega
              have hi2 : (i : Int) + 2 < (n5 : Int) := by omega
              have hi1 : (i : Int) + 1 < (n5 : Int) := by omega
              have hi0 : (i : Int) < (n5 : Int) := by omega
              obtain ⟨_, hcs, hfs⟩ := hI6.own.cells
              obtain ⟨x, hx⟩ : ∃ x, us.getD i 0 = x := ⟨_, rfl⟩
              obtain ⟨y, hy⟩ : ∃ y, us.getD (i + 1) 0 = y := ⟨_, rfl⟩
              have hc0 := hcs i (by omega)
              rw [hx] at hc0
              have hc1 := hcs (i + 1) (by omega)
              rw [hy] at hc1
              have hc2 := hcs (i + 2) (by omega)
              generalize us.getD (i + 2) 0 = z2 at hc2
              have hf0 := hfs i
              have hf1 := hfs (i + 1)
              have hf2 := hfs (i + 2)
              have hby : -100 ≤ y ∧ y ≤ 100 := by rw [← hy]; exact sml_at hI6.sml (i + 1)
              have hL1 := ((hI6.letter hlt i hby).letter hlt (i + 1) (by rw [← hx]; exact sml_at hI6.sml i : -100 ≤ x ∧ x ≤ 100))
              have hc3 := hL1.own.cells.2.1 i (by omega)
              rw [getD_set_ne2 (by omega), getD_set_eq2 (by have := hI6.own.len; omega)] at hc3
              have hL2 := hL1.letter hlt (i + 2) hby
              have HL := Lib.hid hL2
              clear hL1 hL2 hI6 hcs hfs hx hy
              go_wp2
              go_roundw
              case rel => exact ⟨k + 1, _, n5, c5, _, by omega, by go_num, HL.out⟩
              case measure => simp [intOf]; omega
            | false =>
              go_wp2
              go_roundw
              case rel => exact ⟨k + 1, _, n5, c5, _, by omega, by go_num, hI6⟩
              case measure => simp [intOf]; omega
    · obtain rfl : k = 20 := by omega
      have l5 := hI.out.two
      have lR := hI.res.two
      have hF := ((hI.res.set 0 (.int .i64 S)).set 1 (.slice a5 n5 c5)).two
      have hz2' := hI.gr.size
      have hoF := ((hI.own.setlo (p := ⟨w.heap.size + 1, 0, none⟩) (by show w.heap.size + 1 < w.heap.size + 2; omega) (.int .i64 S)).setlo (p := ⟨w.heap.size + 1, 1, none⟩) (by show w.heap.size + 1 < w.heap.size + 2; omega) (.slice a5 n5 c5)).mono (show w.heap.size ≤ _ by omega)
      have hsF := (hI.src.setne (p := ⟨w.heap.size + 1, 0, none⟩) (by show b < w.heap.size + 1; omega) (.int .i64 S)).setne (p := ⟨w.heap.size + 1, 1, none⟩) (by show b < w.heap.size + 1; omega) (.slice a5 n5 c5)
      have hgF := grown_set (p := ⟨w.heap.size + 1, 1, none⟩) (grown_set (p := ⟨w.heap.size + 1, 0, none⟩) hI.gr (.inr (by show w.heap.size ≤ w.heap.size + 1; omega)) (.int .i64 S)) (.inr (by show w.heap.size ≤ w.heap.size + 1; omega)) (.slice a5 n5 c5)
      have hsm' := hI.sml
      have hn' := hI.n30
      go_wp2
      exact bodyPost_ret (v := bAgg S a5 n5 c5) (by simp [results, Tryz.results28, go_sem, hF]) rfl ⟨a5, n5, c5, us, rfl, hn', hsm', hoF, hsF, hgF⟩
end Go.Proofs.YtdkpalllfekiiaaGreat
