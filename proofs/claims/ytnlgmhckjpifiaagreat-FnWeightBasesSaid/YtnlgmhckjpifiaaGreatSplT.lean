/-
  Drawn tables of the reference: squares.
  No condition but bounds.
-/
import Derived.Test.YtnlgmhckjpifiaaGreatBase2
import Derived.Test.YtnlgmhckjpifiaaGreatBase
import Derived.Test.YtnlgmhckjpifiaaGreatPrAn
namespace Go.Proofs.YtnlgmhckjpifiaaGreat
set_option maxRecDepth 100000
set_option linter.unusedVariables false
set_option linter.unusedSimpArgs false
open Go.RowKit

theorem OwnT.grownS {w w' : World} {lo b : Nat} {a : Option Addr} {n c : Nat} {vs : List SV} {t : List (List Int)} (h : OwnT w lo a n c vs t) (hg : w.grownBy w' (some b)) (hb : b < lo) : OwnT w' lo a n c vs t :=
  h.keep fun g hq hl => hg.block g hl (fun e => by have := h.blo g hq; cases e; omega)
/-- a row of n numbers less than n -/
def LsN (n : Nat) (xs : List Int) : Prop := xs.length = n ∧ Less n xs
theorem LsN.of {n : Nat} {p : List Int} (h : IsP n p) : LsN n p := by
  obtain ⟨f, g, hl, h1, h2⟩ := h
  exact ⟨hl, fun i hi => ⟨f i, (h1 i (by omega)).1, h2 i (by omega)⟩⟩
theorem LsN.set {n : Nat} {xs : List Int} (h : LsN n xs) (i : Nat) {k : Nat} (hk : k < n) : LsN n (xs.set i (k : Int)) := by
  refine ⟨by rw [List.length_set]; exact h.1, fun j hj => ?_⟩
  rw [List.length_set] at hj
  rw [getD_setz _ _ _ _ hj]
  by_cases e : j = i
  · rw [if_pos e]; exact ⟨k, hk, rfl⟩
  · rw [if_neg e]; exact h.2 j hj
/-- rows so far -/
def PSq (n : Nat) (f : List (List Int)) : Prop := ∀ r, r ∈ f → LsN n r
theorem PSq.sq {n : Nat} {f : List (List Int)} (h : PSq n f) (hl : f.length = n) : Sq n f := by
  refine ⟨hl, fun x hx => ?_⟩
  have hm : f.getD x [] ∈ f := by rw [List.getD_eq_getElem?_getD, List.getElem?_eq_getElem (by omega)]; exact List.getElem_mem _
  obtain ⟨h1, h2⟩ := h _ hm
  refine ⟨h1, fun y hy => ?_⟩
  obtain ⟨k, hk, e⟩ := h2 y (by omega)
  unfold tv
  rw [e]
  exact ⟨by simpa using hk, by simp⟩
theorem PSq.snoc {n : Nat} {f : List (List Int)} (h : PSq n f) {r : List Int} (hr : LsN n r) : PSq n (f ++ [r]) := fun q hq => by
  rcases List.mem_append.1 hq with hq | hq
  · exact h q hq
  · rw [List.mem_singleton.1 hq]; exact hr
/-- what a function that draws a table leaves -/
def TbD (b : Nat) (w : World) (n : Nat) (e : Ending) (w' : World) : Prop :=
  ∃ (a : Option Addr) (c : Nat) (vs : List SV) (f : List (List Int)), e = .returned (.slice a n c) ∧ Sq n f ∧ OwnT w' w.heap.size a n c vs f ∧ Src w' b ∧ w.grownBy w' (some b)

set_option maxHeartbeats 16000000 in
theorem l01Tables_ok (b n : Nat) (w : World) (h : Src w b) (h1 : 1 ≤ n) (hn : n ≤ 13) :
    Calls Tryz.prog 153 #[.pointer (some ⟨b, 0, none⟩), .int .i64 n] w (TbD b w n) := by
  have hlt := h.lt
  have hO0 := OwnT.fresh w rfl
  have hs0 := h.below (below_al (Below.refl w.heap.size w) (.cells #[] 30))
  have hG0 := World.grownBy_alloc w (.cells #[] 30) (some b)
  go_enter Tryz.func153, Tryz.ntmps153
  go_wp2_with fail
  refine (l01Next_ok b 3 _ hs0 ⟨by omega, by omega⟩).mono ?_
  rintro e w1 ⟨kd, rfl, _, hk, hs1, hg1⟩
  obtain ⟨hk1, hk2⟩ := hk (by omega)
  have hO1 := hO0.grownS hg1 hlt
  have hG1 := grown_trans hG0 hg1
  have hz1 := hg1.size
  rw [size_alloc] at hz1
  have hkk : kd = 0 ∨ kd = 1 ∨ kd = 2 := by omega
  clear hk hk1 hk2 hO0 hs0 hG0 hg1
  go_wp2_with fail
  refine (l01Draw_ok b n _ hs1 h1 (by omega)).mono ?_
  rintro e w2 ⟨a2, c2, p, rfl, hp, ho2, hs2, hg2⟩
  have hO2 := hO1.grownS hg2 hlt
  have hG2 := grown_trans hG1 hg2
  have hz2 := hg2.size
  have hP := Lib.hid (LsN.of hp)
  have hlo2 := Lib.hid ho2.lo
  have hhi2 := Lib.hid ho2.hi
  clear hp hO1 hG1 hs1 hg2
  go_wp2
  go_loopw [5, 8] (fun t x wr => ∃ (k : Nat) (az : Option Addr) (cz : Nat) (vz : List SV) (f : List (List Int)), k ≤ n ∧ x = .int .i64 k ∧ t = .slice az k cz ∧ Hid (PSq n f) ∧ OwnT wr w.heap.size az k cz vz f ∧ Own wr w1.heap.size a2 n c2 p ∧ Hid (∀ g, az = some ⟨g, 0, none⟩ → a2 ≠ some ⟨g, 0, none⟩) ∧ Src wr b ∧ w.grownBy wr (some b) ∧ w2.heap.size ≤ wr.heap.size) (fun _ x _ => n - (intOf x).toNat)
  case atStart => exact ⟨0, _, 0, [], [], Nat.zero_le _, rfl, rfl, Lib.hid (fun r hr => by cases hr), hO2, ho2, Lib.hid (fun g e1 e2 => by cases e1; have := hlo2.out _ e2; omega), hs2, hG2, Nat.le_refl _⟩
  case round =>
    clear hO2 ho2 hs2 hG2
    obtain ⟨k, az, cz, vz, f, hkn, rfl, rfl, HF, hO, hp, HA, hs, hG, hz⟩ := hrel
    obtain ⟨V, rfl⟩ : ∃ V : World, V = wr := ⟨_, rfl⟩
    by_cases hlt2 : k < n
    · go_wp2_with fail
      refine (l01Draw_ok b n _ hs h1 (by omega)).mono ?_
      rintro e w3 ⟨a3, c3, q, rfl, hq, ho3, hs3, hg3⟩
      have hO3 := hO.grownS hg3 hlt
      have hp3 := hp.grown hg3 (fun g e => by have := hlo2.out g e; simp; omega)
      have hG3 := grown_trans hG hg3
      have hz3 := hg3.size
      have HQ := Lib.hid (LsN.of hq)
      have HZH := Lib.hid hO.uHi
      clear hq hO hp hs hG hg3
      obtain ⟨g3, rfl⟩ : ∃ g, a3 = some ⟨g, 0, none⟩ := by
        rcases ho3.block with ⟨e1, e2, _⟩ | ⟨g, cur, e1, _⟩
        · omega
        · exact ⟨g, e1⟩
      have hl3 := ho3.lo g3 rfl
      have hne2 : ∀ g, a2 = some ⟨g, 0, none⟩ → g ≠ g3 := fun g e => by have := hhi2.out g e; omega
      have HNE2 := Lib.hid hne2
      have HNZ : Hid (∀ g, TblS az k vz g → g ≠ g3) := Lib.hid fun g e => by have := HZH.out g e; omega
      clear hne2
      rcases hkk with rfl | rfl | rfl
      · go_wp2
        go_loopw [10] (fun y wq => ∃ (j : Nat) (q : List Int), j ≤ n ∧ y = .int .i64 j ∧ Hid (LsN n q) ∧ Own wq V.heap.size (some ⟨g3, 0, none⟩) n c3 q ∧ OwnT wq w.heap.size az k cz vz f ∧ Own wq w1.heap.size a2 n c2 p ∧ Src wq b ∧ w.grownBy wq (some b) ∧ V.heap.size ≤ wq.heap.size) (fun y _ => n - (intOf y).toNat)
        case atStart => exact ⟨0, q, Nat.zero_le _, rfl, HQ, ho3, hO3, hp3, hs3, hG3, hz3⟩
        case round =>
          clear HQ ho3 hO3 hp3 hs3 hG3
          obtain ⟨j, q, hj, rfl, HQ, ho3, hO3, hp3, hs3, hG3, hz3⟩ := hrel
          by_cases hjt : j < n
          · have hjn : (j : Int) < (n : Int) := by omega
            go_wp2_with fail
            refine (l01Next_ok b (n : Int) _ hs3 ⟨by omega, by omega⟩).mono ?_
            rintro e w5 ⟨y, rfl, _, hy, hs5, hg5⟩
            obtain ⟨hy1, hy2⟩ := hy (by omega)
            obtain ⟨Y, rfl⟩ : ∃ Y : Nat, y = Y := ⟨y.toNat, by omega⟩
            have ho5 := ho3.grown hg5 (fun g e => by cases e; simp; omega)
            have hO5 := hO3.grownS hg5 hlt
            have hp5 := hp3.grown hg5 (fun g e => by have := hlo2.out g e; simp; omega)
            have hG5 := grown_trans hG3 hg5
            have hz5 := hg5.size
            clear ho3 hO3 hp3 hs3 hG3 hg5 hy
            have c5 := ho5.cells.2.1 j hjt
            have f5 := ho5.cells.2.2 j
            go_wp2
            go_roundw
            case rel => exact ⟨j + 1, _, by omega, by go_num, Lib.hid (HQ.out.set j (by omega)), ho5.set j _, hO5.keep fun g hg hl => Below.heap_setCell _ _ _ _ (HNZ.out g hg), hp5.setne (fun g e => HNE2.out g e) _, hs5.setne (by show b < g3; omega) _, grown_set hG5 (.inr (by show w.heap.size ≤ g3; have := hG5.size; omega)) _, by rw [size_set]; omega⟩
            case measure => simp [intOf]; omega
          · obtain rfl : j = n := by omega
            have HW := Lib.hid hs3
            have hwz := hG3.size
            go_wp2_with (at_builtin; refine appT1g rfl rfl hO3 rfl (ho3.mono (by omega)) (fun g h1 h2 => by cases h2; exact HNZ.out _ (.inl h1) rfl) (fun i hi g h1 h2 => by cases h1; exact HNZ.out _ (.inr ⟨i, hi, h2⟩) rfl) rfl (by omega) (by omega) ?_; intro g' cc w9 hO9 hg9 hat9 hb9)
            go_roundw
            case rel =>
              refine ⟨k + 1, _, _, _, _, by omega, by go_num, rfl, Lib.hid (HF.out.snoc HQ.out), hO9, hp3.grown hg9 (fun g e1 e2 => HA.out g (by rcases hO3.block with ⟨r1, _⟩ | ⟨g2, cur, r1, _⟩ <;> (subst r1; simp [Value.ownBlock] at e2; try (subst e2; rfl))) e1), Lib.hid (fun g e1 e2 => ?_), hs3.keepB hb9 (by omega), grown_below hG3 hb9 (Nat.le_refl _), by have := hg9.size; omega⟩
              cases e1
              rcases hat9 with e | e
              · exact HA.out g' (by rcases hO3.block with ⟨r1, _⟩ | ⟨g2, cur, r1, _⟩ <;> (subst r1; simp [Value.ownBlock] at e; try (subst e; rfl))) e2
              · have := hhi2.out _ e2; omega
            case measure => simp [intOf]; omega
      · go_wp2
        go_loopw [11] (fun y wq => ∃ (j : Nat) (q : List Int), j ≤ n ∧ y = .int .i64 j ∧ Hid (LsN n q) ∧ Own wq V.heap.size (some ⟨g3, 0, none⟩) n c3 q ∧ OwnT wq w.heap.size az k cz vz f ∧ Own wq w1.heap.size a2 n c2 p ∧ Src wq b ∧ w.grownBy wq (some b) ∧ V.heap.size ≤ wq.heap.size) (fun y _ => n - (intOf y).toNat)
        case atStart => exact ⟨0, q, Nat.zero_le _, rfl, HQ, ho3, hO3, hp3, hs3, hG3, hz3⟩
        case round =>
          clear HQ ho3 hO3 hp3 hs3 hG3
          obtain ⟨j, q, hj, rfl, HQ, ho5, hO5, hp5, hs5, hG5, hz5⟩ := hrel
          by_cases hjt : j < n
          · have hjn : (j : Int) < (n : Int) := by omega
            have hn0 : ¬ (n : Int) = 0 := by omega
            have hn0b : ((n : Int) == 0) = false := by simpa using hn0
            obtain ⟨m, hm⟩ : ∃ m : Nat, m = (k + j) % n := ⟨_, rfl⟩
            have hmn : m < n := by rw [hm]; exact Nat.mod_lt _ (by omega)
            have hmod : Int.tmod ((k : Int) + (j : Int)) (n : Int) = (m : Int) := by rw [hm, show (k : Int) + (j : Int) = ((k + j : Nat) : Int) by omega]; rfl
            have hw1 : IntKind.i64.wrap ((k : Int) + (j : Int)) = (k : Int) + (j : Int) := IntWalk.i64_in _ (by omega)
            have hm0 : (0 : Int) ≤ (m : Int) := by omega
            have hmn' : (m : Int) < (n : Int) := by omega
            rcases hp5.block with ⟨_, e2, _⟩ | ⟨gp, _, rfl, _⟩
            · omega
            obtain ⟨Y, hY, eY⟩ := hP.out.2 m (by rw [hP.out.1]; exact hmn)
            have cp := hp5.cells.2.1 m hmn
            rw [eY] at cp
            have c5 := ho5.cells.2.1 j hjt
            have f5 := ho5.cells.2.2 j
            have HM := Lib.hid hm
            clear hm eY
            go_wp2
            go_roundw
            case rel => exact ⟨j + 1, _, by omega, by go_num, Lib.hid (HQ.out.set j (k := Y) (by omega)), ho5.set j _, hO5.keep fun g hg hl => Below.heap_setCell _ _ _ _ (HNZ.out g hg), hp5.setne (fun g e => HNE2.out g e) _, hs5.setne (by show b < g3; omega) _, grown_set hG5 (.inr (by show w.heap.size ≤ g3; have := hG5.size; omega)) _, by rw [size_set]; exact hz5⟩
            case measure => simp [intOf]; omega
          · obtain rfl : j = n := by omega
            have ho3 := ho5; have hO3 := hO5; have hp3 := hp5; have hs3 := hs5; have hG3 := hG5; have hz3 := hz5
            clear ho5 hO5 hp5 hs5 hG5 hz5
            have HW := Lib.hid hs3
            have hwz := hG3.size
            go_wp2_with (at_builtin; refine appT1g rfl rfl hO3 rfl (ho3.mono (by omega)) (fun g h1 h2 => by cases h2; exact HNZ.out _ (.inl h1) rfl) (fun i hi g h1 h2 => by cases h1; exact HNZ.out _ (.inr ⟨i, hi, h2⟩) rfl) rfl (by omega) (by omega) ?_; intro g' cc w9 hO9 hg9 hat9 hb9)
            go_roundw
            case rel =>
              refine ⟨k + 1, _, _, _, _, by omega, by go_num, rfl, Lib.hid (HF.out.snoc HQ.out), hO9, hp3.grown hg9 (fun g e1 e2 => HA.out g (by rcases hO3.block with ⟨r1, _⟩ | ⟨g2, cur, r1, _⟩ <;> (subst r1; simp [Value.ownBlock] at e2; try (subst e2; rfl))) e1), Lib.hid (fun g e1 e2 => ?_), hs3.keepB hb9 (by omega), grown_below hG3 hb9 (Nat.le_refl _), by have := hg9.size; omega⟩
              cases e1
              rcases hat9 with e | e
              · exact HA.out g' (by rcases hO3.block with ⟨r1, _⟩ | ⟨g2, cur, r1, _⟩ <;> (subst r1; simp [Value.ownBlock] at e; try (subst e; rfl))) e2
              · have := hhi2.out _ e2; omega
            case measure => simp [intOf]; omega
      · skip
        have HW := Lib.hid hs3
        have hwz := hG3.size
        go_wp2_with (at_builtin; refine appT1g rfl rfl hO3 rfl (ho3.mono (by omega)) (fun g h1 h2 => by cases h2; exact HNZ.out _ (.inl h1) rfl) (fun i hi g h1 h2 => by cases h1; exact HNZ.out _ (.inr ⟨i, hi, h2⟩) rfl) rfl (by omega) (by omega) ?_; intro g' cc w9 hO9 hg9 hat9 hb9)
        go_roundw
        case rel =>
          refine ⟨k + 1, _, _, _, _, by omega, by go_num, rfl, Lib.hid (HF.out.snoc HQ.out), hO9, hp3.grown hg9 (fun g e1 e2 => HA.out g (by rcases hO3.block with ⟨r1, _⟩ | ⟨g2, cur, r1, _⟩ <;> (subst r1; simp [Value.ownBlock] at e2; try (subst e2; rfl))) e1), Lib.hid (fun g e1 e2 => ?_), hs3.keepB hb9 (by omega), grown_below hG3 hb9 (Nat.le_refl _), by have := hg9.size; omega⟩
          cases e1
          rcases hat9 with e | e
          · exact HA.out g' (by rcases hO3.block with ⟨r1, _⟩ | ⟨g2, cur, r1, _⟩ <;> (subst r1; simp [Value.ownBlock] at e; try (subst e; rfl))) e2
          · have := hhi2.out _ e2; omega
        case measure => simp [intOf]; omega
    · obtain rfl : k = n := by omega
      go_wp2
      go_ret
      exact ⟨_, _, vz, f, rfl, HF.out.sq hO.len.symm, hO, hs, hG⟩
end Go.Proofs.YtnlgmhckjpifiaaGreat
