/-
  Walks and plain laws of this seat, some texts in one.
  No condition but bounds on lengths.
-/
import Derived.Test.YtpdgpgbgakinlaaGreatPa11
import Derived.Test.YtpdgpgbgakinlaaGreatPa3
import Derived.Test.YtpdgpgbgakinlaaGreatPa16
import Derived.Test.YtpdgpgbgakinlaaGreatPa5
import Derived.Test.YtpdgpgbgakinlaaGreatPa7
import Derived.Test.YtpdgpgbgakinlaaGreatPa9
import Derived.Deep.RegionHeld3
namespace Go.Proofs.YtpdgpgbgakinlaaGreat
set_option maxRecDepth 100000
set_option linter.unusedVariables false
set_option linter.unusedSimpArgs false
open Go.RowKit
theorem OwnT.grownS {w w' : World} {lo b : Nat} {a : Option Addr} {n c : Nat} {vs : List SV} {t : List (List Int)} (h : OwnT w lo a n c vs t) (hg : w.grownBy w' (some b)) (hb : b < lo) : OwnT w' lo a n c vs t :=
  h.keep fun g hq hl => hg.block g hl (fun e => by have := h.blo g hq; cases e; omega)
theorem Own.headS {w : World} {lo : Nat} {a : Option Addr} {n c : Nat} {xs : List Int} (h : Own w lo a n c xs) (hn : 0 < n) : ∃ g, a = some ⟨g, 0, none⟩ := by
  rcases h.block with ⟨_, e, _⟩ | ⟨g, cur, e, _⟩
  · omega
  · exact ⟨g, e⟩
def LsN (n : Nat) (xs : List Int) : Prop := xs.length = n ∧ Less n xs
theorem LsN.of {n : Nat} {p : List Int} (h : IsP n p) : LsN n p := by
  obtain ⟨f, g, hl, h1, h2⟩ := h
  exact ⟨hl, fun i hi => ⟨f i, (h1 i (by omega)).1, h2 i (by omega)⟩⟩
theorem LsN.set {n : Nat} {xs : List Int} (h : LsN n xs) (i : Nat) {k : Nat} (hk : k < n) : LsN n (xs.set i (k : Int)) := by
  refine ⟨by rw [List.length_set]; exact h.1, fun j hj => ?_⟩
  rw [List.length_set] at hj
  rw [getD_setz _ _ _ _ hj]
  by_cases e : j = i
  · rw [if_pos e]; exact ⟨k, hk, rfl⟩
  · rw [if_neg e]; exact h.2 j hj
def PSq (n : Nat) (f : List (List Int)) : Prop := ∀ r, r ∈ f → LsN n r
theorem PSq.sq {n : Nat} {f : List (List Int)} (h : PSq n f) (hl : f.length = n) : Sq n f := by
  refine ⟨hl, fun x hx => ?_⟩
  have hm : f.getD x [] ∈ f := by rw [List.getD_eq_getElem?_getD, List.getElem?_eq_getElem (by omega)]; exact List.getElem_mem _
  obtain ⟨h1, h2⟩ := h _ hm
  refine ⟨h1, fun y hy => ?_⟩
  obtain ⟨k, hk, e⟩ := h2 y (by omega)
  unfold tv
  rw [e]
  exact ⟨by simpa using hk, by simp⟩
theorem PSq.snoc {n : Nat} {f : List (List Int)} (h : PSq n f) {r : List Int} (hr : LsN n r) : PSq n (f ++ [r]) := fun q hq => by
  rcases List.mem_append.1 hq with hq | hq
  · exact h q hq
  · rw [List.mem_singleton.1 hq]; exact hr
def TbD (b : Nat) (w : World) (n : Nat) (e : Ending) (w' : World) : Prop :=
  ∃ (a : Option Addr) (c : Nat) (vs : List SV) (f : List (List Int)), e = .returned (.slice a n c) ∧ Sq n f ∧ OwnT w' w.heap.size a n c vs f ∧ Src w' b ∧ w.grownBy w' (some b)
set_option maxHeartbeats 16000000 in
theorem l01Tables_ok (b n : Nat) (w : World) (h : Src w b) (h1 : 1 ≤ n) (hn : n ≤ 13) :
    Calls Tryz.prog 120 #[.pointer (some ⟨b, 0, none⟩), .int .i64 n] w (TbD b w n) := by
  have hlt := h.lt
  have hO0 := OwnT.fresh w rfl
  have hs0 := h.below (below_al (Below.refl w.heap.size w) (.cells #[] 27))
  have hG0 := World.grownBy_alloc w (.cells #[] 27) (some b)
  go_enter Tryz.func120, Tryz.ntmps120
  go_wp2_with fail
  refine (l01Next_ok b 3 _ hs0 ⟨by omega, by omega⟩).mono ?_
  rintro e w1 ⟨kd, rfl, _, hk, hs1, hg1⟩
  obtain ⟨hk1, hk2⟩ := hk (by omega)
  have hO1 := hO0.grownS hg1 hlt
  have hG1 := grown_trans hG0 hg1
  have hz1 := hg1.size
  rw [size_alloc] at hz1
  have hkk : kd = 0 ∨ kd = 1 ∨ kd = 2 := by omega
  clear hk hk1 hk2 hO0 hs0 hG0 hg1
  go_wp2_with fail
  refine (l01Draw_ok b n _ hs1 h1 (by omega)).mono ?_
  rintro e w2 ⟨a2, c2, p, rfl, hp, ho2, hs2, hg2⟩
  have hO2 := hO1.grownS hg2 hlt
  have hG2 := grown_trans hG1 hg2
  have hz2 := hg2.size
  have hP := Lib.hid (LsN.of hp)
  have hlo2 := Lib.hid ho2.lo
  have hhi2 := Lib.hid ho2.hi
  clear hp hO1 hG1 hs1 hg2
  go_wp2
  go_loopw [5, 8] (fun t x wr => ∃ (k : Nat) (az : Option Addr) (cz : Nat) (vz : List SV) (f : List (List Int)), k ≤ n ∧ x = .int .i64 k ∧ t = .slice az k cz ∧ Hid (PSq n f) ∧ OwnT wr w.heap.size az k cz vz f ∧ Own wr w1.heap.size a2 n c2 p ∧ Hid (∀ g, az = some ⟨g, 0, none⟩ → a2 ≠ some ⟨g, 0, none⟩) ∧ Src wr b ∧ w.grownBy wr (some b) ∧ w2.heap.size ≤ wr.heap.size) (fun _ x _ => n - (intOf x).toNat)
  case atStart => exact ⟨0, _, 0, [], [], Nat.zero_le _, rfl, rfl, Lib.hid (fun r hr => by cases hr), hO2, ho2, Lib.hid (fun g e1 e2 => by cases e1; have := hlo2.out _ e2; omega), hs2, hG2, Nat.le_refl _⟩
  case round =>
    clear hO2 ho2 hs2 hG2
    obtain ⟨k, az, cz, vz, f, hkn, rfl, rfl, HF, hO, hp, HA, hs, hG, hz⟩ := hrel
    obtain ⟨V, rfl⟩ : ∃ V : World, V = wr := ⟨_, rfl⟩
    by_cases hlt2 : k < n
    · go_wp2_with fail
      refine (l01Draw_ok b n _ hs h1 (by omega)).mono ?_
      rintro e w3 ⟨a3, c3, q, rfl, hq, ho3, hs3, hg3⟩
      have hO3 := hO.grownS hg3 hlt
      have hp3 := hp.grown hg3 (fun g e => by have := hlo2.out g e; simp; omega)
      have hG3 := grown_trans hG hg3
      have hz3 := hg3.size
      have HQ := Lib.hid (LsN.of hq)
      have HZH := Lib.hid hO.uHi
      clear hq hO hp hs hG hg3
      obtain ⟨g3, rfl⟩ : ∃ g, a3 = some ⟨g, 0, none⟩ := by
        rcases ho3.block with ⟨e1, e2, _⟩ | ⟨g, cur, e1, _⟩
        · omega
        · exact ⟨g, e1⟩
      have hl3 := ho3.lo g3 rfl
      have hne2 : ∀ g, a2 = some ⟨g, 0, none⟩ → g ≠ g3 := fun g e => by have := hhi2.out g e; omega
      have HNE2 := Lib.hid hne2
      have HNZ : Hid (∀ g, TblS az k vz g → g ≠ g3) := Lib.hid fun g e => by have := HZH.out g e; omega
      clear hne2
      rcases hkk with rfl | rfl | rfl
      · go_wp2
        go_loopw [10] (fun y wq => ∃ (j : Nat) (q : List Int), j ≤ n ∧ y = .int .i64 j ∧ Hid (LsN n q) ∧ Own wq V.heap.size (some ⟨g3, 0, none⟩) n c3 q ∧ OwnT wq w.heap.size az k cz vz f ∧ Own wq w1.heap.size a2 n c2 p ∧ Src wq b ∧ w.grownBy wq (some b) ∧ V.heap.size ≤ wq.heap.size) (fun y _ => n - (intOf y).toNat)
        case atStart => exact ⟨0, q, Nat.zero_le _, rfl, HQ, ho3, hO3, hp3, hs3, hG3, hz3⟩
        case round =>
          clear HQ ho3 hO3 hp3 hs3 hG3
          obtain ⟨j, q, hj, rfl, HQ, ho3, hO3, hp3, hs3, hG3, hz3⟩ := hrel
          by_cases hjt : j < n
          · have hjn : (j : Int) < (n : Int) := by omega
            go_wp2_with fail
            refine (l01Next_ok b (n : Int) _ hs3 ⟨by omega, by omega⟩).mono ?_
            rintro e w5 ⟨y, rfl, _, hy, hs5, hg5⟩
            obtain ⟨hy1, hy2⟩ := hy (by omega)
            obtain ⟨Y, rfl⟩ : ∃ Y : Nat, y = Y := ⟨y.toNat, by omega⟩
            have ho5 := ho3.grown hg5 (fun g e => by cases e; simp; omega)
            have hO5 := hO3.grownS hg5 hlt
            have hp5 := hp3.grown hg5 (fun g e => by have := hlo2.out g e; simp; omega)
            have hG5 := grown_trans hG3 hg5
            have hz5 := hg5.size
            clear ho3 hO3 hp3 hs3 hG3 hg5 hy
            have c5 := ho5.cells.2.1 j hjt
            have f5 := ho5.cells.2.2 j
            go_wp2
            go_roundw
            case rel => exact ⟨j + 1, _, by omega, by go_num, Lib.hid (HQ.out.set j (by omega)), ho5.set j _, hO5.keep fun g hg hl => Below.heap_setCell _ _ _ _ (HNZ.out g hg), hp5.setne (fun g e => HNE2.out g e) _, hs5.setne (by show b < g3; omega) _, grown_set hG5 (.inr (by show w.heap.size ≤ g3; have := hG5.size; omega)) _, by rw [size_set]; omega⟩
            case measure => simp [intOf]; omega
          · obtain rfl : j = n := by omega
            have HW := Lib.hid hs3
            have hwz := hG3.size
            go_wp2_with (at_builtin; refine appT1g rfl rfl hO3 rfl (ho3.mono (by omega)) (fun g h1 h2 => by cases h2; exact HNZ.out _ (.inl h1) rfl) (fun i hi g h1 h2 => by cases h1; exact HNZ.out _ (.inr ⟨i, hi, h2⟩) rfl) rfl (by omega) (by omega) ?_; intro g' cc w9 hO9 hg9 hat9 hb9)
            go_roundw
            case rel =>
              refine ⟨k + 1, _, _, _, _, by omega, by go_num, rfl, Lib.hid (HF.out.snoc HQ.out), hO9, hp3.grown hg9 (fun g e1 e2 => HA.out g (by rcases hO3.block with ⟨r1, _⟩ | ⟨g2, cur, r1, _⟩ <;> (subst r1; simp [Value.ownBlock] at e2; try (subst e2; rfl))) e1), Lib.hid (fun g e1 e2 => ?_), hs3.keepB hb9 (by omega), grown_below hG3 hb9 (Nat.le_refl _), by have := hg9.size; omega⟩
              cases e1
              rcases hat9 with e | e
              · exact HA.out g' (by rcases hO3.block with ⟨r1, _⟩ | ⟨g2, cur, r1, _⟩ <;> (subst r1; simp [Value.ownBlock] at e; try (subst e; rfl))) e2
              · have := hhi2.out _ e2; omega
            case measure => simp [intOf]; omega
      · go_wp2
        go_loopw [11] (fun y wq => ∃ (j : Nat) (q : List Int), j ≤ n ∧ y = .int .i64 j ∧ Hid (LsN n q) ∧ Own wq V.heap.size (some ⟨g3, 0, none⟩) n c3 q ∧ OwnT wq w.heap.size az k cz vz f ∧ Own wq w1.heap.size a2 n c2 p ∧ Src wq b ∧ w.grownBy wq (some b) ∧ V.heap.size ≤ wq.heap.size) (fun y _ => n - (intOf y).toNat)
        case atStart => exact ⟨0, q, Nat.zero_le _, rfl, HQ, ho3, hO3, hp3, hs3, hG3, hz3⟩
        case round =>
          clear HQ ho3 hO3 hp3 hs3 hG3
          obtain ⟨j, q, hj, rfl, HQ, ho5, hO5, hp5, hs5, hG5, hz5⟩ := hrel
          by_cases hjt : j < n
          · have hjn : (j : Int) < (n : Int) := by omega
            have hn0 : ¬ (n : Int) = 0 := by omega
            have hn0b : ((n : Int) == 0) = false := by simpa using hn0
            obtain ⟨m, hm⟩ : ∃ m : Nat, m = (k + j) % n := ⟨_, rfl⟩
            have hmn : m < n := by rw [hm]; exact Nat.mod_lt _ (by omega)
            have hmod : Int.tmod ((k : Int) + (j : Int)) (n : Int) = (m : Int) := by rw [hm, show (k : Int) + (j : Int) = ((k + j : Nat) : Int) by omega]; rfl
            have hw1 : IntKind.i64.wrap ((k : Int) + (j : Int)) = (k : Int) + (j : Int) := IntWalk.i64_in _ (by omega)
            have hm0 : (0 : Int) ≤ (m : Int) := by omega
            have hmn' : (m : Int) < (n : Int) := by omega
            rcases hp5.block with ⟨_, e2, _⟩ | ⟨gp, _, rfl, _⟩
            · omega
            obtain ⟨Y, hY, eY⟩ := hP.out.2 m (by rw [hP.out.1]; exact hmn)
            have cp := hp5.cells.2.1 m hmn
            rw [eY] at cp
            have c5 := ho5.cells.2.1 j hjt
            have f5 := ho5.cells.2.2 j
            have HM := Lib.hid hm
            clear hm eY
            go_wp2
            go_roundw
            case rel => exact ⟨j + 1, _, by omega, by go_num, Lib.hid (HQ.out.set j (k := Y) (by omega)), ho5.set j _, hO5.keep fun g hg hl => Below.heap_setCell _ _ _ _ (HNZ.out g hg), hp5.setne (fun g e => HNE2.out g e) _, hs5.setne (by show b < g3; omega) _, grown_set hG5 (.inr (by show w.heap.size ≤ g3; have := hG5.size; omega)) _, by rw [size_set]; exact hz5⟩
            case measure => simp [intOf]; omega
          · obtain rfl : j = n := by omega
            have ho3 := ho5; have hO3 := hO5; have hp3 := hp5; have hs3 := hs5; have hG3 := hG5; have hz3 := hz5
            clear ho5 hO5 hp5 hs5 hG5 hz5
            have HW := Lib.hid hs3
            have hwz := hG3.size
            go_wp2_with (at_builtin; refine appT1g rfl rfl hO3 rfl (ho3.mono (by omega)) (fun g h1 h2 => by cases h2; exact HNZ.out _ (.inl h1) rfl) (fun i hi g h1 h2 => by cases h1; exact HNZ.out _ (.inr ⟨i, hi, h2⟩) rfl) rfl (by omega) (by omega) ?_; intro g' cc w9 hO9 hg9 hat9 hb9)
            go_roundw
            case rel =>
              refine ⟨k + 1, _, _, _, _, by omega, by go_num, rfl, Lib.hid (HF.out.snoc HQ.out), hO9, hp3.grown hg9 (fun g e1 e2 => HA.out g (by rcases hO3.block with ⟨r1, _⟩ | ⟨g2, cur, r1, _⟩ <;> (subst r1; simp [Value.ownBlock] at e2; try (subst e2; rfl))) e1), Lib.hid (fun g e1 e2 => ?_), hs3.keepB hb9 (by omega), grown_below hG3 hb9 (Nat.le_refl _), by have := hg9.size; omega⟩
              cases e1
              rcases hat9 with e | e
              · exact HA.out g' (by rcases hO3.block with ⟨r1, _⟩ | ⟨g2, cur, r1, _⟩ <;> (subst r1; simp [Value.ownBlock] at e; try (subst e; rfl))) e2
              · have := hhi2.out _ e2; omega
            case measure => simp [intOf]; omega
      · skip
        have HW := Lib.hid hs3
        have hwz := hG3.size
        go_wp2_with (at_builtin; refine appT1g rfl rfl hO3 rfl (ho3.mono (by omega)) (fun g h1 h2 => by cases h2; exact HNZ.out _ (.inl h1) rfl) (fun i hi g h1 h2 => by cases h1; exact HNZ.out _ (.inr ⟨i, hi, h2⟩) rfl) rfl (by omega) (by omega) ?_; intro g' cc w9 hO9 hg9 hat9 hb9)
        go_roundw
        case rel =>
          refine ⟨k + 1, _, _, _, _, by omega, by go_num, rfl, Lib.hid (HF.out.snoc HQ.out), hO9, hp3.grown hg9 (fun g e1 e2 => HA.out g (by rcases hO3.block with ⟨r1, _⟩ | ⟨g2, cur, r1, _⟩ <;> (subst r1; simp [Value.ownBlock] at e2; try (subst e2; rfl))) e1), Lib.hid (fun g e1 e2 => ?_), hs3.keepB hb9 (by omega), grown_below hG3 hb9 (Nat.le_refl _), by have := hg9.size; omega⟩
          cases e1
          rcases hat9 with e | e
          · exact HA.out g' (by rcases hO3.block with ⟨r1, _⟩ | ⟨g2, cur, r1, _⟩ <;> (subst r1; simp [Value.ownBlock] at e; try (subst e; rfl))) e2
          · have := hhi2.out _ e2; omega
        case measure => simp [intOf]; omega
    · obtain rfl : k = n := by omega
      go_wp2
      go_ret
      exact ⟨_, _, vz, f, rfl, HF.out.sq hO.len.symm, hO, hs, hG⟩
end Go.Proofs.YtpdgpgbgakinlaaGreat

namespace Go.Proofs.YtpdgpgbgakinlaaGreat
set_option maxRecDepth 100000
set_option linter.unusedVariables false
set_option linter.unusedSimpArgs false
def trnL (n : Nat) (t : List (List Int)) : List (List Int) := tabF n fun x y => ((tv t y x : Nat) : Int)
theorem trnL_tv {n : Nat} {t : List (List Int)} {x y : Nat} (hx : x < n) (hy : y < n) : tv (trnL n t) x y = tv t y x := by
  unfold trnL
  conv => lhs; unfold tv
  rw [tabF_get _ _ _ hx]
  simp only [List.getD_eq_getElem?_getD, List.getElem?_map, List.getElem?_range hy, Option.map_some, Option.getD_some, Int.toNat_natCast]
  simp only [tv, List.getD_eq_getElem?_getD]
theorem trnL_sq {n : Nat} {t : List (List Int)} (h : Sq n t) : Sq n (trnL n t) := by
  refine ⟨tabF_len _ _, fun x hx => ?_⟩
  have e : (trnL n t).getD x [] = (List.range n).map fun y => ((tv t y x : Nat) : Int) := tabF_get _ _ _ hx
  refine ⟨by rw [e]; simp, fun y hy => ⟨by rw [trnL_tv hx hy]; exact h.lt hy hx, ?_⟩⟩
  rw [trnL_tv hx hy, e]
  simp [List.getD_eq_getElem?_getD, hy]
end Go.Proofs.YtpdgpgbgakinlaaGreat

namespace Go.Proofs.YtpdgpgbgakinlaaGreat
set_option maxRecDepth 100000
set_option linter.unusedVariables false
set_option linter.unusedSimpArgs false
open Go.RowKit
def SptR (ok : Bool) (W w : World) (e : Ending) (w' : World) : Prop := (∃ a n c, e = .returned (.slice a n c) ∧ ((ok = true ∧ n = 0) ∨ (ok = false ∧ n ≠ 0))) ∧ Below W.heap.size W w'
set_option maxHeartbeats 4000000 in
theorem l02Collision_any (a : Option Addr) (n c : Nat) (a' : Option Addr) (c' : Nat) (f g : List (List Int)) (w : World) (h1 : Tbl w a n f) (h2 : Tbl w a' n g) (hn1 : 1 ≤ n) (hn : n ≤ 12) (hf : Sq n f) (hg : Sq n g) :
    Calls Tryz.prog 94 #[sAgg a n c a' n c'] w (SptR (collOk n f g) w w) := by
  obtain ⟨bf, of, A, O, C, rfl, Gf⟩ := h1.grid hf hn1
  obtain ⟨bg, og, A', O', C', rfl, Gg⟩ := h2.grid hg hn1
  clear h1 h2
  obtain ⟨N, hN⟩ : ∃ N, N = n * n := ⟨_, rfl⟩
  have hN144 : N ≤ 144 := by rw [hN]; exact Nat.mul_le_mul hn hn
  have hmul : (n : Int) * (n : Int) = (N : Int) := by rw [hN]; simp
  have HN := Lib.hid hN
  have HOK : Hid (collOk n f g = allN N fun p => allN N fun q => !collAt n f g p q) := Lib.hid (by rw [hN]; rfl)
  clear hN
  have hn0 : (n : Int) ≠ 0 := by omega
  go_enter Tryz.func94, Tryz.ntmps94
  have hA := Loc.new w rfl #[.slice (some ⟨bf, of, none⟩) n c, .slice (some ⟨bg, og, none⟩) n c'] 26
  have lA := hA.two
  have gf := Gf.alloc (.cells #[.slice (some ⟨bf, of, none⟩) n c, .slice (some ⟨bg, og, none⟩) n c'] 26)
  have gg := Gg.alloc (.cells #[.slice (some ⟨bf, of, none⟩) n c, .slice (some ⟨bg, og, none⟩) n c'] 26)
  have hB := below_al (Below.refl w.heap.size w) (.cells #[.slice (some ⟨bf, of, none⟩) n c, .slice (some ⟨bg, og, none⟩) n c'] 26)
  clear Gf Gg
  go_wp2
  generalize (w.alloc (.cells #[.slice (some ⟨bf, of, none⟩) n c, .slice (some ⟨bg, og, none⟩) n c'] 26)) = w0 at *
  go_loopw [4] (fun i wr => ∃ k : Nat, k ≤ N ∧ i = .int .i64 k ∧ Hid (allN k (fun p => allN N fun q => !collAt n f g p q) = true) ∧ ∃ m, wr = w0.drewN m) (fun i _ => N - (intOf i).toNat)
  case atStart => exact ⟨0, Nat.zero_le _, rfl, Lib.hid rfl, 0, rfl⟩
  case round =>
    obtain ⟨p, hp, rfl, hp1, m1, rfl⟩ := hrel
    by_cases hlt : p < N
    · have Qp := quo_nat (n := n) (p := p) hn1 (by omega)
      have Rp := rem_nat (n := n) (p := p) hn1 (by omega)
      have bx := div_lt_sq (n := n) (p := p) (by rw [← HN.out]; exact hlt)
      have bY := Nat.mod_lt p hn1
      generalize hx : p / n = x at Qp bx
      generalize hy : p % n = y at Rp bY
      have Wp : IntKind.i64.wrap (x : Int) = (x : Int) := IntWalk.i64_in _ (by omega)
      have Wr : IntKind.i64.wrap (y : Int) = (y : Int) := IntWalk.i64_in _ (by omega)
      have HX := Lib.hid hx; have HY := Lib.hid hy; clear hx hy
      go_wp2
      go_loopw [5] (fun i wr => ∃ k : Nat, k ≤ N ∧ i = .int .i64 k ∧ Hid (allN k (fun q => !collAt n f g p q) = true) ∧ ∃ m, wr = w0.drewN m) (fun i _ => N - (intOf i).toNat)
      case atStart => exact ⟨0, Nat.zero_le _, rfl, Lib.hid rfl, _, rfl⟩
      case round =>
        obtain ⟨q, hq, rfl, hq1, m2, rfl⟩ := hrel
        by_cases hltq : q < N
        · have Qq := quo_nat (n := n) (p := q) hn1 (by omega)
          have Rq := rem_nat (n := n) (p := q) hn1 (by omega)
          have bu := div_lt_sq (n := n) (p := q) (by rw [← HN.out]; exact hltq)
          have bv := Nat.mod_lt q hn1
          generalize hu : q / n = u at Qq bu
          generalize hv : q % n = v at Rq bv
          have Wq : IntKind.i64.wrap (u : Int) = (u : Int) := IntWalk.i64_in _ (by omega)
          have Wv : IntKind.i64.wrap (v : Int) = (v : Int) := IntWalk.i64_in _ (by omega)
          have hE : collAt n f g p q = ((!decide (p = q)) && (decide (tv f x y = tv f u v) && decide (tv g x y = tv g u v))) := by
            unfold collAt; rw [HX.out, HY.out, hu, hv]
          obtain ⟨r1, k1⟩ := gf.look bx bY
          obtain ⟨r2, k2⟩ := gf.look bu bv
          obtain ⟨r3, k3⟩ := gg.look bx bY
          obtain ⟨r4, k4⟩ := gg.look bu bv
          generalize tv f x y = A1 at hE k1
          generalize tv f u v = A2 at hE k2
          generalize tv g x y = A3 at hE k3
          generalize tv g u v = A4 at hE k4
          have HE := Lib.hid hE
          clear hE hu hv gf gg hf hg
          go_wp2
          go_quiet (fail)
          go_wp2
          clear Qq Rq Wq Wv Qp Rp Wp Wr
          by_cases p0 : p = q
          · have u0 : ((p : Int) != (q : Int)) = false := by simp [p0]
            have HE2 : Hid ((!collAt n f g p q) = true) := Lib.hid (by rw [HE.out]; simp [p0])
            clear p0
            go_quiet (fail)
            go_wp2
            go_roundw
            case rel => exact ⟨q + 1, by omega, by go_num, Lib.hid (allN_succ hq1.out HE2.out), _, rfl⟩
            case measure => simp [intOf]; omega
          · have u0 : ((p : Int) != (q : Int)) = true := by simp; omega
            by_cases p1 : A1 = A2
            · have u1 : ((A1 : Int) == (A2 : Int)) = true := by simp [p1]
              by_cases p2 : A3 = A4
              · have u2 : ((A3 : Int) == (A4 : Int)) = true := by simp [p2]
                have HE2 : Hid ((!collAt n f g p q) = false) := Lib.hid (by rw [HE.out]; simp [p0, p1, p2])
                clear p0 p1 p2
                go_quiet (fail)
                go_wp2
                go_ret
                exact ⟨⟨_, _, _, rfl, .inr ⟨by rw [HOK.out]; exact allN_no hlt (allN_no hltq HE2.out), by omega⟩⟩, below_al (below_drewN hB _) _⟩
              · have u2 : ((A3 : Int) == (A4 : Int)) = false := by simp; omega
                have HE2 : Hid ((!collAt n f g p q) = true) := Lib.hid (by rw [HE.out]; simp [p2])
                clear p0 p1 p2
                go_quiet (fail)
                go_wp2
                go_roundw
                case rel => exact ⟨q + 1, by omega, by go_num, Lib.hid (allN_succ hq1.out HE2.out), _, rfl⟩
                case measure => simp [intOf]; omega
            · have u1 : ((A1 : Int) == (A2 : Int)) = false := by simp; omega
              have HE2 : Hid ((!collAt n f g p q) = true) := Lib.hid (by rw [HE.out]; simp [p1])
              clear p0 p1
              go_quiet (fail)
              go_wp2
              go_roundw
              case rel => exact ⟨q + 1, by omega, by go_num, Lib.hid (allN_succ hq1.out HE2.out), _, rfl⟩
              case measure => simp [intOf]; omega
        · obtain rfl : q = N := by omega
          go_wp2
          go_roundw
          case rel => exact ⟨p + 1, by omega, by go_num, Lib.hid (allN_succ hp1.out hq1.out), _, rfl⟩
          case measure => simp [intOf]; omega
    · obtain rfl : p = N := by omega
      go_wp2
      go_ret
      exact ⟨⟨_, _, _, rfl, .inl ⟨by rw [HOK.out]; exact hp1.out, rfl⟩⟩, below_al (below_drewN hB _) _⟩
end Go.Proofs.YtpdgpgbgakinlaaGreat

namespace Go.Proofs.YtpdgpgbgakinlaaGreat
set_option maxRecDepth 100000
set_option linter.unusedVariables false
set_option linter.unusedSimpArgs false
open Go.RowKit
theorem Row.lit3 {w : World} {b : Nat} {x y z : Int} {t : TypeId} (h : Loc w b #[.int .i64 x, .int .i64 y, .int .i64 z] t) : Row w (some ⟨b, 0, none⟩) 3 [x, y, z] := by
  refine ⟨rfl, fun i hi => ⟨b, 0, rfl, h.lt, ?_⟩⟩
  match i, hi with
  | 0, _ => exact h.cell 0 rfl
  | 1, _ => exact h.cell 1 rfl
  | 2, _ => exact h.cell 2 rfl
theorem Less.lit3 {n x y z : Nat} (hx : x < n) (hy : y < n) (hz : z < n) : Less n [(x : Int), (y : Int), (z : Int)] := by
  intro i hi
  match i, hi with
  | 0, _ => exact ⟨x, hx, rfl⟩
  | 1, _ => exact ⟨y, hy, rfl⟩
  | 2, _ => exact ⟨z, hz, rfl⟩
theorem do3_eq (f g : List (List Int)) (x y z : Nat) : decide (doF f g 0 (doF f g 1 (doF f g 0 [(x : Int), (y : Int), (z : Int)])) = doF f g 1 (doF f g 0 (doF f g 1 [(x : Int), (y : Int), (z : Int)]))) = eqAt f g x y z := by
  simp only [doF, eqAt, List.set_cons_zero, List.set_cons_succ, List.getD_cons_zero, List.getD_cons_succ, Int.toNat_natCast, Nat.zero_add]
  rw [Bool.eq_iff_iff]
  simp
  omega
theorem l02Do_0 {a : Option Addr} {n c : Nat} {a' : Option Addr} {c' : Nat} {f g : List (List Int)} {al : Option Addr} {m cl : Nat} {l : List Int} {w : World} (h1 : Tbl w a n f) (h2 : Tbl w a' n g) (hn1 : 1 ≤ n) (hf : Sq n f) (hg : Sq n g)
    (hl : Row w al m l) (hm : m = 3) (hle : Less n l) :
    Calls Tryz.prog 138 #[sAgg a n c a' n c', .slice al m cl, .int .i64 0] w fun e w' => ∃ ao co, e = .returned (.slice ao m co) ∧ Own w' w.heap.size ao m co (doF f g 0 l) ∧ Below w.heap.size w w' :=
  l02Do_any a n c a' c' f g al m cl l 0 w h1 h2 hn1 hf hg hl (by omega) (by omega) hle
theorem l02Do_1 {a : Option Addr} {n c : Nat} {a' : Option Addr} {c' : Nat} {f g : List (List Int)} {al : Option Addr} {m cl : Nat} {l : List Int} {w : World} (h1 : Tbl w a n f) (h2 : Tbl w a' n g) (hn1 : 1 ≤ n) (hf : Sq n f) (hg : Sq n g)
    (hl : Row w al m l) (hm : m = 3) (hle : Less n l) :
    Calls Tryz.prog 138 #[sAgg a n c a' n c', .slice al m cl, .int .i64 1] w fun e w' => ∃ ao co, e = .returned (.slice ao m co) ∧ Own w' w.heap.size ao m co (doF f g 1 l) ∧ Below w.heap.size w w' :=
  l02Do_any a n c a' c' f g al m cl l 1 w h1 h2 hn1 hf hg hl (by omega) (by omega) hle
set_option maxHeartbeats 8000000 in
theorem l02Fault_any (a : Option Addr) (n c : Nat) (a' : Option Addr) (c' : Nat) (f g : List (List Int)) (w : World) (h1 : Tbl w a n f) (h2 : Tbl w a' n g) (hn1 : 1 ≤ n) (hn : n ≤ 12) (hf : Sq n f) (hg : Sq n g) :
    Calls Tryz.prog 95 #[sAgg a n c a' n c'] w (SptR (eqOk n f g) w w) := by
  have HSF := Lib.hid hf; have HSG := Lib.hid hg; clear hf hg
  go_enter Tryz.func95, Tryz.ntmps95
  have hA := Loc.new w rfl #[.slice a n c, .slice a' n c'] 26
  have lA := hA.two
  have T1 := h1.alloc (.cells #[.slice a n c, .slice a' n c'] 26)
  have T2 := h2.alloc (.cells #[.slice a n c, .slice a' n c'] 26)
  have hB := below_al (Below.refl w.heap.size w) (.cells #[.slice a n c, .slice a' n c'] 26)
  clear h1 h2
  go_wp2
  generalize hw0 : (w.alloc (.cells #[.slice a n c, .slice a' n c'] 26)) = w0 at *
  have hsz : w.heap.size < w0.heap.size := hA.lt
  clear hw0
  go_loopw [4] (fun i wr => ∃ k : Nat, k ≤ n ∧ i = .int .i64 k ∧ Hid (allN k (fun x => allN n fun y => allN n fun z => eqAt f g x y z) = true) ∧ Below w0.heap.size w0 wr) (fun i _ => n - (intOf i).toNat)
  case atStart => exact ⟨0, Nat.zero_le _, rfl, Lib.hid rfl, Below.refl _ _⟩
  case round =>
    obtain ⟨x, hx, rfl, hx1, hW⟩ := hrel
    by_cases hlt : x < n
    · clear lA
      go_wp2
      go_loopw [5] (fun i wr => ∃ k : Nat, k ≤ n ∧ i = .int .i64 k ∧ Hid (allN k (fun y => allN n fun z => eqAt f g x y z) = true) ∧ Below w0.heap.size w0 wr) (fun i _ => n - (intOf i).toNat)
      case atStart => exact ⟨0, Nat.zero_le _, rfl, Lib.hid rfl, hW⟩
      case round =>
        clear hW
        obtain ⟨y, hy, rfl, hy1, hW⟩ := hrel
        by_cases hlty : y < n
        · go_wp2
          go_loopw [6] (fun i wr => ∃ k : Nat, k ≤ n ∧ i = .int .i64 k ∧ Hid (allN k (fun z => eqAt f g x y z) = true) ∧ Below w0.heap.size w0 wr) (fun i _ => n - (intOf i).toNat)
          case atStart => exact ⟨0, Nat.zero_le _, rfl, Lib.hid rfl, hW⟩
          case round =>
            clear hW
            obtain ⟨z, hz, rfl, hz1, hW⟩ := hrel
            by_cases hltz : z < n
            · have hle0 : Less n [(x : Int), (y : Int), (z : Int)] := Less.lit3 hlt hlty hltz
              have hE := do3_eq f g x y z
              have hle1 : Less n (doF f g 0 [(x : Int), (y : Int), (z : Int)]) := hle0.do_ HSF.out HSG.out 0 (by simp [doF_len])
              have hle2 : Less n (doF f g 1 (doF f g 0 [(x : Int), (y : Int), (z : Int)])) := hle1.do_ HSF.out HSG.out 1 (by simp [doF_len])
              have hle3 : Less n (doF f g 0 (doF f g 1 (doF f g 0 [(x : Int), (y : Int), (z : Int)]))) := hle2.do_ HSF.out HSG.out 0 (by simp [doF_len])
              have hle4 : Less n (doF f g 1 [(x : Int), (y : Int), (z : Int)]) := hle0.do_ HSF.out HSG.out 1 (by simp [doF_len])
              have hle5 : Less n (doF f g 0 (doF f g 1 [(x : Int), (y : Int), (z : Int)])) := hle4.do_ HSF.out HSG.out 0 (by simp [doF_len])
              have hle6 : Less n (doF f g 1 (doF f g 0 (doF f g 1 [(x : Int), (y : Int), (z : Int)]))) := hle5.do_ HSF.out HSG.out 1 (by simp [doF_len])
              cases hq : eqAt f g x y z
              all_goals
                have HQ := Lib.hid hq
                rw [hq] at hE
                have HE := Lib.hid hE
                clear hE hq
                go_wp2
                have hrow := Row.lit3 (Loc.new wr rfl #[.int .i64 x, .int .i64 y, .int .i64 z] 2)
                replace hW := below_al hW (.cells #[.int .i64 x, .int .i64 y, .int .i64 z] 2)
                generalize (wr.alloc (.cells #[.int .i64 x, .int .i64 y, .int .i64 z] 2)) = w1 at *
                have lA := (hA.below hW hA.lt).two
                have tok1 : True := trivial
                go_region_held3 (fun w' => w'.cell? ⟨w.heap.size, 0, none⟩ = some (.slice a n c) ∧ w'.cell? ⟨w.heap.size, 1, none⟩ = some (.slice a' n c'))
                  (first | exact ⟨lb7.1, lb7.2.1⟩ | exact ⟨lb6.1, lb6.2.1⟩ | exact ⟨lb5.1, lb5.2.1⟩ | exact ⟨lb4.1, lb4.2.1⟩ | exact ⟨lb3.1, lb3.2.1⟩ | exact ⟨lb2.1, lb2.2.1⟩ | exact ⟨lb1.1, lb1.2.1⟩ | exact ⟨lA.1, lA.2.1⟩)
                  (first
                    | (go_at_call 138; have _t := tok1; clear _t tok1; have tok2 : True := trivial; refine (l02Do_0 (T1.below (below_drewN hW 1)) (T2.below (below_drewN hW 1)) hn1 HSF.out HSG.out (hrow.drewN 1) rfl hle0).mono ?_; rintro e v1 ⟨a1, c1, rfl, ho1, hb1⟩; have hr1 := below_th (below_drewN hW 1) hb1; have hq1 : Below w1.heap.size w1 v1 := (Below.drew (Below.refl _ _)).trans hb1; have lb1 := (hA.below hr1 hA.lt).two)
                    | (go_at_call 138; have _t := tok2; clear _t tok2; have tok3 : True := trivial; refine (l02Do_1 (T1.below hr1) (T2.below hr1) hn1 HSF.out HSG.out ho1.row rfl hle1).mono ?_; rintro e v2 ⟨a2, c2, rfl, ho2, hb2⟩; have hr2 := below_th hr1 hb2; have hq2 : Below w1.heap.size w1 v2 := below_th hq1 hb2; have lb2 := (hA.below hr2 hA.lt).two)
                    | (go_at_call 138; have _t := tok3; clear _t tok3; have tok4 : True := trivial; refine (l02Do_0 (T1.below hr2) (T2.below hr2) hn1 HSF.out HSG.out ho2.row rfl hle2).mono ?_; rintro e v3 ⟨a3, c3, rfl, ho3, hb3⟩; have hr3 := below_th hr2 hb3; have hq3 : Below w1.heap.size w1 v3 := below_th hq2 hb3; have lb3 := (hA.below hr3 hA.lt).two)
                    | (go_at_call 138; have _t := tok4; clear _t tok4; have tok5 : True := trivial; refine (l02Do_1 (T1.below hr3) (T2.below hr3) hn1 HSF.out HSG.out (hrow.below hq3) rfl hle0).mono ?_; rintro e v4 ⟨a4, c4, rfl, ho4, hb4⟩; have hr4 := below_th hr3 hb4; have hq4 : Below w1.heap.size w1 v4 := below_th hq3 hb4; have lb4 := (hA.below hr4 hA.lt).two; have ho3a := ho3.below hb4)
                    | (go_at_call 138; have _t := tok5; clear _t tok5; have tok6 : True := trivial; refine (l02Do_0 (T1.below hr4) (T2.below hr4) hn1 HSF.out HSG.out ho4.row rfl hle4).mono ?_; rintro e v5 ⟨a5, c5, rfl, ho5, hb5⟩; have hr5 := below_th hr4 hb5; have hq5 : Below w1.heap.size w1 v5 := below_th hq4 hb5; have lb5 := (hA.below hr5 hA.lt).two; have ho3b := ho3a.below hb5)
                    | (go_at_call 138; have _t := tok6; clear _t tok6; have tok7 : True := trivial; refine (l02Do_1 (T1.below hr5) (T2.below hr5) hn1 HSF.out HSG.out ho5.row rfl hle5).mono ?_; rintro e v6 ⟨a6, c6, rfl, ho6, hb6⟩; have hr6 := below_th hr5 hb6; have hq6 : Below w1.heap.size w1 v6 := below_th hq5 hb6; have lb6 := (hA.below hr6 hA.lt).two; have ho3c := ho3b.below hb6)
                    | (go_at_call 137; have _t := tok7; clear _t tok7; refine (l01Same_b _ _ _ _ _ _ _ _ _ ho3c.row ho6.row (by omega) _ HE.out).mono ?_; rintro e v7 ⟨rfl, hb7⟩; have hr7 := below_th hr6 hb7; have lb7 := (hA.below hr7 hA.lt).two))
                clear lb1 lb2 lb3 lb4 lb5 lb6 lb7
                go_wp2
              · go_ret
                exact ⟨⟨_, _, _, rfl, .inr ⟨allN_no hlt (allN_no hlty (allN_no hltz HQ.out)), by omega⟩⟩, hB.trans (hr7.mono (Nat.le_of_lt hsz))⟩
              · go_roundw
                case rel => exact ⟨z + 1, by omega, by go_num, Lib.hid (allN_succ hz1.out HQ.out), hr7⟩
                case measure => simp [intOf]; omega
            · obtain rfl : z = n := by omega
              go_wp2
              go_roundw
              case rel => exact ⟨y + 1, by omega, by go_num, Lib.hid (allN_succ hy1.out hz1.out), hW⟩
              case measure => simp [intOf]; omega
        · obtain rfl : y = n := by omega
          go_wp2
          go_roundw
          case rel => exact ⟨x + 1, by omega, by go_num, Lib.hid (allN_succ hx1.out hy1.out), hW⟩
          case measure => simp [intOf]; omega
    · obtain rfl : x = n := by omega
      go_wp2
      go_ret
      exact ⟨⟨_, _, _, rfl, .inl ⟨hx1.out, rfl⟩⟩, below_al (hB.trans (hW.mono (Nat.le_of_lt hsz))) _⟩
set_option maxHeartbeats 1000000 in
theorem l02Is_any (a : Option Addr) (n c : Nat) (a' : Option Addr) (n' c' : Nat) (f g : List (List Int)) (w : World) (h1 : Tbl w a n f) (h2 : Tbl w a' n' g) (hm1 : n ≤ 9223372036854775807) (hm2 : n' ≤ 9223372036854775807) :
    Calls Tryz.prog 46 #[sAgg a n c a' n' c'] w fun e w' => e = .returned (.bool (isSol f g)) ∧ Below w.heap.size w w' := by
  have hA := Loc.new w rfl #[.slice a n c, .slice a' n' c'] 26
  have lA := hA.two
  cases hf : isPm f g with
  | false =>
    have HF := Lib.hid hf; clear hf
    go_enter Tryz.func46, Tryz.ntmps46
    go_wp2_with fail
    refine (l02Map_any _ _ _ _ _ _ _ _ _ (h1.alloc _) (h2.alloc _) hm1 hm2).mono ?_
    rintro e w1 ⟨rfl, hb1⟩
    rw [HF.out]
    go_wp2
    go_ret
    exact ⟨ret_bool (by unfold isSol; rw [HF.out]; rfl), below_alth (Below.refl _ _) hb1⟩
  | true =>
    obtain ⟨hn1, hn12, sf, sg⟩ := isPm_sq hf
    have hl1 := h1.len
    have hl2 : n' = n := by rw [h2.len, hl1]; have := sg.len; omega
    subst hl2
    rw [← hl1] at hn1 hn12 sf sg
    have HF := Lib.hid hf; clear hf
    have HS : Hid (isSol f g = (collOk n' f g && eqOk n' f g)) := Lib.hid (by unfold isSol; rw [HF.out, ← hl1]; rfl)
    clear hl1
    have HSF := Lib.hid sf; have HSG := Lib.hid sg; clear sf sg
    go_enter Tryz.func46, Tryz.ntmps46
    go_wp2_with fail
    refine (l02Map_any _ _ _ _ _ _ _ _ _ (h1.alloc _) (h2.alloc _) hm1 hm2).mono ?_
    rintro e w1 ⟨rfl, hb1⟩
    rw [HF.out]
    have hA1 := hA.below hb1 (by simp)
    have lA1 := hA1.two
    have hf1 := (h1.alloc _).below hb1
    have hg1 := (h2.alloc _).below hb1
    have hB1 := below_alth (Below.refl _ _) hb1
    clear hb1 hA lA
    go_wp2_with fail
    refine (l02Collision_any _ _ _ _ _ _ _ _ hf1 hg1 hn1 hn12 HSF.out HSG.out).mono ?_
    rintro e w2 ⟨⟨b, m, k, rfl, he⟩, hb2⟩
    have hA2 := hA1.below hb2 hA1.lt
    have lA2 := hA2.two
    have hf2 := hf1.below hb2
    have hg2 := hg1.below hb2
    have hB2 := below_th hB1 hb2
    clear hb2 hA1 lA1 hB1
    rcases he with ⟨hc, rfl⟩ | ⟨hc, hm⟩
    · have HC := Lib.hid hc; clear hc
      go_wp2_with fail
      refine (l02Fault_any _ _ _ _ _ _ _ _ hf2 hg2 hn1 hn12 HSF.out HSG.out).mono ?_
      rintro e w3 ⟨⟨b', m', k', rfl, he⟩, hb3⟩
      have hB3 := below_th hB2 hb3
      rcases he with ⟨hc, rfl⟩ | ⟨hc, hm⟩
      · have HD := Lib.hid hc; clear hc
        go_wp2
        go_ret
        exact ⟨ret_bool (by rw [HS.out, HC.out, HD.out]; rfl), hB3⟩
      · have HD := Lib.hid hc; clear hc
        have hm0 : ((m' : Int) == 0) = false := by simp; omega
        clear hm
        go_wp2
        go_ret
        exact ⟨ret_bool (by rw [HS.out, HC.out, HD.out]; rfl), hB3⟩
    · have HC := Lib.hid hc; clear hc
      have hm0 : ((m : Int) == 0) = false := by simp; omega
      clear hm
      go_wp2
      go_ret
      exact ⟨ret_bool (by rw [HS.out, HC.out]; rfl), hB2⟩
end Go.Proofs.YtpdgpgbgakinlaaGreat
