/-
  Walks and plain laws of this seat, some texts in one.
  No condition but bounds on lengths.
-/
import Derived.Test.YtpdgpgbgakinlaaGreatPb18
import Derived.Test.YtpdgpgbgakinlaaGreatPb8
import Derived.Test.YtpdgpgbgakinlaaGreatPb23
import Derived.Test.YtpdgpgbgakinlaaGreatPb2
import Derived.Test.YtpdgpgbgakinlaaGreatPb3
import Derived.Test.YtpdgpgbgakinlaaGreatPb9
import Derived.Test.YtpdgpgbgakinlaaGreatPb13
import Derived.Test.YtpdgpgbgakinlaaGreatPb17
import Derived.IntWalk
namespace Go.Proofs.YtpdgpgbgakinlaaGreat
set_option maxRecDepth 100000
set_option linter.unusedVariables false
set_option linter.unusedSimpArgs false
open Go.RowKit
theorem OwnT.grownS {w w' : World} {lo b : Nat} {a : Option Addr} {n c : Nat} {vs : List SV} {t : List (List Int)} (h : OwnT w lo a n c vs t) (hg : w.grownBy w' (some b)) (hb : b < lo) : OwnT w' lo a n c vs t :=
  h.keep fun g hq hl => hg.block g hl (fun e => by have := h.blo g hq; cases e; omega)
theorem Own.headS {w : World} {lo : Nat} {a : Option Addr} {n c : Nat} {xs : List Int} (h : Own w lo a n c xs) (hn : 0 < n) : ∃ g, a = some ⟨g, 0, none⟩ := by
  rcases h.block with ⟨_, e, _⟩ | ⟨g, cur, e, _⟩
  · omega
  · exact ⟨g, e⟩
def LsN (n : Nat) (xs : List Int) : Prop := xs.length = n ∧ Less n xs
theorem LsN.of {n : Nat} {p : List Int} (h : IsP n p) : LsN n p := by
  obtain ⟨f, g, hl, h1, h2⟩ := h
  exact ⟨hl, fun i hi => ⟨f i, (h1 i (by omega)).1, h2 i (by omega)⟩⟩
theorem LsN.set {n : Nat} {xs : List Int} (h : LsN n xs) (i : Nat) {k : Nat} (hk : k < n) : LsN n (xs.set i (k : Int)) := by
  refine ⟨by rw [List.length_set]; exact h.1, fun j hj => ?_⟩
  rw [List.length_set] at hj
  rw [getD_setz _ _ _ _ hj]
  by_cases e : j = i
  · rw [if_pos e]; exact ⟨k, hk, rfl⟩
  · rw [if_neg e]; exact h.2 j hj
def PSq (n : Nat) (f : List (List Int)) : Prop := ∀ r, r ∈ f → LsN n r
theorem PSq.sq {n : Nat} {f : List (List Int)} (h : PSq n f) (hl : f.length = n) : Sq n f := by
  refine ⟨hl, fun x hx => ?_⟩
  have hm : f.getD x [] ∈ f := by rw [List.getD_eq_getElem?_getD, List.getElem?_eq_getElem (by omega)]; exact List.getElem_mem _
  obtain ⟨h1, h2⟩ := h _ hm
  refine ⟨h1, fun y hy => ?_⟩
  obtain ⟨k, hk, e⟩ := h2 y (by omega)
  unfold tv
  rw [e]
  exact ⟨by simpa using hk, by simp⟩
theorem PSq.snoc {n : Nat} {f : List (List Int)} (h : PSq n f) {r : List Int} (hr : LsN n r) : PSq n (f ++ [r]) := fun q hq => by
  rcases List.mem_append.1 hq with hq | hq
  · exact h q hq
  · rw [List.mem_singleton.1 hq]; exact hr
def TbD (b : Nat) (w : World) (n : Nat) (e : Ending) (w' : World) : Prop :=
  ∃ (a : Option Addr) (c : Nat) (vs : List SV) (f : List (List Int)), e = .returned (.slice a n c) ∧ Sq n f ∧ OwnT w' w.heap.size a n c vs f ∧ Src w' b ∧ w.grownBy w' (some b)
set_option maxHeartbeats 16000000 in
theorem l01Tables_ok (b n : Nat) (w : World) (h : Src w b) (h1 : 1 ≤ n) (hn : n ≤ 13) :
    Calls Tryz.prog 120 #[.pointer (some ⟨b, 0, none⟩), .int .i64 n] w (TbD b w n) := by
  have hlt := h.lt
  have hO0 := OwnT.fresh w rfl
  have hs0 := h.below (below_al (Below.refl w.heap.size w) (.cells #[] 27))
  have hG0 := World.grownBy_alloc w (.cells #[] 27) (some b)
  go_enter Tryz.func120, Tryz.ntmps120
  go_wp2_with fail
  refine (l01Next_ok b 3 _ hs0 ⟨by omega, by omega⟩).mono ?_
  rintro e w1 ⟨kd, rfl, _, hk, hs1, hg1⟩
  obtain ⟨hk1, hk2⟩ := hk (by omega)
  have hO1 := hO0.grownS hg1 hlt
  have hG1 := grown_trans hG0 hg1
  have hz1 := hg1.size
  rw [size_alloc] at hz1
  have hkk : kd = 0 ∨ kd = 1 ∨ kd = 2 := by omega
  clear hk hk1 hk2 hO0 hs0 hG0 hg1
  go_wp2_with fail
  refine (l01Draw_ok b n _ hs1 h1 (by omega)).mono ?_
  rintro e w2 ⟨a2, c2, p, rfl, hp, ho2, hs2, hg2⟩
  have hO2 := hO1.grownS hg2 hlt
  have hG2 := grown_trans hG1 hg2
  have hz2 := hg2.size
  have hP := Lib.hid (LsN.of hp)
  have hlo2 := Lib.hid ho2.lo
  have hhi2 := Lib.hid ho2.hi
  clear hp hO1 hG1 hs1 hg2
  go_wp2
  go_loopw [5, 8] (fun t x wr => ∃ (k : Nat) (az : Option Addr) (cz : Nat) (vz : List SV) (f : List (List Int)), k ≤ n ∧ x = .int .i64 k ∧ t = .slice az k cz ∧ Hid (PSq n f) ∧ OwnT wr w.heap.size az k cz vz f ∧ Own wr w1.heap.size a2 n c2 p ∧ Hid (∀ g, az = some ⟨g, 0, none⟩ → a2 ≠ some ⟨g, 0, none⟩) ∧ Src wr b ∧ w.grownBy wr (some b) ∧ w2.heap.size ≤ wr.heap.size) (fun _ x _ => n - (intOf x).toNat)
  case atStart => exact ⟨0, _, 0, [], [], Nat.zero_le _, rfl, rfl, Lib.hid (fun r hr => by cases hr), hO2, ho2, Lib.hid (fun g e1 e2 => by cases e1; have := hlo2.out _ e2; omega), hs2, hG2, Nat.le_refl _⟩
  case round =>
    clear hO2 ho2 hs2 hG2
    obtain ⟨k, az, cz, vz, f, hkn, rfl, rfl, HF, hO, hp, HA, hs, hG, hz⟩ := hrel
    obtain ⟨V, rfl⟩ : ∃ V : World, V = wr := ⟨_, rfl⟩
    by_cases hlt2 : k < n
    · go_wp2_with fail
      refine (l01Draw_ok b n _ hs h1 (by omega)).mono ?_
      rintro e w3 ⟨a3, c3, q, rfl, hq, ho3, hs3, hg3⟩
      have hO3 := hO.grownS hg3 hlt
      have hp3 := hp.grown hg3 (fun g e => by have := hlo2.out g e; simp; omega)
      have hG3 := grown_trans hG hg3
      have hz3 := hg3.size
      have HQ := Lib.hid (LsN.of hq)
      have HZH := Lib.hid hO.uHi
      clear hq hO hp hs hG hg3
      obtain ⟨g3, rfl⟩ : ∃ g, a3 = some ⟨g, 0, none⟩ := by
        rcases ho3.block with ⟨e1, e2, _⟩ | ⟨g, cur, e1, _⟩
        · omega
        · exact ⟨g, e1⟩
      have hl3 := ho3.lo g3 rfl
      have hne2 : ∀ g, a2 = some ⟨g, 0, none⟩ → g ≠ g3 := fun g e => by have := hhi2.out g e; omega
      have HNE2 := Lib.hid hne2
      have HNZ : Hid (∀ g, TblS az k vz g → g ≠ g3) := Lib.hid fun g e => by have := HZH.out g e; omega
      clear hne2
      rcases hkk with rfl | rfl | rfl
      · go_wp2
        go_loopw [10] (fun y wq => ∃ (j : Nat) (q : List Int), j ≤ n ∧ y = .int .i64 j ∧ Hid (LsN n q) ∧ Own wq V.heap.size (some ⟨g3, 0, none⟩) n c3 q ∧ OwnT wq w.heap.size az k cz vz f ∧ Own wq w1.heap.size a2 n c2 p ∧ Src wq b ∧ w.grownBy wq (some b) ∧ V.heap.size ≤ wq.heap.size) (fun y _ => n - (intOf y).toNat)
        case atStart => exact ⟨0, q, Nat.zero_le _, rfl, HQ, ho3, hO3, hp3, hs3, hG3, hz3⟩
        case round =>
          clear HQ ho3 hO3 hp3 hs3 hG3
          obtain ⟨j, q, hj, rfl, HQ, ho3, hO3, hp3, hs3, hG3, hz3⟩ := hrel
          by_cases hjt : j < n
          · have hjn : (j : Int) < (n : Int) := by omega
            go_wp2_with fail
            refine (l01Next_ok b (n : Int) _ hs3 ⟨by omega, by omega⟩).mono ?_
            rintro e w5 ⟨y, rfl, _, hy, hs5, hg5⟩
            obtain ⟨hy1, hy2⟩ := hy (by omega)
            obtain ⟨Y, rfl⟩ : ∃ Y : Nat, y = Y := ⟨y.toNat, by omega⟩
            have ho5 := ho3.grown hg5 (fun g e => by cases e; simp; omega)
            have hO5 := hO3.grownS hg5 hlt
            have hp5 := hp3.grown hg5 (fun g e => by have := hlo2.out g e; simp; omega)
            have hG5 := grown_trans hG3 hg5
            have hz5 := hg5.size
            clear ho3 hO3 hp3 hs3 hG3 hg5 hy
            have c5 := ho5.cells.2.1 j hjt
            have f5 := ho5.cells.2.2 j
            go_wp2
            go_roundw
            case rel => exact ⟨j + 1, _, by omega, by go_num, Lib.hid (HQ.out.set j (by omega)), ho5.set j _, hO5.keep fun g hg hl => Below.heap_setCell _ _ _ _ (HNZ.out g hg), hp5.setne (fun g e => HNE2.out g e) _, hs5.setne (by show b < g3; omega) _, grown_set hG5 (.inr (by show w.heap.size ≤ g3; have := hG5.size; omega)) _, by rw [size_set]; omega⟩
            case measure => simp [intOf]; omega
          · obtain rfl : j = n := by omega
            have HW := Lib.hid hs3
            have hwz := hG3.size
            go_wp2_with (at_builtin; refine appT1g rfl rfl hO3 rfl (ho3.mono (by omega)) (fun g h1 h2 => by cases h2; exact HNZ.out _ (.inl h1) rfl) (fun i hi g h1 h2 => by cases h1; exact HNZ.out _ (.inr ⟨i, hi, h2⟩) rfl) rfl (by omega) (by omega) ?_; intro g' cc w9 hO9 hg9 hat9 hb9)
            go_roundw
            case rel =>
              refine ⟨k + 1, _, _, _, _, by omega, by go_num, rfl, Lib.hid (HF.out.snoc HQ.out), hO9, hp3.grown hg9 (fun g e1 e2 => HA.out g (by rcases hO3.block with ⟨r1, _⟩ | ⟨g2, cur, r1, _⟩ <;> (subst r1; simp [Value.ownBlock] at e2; try (subst e2; rfl))) e1), Lib.hid (fun g e1 e2 => ?_), hs3.keepB hb9 (by omega), grown_below hG3 hb9 (Nat.le_refl _), by have := hg9.size; omega⟩
              cases e1
              rcases hat9 with e | e
              · exact HA.out g' (by rcases hO3.block with ⟨r1, _⟩ | ⟨g2, cur, r1, _⟩ <;> (subst r1; simp [Value.ownBlock] at e; try (subst e; rfl))) e2
              · have := hhi2.out _ e2; omega
            case measure => simp [intOf]; omega
      · go_wp2
        go_loopw [11] (fun y wq => ∃ (j : Nat) (q : List Int), j ≤ n ∧ y = .int .i64 j ∧ Hid (LsN n q) ∧ Own wq V.heap.size (some ⟨g3, 0, none⟩) n c3 q ∧ OwnT wq w.heap.size az k cz vz f ∧ Own wq w1.heap.size a2 n c2 p ∧ Src wq b ∧ w.grownBy wq (some b) ∧ V.heap.size ≤ wq.heap.size) (fun y _ => n - (intOf y).toNat)
        case atStart => exact ⟨0, q, Nat.zero_le _, rfl, HQ, ho3, hO3, hp3, hs3, hG3, hz3⟩
        case round =>
          clear HQ ho3 hO3 hp3 hs3 hG3
          obtain ⟨j, q, hj, rfl, HQ, ho5, hO5, hp5, hs5, hG5, hz5⟩ := hrel
          by_cases hjt : j < n
          · have hjn : (j : Int) < (n : Int) := by omega
            have hn0 : ¬ (n : Int) = 0 := by omega
            have hn0b : ((n : Int) == 0) = false := by simpa using hn0
            obtain ⟨m, hm⟩ : ∃ m : Nat, m = (k + j) % n := ⟨_, rfl⟩
            have hmn : m < n := by rw [hm]; exact Nat.mod_lt _ (by omega)
            have hmod : Int.tmod ((k : Int) + (j : Int)) (n : Int) = (m : Int) := by rw [hm, show (k : Int) + (j : Int) = ((k + j : Nat) : Int) by omega]; rfl
            have hw1 : IntKind.i64.wrap ((k : Int) + (j : Int)) = (k : Int) + (j : Int) := IntWalk.i64_in _ (by omega)
            have hm0 : (0 : Int) ≤ (m : Int) := by omega
            have hmn' : (m : Int) < (n : Int) := by omega
            rcases hp5.block with ⟨_, e2, _⟩ | ⟨gp, _, rfl, _⟩
            · omega
            obtain ⟨Y, hY, eY⟩ := hP.out.2 m (by rw [hP.out.1]; exact hmn)
            have cp := hp5.cells.2.1 m hmn
            rw [eY] at cp
            have c5 := ho5.cells.2.1 j hjt
            have f5 := ho5.cells.2.2 j
            have HM := Lib.hid hm
            clear hm eY
            go_wp2
            go_roundw
            case rel => exact ⟨j + 1, _, by omega, by go_num, Lib.hid (HQ.out.set j (k := Y) (by omega)), ho5.set j _, hO5.keep fun g hg hl => Below.heap_setCell _ _ _ _ (HNZ.out g hg), hp5.setne (fun g e => HNE2.out g e) _, hs5.setne (by show b < g3; omega) _, grown_set hG5 (.inr (by show w.heap.size ≤ g3; have := hG5.size; omega)) _, by rw [size_set]; exact hz5⟩
            case measure => simp [intOf]; omega
          · obtain rfl : j = n := by omega
            have ho3 := ho5; have hO3 := hO5; have hp3 := hp5; have hs3 := hs5; have hG3 := hG5; have hz3 := hz5
            clear ho5 hO5 hp5 hs5 hG5 hz5
            have HW := Lib.hid hs3
            have hwz := hG3.size
            go_wp2_with (at_builtin; refine appT1g rfl rfl hO3 rfl (ho3.mono (by omega)) (fun g h1 h2 => by cases h2; exact HNZ.out _ (.inl h1) rfl) (fun i hi g h1 h2 => by cases h1; exact HNZ.out _ (.inr ⟨i, hi, h2⟩) rfl) rfl (by omega) (by omega) ?_; intro g' cc w9 hO9 hg9 hat9 hb9)
            go_roundw
            case rel =>
              refine ⟨k + 1, _, _, _, _, by omega, by go_num, rfl, Lib.hid (HF.out.snoc HQ.out), hO9, hp3.grown hg9 (fun g e1 e2 => HA.out g (by rcases hO3.block with ⟨r1, _⟩ | ⟨g2, cur, r1, _⟩ <;> (subst r1; simp [Value.ownBlock] at e2; try (subst e2; rfl))) e1), Lib.hid (fun g e1 e2 => ?_), hs3.keepB hb9 (by omega), grown_below hG3 hb9 (Nat.le_refl _), by have := hg9.size; omega⟩
              cases e1
              rcases hat9 with e | e
              · exact HA.out g' (by rcases hO3.block with ⟨r1, _⟩ | ⟨g2, cur, r1, _⟩ <;> (subst r1; simp [Value.ownBlock] at e; try (subst e; rfl))) e2
              · have := hhi2.out _ e2; omega
            case measure => simp [intOf]; omega
      · skip
        have HW := Lib.hid hs3
        have hwz := hG3.size
        go_wp2_with (at_builtin; refine appT1g rfl rfl hO3 rfl (ho3.mono (by omega)) (fun g h1 h2 => by cases h2; exact HNZ.out _ (.inl h1) rfl) (fun i hi g h1 h2 => by cases h1; exact HNZ.out _ (.inr ⟨i, hi, h2⟩) rfl) rfl (by omega) (by omega) ?_; intro g' cc w9 hO9 hg9 hat9 hb9)
        go_roundw
        case rel =>
          refine ⟨k + 1, _, _, _, _, by omega, by go_num, rfl, Lib.hid (HF.out.snoc HQ.out), hO9, hp3.grown hg9 (fun g e1 e2 => HA.out g (by rcases hO3.block with ⟨r1, _⟩ | ⟨g2, cur, r1, _⟩ <;> (subst r1; simp [Value.ownBlock] at e2; try (subst e2; rfl))) e1), Lib.hid (fun g e1 e2 => ?_), hs3.keepB hb9 (by omega), grown_below hG3 hb9 (Nat.le_refl _), by have := hg9.size; omega⟩
          cases e1
          rcases hat9 with e | e
          · exact HA.out g' (by rcases hO3.block with ⟨r1, _⟩ | ⟨g2, cur, r1, _⟩ <;> (subst r1; simp [Value.ownBlock] at e; try (subst e; rfl))) e2
          · have := hhi2.out _ e2; omega
        case measure => simp [intOf]; omega
    · obtain rfl : k = n := by omega
      go_wp2
      go_ret
      exact ⟨_, _, vz, f, rfl, HF.out.sq hO.len.symm, hO, hs, hG⟩
end Go.Proofs.YtpdgpgbgakinlaaGreat

namespace Go.Proofs.YtpdgpgbgakinlaaGreat
set_option maxRecDepth 100000
set_option linter.unusedVariables false
set_option linter.unusedSimpArgs false
def trnL (n : Nat) (t : List (List Int)) : List (List Int) := tabF n fun x y => ((tv t y x : Nat) : Int)
theorem trnL_tv {n : Nat} {t : List (List Int)} {x y : Nat} (hx : x < n) (hy : y < n) : tv (trnL n t) x y = tv t y x := by
  unfold trnL
  conv => lhs; unfold tv
  rw [tabF_get _ _ _ hx]
  simp only [List.getD_eq_getElem?_getD, List.getElem?_map, List.getElem?_range hy, Option.map_some, Option.getD_some, Int.toNat_natCast]
  simp only [tv, List.getD_eq_getElem?_getD]
theorem trnL_sq {n : Nat} {t : List (List Int)} (h : Sq n t) : Sq n (trnL n t) := by
  refine ⟨tabF_len _ _, fun x hx => ?_⟩
  have e : (trnL n t).getD x [] = (List.range n).map fun y => ((tv t y x : Nat) : Int) := tabF_get _ _ _ hx
  refine ⟨by rw [e]; simp, fun y hy => ⟨by rw [trnL_tv hx hy]; exact h.lt hy hx, ?_⟩⟩
  rw [trnL_tv hx hy, e]
  simp [List.getD_eq_getElem?_getD, hy]
end Go.Proofs.YtpdgpgbgakinlaaGreat

namespace Go.Proofs.YtpdgpgbgakinlaaGreat
set_option maxRecDepth 100000
set_option linter.unusedVariables false
set_option linter.unusedSimpArgs false
open Go.RowKit
def colL (n : Nat) (t : List (List Int)) (y : Nat) : List Int := (List.range n).map fun x => ((tv t x y : Nat) : Int)
theorem colL_succ (k : Nat) (t : List (List Int)) (y : Nat) : colL (k + 1) t y = colL k t y ++ [((tv t k y : Nat) : Int)] := by simp [colL, List.range_succ]
set_option maxHeartbeats 2000000 in
theorem l01Column_any (n y : Nat) (at_ : Option Addr) (ct : Nat) (t : List (List Int)) (w : World) (h1 : Tbl w at_ n t) (hs : Sq n t) (hn1 : 1 ≤ n) (hn : n ≤ 12) (hy : y < n) :
    Calls Tryz.prog 181 #[.slice at_ n ct, .int .i64 y] w fun e w' => ∃ a c, e = .returned (.slice a n c) ∧ Own w' w.heap.size a n c (colL n t y) ∧ Below w.heap.size w w' := by
  obtain ⟨b, off, A, O, C, rfl, G⟩ := h1.grid hs hn1
  clear h1
  have hO : Own (w.alloc (.cells #[] 2)) w.heap.size (some ⟨w.heap.size, 0, none⟩) 0 0 [] := Own.mk rfl (Nat.le_refl _) (Loc.new w rfl _ _) (Nat.le_refl _) (by unfold maxLen; omega) rfl rfl
  have hB := below_al (Below.refl w.heap.size w) (.cells #[] 2)
  go_enter Tryz.func181, Tryz.ntmps181
  go_wp2
  go_loopw [5, 6] (fun z i wr => ∃ (k : Nat) (az : Option Addr) (cz : Nat), k ≤ n ∧ i = .int .i64 k ∧ z = .slice az k cz ∧ Own wr w.heap.size az k cz (colL k t y) ∧ Below w.heap.size w wr) (fun _ i _ => n - (intOf i).toNat)
  case atStart => exact ⟨0, _, 0, Nat.zero_le _, rfl, rfl, hO, hB⟩
  case round =>
    clear hO hB
    obtain ⟨k, az, cz, hk, rfl, rfl, ho, hb⟩ := hrel
    by_cases hlt : k < n
    · obtain ⟨r1, k1⟩ := (G.below hb).look hlt hy
      obtain ⟨v, HV⟩ : ∃ v, Hid (tv t k y = v) := ⟨_, rfl⟩
      rw [HV.out] at k1
      have HCC : Hid (colL (k + 1) t y = colL k t y ++ [((v : Nat) : Int)]) := Lib.hid (by rw [colL_succ, HV.out])
      have i1 : (0 : Int) ≤ (k : Int) := by omega
      have i2 : (k : Int) < (n : Int) := by omega
      have i3 : (0 : Int) ≤ (y : Int) := by omega
      have i4 : (y : Int) < (n : Int) := by omega
      have hbz := hb.size
      go_wp2_with (at_builtin; refine app1 rfl rfl ho rfl rfl (by omega) hbz ?_; intro g' cc w8 hO8 hg8 hs8 hb8)
      go_roundw
      case rel => exact ⟨k + 1, _, cc, by omega, by go_num, rfl, by rw [HCC.out]; exact hO8, hb.trans hb8⟩
      case measure => simp [intOf]; omega
    · obtain rfl : k = n := by omega
      go_wp2
      go_ret
      exact ⟨az, cz, rfl, ho, hb⟩
set_option maxHeartbeats 2000000 in
theorem l01Turn_any (n : Nat) (at_ : Option Addr) (ct : Nat) (t : List (List Int)) (w : World) (h1 : Tbl w at_ n t) (hs : Sq n t) (hn1 : 1 ≤ n) (hn : n ≤ 12) :
    Calls Tryz.prog 162 #[.slice at_ n ct] w fun e w' => ∃ a c vs, e = .returned (.slice a n c) ∧ OwnT w' w.heap.size a n c vs (trnL n t) ∧ Below w.heap.size w w' := by
  have HS := Lib.hid hs; clear hs
  have HT : Hid (trnL n t = (List.range n).map fun y => colL n t y) := Lib.hid rfl
  have hO := OwnT.fresh w rfl
  have hB := below_al (Below.refl w.heap.size w) (.cells #[] 27)
  go_enter Tryz.func162, Tryz.ntmps162
  go_wp2
  go_loopw [3, 4] (fun z i wr => ∃ (k : Nat) (az : Option Addr) (cz : Nat) (vz : List SV), k ≤ n ∧ i = .int .i64 k ∧ z = .slice az k cz ∧ OwnT wr w.heap.size az k cz vz ((List.range k).map fun y => colL n t y) ∧ Below w.heap.size w wr) (fun _ i _ => n - (intOf i).toNat)
  case atStart => exact ⟨0, _, 0, _, Nat.zero_le _, rfl, rfl, by simpa using hO, hB⟩
  case round =>
    clear hO hB
    obtain ⟨k, az, cz, vz, hk, rfl, rfl, ho, hb⟩ := hrel
    by_cases hlt : k < n
    · have HK : Hid (((List.range (k + 1)).map fun y => colL n t y) = ((List.range k).map fun y => colL n t y) ++ [colL n t k]) := Lib.hid (by simp [List.range_succ])
      go_wp2_with fail
      refine (l01Column_any n k _ _ t _ (h1.below hb) HS.out hn1 hn hlt).mono ?_
      rintro e w1 ⟨a1, c1, rfl, ho1, hb1⟩
      have hbb := hb.size
      have hz1 := ho.below hb1
      have hq1 := below_th hb hb1
      have hs1 := hb1.size
      go_wp2_with (at_builtin; refine appT1 rfl rfl hz1 rfl (ho1.mono hbb) (fun g h1 h2 => by have h3 := ho.high _ h1; have h4 := ho1.lo _ h2; omega) (fun i hi g h1 h2 => by have h3 := ho1.lo _ h1; have h4 := (ho.row i hi).hi _ h2; omega) rfl (by omega) (by omega) ?_; intro g' cc w2 hO hb2)
      go_roundw
      case rel => exact ⟨k + 1, _, _, _, by omega, by go_num, rfl, by rw [HK.out]; exact hO, hq1.trans hb2⟩
      case measure => simp [intOf]; omega
    · obtain rfl : k = n := by omega
      go_wp2
      go_ret
      exact ⟨_, _, vz, rfl, by rw [HT.out]; exact ho, hb⟩
end Go.Proofs.YtpdgpgbgakinlaaGreat

namespace Go.Proofs.YtpdgpgbgakinlaaGreat
set_option linter.unusedVariables false
set_option linter.unusedSimpArgs false
set_option maxRecDepth 100000
open Go.RowKit
set_option maxHeartbeats 8000000 in
theorem l02Draw_ok (M b : Nat) (w : World) (h : Src w b) (h1 : 1 ≤ M) (hM : M ≤ 12) :
    Calls Tryz.prog 118 #[.pointer (some ⟨b, 0, none⟩), .int .i64 M] w (SolD b w M) := by
  have hlt := h.lt
  have hR := Loc.new w rfl #[.slice none 0 0, .slice none 0 0] 26
  go_enter Tryz.func118, Tryz.ntmps118
  go_wp2_with fail
  refine (l02Any_ok M b _ (h.below (below_al (Below.refl _ _) _)) h1 hM).mono ?_
  rintro e w1 ⟨n, n1, nM, a1, c1, vs1, f, a1', c1', vs1', g, rfl, ho1, sf, sg, hs1, hg1⟩
  have hR1 := hR.grown hg1 (by simp; omega)
  have hG1 := grown_trans (World.grownBy_alloc w (.cells #[.slice none 0 0, .slice none 0 0] 26) (some b)) hg1
  have hz1 := hR1.lt
  obtain ⟨w2, hw2⟩ : ∃ w2, w1.alloc (.cells #[.slice a1 n c1, .slice a1' n c1'] 26) = w2 := ⟨_, rfl⟩
  have hb2 : Below w1.heap.size w1 w2 := by rw [← hw2]; exact below_al (Below.refl _ _) _
  have hO2 : Loc w2 w1.heap.size #[.slice a1 n c1, .slice a1' n c1'] 26 := by rw [← hw2]; exact Loc.new w1 rfl _ _
  have hR2 := hR1.below hb2 hz1
  have hs2 := hs1.below hb2
  have hG2 := grown_trans hG1 (grown_of_below hb2 (some b))
  have ho2 := (ho1.below hb2).mono (lo' := w.heap.size + 1) (by simp)
  have HFH : Hid (∀ q, TblS a1 n vs1 q → q < w1.heap.size) := Lib.hid ho1.f.uHi
  have HGH : Hid (∀ q, TblS a1' n vs1' q → q < w1.heap.size) := Lib.hid ho1.s.uHi
  have HW2 := Lib.hid hw2
  have SF := Lib.hid sf; have SG := Lib.hid sg
  clear hw2 ho1 hR hR1 hG1 hs1 hg1 sf sg
  go_wp2_with fail
  rw [HW2.out]
  refine (l01Next_ok b 4 _ hs2 ⟨by omega, by omega⟩).mono ?_
  rintro e w3 ⟨x, rfl, _, hx, hs3, hg3⟩
  obtain ⟨hx1, hx2⟩ := hx (by omega)
  clear hx
  have hR3 := hR2.grown hg3 (by simp; omega)
  have hO3 := hO2.grown hg3 (by simp; omega)
  have hG3 := grown_trans hG2 hg3
  have ho3 := ho2.grownb hg3 (by omega)
  have hO3l := hO3.lt
  have hR3l := hR3.lt
  clear hR2 hO2 hG2 ho2 hs2 hb2
  by_cases hx0 : 0 < x
  · have lO := hO3.two
    have tok1 : True := trivial
    go_upto_region 3 with fail
    go_region_held3 (fun w' => w'.cell? ⟨w1.heap.size, 0, none⟩ = some (.slice a1 n c1) ∧ w'.cell? ⟨w1.heap.size, 1, none⟩ = some (.slice a1' n c1'))
      (first | exact ⟨lM.1, lM.2.1⟩ | exact ⟨lC.1, lC.2.1⟩ | exact ⟨lB.1, lB.2.1⟩ | exact ⟨lO.1, lO.2.1⟩ | go_keep)
      (first
        | (go_at_call 119; have _t := tok1; refine (l01Draw_ok b n _ (hs3.below (below_drewN (Below.refl _ _) 1)) n1 (by omega)).mono ?_; rintro e w5 ⟨a5, c5, p, rfl, hp, ho5', hs5, hg5'⟩; clear _t tok1; have tok2 : True := trivial; have HP := Lib.hid hp; clear hp; have hg5 : w3.grownBy w5 (some b) := grown_trans (grown_of_below (below_drewN (Below.refl _ _) 1) (some b)) hg5'; have hO5 := hO3.grown hg5 (by simp; omega); have lB := hO5.two; have ho5 := ho3.grownb hg5 (by omega))
        | (go_at_call 156; have _t := tok2; refine (l02Rename_any n a1 a1' a5 c1 c1' c5 f g p _ ho5.f.tbl ho5.s.tbl ho5'.row SF.out SG.out HP.out n1 (by omega)).mono ?_; rintro e w6 ⟨a6, c6, vs6, f6, a6', c6', vs6', g6, rfl, ho6, sf6, sg6, hb6⟩; clear _t tok2; have hg5s := hg5.size; have hO6 := hO5.below hb6 (by omega); have lC := hO6.two; have hR6 := (hR3.grown hg5 (by simp; omega)).below hb6 (by omega); have lRr := hR6.two; have lM := ((hO6.setne (a := ⟨w.heap.size, 0, none⟩) (by show w1.heap.size ≠ w.heap.size; omega) (.slice a6 n c6)).setne (a := ⟨w.heap.size, 1, none⟩) (by show w1.heap.size ≠ w.heap.size; omega) (.slice a6' n c6')).two))
    all_goals
      have lR := hR6.two
      have hs6 := hs5.below hb6
      have hG6 := grown_trans (grown_trans hG3 hg5) (grown_of_below hb6 (some b))
      go_wp2
      exact bodyPost_ret (v := sAgg a6 n c6 a6' n c6') (by simp [results, Tryz.results118, go_sem, lR]) rfl ⟨n, n1, nM, sol_ret ho6 (by omega) hs6 hlt hG6 sf6 sg6⟩
  · have hx3 : ¬ 0 < x := hx0
    have lO := hO3.two
    have lR := hR3.two
    go_wp2
    exact bodyPost_ret (v := sAgg a1 n c1 a1' n c1') (by simp [results, Tryz.results118, go_sem, lR, lO]) rfl ⟨n, n1, nM, sol_ret ho3 (by omega) hs3 hlt hG3 SF.out SG.out⟩
end Go.Proofs.YtpdgpgbgakinlaaGreat
