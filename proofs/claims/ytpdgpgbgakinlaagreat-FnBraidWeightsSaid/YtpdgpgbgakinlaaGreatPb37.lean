/-
  Walks and plain laws of this seat, some texts in one.
  No condition but bounds on lengths.
-/
import Derived.Test.YtpdgpgbgakinlaaGreatPb10
import Derived.Test.YtpdgpgbgakinlaaGreatPb8
import Derived.Deep.RegionLaw
import Derived.Test.YtpdgpgbgakinlaaGreatPb36
import Derived.Test.YtpdgpgbgakinlaaGreatPb24
import Derived.Test.YtpdgpgbgakinlaaGreatPb17
import Derived.Test.YtpdgpgbgakinlaaGreatPb16
import Derived.Test.YtpdgpgbgakinlaaGreatPb9
namespace Go.Proofs.YtpdgpgbgakinlaaGreat
set_option maxRecDepth 100000
set_option linter.unusedVariables false
set_option linter.unusedSimpArgs false
open Go.RowKit
theorem nodupG_le {n : Nat} {ys : List Int} (h : ys.Nodup) (hx : Less n ys) : ys.length ≤ n := by
  by_cases c : ys.length ≤ n
  · exact c
  have hp := sub_perm (m := (List.range n).map fun k : Nat => (k : Int)) h (fun x hm => by
    obtain ⟨i, hi, rfl⟩ := List.getElem_of_mem hm
    obtain ⟨k, hk, e⟩ := hx i hi
    rw [List.getD_eq_getElem?_getD, List.getElem?_eq_getElem hi, Option.getD_some] at e
    rw [e]
    exact List.mem_map.2 ⟨k, List.mem_range.2 hk, rfl⟩) (by simp; omega)
  have := hp.length_eq
  simp at this; omega
theorem less_snocG {n : Nat} {l : List Int} (h : Less n l) {q : Nat} (hq : q < n) : Less n (l ++ [(q : Int)]) := fun i hi => by
  rw [List.length_append, List.length_singleton] at hi
  by_cases e : i < l.length
  · obtain ⟨k, hk, e2⟩ := h i e
    exact ⟨k, hk, by rw [List.getD_eq_getElem?_getD, List.getElem?_append_left e, ← List.getD_eq_getElem?_getD]; exact e2⟩
  · obtain rfl : i = l.length := by omega
    exact ⟨q, hq, by simp [List.getD_eq_getElem?_getD]⟩
def OrbG (n : Nat) (x : Nat) (ys : List Int) : Prop := ys.Nodup ∧ Less n ys ∧ (x : Int) ∈ ys
theorem OrbG.snoc {n x : Nat} {ys : List Int} (h : OrbG n x ys) {q : Nat} (hq : q < n) (hn : (q : Int) ∉ ys) : OrbG n x (ys ++ [(q : Int)]) :=
  ⟨List.nodup_append.2 ⟨h.1, by simp, fun a ha b hb e => by rw [List.mem_singleton] at hb; subst hb; subst e; exact hn ha⟩, less_snocG h.2.1 hq, List.mem_append_left _ h.2.2⟩
theorem OrbG.le {n x : Nat} {ys : List Int} (h : OrbG n x ys) : ys.length ≤ n := nodupG_le h.1 h.2.1
def RwsN (n m : Nat) (t : List (List Int)) : Prop := ∀ k, k < m → LsN n (t.getD k [])
set_option maxHeartbeats 8000000 in
theorem l01OrbitG_any (n m x : Nat) (t : List (List Int)) (ta : Option Addr) (tc : Nat) (w : World) (h : Tbl w ta m t) (ht : RwsN n m t) (hx : x < n) (hn : n ≤ 100) (hm : m ≤ 1000) :
    Calls Tryz.prog 182 #[.slice ta m tc, .int .i64 x] w fun e w' => ∃ a on c ys, e = .returned (.slice a on c) ∧ OrbG n x ys ∧ Own w' w.heap.size a on c ys ∧ Below w.heap.size w w' := by
  have HT := Lib.hid ht
  clear ht
  have HB : Below w.heap.size w (w.alloc (.cells #[.int .i64 x] 2)) := (Below.refl _ _).alloc (Nat.le_refl _) _
  have HO : Own (w.alloc (.cells #[.int .i64 x] 2)) w.heap.size (some ⟨w.heap.size, 0, none⟩) 1 1 [(x : Int)] := Own.single w rfl x
  have H0 : Hid (OrbG n x [(x : Int)]) := Lib.hid ⟨by simp, fun i hi => ⟨x, hx, by have : i = 0 := by simpa using hi
                                                                                   subst this; rfl⟩, by simp⟩
  go_enter Tryz.func182, Tryz.ntmps182
  go_wp2
  go_loopw [5, 6] (fun q i wr => ∃ (k : Nat) (a : Option Addr) (on c : Nat) (ys : List Int), k ≤ on ∧ i = .int .i64 k ∧ q = .slice a on c ∧ Hid (OrbG n x ys) ∧ Own wr w.heap.size a on c ys ∧ Below w.heap.size w wr) (fun _ i _ => n - (intOf i).toNat)
  case atStart => exact ⟨0, _, 1, 1, _, by omega, rfl, rfl, H0, HO, HB⟩
  case round =>
    clear HB HO H0
    obtain ⟨k, a, on, c, ys, hk, rfl, rfl, HY, ho, hb⟩ := hrel
    have hle := HY.out.le
    have hlen := ho.len
    have hon : on ≤ n := by omega
    clear hle hlen
    by_cases hlt : k < on
    · go_wp2
      go_loopw [5, 7] (fun q j wr => ∃ (i : Nat) (a : Option Addr) (on c : Nat) (ys : List Int), i ≤ m ∧ k < on ∧ j = .int .i64 i ∧ q = .slice a on c ∧ Hid (OrbG n x ys) ∧ Own wr w.heap.size a on c ys ∧ Below w.heap.size w wr) (fun _ j _ => m - (intOf j).toNat)
      case atStart => exact ⟨0, a, on, c, ys, Nat.zero_le _, hlt, rfl, rfl, HY, ho, hb⟩
      case round =>
        clear HY ho hb hon hlt hk
        obtain ⟨i, a, on, c, ys, hi, hlt, rfl, rfl, HY, ho, hb⟩ := hrel
        have hle := HY.out.le
        have hlen := ho.len
        have hon : on ≤ n := by omega
        have HLEN := Lib.hid hlen
        clear hle hlen
        by_cases hit : i < m
        · obtain ⟨X, hX, eX⟩ := HY.out.2.1 k (by have := HLEN.out; omega)
          obtain ⟨tb, og, ai, ni, ci, rfl, g1, hri, hni⟩ := (h.below hb).at i hit
          have hLs := HT.out i hit
          obtain rfl : ni = n := by rw [hri.len]; exact hLs.1
          obtain ⟨Y, hY, eY⟩ := hLs.2 X (by rw [hLs.1]; exact hX)
          obtain ⟨pb, po, rfl, g0⟩ := hri.at X hX
          have g2 : wr.cell? ⟨pb, po + X, none⟩ = some (.int .i64 (Y : Int)) := by rw [← eY]; exact g0
          clear g0
          obtain ⟨gq, rfl⟩ := ho.headS (by omega)
          have g3 := ho.cells.2.1 k hlt
          rw [eX] at g3
          have hrow := ho.row
          have i1 : (0 : Int) ≤ (i : Int) := by omega
          have i2 : (i : Int) < (m : Int) := by omega
          have i3 : (0 : Int) ≤ (k : Int) := by omega
          have i4 : (k : Int) < (on : Int) := by omega
          have i5 : (0 : Int) ≤ (X : Int) := by omega
          have i6 : (X : Int) < (ni : Int) := by omega
          clear hLs eY eX hri
          by_cases hmem : (Y : Int) ∈ ys
          · have HQ : Hid (∀ q, Calls Tryz.prog 152 #[.slice (some ⟨gq, 0, none⟩) on c, .int .i64 Y] (wr.drewN q) fun e w' => e = .returned (.bool true) ∧ w' = wr.drewN q) := Lib.hid fun q => (l01Has_any _ _ _ ys Y _ (hrow.drewN q) (by omega)).mono fun e w' hh => ⟨by rw [hh.1, decide_eq_true hmem], hh.2.symm⟩
            have HM := Lib.hid hmem
            clear hmem hrow
            go_wp2
            go_quiet ((go_at_call 152; exact Calls.quiet_of_same (HQ.out _)))
            go_wp2
            go_roundw
            case rel => exact ⟨i + 1, _, _, _, ys, by omega, hlt, by go_num, rfl, HY, ho.drewN _, below_drewN hb _⟩
            case measure => simp [intOf]; omega
          · have HQ : Hid (∀ q, Calls Tryz.prog 152 #[.slice (some ⟨gq, 0, none⟩) on c, .int .i64 Y] (wr.drewN q) fun e w' => e = .returned (.bool false) ∧ w' = wr.drewN q) := Lib.hid fun q => (l01Has_any _ _ _ ys Y _ (hrow.drewN q) (by omega)).mono fun e w' hh => ⟨by rw [hh.1, decide_eq_false hmem], hh.2.symm⟩
            have HM := Lib.hid hmem
            clear hmem hrow
            go_wp2
            go_quiet ((go_at_call 152; exact Calls.quiet_of_same (HQ.out _)))
            generalize hwz : wr.drewN _ = wz
            have hoz : Own wz w.heap.size (some ⟨gq, 0, none⟩) on c ys := by rw [← hwz]; exact ho
            have hbz : Below w.heap.size w wz := by rw [← hwz]; exact below_drewN hb _
            have g1z : wz.cell? ⟨tb, og + i, none⟩ = some (.slice (some ⟨pb, po, none⟩) ni ci) := by rw [← hwz]; exact g1
            have g2z : wz.cell? ⟨pb, po + X, none⟩ = some (.int .i64 Y) := by rw [← hwz]; exact g2
            have g3z : wz.cell? ⟨gq, k, none⟩ = some (.int .i64 X) := by rw [← hwz]; exact g3
            have hzz := hbz.size
            clear hwz g1 g2 g3 ho hb
            go_wp2
            go_region_law (refine step_app1 rfl rfl hoz rfl rfl (by omega) hzz ?_; intro g' cc w' hO' hg' hs' hb')
            all_goals
              go_wp2
              go_roundw
              case rel => exact ⟨i + 1, _, _, _, _, by omega, by omega, by go_num, rfl, Lib.hid (HY.out.snoc hY HM.out), hO', hbz.trans hb'⟩
              case measure => simp [intOf]; omega
        · obtain rfl : m = i := by omega
          go_wp2
          go_roundw
          case rel => exact ⟨k + 1, a, on, c, ys, by omega, by go_num, rfl, HY, ho, hb⟩
          case measure => simp [intOf]; omega
    · obtain rfl : on = k := by omega
      go_wp2
      go_ret
      exact ⟨a, _, c, ys, rfl, HY.out, ho, hb⟩
/-! ### the numbers of the orbits -/
def LabG (n s : Nat) (L : List Int) : Prop := L.length = n ∧ ∀ i, i < n → -1 ≤ L.getD i 0 ∧ L.getD i 0 < s ∧ (i < s → 0 ≤ L.getD i 0)
theorem LabG.zero (n : Nat) : LabG n 0 (List.replicate n (-1)) := ⟨by simp, fun i hi => by
  have : (List.replicate n (-1 : Int)).getD i 0 = -1 := by rw [List.getD_eq_getElem?_getD, List.getElem?_replicate, if_pos hi]; rfl
  rw [this]; omega⟩
theorem getD_setG (L : List Int) {j i : Nat} (v : Int) (h : i < L.length) : (L.set j v).getD i 0 = if i = j then v else L.getD i 0 := by
  rw [List.getD_eq_getElem?_getD, List.getElem?_set]
  by_cases e : j = i
  · subst e; rw [if_pos rfl, if_pos rfl, if_pos h]; rfl
  · rw [if_neg e, if_neg (fun q => e q.symm), List.getD_eq_getElem?_getD]
set_option maxHeartbeats 8000000 in
theorem l01OrbitsG_any (n m : Nat) (t : List (List Int)) (ta : Option Addr) (tc : Nat) (w : World) (h : Tbl w ta m t) (ht : RwsN n m t) (hn : n ≤ 100) (hm : m ≤ 1000) :
    Calls Tryz.prog 163 #[.int .i64 n, .slice ta m tc] w fun e w' => ∃ a c L, e = .returned (.slice a n c) ∧ LabG n n L ∧ Own w' w.heap.size a n c L ∧ Below w.heap.size w w' := by
  have HT := Lib.hid ht
  clear ht
  go_enter Tryz.func163, Tryz.ntmps163
  go_wp2
  go_loopw [5, 6] (fun q i wr => ∃ (k : Nat) (a : Option Addr) (c : Nat), k ≤ n ∧ q = .slice a k c ∧ i = .int .i64 k ∧ Own wr w.heap.size a k c (List.replicate k (-1)) ∧ Below w.heap.size w wr) (fun _ i _ => n - (intOf i).toNat)
  case atStart => exact ⟨0, _, 0, Nat.zero_le _, rfl, rfl, Own.fresh w rfl, (Below.refl _ _).alloc (Nat.le_refl _) _⟩
  case round =>
    obtain ⟨k, a, c, hk, rfl, rfl, ho, hb⟩ := hrel
    by_cases hlt : k < n
    · have hzz := hb.size
      go_wp2_with (at_builtin; refine app1 rfl rfl ho rfl rfl (by omega) hzz ?_; intro g' c' w' hO' hg' hs' hb'; clear hg')
      go_roundw
      case rel => exact ⟨k + 1, _, _, by omega, rfl, by go_num, by rw [List.replicate_succ']; exact hO', hb.trans hb'⟩
      case measure => simp [intOf]; omega
    · obtain rfl : n = k := by omega
      have H0 := Lib.hid (LabG.zero n)
      go_wp2
      go_loopw [7, 8] (fun v i wr => ∃ (s N : Nat) (L : List Int), s ≤ n ∧ N ≤ s ∧ v = .int .i64 N ∧ i = .int .i64 s ∧ Hid (LabG n s L) ∧ Own wr w.heap.size a n c L ∧ Below w.heap.size w wr) (fun _ i _ => n - (intOf i).toNat)
      case atStart => exact ⟨0, 0, _, Nat.zero_le _, Nat.zero_le _, rfl, rfl, H0, ho, hb⟩
      case round =>
        clear ho hb H0
        obtain ⟨s, N, L, hs, hN, rfl, rfl, HL, ho, hb⟩ := hrel
        by_cases hlt : s < n
        · obtain ⟨ga, rfl⟩ := ho.headS (by omega)
          have hcs := ho.cells.2.1 s hlt
          have hLs := HL.out.2 s hlt
          obtain ⟨Z, hZ⟩ : ∃ Z, L.getD s 0 = Z := ⟨_, rfl⟩
          rw [hZ] at hcs hLs
          have HZ := Lib.hid hZ
          clear hZ
          by_cases hz : 0 ≤ Z
          · have hzb : decide (Z ≥ 0) = true := by simpa using hz
            have hzb' : decide (0 ≤ Z) = true := by simpa using hz
            have HN : Hid (LabG n (s + 1) L) := Lib.hid ⟨HL.out.1, fun i hi => by
              have := HL.out.2 i hi
              refine ⟨this.1, by omega, fun q => ?_⟩
              by_cases e : i = s
              · subst e; rw [HZ.out]; exact hz
              · exact this.2.2 (by omega)⟩
            go_wp2
            go_roundw
            case rel => exact ⟨s + 1, N, L, by omega, by omega, rfl, by go_num, HN, ho, hb⟩
            case measure => simp [intOf]; omega
          · have hzb : decide (Z ≥ 0) = false := by simpa using hz
            have hzb' : decide (0 ≤ Z) = false := by simpa using hz
            have hT := h.below hb
            go_wp2_with fail
            refine (l01OrbitG_any n m s t ta tc _ hT HT.out hlt hn hm).mono ?_
            rintro e w2 ⟨oa, on, oc, ys, rfl, hys, hO, hb2⟩
            have ho2 := ho.below hb2
            have hB2 := below_th hb hb2
            have hle := hys.le
            have hol := hO.len
            have hon : on ≤ n := by omega
            have HY := Lib.hid hys
            have HOL := Lib.hid hol
            have hlo2 := hO.lo
            have hga2 := ho.hi ga rfl
            have H1 : Hid (L.length = n ∧ (∀ i, i < n → -1 ≤ L.getD i 0 ∧ L.getD i 0 < (s + 1 : Nat) ∧ (i < s → 0 ≤ L.getD i 0)) ∧ ∀ q, q < 0 → 0 ≤ L.getD (ys.getD q 0).toNat 0) := Lib.hid ⟨HL.out.1, fun i hi => by have := HL.out.2 i hi; exact ⟨this.1, by omega, this.2.2⟩, fun q hq => absurd hq (by omega)⟩
            clear hys hle hol hT hcs hLs ho hb HL
            go_wp2
            go_loopw [10] (fun i wr => ∃ (j : Nat) (L : List Int), j ≤ on ∧ i = .int .i64 j ∧ Hid (L.length = n ∧ (∀ i, i < n → -1 ≤ L.getD i 0 ∧ L.getD i 0 < (s + 1 : Nat) ∧ (i < s → 0 ≤ L.getD i 0)) ∧ ∀ q, q < j → 0 ≤ L.getD (ys.getD q 0).toNat 0) ∧ Own wr w.heap.size (some ⟨ga, 0, none⟩) n c L ∧ Own wr (ga + 1) oa on oc ys ∧ Below w.heap.size w wr) (fun i _ => on - (intOf i).toNat)
            case atStart => exact ⟨0, L, Nat.zero_le _, rfl, H1, ho2, hO.mono (by omega), hB2⟩
            case round =>
              clear H1 ho2 hO hB2
              obtain ⟨j, L, hj, rfl, HL, ho, hO, hb⟩ := hrel
              by_cases hjt : j < on
              · obtain ⟨X, hX, eX⟩ := HY.out.2.1 j (by have := HOL.out; omega)
                obtain ⟨gb, rfl⟩ := hO.headS (by omega)
                have hgb := hO.lo gb rfl
                have d1 := hO.cells.2.1 j hjt
                rw [eX] at d1
                have c1 := ho.cells.2.1 X hX
                have f1 := ho.cells.2.2 X
                generalize L.getD X 0 = X0 at c1
                have i1 : (0 : Int) ≤ (j : Int) := by omega
                have i2 : (j : Int) < (on : Int) := by omega
                have i3 : (0 : Int) ≤ (X : Int) := by omega
                have i4 : (X : Int) < (n : Int) := by omega
                have hgw := ho.lo ga rfl
                have HEX := Lib.hid eX
                clear eX
                go_wp2
                go_roundw
                case rel =>
                  refine ⟨j + 1, _, by omega, by go_num, Lib.hid ⟨by rw [List.length_set]; exact HL.out.1, fun i hi => ?_, fun q hq => ?_⟩, ho.set X (N : Int), hO.setne (fun g e => by cases e; show gb ≠ ga; omega) _, hb.setCell hgw _⟩
                  · rw [getD_setG L _ (by rw [HL.out.1]; exact hi)]
                    by_cases e : i = X
                    · rw [if_pos e]; exact ⟨by omega, by omega, fun _ => by omega⟩
                    · rw [if_neg e]; exact HL.out.2.1 i hi
                  · have hqn : (ys.getD q 0).toNat < n := by
                      obtain ⟨Q, hQ, eQ⟩ := HY.out.2.1 q (by have := HOL.out; omega)
                      rw [eQ]; simpa using hQ
                    rw [getD_setG L _ (by rw [HL.out.1]; exact hqn)]
                    by_cases e : (ys.getD q 0).toNat = X
                    · rw [if_pos e]; omega
                    · rw [if_neg e]
                      have : q ≠ j := fun e2 => by subst e2; rw [HEX.out] at e; simp at e
                      exact HL.out.2.2 q (by omega)
                case measure => simp [intOf]; omega
              · obtain rfl : on = j := by omega
                have HN : Hid (LabG n (s + 1) L) := Lib.hid ⟨HL.out.1, fun i hi => by
                  have := HL.out.2.1 i hi
                  refine ⟨this.1, this.2.1, fun q => ?_⟩
                  by_cases e : i = s
                  · subst e
                    obtain ⟨r, hr, er⟩ := List.getElem_of_mem HY.out.2.2
                    have h3 := HL.out.2.2 r (by have := HOL.out; omega)
                    rw [show ys.getD r 0 = (i : Int) by rw [List.getD_eq_getElem?_getD, List.getElem?_eq_getElem hr, Option.getD_some, er]] at h3
                    simpa using h3
                  · exact this.2.2 (by omega)⟩
                have hwN : IntKind.i64.wrap ((N : Int) + 1) = (N : Int) + 1 := IntWalk.i64_in _ (by omega)
                go_wp2
                go_roundw
                case rel => exact ⟨s + 1, N + 1, L, by omega, by omega, by go_num, by go_num, HN, ho, hb⟩
                case measure => simp [intOf]; omega
        · obtain rfl : n = s := by omega
          go_wp2
          go_ret
          exact ⟨_, c, L, rfl, HL.out, ho, hb⟩
set_option maxHeartbeats 4000000 in
theorem l01RowsG_any (n : Nat) (a : Option Addr) (c : Nat) (t : List (List Int)) (w : World) (h : Tbl w a n t) (hn : n ≤ 1000) :
    ∃ B, Calls Tryz.prog 161 #[.slice a n c] w fun e w' => e = .returned (.bool B) ∧ w' = w := by
  by_cases hall : ∀ k, k < n → (rngB 1 12 ((t.getD k []).length : Int) && permOk (t.getD k [])) = true
  · refine ⟨true, ?_⟩
    have HA := Lib.hid hall
    clear hall
    go_enter Tryz.func161, Tryz.ntmps161
    go_wp2
    go_loop [3] (fun i => ∃ k : Nat, k ≤ n ∧ i = .int .i64 k) (fun i => n - (intOf i).toNat)
    case atStart => exact ⟨0, Nat.zero_le _, rfl⟩
    case round =>
      obtain ⟨k, hk, rfl⟩ := hrel
      by_cases hlt : k < n
      · obtain ⟨b, off, ax, nx, cx, rfl, g0, r1, l1⟩ := h.at k hlt
        have HC : Hid ((rngB 1 12 (nx : Int) && permOk (t.getD k [])) = true) := Lib.hid (by rw [r1.len]; exact HA.out k hlt)
        have i1 : (0 : Int) ≤ (k : Int) := by omega
        have i2 : (k : Int) < (n : Int) := by omega
        go_wp2_with fail
        refine (l01Perm_any _ _ _ _ _ r1 l1).mono ?_
        rintro e w1 ⟨rfl, rfl⟩
        rw [HC.out]
        go_wp2
        go_round
        case rel => exact ⟨k + 1, by omega, by go_num⟩
        case measure => simp [intOf]; omega
      · obtain rfl : n = k := by omega
        go_wp2
        go_ret
        exact ⟨rfl, rfl⟩
  · refine ⟨false, ?_⟩
    obtain ⟨k0, hk0, hp, hmin⟩ : ∃ k, k < n ∧ ¬ (rngB 1 12 ((t.getD k []).length : Int) && permOk (t.getD k [])) = true ∧ ∀ j, j < k → (rngB 1 12 ((t.getD j []).length : Int) && permOk (t.getD j [])) = true := by
      have key : ∀ m, m ≤ n → (∀ k, k < m → (rngB 1 12 ((t.getD k []).length : Int) && permOk (t.getD k [])) = true) ∨ ∃ k, k < n ∧ ¬ (rngB 1 12 ((t.getD k []).length : Int) && permOk (t.getD k [])) = true ∧ ∀ j, j < k → (rngB 1 12 ((t.getD j []).length : Int) && permOk (t.getD j [])) = true := by
        intro m
        induction m with
        | zero => intro _; exact .inl fun k hk => absurd hk (by omega)
        | succ m ih =>
          intro hm
          rcases ih (by omega) with h | h
          · by_cases c : (rngB 1 12 ((t.getD m []).length : Int) && permOk (t.getD m [])) = true
            · exact .inl fun k hk => by
                by_cases e : k = m
                · subst e; exact c
                · exact h k (by omega)
            · exact .inr ⟨m, by omega, c, h⟩
          · exact .inr h
      rcases key n (Nat.le_refl _) with h | h
      · exact absurd h hall
      · exact h
    have HM := Lib.hid hmin
    have HP : Hid ((rngB 1 12 ((t.getD k0 []).length : Int) && permOk (t.getD k0 [])) = false) := Lib.hid (by simpa using hp)
    clear hmin hp hall
    go_enter Tryz.func161, Tryz.ntmps161
    go_wp2
    go_loop [3] (fun i => ∃ k : Nat, k ≤ k0 ∧ i = .int .i64 k) (fun i => n - (intOf i).toNat)
    case atStart => exact ⟨0, Nat.zero_le _, rfl⟩
    case round =>
      obtain ⟨k, hk, rfl⟩ := hrel
      have hlt : k < n := by omega
      obtain ⟨b, off, ax, nx, cx, rfl, g0, r1, l1⟩ := h.at k hlt
      have i1 : (0 : Int) ≤ (k : Int) := by omega
      have i2 : (k : Int) < (n : Int) := by omega
      by_cases hlt2 : k < k0
      · have HC : Hid ((rngB 1 12 (nx : Int) && permOk (t.getD k [])) = true) := Lib.hid (by rw [r1.len]; exact HM.out k hlt2)
        go_wp2_with fail
        refine (l01Perm_any _ _ _ _ _ r1 l1).mono ?_
        rintro e w1 ⟨rfl, rfl⟩
        rw [HC.out]
        go_wp2
        go_round
        case rel => exact ⟨k + 1, by omega, by go_num⟩
        case measure => simp [intOf]; omega
      · obtain rfl : k = k0 := by omega
        have HC : Hid ((rngB 1 12 (nx : Int) && permOk (t.getD k [])) = false) := Lib.hid (by rw [r1.len]; exact HP.out)
        go_wp2_with fail
        refine (l01Perm_any _ _ _ _ _ r1 l1).mono ?_
        rintro e w1 ⟨rfl, rfl⟩
        rw [HC.out]
        go_wp2
        go_ret
        exact ⟨rfl, rfl⟩
end Go.Proofs.YtpdgpgbgakinlaaGreat

namespace Go.Proofs.YtpdgpgbgakinlaaGreat
set_option maxRecDepth 100000
set_option linter.unusedVariables false
set_option linter.unusedSimpArgs false
open Go.RowKit
set_option maxHeartbeats 4000000 in
theorem l02Good_any (n : Nat) (a a' : Option Addr) (c c' : Nat) (f g : List (List Int)) (w : World) (h1 : Tbl w a n f) (h2 : Tbl w a' n g) (sg : Sq n g) (n1 : 1 ≤ n) (hn : n ≤ 12) :
    Calls Tryz.prog 126 #[sAgg a n c a' n c'] w fun e w' => ∃ B, e = .returned (.bool B) ∧ Below w.heap.size w w' := by
  have hA := Loc.new w rfl #[.slice a n c, .slice a' n c'] 26
  have hB := below_al (Below.refl w.heap.size w) (.cells #[.slice a n c, .slice a' n c'] 26)
  have SG := Lib.hid sg
  clear sg
  go_enter Tryz.func126, Tryz.ntmps126
  have lA := hA.two
  obtain ⟨B1, hB1⟩ := l01RowsG_any n a c f (w.alloc (.cells #[.slice a n c, .slice a' n c'] 26)) (h1.alloc _) (by omega)
  have t2 := h2.below hB
  have HB1 := Lib.hid hB1
  clear hB1 h1 h2
  go_wp2_with fail
  refine HB1.out.mono ?_
  rintro e w1 ⟨rfl, rfl⟩
  cases B1 with
  | false =>
    go_wp2
    go_ret
    exact ⟨_, rfl, hB⟩
  | true =>
    go_wp2_with fail
    refine (l01Turn_any n a' c' g _ t2 SG.out n1 hn).mono ?_
    rintro e w2 ⟨a2, c2, vs2, rfl, ho2, hb2⟩
    obtain ⟨B2, hB2⟩ := l01RowsG_any n a2 c2 _ w2 ho2.tbl (by omega)
    have HB2 := Lib.hid hB2
    have hq2 := below_th hB hb2
    clear hB2
    go_wp2_with fail
    refine HB2.out.mono ?_
    rintro e w3 ⟨rfl, rfl⟩
    go_wp2
    go_ret
    exact ⟨_, rfl, hq2⟩
theorem step_appH {ops : Array Oper} {o : Oper} {a : Act} {K : Act → World → Prop} {Q : Exit → Act → World → Prop} {E : Prop} {w : World} (hgd : o.guard = none) {s x : Operand}
    (ho : o.op = .call { callee := .builtin .append, args := #[s, x], argTypes := #[24, 24] }) {lo : Nat} {ad : Option Addr} {n c : Nat} {vs : List SV} (hown : Hd w lo ad n c vs) (hs : a.eval s = .slice ad n c)
    {ad2 : Option Addr} {m c2 : Nat} {us : List SV} (hr : HdR w ad2 m us) (hx : a.eval x = .slice ad2 m c2) (hlen : n + m ≤ 1000000000000) (hlo : lo ≤ w.heap.size)
    (h : ∀ ad' c' w', Hd w' lo ad' (n + m) c' (vs ++ us) → w.grownBy w' (Value.slice ad n c).ownBlock → Below lo w w' → K (a.put o.dst (.slice ad' (n + m) c')) w') :
    if Region.wanted o (yielded ops a.tmps) = true then Oper.wp Tryz.prog o a w K Q else E := by
  have hw : Region.wanted o (yielded ops a.tmps) = true := by simp [Region.wanted, hgd]
  rw [if_pos hw]
  exact wp_appH ho hown hs hr hx hlen hlo h
theorem getD_appl {β : Type} {l r : List β} {i : Nat} (d : β) (h : i < l.length) : (l ++ r).getD i d = l.getD i d := by
  rw [List.getD_eq_getElem?_getD, List.getElem?_append_left h, ← List.getD_eq_getElem?_getD]
theorem getD_appr {β : Type} {l r : List β} {i : Nat} (d : β) (h : l.length ≤ i) : (l ++ r).getD i d = r.getD (i - l.length) d := by
  rw [List.getD_eq_getElem?_getD, List.getElem?_append_right h, ← List.getD_eq_getElem?_getD]
set_option maxHeartbeats 4000000 in
theorem l07Both_any (n : Nat) (a a' : Option Addr) (c c' : Nat) (f g : List (List Int)) (w : World) (h1 : Tbl w a n f) (h2 : Tbl w a' n g) (sf : Sq n f) (sg : Sq n g) (n1 : 1 ≤ n) (hn : n ≤ 12) :
    Calls Tryz.prog 164 #[sAgg a n c a' n c'] w fun e w' => ∃ b d, e = .returned (.slice b (n + n) d) ∧ Tbl w' b (n + n) (f ++ trnL n g) ∧ Below w.heap.size w w' := by
  have hA := Loc.new w rfl #[.slice a n c, .slice a' n c'] 26
  have hB := below_al (Below.refl w.heap.size w) (.cells #[.slice a n c, .slice a' n c'] 26)
  have SG := Lib.hid sg
  have SF : Hid (∀ x ∈ f, x.length ≤ 1000000) := Lib.hid fun x hx => by
    obtain ⟨i, hi, rfl⟩ := List.getElem_of_mem hx
    have := sf.row (x := i) (by rw [← sf.len]; exact hi)
    rw [List.getD_eq_getElem?_getD, List.getElem?_eq_getElem hi, Option.getD_some] at this
    omega
  have HFL := Lib.hid sf.len
  clear sg sf
  have t1 := h1.below hB
  have t2 := h2.below hB
  clear h1 h2
  obtain ⟨w0, hw0⟩ : ∃ w0, w.alloc (.cells #[.slice a n c, .slice a' n c'] 26) = w0 := ⟨_, rfl⟩
  rw [hw0] at hA hB t1 t2
  have HW := Lib.hid hw0
  clear hw0
  have lA := hA.two
  have hz := hA.lt
  go_enter Tryz.func164, Tryz.ntmps164
  go_wp2
  rw [HW.out]
  go_region_held3 (fun v => v.cell? ⟨w.heap.size, 0, none⟩ = some (.slice a n c) ∧ v.cell? ⟨w.heap.size, 1, none⟩ = some (.slice a' n c'))
    (first | exact k9 | exact k8 | exact k7 | exact ⟨lA.1, lA.2.1⟩ | go_keep)
    (first
      | (refine step_appH rfl rfl (Hd.below (w := w2) ⟨ho2.vlen, ho2.hdr⟩ hb3) rfl (Hd.read (lo := w2.heap.size) ⟨ho3.vlen, ho3.hdr⟩) rfl ?_ ?_ ?_; (omega); (omega); intro ad' d' w9 hO9 hg9 hb9; have k9 : w9.cell? ⟨w.heap.size, 0, none⟩ = some (.slice a n c) ∧ w9.cell? ⟨w.heap.size, 1, none⟩ = some (.slice a' n c') := ⟨(hb9.cell (p := ⟨w.heap.size, 0, none⟩) (by show w.heap.size < w0.heap.size; omega)).trans k8.1, (hb9.cell (p := ⟨w.heap.size, 1, none⟩) (by show w.heap.size < w0.heap.size; omega)).trans k8.2⟩)
      | (go_at_call 115; refine (l01Own2_any a n c f _ (t1.drewN 1) (by omega) SF.out).mono ?_; rintro e w2 ⟨a2, c2, vs2, rfl, ho2', hb2'⟩; have hb2 : Below w0.heap.size w0 w2 := (below_drewN (Below.refl w0.heap.size w0) 1).trans hb2'; have ho2 : OwnT w2 w0.heap.size a2 n c2 vs2 f := ho2'; have k7 : w2.cell? ⟨w.heap.size, 0, none⟩ = some (.slice a n c) ∧ w2.cell? ⟨w.heap.size, 1, none⟩ = some (.slice a' n c') := ⟨(hb2.cell (p := ⟨w.heap.size, 0, none⟩) hz).trans lA.1, (hb2.cell (p := ⟨w.heap.size, 1, none⟩) hz).trans lA.2.1⟩; have hz2 := hb2.size)
      | (go_at_call 162; refine (l01Turn_any n a' c' g _ (t2.below hb2) SG.out n1 hn).mono ?_; rintro e w3 ⟨a3, c3, vs3, rfl, ho3, hb3⟩; have k8 : w3.cell? ⟨w.heap.size, 0, none⟩ = some (.slice a n c) ∧ w3.cell? ⟨w.heap.size, 1, none⟩ = some (.slice a' n c') := ⟨(hb3.cell (p := ⟨w.heap.size, 0, none⟩) (by show w.heap.size < w2.heap.size; omega)).trans k7.1, (hb3.cell (p := ⟨w.heap.size, 1, none⟩) (by show w.heap.size < w2.heap.size; omega)).trans k7.2⟩; have hz3 := hb3.size))
  all_goals
    have hbf : Below w.heap.size w w9 := hB.trans ((hb2.trans ((hb3.mono (by omega)).trans hb9)).mono (by omega))
    have h12 := ho2.below hb3
    have hT : Tbl w9 ad' (n + n) (f ++ trnL n g) := by
      refine hO9.read.tbl ?_ fun i hi => ?_
      · rw [List.length_append, HFL.out]; have := ho3.len; omega
      · by_cases e : i < n
        · rw [getD_appl _ (by rw [ho2.vlen]; exact e), getD_appl _ (by rw [HFL.out]; exact e)]
          have hr := (h12.row i e).grown hg9 fun q hq hq2 => by
            have := h12.ownBlk hq2.symm
            rcases this with h5 | ⟨j, hj, h5⟩
            · exact h12.ap i e q h5 hq
            · rcases h12.block with ⟨r1, _⟩ | ⟨g2, cur, r1, _⟩
              · subst r1; simp [Value.ownBlock] at hq2
              · subst r1; simp [Value.ownBlock] at hq2; subst hq2; exact h12.ap i e _ rfl hq
          exact ⟨hr.row, by have := hr.cap; omega⟩
        · rw [getD_appr _ (by rw [ho2.vlen]; omega), getD_appr _ (by rw [HFL.out]; omega), ho2.vlen, HFL.out]
          have hr := (ho3.row (i - n) (by omega)).grown hg9 fun q hq hq2 => by
            have h5 := (ho3.row (i - n) (by omega)).lo q hq
            have h6 := ho2.uHi q (by
              rcases h12.block with ⟨r1, _⟩ | ⟨g2, cur, r1, _⟩
              · subst r1; simp [Value.ownBlock] at hq2
              · subst r1; simp [Value.ownBlock] at hq2; subst hq2; exact .inl rfl)
            omega
          exact ⟨hr.row, by have := hr.cap; omega⟩
    go_wp2
    go_ret
    exact ⟨_, _, rfl, hT, hbf⟩
set_option maxHeartbeats 4000000 in
theorem l07Orbits_any (n : Nat) (a a' : Option Addr) (c c' : Nat) (f g : List (List Int)) (w : World) (h1 : Tbl w a n f) (h2 : Tbl w a' n g) (sf : Sq n f) (sg : Sq n g) (n1 : 1 ≤ n) (hn : n ≤ 12) :
    Calls Tryz.prog 127 #[sAgg a n c a' n c'] w fun e w' => ∃ b d L, e = .returned (.slice b n d) ∧ LabG n n L ∧ Own w' w.heap.size b n d L ∧ Below w.heap.size w w' := by
  have hA := Loc.new w rfl #[.slice a n c, .slice a' n c'] 26
  have hB := below_al (Below.refl w.heap.size w) (.cells #[.slice a n c, .slice a' n c'] 26)
  have SG := Lib.hid sg
  have SF := Lib.hid sf
  have HR : Hid (RwsN n (n + n) (f ++ trnL n g)) := Lib.hid fun k hk => by
    have key : ∀ (t : List (List Int)), Sq n t → ∀ i, i < n → LsN n (t.getD i []) := fun t st i hi => ⟨st.row hi, fun j hj => by rw [st.row hi] at hj; exact ⟨_, st.lt hi hj, st.val hi hj⟩⟩
    by_cases e : k < n
    · rw [getD_appl _ (by rw [sf.len]; exact e)]; exact key f sf k e
    · rw [getD_appr _ (by rw [sf.len]; omega), sf.len]; exact key _ (trnL_sq sg) _ (by omega)
  clear sg sf
  have t1 := h1.below hB
  have t2 := h2.below hB
  clear h1 h2
  obtain ⟨w0, hw0⟩ : ∃ w0, w.alloc (.cells #[.slice a n c, .slice a' n c'] 26) = w0 := ⟨_, rfl⟩
  rw [hw0] at hA hB t1 t2
  have HW := Lib.hid hw0
  clear hw0
  have lA := hA.two
  have hz := hA.lt
  go_enter Tryz.func127, Tryz.ntmps127
  go_wp2
  rw [HW.out]
  go_region_held3 (fun v => v.cell? ⟨w.heap.size, 0, none⟩ = some (.slice a n c) ∧ v.cell? ⟨w.heap.size, 1, none⟩ = some (.slice a' n c'))
    (first | exact k8 | exact k7 | exact ⟨lA.1, lA.2.1⟩ | go_keep)
    (first
      | (go_at_call 164; refine (l07Both_any n a a' c c' f g _ (t1.drewN 1) (t2.drewN 1) SF.out SG.out n1 hn).mono ?_; rintro e w2 ⟨b2, d2, rfl, ht2, hb2'⟩; have hb2 : Below w0.heap.size w0 w2 := (below_drewN (Below.refl w0.heap.size w0) 1).trans hb2'; have k7 : w2.cell? ⟨w.heap.size, 0, none⟩ = some (.slice a n c) ∧ w2.cell? ⟨w.heap.size, 1, none⟩ = some (.slice a' n c') := ⟨(hb2.cell (p := ⟨w.heap.size, 0, none⟩) hz).trans lA.1, (hb2.cell (p := ⟨w.heap.size, 1, none⟩) hz).trans lA.2.1⟩; have hz2 := hb2.size)
      | (go_at_call 163; refine (l01OrbitsG_any n (n + n) _ b2 d2 _ ht2 HR.out (by omega) (by omega)).mono ?_; rintro e w3 ⟨b3, d3, L, rfl, hL, ho3, hb3⟩; have k8 : w3.cell? ⟨w.heap.size, 0, none⟩ = some (.slice a n c) ∧ w3.cell? ⟨w.heap.size, 1, none⟩ = some (.slice a' n c') := ⟨(hb3.cell (p := ⟨w.heap.size, 0, none⟩) (by show w.heap.size < w2.heap.size; omega)).trans k7.1, (hb3.cell (p := ⟨w.heap.size, 1, none⟩) (by show w.heap.size < w2.heap.size; omega)).trans k7.2⟩))
  all_goals
    go_wp2
    go_ret
    exact ⟨b3, d3, L, rfl, hL, ho3.mono (by omega), hB.trans ((hb2.trans (hb3.mono (by omega))).mono (by omega))⟩
end Go.Proofs.YtpdgpgbgakinlaaGreat
