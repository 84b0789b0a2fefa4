/-
  What the laws' helpers do with slices of racks.
  No condition but bounds.
-/
import Derived.Test.YtehomfbehhlhmaaTabRk
import Derived.Test.YtehomfbehhlhmaaBefS
import Derived.Test.YtehomfbehhlhmaaBase
namespace Go.Proofs.Ytehomfbehhlhmaa
set_option maxRecDepth 100000
set_option linter.unusedVariables false
set_option linter.unusedSimpArgs false
open Go.RowKit

/-- a result that is a slice of racks, and a code -/
def RetLRk (w : World) (L : List (List (List Int))) (code : Int) (e : Ending) (w' : World) : Prop := ∃ a k c us, e = .returned (.tuple #[.slice a k c, .int .i64 code]) ∧ OwnRk w' w.heap.size a k c us L ∧ Below w.heap.size w w'
theorem OwnRk.tbS {w : World} {lo : Nat} {a : Option Addr} {n c : Nat} {us : List TV} {ts : List (List (List Int))} (h : OwnRk w lo a n c us ts) : TbS w a n ts := by
  refine ⟨h.len, fun i hi => ?_⟩
  obtain ⟨g, h1, h2, h3, _⟩ := h.cells (by omega)
  have hv := h.tab i hi
  exact ⟨g, 0, _, _, _, h1, h2, by rw [Nat.zero_add]; exact h3 i hi, OwnT.tbl hv, by have := OwnT.cap hv; omega⟩
/-- one element's table is turned -/
theorem OwnRk.mark {w w' : World} {lo : Nat} {a : Option Addr} {n c : Nat} {us : List TV} {ts : List (List (List Int))} (h : OwnRk w lo a n c us ts) {i : Nat} (hi : i < n) {t : List (List Int)} (hv : OwnV w' lo (us.getD i tvO) t) (hm : Marked (TvS (us.getD i tvO)) w w') : OwnRk w' lo a n c us (ts.set i t) := by
  refine ⟨by rw [List.length_set]; exact h.len, h.ulen, ?_, fun j hj => ?_, h.ap, h.pw⟩
  · rcases h.block with ⟨h1, h2, h3⟩ | ⟨g, cur, h1, h2, h3, h4, h5, h6, h7⟩
    · omega
    · subst h1
      exact ownsRowRk_mk h.ulen h2 ((hm.block g h3.lt (h.ap i hi g rfl)).trans h3) h4 h5 h6 h7
  · rw [getD_set' _ _ _ _ _ (by have := h.len; omega)]
    by_cases e : j = i
    · subst e; rw [if_pos rfl]; exact hv
    · rw [if_neg e]
      exact OwnT.keep (h.tab j hj) fun g hg hlt => hm.block g hlt (fun h1 => h.pw j i hj hi e g hg h1)
theorem eqElRk_u {w : World} {a1 a2 : Option Addr} {n1 n2 c1 c2 : Nat} {xss : List (List Int)} (h1 : Tbl w a1 n1 xss) (h2 : Tbl w a2 n2 xss) (hm : n1 ≤ 9223372036854775807) : Calls Try.prog 64 #[.agg #[.slice a1 n1 c1], .agg #[.slice a2 n2 c2]] w fun e w' => e = .returned (.bool true) ∧ Below w.heap.size w w' := by
  go_enter Try.func64, Try.ntmps64
  go_wp2_with fail
  refine (eqInt64SS_sameB _ _ _ _ _ _ _ _ ((h1.alloc _).alloc _) ((h2.alloc _).alloc _) hm).mono ?_
  rintro e w' ⟨rfl, hb⟩
  go_wp2
  go_ret
  exact ⟨rfl, below_th (below_al (below_al (Below.refl _ _) _) _) hb⟩

set_option maxHeartbeats 4000000 in
theorem eqLRk_any (a1 a2 : Option Addr) (n1 n2 c1 c2 : Nat) (L : List (List (List Int))) (w : World) (h1 : TbS w a1 n1 L) (h2 : TbS w a2 n2 L) (hm : n1 ≤ 1000000000) :
    Calls Try.prog 50 #[.slice a1 n1 c1, .slice a2 n2 c2] w fun e w' => e = .returned (.bool true) ∧ Below w.heap.size w w' := by
  obtain rfl : n1 = n2 := by rw [h1.len, h2.len]
  have hb : ((n1 : Int) != (n1 : Int)) = false := by simp
  go_enter Try.func50, Try.ntmps50
  go_wp2
  clear hb
  go_loopw [5] (fun i wr => ∃ k : Nat, k ≤ n1 ∧ i = .int .i64 k ∧ Below w.heap.size w wr) (fun i _ => n1 - (intOf i).toNat)
  case atStart => exact ⟨0, Nat.zero_le _, rfl, Below.refl _ _⟩
  case round =>
    obtain ⟨k, hk, rfl, hq⟩ := hrel
    by_cases hlt : k < n1
    · obtain ⟨b1, o1, ax, nx, cx, rfl, g1, t1, l1⟩ := (h1.below hq).at k hlt
      obtain ⟨b2, o2, ay, ny, cy, rfl, g2, t2, l2⟩ := (h2.below hq).at k hlt
      have i1 : (0 : Int) ≤ (k : Int) := by omega
      have i2 : (k : Int) < (n1 : Int) := by omega
      have t1d := t1.drewN 1
      have t2d := t2.drewN 1
      go_wp2
      go_region_law (go_simp; go_at_call 64; refine (eqElRk_u t1d t2d l1).mono ?_; rintro e w3 ⟨rfl, hb3⟩)
      all_goals
        go_wp2
        go_roundw
        case rel => exact ⟨k + 1, by omega, by go_num, (below_drewN hq 1).trans (hb3.mono (show w.heap.size ≤ (wr.drewN 1).heap.size from hq.size))⟩
        case measure => simp [intOf]; omega
    · obtain rfl : n1 = k := by omega
      go_wp2
      go_ret
      exact ⟨rfl, hq⟩

set_option maxHeartbeats 4000000 in
theorem markLRk_any (a : Option Addr) (n c lo : Nat) (us : List TV) (L : List (List (List Int))) (k0 : Int) (w : World) (h : OwnRk w lo a n c us L) (hk0 : 0 ≤ k0) (hm : k0 + totS L ≤ 8000000000000000000) :
    Calls Try.prog 51 #[.slice a n c, .int .i64 k0] w fun e w' => e = .returned (.int .i64 (k0 + totS L)) ∧ OwnRk w' lo a n c us (markS k0 L) ∧ Marked (TTS a n us) w w' := by
  have HL := Lib.hid h.len
  have hcap := h.cap
  go_enter Try.func51, Try.ntmps51
  go_wp2
  go_loopw [1, 5] (fun k i wr => ∃ j : Nat, j ≤ n ∧ i = .int .i64 j ∧ k = .int .i64 (k0 + totS (L.take j)) ∧ OwnRk wr lo a n c us (markS k0 (L.take j) ++ L.drop j) ∧ Marked (TTS a n us) w wr) (fun _ i _ => n - (intOf i).toNat)
  case atStart => exact ⟨0, Nat.zero_le _, rfl, by simp [totS], by simpa [markS] using h, Marked.refl _ _⟩
  case round =>
    clear h
    obtain ⟨j, hj, rfl, rfl, ho, hM⟩ := hrel
    by_cases hlt : j < n
    · obtain ⟨g, rfl, hg, hcell, _⟩ := ho.cells (by omega)
      have cj := hcell j hlt
      have hv := ho.tab j hlt
      have hjl : j < L.length := by have := HL.out; omega
      have hml : (markS k0 (L.take j)).length = j := by rw [markS_length, List.length_take]; omega
      have e1 : (markS k0 (L.take j) ++ L.drop j).getD j [] = L.getD j [] := by
        rw [List.getD_eq_getElem?_getD, List.getElem?_append_right (by omega), hml, Nat.sub_self, List.getElem?_drop, Nat.add_zero, List.getD_eq_getElem?_getD]
      rw [e1] at hv
      have hts := totS_succ hjl
      have hte := totS_le (L := L) (j + 1)
      have HMS := Lib.hid (markS_succ k0 hjl)
      have HSE : Hid (∀ t', (markS k0 (L.take j) ++ L.drop j).set j t' = markS k0 (L.take j) ++ [t'] ++ L.drop (j + 1)) := Lib.hid fun t' => by
        rw [List.set_append_right _ _ (by omega), hml, Nat.sub_self, List.drop_eq_getElem_cons hjl, List.set_cons_zero, List.append_assoc]
        rfl
      obtain ⟨t, HT⟩ : ∃ t, Hid (L.getD j [] = t) := ⟨_, rfl⟩
      rw [HT.out] at hv hts HMS
      obtain ⟨⟨⟨va, vn, vc⟩, vv⟩, HV⟩ : ∃ u, Hid (us.getD j tvO = u) := ⟨_, rfl⟩
      rw [HV.out] at cj hv
      change wr.cell? _ = some (.slice va vn vc) at cj
      have i1 : (0 : Int) ≤ (j : Int) := by omega
      have i2 : (j : Int) < (n : Int) := by omega
      obtain ⟨S1, HS1⟩ : ∃ S1 : Int, Hid (k0 + (totS (L.take j) : Int) = S1) := ⟨_, rfl⟩
      have hS0 : 0 ≤ S1 := by rw [← HS1.out]; omega
      have hSm : S1 + tot t ≤ 9000000000000000000 := by rw [← HS1.out]; omega
      have HS2 : Hid (k0 + (totS (L.take (j + 1)) : Int) = S1 + tot t) := Lib.hid (by rw [hts, ← HS1.out]; push_cast; omega)
      rw [HS1.out] at HMS ⊢
      clear hcell e1 hts hte hml
      go_wp2_with fail
      refine (markTbl_u hv hS0 hSm).mono ?_
      rintro e w3 ⟨rfl, ho3, hM3⟩
      have hv3 : OwnV w3 lo (us.getD j tvO) (markT S1 t) := by rw [HV.out]; exact ho3
      have hM3' : Marked (TvS (us.getD j tvO)) wr w3 := by rw [HV.out]; exact hM3
      have hO3 := ho.mark hlt hv3 hM3'
      go_wp2
      go_roundw
      case rel =>
        refine ⟨j + 1, by omega, by go_num, by rw [HS2.out], ?_, hM.then hM3' fun g hg => .inl (.inr ⟨j, hlt, hg⟩)⟩
        rw [HSE.out] at hO3
        rw [HMS.out]
        exact hO3
      case measure => simp [intOf]; omega
    · obtain rfl : n = j := by omega
      have hE : L.take n = L := by rw [List.take_of_length_le (by have := HL.out; omega)]
      have hD : L.drop n = [] := by rw [List.drop_of_length_le (by have := HL.out; omega)]
      rw [hE, hD, List.append_nil] at ho
      rw [hE]
      have HO := Lib.hid ho
      clear hE hD ho
      go_wp2
      go_ret
      exact ⟨rfl, HO.out, hM⟩

set_option maxHeartbeats 4000000 in
theorem heldLRk_any (a : Option Addr) (n c : Nat) (L : List (List (List Int))) (k0 : Int) (w : World) (h : TbS w a n (markS k0 L)) (hk0 : 0 ≤ k0) (hn : n ≤ 1000000000) (hm : k0 + totS L ≤ 8000000000000000000) :
    Calls Try.prog 52 #[.slice a n c, .int .i64 k0] w fun e w' => e = .returned (.int .i64 (k0 + totS L)) ∧ Below w.heap.size w w' := by
  have hl := h.len
  rw [markS_length] at hl
  have HL := Lib.hid hl
  clear hl
  go_enter Try.func52, Try.ntmps52
  go_wp2
  go_loopw [1, 5] (fun k i wr => ∃ j : Nat, j ≤ n ∧ i = .int .i64 j ∧ k = .int .i64 (k0 + totS (L.take j)) ∧ Below w.heap.size w wr) (fun _ i _ => n - (intOf i).toNat)
  case atStart => exact ⟨0, Nat.zero_le _, rfl, by simp [totS], Below.refl _ _⟩
  case round =>
    obtain ⟨j, hj, rfl, rfl, hq⟩ := hrel
    by_cases hlt : j < n
    · have hjl : j < L.length := by have := HL.out; omega
      obtain ⟨b, off, va, vn, vc, rfl, cj, tj, lj⟩ := (h.below hq).at j hlt
      rw [markS_get k0 L j hjl] at tj
      have hts := totS_succ hjl
      have hte := totS_le (L := L) (j + 1)
      obtain ⟨t, HT⟩ : ∃ t, Hid (L.getD j [] = t) := ⟨_, rfl⟩
      rw [HT.out] at tj hts
      have i1 : (0 : Int) ≤ (j : Int) := by omega
      have i2 : (j : Int) < (n : Int) := by omega
      obtain ⟨S1, HS1⟩ : ∃ S1 : Int, Hid (k0 + (totS (L.take j) : Int) = S1) := ⟨_, rfl⟩
      have hS0 : 0 ≤ S1 := by rw [← HS1.out]; omega
      have hSm : S1 + tot t ≤ 9000000000000000000 := by rw [← HS1.out]; omega
      have HS2 : Hid (k0 + (totS (L.take (j + 1)) : Int) = S1 + tot t) := Lib.hid (by rw [hts, ← HS1.out]; push_cast; omega)
      have hlt0 : ¬ S1 + (tot t : Int) < 0 := by omega
      rw [HS1.out] at tj ⊢
      clear hts hte
      go_wp2_with fail
      refine (heldTbl_u tj hS0 hSm lj).mono ?_
      rintro e w3 ⟨rfl, hb3⟩
      go_wp2
      go_roundw
      case rel => exact ⟨j + 1, by omega, by go_num, by rw [HS2.out], below_th hq hb3⟩
      case measure => simp [intOf]; omega
    · obtain rfl : n = j := by omega
      have hE : L.take n = L := by rw [List.take_of_length_le (by have := HL.out; omega)]
      rw [hE]
      clear hE
      go_wp2
      go_ret
      exact ⟨rfl, hq⟩
end Go.Proofs.Ytehomfbehhlhmaa
