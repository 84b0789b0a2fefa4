/-
  What the laws' helpers do with slices of solutions.
  No condition but bounds.
-/
import Derived.Test.YthgafpeblpnolaaTabSo
import Derived.Test.YthgafpeblpnolaaMarkP
namespace Go.Proofs.Ythgafpeblpnolaa
set_option maxRecDepth 100000
set_option linter.unusedVariables false
set_option linter.unusedSimpArgs false
open Go.RowKit

/-- a result that is a slice of solutions, and a code -/
def RetLSo (w : World) (L : List T2) (code : Int) (e : Ending) (w' : World) : Prop := ∃ a k c us, e = .returned (.tuple #[.slice a k c, .int .i64 code]) ∧ OwnSo w' w.heap.size a k c us L ∧ Below w.heap.size w w'
/-- a slice of solutions that is read -/
def SbS (w : World) (a : Option Addr) (n : Nat) (ts : List T2) : Prop :=
  n = ts.length ∧ ∀ i, i < n → ∃ b ai ni ci di mi ei, a = some ⟨b, 0, none⟩ ∧ b < w.heap.size ∧ w.cell? ⟨b, i * 2, none⟩ = some (.slice ai ni ci) ∧ w.cell? ⟨b, i * 2 + 1, none⟩ = some (.slice di mi ei) ∧ Sol w ai ni (ts.getD i t2O).1 di mi (ts.getD i t2O).2 ∧ ni ≤ 9223372036854775807 ∧ mi ≤ 9223372036854775807
theorem SbS.len {w : World} {a : Option Addr} {n : Nat} {ts : List T2} (h : SbS w a n ts) : n = ts.length := h.1
theorem SbS.below {w w' : World} {a : Option Addr} {n : Nat} {ts : List T2} (h : SbS w a n ts) (hb : Below w.heap.size w w') : SbS w' a n ts :=
  ⟨h.1, fun i hi => by obtain ⟨b, ai, ni, ci, di, mi, ei, h1, h3, h2, h2', h4, h5, h6⟩ := h.2 i hi; exact ⟨b, ai, ni, ci, di, mi, ei, h1, Nat.lt_of_lt_of_le h3 hb.size, (hb.cell (p := ⟨b, i * 2, none⟩) h3).trans h2, (hb.cell (p := ⟨b, i * 2 + 1, none⟩) h3).trans h2', h4.below hb, h5, h6⟩⟩
theorem SbS.drewN {w : World} {a : Option Addr} {n : Nat} {ts : List T2} (h : SbS w a n ts) (k : Nat) : SbS (w.drewN k) a n ts := ⟨h.1, fun i hi => by obtain ⟨b, ai, ni, ci, di, mi, ei, h1, h3, h2, h2', h4, h5, h6⟩ := h.2 i hi; exact ⟨b, ai, ni, ci, di, mi, ei, h1, h3, h2, h2', h4.drewN k, h5, h6⟩⟩
theorem OwnSo.sbS {w : World} {lo : Nat} {a : Option Addr} {n c : Nat} {us : List PV} {ts : List T2} (h : OwnSo w lo a n c us ts) : SbS w a n ts := by
  refine ⟨h.len, fun i hi => ?_⟩
  obtain ⟨g, h1, h2, h3, _⟩ := h.cells (by omega)
  have hv := h.tab i hi
  have hc := OwnS.cap hv
  exact ⟨g, _, _, _, _, _, _, h1, h2, (h3 i hi).1, (h3 i hi).2, OwnS.sol hv, by omega, by omega⟩
/-- one element's tables are turned -/
theorem OwnSo.mark {w w' : World} {lo : Nat} {a : Option Addr} {n c : Nat} {us : List PV} {ts : List T2} (h : OwnSo w lo a n c us ts) {i : Nat} (hi : i < n) {t : T2} (hv : OwnPV w' lo (us.getD i pvO) t) (hm : Marked (PvS (us.getD i pvO)) w w') : OwnSo w' lo a n c us (ts.set i t) := by
  have hgs : ∀ j, (ts.set i t).getD j t2O = if j = i then t else ts.getD j t2O := fun j => by
    have hil : i < ts.length := by have := h.len; omega
    rw [List.getD_eq_getElem?_getD, List.getD_eq_getElem?_getD, List.getElem?_set]
    by_cases e : i = j
    · subst e; simp [hil]
    · rw [if_neg e, if_neg (fun h => e h.symm)]
  refine ⟨by rw [List.length_set]; exact h.len, h.ulen, ?_, fun j hj => ?_, h.ap, h.pw⟩
  · rcases h.block with ⟨h1, h2, h3⟩ | ⟨g, cur, h1, h2, h3, h4, h5, h6, h7⟩
    · omega
    · subst h1
      exact ownsRowSo_mk h.ulen h2 ((hm.block g h3.lt (h.ap i hi g rfl)).trans h3) h4 h5 h6 h7
  · rw [hgs]
    by_cases e : j = i
    · subst e; rw [if_pos rfl]; exact hv
    · rw [if_neg e]
      exact OwnPV.keep (h.tab j hj) fun g hg hlt => hm.block g hlt (fun h1 => h.pw j i hj hi e g hg h1)

set_option maxHeartbeats 4000000 in
theorem eqLSo_any (a1 a2 : Option Addr) (n1 n2 c1 c2 : Nat) (L : List T2) (w : World) (h1 : SbS w a1 n1 L) (h2 : SbS w a2 n2 L) (hm : n1 ≤ 1000000000) :
    Calls Try.prog 7 #[.slice a1 n1 c1, .slice a2 n2 c2] w fun e w' => e = .returned (.bool true) ∧ Below w.heap.size w w' := by
  obtain rfl : n1 = n2 := by rw [h1.len, h2.len]
  have hb : ((n1 : Int) != (n1 : Int)) = false := by simp
  go_enter Try.func7, Try.ntmps7
  go_wp2
  clear hb
  go_loopw [5] (fun i wr => ∃ k : Nat, k ≤ n1 ∧ i = .int .i64 k ∧ Below w.heap.size w wr) (fun i _ => n1 - (intOf i).toNat)
  case atStart => exact ⟨0, Nat.zero_le _, rfl, Below.refl _ _⟩
  case round =>
    obtain ⟨k, hk, rfl, hq⟩ := hrel
    by_cases hlt : k < n1
    · obtain ⟨b1, ax, nx, cx, ax', nx', cx', rfl, g1, t1, t1', s1, l1, l1'⟩ := (h1.below hq).2 k hlt
      obtain ⟨b2, ay, ny, cy, ay', ny', cy', rfl, g2, t2, t2', s2, l2, l2'⟩ := (h2.below hq).2 k hlt
      have i1 : (0 : Int) ≤ (k : Int) := by omega
      have i2 : (k : Int) < (n1 : Int) := by omega
      have s1d := s1.drewN 1
      have s2d := s2.drewN 1
      go_wp2
      go_region_law (go_simp; go_at_call 24; refine (eqSol_u s1d s2d ⟨l1, l1'⟩).mono ?_; rintro e w3 ⟨rfl, hb3⟩)
      all_goals
        go_wp2
        go_roundw
        case rel => exact ⟨k + 1, by omega, by go_num, (below_drewN hq 1).trans (hb3.mono (show w.heap.size ≤ (wr.drewN 1).heap.size from hq.size))⟩
        case measure => simp [intOf]; omega
    · obtain rfl : n1 = k := by omega
      go_wp2
      go_ret
      exact ⟨rfl, hq⟩

set_option maxHeartbeats 4000000 in
theorem markLSo_any (a : Option Addr) (n c lo : Nat) (us : List PV) (L : List T2) (k0 : Int) (w : World) (h : OwnSo w lo a n c us L) (hk0 : 0 ≤ k0) (hm : k0 + totP L ≤ 8000000000000000000) :
    Calls Try.prog 8 #[.slice a n c, .int .i64 k0] w fun e w' => e = .returned (.int .i64 (k0 + totP L)) ∧ OwnSo w' lo a n c us (markP k0 L) ∧ Marked (SSS a n us) w w' := by
  have HL := Lib.hid h.len
  have hcap := h.cap
  go_enter Try.func8, Try.ntmps8
  go_wp2
  go_loopw [1, 5] (fun k i wr => ∃ j : Nat, j ≤ n ∧ i = .int .i64 j ∧ k = .int .i64 (k0 + totP (L.take j)) ∧ OwnSo wr lo a n c us (markP k0 (L.take j) ++ L.drop j) ∧ Marked (SSS a n us) w wr) (fun _ i _ => n - (intOf i).toNat)
  case atStart => exact ⟨0, Nat.zero_le _, rfl, by simp [totP], by simpa [markP] using h, Marked.refl _ _⟩
  case round =>
    clear h
    obtain ⟨j, hj, rfl, rfl, ho, hM⟩ := hrel
    obtain ⟨V, rfl⟩ : ∃ V : World, V = wr := ⟨_, rfl⟩
    by_cases hlt : j < n
    · obtain ⟨g, rfl, hg, hcell, _⟩ := ho.cells (by omega)
      obtain ⟨c0, c1⟩ := hcell j hlt
      have hv := ho.tab j hlt
      have hjl : j < L.length := by have := HL.out; omega
      have hml : (markP k0 (L.take j)).length = j := by rw [markP_length, List.length_take]; omega
      have e1 : (markP k0 (L.take j) ++ L.drop j).getD j t2O = L.getD j t2O := by
        rw [List.getD_eq_getElem?_getD, List.getElem?_append_right (by omega), hml, Nat.sub_self, List.getElem?_drop, Nat.add_zero, List.getD_eq_getElem?_getD]
      rw [e1] at hv
      have hts := totP_succ hjl
      have hte := totP_le (L := L) (j + 1)
      have HMS := Lib.hid (markP_succ k0 hjl)
      have HSE : Hid (∀ t', (markP k0 (L.take j) ++ L.drop j).set j t' = markP k0 (L.take j) ++ [t'] ++ L.drop (j + 1)) := Lib.hid fun t' => by
        rw [List.set_append_right _ _ (by omega), hml, Nat.sub_self, List.drop_eq_getElem_cons hjl, List.set_cons_zero, List.append_assoc]
        rfl
      change totP (L.take (j + 1)) = totP (L.take j) + tot2 (L.getD j t2O) at hts
      change Hid (markP k0 (L.take (j + 1)) = markP k0 (L.take j) ++ [mkP (k0 + totP (L.take j)) (L.getD j t2O)]) at HMS
      obtain ⟨⟨t, s⟩, HT⟩ : ∃ t, Hid (L.getD j t2O = t) := ⟨_, Lib.hid rfl⟩
      rw [HT.out] at hv hts HMS
      obtain ⟨⟨⟨⟨va, vn, vc⟩, vv⟩, ⟨⟨vb, vm, vd⟩, vz⟩⟩, HV⟩ : ∃ u, Hid (us.getD j pvO = u) := ⟨_, Lib.hid rfl⟩
      rw [HV.out] at c0 c1 hv
      have hv' : OwnS V lo va vn vc vv t vb vm vd vz s := hv
      change V.cell? ⟨g, j * 2, none⟩ = some (.slice va vn vc) at c0
      change V.cell? ⟨g, j * 2 + 1, none⟩ = some (.slice vb vm vd) at c1
      have i1 : (0 : Int) ≤ (j : Int) := by omega
      have i2 : (j : Int) < (n : Int) := by omega
      obtain ⟨S1, HS1⟩ : ∃ S1 : Int, Hid (k0 + (totP (L.take j) : Int) = S1) := ⟨_, Lib.hid rfl⟩
      have hS0 : 0 ≤ S1 := by rw [← HS1.out]; omega
      have ht2 : tot2 (t, s) = tot t + tot s := rfl
      have hSm : S1 + tot t + tot s ≤ 8000000000000000000 := by rw [← HS1.out]; omega
      have HS2 : Hid (k0 + (totP (L.take (j + 1)) : Int) = S1 + tot t + tot s) := Lib.hid (by rw [hts, ← HS1.out, ht2]; push_cast; omega)
      rw [HS1.out] at HMS ⊢
      clear hcell e1 hts hte hml ht2 hv
      go_wp2_with fail
      refine (markTbl_u hv'.f hS0 (by omega)).mono ?_
      rintro e w3 ⟨rfl, ho3, hM3⟩
      have hs3 := hv'.s.uKeep hM3 fun q h1 h2 => hv'.ap q h2 h1
      have hv3 : OwnPV w3 lo (us.getD j pvO) (markT S1 t, s) := by rw [HV.out]; exact ⟨ho3, hs3, hv'.ap⟩
      have hM3' : Marked (PvS (us.getD j pvO)) V w3 := by rw [HV.out]; exact hM3.mono fun q hq => .inl hq
      have hO3 := ho.mark hlt hv3 hM3'
      have c13 : w3.cell? ⟨g, j * 2 + 1, none⟩ = some (.slice vb vm vd) := by
        obtain ⟨g', e', _, hc', _⟩ := hO3.cells (by omega)
        cases e'
        have := (hc' j hlt).2
        rw [HV.out] at this
        exact this
      go_wp2_with fail
      refine (markTbl_u hs3 (by omega) (by omega)).mono ?_
      rintro e w4 ⟨rfl, ho4, hM4⟩
      have hv4 : OwnPV w4 lo (us.getD j pvO) (mkP S1 (t, s)) := by rw [HV.out]; exact ⟨ho3.uKeep hM4 fun q h1 h2 => hv'.ap q h1 h2, ho4, hv'.ap⟩
      have hM4' : Marked (PvS (us.getD j pvO)) w3 w4 := by rw [HV.out]; exact hM4.mono fun q hq => .inr hq
      have hO4 := hO3.mark hlt hv4 hM4'
      have hMM := (hM.then hM3' fun q hq => .inl (.inr ⟨j, hlt, hq⟩)).then hM4' fun q hq => .inl (.inr ⟨j, hlt, hq⟩)
      go_wp2
      go_roundw
      case rel =>
        refine ⟨j + 1, by omega, by go_num, by rw [HS2.out], ?_, hMM⟩
        rw [List.set_set, HSE.out] at hO4
        rw [HMS.out]
        exact hO4
      case measure => simp [intOf]; omega
    · obtain rfl : n = j := by omega
      have hE : L.take n = L := by rw [List.take_of_length_le (by have := HL.out; omega)]
      have hD : L.drop n = [] := by rw [List.drop_of_length_le (by have := HL.out; omega)]
      rw [hE, hD, List.append_nil] at ho
      rw [hE]
      have HO := Lib.hid ho
      clear hE hD ho
      go_wp2
      go_ret
      exact ⟨rfl, HO.out, hM⟩

set_option maxHeartbeats 4000000 in
theorem heldLSo_any (a : Option Addr) (n c : Nat) (L : List T2) (k0 : Int) (w : World) (h : SbS w a n (markP k0 L)) (hk0 : 0 ≤ k0) (hn : n ≤ 1000000000) (hm : k0 + totP L ≤ 8000000000000000000) :
    Calls Try.prog 9 #[.slice a n c, .int .i64 k0] w fun e w' => e = .returned (.int .i64 (k0 + totP L)) ∧ Below w.heap.size w w' := by
  have hl := h.len
  rw [markP_length] at hl
  have HL := Lib.hid hl
  clear hl
  go_enter Try.func9, Try.ntmps9
  go_wp2
  go_loopw [1, 5] (fun k i wr => ∃ j : Nat, j ≤ n ∧ i = .int .i64 j ∧ k = .int .i64 (k0 + totP (L.take j)) ∧ Below w.heap.size w wr) (fun _ i _ => n - (intOf i).toNat)
  case atStart => exact ⟨0, Nat.zero_le _, rfl, by simp [totP], Below.refl _ _⟩
  case round =>
    obtain ⟨j, hj, rfl, rfl, hq⟩ := hrel
    by_cases hlt : j < n
    · have hjl : j < L.length := by have := HL.out; omega
      obtain ⟨b, va, vn, vc, vb, vm, vd, rfl, hg, c0, c1, sj, l0, l1⟩ := (h.below hq).2 j hlt
      have hgt : (markP k0 L).getD j t2O = mkP (k0 + totP (L.take j)) (L.getD j t2O) := markP_get k0 L j hjl
      rw [hgt] at sj
      have hts := totP_succ hjl
      change totP (L.take (j + 1)) = totP (L.take j) + tot2 (L.getD j t2O) at hts
      have hte := totP_le (L := L) (j + 1)
      obtain ⟨⟨t, s⟩, HT⟩ : ∃ t, Hid (L.getD j t2O = t) := ⟨_, Lib.hid rfl⟩
      rw [HT.out] at sj hts
      have i1 : (0 : Int) ≤ (j : Int) := by omega
      have i2 : (j : Int) < (n : Int) := by omega
      obtain ⟨S1, HS1⟩ : ∃ S1 : Int, Hid (k0 + (totP (L.take j) : Int) = S1) := ⟨_, Lib.hid rfl⟩
      have hS0 : 0 ≤ S1 := by rw [← HS1.out]; omega
      have ht2 : tot2 (t, s) = tot t + tot s := rfl
      have hSm : S1 + tot t + tot s ≤ 8000000000000000000 := by rw [← HS1.out]; omega
      have HS2 : Hid (k0 + (totP (L.take (j + 1)) : Int) = S1 + tot t + tot s) := Lib.hid (by rw [hts, ← HS1.out, ht2]; push_cast; omega)
      have hlt0 : ¬ S1 + (tot t : Int) < 0 := by omega
      have hlt1 : ¬ S1 + (tot t : Int) + (tot s : Int) < 0 := by omega
      rw [HS1.out] at sj ⊢
      have tf : Tbl wr va vn (markT S1 t) := sj.f
      have ts : Tbl wr vb vm (markT (S1 + tot t) s) := sj.s
      clear hts hte hgt ht2 sj
      go_wp2_with fail
      refine (heldTbl_u tf hS0 (by omega) l0).mono ?_
      rintro e w3 ⟨rfl, hb3⟩
      have c13 := (hb3.cell (p := ⟨b, j * 2 + 1, none⟩) hg).trans c1
      go_wp2_with fail
      refine (heldTbl_u (ts.below hb3) (by omega) (by omega) l1).mono ?_
      rintro e w4 ⟨rfl, hb4⟩
      go_wp2
      go_roundw
      case rel => exact ⟨j + 1, by omega, by go_num, by rw [HS2.out], below_th (below_th hq hb3) hb4⟩
      case measure => simp [intOf]; omega
    · obtain rfl : n = j := by omega
      have hE : L.take n = L := by rw [List.take_of_length_le (by have := HL.out; omega)]
      rw [hE]
      clear hE
      go_wp2
      go_ret
      exact ⟨rfl, hq⟩
end Go.Proofs.Ythgafpeblpnolaa
