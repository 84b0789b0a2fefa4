/-
  Walks and plain laws of this seat, some texts in one.
  No condition but bounds on lengths.
-/
import Derived.Test.YtaddclaadbjnlaaGreatPs10
import Derived.Test.YtaddclaadbjnlaaGreatPs2
import Derived.Test.YtaddclaadbjnlaaGreatPs8
import Derived.Deep.DeepCutAuto
import Derived.Deep.RegionLaw
import Derived.Test.YtaddclaadbjnlaaGreatPs7
namespace Go.Proofs.YtaddclaadbjnlaaGreat
set_option linter.unusedVariables false
set_option linter.unusedSimpArgs false
set_option maxRecDepth 100000
open Go.RowKit
theorem ins_isP {i q : Nat} {p : List Int} (h : IsP i p) (hq : q ≤ i) : IsP (i + 1) (p.take q ++ ((i : Int) :: p.drop q)) := by
  obtain ⟨f, g, hl, h1, h2⟩ := h
  refine ⟨fun j => if j < q then f j else if j = q then i else f (j - 1), fun v => if v = i then q else if g v < q then g v else g v + 1, ?_, fun j hj => ?_, fun j hj => ?_⟩
  · simp; omega
  · refine ⟨?_, ?_, ?_, ?_⟩
    · dsimp only
      split
      · have := (h1 j (by omega)).1; omega
      · split
        · omega
        · have := (h1 (j - 1) (by omega)).1; omega
    · dsimp only
      split
      · omega
      · have := (h1 j (by omega)).2.1
        split <;> omega
    · dsimp only
      by_cases e : j = i
      · rw [if_pos e, if_neg (by omega), if_pos rfl, e]
      · rw [if_neg e]
        have h3 := h1 j (by omega)
        by_cases e2 : g j < q
        · rw [if_pos e2, if_pos e2, h3.2.2.1]
        · rw [if_neg e2, if_neg (by omega), if_neg (by omega), Nat.add_sub_cancel, h3.2.2.1]
    · dsimp only
      by_cases e : j < q
      · have h3 := h1 j (by omega)
        rw [if_pos e, if_neg (by omega), h3.2.2.2, if_pos e]
      · rw [if_neg e]
        by_cases e2 : j = q
        · rw [if_pos e2, if_pos rfl, e2]
        · have h3 := h1 (j - 1) (by omega)
          rw [if_neg e2, if_neg (by omega), h3.2.2.2, if_neg (by omega)]; omega
  · dsimp only
    by_cases e : j < q
    · rw [if_pos e, List.getD_eq_getElem?_getD, List.getElem?_append_left (by simp; omega), List.getElem?_take, if_pos e, ← List.getD_eq_getElem?_getD]
      exact h2 j (by omega)
    · rw [if_neg e, List.getD_eq_getElem?_getD, List.getElem?_append_right (by simp; omega)]
      have : (p.take q).length = q := by simp; omega
      rw [this]
      by_cases e2 : j = q
      · rw [if_pos e2, e2, Nat.sub_self]; simp
      · rw [if_neg e2]
        obtain ⟨r, hr⟩ : ∃ r, j - q = r + 1 := ⟨j - q - 1, by omega⟩
        rw [hr, List.getElem?_cons_succ, List.getElem?_drop, ← List.getD_eq_getElem?_getD]
        have : q + r = j - 1 := by omega
        rw [this]
        exact h2 (j - 1) (by omega)
theorem Row.take0 {w : World} {a : Option Addr} {n : Nat} {xs : List Int} (h : Row w a n xs) (m : Nat) (hm : m ≤ n) : Row w a m (xs.take m) := by
  refine ⟨by rw [List.length_take, ← h.len]; omega, fun i hi => ?_⟩
  obtain ⟨b, off, e1, e2, e3⟩ := h.2 i (by omega)
  refine ⟨b, off, e1, e2, ?_⟩
  rw [e3]
  simp [List.getD_eq_getElem?_getD, List.getElem?_take, hi]
theorem Row.drop0 {w : World} {g n : Nat} {xs : List Int} (h : Row w (some ⟨g, 0, none⟩) n xs) (q : Nat) (hq : q ≤ n) : Row w (some ⟨g, q, none⟩) (n - q) (xs.drop q) := by
  refine ⟨by rw [List.length_drop, h.len], fun i hi => ?_⟩
  obtain ⟨b, off, e1, e2, e3⟩ := h.2 (q + i) (by omega)
  cases e1
  refine ⟨g, q, rfl, e2, ?_⟩
  rw [Nat.zero_add] at e3
  rw [e3]
  simp [List.getD_eq_getElem?_getD]
set_option maxHeartbeats 8000000 in
theorem l03DrawPerm_ok (b n : Nat) (w : World) (h : Src w b) (hn : n ≤ 100) :
    Calls Tryz.prog 104 #[.pointer (some ⟨b, 0, none⟩), .int .i64 n] w (PrD b w n) := by
  have hlt := h.lt
  have hO := Own.fresh w rfl
  have hs0 := h.below (below_al (Below.refl w.heap.size w) (.cells #[] 2))
  have hG0 := World.grownBy_alloc w (.cells #[] 2) (some b)
  go_enter Tryz.func104, Tryz.ntmps104
  go_wp2
  go_loopw [5, 6, 7, 8] (fun z i _ _ wr => ∃ (k : Nat) (g c : Nat) (p : List Int), k ≤ n ∧ i = .int .i64 k ∧ z = .slice (some ⟨g, 0, none⟩) k c ∧ Hid (IsP k p) ∧ Own wr w.heap.size (some ⟨g, 0, none⟩) k c p ∧ Src wr b ∧ w.grownBy wr (some b)) (fun _ i _ _ _ => n - (intOf i).toNat)
  case atStart => exact ⟨0, _, 0, [], Nat.zero_le _, rfl, rfl, Lib.hid ⟨id, id, rfl, fun i hi => absurd hi (by omega), fun i hi => absurd hi (by omega)⟩, hO, hs0, hG0⟩
  case round =>
    clear hO hs0 hG0
    obtain ⟨k, g, c, p, hk, rfl, rfl, HP, ho, hs, hG⟩ := hrel
    by_cases hlt2 : k < n
    · go_wp2_with fail
      refine (l01Next_ok b ((k : Int) + 1) _ hs ⟨by omega, by omega⟩).mono ?_
      rintro e w3 ⟨x, rfl, _, hx, hs3, hg3⟩
      obtain ⟨hx1, hx2⟩ := hx (by omega)
      obtain ⟨q, rfl⟩ : ∃ q : Nat, x = q := ⟨x.toNat, by omega⟩
      have hq : q ≤ k := by omega
      clear hx hx1 hx2
      have hlo := ho.lo _ rfl
      have ho3 := ho.grown hg3 (fun g e => by have := ho.lo g e; simp; omega)
      have hG3 := grown_trans hG hg3
      have hcap := ho3.cap
      have i1 : (0 : Int) ≤ (q : Int) := by omega
      have i2 : (q : Int) ≤ (k : Int) := by omega
      have i3 : (q : Int) ≤ (c : Int) := by omega
      have i4 : (k : Int) ≤ (c : Int) := by omega
      have hrow : Row (w3.alloc (.cells #[.int .i64 k] 2)) (if c = q then some ⟨g, 0, none⟩ else some ⟨g, q, none⟩) (k - q) (p.drop q) := by
        split
        · have e0 : k - q = 0 := by omega
          have e1 : p.drop q = [] := List.drop_of_length_le (by have := ho3.len; omega)
          rw [e0, e1]; exact Row.nil _ _
        · exact (ho3.row.alloc _).drop0 q hq
      have HINS := Lib.hid (ins_isP HP.out hq)
      go_upto_region 7 with (at_builtin; refine appL rfl rfl (Own.single w3 rfl (k : Int)) rfl hrow rfl (by omega) (by simp) ?_; intro a5 c5 w5 hO5 hg5 hb5')
      have hb5 : Below w3.heap.size w3 w5 := (below_al (Below.refl w3.heap.size w3) _).trans hb5'
      have hz5 := hb5.size
      have ho5 : Own w5 w.heap.size (some ⟨g, 0, none⟩) k c p := ho3.below hb5
      have hs5 := hs3.below hb5
      have hG5 := grown_trans hG3 (grown_of_below hb5 (some b))
      have htk := ((ho5.row).take0 q hq).alloc (.cells #[] 2)
      have hw3s : w.heap.size ≤ w3.heap.size := Nat.le_of_lt (Nat.lt_of_le_of_lt hlo (ho3.hi _ rfl))
      go_wp2_with (first
        | (at_builtin; refine appL rfl rfl (Own.fresh w5 rfl) rfl htk rfl (by omega) (by simp) ?_; intro a6 c6 w6 hO6 hg6 hb6'; have hb6 : Below w5.heap.size w5 w6 := (below_al (Below.refl w5.heap.size w5) _).trans hb6'; rw [Nat.zero_add] at hO6 ⊢; have hO5' := hO5.below hb6)
        | (at_builtin; refine appL rfl rfl hO6 rfl hO5'.row rfl (by omega) hb6.size ?_; intro a7 c7 w7 hO7 hg7 hb7; rw [show q + (1 + (k - q)) = k + 1 by omega] at hO7 ⊢))
      have hb56 : Below w5.heap.size w5 w7 := hb6.trans hb7
      obtain ⟨g7, rfl⟩ : ∃ g7, a7 = some ⟨g7, 0, none⟩ := by
        rcases hO7.block with ⟨_, e, _⟩ | ⟨g7, cur, e, _⟩
        · omega
        · exact ⟨g7, e⟩
      go_roundw
      case rel => exact ⟨k + 1, g7, c7, _, by omega, by go_num, rfl, HINS.out, (by simpa using hO7.mono (lo' := w.heap.size) (by omega)), hs5.below hb56, grown_trans hG5 (grown_of_below hb56 _)⟩
      case measure => simp [intOf]; omega
    · obtain rfl : k = n := by omega
      go_wp2
      go_ret
      exact ⟨_, _, p, rfl, HP.out, ho, hs, hG⟩
end Go.Proofs.YtaddclaadbjnlaaGreat
namespace Go.Proofs.YtaddclaadbjnlaaGreat
set_option linter.unusedVariables false
set_option linter.unusedSimpArgs false
def isPb (n : Nat) (p : List Int) : Bool := decide (p.length = n) && (List.range n).all fun i => decide (0 ≤ p.getD i 0) && decide ((p.getD i 0).toNat < n) && decide (((backF p).getD i 0).toNat < n) && decide ((p.getD ((backF p).getD i 0).toNat 0).toNat = i) && decide (((backF p).getD (p.getD i 0).toNat 0).toNat = i)
theorem isPb_ok {n : Nat} {p : List Int} (h : isPb n p = true) : IsP n p := by
  simp only [isPb, Bool.and_eq_true, decide_eq_true_eq, List.all_eq_true, List.mem_range] at h
  refine ⟨fun i => (p.getD i 0).toNat, fun i => ((backF p).getD i 0).toNat, h.1, fun i hi => ?_, fun i hi => ?_⟩
  · have := h.2 i hi
    exact ⟨this.1.1.1.2, this.1.1.2, this.1.2, this.2⟩
  · have := h.2 i hi
    have h0 := this.1.1.1.1
    show p.getD i 0 = (((p.getD i 0).toNat : Nat) : Int)
    omega
end Go.Proofs.YtaddclaadbjnlaaGreat
namespace Go.Proofs.YtaddclaadbjnlaaGreat
set_option linter.unusedVariables false
set_option linter.unusedSimpArgs false
set_option maxRecDepth 100000
open Go.RowKit
theorem make_eq (n : Nat) (hn : n ≤ 1000000000000) : ∃ mk : World → World, ∀ v : World, (Instr.makeSlice 41 (.int .i64 n) (.int .i64 n)).run Tryz.prog v = .ok (.slice (some ⟨v.heap.size, 0, none⟩) n n) (mk v) ∧ Own (mk v) v.heap.size (some ⟨v.heap.size, 0, none⟩) n n (List.replicate n 0) ∧ Below v.heap.size v (mk v) ∧ v.heap.size < (mk v).heap.size := by
  have H : ∀ v : World, ∃ w' : World, (Instr.makeSlice 41 (.int .i64 n) (.int .i64 n)).run Tryz.prog v = .ok (.slice (some ⟨v.heap.size, 0, none⟩) n n) w' ∧ Own w' v.heap.size (some ⟨v.heap.size, 0, none⟩) n n (List.replicate n 0) ∧ Below v.heap.size v w' ∧ v.heap.size < w'.heap.size := fun v => by
    obtain ⟨i0, hi, hz0, hz1, hz2⟩ := info_parts info_int
    obtain ⟨w', hrun, r1, r2⟩ := run_make_full (P := Tryz.prog) v v.heap.size 41 2 i0 (.int .i64 0) 1 und_ints hi hz0 hz1 .i64 .i64 n (by rw [hz2]; omega) (by unfold maxLen; omega) (Nat.le_refl _)
    have ho : Own w' v.heap.size (some ⟨v.heap.size, 0, none⟩) n n (List.replicate n 0) := by
      refine ⟨by simp, ?_⟩
      have e : (madeCells (Value.int IntKind.i64 0).cells (n * 1)).toList = (List.replicate n (0 : Int)).map (.int .i64) := by
        rw [Nat.mul_one, List.map_replicate]; exact toList_madeCells_one _ _
      rw [e] at r1; exact r1
    exact ⟨w', hrun, ho, (Below.refl _ _).grown r2 (Nat.le_refl _) (by simp), ho.lt.2⟩
  obtain ⟨mk, h⟩ := Classical.axiomOfChoice H
  exact ⟨mk, h⟩
def zT (n : Nat) : List (List Int) := tabF n fun _ _ => 0
theorem zT_succ {n k : Nat} (h : k < n) : (zT n).take (k + 1) = (zT n).take k ++ [List.replicate n 0] := by
  unfold zT
  rw [tabF_succ _ h]
  congr 2
  apply List.ext_getElem
  · simp
  · intro i h1 h2; simp
set_option maxHeartbeats 16000000 in
theorem l02Empty_any (n : Nat) (w : World) (hn : n ≤ 100) :
    Calls Tryz.prog 187 #[.int .i64 n] w fun e w' => ∃ a c vs a' c' vs', e = .returned (sAgg a n c a' n c') ∧ OwnS w' w.heap.size a n c vs (zT n) a' n c' vs' (zT n) ∧ Below w.heap.size w w' := by
  obtain ⟨w0, hw0⟩ : ∃ w0, (w.alloc (.cells #[.slice none 0 0, .slice none 0 0] 53)).alloc (.cells #[.slice none 0 0, .slice none 0 0] 53) = w0 := ⟨_, rfl⟩
  have HZ0 : Hid (w0.heap.size = w.heap.size + 1 + 1) := Lib.hid (by rw [← hw0]; simp)
  have hB : Below w.heap.size w w0 := by rw [← hw0]; exact below_al (below_al (Below.refl _ _) _) _
  have hR : Loc w0 (w.heap.size) #[.slice none 0 0, .slice none 0 0] 53 := by rw [← hw0]; exact (Loc.new _ (by simp) _ _).alloc _
  have hO : Loc w0 (w.heap.size + 1) #[.slice none 0 0, .slice none 0 0] 53 := by rw [← hw0]; exact Loc.new _ (by simp) _ _
  have HW0 := Lib.hid hw0; clear hw0
  obtain ⟨mk, hmk⟩ := make_eq n (by omega)
  have HMK := Lib.hid hmk
  have hmk1 := fun v => (hmk v).1
  clear hmk
  go_enter Tryz.func187, Tryz.ntmps187
  go_wp2
  rw [HW0.out]
  go_loopw [4] (fun i wr => ∃ (k : Nat) (az : Option Addr) (cz : Nat) (vz : List SV) (ay : Option Addr) (cy : Nat) (vy : List SV), k ≤ n ∧ i = .int .i64 k ∧ Loc wr (w.heap.size + 1) #[.slice az k cz, .slice ay k cy] 53 ∧ Loc wr (w.heap.size) #[.slice none 0 0, .slice none 0 0] 53 ∧ OwnT wr w0.heap.size az k cz vz ((zT n).take k) ∧ OwnT wr w0.heap.size ay k cy vy ((zT n).take k) ∧ ApT az k vz ay k vy ∧ Below w.heap.size w wr) (fun i _ => n - (intOf i).toNat)
  case atStart => exact ⟨0, none, 0, [], none, 0, [], Nat.zero_le _, rfl, hO, hR, by simpa using OwnT.nil _ _, by simpa using OwnT.nil _ _, (fun g h _ => by rcases h with h | ⟨i, hi, _⟩; (cases h); omega), hB⟩
  case round =>
    clear hR hO hB
    obtain ⟨k, az, cz, vz, ay, cy, vy, hk, rfl, hO, hR, hz, hy, hap, hB⟩ := hrel
    have hOlt := hO.lt
    have hZ0 := HZ0.out
    obtain ⟨W, rfl⟩ : ∃ W : World, W = wr := ⟨_, rfl⟩
    by_cases hlt : k < n
    · have HZS := Lib.hid (zT_succ hlt)
      have lO := hO.two
      have hzhi := hz.uHi
      have hyhi := hy.uHi
      have hWs : w0.heap.size ≤ W.heap.size := by omega
      have ho5 : Own (mk W.drew) W.heap.size (some ⟨W.heap.size, 0, none⟩) n n (List.replicate n 0) := (HMK.out W.drew).2.1
      have hr5 : Below W.heap.size W (mk W.drew) := (Below.drew (Below.refl _ _)).trans (HMK.out W.drew).2.2.1
      have hs5 : W.heap.size < (mk W.drew).heap.size := (HMK.out W.drew).2.2.2
      have hO5 := hO.below hr5 hO.lt
      have lO5 := hO5.two
      have lO5a := (hO5.alloc (.cells #[.slice (some ⟨W.heap.size, 0, none⟩) n n] 41)).two
      have hz5 := hz.below hr5
      go_wp2
      go_region_law (refine step_appT1n rfl rfl hz5 rfl (ho5.mono hWs) (fun g h1 h2 => by have h3 := hzhi _ (.inl h1); have h4 := ho5.lo _ h2; omega) (fun i hi g h1 h2 => by have h3 := ho5.lo _ h1; have h4 := hzhi _ (.inr ⟨i, hi, h2⟩); omega) rfl (by omega) (by omega) ?_; intro g6 cc6 w6 hOT6 hg6 hat6 hb6; have hO6 := hO5.below hb6 (by omega); have lO6 := hO6.two)
      all_goals
        have hvl := hz5.vlen
        have hy5 := hy.below hr5
        have hy6 := hz5.other hy5 hap hg6
        have hap6 := ApT.snoc hz5 hy5 hap (v := (some ⟨W.heap.size, 0, none⟩, n, n)) hvl hat6 (fun q h1 h2 => by have h3 := ho5.lo _ h1; have h4 := hyhi _ h2; omega)
        have hsz6 := hg6.size
        have hBw := hB.size
        have hB6 := (hB.trans (hr5.mono hBw)).trans (hb6.mono (by omega))
        have hR6 := (hR.below hr5 hR.lt).below hb6 (by omega)
        have hz7 := hOT6.setlo (p := ⟨w.heap.size + 1, 0, none⟩) (by show w.heap.size + 1 < w0.heap.size; omega) (.slice (some ⟨g6, 0, none⟩) (k + 1) cc6)
        have hy7 := hy6.setlo (p := ⟨w.heap.size + 1, 0, none⟩) (by show w.heap.size + 1 < w0.heap.size; omega) (.slice (some ⟨g6, 0, none⟩) (k + 1) cc6)
        have hO7 := hO6.set 0 (.slice (some ⟨g6, 0, none⟩) (k + 1) cc6)
        have hR7 := hR6.setne (a := ⟨w.heap.size + 1, 0, none⟩) (by show w.heap.size ≠ w.heap.size + 1; omega) (.slice (some ⟨g6, 0, none⟩) (k + 1) cc6)
        have hB7 := below_setne (a := ⟨w.heap.size + 1, 0, none⟩) hB6 (by show w.heap.size ≤ w.heap.size + 1; omega) (.slice (some ⟨g6, 0, none⟩) (k + 1) cc6)
        have hsz7 : (w6.setCell ⟨w.heap.size + 1, 0, none⟩ (.slice (some ⟨g6, 0, none⟩) (k + 1) cc6)).heap.size = w6.heap.size := size_set _ _ _
        simp only [Array.setIfInBounds, List.size_toArray, List.length_cons, List.length_nil, Nat.zero_add, Nat.lt_add_one, Nat.reduceAdd, Nat.reduceLT, dif_pos, Nat.zero_lt_succ] at hO7
        have hlo7 : w0.heap.size ≤ (w6.setCell ⟨w.heap.size + 1, 0, none⟩ (.slice (some ⟨g6, 0, none⟩) (k + 1) cc6)).heap.size := by rw [hsz7]; omega
        clear hsz7 hO6 lO6 hB6 hR6 hz hy hO hR lO lO5 lO5a hz5 hy5 hy6 hOT6 hO5 ho5 hB hr5 hs5 hzhi hyhi hg6 hat6 hb6 hsz6 hap hvl
        generalize w6.setCell ⟨w.heap.size + 1, 0, none⟩ (.slice (some ⟨g6, 0, none⟩) (k + 1) cc6) = w7 at *
        have hyhi := hy7.uHi
        have hzhi := hz7.uHi
        have hvl7 := hy7.vlen
        have lO7 := hO7.two
        have ho5 : Own (mk w7.drew) w7.heap.size (some ⟨w7.heap.size, 0, none⟩) n n (List.replicate n 0) := (HMK.out w7.drew).2.1
        have hr5 : Below w7.heap.size w7 (mk w7.drew) := (Below.drew (Below.refl _ _)).trans (HMK.out w7.drew).2.2.1
        have hs5 : w7.heap.size < (mk w7.drew).heap.size := (HMK.out w7.drew).2.2.2
        have hO5 := hO7.below hr5 hO7.lt
        have lO5 := hO5.two
        have lO5a := (hO5.alloc (.cells #[.slice (some ⟨w7.heap.size, 0, none⟩) n n] 41)).two
        have hy5 := hy7.below hr5
        go_upto_region 6 with fail
        go_region_law (refine step_appT1n rfl rfl hy5 rfl (ho5.mono hlo7) (fun g h1 h2 => by have h3 := hyhi _ (.inl h1); have h4 := ho5.lo _ h2; omega) (fun i hi g h1 h2 => by have h3 := ho5.lo _ h1; have h4 := hyhi _ (.inr ⟨i, hi, h2⟩); omega) rfl (by omega) (by omega) ?_; intro g9 cc9 w9 hOT9 hg9 hat9 hb9; have hO9 := hO5.below hb9 (by omega); have lO9 := hO9.two)
        all_goals
          have hz5 := hz7.below hr5
          have hz9 := hy5.other hz5 hap6.symm hg9
          have hap9 := (ApT.snoc hy5 hz5 hap6.symm (v := (some ⟨w7.heap.size, 0, none⟩, n, n)) hvl7 hat9 (fun q h1 h2 => by have h3 := ho5.lo _ h1; have h4 := hzhi _ h2; omega)).symm
          have hO10 := hO9.set 1 (.slice (some ⟨g9, 0, none⟩) (k + 1) cc9)
          have hR9 := ((hR7.below hr5 hR7.lt).below hb9 (by omega)).setne (a := ⟨w.heap.size + 1, 1, none⟩) (by show w.heap.size ≠ w.heap.size + 1; omega) (.slice (some ⟨g9, 0, none⟩) (k + 1) cc9)
          have hB9 := below_setne (a := ⟨w.heap.size + 1, 1, none⟩) ((hB7.trans (hr5.mono hB7.size)).trans (hb9.mono (by omega))) (by show w.heap.size ≤ w.heap.size + 1; omega) (.slice (some ⟨g9, 0, none⟩) (k + 1) cc9)
          go_wp2
          go_roundw
          case rel => exact ⟨k + 1, _, _, _, _, _, _, by omega, by go_num, hO10, hR9, by rw [HZS.out]; exact hz9.setlo (by show w.heap.size + 1 < w0.heap.size; omega) _, by rw [HZS.out]; exact hOT9.setlo (by show w.heap.size + 1 < w0.heap.size; omega) _, hap9, hB9⟩
          case measure => simp [intOf]; omega
    · obtain rfl : k = n := by omega
      rw [List.take_of_length_le (by unfold zT; rw [tabF_len]; exact Nat.le_refl _)] at hz hy
      have lO := hO.two
      have lR := hR.two
      go_wp2
      refine bodyPost_ret (v := sAgg az k cz ay k cy) (by simp [results, Tryz.results187, go_sem, lR, lO]) rfl ⟨az, cz, vz, ay, cy, vy, rfl, ⟨?_, ?_, hap⟩, ?_⟩
      · exact ((hz.setlo (by show w.heap.size < w0.heap.size; omega) _).setlo (by show w.heap.size < w0.heap.size; omega) _).mono (by omega)
      · exact ((hy.setlo (by show w.heap.size < w0.heap.size; omega) _).setlo (by show w.heap.size < w0.heap.size; omega) _).mono (by omega)
      · exact below_setne (below_setne hB (by show w.heap.size ≤ w.heap.size; omega) _) (by show w.heap.size ≤ w.heap.size; omega) _
def InR (n : Nat) (V : Nat → Nat → Int) : Prop := ∀ x y, x < n → y < n → 0 ≤ V x y ∧ V x y < n
theorem InR.upd {n : Nat} {V : Nat → Nat → Int} (h : InR n V) (u v : Nat) {z : Nat} (hz : z < n) : InR n (updQ V u v z) := fun x y hx hy => by
  unfold updQ
  split
  · omega
  · exact h x y hx hy
set_option maxHeartbeats 16000000 in
theorem l02Inverse_any (n : Nat) (a a' : Option Addr) (c c' : Nat) (f g : List (List Int)) (w : World) (t1 : Tbl w a n f) (t2 : Tbl w a' n g) (s1 : Sq n f) (s2 : Sq n g) (n1 : 1 ≤ n) (hn : n ≤ 100) :
    Calls Tryz.prog 176 #[sAgg a n c a' n c'] w (SolB w n) := by
  obtain ⟨ba, oa, A1, O1, C1, rfl, G1⟩ := t1.grid s1 n1
  obtain ⟨ba', oa', A2, O2, C2, rfl, G2⟩ := t2.grid s2 n1
  clear t1 t2
  obtain ⟨w0, hw0⟩ : ∃ w0, (w.alloc (.cells #[.slice (some ⟨ba, oa, none⟩) n c, .slice (some ⟨ba', oa', none⟩) n c'] 53)).alloc (.cells #[.slice none 0 0, .slice none 0 0] 53) = w0 := ⟨_, rfl⟩
  have HZ0 : Hid (w0.heap.size = w.heap.size + 1 + 1) := Lib.hid (by rw [← hw0]; simp)
  have hB0 : Below w.heap.size w w0 := by rw [← hw0]; exact below_al (below_al (Below.refl _ _) _) _
  have hX : Loc w0 w.heap.size #[.slice (some ⟨ba, oa, none⟩) n c, .slice (some ⟨ba', oa', none⟩) n c'] 53 := by rw [← hw0]; exact (Loc.new w rfl _ _).alloc _
  have hR : Loc w0 (w.heap.size + 1) #[.slice none 0 0, .slice none 0 0] 53 := by rw [← hw0]; exact Loc.new _ (by simp) _ _
  have HW0 := Lib.hid hw0; clear hw0
  have lX := hX.two
  have S1 := Lib.hid (fun x y (hx : x < n) (hy : y < n) => s1.lt (x := x) (y := y) hx hy)
  have S2 := Lib.hid (fun x y (hx : x < n) (hy : y < n) => s2.lt (x := x) (y := y) hx hy)
  clear s1 s2
  go_enter Tryz.func176, Tryz.ntmps176
  go_wp2_with fail
  rw [HW0.out]
  refine (l02Empty_any n _ hn).mono ?_
  rintro e w1 ⟨az, cz, vz, ay, cy, vy, rfl, ho1, hb1⟩
  obtain ⟨gz, rfl, _⟩ := ho1.f.cells (by omega)
  obtain ⟨gy, rfl, _⟩ := ho1.s.cells (by omega)
  have hX1 := hX.below hb1 hX.lt
  have hR1 := hR.below hb1 hR.lt
  have hB1 := below_th hB0 hb1
  have HHZ : Hid (∀ q, TblS (some ⟨gz, 0, none⟩) n vz q → w0.heap.size ≤ q ∧ q < w1.heap.size) := Lib.hid fun q h => ⟨ho1.f.uLo q h, ho1.f.uHi q h⟩
  have HHY : Hid (∀ q, TblS (some ⟨gy, 0, none⟩) n vy q → w0.heap.size ≤ q ∧ q < w1.heap.size) := Lib.hid fun q h => ⟨ho1.s.uLo q h, ho1.s.uHi q h⟩
  have HAP := Lib.hid ho1.ap
  have hz1 := hb1.size
  obtain ⟨w2, hw2⟩ : ∃ w2, w1.alloc (.cells #[.slice (some ⟨gz, 0, none⟩) n cz, .slice (some ⟨gy, 0, none⟩) n cy] 53) = w2 := ⟨_, rfl⟩
  have hb2 : Below w1.heap.size w1 w2 := by rw [← hw2]; exact below_al (Below.refl _ _) _
  have hO2 : Loc w2 w1.heap.size #[.slice (some ⟨gz, 0, none⟩) n cz, .slice (some ⟨gy, 0, none⟩) n cy] 53 := by rw [← hw2]; exact Loc.new w1 rfl _ _
  have hZ2 : OwnT w2 w0.heap.size (some ⟨gz, 0, none⟩) n cz vz (tabF n fun _ _ => 0) := ho1.f.below hb2
  have hY2 : OwnT w2 w0.heap.size (some ⟨gy, 0, none⟩) n cy vy (tabF n fun _ _ => 0) := ho1.s.below hb2
  have hX2 := hX1.below hb2 hX1.lt
  have hR2 := hR1.below hb2 hR1.lt
  have hB2 := below_th hB1 hb2
  have hX1l := hX1.lt
  have HW2 := Lib.hid hw2
  clear hw2 ho1 hX hR hX1 hR1 hB0 hB1 lX
  go_wp2
  try rw [HW2.out]
  go_loopw [5, 6, 7, 8] (fun i _ _ _ wr => ∃ (k : Nat) (V U : Nat → Nat → Int), k ≤ n ∧ i = .int .i64 k ∧ OwnT wr w0.heap.size (some ⟨gz, 0, none⟩) n cz vz (tabF n V) ∧ OwnT wr w0.heap.size (some ⟨gy, 0, none⟩) n cy vy (tabF n U) ∧ Hid (InR n V) ∧ Hid (InR n U) ∧ Loc wr w1.heap.size #[.slice (some ⟨gz, 0, none⟩) n cz, .slice (some ⟨gy, 0, none⟩) n cy] 53 ∧ Loc wr w.heap.size #[.slice (some ⟨ba, oa, none⟩) n c, .slice (some ⟨ba', oa', none⟩) n c'] 53 ∧ Loc wr (w.heap.size + 1) #[.slice none 0 0, .slice none 0 0] 53 ∧ Below w.heap.size w wr) (fun i _ _ _ _ => n - (intOf i).toNat)
  case atStart => exact ⟨0, _, _, Nat.zero_le _, rfl, hZ2, hY2, Lib.hid (fun x y _ _ => by show 0 ≤ (0 : Int) ∧ (0 : Int) < n; omega), Lib.hid (fun x y _ _ => by show 0 ≤ (0 : Int) ∧ (0 : Int) < n; omega), hO2, hX2, hR2, hB2⟩
  case round =>
    clear hZ2 hY2 hO2 hX2 hR2 hB2
    obtain ⟨k, V, U, hk, rfl, hZ, hY, HV, HU, hO, hX, hR, hB⟩ := hrel
    have hz0 := HZ0.out
    by_cases hlt : k < n
    · go_wp2
      go_loopw [6, 7, 8] (fun i _ _ wr => ∃ (j : Nat) (V U : Nat → Nat → Int), j ≤ n ∧ i = .int .i64 j ∧ OwnT wr w0.heap.size (some ⟨gz, 0, none⟩) n cz vz (tabF n V) ∧ OwnT wr w0.heap.size (some ⟨gy, 0, none⟩) n cy vy (tabF n U) ∧ Hid (InR n V) ∧ Hid (InR n U) ∧ Loc wr w1.heap.size #[.slice (some ⟨gz, 0, none⟩) n cz, .slice (some ⟨gy, 0, none⟩) n cy] 53 ∧ Loc wr w.heap.size #[.slice (some ⟨ba, oa, none⟩) n c, .slice (some ⟨ba', oa', none⟩) n c'] 53 ∧ Loc wr (w.heap.size + 1) #[.slice none 0 0, .slice none 0 0] 53 ∧ Below w.heap.size w wr) (fun i _ _ _ => n - (intOf i).toNat)
      case atStart => exact ⟨0, V, U, Nat.zero_le _, rfl, hZ, hY, HV, HU, hO, hX, hR, hB⟩
      case round =>
        clear hZ hY hO hX hR hB HV HU
        obtain ⟨j, V, U, hj, rfl, hZ, hY, HV, HU, hO, hX, hR, hB⟩ := hrel
        obtain ⟨W, rfl⟩ : ∃ W : World, W = wr := ⟨_, rfl⟩
        by_cases hjt : j < n
        · have hu := S1.out k j hlt hjt
          have hv := S2.out k j hlt hjt
          obtain ⟨r1, k1⟩ := (G1.below hB).look hlt hjt
          obtain ⟨r2, k2⟩ := (G2.below hB).look hlt hjt
          obtain ⟨u, HUU⟩ : ∃ u, Hid (tv f k j = u) := ⟨_, Lib.hid rfl⟩
          obtain ⟨v, HVV⟩ : ∃ v, Hid (tv g k j = v) := ⟨_, Lib.hid rfl⟩
          rw [HUU.out] at k1 hu
          rw [HVV.out] at k2 hv
          obtain ⟨gz', g1, cg1, e1, ev1, rz, hcz, htz⟩ := hZ.spotQ hu
          cases e1
          obtain ⟨gy', g2, cg2, e2, ev2, ry, hcy, hty⟩ := hY.spotQ hu
          cases e2
          have hgz := HHZ.out g1 htz
          have hgy := HHY.out g2 hty
          have lO := hO.two
          have lX := hX.two
          have i1 : (0 : Int) ≤ (k : Int) := by omega
          have i2 : (k : Int) < (n : Int) := by omega
          have i3 : (0 : Int) ≤ (j : Int) := by omega
          have i4 : (j : Int) < (n : Int) := by omega
          have i5 : (0 : Int) ≤ (u : Int) := by omega
          have i6 : (u : Int) < (n : Int) := by omega
          have i7 : (0 : Int) ≤ (v : Int) := by omega
          have i8 : (v : Int) < (n : Int) := by omega
          have EV1 := Lib.hid ev1; have EV2 := Lib.hid ev2
          have HCZ := Lib.hid (hcz v hv); have HCY := Lib.hid (hcy v hv)
          clear ev1 ev2 hcz hcy
          go_wp2
          go_quiet (fail)
          have hZd := hZ.drewN nq
          have hYd := hY.drewN nq
          have hXd := hX.drewN nq
          have hOd := hO.drewN nq
          have hRd := hR.drewN nq
          have hBd := below_drewN hB nq
          have r2d : (W.drewN nq).cell? _ = _ := r2
          have k2d : (W.drewN nq).cell? _ = _ := k2
          have z1 : (W.drewN nq).cell? ⟨g1, v, none⟩ = _ := HCZ.out.1
          have z2 : (W.drewN nq).frozen? ⟨g1, v, none⟩ = false := HCZ.out.2
          clear r1 k1 r2 k2 rz ry lO lX hZ hY hX hO hR hB
          generalize W.drewN nq = w5 at *
          have lX := hXd.two
          go_upto_region 11 with fail
          have hZ6 := hZd.putQ hu hv EV1.out (k : Int)
          have hY6 := hYd.asetQ (p := ⟨g1, v, none⟩) (fun q h e => HAP.out g1 htz (by have : q = g1 := e; rwa [this] at h)) (.int .i64 k)
          have hO6 := hOd.setne (a := ⟨g1, v, none⟩) (by show w1.heap.size ≠ g1; omega) (.int .i64 k)
          have hX6 := hXd.setne (a := ⟨g1, v, none⟩) (by show w.heap.size ≠ g1; omega) (.int .i64 k)
          have hR6 := hRd.setne (a := ⟨g1, v, none⟩) (by show w.heap.size + 1 ≠ g1; omega) (.int .i64 k)
          have hB6 := below_setne (a := ⟨g1, v, none⟩) hBd (by show w.heap.size ≤ g1; omega) (.int .i64 k)
          clear hZd hYd hXd hOd hRd hBd r2d k2d z1 z2 lX
          generalize w5.setCell ⟨g1, v, none⟩ (.int .i64 k) = w6 at *
          obtain ⟨r2, k2⟩ := (G2.below hB6).look hlt hjt
          rw [HVV.out] at k2
          obtain ⟨gy'', g2', cg2', e2, ev2, ry, hcy, hty2⟩ := hY6.spotQ hu
          cases e2
          have ev3 := EV2.out.symm.trans ev2
          cases ev3
          have z3 := (hcy v hv).1
          have z4 := (hcy v hv).2
          have lX := hX6.two
          clear ev2 hcy hty2
          have hY7 := hY6.putQ hu hv EV2.out (j : Int)
          have hZ7 := hZ6.asetQ (p := ⟨g2, v, none⟩) (fun q h e => HAP.out q h (by have : q = g2 := e; rw [this]; exact hty)) (.int .i64 j)
          have HY7 := Lib.hid hY7; have HZ7 := Lib.hid hZ7
          clear hY7 hZ7
          go_wp2
          go_roundw
          case rel => exact ⟨j + 1, _, _, by omega, by go_num, HZ7.out, HY7.out, Lib.hid (HV.out.upd u v hlt), Lib.hid (HU.out.upd u v hjt), hO6.setne (a := ⟨g2, v, none⟩) (by show w1.heap.size ≠ g2; omega) _, hX6.setne (a := ⟨g2, v, none⟩) (by show w.heap.size ≠ g2; omega) _, hR6.setne (a := ⟨g2, v, none⟩) (by show w.heap.size + 1 ≠ g2; omega) _, below_setne (a := ⟨g2, v, none⟩) hB6 (by show w.heap.size ≤ g2; omega) _⟩
          case measure => simp [intOf]; omega
        · obtain rfl : j = n := by omega
          go_wp2
          go_roundw
          case rel => exact ⟨k + 1, V, U, by omega, by go_num, hZ, hY, HV, HU, hO, hX, hR, hB⟩
          case measure => simp [intOf]; omega
    · obtain rfl : k = n := by omega
      have lO := hO.two
      have lR := hR.two
      go_wp2
      refine bodyPost_ret (v := sAgg (some ⟨gz, 0, none⟩) k cz (some ⟨gy, 0, none⟩) k cy) (by simp [results, Tryz.results176, go_sem, lR, lO]) rfl ⟨_, cz, vz, _, _, cy, vy, _, rfl, ⟨?_, ?_, HAP.out⟩, tabF_sqI HV.out, tabF_sqI HU.out, ?_⟩
      · exact ((hZ.setlo (by show w.heap.size + 1 < w0.heap.size; omega) _).setlo (by show w.heap.size + 1 < w0.heap.size; omega) _).mono (by omega)
      · exact ((hY.setlo (by show w.heap.size + 1 < w0.heap.size; omega) _).setlo (by show w.heap.size + 1 < w0.heap.size; omega) _).mono (by omega)
      · exact below_setne (below_setne hB (by show w.heap.size ≤ w.heap.size + 1; omega) _) (by show w.heap.size ≤ w.heap.size + 1; omega) _
end Go.Proofs.YtaddclaadbjnlaaGreat
