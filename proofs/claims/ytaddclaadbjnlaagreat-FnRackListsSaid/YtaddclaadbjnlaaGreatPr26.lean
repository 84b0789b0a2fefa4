/-
  Walks and plain laws of this seat, some texts in one.
  No condition but bounds on lengths.
-/
import Derived.Test.YtaddclaadbjnlaaGreatPr24
import Derived.Test.YtaddclaadbjnlaaGreatPr1
import Derived.Test.YtaddclaadbjnlaaGreatPr8
import Derived.Test.YtaddclaadbjnlaaGreatPr3
import Derived.Test.YtaddclaadbjnlaaGreatPr2
namespace Go.Proofs.YtaddclaadbjnlaaGreat
set_option linter.unusedVariables false
set_option linter.unusedSimpArgs false
set_option maxRecDepth 100000
open Go.RowKit
theorem wrap_a6 {P x : Nat} (h : P ≤ 10000) (h2 : x ≤ 10000) : wrap64 ((P : Int) + (x : Int)) = (P : Int) + (x : Int) := IntWalk.wrap64_in _ (by omega)
def IsBo (e : Ending) : Prop := ∃ q, e = .returned (.bool q)
def SqB (w : World) (n : Nat) (e : Ending) (w' : World) : Prop :=
  ∃ (a : Option Addr) (c : Nat) (vs : List SV) (t : List (List Int)), e = .returned (.slice a n c) ∧ OwnT w' w.heap.size a n c vs t ∧ Sq n t ∧ Below w.heap.size w w'
set_option maxHeartbeats 4000000 in
theorem l03Alexander_any (n a b : Nat) (w : World) (n1 : 1 ≤ n) (hn : n ≤ 100) (ha : a ≤ 100) (hb : b ≤ 100) :
    Calls Tryz.prog 156 #[.int .i64 n, .int .i64 a, .int .i64 b] w (SqB w n) := by
  obtain ⟨V, hV⟩ : ∃ V : Nat → Nat → Int, V = fun x y => (((b * x + a * y) % n : Nat) : Int) := ⟨_, rfl⟩
  have HVE : Hid (∀ x y, V x y = (((b * x + a * y) % n : Nat) : Int)) := Lib.hid fun x y => by rw [hV]
  have HSV : Hid (Sq n (tabF n V)) := Lib.hid (tabF_sqI fun x y hx hy => by
    rw [HVE.out]; have := Nat.mod_lt (b * x + a * y) (show n > 0 by omega); omega)
  clear hV
  have hO := OwnT.fresh w rfl
  have hB := below_al (Below.refl w.heap.size w) (.cells #[] 41)
  go_enter Tryz.func156, Tryz.ntmps156
  go_wp2
  go_loopw [7, 8, 9, 10] (fun z i _ _ wr => ∃ (k : Nat) (az : Option Addr) (cz : Nat) (vz : List SV), k ≤ n ∧ i = .int .i64 k ∧ z = .slice az k cz ∧ OwnT wr w.heap.size az k cz vz ((tabF n V).take k) ∧ Below w.heap.size w wr) (fun _ i _ _ _ => n - (intOf i).toNat)
  case atStart => exact ⟨0, _, 0, _, Nat.zero_le _, rfl, rfl, by simpa using hO, hB⟩
  case round =>
    clear hO hB
    obtain ⟨k, az, cz, vz, hk, rfl, rfl, ho, hb'⟩ := hrel
    by_cases hlt : k < n
    · have HRV := Lib.hid (tabF_succ V hlt)
      have hE := Own.fresh wr rfl
      have hqe := below_al (Below.refl wr.heap.size wr) (.cells #[] 2)
      go_wp2
      go_loopw [9, 10] (fun z i wq => ∃ (j : Nat) (ar : Option Addr) (cr : Nat), j ≤ n ∧ i = .int .i64 j ∧ z = .slice ar j cr ∧ Own wq wr.heap.size ar j cr ((List.range j).map fun y => V k y) ∧ Below wr.heap.size wr wq) (fun _ i _ => n - (intOf i).toNat)
      case atStart => exact ⟨0, _, 0, Nat.zero_le _, rfl, rfl, by simpa using hE, hqe⟩
      case round =>
        clear hE hqe
        obtain ⟨j, ar, cr, hj, rfl, rfl, hor, hqr⟩ := hrel
        have hwq := hqr.size
        obtain ⟨W, rfl⟩ : ∃ W : World, W = wr := ⟨_, rfl⟩
        by_cases hjt : j < n
        · have HV1 : Hid (((List.range (j + 1)).map fun y => V k y) = ((List.range j).map fun y => V k y) ++ [V k j]) := Lib.hid (by simp [List.range_succ])
          have hm1 : b * k ≤ 100 * 100 := Nat.mul_le_mul hb (by omega)
          have hm2 : a * j ≤ 100 * 100 := Nat.mul_le_mul ha (by omega)
          have hve := HVE.out k j
          obtain ⟨P, hP⟩ : ∃ P, b * k = P := ⟨_, rfl⟩
          obtain ⟨Q, hQ⟩ : ∃ Q, a * j = Q := ⟨_, rfl⟩
          rw [hP, hQ] at hve
          have f1 : (b : Int) * (k : Int) = (P : Int) := by rw [← hP]; push_cast; rfl
          have f2 : (a : Int) * (j : Int) = (Q : Int) := by rw [← hQ]; push_cast; rfl
          rw [hP] at hm1
          rw [hQ] at hm2
          have hPQ : P ≤ 10000 ∧ Q ≤ 10000 := by omega
          have e1 : Int.tmod ((P : Int) + (Q : Int)) (n : Int) = V k j := by rw [hve]; rfl
          have hvb : 0 ≤ V k j ∧ V k j < n := by rw [hve]; have := Nat.mod_lt (P + Q) (show n > 0 by omega); omega
          have hz1 : ¬ (n : Int) = 0 := by omega
          have hz2 : ((n : Int) == 0) = false := by simpa using hz1
          have c1 : wrap64 ((b : Int) * (k : Int)) = (P : Int) := by rw [f1]; exact wrap_n6 (by omega)
          have c2 : wrap64 ((a : Int) * (j : Int)) = (Q : Int) := by rw [f2]; exact wrap_n6 (by omega)
          have c5 : wrap64 ((P : Int) + (Q : Int)) = (P : Int) + (Q : Int) := wrap_a6 hPQ.1 hPQ.2
          clear hP hQ hm1 hm2 f1 f2 hve hPQ
          generalize V k j = v at *
          go_wp2_with (at_builtin; refine app1 rfl rfl hor rfl rfl (by omega) hwq ?_; intro g' cc w8 hO8 hg8 hs8 hb8)
          go_roundw
          case rel => exact ⟨j + 1, _, _, by omega, by go_num, rfl, by rw [HV1.out]; exact hO8, hqr.trans hb8⟩
          case measure => simp [intOf]; omega
        · obtain rfl : j = n := by omega
          have hbb := hb'.size
          have hz1 := ho.below hqr
          have hq1 := hb'.trans (hqr.mono hbb)
          go_wp2_with (at_builtin; refine appT1 rfl rfl hz1 rfl (hor.mono hbb) (fun g h1 h2 => by have h3 := ho.high _ h1; have h4 := hor.lo _ h2; omega) (fun i hi g h1 h2 => by have h3 := hor.lo _ h1; have h4 := (ho.row i hi).hi _ h2; omega) rfl (by omega) (by omega) ?_; intro g' cc w2 hO hb2)
          go_roundw
          case rel => exact ⟨k + 1, _, _, _, by omega, by go_num, rfl, by rw [HRV.out]; exact hO, hq1.trans hb2⟩
          case measure => simp [intOf]; omega
    · obtain rfl : k = n := by omega
      rw [List.take_of_length_le (by rw [tabF_len]; exact Nat.le_refl _)] at ho
      go_wp2
      go_ret
      exact ⟨_, _, vz, _, rfl, ho, HSV.out, hb'⟩
set_option maxHeartbeats 4000000 in
theorem l03Coprime_any (a n : Nat) (w : World) (ha : a ≤ 100) (hn : n ≤ 100) :
    Calls Tryz.prog 157 #[.int .i64 a, .int .i64 n] w fun e w' => IsBo e ∧ w' = w := by
  go_enter Tryz.func157, Tryz.ntmps157
  go_wp2
  go_loop [5] (fun i => ∃ d : Nat, 2 ≤ d ∧ d ≤ 200 ∧ i = .int .i64 d) (fun i => n + 1 - (intOf i).toNat)
  case atStart => exact ⟨2, by omega, by omega, rfl⟩
  case round =>
    obtain ⟨d, hd2, hd, rfl⟩ := hrel
    by_cases hlt : d ≤ n
    · have hz1 : ¬ (d : Int) = 0 := by omega
      have hz2 : ((d : Int) == 0) = false := by simpa using hz1
      have hz3 : ¬ d = 0 := by omega
      have i1 : (d : Int) ≤ (n : Int) := by omega
      have e1 : Int.tmod (a : Int) (d : Int) = ((a % d : Nat) : Int) := rfl
      have e2 : Int.tmod (n : Int) (d : Int) = ((n % d : Nat) : Int) := rfl
      have b1 : a % d ≤ 100 := Nat.le_trans (Nat.mod_le _ _) ha
      have b2 : n % d ≤ 100 := Nat.le_trans (Nat.mod_le _ _) hn
      generalize a % d = u at *
      generalize n % d = v at *
      by_cases hu : u = 0
      · subst hu
        by_cases hv : v = 0
        · subst hv
          go_wp2
          go_ret
          exact ⟨⟨_, rfl⟩, rfl⟩
        · have hv2 : ((v : Int) == 0) = false := by simpa using hv
          have hv3 : ¬ (v : Int) = 0 := by omega
          go_wp2
          go_round
          case rel => exact ⟨d + 1, by omega, by omega, by go_num⟩
          case measure => simp [intOf]; omega
      · have hv2 : ((u : Int) == 0) = false := by simpa using hu
        have hv3 : ¬ (u : Int) = 0 := by omega
        go_wp2
        go_round
        case rel => exact ⟨d + 1, by omega, by omega, by go_num⟩
        case measure => simp [intOf]; omega
    · have i1 : ¬ (d : Int) ≤ (n : Int) := by omega
      go_wp2
      go_ret
      exact ⟨⟨_, rfl⟩, rfl⟩
end Go.Proofs.YtaddclaadbjnlaaGreat

namespace Go.Proofs.YtaddclaadbjnlaaGreat
set_option linter.unusedVariables false
set_option linter.unusedSimpArgs false
set_option maxRecDepth 100000
open Go.RowKit
theorem ins_isP {i q : Nat} {p : List Int} (h : IsP i p) (hq : q ≤ i) : IsP (i + 1) (p.take q ++ ((i : Int) :: p.drop q)) := by
  obtain ⟨f, g, hl, h1, h2⟩ := h
  refine ⟨fun j => if j < q then f j else if j = q then i else f (j - 1), fun v => if v = i then q else if g v < q then g v else g v + 1, ?_, fun j hj => ?_, fun j hj => ?_⟩
  · simp; omega
  · refine ⟨?_, ?_, ?_, ?_⟩
    · dsimp only
      split
      · have := (h1 j (by omega)).1; omega
      · split
        · omega
        · have := (h1 (j - 1) (by omega)).1; omega
    · dsimp only
      split
      · omega
      · have := (h1 j (by omega)).2.1
        split <;> omega
    · dsimp only
      by_cases e : j = i
      · rw [if_pos e, if_neg (by omega), if_pos rfl, e]
      · rw [if_neg e]
        have h3 := h1 j (by omega)
        by_cases e2 : g j < q
        · rw [if_pos e2, if_pos e2, h3.2.2.1]
        · rw [if_neg e2, if_neg (by omega), if_neg (by omega), Nat.add_sub_cancel, h3.2.2.1]
    · dsimp only
      by_cases e : j < q
      · have h3 := h1 j (by omega)
        rw [if_pos e, if_neg (by omega), h3.2.2.2, if_pos e]
      · rw [if_neg e]
        by_cases e2 : j = q
        · rw [if_pos e2, if_pos rfl, e2]
        · have h3 := h1 (j - 1) (by omega)
          rw [if_neg e2, if_neg (by omega), h3.2.2.2, if_neg (by omega)]; omega
  · dsimp only
    by_cases e : j < q
    · rw [if_pos e, List.getD_eq_getElem?_getD, List.getElem?_append_left (by simp; omega), List.getElem?_take, if_pos e, ← List.getD_eq_getElem?_getD]
      exact h2 j (by omega)
    · rw [if_neg e, List.getD_eq_getElem?_getD, List.getElem?_append_right (by simp; omega)]
      have : (p.take q).length = q := by simp; omega
      rw [this]
      by_cases e2 : j = q
      · rw [if_pos e2, e2, Nat.sub_self]; simp
      · rw [if_neg e2]
        obtain ⟨r, hr⟩ : ∃ r, j - q = r + 1 := ⟨j - q - 1, by omega⟩
        rw [hr, List.getElem?_cons_succ, List.getElem?_drop, ← List.getD_eq_getElem?_getD]
        have : q + r = j - 1 := by omega
        rw [this]
        exact h2 (j - 1) (by omega)
theorem Row.take0 {w : World} {a : Option Addr} {n : Nat} {xs : List Int} (h : Row w a n xs) (m : Nat) (hm : m ≤ n) : Row w a m (xs.take m) := by
  refine ⟨by rw [List.length_take, ← h.len]; omega, fun i hi => ?_⟩
  obtain ⟨b, off, e1, e2, e3⟩ := h.2 i (by omega)
  refine ⟨b, off, e1, e2, ?_⟩
  rw [e3]
  simp [List.getD_eq_getElem?_getD, List.getElem?_take, hi]
theorem Row.drop0 {w : World} {g n : Nat} {xs : List Int} (h : Row w (some ⟨g, 0, none⟩) n xs) (q : Nat) (hq : q ≤ n) : Row w (some ⟨g, q, none⟩) (n - q) (xs.drop q) := by
  refine ⟨by rw [List.length_drop, h.len], fun i hi => ?_⟩
  obtain ⟨b, off, e1, e2, e3⟩ := h.2 (q + i) (by omega)
  cases e1
  refine ⟨g, q, rfl, e2, ?_⟩
  rw [Nat.zero_add] at e3
  rw [e3]
  simp [List.getD_eq_getElem?_getD]
set_option maxHeartbeats 8000000 in
theorem l03DrawPerm_ok (b n : Nat) (w : World) (h : Src w b) (hn : n ≤ 100) :
    Calls Tryz.prog 104 #[.pointer (some ⟨b, 0, none⟩), .int .i64 n] w (PrD b w n) := by
  have hlt := h.lt
  have hO := Own.fresh w rfl
  have hs0 := h.below (below_al (Below.refl w.heap.size w) (.cells #[] 2))
  have hG0 := World.grownBy_alloc w (.cells #[] 2) (some b)
  go_enter Tryz.func104, Tryz.ntmps104
  go_wp2
  go_loopw [5, 6, 7, 8] (fun z i _ _ wr => ∃ (k : Nat) (g c : Nat) (p : List Int), k ≤ n ∧ i = .int .i64 k ∧ z = .slice (some ⟨g, 0, none⟩) k c ∧ Hid (IsP k p) ∧ Own wr w.heap.size (some ⟨g, 0, none⟩) k c p ∧ Src wr b ∧ w.grownBy wr (some b)) (fun _ i _ _ _ => n - (intOf i).toNat)
  case atStart => exact ⟨0, _, 0, [], Nat.zero_le _, rfl, rfl, Lib.hid ⟨id, id, rfl, fun i hi => absurd hi (by omega), fun i hi => absurd hi (by omega)⟩, hO, hs0, hG0⟩
  case round =>
    clear hO hs0 hG0
    obtain ⟨k, g, c, p, hk, rfl, rfl, HP, ho, hs, hG⟩ := hrel
    by_cases hlt2 : k < n
    · go_wp2_with fail
      refine (l01Next_ok b ((k : Int) + 1) _ hs ⟨by omega, by omega⟩).mono ?_
      rintro e w3 ⟨x, rfl, _, hx, hs3, hg3⟩
      obtain ⟨hx1, hx2⟩ := hx (by omega)
      obtain ⟨q, rfl⟩ : ∃ q : Nat, x = q := ⟨x.toNat, by omega⟩
      have hq : q ≤ k := by omega
      clear hx hx1 hx2
      have hlo := ho.lo _ rfl
      have ho3 := ho.grown hg3 (fun g e => by have := ho.lo g e; simp; omega)
      have hG3 := grown_trans hG hg3
      have hcap := ho3.cap
      have i1 : (0 : Int) ≤ (q : Int) := by omega
      have i2 : (q : Int) ≤ (k : Int) := by omega
      have i3 : (q : Int) ≤ (c : Int) := by omega
      have i4 : (k : Int) ≤ (c : Int) := by omega
      have hrow : Row (w3.alloc (.cells #[.int .i64 k] 2)) (if c = q then some ⟨g, 0, none⟩ else some ⟨g, q, none⟩) (k - q) (p.drop q) := by
        split
        · have e0 : k - q = 0 := by omega
          have e1 : p.drop q = [] := List.drop_of_length_le (by have := ho3.len; omega)
          rw [e0, e1]; exact Row.nil _ _
        · exact (ho3.row.alloc _).drop0 q hq
      have HINS := Lib.hid (ins_isP HP.out hq)

      go_upto_region 7 with (at_builtin; refine appL rfl rfl (Own.single w3 rfl (k : Int)) rfl hrow rfl (by omega) (by simp) ?_; intro a5 c5 w5 hO5 hg5 hb5')
      have hb5 : Below w3.heap.size w3 w5 := (below_al (Below.refl w3.heap.size w3) _).trans hb5'
      have hz5 := hb5.size
      have ho5 : Own w5 w.heap.size (some ⟨g, 0, none⟩) k c p := ho3.below hb5
      have hs5 := hs3.below hb5
      have hG5 := grown_trans hG3 (grown_of_below hb5 (some b))
      have htk := ((ho5.row).take0 q hq).alloc (.cells #[] 2)
      have hw3s : w.heap.size ≤ w3.heap.size := Nat.le_of_lt (Nat.lt_of_le_of_lt hlo (ho3.hi _ rfl))
      go_wp2_with (first
        | (at_builtin; refine appL rfl rfl (Own.fresh w5 rfl) rfl htk rfl (by omega) (by simp) ?_; intro a6 c6 w6 hO6 hg6 hb6'; have hb6 : Below w5.heap.size w5 w6 := (below_al (Below.refl w5.heap.size w5) _).trans hb6'; rw [Nat.zero_add] at hO6 ⊢; have hO5' := hO5.below hb6)
        | (at_builtin; refine appL rfl rfl hO6 rfl hO5'.row rfl (by omega) hb6.size ?_; intro a7 c7 w7 hO7 hg7 hb7; rw [show q + (1 + (k - q)) = k + 1 by omega] at hO7 ⊢))
      have hb56 : Below w5.heap.size w5 w7 := hb6.trans hb7
      obtain ⟨g7, rfl⟩ : ∃ g7, a7 = some ⟨g7, 0, none⟩ := by
        rcases hO7.block with ⟨_, e, _⟩ | ⟨g7, cur, e, _⟩
        · omega
        · exact ⟨g7, e⟩
      go_roundw
      case rel => exact ⟨k + 1, g7, c7, _, by omega, by go_num, rfl, HINS.out, (by simpa using hO7.mono (lo' := w.heap.size) (by omega)), hs5.below hb56, grown_trans hG5 (grown_of_below hb56 _)⟩
      case measure => simp [intOf]; omega
    · obtain rfl : k = n := by omega
      go_wp2
      go_ret
      exact ⟨_, _, p, rfl, HP.out, ho, hs, hG⟩
end Go.Proofs.YtaddclaadbjnlaaGreat

namespace Go.Proofs.YtaddclaadbjnlaaGreat
set_option linter.unusedVariables false
set_option linter.unusedSimpArgs false
set_option maxRecDepth 100000
open Go.RowKit
def cjI (L : List (List Int)) (x y : Nat) : Nat := L.findIdx fun r => decide (r = cjL (L.getD x []) (L.getD y []))
theorem cjI_at {L : List (List Int)} {x y : Nat} (h : cjI L x y < L.length) : L.getD (cjI L x y) [] = cjL (L.getD x []) (L.getD y []) := by
  have t : decide (L[cjI L x y] = cjL (L.getD x []) (L.getD y [])) = true := List.findIdx_getElem (p := fun r => decide (r = cjL (L.getD x []) (L.getD y []))) (xs := L) (w := h)
  rw [List.getD_eq_getElem?_getD (l := L) (i := cjI L x y), List.getElem?_eq_getElem h, Option.getD_some]
  simpa using t
theorem cjI_ne {L : List (List Int)} {x y j : Nat} (h : j < cjI L x y) : L.getD j [] ≠ cjL (L.getD x []) (L.getD y []) := by
  have hl : j < L.length := Nat.lt_of_lt_of_le h List.findIdx_le_length
  have t := List.not_of_lt_findIdx (p := fun r => decide (r = cjL (L.getD x []) (L.getD y []))) (xs := L) h
  rw [List.getD_eq_getElem?_getD (l := L) (i := j), List.getElem?_eq_getElem hl, Option.getD_some]
  simpa using t
def trL : List (List Int) := [[0, 2, 1], [1, 0, 2], [2, 1, 0]]
structure CjOk (m : Nat) (L : List (List Int)) : Prop where
  len : L.length = m
  isP : ∀ x, x < m → IsP 3 (L.getD x [])
  lt : ∀ x y, x < m → y < m → cjI L x y < m
theorem cj_of {m : Nat} {L : List (List Int)} (hl : L.length = m) (h : ((List.range m).all fun x => isPb 3 (L.getD x []) && (List.range m).all fun y => decide (cjI L x y < m)) = true) : CjOk m L := by
  refine ⟨hl, fun x hx => ?_, fun x y hx hy => ?_⟩
  · have := List.all_eq_true.1 h x (List.mem_range.2 hx)
    rw [Bool.and_eq_true] at this
    exact isPb_ok this.1
  · have := List.all_eq_true.1 h x (List.mem_range.2 hx)
    rw [Bool.and_eq_true] at this
    simpa using List.all_eq_true.1 this.2 y (List.mem_range.2 hy)
theorem cj_prm : CjOk 6 (prmL 3) := cj_of (by decide +kernel) (by decide +kernel)
theorem cj_tr : CjOk 3 trL := cj_of (by decide +kernel) (by decide +kernel)
theorem litT (w : World) (t t' : TypeId) : Tbl ((((w.alloc (.cells #[.int .i64 0, .int .i64 2, .int .i64 1] t)).alloc (.cells #[.int .i64 1, .int .i64 0, .int .i64 2] t)).alloc (.cells #[.int .i64 2, .int .i64 1, .int .i64 0] t)).alloc (.cells #[.slice (some ⟨w.heap.size, 0, none⟩) 3 3, .slice (some ⟨w.heap.size + 1, 0, none⟩) 3 3, .slice (some ⟨w.heap.size + 1 + 1, 0, none⟩) 3 3] t')) (some ⟨w.heap.size + 1 + 1 + 1, 0, none⟩) 3 trL := by
  have h1 := (((Loc.new w rfl #[.int .i64 0, .int .i64 2, .int .i64 1] t).alloc (.cells #[.int .i64 1, .int .i64 0, .int .i64 2] t)).alloc (.cells #[.int .i64 2, .int .i64 1, .int .i64 0] t)).alloc (.cells #[.slice (some ⟨w.heap.size, 0, none⟩) 3 3, .slice (some ⟨w.heap.size + 1, 0, none⟩) 3 3, .slice (some ⟨w.heap.size + 1 + 1, 0, none⟩) 3 3] t')
  have h2 := ((Loc.new (w.alloc (.cells #[.int .i64 0, .int .i64 2, .int .i64 1] t)) (b := w.heap.size + 1) (by simp) #[.int .i64 1, .int .i64 0, .int .i64 2] t).alloc (.cells #[.int .i64 2, .int .i64 1, .int .i64 0] t)).alloc (.cells #[.slice (some ⟨w.heap.size, 0, none⟩) 3 3, .slice (some ⟨w.heap.size + 1, 0, none⟩) 3 3, .slice (some ⟨w.heap.size + 1 + 1, 0, none⟩) 3 3] t')
  have h3 := (Loc.new ((w.alloc (.cells #[.int .i64 0, .int .i64 2, .int .i64 1] t)).alloc (.cells #[.int .i64 1, .int .i64 0, .int .i64 2] t)) (b := w.heap.size + 1 + 1) (by simp) #[.int .i64 2, .int .i64 1, .int .i64 0] t).alloc (.cells #[.slice (some ⟨w.heap.size, 0, none⟩) 3 3, .slice (some ⟨w.heap.size + 1, 0, none⟩) 3 3, .slice (some ⟨w.heap.size + 1 + 1, 0, none⟩) 3 3] t')
  have hh := Loc.new (((w.alloc (.cells #[.int .i64 0, .int .i64 2, .int .i64 1] t)).alloc (.cells #[.int .i64 1, .int .i64 0, .int .i64 2] t)).alloc (.cells #[.int .i64 2, .int .i64 1, .int .i64 0] t)) (b := w.heap.size + 1 + 1 + 1) (by simp) #[.slice (some ⟨w.heap.size, 0, none⟩) 3 3, .slice (some ⟨w.heap.size + 1, 0, none⟩) 3 3, .slice (some ⟨w.heap.size + 1 + 1, 0, none⟩) 3 3] t'
  refine ⟨rfl, fun i hi => ?_⟩
  match i, hi with
  | 0, _ => exact ⟨_, 0, _, 3, 3, rfl, hh.lt, hh.cell 0 rfl, row_loc h1 rfl rfl, by omega⟩
  | 1, _ => exact ⟨_, 0, _, 3, 3, rfl, hh.lt, hh.cell 1 rfl, row_loc h2 rfl rfl, by omega⟩
  | 2, _ => exact ⟨_, 0, _, 3, 3, rfl, hh.lt, hh.cell 2 rfl, row_loc h3 rfl rfl, by omega⟩
theorem cell_mark {w w' : World} {S : Nat → Prop} (hm : Marked S w w') {b o : Nat} (hb : b < w.heap.size) (hS : ¬ S b) : w'.cell? ⟨b, o, none⟩ = w.cell? ⟨b, o, none⟩ := World.cell?_of_block (hm.block b hb hS)
theorem Row.mark0 {w w' : World} {a : Option Addr} {n B0 : Nat} {xs : List Int} (h : Row w a n xs) (hm : Marked (fun g => g = B0) w w') (h0 : ∀ k, w.cell? ⟨B0, k, none⟩ = none) : Row w' a n xs :=
  ⟨h.1, fun i hi => by
    obtain ⟨b, off, h1, h3, h2⟩ := h.2 i hi
    exact ⟨b, off, h1, Nat.lt_of_lt_of_le h3 hm.size, (cell_mark hm h3 (fun e => by have e : b = B0 := e; rw [e, h0] at h2; cases h2)).trans h2⟩⟩
theorem Tbl.mark0 {w w' : World} {a : Option Addr} {n B0 : Nat} {xss : List (List Int)} (h : Tbl w a n xss) (hm : Marked (fun g => g = B0) w w') (h0 : ∀ k, w.cell? ⟨B0, k, none⟩ = none) : Tbl w' a n xss :=
  ⟨h.1, fun i hi => by
    obtain ⟨b, off, ai, ni, ci, h1, h3, h2, h4, h5⟩ := h.2 i hi
    exact ⟨b, off, ai, ni, ci, h1, Nat.lt_of_lt_of_le h3 hm.size, (cell_mark hm h3 (fun e => by have e : b = B0 := e; rw [e, h0] at h2; cases h2)).trans h2, h4.mark0 hm h0, h5⟩⟩
theorem loc_none {w : World} {b : Nat} {t : TypeId} (h : Loc w b #[] t) : ∀ k, w.cell? ⟨b, k, none⟩ = none := fun k => by
  unfold Loc at h; simp [World.cell?, h]
end Go.Proofs.YtaddclaadbjnlaaGreat
