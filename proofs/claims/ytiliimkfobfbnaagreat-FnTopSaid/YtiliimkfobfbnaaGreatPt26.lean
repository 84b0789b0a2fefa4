/-
  Walks and plain laws of this seat, some texts in one.
  No condition but bounds on lengths.
-/
import Derived.Test.YtiliimkfobfbnaaGreatPt25
import Derived.Test.YtiliimkfobfbnaaGreatPt24
import Derived.Test.YtiliimkfobfbnaaGreatPt21
import Derived.Deep.RegionHeldLaw
import Derived.Test.YtiliimkfobfbnaaGreatPt20
import Derived.Deep.DeepCutAuto
import Derived.Test.YtiliimkfobfbnaaGreatPt3
import Derived.Test.YtiliimkfobfbnaaGreatPt8
namespace Go.Proofs.YtiliimkfobfbnaaGreat
set_option maxRecDepth 100000
set_option linter.unusedVariables false
set_option linter.unusedSimpArgs false
open Go.RowKit
theorem TbS.at0 {w : World} {a : Option Addr} {n : Nat} {T : List (List Int)} (h : TbS w a 1 [T]) (hT : Sq n T) (hn : 1 ≤ n) : ∃ b o g q A O C c, a = some ⟨b, o, none⟩ ∧ w.cell? ⟨b, o, none⟩ = some (.slice (some ⟨g, q, none⟩) n c) ∧ Grid w g q A O C n T ∧ b < w.heap.size := by
  obtain ⟨b, off, ai, ni, ci, h1, h2, h3, h4, h5⟩ := h.2 0 (by omega)
  have h4 : Tbl w ai ni T := h4
  obtain rfl : ni = n := by rw [h4.len]; exact hT.1
  obtain ⟨g, q, A, O, C, rfl, hg⟩ := h4.grid hT hn
  exact ⟨b, off, g, q, A, O, C, ci, h1, h3, hg, h2⟩
set_option maxHeartbeats 8000000 in
theorem l03Fits_any (n m : Nat) (a b fa : Option Addr) (ca cb cf : Nat) (T : List (List Int)) (f : List Int) (w : World) (ha : TbS w a 1 [T]) (hb : TbS w b 1 [T]) (hT : Sq n T) (hf : Row w fa m f) (hl : Less n f) (hm : 1 ≤ m) (hmn : m ≤ n) (hn : n ≤ 12) :
    Calls Tryz.prog 157 #[.slice a 1 ca, .slice b 1 cb, .slice fa m cf] w fun e w' => e = .returned (.bool (fitF T f)) ∧ ∃ k, w' = w.drewN k := by
  have hn1 : 1 ≤ n := by omega
  obtain ⟨b1, o1, g1, q1, A1, O1, C1, c1, rfl, k1, G1, _⟩ := ha.at0 hT hn1
  obtain ⟨b2, o2, g2, q2, A2, O2, C2, c2, rfl, k2, G2, _⟩ := hb.at0 hT hn1
  have HL := Lib.hid hf.len
  have HF := Lib.hid hf
  have HLS := Lib.hid hl
  clear ha hb hl hf
  obtain ⟨p, hp⟩ : ∃ p, m = p + 1 := ⟨m - 1, by omega⟩
  have hp1 : (m : Int) - 1 = (p : Int) := by omega
  have hp2 : IntKind.i64.wrap (p : Int) = (p : Int) := IntWalk.i64_in _ ⟨by omega, by omega⟩
  have HV : Hid (∀ x y, fitV T f x y = ((decide (p < tv T x y) || (decide (x < p) && decide (y < p) && decide (tv T x y < p))) || decide (f.getD (tv T x y) 0 = ((tv T (f.getD x 0).toNat (f.getD y 0).toNat : Nat) : Int)))) := Lib.hid fun x y => by
    unfold fitV; rw [← HL.out, hp]; rfl
  have HFF : Hid (fitF T f = allN m fun x => allN m fun y => fitV T f x y) := Lib.hid (by unfold fitF; rw [← HL.out])
  have HP := Lib.hid hp
  clear hp
  obtain ⟨B, HB⟩ : ∃ B, Hid (fitF T f = B) := ⟨_, Lib.hid rfl⟩
  rw [HB.out]
  go_enter Tryz.func157, Tryz.ntmps157
  go_wp2
  go_loopw [8] (fun i wr => ∃ k : Nat, k ≤ 1 ∧ i = .int .i64 k ∧ Hid (k = 1 → fitF T f = true) ∧ ∃ m, wr = w.drewN m) (fun i _ => 1 - (intOf i).toNat)
  case atStart => exact ⟨0, Nat.zero_le _, rfl, Lib.hid (fun h => by omega), 0, rfl⟩
  case round =>
    obtain ⟨k, hk, rfl, hk1, d0, rfl⟩ := hrel
    by_cases hlt : k < 1
    · obtain rfl : k = 0 := by omega
      clear hk1 hk
      go_wp2
      go_loopw [9] (fun i wr => ∃ x : Nat, x ≤ m ∧ i = .int .i64 x ∧ Hid (allN x (fun x => allN m fun y => fitV T f x y) = true) ∧ ∃ m, wr = w.drewN m) (fun i _ => m - (intOf i).toNat)
      case atStart => exact ⟨0, Nat.zero_le _, rfl, Lib.hid rfl, d0, rfl⟩
      case round =>
        obtain ⟨x, hx, rfl, hx1, d1, rfl⟩ := hrel
        by_cases hltx : x < m
        · have i1 : (x : Int) ≤ (p : Int) := by have := HP.out; omega
          go_wp2
          go_loopw [10] (fun i wr => ∃ y : Nat, y ≤ m ∧ i = .int .i64 y ∧ Hid (allN y (fun y => fitV T f x y) = true) ∧ ∃ m, wr = w.drewN m) (fun i _ => m - (intOf i).toNat)
          case atStart => exact ⟨0, Nat.zero_le _, rfl, Lib.hid rfl, d1, rfl⟩
          case round =>
            obtain ⟨y, hy, rfl, hy1, d2, rfl⟩ := hrel
            by_cases hlty : y < m
            · have i2 : (y : Int) ≤ (p : Int) := by have := HP.out; omega
              have xn : x < n := by omega
              have yn : y < n := by omega
              obtain ⟨r1, s1⟩ := G1.look xn yn
              have hvn := hT.lt xn yn
              have hE := HV.out x y
              obtain ⟨fx, hfx, ex⟩ := HLS.out x (by have := HL.out; omega)
              obtain ⟨fy, hfy, ey⟩ := HLS.out y (by have := HL.out; omega)
              obtain ⟨r2, s2⟩ := G2.look hfx hfy
              rw [ex, ey, Int.toNat_natCast, Int.toNat_natCast] at hE
              obtain ⟨fb, fo, rfl, s3⟩ := HF.out.at x (by omega)
              obtain ⟨_, _, e4, s4⟩ := HF.out.at y (by omega)
              cases e4
              rw [ex] at s3; rw [ey] at s4
              have hfd := HF.out.drewN d2
              generalize tv T x y = V at *
              generalize tv T fx fy = Z at *
              have n1 : (0 : Int) ≤ (V : Int) := by omega
              have n2 : (0 : Int) ≤ (fx : Int) := by omega
              have n3 : (0 : Int) ≤ (fy : Int) := by omega
              have n4 : (fx : Int) < (n : Int) := by omega
              have n5 : (fy : Int) < (n : Int) := by omega
              by_cases q : (decide (p < V) || (decide (x < p) && decide (y < p) && decide (V < p))) = true
              · have HE2 : Hid (fitV T f x y = true) := Lib.hid (by rw [hE, q]; rfl)
                have q : ((decide ((V : Int) > (p : Int))) || (decide ((x : Int) < (p : Int)) && decide ((y : Int) < (p : Int)) && decide ((V : Int) < (p : Int)))) = true := by simpa using q
                clear hE
                by_cases qa : (p : Int) < (V : Int)
                · go_wp2
                  go_roundw
                  case rel => exact ⟨y + 1, by omega, by go_num, Lib.hid (allN_succ hy1.out HE2.out), _, rfl⟩
                  case measure => simp [intOf]; omega
                · have q' : ((x : Int) < (p : Int) ∧ (y : Int) < (p : Int)) ∧ (V : Int) < (p : Int) := by simpa [qa] using q
                  obtain ⟨⟨qb, qc⟩, qd⟩ := q'
                  clear q
                  go_wp2
                  go_roundw
                  case rel => exact ⟨y + 1, by omega, by go_num, Lib.hid (allN_succ hy1.out HE2.out), _, rfl⟩
                  case measure => simp [intOf]; omega
              · have qa : ¬ (p : Int) < (V : Int) := fun h => q (by simp; omega)
                have hVm : V < m := by have := HP.out; omega
                obtain ⟨_, _, e5, s5⟩ := HF.out.at V hVm
                cases e5
                obtain ⟨fv, hfv, ev⟩ := HLS.out V (by have := HL.out; omega)
                rw [ev] at s5
                have n6 : (V : Int) < (m : Int) := by omega
                have HE3 : Hid (fitV T f x y = decide ((fv : Int) = (Z : Int))) := Lib.hid (by rw [hE, ev]; simp only [Bool.not_eq_true] at q; rw [q]; rfl)
                have q' : ¬ (((x : Int) < (p : Int) ∧ (y : Int) < (p : Int)) ∧ (V : Int) < (p : Int)) := fun h => q (by simp; omega)
                have qz : (decide ((x : Int) < (p : Int)) && decide ((y : Int) < (p : Int)) && decide ((V : Int) < (p : Int))) = false := by
                  rw [Bool.eq_false_iff]; intro h; exact q' (by simpa using h)
                clear hE q ev
                by_cases qe : (fv : Int) = (Z : Int)
                · have HE2 : Hid (fitV T f x y = true) := Lib.hid (by rw [HE3.out]; simp [qe])
                  have qe' : ((fv : Int) != (Z : Int)) = false := by simpa using qe
                  clear qe
                  by_cases qb : (x : Int) < (p : Int)
                  · by_cases qc : (y : Int) < (p : Int)
                    · have qd : ¬ (V : Int) < (p : Int) := fun h => q' ⟨⟨qb, qc⟩, h⟩
                      go_wp2
                      go_quiet (fail)
                      go_wp2
                      go_roundw
                      case rel => (repeat apply Exists.intro); exact ⟨⟨y + 1, by omega, by go_num, Lib.hid (allN_succ hy1.out HE2.out), _, rfl⟩, rfl⟩
                      case measure => simp [intOf]; omega
                    · go_wp2
                      go_quiet (fail)
                      go_wp2
                      go_roundw
                      case rel => (repeat apply Exists.intro); exact ⟨⟨y + 1, by omega, by go_num, Lib.hid (allN_succ hy1.out HE2.out), _, rfl⟩, rfl⟩
                      case measure => simp [intOf]; omega
                  · go_wp2
                    go_quiet (fail)
                    go_wp2
                    go_roundw
                    case rel => (repeat apply Exists.intro); exact ⟨⟨y + 1, by omega, by go_num, Lib.hid (allN_succ hy1.out HE2.out), _, rfl⟩, rfl⟩
                    case measure => simp [intOf]; omega
                · have HNO : Hid (fitF T f = false) := Lib.hid (by
                    rw [HFF.out]; exact allN_no hltx (allN_no hlty (by rw [HE3.out]; simp [qe])))
                  have HNB : Hid (B = false) := Lib.hid (HB.out.symm.trans HNO.out)
                  have qe : ((fv : Int) != (Z : Int)) = true := by simpa using qe
                  by_cases qb : (x : Int) < (p : Int)
                  · by_cases qc : (y : Int) < (p : Int)
                    · have qd : ¬ (V : Int) < (p : Int) := fun h => q' ⟨⟨qb, qc⟩, h⟩
                      go_wp2
                      go_quiet (fail)
                      go_wp2
                      go_ret
                      exact ⟨by rw [HNB.out]; rfl, d2 + nq, World.drewN_drewN _ _ _⟩
                    · go_wp2
                      go_quiet (fail)
                      go_wp2
                      go_ret
                      exact ⟨by rw [HNB.out]; rfl, d2 + nq, World.drewN_drewN _ _ _⟩
                  · go_wp2
                    go_quiet (fail)
                    go_wp2
                    go_ret
                    exact ⟨by rw [HNB.out]; rfl, d2 + nq, World.drewN_drewN _ _ _⟩
            · obtain rfl : y = m := by omega
              have i2 : ¬ (y : Int) ≤ (p : Int) := by have := HP.out; omega
              go_wp2
              go_roundw
              case rel => exact ⟨x + 1, by omega, by go_num, Lib.hid (allN_succ hx1.out hy1.out), _, rfl⟩
              case measure => simp [intOf]; omega
        · obtain rfl : x = m := by omega
          have i1 : ¬ (x : Int) ≤ (p : Int) := by have := HP.out; omega
          go_wp2
          go_roundw
          case rel => exact ⟨1, by omega, by go_num, Lib.hid (fun _ => by rw [HFF.out]; exact hx1.out), _, rfl⟩
          case measure => simp [intOf]
    · obtain rfl : k = 1 := by omega
      have HNO : Hid (fitF T f = true) := Lib.hid (hk1.out rfl)
      go_wp2
      go_ret
      exact ⟨by rw [← HB.out, HNO.out]; rfl, _, rfl⟩
theorem ins_isP {i q : Nat} {p : List Int} (h : IsP i p) (hq : q ≤ i) : IsP (i + 1) (p.take q ++ ((i : Int) :: p.drop q)) := by
  obtain ⟨f, g, hl, h1, h2⟩ := h
  refine ⟨fun j => if j < q then f j else if j = q then i else f (j - 1), fun v => if v = i then q else if g v < q then g v else g v + 1, ?_, fun j hj => ?_, fun j hj => ?_⟩
  · simp; omega
  · refine ⟨?_, ?_, ?_, ?_⟩
    · dsimp only
      split
      · have := (h1 j (by omega)).1; omega
      · split
        · omega
        · have := (h1 (j - 1) (by omega)).1; omega
    · dsimp only
      split
      · omega
      · have := (h1 j (by omega)).2.1
        split <;> omega
    · dsimp only
      by_cases e : j = i
      · rw [if_pos e, if_neg (by omega), if_pos rfl, e]
      · rw [if_neg e]
        have h3 := h1 j (by omega)
        by_cases e2 : g j < q
        · rw [if_pos e2, if_pos e2, h3.2.2.1]
        · rw [if_neg e2, if_neg (by omega), if_neg (by omega), Nat.add_sub_cancel, h3.2.2.1]
    · dsimp only
      by_cases e : j < q
      · have h3 := h1 j (by omega)
        rw [if_pos e, if_neg (by omega), h3.2.2.2, if_pos e]
      · rw [if_neg e]
        by_cases e2 : j = q
        · rw [if_pos e2, if_pos rfl, e2]
        · have h3 := h1 (j - 1) (by omega)
          rw [if_neg e2, if_neg (by omega), h3.2.2.2, if_neg (by omega)]; omega
  · dsimp only
    by_cases e : j < q
    · rw [if_pos e, List.getD_eq_getElem?_getD, List.getElem?_append_left (by simp; omega), List.getElem?_take, if_pos e, ← List.getD_eq_getElem?_getD]
      exact h2 j (by omega)
    · rw [if_neg e, List.getD_eq_getElem?_getD, List.getElem?_append_right (by simp; omega)]
      have : (p.take q).length = q := by simp; omega
      rw [this]
      by_cases e2 : j = q
      · rw [if_pos e2, e2, Nat.sub_self]; simp
      · rw [if_neg e2]
        obtain ⟨r, hr⟩ : ∃ r, j - q = r + 1 := ⟨j - q - 1, by omega⟩
        rw [hr, List.getElem?_cons_succ, List.getElem?_drop, ← List.getD_eq_getElem?_getD]
        have : q + r = j - 1 := by omega
        rw [this]
        exact h2 (j - 1) (by omega)
theorem Row.take0 {w : World} {a : Option Addr} {n : Nat} {xs : List Int} (h : Row w a n xs) (m : Nat) (hm : m ≤ n) : Row w a m (xs.take m) := by
  refine ⟨by rw [List.length_take, ← h.len]; omega, fun i hi => ?_⟩
  obtain ⟨b, off, e1, e2, e3⟩ := h.2 i (by omega)
  refine ⟨b, off, e1, e2, ?_⟩
  rw [e3]
  simp [List.getD_eq_getElem?_getD, List.getElem?_take, hi]
theorem Row.drop0 {w : World} {g n : Nat} {xs : List Int} (h : Row w (some ⟨g, 0, none⟩) n xs) (q : Nat) (hq : q ≤ n) : Row w (some ⟨g, q, none⟩) (n - q) (xs.drop q) := by
  refine ⟨by rw [List.length_drop, h.len], fun i hi => ?_⟩
  obtain ⟨b, off, e1, e2, e3⟩ := h.2 (q + i) (by omega)
  cases e1
  refine ⟨g, q, rfl, e2, ?_⟩
  rw [Nat.zero_add] at e3
  rw [e3]
  simp [List.getD_eq_getElem?_getD]
set_option maxHeartbeats 8000000 in
theorem l03DrawPerm_ok (b n : Nat) (w : World) (h : Src w b) (hn : n ≤ 100) :
    Calls Tryz.prog 124 #[.pointer (some ⟨b, 0, none⟩), .int .i64 n] w (PrD b w n) := by
  have hlt := h.lt
  have hO := Own.fresh w rfl
  have hs0 := h.below (below_al (Below.refl w.heap.size w) (.cells #[] 2))
  have hG0 := World.grownBy_alloc w (.cells #[] 2) (some b)
  go_enter Tryz.func124, Tryz.ntmps124
  go_wp2
  go_loopw [5, 6, 7, 8] (fun z i _ _ wr => ∃ (k : Nat) (g c : Nat) (p : List Int), k ≤ n ∧ i = .int .i64 k ∧ z = .slice (some ⟨g, 0, none⟩) k c ∧ Hid (IsP k p) ∧ Own wr w.heap.size (some ⟨g, 0, none⟩) k c p ∧ Src wr b ∧ w.grownBy wr (some b)) (fun _ i _ _ _ => n - (intOf i).toNat)
  case atStart => exact ⟨0, _, 0, [], Nat.zero_le _, rfl, rfl, Lib.hid ⟨id, id, rfl, fun i hi => absurd hi (by omega), fun i hi => absurd hi (by omega)⟩, hO, hs0, hG0⟩
  case round =>
    clear hO hs0 hG0
    obtain ⟨k, g, c, p, hk, rfl, rfl, HP, ho, hs, hG⟩ := hrel
    by_cases hlt2 : k < n
    · go_wp2_with fail
      refine (l01Next_ok b ((k : Int) + 1) _ hs ⟨by omega, by omega⟩).mono ?_
      rintro e w3 ⟨x, rfl, _, hx, hs3, hg3⟩
      obtain ⟨hx1, hx2⟩ := hx (by omega)
      obtain ⟨q, rfl⟩ : ∃ q : Nat, x = q := ⟨x.toNat, by omega⟩
      have hq : q ≤ k := by omega
      clear hx hx1 hx2
      have hlo := ho.lo _ rfl
      have ho3 := ho.grown hg3 (fun g e => by have := ho.lo g e; simp; omega)
      have hG3 := grown_trans hG hg3
      have hcap := ho3.cap
      have i1 : (0 : Int) ≤ (q : Int) := by omega
      have i2 : (q : Int) ≤ (k : Int) := by omega
      have i3 : (q : Int) ≤ (c : Int) := by omega
      have i4 : (k : Int) ≤ (c : Int) := by omega
      have hrow : Row (w3.alloc (.cells #[.int .i64 k] 2)) (if c = q then some ⟨g, 0, none⟩ else some ⟨g, q, none⟩) (k - q) (p.drop q) := by
        split
        · have e0 : k - q = 0 := by omega
          have e1 : p.drop q = [] := List.drop_of_length_le (by have := ho3.len; omega)
          rw [e0, e1]; exact Row.nil _ _
        · exact (ho3.row.alloc _).drop0 q hq
      have HINS := Lib.hid (ins_isP HP.out hq)
      go_upto_region 7 with (at_builtin; refine appL rfl rfl (Own.single w3 rfl (k : Int)) rfl hrow rfl (by omega) (by simp) ?_; intro a5 c5 w5 hO5 hg5 hb5')
      have hb5 : Below w3.heap.size w3 w5 := (below_al (Below.refl w3.heap.size w3) _).trans hb5'
      have hz5 := hb5.size
      have ho5 : Own w5 w.heap.size (some ⟨g, 0, none⟩) k c p := ho3.below hb5
      have hs5 := hs3.below hb5
      have hG5 := grown_trans hG3 (grown_of_below hb5 (some b))
      have htk := ((ho5.row).take0 q hq).alloc (.cells #[] 2)
      have hw3s : w.heap.size ≤ w3.heap.size := Nat.le_of_lt (Nat.lt_of_le_of_lt hlo (ho3.hi _ rfl))
      go_wp2_with (first
        | (at_builtin; refine appL rfl rfl (Own.fresh w5 rfl) rfl htk rfl (by omega) (by simp) ?_; intro a6 c6 w6 hO6 hg6 hb6'; have hb6 : Below w5.heap.size w5 w6 := (below_al (Below.refl w5.heap.size w5) _).trans hb6'; rw [Nat.zero_add] at hO6 ⊢; have hO5' := hO5.below hb6)
        | (at_builtin; refine appL rfl rfl hO6 rfl hO5'.row rfl (by omega) hb6.size ?_; intro a7 c7 w7 hO7 hg7 hb7; rw [show q + (1 + (k - q)) = k + 1 by omega] at hO7 ⊢))
      have hb56 : Below w5.heap.size w5 w7 := hb6.trans hb7
      obtain ⟨g7, rfl⟩ : ∃ g7, a7 = some ⟨g7, 0, none⟩ := by
        rcases hO7.block with ⟨_, e, _⟩ | ⟨g7, cur, e, _⟩
        · omega
        · exact ⟨g7, e⟩
      go_roundw
      case rel => exact ⟨k + 1, g7, c7, _, by omega, by go_num, rfl, HINS.out, (by simpa using hO7.mono (lo' := w.heap.size) (by omega)), hs5.below hb56, grown_trans hG5 (grown_of_below hb56 _)⟩
      case measure => simp [intOf]; omega
    · obtain rfl : k = n := by omega
      go_wp2
      go_ret
      exact ⟨_, _, p, rfl, HP.out, ho, hs, hG⟩
def ringV (n q x y : Nat) : Nat := (x + y + q * x * y) % n
set_option maxHeartbeats 8000000 in
theorem l11Ring_any (n q : Nat) (w : World) (h1 : 1 ≤ n) (hn : n ≤ 12) (hq : q ≤ 12) :
    Calls Tryz.prog 120 #[.int .i64 n, .int .i64 q] w fun e w' => ∃ a1 c1 vs a1' c1' vs', e = .returned (sAgg a1 n c1 a1' n c1') ∧ OwnS w' w.heap.size a1 n c1 vs (tabF n fun x y => ((cycV n x y : Nat) : Int)) a1' n c1' vs' (tabF n fun x y => ((ringV n q x y : Nat) : Int)) ∧ Below w.heap.size w w' := by
  obtain ⟨U, HU⟩ : ∃ U : Nat → Nat → Int, Hid ((fun x y => ((ringV n q x y : Nat) : Int)) = U) := ⟨_, Lib.hid rfl⟩
  obtain ⟨T, HT⟩ : ∃ T, Hid ((tabF n fun x y => ((cycV n x y : Nat) : Int)) = T) := ⟨_, Lib.hid rfl⟩
  have HCY := Lib.hid (fun (w : World) => l10Cyclic_any n w h1 hn)
  have hcy := HCY.out
  rw [HT.out] at hcy
  rw [HU.out, HT.out]
  clear HCY
  have HCY := Lib.hid hcy
  clear hcy
  have hm00 : ¬ n = 0 := by omega
  have hR := Loc.new w rfl #[.slice none 0 0, .slice none 0 0] 26
  have hB0 := below_al (Below.refl w.heap.size w) (.cells #[.slice none 0 0, .slice none 0 0] 26)
  go_enter Tryz.func120, Tryz.ntmps120
  go_wp2_with fail
  refine (HCY.out _).mono ?_
  rintro e w1 ⟨aF, cF, vF, rfl, hoF, hb1⟩
  have hR1 := hR.below hb1 hR.lt
  have hB1 := below_th hB0 hb1
  have hFhi := hoF.uHi
  have hFlo := hoF.uLo
  rw [size_alloc] at hFlo
  obtain ⟨w2, hw2⟩ : ∃ w2, w1.alloc (.cells #[.slice aF n cF, .slice none 0 0] 26) = w2 := ⟨_, rfl⟩
  have hO2 : Loc w2 w1.heap.size #[.slice aF n cF, .slice none 0 0] 26 := by rw [← hw2]; exact Loc.new w1 rfl _ _
  have hb2 : Below w1.heap.size w1 w2 := by rw [← hw2]; exact below_al (Below.refl _ _) _
  have hR2 := hR1.below hb2 hR1.lt
  have hF2 := (hoF.mono (lo' := w.heap.size + 1) (by rw [size_alloc]; exact Nat.le_refl _)).below hb2
  have hB2 := below_th hB1 hb2
  have hz2 : w2.heap.size = w1.heap.size + 1 := by rw [← hw2]; simp
  have HZ2 := Lib.hid hz2
  have hR1l := hR1.lt
  have HW2 := Lib.hid hw2
  clear hw2 hz2 hoF hR hR1 hB0 hB1
  go_wp2
  try rw [HW2.out]
  go_loopw [6, 7, 8] (fun i _ _ wr => ∃ (k : Nat) (ay : Option Addr) (cy : Nat) (vy : List SV), k ≤ n ∧ i = .int .i64 k ∧ Loc wr w1.heap.size #[.slice aF n cF, .slice ay k cy] 26 ∧ Loc wr w.heap.size #[.slice none 0 0, .slice none 0 0] 26 ∧ OwnT wr (w.heap.size + 1) aF n cF vF T ∧ OwnT wr w2.heap.size ay k cy vy ((tabF n U).take k) ∧ Below w.heap.size w wr) (fun i _ _ _ => n - (intOf i).toNat)
  case atStart => exact ⟨0, none, 0, [], Nat.zero_le _, rfl, hO2, hR2, hF2, by simpa using OwnT.nil _ _, hB2⟩
  case round =>
    clear hO2 hR2 hF2 hB2
    obtain ⟨k, ay, cy, vy, hk, rfl, hO, hR, hF, hy, hB⟩ := hrel
    obtain ⟨G, rfl⟩ : ∃ G : World, G = wr := ⟨_, rfl⟩
    have hz2 := HZ2.out
    have hOlt := hO.lt
    by_cases hlt : k < n
    · have hE := Own.fresh G rfl
      have hqe := below_al (Below.refl G.heap.size G) (.cells #[] 2)
      have HRU := Lib.hid (tabF_succ U hlt)
      go_wp2
      go_loopw [7, 8] (fun z i wq => ∃ (j : Nat) (ar : Option Addr) (cr : Nat), j ≤ n ∧ i = .int .i64 j ∧ z = .slice ar j cr ∧ Own wq G.heap.size ar j cr ((List.range j).map fun y => U k y) ∧ Below G.heap.size G wq) (fun _ i _ => n - (intOf i).toNat)
      case atStart => exact ⟨0, _, 0, Nat.zero_le _, rfl, rfl, by simpa using hE, hqe⟩
      case round =>
        clear hE hqe
        obtain ⟨j, ar, cr, hj, rfl, rfl, hor, hqr⟩ := hrel
        obtain ⟨W, rfl⟩ : ∃ W : World, W = wr := ⟨_, rfl⟩
        have hwq := hqr.size
        by_cases hjt : j < n
        · obtain ⟨A1, hA1⟩ : ∃ A1, q * k = A1 := ⟨_, rfl⟩
          obtain ⟨A2, hA2⟩ : ∃ A2, A1 * j = A2 := ⟨_, rfl⟩
          have b1 : A1 ≤ 144 := by rw [← hA1]; exact Nat.mul_le_mul hq (show k ≤ 12 by omega)
          have b2 : A2 ≤ 1728 := by rw [← hA2]; exact Nat.mul_le_mul b1 (show j ≤ 12 by omega)
          obtain ⟨X, hX⟩ : ∃ X, (k + j + A2) % n = X := ⟨_, rfl⟩
          have hXn : X < n := by rw [← hX]; exact Nat.mod_lt _ (by omega)
          have HU1 : Hid (((List.range (j + 1)).map fun y => U k y) = ((List.range j).map fun y => U k y) ++ [(X : Int)]) := Lib.hid (by
            rw [show (X : Int) = U k j by rw [← HU.out, ← hX, ← hA2, ← hA1]; rfl]; simp [List.range_succ])
          have e1 : (q : Int) * (k : Int) = (A1 : Int) := by rw [← hA1]; exact (Int.natCast_mul q k).symm
          have e2 : (A1 : Int) * (j : Int) = (A2 : Int) := by rw [← hA2]; exact (Int.natCast_mul A1 j).symm
          have htm : Int.tmod ((k : Int) + (j : Int) + (A2 : Int)) (n : Int) = (X : Int) := by
            rw [← hX, show ((k : Int) + (j : Int) + (A2 : Int)) = ((k + j + A2 : Nat) : Int) by omega]; rfl
          have HY : Hid (IntKind.i64.wrap ((k : Int) + (j : Int)) = (k : Int) + (j : Int) ∧ IntKind.i64.wrap (A1 : Int) = A1 ∧ IntKind.i64.wrap (A2 : Int) = A2 ∧ IntKind.i64.wrap ((k : Int) + (j : Int) + (A2 : Int)) = (k : Int) + (j : Int) + (A2 : Int) ∧ IntKind.i64.wrap (X : Int) = X) := Lib.hid ⟨IntWalk.i64_in _ ⟨by omega, by omega⟩, IntWalk.i64_in _ ⟨by omega, by omega⟩, IntWalk.i64_in _ ⟨by omega, by omega⟩, IntWalk.i64_in _ ⟨by omega, by omega⟩, IntWalk.i64_in _ ⟨by omega, by omega⟩⟩
          have hj12 : j + 1 ≤ 1000000000000 := by omega
          clear hA1 hA2 hX hz2
          obtain ⟨y1, y2, y3, y4, y5⟩ := HY.out
          go_wp2_with (at_builtin; refine app1 rfl rfl hor rfl rfl hj12 hwq ?_; intro g' cc w8 hO8 hg8 hs8 hb8)
          clear y1 y2 y3 y4 y5
          go_roundw
          case rel => exact ⟨j + 1, _, _, by omega, by go_num, rfl, by rw [HU1.out]; exact hO8, hqr.trans hb8⟩
          case measure => simp [intOf]; omega
        · obtain rfl : n = j := by omega
          have hO3 := hO.below hqr hO.lt
          have hR3 := hR.below hqr hR.lt
          have hF3 := hF.below hqr
          have lO := hO3.two
          have hy3 := hy.below hqr
          have hyhi := hy.uHi
          have hylo := hy.uLo
          have hrlo := hor.lo
          have hBs := hB.size
          have hB3 := hB.trans (hqr.mono hBs)
          go_wp2_with (at_builtin; refine appT1g rfl rfl hy3 rfl (hor.mono (by omega)) (fun g h1 h2 => by have h3 := hyhi _ (.inl h1); have h4 := hrlo _ h2; omega) (fun i hi g h1 h2 => by have h3 := hrlo _ h1; have h4 := hyhi _ (.inr ⟨i, hi, h2⟩); omega) rfl (by omega) (by omega) ?_; intro g6 cc6 w6 hOT6 hg6 hat6 hb6; have hO6 := hO3.below hb6 (by omega); have lO6 := hO6.two)
          have hF6 := hF3.keep (w' := w6) (fun q hq hl => hb6.block q (by have := hFhi q hq; omega))
          have hR6 := hR3.below hb6 (by omega)
          have hB6 := hB3.trans (hb6.mono (by omega))
          have hO7 := hO6.set 1 (.slice (some ⟨g6, 0, none⟩) (k + 1) cc6)
          go_roundw
          case rel => exact ⟨k + 1, _, _, _, by omega, by go_num, hO7, hR6.setne (a := ⟨w1.heap.size, 1, none⟩) (by show w.heap.size ≠ w1.heap.size; omega) _, hF6.keep (fun q hq hl => Below.heap_setCell _ _ _ _ (by have := hFhi q hq; show q ≠ w1.heap.size; omega)), by rw [HRU.out]; exact hOT6.setlo (by show w1.heap.size < w2.heap.size; omega) _, below_setne (a := ⟨w1.heap.size, 1, none⟩) hB6 (by show w.heap.size ≤ w1.heap.size; omega) _⟩
          case measure => simp [intOf]; omega
    · obtain rfl : n = k := by omega
      rw [List.take_of_length_le (by rw [tabF_len]; exact Nat.le_refl _)] at hy
      have lO := hO.two
      have lR := hR.two
      have hylo := hy.uLo
      go_wp2
      refine bodyPost_ret (v := sAgg aF n cF ay n cy) (by simp [results, Tryz.results120, go_sem, lR, lO]) rfl ⟨aF, cF, vF, ay, cy, vy, rfl, ⟨?_, ?_, fun q e1 e2 => by have := hFhi q e1; have := hylo q e2; omega⟩, ?_⟩
      · exact ((hF.setlo (by show w.heap.size < w.heap.size + 1; omega) _).setlo (by show w.heap.size < w.heap.size + 1; omega) _).mono (by omega)
      · exact ((hy.setlo (by show w.heap.size < w2.heap.size; omega) _).setlo (by show w.heap.size < w2.heap.size; omega) _).mono (by omega)
      · exact below_setne (below_setne hB (by show w.heap.size ≤ w.heap.size; omega) _) (by show w.heap.size ≤ w.heap.size; omega) _
end Go.Proofs.YtiliimkfobfbnaaGreat
