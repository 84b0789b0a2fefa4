/-
  Walks and plain laws of this seat, some texts in one.
  No condition but bounds on lengths.
-/
import Derived.Test.YtiliimkfobfbnaaGreatPt26
import Derived.Test.YtiliimkfobfbnaaGreatPt3
import Derived.Test.YtiliimkfobfbnaaGreatPt18
import Derived.Deep.DeepCutAuto
namespace Go.Proofs.YtiliimkfobfbnaaGreat
set_option maxRecDepth 100000
set_option linter.unusedVariables false
set_option linter.unusedSimpArgs false
open Go.RowKit
theorem Own.one (w : World) {b : Nat} (hb : b = w.heap.size) (y : Int) : Own (w.alloc (.cells #[.int .i64 y] 2)) w.heap.size (some ⟨b, 0, none⟩) 1 1 [y] :=
  Own.mk rfl (by omega) (Loc.new _ hb _ _) (Nat.le_refl _) (by unfold maxLen; omega) rfl rfl
theorem Own.cast {w : World} {lo : Nat} {a : Option Addr} {n c : Nat} {xs ys : List Int} (h : Own w lo a n c xs) (e : ys = xs) : Own w lo a n c ys := by rw [e]; exact h
theorem rng_snoc {α : Type} (f : Nat → α) (k : Nat) : (List.range (k + 1)).map f = (List.range k).map f ++ [f k] := by simp [List.range_succ]
theorem swp_eq (X Y : List Int) (a v : Int) {j : Nat} (h : X.length + 1 = j) : ((X ++ a :: v :: Y).set j a).set (j - 1) v = X ++ v :: a :: Y := by
  subst h
  induction X with
  | nil => rfl
  | cons x X ih => simp
theorem swp_at (X Y : List Int) (a v : Int) {j : Nat} (h : X.length + 1 = j) : (X ++ a :: v :: Y).getD j 0 = v ∧ (X ++ a :: v :: Y).getD (j - 1) 0 = a := by
  subst h
  simp [List.getD_eq_getElem?_getD, List.getElem?_append_right]
theorem cnt_at {L : List Int} {y m : Nat} (v : Int) (hL : L.length = y) : (L ++ v :: List.replicate m 0).getD y 0 = v ∧ ∀ u, (L ++ v :: List.replicate m 0).set y u = L ++ u :: List.replicate m 0 := by
  subst hL
  refine ⟨by simp [List.getD_eq_getElem?_getD], fun u => by simp⟩
theorem cntV_le (T : List (List Int)) (x y : Nat) : ∀ k, cntV T x y k ≤ k := by
  intro k; induction k with
  | zero => exact Nat.le_refl _
  | succ k ih => unfold cntV; split <;> omega
theorem srtR_len : ∀ (l s : List Int), (srtR s l).length = s.length + l.length := by
  have hi : ∀ (v : Int) (s : List Int), (insR v s).length = s.length + 1 := by
    intro v s; induction s with
    | nil => rfl
    | cons y s ih => unfold insR; split <;> simp [ih]
  intro l; induction l with
  | nil => intro s; rfl
  | cons x l ih => intro s; unfold srtR; rw [ih, hi]; simp; omega
theorem srtR_snoc : ∀ (l s : List Int) (x : Int), srtR s (l ++ [x]) = insR x (srtR s l) := by
  intro l; induction l with
  | nil => intro s x; rfl
  | cons y l ih => intro s x; simp only [List.cons_append, srtR]; exact ih _ _
def Bub (R : List Int) (v : Int) (rest cur : List Int) (j : Nat) : Prop := ∃ P Q : List Int, R = Q ++ P ∧ insR v R = Q ++ insR v P ∧ cur = P.reverse ++ v :: (Q.reverse ++ rest) ∧ P.length = j
theorem Bub.start {R rest : List Int} {v : Int} {j : Nat} (h : R.length = j) : Bub R v rest (R.reverse ++ v :: rest) j := ⟨R, [], rfl, rfl, by simp, h⟩
theorem Bub.zero {R rest cur : List Int} {v : Int} (h : Bub R v rest cur 0) : cur = (insR v R).reverse ++ rest := by
  obtain ⟨P, Q, h1, h2, h3, h4⟩ := h
  obtain rfl : P = [] := List.eq_nil_of_length_eq_zero h4
  rw [h2, h3]; simp [insR]
theorem Bub.at {R rest cur : List Int} {v : Int} {j : Nat} (h : Bub R v rest cur j) (hj : 1 ≤ j) : ∃ a, cur.getD j 0 = v ∧ cur.getD (j - 1) 0 = a ∧ (v < a → Bub R v rest ((cur.set j a).set (j - 1) v) (j - 1)) ∧ (¬ v < a → cur = (insR v R).reverse ++ rest) := by
  obtain ⟨P, Q, h1, h2, h3, h4⟩ := h
  cases P with
  | nil => simp at h4; omega
  | cons a P =>
    have hl : P.reverse.length + 1 = j := by simpa using h4
    have e : cur = P.reverse ++ a :: v :: (Q.reverse ++ rest) := by rw [h3]; simp
    refine ⟨a, ?_, ?_, fun hv => ⟨P, Q ++ [a], by simp [h1], ?_, ?_, by simp at h4; omega⟩, fun hv => ?_⟩
    · rw [e]; exact (swp_at _ _ _ _ hl).1
    · rw [e]; exact (swp_at _ _ _ _ hl).2
    · rw [h2]; simp [insR, hv]
    · rw [e, swp_eq _ _ _ _ hl]; simp
    · rw [h2, e]; simp [insR, hv]
theorem Bub.len {R rest cur : List Int} {v : Int} {j : Nat} (h : Bub R v rest cur j) : cur.length = R.length + 1 + rest.length ∧ j ≤ R.length := by
  obtain ⟨P, Q, h1, h2, h3, h4⟩ := h
  subst h1 h3
  simp; omega
theorem step_app1hd {ops : Array Oper} {o : Oper} {a : Act} {K : Act → World → Prop} {Q : Exit → Act → World → Prop} {E : Prop} {w : World} (hgd : o.guard = none) {s x : Operand}
    (ho : o.op = .call { callee := .builtin .append, args := #[s, x], argTypes := #[50, 50] }) {lo : Nat} {ad : Option Addr} {n c : Nat} {xs : List Int} (hown : Own w lo ad n c xs) (hs : a.eval s = .slice ad n c)
    {y : Int} {t : TypeId} (hx : a.eval x = .slice (some ⟨w.heap.size, 0, none⟩) 1 1) (hlen : n + 1 ≤ 1000000000000) (hlo : lo ≤ w.heap.size)
    (h : ∀ g c' w', Own w' lo (some ⟨g, 0, none⟩) (n + 1) c' (xs ++ [y]) → w.drew.grownBy w' (Value.slice ad n c).ownBlock → ((Value.slice ad n c).ownBlock = some g ∨ w.heap.size ≤ g) → Below lo w.drew w' → K (a.put o.dst (.slice (some ⟨g, 0, none⟩) (n + 1) c')) w') :
    if Region.wanted o (yielded ops a.tmps) = true then Oper.wp Tryz.prog o a (w.alloc (.cells #[.int .i64 y] t)).drew K Q else E :=
  step_app1hn (w := w.drew) hgd ho hown.drew hs hx hlen hlo h
theorem mk1_own (T : List (List Int)) (c : List Int) (x y : Nat) : mk1 T c x y = ((c.getD y 0 * 64 + c.getD (tv T x y) 0) * 64 + c.getD (tv T y x) 0) * 16 + ownV T x y := rfl
set_option maxHeartbeats 16000000 in
theorem l03Mark_any (n x : Nat) (a ac : Option Addr) (c1 c2 : Nat) (T : List (List Int)) (c : List Int) (w : World) (ha : TbS w a 1 [T]) (hT : Sq n T) (hc : Row w ac n c) (hl : Less 61 c) (hx : x < n) (hn : n ≤ 12) :
    Calls Tryz.prog 160 #[.slice a 1 c1, .slice ac n c2, .int .i64 x] w fun e w' => ∃ a' c', e = .returned (.slice a' (2 * n + 1) c') ∧ Own w' w.heap.size a' (2 * n + 1) c' (mrkF T n c x) ∧ Below w.heap.size w w' := by
  have hn1 : 1 ≤ n := by omega
  obtain ⟨b1, o1, g1, q1, A1, O1, C1, d1, rfl, k1, G1, kb1⟩ := ha.at0 hT hn1
  have HC : Hid (∀ y, y < n → ∃ v : Nat, v < 61 ∧ c.getD y 0 = (v : Int)) := Lib.hid fun y hy => hl y (by have := hc.len; omega)
  obtain ⟨cb, co, rfl, kcb, kx⟩ := hc.2 x hx
  have HRW := Lib.hid hc
  obtain ⟨M, HM⟩ : ∃ M, Hid (mrkF T n c x = M) := ⟨_, Lib.hid rfl⟩
  rw [HM.out]
  obtain ⟨N2, HN2⟩ : ∃ N, Hid (2 * n + 1 = N) := ⟨_, Lib.hid rfl⟩
  rw [HN2.out]
  clear ha hl hc
  obtain ⟨X0, hX0⟩ : ∃ X0, c.getD x 0 = X0 := ⟨_, rfl⟩
  rw [hX0] at kx
  have HX0 := Lib.hid hX0
  clear hX0
  go_enter Tryz.func160, Tryz.ntmps160
  go_upto_region 1 with fail
  go_cut [7, 8] (fun s7 s8 wx => s7 = .int .i64 n ∧ s8 = .slice (some ⟨w.heap.size, 0, none⟩) 1 1 ∧ Own wx w.heap.size (some ⟨w.heap.size, 0, none⟩) 1 1 [X0] ∧ Below w.heap.size w wx)
  case first =>
    have kx2 : (w.alloc (.cells #[.int .i64 X0] 2)).cell? ⟨cb, co + x, none⟩ = some (.int .i64 X0) := ((below_al (Below.refl w.heap.size w) _).cell (p := ⟨cb, co + x, none⟩) kcb).trans kx
    go_region
    all_goals (go_wp2_with fail; go_meet; exact ⟨rfl, rfl, (Own.one w rfl X0).drewN 1, below_drewN (below_al (Below.refl _ _) _) 1⟩)
  case rest =>

    obtain ⟨rfl, rfl, hoz, hbz⟩ := hcut
    obtain ⟨w1, rfl⟩ : ∃ w1 : World, w1 = wc := ⟨_, rfl⟩
    have hs1 := hbz.size
    go_wp2
    go_loopw [8, 9] (fun z i wr => ∃ (k m : Nat) (az : Option Addr) (cz : Nat) (xs : List Int), k ≤ 1 ∧ i = .int .i64 k ∧ z = .slice az m cz ∧ Own wr w.heap.size az m cz xs ∧ Hid ((k = 0 → m = 1 ∧ xs = [X0]) ∧ (k = 1 → m = N2 ∧ xs = M)) ∧ Below w.heap.size w wr) (fun _ i _ => 1 - (intOf i).toNat)
    case atStart => exact ⟨0, 1, _, _, [X0], Nat.zero_le _, rfl, rfl, hoz, Lib.hid ⟨fun _ => ⟨rfl, rfl⟩, fun h => by omega⟩, hbz⟩
    case round =>
      clear hoz hbz hs1
      obtain ⟨k, m0, az, cz, xs, hk, rfl, rfl, hoz, HKM, hbz⟩ := hrel
      obtain ⟨U, rfl⟩ : ∃ U : World, U = wr := ⟨_, rfl⟩
      by_cases hlt : k < 1
      · obtain rfl : k = 0 := by omega
        obtain ⟨rfl, rfl⟩ := HKM.out.1 rfl
        clear HKM
        have hE := Own.fresh U rfl
        have hqe := below_al (Below.refl U.heap.size U) (.cells #[] 2)
        have hUs := hbz.size
        go_wp2
        go_loopw [10, 11] (fun z i wq => ∃ (j : Nat) (ar : Option Addr) (cr : Nat), j ≤ n ∧ i = .int .i64 j ∧ z = .slice ar j cr ∧ Own wq U.heap.size ar j cr ((List.range j).map fun y => mk1 T c x y) ∧ Below U.heap.size U wq) (fun _ i _ => n - (intOf i).toNat)
        case atStart => exact ⟨0, _, 0, Nat.zero_le _, rfl, rfl, by simpa using hE, hqe⟩
        case round =>
          clear hE hqe
          obtain ⟨j, ar, cr, hj, rfl, rfl, hor, hqr⟩ := hrel
          obtain ⟨V, rfl⟩ : ∃ V : World, V = wr := ⟨_, rfl⟩
          have hVs := hqr.size
          have hBV := hbz.trans (hqr.mono hUs)
          by_cases hlt : j < n
          · have GV := G1.below hBV
            have kV := (hBV.cell (p := ⟨b1, o1, none⟩) kb1).trans k1
            obtain ⟨r1, s1⟩ := GV.look hx hlt
            obtain ⟨r2, s2⟩ := GV.look hlt hx
            have hu := hT.lt hx hlt
            have hv := hT.lt hlt hx
            obtain ⟨y1, hy1, e1⟩ := HC.out j hlt
            have HOW : Hid (ownV T x j = bitI (tv T x j = j) 1 + bitI (tv T j x = j) 2 + bitI (tv T x j = x) 4 + bitI (tv T j x = x) 8) := Lib.hid rfl
            have HSN := Lib.hid (rng_snoc (fun y => mk1 T c x y) j)
            have HM1 := Lib.hid (mk1_own T c x j)
            generalize tv T x j = u at *
            generalize tv T j x = v at *
            obtain ⟨y2, hy2, e2⟩ := HC.out u hu
            obtain ⟨y3, hy3, e3⟩ := HC.out v hv
            have RV := HRW.out.below hBV
            obtain ⟨_, _, e4, s3⟩ := RV.at j hlt
            cases e4
            obtain ⟨_, _, e4, s4⟩ := RV.at u hu
            cases e4
            obtain ⟨_, _, e4, s5⟩ := RV.at v hv
            cases e4
            rw [e1] at s3; rw [e2] at s4; rw [e3] at s5
            rw [e1, e2, e3] at HM1
            have n0 : (0 : Int) ≤ (j : Int) := by omega
            have n0' : (j : Int) < (n : Int) := by omega
            have n1 : (0 : Int) ≤ (u : Int) := by omega
            have n2 : (u : Int) < (n : Int) := by omega
            have n3 : (0 : Int) ≤ (v : Int) := by omega
            have n4 : (v : Int) < (n : Int) := by omega
            have n5 : (0 : Int) ≤ (x : Int) := by omega
            have n6 : (x : Int) < (n : Int) := by omega
            obtain ⟨A5, hA5⟩ : ∃ A5 : Nat, ((y1 * 64 + y2) * 64 + y3) * 16 = A5 := ⟨_, rfl⟩
            have HA5 : Hid (((((y1 : Int) * 64 + y2) * 64 + y3) * 16) = (A5 : Int)) := Lib.hid (by omega)
            have hA5b : A5 ≤ 4000000 := by omega
            rw [HA5.out] at HM1
            have HY : Hid (IntKind.i64.wrap ((y1 : Int) * 64) = (y1 : Int) * 64 ∧ IntKind.i64.wrap ((y1 : Int) * 64 + y2) = (y1 : Int) * 64 + y2 ∧ IntKind.i64.wrap (((y1 : Int) * 64 + y2) * 64) = ((y1 : Int) * 64 + y2) * 64 ∧ IntKind.i64.wrap (((y1 : Int) * 64 + y2) * 64 + y3) = ((y1 : Int) * 64 + y2) * 64 + y3 ∧ IntKind.i64.wrap ((((y1 : Int) * 64 + y2) * 64 + y3) * 16) = (((y1 : Int) * 64 + y2) * 64 + y3) * 16) := Lib.hid ⟨IntWalk.i64_in _ ⟨by omega, by omega⟩, IntWalk.i64_in _ ⟨by omega, by omega⟩, IntWalk.i64_in _ ⟨by omega, by omega⟩, IntWalk.i64_in _ ⟨by omega, by omega⟩, IntWalk.i64_in _ ⟨by omega, by omega⟩⟩
            clear hA5 e1 e2 e3 GV
            go_wp2
            go_quiet (fail)
            go_upto_if 63 with fail
            go_cut [14] (fun s wx => s = .int .i64 (bitI (u = j) 1) ∧ ∃ m, wx = V.drewN m)
            case first =>
              by_cases p : u = j
              · have q : ((u : Int) == (j : Int)) = true := beq_iff_eq.2 (by omega)
                have e : bitI (u = j) 1 = 1 := if_pos p
                have e := Lib.hid e; clear p
                go_wp2; go_meet; exact ⟨by rw [e.out], _, rfl⟩
              · have q : ((u : Int) == (j : Int)) = false := by rw [beq_eq_false_iff_ne]; omega
                have e : bitI (u = j) 1 = 0 := if_neg p
                have e := Lib.hid e; clear p
                go_wp2; go_meet; exact ⟨by rw [e.out], _, rfl⟩
            case rest =>
            obtain ⟨rfl, m0, rfl⟩ := hcut
            obtain ⟨B1, hB1⟩ : ∃ B : Int, bitI (u = j) 1 = B := ⟨_, rfl⟩
            have l1 : 0 ≤ B1 ∧ B1 ≤ 1 := by rw [← hB1]; unfold bitI; split <;> omega
            rw [hB1]
            have HB1 := Lib.hid hB1; clear hB1
            go_upto_if 66 with fail
            go_cut [14] (fun s wx => s = .int .i64 (B1 + bitI (v = j) 2) ∧ ∃ m, wx = V.drewN m)
            case first =>
              by_cases p : v = j
              · have q : ((v : Int) == (j : Int)) = true := beq_iff_eq.2 (by omega)
                have e : bitI (v = j) 2 = 2 := if_pos p
                have e := Lib.hid e; clear p
                go_wp2; go_meet; exact ⟨by rw [e.out], _, rfl⟩
              · have q : ((v : Int) == (j : Int)) = false := by rw [beq_eq_false_iff_ne]; omega
                have e : bitI (v = j) 2 = 0 := if_neg p
                have e := Lib.hid e; clear p
                go_wp2; go_meet; exact ⟨by rw [e.out, Int.add_zero], _, rfl⟩
            case rest =>
            obtain ⟨rfl, m1, rfl⟩ := hcut
            obtain ⟨B2, hB2⟩ : ∃ B : Int, B1 + bitI (v = j) 2 = B := ⟨_, rfl⟩
            have l2 : 0 ≤ B2 ∧ B2 ≤ 3 := by rw [← hB2]; unfold bitI; split <;> omega
            rw [hB2]
            have HB2 := Lib.hid hB2; clear hB2
            go_upto_if 71 with fail
            go_cut [14] (fun s wx => s = .int .i64 (B2 + bitI (u = x) 4) ∧ ∃ m, wx = V.drewN m)
            case first =>
              by_cases p : u = x
              · have q : ((u : Int) == (x : Int)) = true := beq_iff_eq.2 (by omega)
                have e : bitI (u = x) 4 = 4 := if_pos p
                have e := Lib.hid e; clear p
                go_wp2; go_meet; exact ⟨by rw [e.out], _, rfl⟩
              · have q : ((u : Int) == (x : Int)) = false := by rw [beq_eq_false_iff_ne]; omega
                have e : bitI (u = x) 4 = 0 := if_neg p
                have e := Lib.hid e; clear p
                go_wp2; go_meet; exact ⟨by rw [e.out, Int.add_zero], _, rfl⟩
            case rest =>
            obtain ⟨rfl, m2, rfl⟩ := hcut
            obtain ⟨B3, hB3⟩ : ∃ B : Int, B2 + bitI (u = x) 4 = B := ⟨_, rfl⟩
            have l3 : 0 ≤ B3 ∧ B3 ≤ 7 := by rw [← hB3]; unfold bitI; split <;> omega
            rw [hB3]
            have HB3 := Lib.hid hB3; clear hB3
            go_upto_if 76 with fail
            go_cut [14] (fun s wx => s = .int .i64 (B3 + bitI (v = x) 8) ∧ ∃ m, wx = V.drewN m)
            case first =>
              by_cases p : v = x
              · have q : ((v : Int) == (x : Int)) = true := beq_iff_eq.2 (by omega)
                have e : bitI (v = x) 8 = 8 := if_pos p
                have e := Lib.hid e; clear p
                go_wp2; go_meet; exact ⟨by rw [e.out], _, rfl⟩
              · have q : ((v : Int) == (x : Int)) = false := by rw [beq_eq_false_iff_ne]; omega
                have e : bitI (v = x) 8 = 0 := if_neg p
                have e := Lib.hid e; clear p
                go_wp2; go_meet; exact ⟨by rw [e.out, Int.add_zero], _, rfl⟩
            case rest =>
            obtain ⟨rfl, m3, rfl⟩ := hcut
            obtain ⟨B4, hB4⟩ : ∃ B : Int, B3 + bitI (v = x) 8 = B := ⟨_, rfl⟩
            have l4 : 0 ≤ B4 ∧ B4 ≤ 15 := by rw [← hB4]; unfold bitI; split <;> omega
            rw [hB4]
            have HB4 := Lib.hid hB4; clear hB4
            have HV : Hid (mk1 T c x j = (A5 : Int) + B4) := Lib.hid (by rw [HM1.out, HOW.out, HB1.out, HB2.out, HB3.out, HB4.out])
            clear HM1 HOW
            have hz : IntKind.i64.wrap ((A5 : Int) + B4) = (A5 : Int) + B4 := IntWalk.i64_in _ ⟨by omega, by omega⟩
            have hj12 : j + 1 ≤ 1000000000000 := by omega
            have HZ5 : Hid (IntKind.i64.wrap (A5 : Int) = (A5 : Int)) := Lib.hid (IntWalk.i64_in _ ⟨by omega, by omega⟩)
            have HZ := Lib.hid hz
            clear hz
            have hor := hor.drewN m3
            have s3 : (V.drewN m3).cell? ⟨cb, co + j, none⟩ = some (.int .i64 (y1 : Int)) := s3
            have s4 : (V.drewN m3).cell? ⟨cb, co + u, none⟩ = some (.int .i64 (y2 : Int)) := s4
            have s5 : (V.drewN m3).cell? ⟨cb, co + v, none⟩ = some (.int .i64 (y3 : Int)) := s5
            have hqr := below_drewN hqr m3
            have hVs : U.heap.size ≤ (V.drewN m3).heap.size := hVs
            have hBV := below_drewN hBV m3
            have RV := RV.drewN m3
            clear r1 r2 s1 s2 kV
            generalize V.drewN m3 = R at *
            have hRz : cb < R.heap.size := by have := hBV.size; omega
            go_wp2
            have hz := HZ.out
            obtain ⟨z1, z2, z3, z4, z5⟩ := HY.out
            have z6 := HA5.out
            rw [z6] at z5
            obtain ⟨hor2, hqr2⟩ : Hid (Own R U.heap.size ar j cr ((List.range j).map fun y => mk1 T c x y)) ∧ Hid (Below U.heap.size U R) := ⟨Lib.hid hor, Lib.hid hqr⟩
            go_region_law (refine step_app1 rfl rfl hor rfl rfl hj12 hVs ?_; intro g' cc w8 hO8 hg8 hs8 hb8)
            all_goals
              clear z1 z2 z3 z4 z5 z6 hz
              go_wp2
              go_roundw
              case rel => (repeat apply Exists.intro); exact ⟨⟨j + 1, _, _, by omega, by go_num, rfl, hO8.cast (by rw [HSN.out, HV.out]), hqr.trans hb8⟩, rfl⟩
              case measure => simp [intOf]; omega
          · obtain rfl : n = j := by omega
            have HX1 : Hid (c.getD x 0 = X0) := Lib.hid HX0.out
            clear HX0
            obtain ⟨L1, HL1⟩ : ∃ L, Hid (((List.range n).map fun y => mk1 T c x y) = L) := ⟨_, Lib.hid rfl⟩
            rw [HL1.out] at hor
            obtain ⟨CT, HCT⟩ : ∃ CT : Nat → Nat → Nat, Hid ((fun y z => cntV T x y z) = CT) := ⟨_, Lib.hid rfl⟩
            have hn0 : (0 : Int) ≤ (n : Int) := by omega
            go_wp2_with (at_make; refine make1 rfl rfl rfl rfl (by omega) ?_; intro w5 hoc hsc hbc)
            have hor5 := hor.below hbc
            have hUV := hqr
            go_loopw [16] (fun i wq => ∃ y : Nat, y ≤ n ∧ i = .int .i64 y ∧ Own wq V.heap.size (some ⟨V.heap.size, 0, none⟩) n n (((List.range y).map fun y => ((CT y n : Nat) : Int)) ++ List.replicate (n - y) 0) ∧ Below V.heap.size V wq) (fun i _ => n - (intOf i).toNat)
            case atStart => exact ⟨0, Nat.zero_le _, rfl, by simpa using hoc, hbc⟩
            case round =>
              clear hoc hbc
              obtain ⟨y, hy, rfl, hoc, hbc⟩ := hrel
              by_cases hlty : y < n
              · have hrep : List.replicate (n - y) (0 : Int) = ((CT y 0 : Nat) : Int) :: List.replicate (n - y - 1) 0 := by
                  have e : n - y = (n - y - 1) + 1 := by omega
                  rw [e, List.replicate_succ, ← HCT.out]; rfl
                rw [hrep] at hoc
                clear hrep
                go_wp2
                go_loopw [17] (fun i wq => ∃ z : Nat, z ≤ n ∧ i = .int .i64 z ∧ Own wq V.heap.size (some ⟨V.heap.size, 0, none⟩) n n (((List.range y).map fun y => ((CT y n : Nat) : Int)) ++ ((CT y z : Nat) : Int) :: List.replicate (n - y - 1) 0) ∧ Below V.heap.size V wq) (fun i _ => n - (intOf i).toNat)
                case atStart => exact ⟨0, Nat.zero_le _, rfl, hoc, hbc⟩
                case round =>
                  clear hoc hbc
                  obtain ⟨z, hz, rfl, hoc, hbc⟩ := hrel
                  by_cases hltz : z < n
                  · have hBq := hBV.trans (hbc.mono hBV.size)
                    have Gq := G1.below hBq
                    have kq := (hBq.cell (p := ⟨b1, o1, none⟩) kb1).trans k1
                    obtain ⟨r1, s1⟩ := Gq.look hlty hltz
                    have hu := hT.lt hlty hltz
                    have HCS : Hid (CT y (z + 1) = if tv T y z = x then CT y z + 1 else CT y z) := Lib.hid (by rw [← HCT.out]; rfl)
                    have hcz : CT y z ≤ z := by rw [← HCT.out]; exact cntV_le T x y z
                    generalize tv T y z = u at *
                    obtain ⟨v, hv⟩ : ∃ v, CT y z = v := ⟨_, rfl⟩
                    rw [hv] at hoc HCS hcz
                    obtain ⟨hat, hset⟩ := cnt_at (m := n - y - 1) v (show (((List.range y).map fun y => ((CT y n : Nat) : Int))).length = y by simp)
                    obtain ⟨_, hcell, hfree⟩ := hoc.cells
                    have f1 := hcell y hlty
                    have f2 := hfree y
                    rw [hat] at f1
                    have HSE := Lib.hid hset
                    clear hcell hfree hat hset hv
                    have m1 : (0 : Int) ≤ (y : Int) := by omega
                    have m2 : (y : Int) < (n : Int) := by omega
                    have m3 : (0 : Int) ≤ (z : Int) := by omega
                    have m4 : (z : Int) < (n : Int) := by omega
                    by_cases p : u = x
                    · have q : ((u : Int) == (x : Int)) = true := beq_iff_eq.2 (by omega)
                      rw [if_pos p] at HCS
                      clear p
                      go_wp2
                      go_roundw
                      case rel => exact ⟨z + 1, by omega, by go_num, by rw [HCS.out]; have h := hoc.set y ((v : Int) + 1); rw [HSE.out] at h; exact h, hbc.setCell (Nat.le_refl _) _⟩
                      case measure => simp [intOf]; omega
                    · have q : ((u : Int) == (x : Int)) = false := by rw [beq_eq_false_iff_ne]; omega
                      rw [if_neg p] at HCS
                      clear p
                      go_wp2
                      go_roundw
                      case rel => exact ⟨z + 1, by omega, by go_num, by rw [HCS.out]; exact hoc, hbc⟩
                      case measure => simp [intOf]; omega
                  · obtain rfl : n = z := by omega
                    have HSN := Lib.hid (rng_snoc (fun y => ((CT y n : Nat) : Int)) y)
                    go_wp2
                    go_roundw
                    case rel => exact ⟨y + 1, by omega, by go_num, hoc.cast (by rw [HSN.out, show n - (y + 1) = n - y - 1 by omega]; simp), hbc⟩
                    case measure => simp [intOf]; omega
              · obtain rfl : n = y := by omega
                have hoc := hoc.cast (ys := (List.range n).map fun y => ((CT y n : Nat) : Int)) (by simp)
                have hor6 := hor.below hbc
                have hap : Apr (some ⟨V.heap.size, 0, none⟩) ar := fun g e1 e2 => by cases e1; have := hor.hi _ e2; omega
                have hUb := hUV.trans (hbc.mono hUV.size)
                obtain ⟨D, hD⟩ : ∃ D : Nat → Int, (fun y => mk2 T n c x y) = D := ⟨_, rfl⟩
                have HD : Hid (∀ y, D y = 1099511627776 + c.getD y 0 * 64 + ((CT y n : Nat) : Int)) := Lib.hid fun y => by rw [← hD, ← HCT.out]; rfl
                have HML : Hid (mrkL T n c x = L1 ++ (List.range n).map D) := Lib.hid (by rw [← HL1.out, ← hD]; rfl)
                have HCB : Hid (∀ y, CT y n ≤ n) := Lib.hid fun y => by rw [← HCT.out]; exact cntV_le T x y n
                clear hD hor hUV
                go_wp2
                go_loopw [10, 18] (fun s i wq => ∃ (y : Nat) (ar : Option Addr) (cr : Nat), y ≤ n ∧ i = .int .i64 y ∧ s = .slice ar (n + y) cr ∧ Own wq U.heap.size ar (n + y) cr (L1 ++ (List.range y).map D) ∧ Apr (some ⟨V.heap.size, 0, none⟩) ar ∧ Own wq V.heap.size (some ⟨V.heap.size, 0, none⟩) n n ((List.range n).map fun y => ((CT y n : Nat) : Int)) ∧ Below U.heap.size U wq) (fun _ i _ => n - (intOf i).toNat)
                case atStart => exact ⟨0, ar, cr, Nat.zero_le _, rfl, rfl, by simpa using hor6, hap, hoc, hUb⟩
                case round =>
                  clear hor6 hap hoc hUb hor5 hbc
                  obtain ⟨y, ar, cr, hy, rfl, rfl, hor, hap, hoc, hUb⟩ := hrel
                  obtain ⟨R, rfl⟩ : ∃ R : World, R = wr := ⟨_, rfl⟩
                  have hzR := hUb.size
                  by_cases hlty : y < n
                  · have hBR := hbz.trans (hUb.mono hUs)
                    have RV := HRW.out.below hBR
                    obtain ⟨y1, hy1, e1⟩ := HC.out y hlty
                    obtain ⟨_, _, e4, s3⟩ := RV.at y hlty
                    cases e4
                    rw [e1] at s3
                    have f1 := hoc.cells.2.1 y hlty
                    rw [show ((List.range n).map fun y => ((CT y n : Nat) : Int)).getD y 0 = ((CT y n : Nat) : Int) from by simp [List.getD_eq_getElem?_getD, hlty]] at f1
                    have hDy := HD.out y
                    have hcb := HCB.out y
                    rw [e1] at hDy
                    generalize CT y n = v at hDy hcb f1
                    have HSN := Lib.hid (rng_snoc D y)
                    have HDy := Lib.hid hDy
                    have hVz : V.heap.size < R.heap.size := hoc.hi _ rfl
                    have m1 : (0 : Int) ≤ (y : Int) := by omega
                    have m2 : (y : Int) < (n : Int) := by omega
                    have HY : Hid (IntKind.i64.wrap ((y1 : Int) * 64) = (y1 : Int) * 64 ∧ IntKind.i64.wrap (1099511627776 + (y1 : Int) * 64) = 1099511627776 + (y1 : Int) * 64 ∧ IntKind.i64.wrap (1099511627776 + (y1 : Int) * 64 + (v : Int)) = 1099511627776 + (y1 : Int) * 64 + (v : Int)) := Lib.hid ⟨IntWalk.i64_in _ ⟨by omega, by omega⟩, IntWalk.i64_in _ ⟨by omega, by omega⟩, IntWalk.i64_in _ ⟨by omega, by omega⟩⟩
                    have hj12 : n + y + 1 ≤ 1000000000000 := by omega
                    have hRz : cb < R.heap.size := by have := hBR.size; omega
                    clear hDy e1
                    go_wp2
                    obtain ⟨z1, z2, z3⟩ := HY.out
                    go_region_law (refine step_app1hd rfl rfl hor rfl rfl hj12 hzR ?_; intro g' cc w8 hO8 hg8 hat8 hb8)
                    all_goals
                      clear z1 z2 z3
                      have hap8 := Own.apart hoc.drew hor.drew hap hat8
                      have hoc8 := Own.beside hoc.drew hor.drew hap hg8
                      go_wp2
                      go_roundw
                      case rel => exact ⟨y + 1, _, _, by omega, by go_num, rfl, hO8.cast (by rw [HSN.out, HDy.out]; simp), hap8, hoc8, (below_drewN hUb 1).trans hb8⟩
                      case measure => simp [intOf]; omega
                  · obtain rfl : n = y := by omega
                    have hor := hor.cast HML.out
                    clear hap hoc HD HCB HCT HL1 HC HML
                    obtain ⟨L, HL⟩ : ∃ L, Hid (mrkL T n c x = L) := ⟨_, Lib.hid rfl⟩
                    rw [HL.out] at hor
                    have hLl := hor.len
                    have HLl := Lib.hid hLl
                    obtain ⟨K, hK⟩ : ∃ K, n + n = K := ⟨_, rfl⟩
                    rw [hK] at hor HLl ⊢
                    have HKn := Lib.hid hK
                    have hK2 : 2 ≤ K := by omega
                    have hK24 : K ≤ 24 := by omega
                    clear hLl hK
                    have HSR : Hid (∀ p, p ≤ K → (srtR [] (L.take p)).length = p) := Lib.hid fun p hp => by rw [srtR_len, List.length_take, ← HLl.out]; simp; omega
                    have h1 : L.length = K := HLl.out.symm
                    have hor1 := hor.cast (ys := (srtR [] (L.take 1)).reverse ++ L.drop 1) (by
                      cases L with
                      | nil => simp at h1; omega
                      | cons a l => simp [srtR, insR])
                    clear hor h1
                    go_wp2
                    go_loopw [19] (fun i wq => ∃ p : Nat, 1 ≤ p ∧ p ≤ K ∧ i = .int .i64 p ∧ Own wq U.heap.size ar K cr ((srtR [] (L.take p)).reverse ++ L.drop p) ∧ Below U.heap.size U wq) (fun i _ => K - (intOf i).toNat)
                    case atStart => exact ⟨1, Nat.le_refl _, by omega, rfl, hor1, hUb⟩
                    case round =>
                      clear hor1 hUb hzR
                      obtain ⟨p, hp1, hpK, rfl, hor, hUb⟩ := hrel
                      by_cases hltp : p < K
                      · obtain ⟨v, rest, Q, HQ, HR, hlR, hcur⟩ : ∃ (v : Int) (rest Q : List Int), Hid (srtR [] (L.take (p + 1)) = insR v Q) ∧ Hid (L.drop (p + 1) = rest) ∧ Q.length = p ∧ (srtR [] (L.take p)).reverse ++ L.drop p = Q.reverse ++ v :: rest := by
                          have hpl : p < L.length := by have := HLl.out; omega
                          refine ⟨L[p], L.drop (p + 1), srtR [] (L.take p), Lib.hid ?_, Lib.hid rfl, HSR.out p hpK, by rw [List.drop_eq_getElem_cons hpl]⟩
                          rw [List.take_succ_eq_append_getElem hpl, srtR_snoc]
                        rw [hcur] at hor
                        have hbub := Bub.start (v := v) (rest := rest) hlR
                        clear hcur
                        generalize Q.reverse ++ v :: rest = cur at hor hbub
                        have HBU := Lib.hid hbub
                        clear hbub hlR
                        go_wp2
                        go_loopw [20] (fun j wq => ∃ (q : Nat) (cur : List Int), q ≤ p ∧ j = .int .i64 q ∧ Own wq U.heap.size ar K cr cur ∧ Hid (Bub Q v rest cur q) ∧ Below U.heap.size U wq) (fun j _ => (intOf j).toNat)
                        case atStart => exact ⟨p, cur, Nat.le_refl _, rfl, hor, HBU, hUb⟩
                        case round =>
                          clear hor HBU hUb
                          obtain ⟨q, cur, hqp, rfl, hor, HBU, hUb⟩ := hrel
                          by_cases hq0 : q = 0
                          · subst hq0
                            have hend := HBU.out.zero
                            have hor := hor.cast hend.symm
                            clear hend HBU
                            go_wp2
                            go_quiet (fail)
                            go_wp2
                            go_roundw
                            case rel => exact ⟨p + 1, by omega, by omega, by go_num, (hor.cast (by rw [HQ.out, HR.out])).drewN _, below_drewN hUb _⟩
                            case measure => simp [intOf]; omega
                          · obtain ⟨r, rfl⟩ : ∃ r, q = r + 1 := ⟨q - 1, by omega⟩
                            obtain ⟨a, h1, h2, h3, h4⟩ := HBU.out.at (by omega)
                            rw [Nat.add_sub_cancel] at h2 h3
                            have f1 := hor.row.at (r + 1) (by omega)
                            have f2 := hor.row.at r (by omega)
                            obtain ⟨g, o, rfl, f1⟩ := f1
                            obtain ⟨_, _, e5, f2⟩ := f2
                            cases e5
                            obtain ⟨rfl, _, hfree⟩ := hor.cells
                            rw [Nat.zero_add] at f1 f2
                            have f3 := hfree (r + 1)
                            have f4 := hfree r
                            rw [h1] at f1; rw [h2] at f2
                            clear hfree h1 h2
                            have m1 : (0 : Int) ≤ (r : Int) := by omega
                            have m2 : (r : Int) + 1 < (K : Int) := by omega
                            have m3 : (r : Int) < (K : Int) := by omega
                            have m4 : (0 : Int) < (r : Int) + 1 := by omega
                            have m5 : (r : Int) + 1 - 1 = (r : Int) := by omega
                            have m6 : IntKind.i64.wrap (r : Int) = (r : Int) := IntWalk.i64_in _ ⟨by omega, by omega⟩
                            by_cases hva : v < a
                            · have H3 := Lib.hid (h3 hva)
                              clear h3 h4 HBU
                              have hg := hor.lt.1
                              go_wp2
                              go_quiet (fail)
                              go_wp2
                              go_roundw
                              case rel => exact ⟨r, _, by omega, by go_num, ((hor.drewN _).set (r + 1) a).set r v, H3, below_setne (below_setne (below_drewN hUb _) hg _) hg _⟩
                              case measure => simp [intOf]
                            · have hor := hor.cast (h4 hva).symm
                              clear h3 h4 HBU
                              go_wp2
                              go_quiet (fail)
                              go_wp2
                              go_roundw
                              case rel => exact ⟨p + 1, by omega, by omega, by go_num, (hor.cast (by rw [HQ.out, HR.out])).drewN _, below_drewN hUb _⟩
                              case measure => simp [intOf]; omega
                      · obtain rfl : p = K := by omega
                        have hor := hor.cast (ys := (srtR [] L).reverse) (by rw [List.take_of_length_le (by have := HLl.out; omega), List.drop_of_length_le (by have := HLl.out; omega), List.append_nil])
                        have hzr := hUb.size
                        have hozr := hoz.below hUb
                        have HFIN : Hid (M = [X0] ++ (srtR [] L).reverse) := Lib.hid (by rw [← HM.out, ← HL.out]; show c.getD x 0 :: _ = _; rw [HX1.out]; rfl)
                        have HN : Hid (1 + p = N2) := Lib.hid (by have := HN2.out; have := HKn.out; omega)
                        have hlo2 := hbz.size
                        have hln : 1 + p ≤ 1000000000000 := by omega
                        go_wp2_with (at_builtin; refine appL rfl rfl hozr rfl hor.row rfl hln (by omega) ?_; intro ad8 c8 w8 hO8 hg8 hb8)
                        go_roundw
                        case rel => exact ⟨1, 1 + p, ad8, c8, _, Nat.le_refl _, rfl, rfl, hO8, Lib.hid ⟨fun h => by omega, fun _ => ⟨HN.out, HFIN.out.symm⟩⟩, (hbz.trans (hUb.mono hlo2)).trans hb8⟩
                        case measure => simp [intOf]
      · obtain rfl : k = 1 := by omega
        obtain ⟨rfl, rfl⟩ := HKM.out.2 rfl
        go_wp2
        go_ret
        exact ⟨_, _, rfl, hoz, hbz⟩
end Go.Proofs.YtiliimkfobfbnaaGreat
