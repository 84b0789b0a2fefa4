/-
  Walks and plain laws of this seat, some texts in one.
  No condition but bounds on lengths.
-/
import Derived.Test.YtpdgpgbgakinlaaGreatPb2
import Derived.Test.YtpdgpgbgakinlaaGreatPb3
import Derived.Test.YtpdgpgbgakinlaaGreatPb12
import Derived.Test.YtpdgpgbgakinlaaGreatPb8
import Derived.Deep.RegionHeld3
import Derived.Test.YtpdgpgbgakinlaaGreatPb7
namespace Go.Proofs.YtpdgpgbgakinlaaGreat
set_option maxRecDepth 100000
set_option linter.unusedVariables false
set_option linter.unusedSimpArgs false
open Go.RowKit
theorem rowOk_len {n m : Int} {xs : List Int} (h : (xs.length : Int) ≠ n) : rowOk n m xs = false := by unfold rowOk; simp [h]
theorem rowOk_mk {n m : Int} {xs : List Int} (h : (xs.length : Int) = n) : rowOk n m xs = xs.all (rngB 0 (m - 1)) := by unfold rowOk; simp [h]
set_option maxHeartbeats 2000000 in
theorem l01Table_any (a : Option Addr) (n c : Nat) (t : List (List Int)) (w : World) (h1 : Tbl w a n t) (hm : n ≤ 9223372036854775807) :
    Calls Tryz.prog 110 #[.slice a n c] w fun e w' => e = .returned (.bool (isTab t)) ∧ w = w' := by
  have hl := h1.len
  cases hp : rngB 1 12 n with
  | false =>
    have hq : isTab t = false := by unfold isTab; rw [← hl, hp]; rfl
    have HQ := Lib.hid hq
    have HC := Lib.hid (fun w => l01In_b n 1 12 false hp w); clear hp hl hq
    go_enter Tryz.func110, Tryz.ntmps110
    go_wp2_with fail
    refine (HC.out _).mono ?_
    rintro e w' ⟨rfl, rfl⟩
    go_wp2
    go_ret
    exact ⟨ret_bool HQ.out.symm, rfl⟩
  | true =>
    have hn12 : 1 ≤ n ∧ n ≤ 12 := by unfold rngB at hp; simp at hp; omega
    obtain ⟨hn1, hn12⟩ := hn12
    have HC := Lib.hid (fun w => l01In_b n 1 12 true hp w)
    have hq : isTab t = t.all (rowOk n n) := by unfold isTab; rw [← hl, hp]; rfl
    have HQ := Lib.hid hq; have HL := Lib.hid hl; clear hq hl hp
    go_enter Tryz.func110, Tryz.ntmps110
    go_wp2_with fail
    refine (HC.out _).mono ?_
    rintro e w' ⟨rfl, rfl⟩
    go_wp2
    go_loop [4] (fun i => ∃ k : Nat, k ≤ n ∧ i = .int .i64 k ∧ Hid ((t.take k).all (rowOk n n) = true)) (fun i => n - (intOf i).toNat)
    case atStart => exact ⟨0, Nat.zero_le _, rfl, Lib.hid (by simp)⟩
    case round =>
      obtain ⟨k, hk, rfl, hall⟩ := hrel
      by_cases hlt : k < n
      · obtain ⟨b, off, ai, ni, ci, rfl, g1, hri, hni⟩ := h1.at k hlt
        have hx : k < t.length := by have := HL.out; omega
        rw [Tbl.getD hx] at hri
        have hll := hri.len
        by_cases hnn : ni = n
        · subst hnn
          have b1 : ((ni : Int) != (ni : Int)) = false := by simp
          have HR : Hid (rowOk ni ni t[k] = t[k].all (rngB 0 ((ni : Int) - 1))) := Lib.hid (rowOk_mk (by omega))
          have HLL := Lib.hid hll; clear hll
          go_wp2
          go_loop [5] (fun i => ∃ j : Nat, j ≤ ni ∧ i = .int .i64 j ∧ Hid ((t[k].take j).all (rngB 0 ((ni : Int) - 1)) = true)) (fun i => ni - (intOf i).toNat)
          case atStart => exact ⟨0, Nat.zero_le _, rfl, Lib.hid (by simp)⟩
          case round =>
            obtain ⟨j, hj, rfl, hin⟩ := hrel
            by_cases hjt : j < ni
            · obtain ⟨b2, o2, rfl, g2⟩ := hri.at j hjt
              have hy : j < t[k].length := by have := HLL.out; omega
              have e : t[k].getD j 0 = t[k][j] := by simp [List.getD_eq_getElem?_getD, List.getElem?_eq_getElem hy]
              rw [e] at g2
              clear h1 hri e
              cases hv : rngB 0 ((ni : Int) - 1) t[k][j] with
              | true =>
                have HD := Lib.hid (fun w => l01In_b t[k][j] 0 ((ni : Int) - 1) true hv w)
                have HV := Lib.hid hv; clear hv
                generalize t[k][j] = V at g2 HD
                go_wp2_with fail
                refine (HD.out _).mono ?_
                rintro e w' ⟨rfl, rfl⟩
                go_wp2
                go_round
                case rel => exact ⟨j + 1, by omega, by go_num, Lib.hid (all_get_succ hy hin.out HV.out)⟩
                case measure => simp [intOf]; omega
              | false =>
                have HD := Lib.hid (fun w => l01In_b t[k][j] 0 ((ni : Int) - 1) false hv w)
                have HV := Lib.hid hv; clear hv
                generalize t[k][j] = V at g2 HD
                go_wp2_with fail
                refine (HD.out _).mono ?_
                rintro e w' ⟨rfl, rfl⟩
                go_wp2
                go_ret
                exact ⟨ret_bool (by rw [HQ.out]; exact (all_no hx (by rw [HR.out]; exact all_no hy HV.out)).symm), rfl⟩
            · obtain rfl : j = ni := by omega
              have ha := hin.out
              rw [List.take_of_length_le (by have := HLL.out; omega)] at ha
              have HA := Lib.hid ha; clear ha
              go_wp2
              go_round
              case rel => exact ⟨k + 1, by omega, by go_num, Lib.hid (all_get_succ hx hall.out (by rw [HR.out]; exact HA.out))⟩
              case measure => simp [intOf]; omega
        · have b1 : ((ni : Int) != (n : Int)) = true := by simp; omega
          have HN : Hid (rowOk n n t[k] = false) := Lib.hid (rowOk_len (by omega))
          clear hll hnn
          go_wp2
          go_ret
          exact ⟨ret_bool (by rw [HQ.out]; exact (all_no hx HN.out).symm), rfl⟩
      · obtain rfl : k = n := by omega
        have ha := hall.out
        rw [List.take_of_length_le (by have := HL.out; omega)] at ha
        have HA := Lib.hid ha; clear ha
        go_wp2
        go_ret
        exact ⟨ret_bool (by rw [HQ.out]; exact HA.out.symm), rfl⟩
set_option maxHeartbeats 1000000 in
theorem l02Map_any (a : Option Addr) (n c : Nat) (a' : Option Addr) (n' c' : Nat) (f g : List (List Int)) (w : World) (h1 : Tbl w a n f) (h2 : Tbl w a' n' g) (hm1 : n ≤ 9223372036854775807) (hm2 : n' ≤ 9223372036854775807) :
    Calls Tryz.prog 93 #[sAgg a n c a' n' c'] w fun e w' => e = .returned (.bool (isPm f g)) ∧ Below w.heap.size w w' := by
  have hl1 := h1.len
  have hl2 := h2.len
  have HL : Hid (decide (f.length = g.length) = decide (n = n')) := Lib.hid (by rw [← hl1, ← hl2])
  clear hl1 hl2
  cases hf : isTab f with
  | false =>
    have HF := Lib.hid hf; clear hf
    go_enter Tryz.func93, Tryz.ntmps93
    go_wp2_with fail
    refine (l01Table_any _ _ _ _ _ (h1.alloc _) hm1).mono ?_
    rintro e w1 ⟨rfl, rfl⟩
    rw [HF.out]
    go_wp2
    go_ret
    exact ⟨ret_bool (by unfold isPm; rw [HF.out]; rfl), below_al (Below.refl _ _) _⟩
  | true =>
    have HF := Lib.hid hf; clear hf
    cases hg : isTab g with
    | false =>
      have HG := Lib.hid hg; clear hg
      go_enter Tryz.func93, Tryz.ntmps93
      go_wp2_with fail
      refine (l01Table_any _ _ _ _ _ (h1.alloc _) hm1).mono ?_
      rintro e w1 ⟨rfl, rfl⟩
      rw [HF.out]
      go_wp2_with fail
      refine (l01Table_any _ _ _ _ _ (h2.alloc _) hm2).mono ?_
      rintro e w1 ⟨rfl, rfl⟩
      rw [HG.out]
      go_wp2
      go_ret
      exact ⟨ret_bool (by unfold isPm; rw [HF.out, HG.out]; rfl), below_al (Below.refl _ _) _⟩
    | true =>
      have HG := Lib.hid hg; clear hg
      have HQ : Hid (isPm f g = decide ((n : Int) = (n' : Int))) := Lib.hid (by unfold isPm; rw [HF.out, HG.out, HL.out]; simp [Int.ofNat_inj])
      go_enter Tryz.func93, Tryz.ntmps93
      go_wp2_with fail
      refine (l01Table_any _ _ _ _ _ (h1.alloc _) hm1).mono ?_
      rintro e w1 ⟨rfl, rfl⟩
      rw [HF.out]
      go_wp2_with fail
      refine (l01Table_any _ _ _ _ _ (h2.alloc _) hm2).mono ?_
      rintro e w1 ⟨rfl, rfl⟩
      rw [HG.out]
      go_wp2
      go_ret
      exact ⟨ret_bool (by rw [HQ.out]; rfl), below_al (Below.refl _ _) _⟩
end Go.Proofs.YtpdgpgbgakinlaaGreat

namespace Go.Proofs.YtpdgpgbgakinlaaGreat
set_option maxRecDepth 100000
set_option linter.unusedVariables false
set_option linter.unusedSimpArgs false
open Go.RowKit
theorem Row.lit3 {w : World} {b : Nat} {x y z : Int} {t : TypeId} (h : Loc w b #[.int .i64 x, .int .i64 y, .int .i64 z] t) : Row w (some ⟨b, 0, none⟩) 3 [x, y, z] := by
  refine ⟨rfl, fun i hi => ⟨b, 0, rfl, h.lt, ?_⟩⟩
  match i, hi with
  | 0, _ => exact h.cell 0 rfl
  | 1, _ => exact h.cell 1 rfl
  | 2, _ => exact h.cell 2 rfl
theorem Less.lit3 {n x y z : Nat} (hx : x < n) (hy : y < n) (hz : z < n) : Less n [(x : Int), (y : Int), (z : Int)] := by
  intro i hi
  match i, hi with
  | 0, _ => exact ⟨x, hx, rfl⟩
  | 1, _ => exact ⟨y, hy, rfl⟩
  | 2, _ => exact ⟨z, hz, rfl⟩
theorem do3_eq (f g : List (List Int)) (x y z : Nat) : decide (doF f g 0 (doF f g 1 (doF f g 0 [(x : Int), (y : Int), (z : Int)])) = doF f g 1 (doF f g 0 (doF f g 1 [(x : Int), (y : Int), (z : Int)]))) = eqAt f g x y z := by
  simp only [doF, eqAt, List.set_cons_zero, List.set_cons_succ, List.getD_cons_zero, List.getD_cons_succ, Int.toNat_natCast, Nat.zero_add]
  rw [Bool.eq_iff_iff]
  simp
  omega
theorem l02Do_0 {a : Option Addr} {n c : Nat} {a' : Option Addr} {c' : Nat} {f g : List (List Int)} {al : Option Addr} {m cl : Nat} {l : List Int} {w : World} (h1 : Tbl w a n f) (h2 : Tbl w a' n g) (hn1 : 1 ≤ n) (hf : Sq n f) (hg : Sq n g)
    (hl : Row w al m l) (hm : m = 3) (hle : Less n l) :
    Calls Tryz.prog 138 #[sAgg a n c a' n c', .slice al m cl, .int .i64 0] w fun e w' => ∃ ao co, e = .returned (.slice ao m co) ∧ Own w' w.heap.size ao m co (doF f g 0 l) ∧ Below w.heap.size w w' :=
  l02Do_any a n c a' c' f g al m cl l 0 w h1 h2 hn1 hf hg hl (by omega) (by omega) hle
theorem l02Do_1 {a : Option Addr} {n c : Nat} {a' : Option Addr} {c' : Nat} {f g : List (List Int)} {al : Option Addr} {m cl : Nat} {l : List Int} {w : World} (h1 : Tbl w a n f) (h2 : Tbl w a' n g) (hn1 : 1 ≤ n) (hf : Sq n f) (hg : Sq n g)
    (hl : Row w al m l) (hm : m = 3) (hle : Less n l) :
    Calls Tryz.prog 138 #[sAgg a n c a' n c', .slice al m cl, .int .i64 1] w fun e w' => ∃ ao co, e = .returned (.slice ao m co) ∧ Own w' w.heap.size ao m co (doF f g 1 l) ∧ Below w.heap.size w w' :=
  l02Do_any a n c a' c' f g al m cl l 1 w h1 h2 hn1 hf hg hl (by omega) (by omega) hle
set_option maxHeartbeats 8000000 in
theorem l02Fault_any (a : Option Addr) (n c : Nat) (a' : Option Addr) (c' : Nat) (f g : List (List Int)) (w : World) (h1 : Tbl w a n f) (h2 : Tbl w a' n g) (hn1 : 1 ≤ n) (hn : n ≤ 12) (hf : Sq n f) (hg : Sq n g) :
    Calls Tryz.prog 95 #[sAgg a n c a' n c'] w (SptR (eqOk n f g) w w) := by
  have HSF := Lib.hid hf; have HSG := Lib.hid hg; clear hf hg
  go_enter Tryz.func95, Tryz.ntmps95
  have hA := Loc.new w rfl #[.slice a n c, .slice a' n c'] 26
  have lA := hA.two
  have T1 := h1.alloc (.cells #[.slice a n c, .slice a' n c'] 26)
  have T2 := h2.alloc (.cells #[.slice a n c, .slice a' n c'] 26)
  have hB := below_al (Below.refl w.heap.size w) (.cells #[.slice a n c, .slice a' n c'] 26)
  clear h1 h2
  go_wp2
  generalize hw0 : (w.alloc (.cells #[.slice a n c, .slice a' n c'] 26)) = w0 at *
  have hsz : w.heap.size < w0.heap.size := hA.lt
  clear hw0
  go_loopw [4] (fun i wr => ∃ k : Nat, k ≤ n ∧ i = .int .i64 k ∧ Hid (allN k (fun x => allN n fun y => allN n fun z => eqAt f g x y z) = true) ∧ Below w0.heap.size w0 wr) (fun i _ => n - (intOf i).toNat)
  case atStart => exact ⟨0, Nat.zero_le _, rfl, Lib.hid rfl, Below.refl _ _⟩
  case round =>
    obtain ⟨x, hx, rfl, hx1, hW⟩ := hrel
    by_cases hlt : x < n
    · clear lA
      go_wp2
      go_loopw [5] (fun i wr => ∃ k : Nat, k ≤ n ∧ i = .int .i64 k ∧ Hid (allN k (fun y => allN n fun z => eqAt f g x y z) = true) ∧ Below w0.heap.size w0 wr) (fun i _ => n - (intOf i).toNat)
      case atStart => exact ⟨0, Nat.zero_le _, rfl, Lib.hid rfl, hW⟩
      case round =>
        clear hW
        obtain ⟨y, hy, rfl, hy1, hW⟩ := hrel
        by_cases hlty : y < n
        · go_wp2
          go_loopw [6] (fun i wr => ∃ k : Nat, k ≤ n ∧ i = .int .i64 k ∧ Hid (allN k (fun z => eqAt f g x y z) = true) ∧ Below w0.heap.size w0 wr) (fun i _ => n - (intOf i).toNat)
          case atStart => exact ⟨0, Nat.zero_le _, rfl, Lib.hid rfl, hW⟩
          case round =>
            clear hW
            obtain ⟨z, hz, rfl, hz1, hW⟩ := hrel
            by_cases hltz : z < n
            · have hle0 : Less n [(x : Int), (y : Int), (z : Int)] := Less.lit3 hlt hlty hltz
              have hE := do3_eq f g x y z
              have hle1 : Less n (doF f g 0 [(x : Int), (y : Int), (z : Int)]) := hle0.do_ HSF.out HSG.out 0 (by simp [doF_len])
              have hle2 : Less n (doF f g 1 (doF f g 0 [(x : Int), (y : Int), (z : Int)])) := hle1.do_ HSF.out HSG.out 1 (by simp [doF_len])
              have hle3 : Less n (doF f g 0 (doF f g 1 (doF f g 0 [(x : Int), (y : Int), (z : Int)]))) := hle2.do_ HSF.out HSG.out 0 (by simp [doF_len])
              have hle4 : Less n (doF f g 1 [(x : Int), (y : Int), (z : Int)]) := hle0.do_ HSF.out HSG.out 1 (by simp [doF_len])
              have hle5 : Less n (doF f g 0 (doF f g 1 [(x : Int), (y : Int), (z : Int)])) := hle4.do_ HSF.out HSG.out 0 (by simp [doF_len])
              have hle6 : Less n (doF f g 1 (doF f g 0 (doF f g 1 [(x : Int), (y : Int), (z : Int)]))) := hle5.do_ HSF.out HSG.out 1 (by simp [doF_len])
              cases hq : eqAt f g x y z
              all_goals
                have HQ := Lib.hid hq
                rw [hq] at hE
                have HE := Lib.hid hE
                clear hE hq
                go_wp2
                have hrow := Row.lit3 (Loc.new wr rfl #[.int .i64 x, .int .i64 y, .int .i64 z] 2)
                replace hW := below_al hW (.cells #[.int .i64 x, .int .i64 y, .int .i64 z] 2)
                generalize (wr.alloc (.cells #[.int .i64 x, .int .i64 y, .int .i64 z] 2)) = w1 at *
                have lA := (hA.below hW hA.lt).two
                have tok1 : True := trivial
                go_region_held3 (fun w' => w'.cell? ⟨w.heap.size, 0, none⟩ = some (.slice a n c) ∧ w'.cell? ⟨w.heap.size, 1, none⟩ = some (.slice a' n c'))
                  (first | exact ⟨lb7.1, lb7.2.1⟩ | exact ⟨lb6.1, lb6.2.1⟩ | exact ⟨lb5.1, lb5.2.1⟩ | exact ⟨lb4.1, lb4.2.1⟩ | exact ⟨lb3.1, lb3.2.1⟩ | exact ⟨lb2.1, lb2.2.1⟩ | exact ⟨lb1.1, lb1.2.1⟩ | exact ⟨lA.1, lA.2.1⟩)
                  (first
                    | (go_at_call 138; have _t := tok1; clear _t tok1; have tok2 : True := trivial; refine (l02Do_0 (T1.below (below_drewN hW 1)) (T2.below (below_drewN hW 1)) hn1 HSF.out HSG.out (hrow.drewN 1) rfl hle0).mono ?_; rintro e v1 ⟨a1, c1, rfl, ho1, hb1⟩; have hr1 := below_th (below_drewN hW 1) hb1; have hq1 : Below w1.heap.size w1 v1 := (Below.drew (Below.refl _ _)).trans hb1; have lb1 := (hA.below hr1 hA.lt).two)
                    | (go_at_call 138; have _t := tok2; clear _t tok2; have tok3 : True := trivial; refine (l02Do_1 (T1.below hr1) (T2.below hr1) hn1 HSF.out HSG.out ho1.row rfl hle1).mono ?_; rintro e v2 ⟨a2, c2, rfl, ho2, hb2⟩; have hr2 := below_th hr1 hb2; have hq2 : Below w1.heap.size w1 v2 := below_th hq1 hb2; have lb2 := (hA.below hr2 hA.lt).two)
                    | (go_at_call 138; have _t := tok3; clear _t tok3; have tok4 : True := trivial; refine (l02Do_0 (T1.below hr2) (T2.below hr2) hn1 HSF.out HSG.out ho2.row rfl hle2).mono ?_; rintro e v3 ⟨a3, c3, rfl, ho3, hb3⟩; have hr3 := below_th hr2 hb3; have hq3 : Below w1.heap.size w1 v3 := below_th hq2 hb3; have lb3 := (hA.below hr3 hA.lt).two)
                    | (go_at_call 138; have _t := tok4; clear _t tok4; have tok5 : True := trivial; refine (l02Do_1 (T1.below hr3) (T2.below hr3) hn1 HSF.out HSG.out (hrow.below hq3) rfl hle0).mono ?_; rintro e v4 ⟨a4, c4, rfl, ho4, hb4⟩; have hr4 := below_th hr3 hb4; have hq4 : Below w1.heap.size w1 v4 := below_th hq3 hb4; have lb4 := (hA.below hr4 hA.lt).two; have ho3a := ho3.below hb4)
                    | (go_at_call 138; have _t := tok5; clear _t tok5; have tok6 : True := trivial; refine (l02Do_0 (T1.below hr4) (T2.below hr4) hn1 HSF.out HSG.out ho4.row rfl hle4).mono ?_; rintro e v5 ⟨a5, c5, rfl, ho5, hb5⟩; have hr5 := below_th hr4 hb5; have hq5 : Below w1.heap.size w1 v5 := below_th hq4 hb5; have lb5 := (hA.below hr5 hA.lt).two; have ho3b := ho3a.below hb5)
                    | (go_at_call 138; have _t := tok6; clear _t tok6; have tok7 : True := trivial; refine (l02Do_1 (T1.below hr5) (T2.below hr5) hn1 HSF.out HSG.out ho5.row rfl hle5).mono ?_; rintro e v6 ⟨a6, c6, rfl, ho6, hb6⟩; have hr6 := below_th hr5 hb6; have hq6 : Below w1.heap.size w1 v6 := below_th hq5 hb6; have lb6 := (hA.below hr6 hA.lt).two; have ho3c := ho3b.below hb6)
                    | (go_at_call 137; have _t := tok7; clear _t tok7; refine (l01Same_b _ _ _ _ _ _ _ _ _ ho3c.row ho6.row (by omega) _ HE.out).mono ?_; rintro e v7 ⟨rfl, hb7⟩; have hr7 := below_th hr6 hb7; have lb7 := (hA.below hr7 hA.lt).two))
                clear lb1 lb2 lb3 lb4 lb5 lb6 lb7
                go_wp2
              · go_ret
                exact ⟨⟨_, _, _, rfl, .inr ⟨allN_no hlt (allN_no hlty (allN_no hltz HQ.out)), by omega⟩⟩, hB.trans (hr7.mono (Nat.le_of_lt hsz))⟩
              · go_roundw
                case rel => exact ⟨z + 1, by omega, by go_num, Lib.hid (allN_succ hz1.out HQ.out), hr7⟩
                case measure => simp [intOf]; omega
            · obtain rfl : z = n := by omega
              go_wp2
              go_roundw
              case rel => exact ⟨y + 1, by omega, by go_num, Lib.hid (allN_succ hy1.out hz1.out), hW⟩
              case measure => simp [intOf]; omega
        · obtain rfl : y = n := by omega
          go_wp2
          go_roundw
          case rel => exact ⟨x + 1, by omega, by go_num, Lib.hid (allN_succ hx1.out hy1.out), hW⟩
          case measure => simp [intOf]; omega
    · obtain rfl : x = n := by omega
      go_wp2
      go_ret
      exact ⟨⟨_, _, _, rfl, .inl ⟨hx1.out, rfl⟩⟩, below_al (hB.trans (hW.mono (Nat.le_of_lt hsz))) _⟩
set_option maxHeartbeats 1000000 in
theorem l02Is_any (a : Option Addr) (n c : Nat) (a' : Option Addr) (n' c' : Nat) (f g : List (List Int)) (w : World) (h1 : Tbl w a n f) (h2 : Tbl w a' n' g) (hm1 : n ≤ 9223372036854775807) (hm2 : n' ≤ 9223372036854775807) :
    Calls Tryz.prog 46 #[sAgg a n c a' n' c'] w fun e w' => e = .returned (.bool (isSol f g)) ∧ Below w.heap.size w w' := by
  have hA := Loc.new w rfl #[.slice a n c, .slice a' n' c'] 26
  have lA := hA.two
  cases hf : isPm f g with
  | false =>
    have HF := Lib.hid hf; clear hf
    go_enter Tryz.func46, Tryz.ntmps46
    go_wp2_with fail
    refine (l02Map_any _ _ _ _ _ _ _ _ _ (h1.alloc _) (h2.alloc _) hm1 hm2).mono ?_
    rintro e w1 ⟨rfl, hb1⟩
    rw [HF.out]
    go_wp2
    go_ret
    exact ⟨ret_bool (by unfold isSol; rw [HF.out]; rfl), below_alth (Below.refl _ _) hb1⟩
  | true =>
    obtain ⟨hn1, hn12, sf, sg⟩ := isPm_sq hf
    have hl1 := h1.len
    have hl2 : n' = n := by rw [h2.len, hl1]; have := sg.len; omega
    subst hl2
    rw [← hl1] at hn1 hn12 sf sg
    have HF := Lib.hid hf; clear hf
    have HS : Hid (isSol f g = (collOk n' f g && eqOk n' f g)) := Lib.hid (by unfold isSol; rw [HF.out, ← hl1]; rfl)
    clear hl1
    have HSF := Lib.hid sf; have HSG := Lib.hid sg; clear sf sg
    go_enter Tryz.func46, Tryz.ntmps46
    go_wp2_with fail
    refine (l02Map_any _ _ _ _ _ _ _ _ _ (h1.alloc _) (h2.alloc _) hm1 hm2).mono ?_
    rintro e w1 ⟨rfl, hb1⟩
    rw [HF.out]
    have hA1 := hA.below hb1 (by simp)
    have lA1 := hA1.two
    have hf1 := (h1.alloc _).below hb1
    have hg1 := (h2.alloc _).below hb1
    have hB1 := below_alth (Below.refl _ _) hb1
    clear hb1 hA lA
    go_wp2_with fail
    refine (l02Collision_any _ _ _ _ _ _ _ _ hf1 hg1 hn1 hn12 HSF.out HSG.out).mono ?_
    rintro e w2 ⟨⟨b, m, k, rfl, he⟩, hb2⟩
    have hA2 := hA1.below hb2 hA1.lt
    have lA2 := hA2.two
    have hf2 := hf1.below hb2
    have hg2 := hg1.below hb2
    have hB2 := below_th hB1 hb2
    clear hb2 hA1 lA1 hB1
    rcases he with ⟨hc, rfl⟩ | ⟨hc, hm⟩
    · have HC := Lib.hid hc; clear hc
      go_wp2_with fail
      refine (l02Fault_any _ _ _ _ _ _ _ _ hf2 hg2 hn1 hn12 HSF.out HSG.out).mono ?_
      rintro e w3 ⟨⟨b', m', k', rfl, he⟩, hb3⟩
      have hB3 := below_th hB2 hb3
      rcases he with ⟨hc, rfl⟩ | ⟨hc, hm⟩
      · have HD := Lib.hid hc; clear hc
        go_wp2
        go_ret
        exact ⟨ret_bool (by rw [HS.out, HC.out, HD.out]; rfl), hB3⟩
      · have HD := Lib.hid hc; clear hc
        have hm0 : ((m' : Int) == 0) = false := by simp; omega
        clear hm
        go_wp2
        go_ret
        exact ⟨ret_bool (by rw [HS.out, HC.out, HD.out]; rfl), hB3⟩
    · have HC := Lib.hid hc; clear hc
      have hm0 : ((m : Int) == 0) = false := by simp; omega
      clear hm
      go_wp2
      go_ret
      exact ⟨ret_bool (by rw [HS.out, HC.out]; rfl), hB2⟩
end Go.Proofs.YtpdgpgbgakinlaaGreat

namespace Go.Proofs.YtpdgpgbgakinlaaGreat
set_option maxRecDepth 100000
set_option linter.unusedVariables false
set_option linter.unusedSimpArgs false
open Go.RowKit
theorem below_undrew {w w' : World} {n : Nat} (h : Below (w.drewN n).heap.size (w.drewN n) w') : Below w.heap.size w w' := (below_drewN (Below.refl w.heap.size w) n).trans h
set_option maxHeartbeats 4000000 in
theorem l16Pair_any (a : Option Addr) (n c : Nat) (a' : Option Addr) (c' : Nat) (f g : List (List Int)) (u v : Nat) (w : World) (h1 : Tbl w a n f) (h2 : Tbl w a' n g) (hn1 : 1 ≤ n) (hn : n ≤ 12) (hf : Sq n f) (hg : Sq n g) (hc : collOk n f g = true) (hu : u < n) (hv : v < n) :
    Calls Tryz.prog 141 #[sAgg a n c a' n c', .int .i64 u, .int .i64 v] w fun e w' => e = .returned (.tuple #[.int .i64 ((tv (bfT n f g) u v : Nat) : Int), .int .i64 ((tv (bgT n f g) u v : Nat) : Int)]) ∧ Below w.heap.size w w' := by
  obtain ⟨bf, of, A, O, C, rfl, Gf⟩ := h1.grid hf hn1
  obtain ⟨bg, og, A', O', C', rfl, Gg⟩ := h2.grid hg hn1
  clear h1 h2
  have HEX : Hid (∃ x y, x < n ∧ y < n ∧ tv f x y = u ∧ tv g x y = v) := Lib.hid (pr_ex hn1 hf hg hc hu hv)
  have HBF : Hid (∀ x y, x < n → y < n → tv f x y = u → tv g x y = v → tv (bfT n f g) u v = x ∧ tv (bgT n f g) u v = y) := Lib.hid fun x y hx hy e1 e2 => ⟨bf_tv hn1 hc hx hy hu hv e1 e2, bg_tv hn1 hc hx hy hu hv e1 e2⟩
  clear hf hg hc
  go_enter Tryz.func141, Tryz.ntmps141
  have hA := Loc.new w rfl #[.slice (some ⟨bf, of, none⟩) n c, .slice (some ⟨bg, og, none⟩) n c'] 26
  have lA := hA.two
  have gf := Gf.alloc (.cells #[.slice (some ⟨bf, of, none⟩) n c, .slice (some ⟨bg, og, none⟩) n c'] 26)
  have gg := Gg.alloc (.cells #[.slice (some ⟨bf, of, none⟩) n c, .slice (some ⟨bg, og, none⟩) n c'] 26)
  have hB := below_al (Below.refl w.heap.size w) (.cells #[.slice (some ⟨bf, of, none⟩) n c, .slice (some ⟨bg, og, none⟩) n c'] 26)
  clear Gf Gg
  go_wp2
  generalize (w.alloc (.cells #[.slice (some ⟨bf, of, none⟩) n c, .slice (some ⟨bg, og, none⟩) n c'] 26)) = w0 at *
  go_loopw [8] (fun i wr => ∃ k : Nat, k ≤ n ∧ i = .int .i64 k ∧ Hid (∀ x y, x < k → y < n → ¬ (tv f x y = u ∧ tv g x y = v)) ∧ ∃ m, wr = w0.drewN m) (fun i _ => n - (intOf i).toNat)
  case atStart => exact ⟨0, Nat.zero_le _, rfl, Lib.hid fun x y hx => absurd hx (by omega), 0, rfl⟩
  case round =>
    obtain ⟨x, hx, rfl, hx1, m1, rfl⟩ := hrel
    by_cases hlt : x < n
    · go_wp2
      go_loopw [9] (fun i wr => ∃ k : Nat, k ≤ n ∧ i = .int .i64 k ∧ Hid (∀ y, y < k → ¬ (tv f x y = u ∧ tv g x y = v)) ∧ ∃ m, wr = w0.drewN m) (fun i _ => n - (intOf i).toNat)
      case atStart => exact ⟨0, Nat.zero_le _, rfl, Lib.hid fun y hy => absurd hy (by omega), m1, rfl⟩
      case round =>
        obtain ⟨y, hy, rfl, hy1, m2, rfl⟩ := hrel
        by_cases hlty : y < n
        · obtain ⟨r1, k1⟩ := gf.look hlt hlty
          obtain ⟨r2, k2⟩ := gg.look hlt hlty
          by_cases p1 : tv f x y = u
          · have u1 : ((tv f x y : Nat) : Int) = (u : Int) := by rw [p1]
            rw [u1] at k1
            by_cases p2 : tv g x y = v
            · have u2 : ((tv g x y : Nat) : Int) = (v : Int) := by rw [p2]
              rw [u2] at k2
              have b1 : ((u : Int) == (u : Int)) = true := by simp
              have b2 : ((v : Int) == (v : Int)) = true := by simp
              obtain ⟨e1, e2⟩ := HBF.out x y hlt hlty p1 p2
              have HE1 := Lib.hid e1; have HE2 := Lib.hid e2
              clear e1 e2 u1 u2 p1 p2
              go_wp2
              go_ret2
              exact ⟨by rw [HE1.out, HE2.out]; rfl, below_drewN hB _⟩
            · have b1 : ((u : Int) == (u : Int)) = true := by simp
              have b2 : (((tv g x y : Nat) : Int) == (v : Int)) = false := by simp; omega
              have HN : Hid (¬ (tv f x y = u ∧ tv g x y = v)) := Lib.hid fun h => p2 h.2
              generalize tv g x y = V at k2 b2
              clear p1 p2 u1
              go_wp2
              go_roundw
              case rel => exact ⟨y + 1, by omega, by go_num, Lib.hid fun z hz => by
                  by_cases e : z = y
                  · subst e; exact HN.out
                  · exact hy1.out z (by omega), _, rfl⟩
              case measure => simp [intOf]; omega
          · have b1 : (((tv f x y : Nat) : Int) == (u : Int)) = false := by simp; omega
            have HN : Hid (¬ (tv f x y = u ∧ tv g x y = v)) := Lib.hid fun h => p1 h.1
            generalize tv f x y = V at k1 b1
            clear p1
            go_wp2
            go_roundw
            case rel => exact ⟨y + 1, by omega, by go_num, Lib.hid fun z hz => by
                by_cases e : z = y
                · subst e; exact HN.out
                · exact hy1.out z (by omega), _, rfl⟩
            case measure => simp [intOf]; omega
        · obtain rfl : y = n := by omega
          go_wp2
          go_roundw
          case rel => exact ⟨x + 1, by omega, by go_num, Lib.hid fun z q hz hq => by
              by_cases e : z = x
              · subst e; exact hy1.out q hq
              · exact hx1.out z q (by omega) hq, _, rfl⟩
          case measure => simp [intOf]; omega
    · exfalso
      obtain ⟨x', y', h1, h2, h3, h4⟩ := HEX.out
      exact hx1.out x' y' (by omega) h2 ⟨h3, h4⟩
set_option maxHeartbeats 8000000 in
theorem l16Act_any (a : Option Addr) (n c : Nat) (a' : Option Addr) (c' : Nat) (f g : List (List Int)) (s : Nat) (ab : Option Addr) (nb cb : Nat) (xs : List Int) (al : Option Addr) (cl : Nat) (l : List Int) (w : World)
    (h1 : Tbl w a n f) (h2 : Tbl w a' n g) (hn1 : 1 ≤ n) (hn : n ≤ 12) (hf : Sq n f) (hg : Sq n g) (hc : collOk n f g = true)
    (hr : Row w ab nb xs) (hb : isBr s xs = true) (hl : Row w al s l) (hle : Less n l) :
    Calls Tryz.prog 97 #[sAgg a n c a' n c', bAgg s ab nb cb, .slice al s cl] w fun e w' => ∃ ao co, e = .returned (.slice ao s co) ∧ Own w' w.heap.size ao s co (actL n f g xs l) ∧ Below w.heap.size w w' := by
  obtain ⟨h26, h30, hlet⟩ := isBr_let hb
  have hll := hl.len
  have hrl := hr.len
  have hpl : ∀ x ∈ xs, 0 ≤ plc x ∧ plc x + 1 < s := fun x hx => by
    have := hlet x hx
    unfold plc; split <;> omega
  have hlt2 : ∀ k, Less n (actL n f g (xs.take k) l) := fun k => hle.act hn1 hf hg hc _ (fun x hx => by have := hpl x (List.mem_of_mem_take hx); omega)
  have hlen2 : ∀ k, (actL n f g (xs.take k) l).length = s := fun k => by rw [actL_len]; exact hll.symm
  have hn30 : nb ≤ 30 := by omega
  have hs2 : 2 ≤ s := by omega
  have hs6 : s ≤ 6 := by omega
  have HLet := Lib.hid hlet; have HP := Lib.hid hpl; have HLT := Lib.hid hlt2; have HLEN := Lib.hid hlen2; have HRL := Lib.hid hrl
  have HSF := Lib.hid hf; have HSG := Lib.hid hg; have HC := Lib.hid hc
  clear hlet hpl hlt2 hlen2 hb hf hg hc hrl hll h26
  have hA := (Loc.new w rfl #[.slice a n c, .slice a' n c'] 26).alloc (.cells #[.int .i64 s, .slice ab nb cb] 29)
  have hE := Loc.new (w.alloc (.cells #[.slice a n c, .slice a' n c'] 26)) rfl #[.int .i64 s, .slice ab nb cb] 29
  rw [size_alloc] at hE
  have hB := below_al (below_al (Below.refl w.heap.size w) (.cells #[.slice a n c, .slice a' n c'] 26)) (.cells #[.int .i64 s, .slice ab nb cb] 29)
  have hl0 := (hl.alloc (.cells #[.slice a n c, .slice a' n c'] 26)).alloc (.cells #[.int .i64 s, .slice ab nb cb] 29)
  go_enter Tryz.func97, Tryz.ntmps97
  go_wp2_with fail
  generalize (w.alloc (.cells #[.slice a n c, .slice a' n c'] 26)).alloc (.cells #[.int .i64 s, .slice ab nb cb] 29) = w0 at *
  refine (l01Own_any _ _ _ l _ hl0 (by omega)).mono ?_
  rintro e w1 ⟨ao, co, rfl, ho, hb1⟩
  have hA1 := hA.below hb1 hA.lt
  have hE1 := hE.below hb1 hE.lt
  have hB1 := below_th hB hb1
  have hsz := hE.lt
  have ho1 := ho.mono (lo' := w.heap.size + 2) (by omega)
  clear hA hE hB hb1 ho hl0 hl hsz
  go_wp2
  go_loopw [7, 8] (fun t i wr => ∃ (k : Nat) (ao : Option Addr) (co : Nat), k ≤ nb ∧ i = .int .i64 k ∧ t = .slice ao s co ∧ Own wr (w.heap.size + 2) ao s co (actL n f g (xs.take k) l) ∧ Loc wr w.heap.size #[.slice a n c, .slice a' n c'] 26 ∧ Loc wr (w.heap.size + 1) #[.int .i64 s, .slice ab nb cb] 29 ∧ Below w.heap.size w wr) (fun _ i _ => nb - (intOf i).toNat)
  case atStart => exact ⟨0, _, _, Nat.zero_le _, rfl, rfl, by simpa [actL] using ho1, hA1, hE1, hB1⟩
  case round =>
    clear ho1 hA1 hB1 hE1
    obtain ⟨k, ao, co, hk, rfl, rfl, ho, hA, hE, hB⟩ := hrel
    obtain ⟨W, rfl⟩ : ∃ W : World, W = wr := ⟨_, rfl⟩
    have lA := hA.two
    have lE := hE.two
    by_cases hlt : k < nb
    · have hr2 := hr.below hB
      obtain ⟨bb, off, rfl, g1⟩ := hr2.at k hlt
      have hx : k < xs.length := by have := HRL.out; omega
      rw [getD_eq_at hx] at g1
      have hle2 := HLet.out xs[k] (List.getElem_mem hx)
      have hpl2 := HP.out xs[k] (List.getElem_mem hx)
      have HS : Hid (actL n f g (xs.take (k + 1)) l = stepL n f g xs[k] (actL n f g (xs.take k) l)) := Lib.hid (actL_take n f g xs l k hx)
      have b1 : -1000 ≤ xs[k] := by omega
      have b2 : xs[k] ≤ 1000 := by omega
      have LT := HLT.out k
      have LEN := HLEN.out k
      obtain ⟨j, hj⟩ : ∃ j : Nat, plc xs[k] = j := ⟨(plc xs[k]).toNat, by omega⟩
      have hjs : j + 1 < s := by omega
      have hne0 : xs[k] ≠ 0 := hle2.1
      have HJ := Lib.hid hj
      clear hle2 hpl2
      generalize actL n f g (xs.take k) l = L at *
      generalize xs[k] = X at *
      have T1 := h1.below hB; have T2 := h2.below hB
      by_cases hpos : 0 < X
      · have HST : Hid (stepL n f g X L = doF f g j L) := Lib.hid (by unfold stepL; rw [if_pos hpos, hj]; rfl)
        clear hj
        go_wp2_with fail
        refine (l16Place_any _ _ b1 b2).mono ?_
        rintro e w2 ⟨rfl, rfl⟩
        rw [HJ.out]
        go_wp2_with fail
        refine (l06Move_any _ _ _ _ _ f g _ _ _ L j _ T1 T2 hn1 HSF.out HSG.out ho.row (by omega) hjs LT).mono ?_
        rintro e w2 ⟨ao2, co2, rfl, ho2, hb2⟩
        have hA2 := hA.below hb2 hA.lt
        have hE2 := hE.below hb2 hE.lt
        have hB2 := below_th hB hb2
        have hlo := hE.lt
        go_wp2
        go_roundw
        case rel => exact ⟨k + 1, _, _, by omega, by go_num, rfl, by rw [HS.out, HST.out]; exact ho2.mono (by omega), hA2, hE2, hB2⟩
        case measure => simp [intOf]; omega
      · obtain ⟨u, hu, eu⟩ := LT j (by omega)
        obtain ⟨v, hv, ev⟩ := LT (j + 1) (by omega)
        have HST : Hid (stepL n f g X L = (L.set j ((tv (bfT n f g) u v : Nat) : Int)).set (j + 1) ((tv (bgT n f g) u v : Nat) : Int)) := Lib.hid (by unfold stepL; rw [if_neg hpos, hj]; unfold doF; rw [Int.toNat_natCast, eu, ev]; simp)
        have HP0 := Lib.hid (l16Pair_any a n c a' c' f g u v)
        generalize tv (bfT n f g) u v = BX at *
        generalize tv (bgT n f g) u v = BY at *
        clear hj
        obtain ⟨go, oo, rfl, _⟩ := ho.row.at j (by omega)
        obtain ⟨rfl, hcs, hfs⟩ := ho.cells
        have hcj := hcs j (by omega)
        have hcj1 := hcs (j + 1) (by omega)
        rw [eu] at hcj; rw [ev] at hcj1
        have hgo := ho.lt
        have hwj : IntKind.i64.wrap ((j : Int) + 1) = ((j + 1 : Nat) : Int) := (IntWalk.i64_in _ (by omega)).trans (by simp)
        have hb0 : decide (0 < X) = false := by simpa using hpos
        have i1 : (0 : Int) ≤ (j : Int) := by omega
        have i2 : (j : Int) ≤ (s : Int) := by omega
        have i3 : (j : Int) < (s : Int) := by omega
        have i4 : ((j + 1 : Nat) : Int) < (s : Int) := by omega
        have i5 : (j : Int) + 1 < (s : Int) := by omega
        have i6 : (0 : Int) ≤ (j : Int) + 1 := by omega
        have i7 : (0 : Int) ≤ ((j + 1 : Nat) : Int) := by omega
        have i8 : ((j + 1 : Nat) : Int) ≤ (s : Int) := by omega
        clear hcs hfs eu ev
        go_wp2_with fail
        refine (l16Place_any _ _ b1 b2).mono ?_
        rintro e w2 ⟨rfl, rfl⟩
        rw [HJ.out]
        go_wp2
        go_region_held3 (fun w' => (w'.cell? ⟨w.heap.size, 0, none⟩ = some (.slice a n c) ∧ w'.cell? ⟨w.heap.size, 1, none⟩ = some (.slice a' n c')) ∧ w'.cell? ⟨go, j, none⟩ = some (.int .i64 u) ∧ w'.cell? ⟨go, j + 1, none⟩ = some (.int .i64 v))
          (first | exact ⟨⟨lA2.1, lA2.2.1⟩, hj2, hj3⟩ | exact ⟨⟨lA.1, lA.2.1⟩, hcj, hcj1⟩)
          (first
            | (go_at_call 141; refine (HP0.out _ (T1.drewN 1) (T2.drewN 1) hn1 hn HSF.out HSG.out HC.out hu hv).mono ?_; rintro e w2 ⟨rfl, hb2⟩; have hq2 := below_undrew hb2; have lA2 := (hA.below hq2 hA.lt).two; have hj2 := (hq2.cell (p := ⟨go, j, none⟩) hgo.2).trans hcj; have hj3 := (hq2.cell (p := ⟨go, j + 1, none⟩) hgo.2).trans hcj1))
        have ho2 := ho.below hq2
        obtain ⟨_, hcs, hfs⟩ := ho2.cells
        have hfj := hfs j
        have hfj1 := hfs (j + 1)
        clear hcs hfs lA hcj hcj1 g1
        have hne : (⟨go, j, none⟩ : Addr) ≠ ⟨go, j + 1, none⟩ := fun e => by simp at e
        go_wp2
        go_roundw
        case rel =>
          refine ⟨k + 1, _, _, by omega, by go_num, rfl, ?_, ?_, ?_, ?_⟩
          · rw [HS.out, HST.out]
            exact (ho2.set j _).set (j + 1) _
          · exact ((hA.below hq2 hA.lt).setne (a := ⟨go, j, none⟩) (by show w.heap.size ≠ go; omega) _).setne (a := ⟨go, j + 1, none⟩) (by show w.heap.size ≠ go; omega) _
          · exact ((hE.below hq2 hE.lt).setne (a := ⟨go, j, none⟩) (by show w.heap.size + 1 ≠ go; omega) _).setne (a := ⟨go, j + 1, none⟩) (by show w.heap.size + 1 ≠ go; omega) _
          · exact below_setne (below_setne (a := ⟨go, j, none⟩) (below_th hB hq2) (by show w.heap.size ≤ go; omega) _) (a := ⟨go, j + 1, none⟩) (by show w.heap.size ≤ go; omega) _
        case measure => simp [intOf]; omega
    · obtain rfl : k = nb := by omega
      rw [List.take_of_length_le (by have := HRL.out; omega)] at ho
      go_wp2
      go_ret
      exact ⟨_, _, rfl, ho.mono (by omega), hB⟩
end Go.Proofs.YtpdgpgbgakinlaaGreat
