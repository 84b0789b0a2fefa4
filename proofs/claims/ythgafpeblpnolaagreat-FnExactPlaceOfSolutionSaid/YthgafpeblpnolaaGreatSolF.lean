/-
  The equation of a pair map: what the reference's question answers, and whether a pair map is a solution.
  No condition but bounds on lengths.
-/
import Derived.Test.YthgafpeblpnolaaGreatBase
import Derived.Test.YthgafpeblpnolaaGreatSolD
import Derived.Test.YthgafpeblpnolaaGreatBase3
import Derived.Deep.RegionHeld3
namespace Go.Proofs.YthgafpeblpnolaaGreat
set_option maxRecDepth 100000
set_option linter.unusedVariables false
set_option linter.unusedSimpArgs false
open Go.RowKit

theorem Row.lit3 {w : World} {b : Nat} {x y z : Int} {t : TypeId} (h : Loc w b #[.int .i64 x, .int .i64 y, .int .i64 z] t) : Row w (some ⟨b, 0, none⟩) 3 [x, y, z] := by
  refine ⟨rfl, fun i hi => ⟨b, 0, rfl, h.lt, ?_⟩⟩
  match i, hi with
  | 0, _ => exact h.cell 0 rfl
  | 1, _ => exact h.cell 1 rfl
  | 2, _ => exact h.cell 2 rfl
theorem Less.lit3 {n x y z : Nat} (hx : x < n) (hy : y < n) (hz : z < n) : Less n [(x : Int), (y : Int), (z : Int)] := by
  intro i hi
  match i, hi with
  | 0, _ => exact ⟨x, hx, rfl⟩
  | 1, _ => exact ⟨y, hy, rfl⟩
  | 2, _ => exact ⟨z, hz, rfl⟩
theorem do3_eq (f g : List (List Int)) (x y z : Nat) : decide (doF f g 0 (doF f g 1 (doF f g 0 [(x : Int), (y : Int), (z : Int)])) = doF f g 1 (doF f g 0 (doF f g 1 [(x : Int), (y : Int), (z : Int)]))) = eqAt f g x y z := by
  simp only [doF, eqAt, List.set_cons_zero, List.set_cons_succ, List.getD_cons_zero, List.getD_cons_succ, Int.toNat_natCast, Nat.zero_add]
  rw [Bool.eq_iff_iff]
  simp
  omega
theorem l02Do_0 {a : Option Addr} {n c : Nat} {a' : Option Addr} {c' : Nat} {f g : List (List Int)} {al : Option Addr} {m cl : Nat} {l : List Int} {w : World} (h1 : Tbl w a n f) (h2 : Tbl w a' n g) (hn1 : 1 ≤ n) (hf : Sq n f) (hg : Sq n g)
    (hl : Row w al m l) (hm : m = 3) (hle : Less n l) :
    Calls Tryz.prog 133 #[sAgg a n c a' n c', .slice al m cl, .int .i64 0] w fun e w' => ∃ ao co, e = .returned (.slice ao m co) ∧ Own w' w.heap.size ao m co (doF f g 0 l) ∧ Below w.heap.size w w' :=
  l02Do_any a n c a' c' f g al m cl l 0 w h1 h2 hn1 hf hg hl (by omega) (by omega) hle
theorem l02Do_1 {a : Option Addr} {n c : Nat} {a' : Option Addr} {c' : Nat} {f g : List (List Int)} {al : Option Addr} {m cl : Nat} {l : List Int} {w : World} (h1 : Tbl w a n f) (h2 : Tbl w a' n g) (hn1 : 1 ≤ n) (hf : Sq n f) (hg : Sq n g)
    (hl : Row w al m l) (hm : m = 3) (hle : Less n l) :
    Calls Tryz.prog 133 #[sAgg a n c a' n c', .slice al m cl, .int .i64 1] w fun e w' => ∃ ao co, e = .returned (.slice ao m co) ∧ Own w' w.heap.size ao m co (doF f g 1 l) ∧ Below w.heap.size w w' :=
  l02Do_any a n c a' c' f g al m cl l 1 w h1 h2 hn1 hf hg hl (by omega) (by omega) hle

set_option maxHeartbeats 8000000 in
theorem l02Fault_any (a : Option Addr) (n c : Nat) (a' : Option Addr) (c' : Nat) (f g : List (List Int)) (w : World) (h1 : Tbl w a n f) (h2 : Tbl w a' n g) (hn1 : 1 ≤ n) (hn : n ≤ 12) (hf : Sq n f) (hg : Sq n g) :
    Calls Tryz.prog 91 #[sAgg a n c a' n c'] w (SptR (eqOk n f g) w w) := by
  have HSF := Lib.hid hf; have HSG := Lib.hid hg; clear hf hg
  go_enter Tryz.func91, Tryz.ntmps91
  have hA := Loc.new w rfl #[.slice a n c, .slice a' n c'] 28
  have lA := hA.two
  have T1 := h1.alloc (.cells #[.slice a n c, .slice a' n c'] 28)
  have T2 := h2.alloc (.cells #[.slice a n c, .slice a' n c'] 28)
  have hB := below_al (Below.refl w.heap.size w) (.cells #[.slice a n c, .slice a' n c'] 28)
  clear h1 h2
  go_wp2
  generalize hw0 : (w.alloc (.cells #[.slice a n c, .slice a' n c'] 28)) = w0 at *
  have hsz : w.heap.size < w0.heap.size := hA.lt
  clear hw0
  go_loopw [4] (fun i wr => ∃ k : Nat, k ≤ n ∧ i = .int .i64 k ∧ Hid (allN k (fun x => allN n fun y => allN n fun z => eqAt f g x y z) = true) ∧ Below w0.heap.size w0 wr) (fun i _ => n - (intOf i).toNat)
  case atStart => exact ⟨0, Nat.zero_le _, rfl, Lib.hid rfl, Below.refl _ _⟩
  case round =>
    obtain ⟨x, hx, rfl, hx1, hW⟩ := hrel
    by_cases hlt : x < n
    · clear lA
      go_wp2
      go_loopw [5] (fun i wr => ∃ k : Nat, k ≤ n ∧ i = .int .i64 k ∧ Hid (allN k (fun y => allN n fun z => eqAt f g x y z) = true) ∧ Below w0.heap.size w0 wr) (fun i _ => n - (intOf i).toNat)
      case atStart => exact ⟨0, Nat.zero_le _, rfl, Lib.hid rfl, hW⟩
      case round =>
        clear hW
        obtain ⟨y, hy, rfl, hy1, hW⟩ := hrel
        by_cases hlty : y < n
        · go_wp2
          go_loopw [6] (fun i wr => ∃ k : Nat, k ≤ n ∧ i = .int .i64 k ∧ Hid (allN k (fun z => eqAt f g x y z) = true) ∧ Below w0.heap.size w0 wr) (fun i _ => n - (intOf i).toNat)
          case atStart => exact ⟨0, Nat.zero_le _, rfl, Lib.hid rfl, hW⟩
          case round =>
            clear hW
            obtain ⟨z, hz, rfl, hz1, hW⟩ := hrel
            by_cases hltz : z < n
            · have hle0 : Less n [(x : Int), (y : Int), (z : Int)] := Less.lit3 hlt hlty hltz
              have hE := do3_eq f g x y z
              have hle1 : Less n (doF f g 0 [(x : Int), (y : Int), (z : Int)]) := hle0.do_ HSF.out HSG.out 0 (by simp [doF_len])
              have hle2 : Less n (doF f g 1 (doF f g 0 [(x : Int), (y : Int), (z : Int)])) := hle1.do_ HSF.out HSG.out 1 (by simp [doF_len])
              have hle3 : Less n (doF f g 0 (doF f g 1 (doF f g 0 [(x : Int), (y : Int), (z : Int)]))) := hle2.do_ HSF.out HSG.out 0 (by simp [doF_len])
              have hle4 : Less n (doF f g 1 [(x : Int), (y : Int), (z : Int)]) := hle0.do_ HSF.out HSG.out 1 (by simp [doF_len])
              have hle5 : Less n (doF f g 0 (doF f g 1 [(x : Int), (y : Int), (z : Int)])) := hle4.do_ HSF.out HSG.out 0 (by simp [doF_len])
              have hle6 : Less n (doF f g 1 (doF f g 0 (doF f g 1 [(x : Int), (y : Int), (z : Int)]))) := hle5.do_ HSF.out HSG.out 1 (by simp [doF_len])
              cases hq : eqAt f g x y z
              all_goals
                have HQ := Lib.hid hq
                rw [hq] at hE
                have HE := Lib.hid hE
                clear hE hq
                go_wp2
                have hrow := Row.lit3 (Loc.new wr rfl #[.int .i64 x, .int .i64 y, .int .i64 z] 2)
                replace hW := below_al hW (.cells #[.int .i64 x, .int .i64 y, .int .i64 z] 2)
                generalize (wr.alloc (.cells #[.int .i64 x, .int .i64 y, .int .i64 z] 2)) = w1 at *
                have lA := (hA.below hW hA.lt).two
                have tok1 : True := trivial
                go_region_held3 (fun w' => w'.cell? ⟨w.heap.size, 0, none⟩ = some (.slice a n c) ∧ w'.cell? ⟨w.heap.size, 1, none⟩ = some (.slice a' n c'))
                  (first | exact ⟨lb7.1, lb7.2.1⟩ | exact ⟨lb6.1, lb6.2.1⟩ | exact ⟨lb5.1, lb5.2.1⟩ | exact ⟨lb4.1, lb4.2.1⟩ | exact ⟨lb3.1, lb3.2.1⟩ | exact ⟨lb2.1, lb2.2.1⟩ | exact ⟨lb1.1, lb1.2.1⟩ | exact ⟨lA.1, lA.2.1⟩)
                  (first
                    | (go_at_call 133; have _t := tok1; clear _t tok1; have tok2 : True := trivial; refine (l02Do_0 (T1.below (below_drewN hW 1)) (T2.below (below_drewN hW 1)) hn1 HSF.out HSG.out (hrow.drewN 1) rfl hle0).mono ?_; rintro e v1 ⟨a1, c1, rfl, ho1, hb1⟩; have hr1 := below_th (below_drewN hW 1) hb1; have hq1 : Below w1.heap.size w1 v1 := (Below.drew (Below.refl _ _)).trans hb1; have lb1 := (hA.below hr1 hA.lt).two)
                    | (go_at_call 133; have _t := tok2; clear _t tok2; have tok3 : True := trivial; refine (l02Do_1 (T1.below hr1) (T2.below hr1) hn1 HSF.out HSG.out ho1.row rfl hle1).mono ?_; rintro e v2 ⟨a2, c2, rfl, ho2, hb2⟩; have hr2 := below_th hr1 hb2; have hq2 : Below w1.heap.size w1 v2 := below_th hq1 hb2; have lb2 := (hA.below hr2 hA.lt).two)
                    | (go_at_call 133; have _t := tok3; clear _t tok3; have tok4 : True := trivial; refine (l02Do_0 (T1.below hr2) (T2.below hr2) hn1 HSF.out HSG.out ho2.row rfl hle2).mono ?_; rintro e v3 ⟨a3, c3, rfl, ho3, hb3⟩; have hr3 := below_th hr2 hb3; have hq3 : Below w1.heap.size w1 v3 := below_th hq2 hb3; have lb3 := (hA.below hr3 hA.lt).two)
                    | (go_at_call 133; have _t := tok4; clear _t tok4; have tok5 : True := trivial; refine (l02Do_1 (T1.below hr3) (T2.below hr3) hn1 HSF.out HSG.out (hrow.below hq3) rfl hle0).mono ?_; rintro e v4 ⟨a4, c4, rfl, ho4, hb4⟩; have hr4 := below_th hr3 hb4; have hq4 : Below w1.heap.size w1 v4 := below_th hq3 hb4; have lb4 := (hA.below hr4 hA.lt).two; have ho3a := ho3.below hb4)
                    | (go_at_call 133; have _t := tok5; clear _t tok5; have tok6 : True := trivial; refine (l02Do_0 (T1.below hr4) (T2.below hr4) hn1 HSF.out HSG.out ho4.row rfl hle4).mono ?_; rintro e v5 ⟨a5, c5, rfl, ho5, hb5⟩; have hr5 := below_th hr4 hb5; have hq5 : Below w1.heap.size w1 v5 := below_th hq4 hb5; have lb5 := (hA.below hr5 hA.lt).two; have ho3b := ho3a.below hb5)
                    | (go_at_call 133; have _t := tok6; clear _t tok6; have tok7 : True := trivial; refine (l02Do_1 (T1.below hr5) (T2.below hr5) hn1 HSF.out HSG.out ho5.row rfl hle5).mono ?_; rintro e v6 ⟨a6, c6, rfl, ho6, hb6⟩; have hr6 := below_th hr5 hb6; have hq6 : Below w1.heap.size w1 v6 := below_th hq5 hb6; have lb6 := (hA.below hr6 hA.lt).two; have ho3c := ho3b.below hb6)
                    | (go_at_call 101; have _t := tok7; clear _t tok7; refine (l01Same_b _ _ _ _ _ _ _ _ _ ho3c.row ho6.row (by omega) _ HE.out).mono ?_; rintro e v7 ⟨rfl, hb7⟩; have hr7 := below_th hr6 hb7; have lb7 := (hA.below hr7 hA.lt).two))
                clear lb1 lb2 lb3 lb4 lb5 lb6 lb7
                go_wp2
              · go_ret
                exact ⟨⟨_, _, _, rfl, .inr ⟨allN_no hlt (allN_no hlty (allN_no hltz HQ.out)), by omega⟩⟩, hB.trans (hr7.mono (Nat.le_of_lt hsz))⟩
              · go_roundw
                case rel => exact ⟨z + 1, by omega, by go_num, Lib.hid (allN_succ hz1.out HQ.out), hr7⟩
                case measure => simp [intOf]; omega
            · obtain rfl : z = n := by omega
              go_wp2
              go_roundw
              case rel => exact ⟨y + 1, by omega, by go_num, Lib.hid (allN_succ hy1.out hz1.out), hW⟩
              case measure => simp [intOf]; omega
        · obtain rfl : y = n := by omega
          go_wp2
          go_roundw
          case rel => exact ⟨x + 1, by omega, by go_num, Lib.hid (allN_succ hx1.out hy1.out), hW⟩
          case measure => simp [intOf]; omega
    · obtain rfl : x = n := by omega
      go_wp2
      go_ret
      exact ⟨⟨_, _, _, rfl, .inl ⟨hx1.out, rfl⟩⟩, below_al (hB.trans (hW.mono (Nat.le_of_lt hsz))) _⟩

set_option maxHeartbeats 1000000 in
theorem l02Is_any (a : Option Addr) (n c : Nat) (a' : Option Addr) (n' c' : Nat) (f g : List (List Int)) (w : World) (h1 : Tbl w a n f) (h2 : Tbl w a' n' g) (hm1 : n ≤ 9223372036854775807) (hm2 : n' ≤ 9223372036854775807) :
    Calls Tryz.prog 40 #[sAgg a n c a' n' c'] w fun e w' => e = .returned (.bool (isSol f g)) ∧ Below w.heap.size w w' := by
  have hA := Loc.new w rfl #[.slice a n c, .slice a' n' c'] 28
  have lA := hA.two
  cases hf : isPm f g with
  | false =>
    have HF := Lib.hid hf; clear hf
    go_enter Tryz.func40, Tryz.ntmps40
    go_wp2_with fail
    refine (l02Map_any _ _ _ _ _ _ _ _ _ (h1.alloc _) (h2.alloc _) hm1 hm2).mono ?_
    rintro e w1 ⟨rfl, hb1⟩
    rw [HF.out]
    go_wp2
    go_ret
    exact ⟨ret_bool (by unfold isSol; rw [HF.out]; rfl), below_alth (Below.refl _ _) hb1⟩
  | true =>
    obtain ⟨hn1, hn12, sf, sg⟩ := isPm_sq hf
    have hl1 := h1.len
    have hl2 : n' = n := by rw [h2.len, hl1]; have := sg.len; omega
    subst hl2
    rw [← hl1] at hn1 hn12 sf sg
    have HF := Lib.hid hf; clear hf
    have HS : Hid (isSol f g = (collOk n' f g && eqOk n' f g)) := Lib.hid (by unfold isSol; rw [HF.out, ← hl1]; rfl)
    clear hl1
    have HSF := Lib.hid sf; have HSG := Lib.hid sg; clear sf sg
    go_enter Tryz.func40, Tryz.ntmps40
    go_wp2_with fail
    refine (l02Map_any _ _ _ _ _ _ _ _ _ (h1.alloc _) (h2.alloc _) hm1 hm2).mono ?_
    rintro e w1 ⟨rfl, hb1⟩
    rw [HF.out]
    have hA1 := hA.below hb1 (by simp)
    have lA1 := hA1.two
    have hf1 := (h1.alloc _).below hb1
    have hg1 := (h2.alloc _).below hb1
    have hB1 := below_alth (Below.refl _ _) hb1
    clear hb1 hA lA
    go_wp2_with fail
    refine (l02Collision_any _ _ _ _ _ _ _ _ hf1 hg1 hn1 hn12 HSF.out HSG.out).mono ?_
    rintro e w2 ⟨⟨b, m, k, rfl, he⟩, hb2⟩
    have hA2 := hA1.below hb2 hA1.lt
    have lA2 := hA2.two
    have hf2 := hf1.below hb2
    have hg2 := hg1.below hb2
    have hB2 := below_th hB1 hb2
    clear hb2 hA1 lA1 hB1
    rcases he with ⟨hc, rfl⟩ | ⟨hc, hm⟩
    · have HC := Lib.hid hc; clear hc
      go_wp2_with fail
      refine (l02Fault_any _ _ _ _ _ _ _ _ hf2 hg2 hn1 hn12 HSF.out HSG.out).mono ?_
      rintro e w3 ⟨⟨b', m', k', rfl, he⟩, hb3⟩
      have hB3 := below_th hB2 hb3
      rcases he with ⟨hc, rfl⟩ | ⟨hc, hm⟩
      · have HD := Lib.hid hc; clear hc
        go_wp2
        go_ret
        exact ⟨ret_bool (by rw [HS.out, HC.out, HD.out]; rfl), hB3⟩
      · have HD := Lib.hid hc; clear hc
        have hm0 : ((m' : Int) == 0) = false := by simp; omega
        clear hm
        go_wp2
        go_ret
        exact ⟨ret_bool (by rw [HS.out, HC.out, HD.out]; rfl), hB3⟩
    · have HC := Lib.hid hc; clear hc
      have hm0 : ((m : Int) == 0) = false := by simp; omega
      clear hm
      go_wp2
      go_ret
      exact ⟨ret_bool (by rw [HS.out, HC.out]; rfl), hB2⟩

end Go.Proofs.YthgafpeblpnolaaGreat
