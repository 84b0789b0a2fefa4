/-
  Walks and plain laws of this seat, some texts in one.
  No condition but bounds on lengths.
-/
import Derived.Test.YtaddclaadbjnlaaGreatPs3
import Derived.Test.YtaddclaadbjnlaaGreatPs2
import Derived.Test.YtaddclaadbjnlaaGreatPs4
import Derived.Deep.RegionLaw
import Derived.Test.YtaddclaadbjnlaaGreatPs1
namespace Go.Proofs.YtaddclaadbjnlaaGreat
set_option maxRecDepth 100000
set_option linter.unusedVariables false
set_option linter.unusedSimpArgs false
open Go.RowKit
def conR (n : Nat) (z : Int) : List Int := (List.range n).map fun _ => z
theorem conR_len (n : Nat) (z : Int) : (conR n z).length = n := by simp [conR]
theorem conR_succ {n j : Nat} (z : Int) (h : j < n) : (conR n z).take (j + 1) = (conR n z).take j ++ [z] := by
  rw [List.take_succ_eq_append_getElem (by rw [conR_len]; exact h)]; simp [conR]
def repT (n : Nat) (p : List Int) : List (List Int) := List.replicate n p
def colT (n : Nat) (q : List Int) : List (List Int) := (List.range n).map fun x => conR n (q.getD x 0)
theorem repT_succ {n k : Nat} (p : List Int) (h : k < n) : (repT n p).take (k + 1) = (repT n p).take k ++ [p] := by
  rw [List.take_succ_eq_append_getElem (by simp [repT]; exact h)]; simp [repT]
theorem colT_succ {n k : Nat} (q : List Int) (h : k < n) : (colT n q).take (k + 1) = (colT n q).take k ++ [conR n (q.getD k 0)] := by
  rw [List.take_succ_eq_append_getElem (by simp [colT]; exact h)]; simp [colT]
set_option maxHeartbeats 8000000 in
theorem l02Twist_any (a : Option Addr) (n c : Nat) (p : List Int) (a' : Option Addr) (c' : Nat) (q : List Int) (w : World) (hp : Row w a n p) (hq : Row w a' n q) (hn : n ≤ 1000) :
    Calls Tryz.prog 186 #[.slice a n c, .slice a' n c'] w fun e w' => ∃ a1 c1 vs a1' c1' vs', e = .returned (sAgg a1 n c1 a1' n c1') ∧ OwnS w' w.heap.size a1 n c1 vs (repT n p) a1' n c1' vs' (colT n q) ∧ Below w.heap.size w w' := by
  have hR := (Loc.new w rfl #[.slice none 0 0, .slice none 0 0] 53).alloc (.cells #[.slice none 0 0, .slice none 0 0] 53)
  have hO := Loc.new (w.alloc (.cells #[.slice none 0 0, .slice none 0 0] 53)) rfl #[.slice none 0 0, .slice none 0 0] 53
  rw [size_alloc] at hO
  have hB := below_al (below_al (Below.refl w.heap.size w) (.cells #[.slice none 0 0, .slice none 0 0] 53)) (.cells #[.slice none 0 0, .slice none 0 0] 53)
  have HPL := Lib.hid hp.len
  go_enter Tryz.func186, Tryz.ntmps186
  go_wp2
  generalize hw0 : (w.alloc (.cells #[.slice none 0 0, .slice none 0 0] 53)).alloc (.cells #[.slice none 0 0, .slice none 0 0] 53) = w0 at *
  have hz0 : w0.heap.size = w.heap.size + 2 := by rw [← hw0]; simp
  clear hw0
  go_loopw [6] (fun i wr => ∃ (k : Nat) (az : Option Addr) (cz : Nat) (vz : List SV) (ay : Option Addr) (cy : Nat) (vy : List SV), k ≤ n ∧ i = .int .i64 k ∧ Loc wr (w.heap.size + 1) #[.slice az k cz, .slice ay k cy] 53 ∧ Loc wr w.heap.size #[.slice none 0 0, .slice none 0 0] 53 ∧ OwnT wr w0.heap.size az k cz vz ((repT n p).take k) ∧ OwnT wr w0.heap.size ay k cy vy ((colT n q).take k) ∧ ApT az k vz ay k vy ∧ Below w.heap.size w wr) (fun i _ => n - (intOf i).toNat)
  case atStart => exact ⟨0, none, 0, [], none, 0, [], Nat.zero_le _, rfl, hO, hR, by simpa using OwnT.nil _ _, by simpa using OwnT.nil _ _, (fun g h _ => by rcases h with h | ⟨i, hi, _⟩; (cases h); omega), hB⟩
  case round =>
    clear hR hO hB
    obtain ⟨k, az, cz, vz, ay, cy, vy, hk, rfl, hO, hR, hz, hy, hap, hB⟩ := hrel
    have hOlt := hO.lt
    by_cases hlt : k < n
    · obtain ⟨bq, oq, rfl, g1⟩ := (hq.below hB).at k hlt
      have hbq := World.block_lt_of_cell? wr _ g1
      have hE := Own.fresh wr rfl
      have hqe := below_al (Below.refl wr.heap.size wr) (.cells #[] 2)
      have HCS := Lib.hid (colT_succ q hlt)
      generalize q.getD k 0 = Z at *
      go_wp2
      go_loopw [7, 8] (fun z i wq => ∃ (j : Nat) (ar : Option Addr) (cr : Nat), j ≤ n ∧ i = .int .i64 j ∧ z = .slice ar j cr ∧ Own wq wr.heap.size ar j cr ((conR n Z).take j) ∧ Below wr.heap.size wr wq) (fun _ i _ => n - (intOf i).toNat)
      case atStart => exact ⟨0, _, 0, Nat.zero_le _, rfl, rfl, by simpa using hE, hqe⟩
      case round =>
        clear hE hqe
        obtain ⟨j, ar, cr, hj, rfl, rfl, hor, hqr⟩ := hrel
        by_cases hjt : j < n
        · have HS := Lib.hid (conR_succ Z hjt)
          have hwq := hqr.size
          have g2 := (hqr.cell (p := ⟨bq, oq + k, none⟩) hbq).trans g1
          go_wp2_with (at_builtin; refine app1 rfl rfl hor rfl rfl (by omega) hwq ?_; intro g' cc w8 hOw hg8 hs8 hb8)
          go_roundw
          case rel => exact ⟨j + 1, _, _, by omega, by go_num, rfl, by rw [HS.out]; exact hOw, hqr.trans hb8⟩
          case measure => simp [intOf]; omega
        · obtain rfl : j = n := by omega
          rw [List.take_of_length_le (by rw [conR_len]; exact Nat.le_refl _)] at hor
          have hO3 := hO.below hqr hO.lt
          have hR3 := hR.below hqr hR.lt
          have lO := hO3.two
          have hz3 := hz.below hqr
          have hy3 := hy.below hqr
          have hB3 := hB.trans (hqr.mono (by have := hB.size; omega))
          have HRS := Lib.hid (repT_succ p hlt)
          have hwq := hqr.size
          have hzhi := hz.uHi
          have hyhi := hy.uHi
          have hrlo := hor.lo
          have hrhi := hor.hi
          clear hO hR hz hy hB g1 hbq
          obtain ⟨W, rfl⟩ : ∃ W : World, W = wr := ⟨_, rfl⟩
          go_wp2
          go_region_law (first
            | (refine step_appT1n rfl rfl hz5 rfl (ho5.mono (by omega)) (fun g h1 h2 => by have h3 := hzhi _ (.inl h1); have h4 := ho5.lo _ h2; omega) (fun i hi g h1 h2 => by have h3 := ho5.lo _ h1; have h4 := hzhi _ (.inr ⟨i, hi, h2⟩); omega) rfl (by omega) (by omega) ?_; intro g6 cc6 w6 hOT6 hg6 hat6 hb6; have hO6 := hO5.below hb6 (by omega); have lO6 := hO6.two)
            | (go_simp; go_at_call 125; refine (l01Own_any _ _ _ p _ (hp.below (below_drewN hB3 1)) (by omega)).mono ?_; rintro e w5 ⟨a5, c5, rfl, ho5', hb5⟩; have ho5 := ho5'.mono (lo' := W.heap.size) (Nat.le_refl _); have hr5 : Below W.heap.size W w5 := (Below.drew (Below.refl _ _)).trans hb5; have hO5 := hO3.below hr5 hO3.lt; have lO5 := hO5.two; have lO5a := (hO5.alloc (.cells #[.slice a5 j c5] 41)).two; have hz5 := hz3.below hr5; have hw5 := hr5.size))
          all_goals
            have hy5 := hy3.below hr5
            have hor5 := hor.below hr5
            have hvl := hz5.vlen
            have hy6 := hz5.other hy5 hap hg6
            have hap6 := ApT.snoc hz5 hy5 hap (v := (a5, j, c5)) hvl hat6 (fun q h1 h2 => by have h3 := ho5.lo _ h1; have h4 := hyhi _ h2; omega)
            have hor6 := hor5.grown hg6 (fun g h1 h2 => by have h3 := hrlo _ h1; have h4 := hzhi _ (hz5.ownBlk h2.symm); omega)
            have hsz6 := hg6.size
            have hB6 := (hB3.trans (hr5.mono (by have := hB3.size; omega))).trans (hb6.mono (by omega))
            have hR6 := (hR3.below hr5 hR3.lt).below hb6 (by omega)
            have hz7 := hOT6.setlo (p := ⟨w.heap.size + 1, 0, none⟩) (by show w.heap.size + 1 < w0.heap.size; omega) (.slice (some ⟨g6, 0, none⟩) (k + 1) cc6)
            have hy7 := hy6.setlo (p := ⟨w.heap.size + 1, 0, none⟩) (by show w.heap.size + 1 < w0.heap.size; omega) (.slice (some ⟨g6, 0, none⟩) (k + 1) cc6)
            have hor7 := (hor6.mono (lo' := w0.heap.size) (by omega)).setlo (p := ⟨w.heap.size + 1, 0, none⟩) (by show w.heap.size + 1 < w0.heap.size; omega) (.slice (some ⟨g6, 0, none⟩) (k + 1) cc6)
            have hO7 := hO6.set 0 (.slice (some ⟨g6, 0, none⟩) (k + 1) cc6)
            have hR7 := hR6.setne (a := ⟨w.heap.size + 1, 0, none⟩) (by show w.heap.size ≠ w.heap.size + 1; omega) (.slice (some ⟨g6, 0, none⟩) (k + 1) cc6)
            have hB7 := below_setne (a := ⟨w.heap.size + 1, 0, none⟩) hB6 (by show w.heap.size ≤ w.heap.size + 1; omega) (.slice (some ⟨g6, 0, none⟩) (k + 1) cc6)
            have hsz7 : (w6.setCell ⟨w.heap.size + 1, 0, none⟩ (.slice (some ⟨g6, 0, none⟩) (k + 1) cc6)).heap.size = w6.heap.size := size_set _ _ _
            simp only [Array.setIfInBounds, List.size_toArray, List.length_cons, List.length_nil, Nat.zero_add, Nat.lt_add_one, Nat.reduceAdd, Nat.reduceLT, dif_pos, Nat.zero_lt_succ] at hO7
            have hyhi6 := hyhi
            have hvl7 := hy7.vlen
            have lO7 := hO7.two
            have lO7a := (hO7.alloc (.cells #[.slice ar j cr] 41)).two
            have HSZ := Lib.hid hsz7
            have hlo7 : w0.heap.size ≤ (w6.setCell ⟨w.heap.size + 1, 0, none⟩ (.slice (some ⟨g6, 0, none⟩) (k + 1) cc6)).heap.size := by rw [hsz7]; omega
            have hyz : ∀ g, TblS ay k vy g → ∀ q, ar = some ⟨q, 0, none⟩ → q ≠ g := fun g h1 q h2 e => by have h3 := hrlo _ h2; have h4 := hyhi _ h1; omega
            have hrz : ∀ q, ar = some ⟨q, 0, none⟩ → ¬ TblS (some ⟨g6, 0, none⟩) (k + 1) (vz ++ [(a5, j, c5)]) q := fun q h2 h1 => by
              have k1 := hrlo _ h2
              have k2 := hrhi _ h2
              rcases h1 with e | ⟨i, hi, e⟩
              · cases e
                rcases hat6 with e | e
                · have := hzhi _ (hz5.ownBlk e); omega
                · omega
              · by_cases hik : i < k
                · have e2 : (vz ++ [(a5, j, c5)]).getD i svO = vz.getD i svO := by simp [List.getD_eq_getElem?_getD, List.getElem?_append_left (show i < vz.length by omega)]
                  rw [e2] at e
                  have := hzhi _ (.inr ⟨i, hik, e⟩); omega
                · have e2 : i = vz.length := by omega
                  have e3 : (vz ++ [(a5, j, c5)]).getD i svO = (a5, j, c5) := by rw [e2]; simp [List.getD_eq_getElem?_getD]
                  rw [e3] at e
                  have := ho5.lo _ e; omega
            clear hsz7 hO6 lO6 hO5 lO5 lO5a hB6 hB3 hO3 lO hR3 hR6 hz3 hy3 hz5 hy5
            generalize w6.setCell ⟨w.heap.size + 1, 0, none⟩ (.slice (some ⟨g6, 0, none⟩) (k + 1) cc6) = w7 at *
            go_wp2_with (at_builtin; refine appT1g rfl rfl hy7 rfl hor7 (fun g h1 h2 => hyz _ (.inl h1) _ h2 rfl) (fun i hi g h1 h2 => hyz _ (.inr ⟨i, hi, h2⟩) _ h1 rfl) rfl (by omega) hlo7 ?_; intro g9 cc9 w9 hOT9 hg9 hat9 hb9; have hO9 := hO7.below hb9 (by omega); have lO9 := hO9.two)
            have hz9 := hy7.other hz7 hap6.symm hg9
            have hap9 := (ApT.snoc hy7 hz7 hap6.symm (v := (ar, j, cr)) hvl7 hat9 hrz).symm
            have hO10 := hO9.set 1 (.slice (some ⟨g9, 0, none⟩) (k + 1) cc9)
            have hR9 := (hR7.below hb9 (by omega)).setne (a := ⟨w.heap.size + 1, 1, none⟩) (by show w.heap.size ≠ w.heap.size + 1; omega) (.slice (some ⟨g9, 0, none⟩) (k + 1) cc9)
            have hB9 := below_setne (a := ⟨w.heap.size + 1, 1, none⟩) (hB7.trans (hb9.mono (by omega))) (by show w.heap.size ≤ w.heap.size + 1; omega) (.slice (some ⟨g9, 0, none⟩) (k + 1) cc9)
            go_roundw
            case rel => exact ⟨k + 1, _, _, _, _, _, _, by omega, by go_num, hO10, hR9, by rw [HRS.out]; exact hz9.setlo (by show w.heap.size + 1 < w0.heap.size; omega) _, by rw [HCS.out]; exact hOT9.setlo (by show w.heap.size + 1 < w0.heap.size; omega) _, hap9, hB9⟩
            case measure => simp [intOf]; omega
    · obtain rfl : k = n := by omega
      rw [List.take_of_length_le (by simp [repT])] at hz
      rw [List.take_of_length_le (by simp [colT])] at hy
      have lO := hO.two
      have lR := hR.two
      go_wp2
      refine bodyPost_ret (v := sAgg az k cz ay k cy) (by simp [results, Tryz.results186, go_sem, lR, lO]) rfl ⟨az, cz, vz, ay, cy, vy, rfl, ⟨?_, ?_, hap⟩, ?_⟩
      · exact ((hz.setlo (by show w.heap.size < w0.heap.size; omega) _).setlo (by show w.heap.size < w0.heap.size; omega) _).mono (by omega)
      · exact ((hy.setlo (by show w.heap.size < w0.heap.size; omega) _).setlo (by show w.heap.size < w0.heap.size; omega) _).mono (by omega)
      · exact below_setne (below_setne hB (by show w.heap.size ≤ w.heap.size; omega) _) (by show w.heap.size ≤ w.heap.size; omega) _
set_option maxHeartbeats 1000000 in
theorem l02Flip_any (n : Nat) (w : World) (hn : n ≤ 1000) :
    Calls Tryz.prog 170 #[.int .i64 n] w fun e w' => ∃ a1 c1 vs a1' c1' vs', e = .returned (sAgg a1 n c1 a1' n c1') ∧ OwnS w' w.heap.size a1 n c1 vs (repT n (unitL n)) a1' n c1' vs' (colT n (unitL n)) ∧ Below w.heap.size w w' := by
  have hR := Loc.new w rfl #[.slice none 0 0, .slice none 0 0] 53
  have hB := below_al (Below.refl w.heap.size w) (.cells #[.slice none 0 0, .slice none 0 0] 53)
  go_enter Tryz.func170, Tryz.ntmps170
  go_wp2_with fail
  generalize w.alloc (.cells #[.slice none 0 0, .slice none 0 0] 53) = w0 at *
  refine (l01Unit_any n _ (by omega)).mono ?_
  rintro e w1 ⟨a1, c1, rfl, ho1, hb1⟩
  go_wp2_with fail
  refine (l02Twist_any _ n _ (unitL n) _ _ (unitL n) _ ho1.row ho1.row hn).mono ?_
  rintro e w2 ⟨a2, c2, vs2, a2', c2', vs2', rfl, ho2, hb2⟩
  have hz : w.heap.size < w0.heap.size := hR.lt
  have s1 := hb1.size
  have hR2 := (hR.below hb1 hR.lt).below hb2 (hR.below hb1 hR.lt).lt
  have lR := hR2.two
  go_wp2
  refine bodyPost_ret (v := sAgg a2 n c2 a2' n c2') (by simp [results, Tryz.results170, go_sem, lR]) rfl ⟨a2, c2, vs2, a2', c2', vs2', rfl, ⟨?_, ?_, ho2.ap⟩, ?_⟩
  · exact ((ho2.f.setlo (by show w.heap.size < w1.heap.size; omega) _).setlo (by show w.heap.size < w1.heap.size; omega) _).mono (by omega)
  · exact ((ho2.s.setlo (by show w.heap.size < w1.heap.size; omega) _).setlo (by show w.heap.size < w1.heap.size; omega) _).mono (by omega)
  · exact below_setne (below_setne (below_th (below_th hB hb1) hb2) (by show w.heap.size ≤ w.heap.size; omega) _) (by show w.heap.size ≤ w.heap.size; omega) _
theorem getD_eq_at {xs : List Int} {k : Nat} (h : k < xs.length) : xs.getD k 0 = xs[k] := by simp [List.getD_eq_getElem?_getD, List.getElem?_eq_getElem h]
set_option maxHeartbeats 400000 in
theorem l01Same_any (a1 a2 : Option Addr) (n1 n2 c1 c2 : Nat) (xs ys : List Int) (w : World) (h1 : Row w a1 n1 xs) (h2 : Row w a2 n2 ys) (hm : n1 ≤ 9223372036854775807) :
    Calls Tryz.prog 110 #[.slice a1 n1 c1, .slice a2 n2 c2] w fun e w' => e = .returned (.bool (decide (xs = ys))) ∧ ∃ n, w' = w.drewN n := by
  have hl1 := h1.len
  have hl2 := h2.len
  by_cases hl : n1 = n2
  · subst hl
    have HL := Lib.hid hl1; have HL2 := Lib.hid hl2; clear hl1 hl2
    have hb : ((n1 : Int) != (n1 : Int)) = false := by simp
    go_enter Tryz.func110, Tryz.ntmps110
    go_wp2
    clear hb
    go_loopw [5] (fun i wr => ∃ k : Nat, k ≤ n1 ∧ i = .int .i64 k ∧ xs.take k = ys.take k ∧ ∃ n, wr = w.drewN n) (fun i _ => n1 - (intOf i).toNat)
    case atStart => exact ⟨0, Nat.zero_le _, rfl, by simp, 0, rfl⟩
    case round =>
      obtain ⟨k, hk, rfl, ht, n, rfl⟩ := hrel
      have HT := Lib.hid ht; clear ht
      by_cases hlt : k < n1
      · obtain ⟨b1, o1, rfl, g1⟩ := h1.at k hlt
        obtain ⟨b2, o2, rfl, g2⟩ := h2.at k hlt
        have hx : k < xs.length := by have := HL.out; omega
        have hy : k < ys.length := by have := HL2.out; omega
        clear h1 h2
        go_wp2
        go_quiet (fail)
        go_wp2
        · go_ret
          refine ⟨ret_bool ?_, n + nq, by rw [World.drewN_drewN]⟩
          rename_i hne
          simp only [Bool.false_eq, decide_eq_false_iff_not]
          rintro rfl
          simp at hne
        · go_roundw
          case rel =>
            rename_i hne
            refine ⟨k + 1, by omega, by go_num, take_eq_succ hx hy HT.out (by simpa using hne), n + nq, rfl⟩
          case measure => simp [intOf]; omega
      · obtain rfl : k = n1 := by omega
        go_wp2
        go_ret
        refine ⟨ret_bool ?_, _, rfl⟩
        have := HT.out
        rw [List.take_of_length_le (by have := HL.out; omega), List.take_of_length_le (by have := HL2.out; omega)] at this
        simp [this]
  · have hb : ((n1 : Int) != (n2 : Int)) = true := by simp; omega
    have hne : ¬ xs = ys := by rintro rfl; omega
    clear hl1 hl2
    go_enter Tryz.func110, Tryz.ntmps110
    go_wp2
    go_ret
    exact ⟨ret_bool (by simp [hne]), 0, rfl⟩
theorem l01Same_b (a1 a2 : Option Addr) (n1 n2 c1 c2 : Nat) (xs ys : List Int) (w : World) (h1 : Row w a1 n1 xs) (h2 : Row w a2 n2 ys) (hm : n1 ≤ 9223372036854775807) (b : Bool) (hb : decide (xs = ys) = b) :
    Calls Tryz.prog 110 #[.slice a1 n1 c1, .slice a2 n2 c2] w fun e w' => e = .returned (.bool b) ∧ Below w.heap.size w w' :=
  (l01Same_any a1 a2 n1 n2 c1 c2 xs ys w h1 h2 hm).mono fun e w' ⟨he, m, hw⟩ => ⟨he.trans (ret_bool hb), by rw [hw]; exact below_drewN (Below.refl _ _) m⟩
set_option maxHeartbeats 1000000 in
theorem l01Index_any (a : Option Addr) (n c : Nat) (xs : List Int) (y : Int) (w : World) (h1 : Row w a n xs) (hm : n ≤ 1000000000000) :
    Calls Tryz.prog 159 #[.slice a n c, .int .i64 y] w fun e w' => ∃ r : Int, e = .returned (.int .i64 r) ∧ decide (0 ≤ r) = decide (y ∈ xs) ∧ w = w' := by
  have hl := h1.len
  have HL := Lib.hid hl; clear hl
  go_enter Tryz.func159, Tryz.ntmps159
  go_wp2
  go_loop [5] (fun i => ∃ k : Nat, k ≤ n ∧ i = .int .i64 k ∧ Hid (y ∉ xs.take k)) (fun i => n - (intOf i).toNat)
  case atStart => exact ⟨0, Nat.zero_le _, rfl, by simp [Hid]⟩
  case round =>
    obtain ⟨k, hk, rfl, hno⟩ := hrel
    by_cases hlt : k < n
    · obtain ⟨b, off, rfl, g1⟩ := h1.at k hlt
      have hx : k < xs.length := by have := HL.out; omega
      rw [getD_eq_at hx] at g1
      obtain ⟨X, hX⟩ : ∃ X, X = xs[k] := ⟨_, rfl⟩
      rw [← hX] at g1
      by_cases he : X = y
      · have hmem : y ∈ xs := by rw [← he, hX]; exact List.getElem_mem hx
        have HMm := Lib.hid hmem
        clear hmem hX
        subst he
        go_wp2
        go_ret
        exact ⟨_, rfl, by have := HMm.out; simp [this], rfl⟩
      · have hno2 : y ∉ xs.take (k + 1) := by
          rw [List.take_succ_eq_append_getElem hx]
          simp only [List.mem_append, List.mem_singleton, not_or]
          exact ⟨hno, fun e => he (hX.trans e.symm)⟩
        have HN := Lib.hid hno2
        have hb : (X == y) = false := by simpa using he
        clear hno2 hX
        go_wp2
        go_round
        case rel => exact ⟨k + 1, by omega, by go_num, HN⟩
        case measure => simp [intOf]; omega
    · obtain rfl : k = n := by omega
      have hno' : y ∉ xs := by
        have h := hno
        rw [List.take_of_length_le (by have := HL.out; omega)] at h
        exact h
      have HN := Lib.hid hno'; clear hno'
      go_wp2
      go_ret
      exact ⟨-1, rfl, by have := HN.out; simp [this], rfl⟩
theorem l01Has_any (a : Option Addr) (n c : Nat) (xs : List Int) (y : Int) (w : World) (h1 : Row w a n xs) (hm : n ≤ 1000000000000) :
    Calls Tryz.prog 140 #[.slice a n c, .int .i64 y] w fun e w' => e = .returned (.bool (decide (y ∈ xs))) ∧ w = w' := by
  go_enter Tryz.func140, Tryz.ntmps140
  go_wp2_with fail
  refine (l01Index_any _ _ _ xs y _ h1 hm).mono ?_
  rintro e w' ⟨r, rfl, hr, rfl⟩
  have HR := Lib.hid hr; clear hr
  go_wp2
  go_ret
  exact ⟨ret_bool HR.out, rfl⟩
def grwL (n : Nat) : Nat → List Int → List (List Int)
  | 0, s => [s]
  | m + 1, s => (List.range n).flatMap fun x : Nat => if (x : Int) ∈ s then [] else grwL n m (s ++ [(x : Int)])
def grwP (n m : Nat) (s : List Int) (k : Nat) : List (List Int) := (List.range k).flatMap fun x : Nat => if (x : Int) ∈ s then [] else grwL n m (s ++ [(x : Int)])
theorem grwP_succ (n m : Nat) (s : List Int) (k : Nat) : grwP n m s (k + 1) = grwP n m s k ++ if (k : Int) ∈ s then [] else grwL n m (s ++ [(k : Int)]) := by
  simp [grwP, List.range_succ, List.flatMap_append]
theorem grwL_bd (n : Nat) : ∀ (m : Nat) (s : List Int), (grwL n m s).length ≤ n ^ m := by
  intro m
  induction m with
  | zero => intro s; simp [grwL]
  | succ m ih =>
    intro s
    have : ∀ k, (grwP n m s k).length ≤ k * n ^ m := by
      intro k
      induction k with
      | zero => simp [grwP]
      | succ k ihk =>
        rw [grwP_succ, List.length_append, Nat.add_mul, Nat.one_mul]
        split
        · simp; omega
        · have := ih (s ++ [(k : Int)]); omega
    have h := this n
    rw [Nat.pow_succ, Nat.mul_comm]
    exact h
theorem grwP_le (n m : Nat) (s : List Int) (k : Nat) : (grwP n m s k).length ≤ k * n ^ m := by
  induction k with
  | zero => simp [grwP]
  | succ k ihk =>
    rw [grwP_succ, List.length_append, Nat.add_mul, Nat.one_mul]
    split
    · simp; omega
    · have := grwL_bd n m (s ++ [(k : Int)]); omega
theorem pow_bd {n m : Nat} (hn : n ≤ 7) (hm : m ≤ 7) : n ^ m ≤ 1000000 := by
  have h1 : n ^ m ≤ 7 ^ m := Nat.pow_le_pow_left hn m
  have h2 : 7 ^ m ≤ 7 ^ 7 := Nat.pow_le_pow_right (by omega) hm
  have h3 : (7 : Nat) ^ 7 ≤ 1000000 := by decide
  omega
def GrT (E : Nat → Prop) (w : World) (lo : Nat) (a : Option Addr) (n : Nat) (vs : List SV) (yss : List (List Int)) (e : Ending) (w' : World) : Prop :=
  ∃ a' n' c' vs', e = .returned (.slice a' n' c') ∧ OwnT w' lo a' n' c' vs' yss ∧ Marked (TblS a n vs) w w' ∧ ∀ g, TblS a' n' vs' g → TblS a n vs g ∨ E g ∨ w.heap.size ≤ g
theorem Marked.refl (S : Nat → Prop) (w : World) : Marked S w w := ⟨rfl, rfl, rfl, Nat.le_refl _, fun _ _ _ => rfl⟩
theorem Marked.ofB {S : Nat → Prop} {w w' : World} (h : Below w.heap.size w w') : Marked S w w' := ⟨h.os, h.tape, h.output, h.size, fun k hk _ => h.block k hk⟩
theorem Marked.then {S T : Nat → Prop} {a b c : World} (h : Marked S a b) (k : Marked T b c) (hT : ∀ g, T g → S g ∨ a.heap.size ≤ g) : Marked S a c :=
  ⟨k.os.trans h.os, k.tape.trans h.tape, k.output.trans h.output, Nat.le_trans h.size k.size, fun i hi hs => (k.block i (Nat.lt_of_lt_of_le hi h.size) (fun ht => by rcases hT i ht with h' | h'; exact hs h'; omega)).trans (h.block i hi hs)⟩
theorem Marked.grown {w w' : World} {lo : Nat} {a : Option Addr} {n c : Nat} {vs : List SV} {xss : List (List Int)} (h : OwnT w lo a n c vs xss) (hg : w.grownBy w' (Value.slice a n c).ownBlock) : Marked (TblS a n vs) w w' :=
  ⟨hg.os, hg.tape, hg.output, hg.size, fun k hk hs => hg.block k hk (fun e => hs (h.ownBlk e.symm))⟩
theorem Marked.own {w w' : World} {S : Nat → Prop} {lo : Nat} {a : Option Addr} {n c : Nat} {xs : List Int} (h : Own w lo a n c xs) (hm : Marked S w w') (hS : ∀ g, a = some ⟨g, 0, none⟩ → ¬ S g) : Own w' lo a n c xs := h.uKeep hm hS
theorem Marked.lowb {w w' : World} {S : Nat → Prop} {lo : Nat} (hm : Marked S w w') (hS : ∀ g, S g → lo ≤ g) (hlo : lo ≤ w.heap.size) : Below lo w w' := ⟨hm.os, hm.tape, hm.output, hm.size, fun k hk => hm.block k (by omega) (fun h => by have := hS k h; omega)⟩
theorem TblS.snoc {a : Option Addr} {n : Nat} {vs : List SV} {v : SV} {g q : Nat} (hl : vs.length = n) (h : TblS (some ⟨g, 0, none⟩) (n + 1) (vs ++ [v]) q) : q = g ∨ v.1 = some ⟨q, 0, none⟩ ∨ TblS a n vs q := by
  rcases h with e | ⟨i, hi, e⟩
  · cases e; exact .inl rfl
  · by_cases hin : i < n
    · have : (vs ++ [v]).getD i svO = vs.getD i svO := by simp [List.getD_eq_getElem?_getD, List.getElem?_append_left (show i < vs.length by omega)]
      rw [this] at e
      exact .inr (.inr (.inr ⟨i, hin, e⟩))
    · obtain rfl : i = n := by omega
      have : (vs ++ [v]).getD i svO = v := by rw [← hl]; simp [List.getD_eq_getElem?_getD]
      rw [this] at e
      exact .inr (.inl e)
set_option maxHeartbeats 8000000 in
theorem l01Grow_any (N lo : Nat) (hN : N ≤ 7) : ∀ (m k : Nat) (s : List Int) (sa : Option Addr) (sc : Nat) (a : Option Addr) (n c : Nat) (vs : List SV) (xss : List (List Int)) (w : World),
    k + m = N → Own w lo sa k sc s → OwnT w lo a n c vs xss → (∀ g, sa = some ⟨g, 0, none⟩ → ¬ TblS a n vs g) → lo ≤ w.heap.size → n + N ^ m ≤ 1000000000 →
    Calls Tryz.prog 124 #[.int .i64 N, .slice sa k sc, .slice a n c] w (GrT (fun g => sa = some ⟨g, 0, none⟩) w lo a n vs (xss ++ grwL N m s)) := by
  intro m
  induction m with
  | zero =>
    intro k s sa sc a n c vs xss w hkm hs ht hap hlo hn
    obtain rfl : k = N := by omega
    have hq : ((k : Int) == (k : Int)) = true := by simp
    have h1 : Apart a sa := fun g hg hsa => hap g hsa (.inl hg)
    have h2 : ∀ j, j < n → Apart sa (vs.getD j svO).1 := fun j hj g hg hv => hap g hg (.inr ⟨j, hj, hv⟩)
    go_enter Tryz.func124, Tryz.ntmps124
    go_wp2_with (at_builtin; refine appT1g rfl rfl ht rfl hs h1 h2 rfl (by omega) hlo ?_; intro g' cc w8 hO hg8 hat8 hb8)
    go_ret
    refine ⟨_, _, _, _, rfl, hO, Marked.grown ht hg8, fun g hg => ?_⟩
    rcases TblS.snoc (a := a) ht.vlen hg with rfl | h | h
    · rcases hat8 with h | h
      · exact .inl (ht.ownBlk h)
      · exact .inr (.inr h)
    · exact .inr (.inl h)
    · exact .inl h
  | succ m ih =>
    intro k s sa sc a n c vs xss w hkm hs ht hap hlo hn
    have IH := Lib.hid ih
    have hq : ((k : Int) == (N : Int)) = false := by simp; omega
    have HP := Lib.hid (grwP_le N m s)
    have HS := Lib.hid (grwP_succ N m s)
    have HE : Hid (grwP N m s N = grwL N (m + 1) s) := Lib.hid rfl
    have hpw : N ^ (m + 1) = N ^ m * N := Nat.pow_succ ..
    have HN : Hid (∀ x, x < N → n + x * N ^ m + N ^ m ≤ 1000000000) := Lib.hid fun x hx => by
      have : (x + 1) * N ^ m ≤ N * N ^ m := Nat.mul_le_mul_right _ hx
      rw [Nat.add_mul, Nat.one_mul] at this
      rw [Nat.mul_comm] at hpw
      omega
    have HAP := Lib.hid hap
    have HL := Lib.hid ht.tbl.len
    have hlo2 := hlo
    clear ih hn hpw hap
    go_enter Tryz.func124, Tryz.ntmps124
    go_wp2
    go_loopw [2, 7] (fun l i wr => ∃ (x : Nat) (a' : Option Addr) (n' c' : Nat) (vs' : List SV), x ≤ N ∧ i = .int .i64 x ∧ l = .slice a' n' c' ∧ OwnT wr lo a' n' c' vs' (xss ++ grwP N m s x) ∧ Marked (TblS a n vs) w wr ∧ (∀ g, TblS a' n' vs' g → TblS a n vs g ∨ w.heap.size ≤ g)) (fun _ i _ => N - (intOf i).toNat)
    case atStart => exact ⟨0, a, n, c, vs, Nat.zero_le _, rfl, rfl, by simpa [grwP] using ht, Marked.refl _ _, fun g h => .inl h⟩
    case round =>
      obtain ⟨x, a', n', c', vs', hx, rfl, rfl, ht', hM, hsub⟩ := hrel
      have HSUB := Lib.hid hsub
      clear hsub
      by_cases hlt : x < N
      · have hs' := Marked.own hs hM (fun g hg => HAP.out g hg)
        have hwr := hM.size
        have hnl := ht'.tbl.len
        rw [List.length_append] at hnl
        have hn' : n' + N ^ m ≤ 1000000000 := by have := HN.out x hlt; have := HP.out x; have := HL.out; omega
        clear hnl
        have HT := HS.out x
        go_wp2_with fail
        refine (l01Has_any sa k sc s (x : Int) _ hs'.row (by omega)).mono ?_
        rintro e w2 ⟨rfl, rfl⟩
        by_cases hin : (x : Int) ∈ s
        · have hd : decide ((x : Int) ∈ s) = true := by simpa using hin
          rw [hd]
          rw [if_pos hin, List.append_nil] at HT
          have HTT := Lib.hid HT
          clear HT hin hd
          go_wp2
          go_roundw
          case rel => exact ⟨x + 1, a', n', c', vs', by omega, by go_num, rfl, by rw [HTT.out]; exact ht', hM, HSUB.out⟩
          case measure => simp [intOf]; omega
        · have hd : decide ((x : Int) ∈ s) = false := by simpa using hin
          rw [hd]
          rw [if_neg hin] at HT
          have HTT := Lib.hid HT
          clear HT hin hd
          go_wp2_with fail
          refine (l01Own_any sa k sc s _ hs'.row (by omega)).mono ?_
          rintro e w3 ⟨a5, c5, rfl, ho5, hb3⟩
          have hz3 := hb3.size
          go_wp2_with (at_builtin; refine app1 rfl rfl ho5 rfl rfl (by omega) hz3 ?_; intro g' cc w8 hO hg8 hs8 hb8)
          have hb38 := hb3.trans hb8
          have hgl := hO.lt
          refine (IH.out (k + 1) (s ++ [(x : Int)]) (some ⟨g', 0, none⟩) cc a' n' c' vs' _ w8 (by omega) (hO.mono (by omega)) (ht'.below hb38) (fun g e h => by cases e; have := ht'.uHi _ h; omega) (by have := hb38.size; omega) hn').mono ?_
          rintro e w9 ⟨a9, n9, c9, vs9, rfl, ht9, hM9, hsub9⟩
          go_wp2
          go_roundw
          case rel =>
            refine ⟨x + 1, a9, n9, c9, vs9, by omega, by go_num, rfl, by rw [HTT.out, ← List.append_assoc]; exact ht9, (hM.then (Marked.ofB (S := fun _ => False) hb38) (fun _ h => h.elim)).then hM9 HSUB.out, fun g hg => ?_⟩
            rcases hsub9 g hg with h | h | h
            · exact HSUB.out g h
            · cases h; exact .inr (by omega)
            · exact .inr (by have := hb38.size; omega)
          case measure => simp [intOf]; omega
      · obtain rfl : N = x := by omega
        go_wp2
        go_ret
        exact ⟨a', n', c', vs', rfl, by rw [← HE.out]; exact ht', hM, fun g hg => (HSUB.out g hg).elim .inl (fun h => .inr (.inr h))⟩
def prmL (n : Nat) : List (List Int) := grwL n n []
set_option maxHeartbeats 2000000 in
theorem l01Perms_any (N : Nat) (w : World) (hN : N ≤ 7) :
    Calls Tryz.prog 82 #[.int .i64 N] w fun e w' => ∃ a n c vs, e = .returned (.slice a n c) ∧ OwnT w' w.heap.size a n c vs (prmL N) ∧ Below w.heap.size w w' := by
  have hp := pow_bd hN hN
  go_enter Tryz.func82, Tryz.ntmps82
  go_wp2_with fail
  refine (l01Grow_any N w.heap.size hN N 0 [] (some ⟨w.heap.size, 0, none⟩) 0 (some ⟨w.heap.size + 1, 0, none⟩) 0 0 [] [] _ (by omega) ((Own.fresh w rfl).alloc _) ((OwnT.fresh (w.alloc (.cells #[] 2)) (b := w.heap.size + 1) (by simp)).mono (lo' := w.heap.size) (by simp)) (fun g hg h => ?_) (by simp; omega) (by omega)).mono ?_
  · cases hg
    rcases h with h | ⟨i, hi, _⟩
    · injection h with h; injection h with h; omega
    · omega
  · rintro e w1 ⟨a', n', c', vs', rfl, ht, hM, hsub⟩
    go_wp2
    go_ret
    refine ⟨a', n', c', vs', rfl, ht, ?_⟩
    have h1 : Below w.heap.size (((w.alloc (.cells #[] 2)).alloc (.cells #[] 41))) w1 := Marked.lowb hM (fun g hg => by
      rcases hg with h | ⟨i, hi, _⟩
      · injection h with h; injection h with h; omega
      · omega) (by simp; omega)
    exact (below_al (below_al (Below.refl _ _) _) _).trans h1
end Go.Proofs.YtaddclaadbjnlaaGreat
