/-
  The twist of two permutations, and the new desk: what the reference's functions compute.
  No condition but bounds on lengths.
-/
import Derived.Test.YthkpdodhkgdiaaaTabG
import Derived.Test.YthkpdodhkgdiaaaOwn
import Derived.Test.YthkpdodhkgdiaaaPerm
import Derived.Test.YthkpdodhkgdiaaaUDS
import Derived.Deep.RegionLaw
namespace Go.Proofs.Ythkpdodhkgdiaaa
set_option maxRecDepth 100000
set_option linter.unusedVariables false
set_option linter.unusedSimpArgs false
open Go.RowKit

def conR (n : Nat) (z : Int) : List Int := (List.range n).map fun _ => z
theorem conR_len (n : Nat) (z : Int) : (conR n z).length = n := by simp [conR]
theorem conR_succ {n j : Nat} (z : Int) (h : j < n) : (conR n z).take (j + 1) = (conR n z).take j ++ [z] := by
  rw [List.take_succ_eq_append_getElem (by rw [conR_len]; exact h)]; simp [conR]
/-- rows that are all p -/
def repT (n : Nat) (p : List Int) : List (List Int) := List.replicate n p
/-- rows of one number each -/
def colT (n : Nat) (q : List Int) : List (List Int) := (List.range n).map fun x => conR n (q.getD x 0)
theorem repT_succ {n k : Nat} (p : List Int) (h : k < n) : (repT n p).take (k + 1) = (repT n p).take k ++ [p] := by
  rw [List.take_succ_eq_append_getElem (by simp [repT]; exact h)]; simp [repT]
theorem colT_succ {n k : Nat} (q : List Int) (h : k < n) : (colT n q).take (k + 1) = (colT n q).take k ++ [conR n (q.getD k 0)] := by
  rw [List.take_succ_eq_append_getElem (by simp [colT]; exact h)]; simp [colT]

set_option maxHeartbeats 8000000 in
theorem l02Twist_any (a : Option Addr) (n c : Nat) (p : List Int) (a' : Option Addr) (c' : Nat) (q : List Int) (w : World) (hp : Row w a n p) (hq : Row w a' n q) (hn : n ≤ 1000) :
    Calls Try.prog 185 #[.slice a n c, .slice a' n c'] w fun e w' => ∃ a1 c1 vs a1' c1' vs', e = .returned (sAgg a1 n c1 a1' n c1') ∧ OwnS w' w.heap.size a1 n c1 vs (repT n p) a1' n c1' vs' (colT n q) ∧ Below w.heap.size w w' := by
  have hR := (Loc.new w rfl #[.slice none 0 0, .slice none 0 0] 35).alloc (.cells #[.slice none 0 0, .slice none 0 0] 35)
  have hO := Loc.new (w.alloc (.cells #[.slice none 0 0, .slice none 0 0] 35)) rfl #[.slice none 0 0, .slice none 0 0] 35
  rw [size_alloc] at hO
  have hB := below_al (below_al (Below.refl w.heap.size w) (.cells #[.slice none 0 0, .slice none 0 0] 35)) (.cells #[.slice none 0 0, .slice none 0 0] 35)
  have HPL := Lib.hid hp.len
  go_enter Try.func185, Try.ntmps185
  go_wp2
  generalize hw0 : (w.alloc (.cells #[.slice none 0 0, .slice none 0 0] 35)).alloc (.cells #[.slice none 0 0, .slice none 0 0] 35) = w0 at *
  have hz0 : w0.heap.size = w.heap.size + 2 := by rw [← hw0]; simp
  clear hw0
  go_loopw [6] (fun i wr => ∃ (k : Nat) (az : Option Addr) (cz : Nat) (vz : List SV) (ay : Option Addr) (cy : Nat) (vy : List SV), k ≤ n ∧ i = .int .i64 k ∧ Loc wr (w.heap.size + 1) #[.slice az k cz, .slice ay k cy] 35 ∧ Loc wr w.heap.size #[.slice none 0 0, .slice none 0 0] 35 ∧ OwnT wr w0.heap.size az k cz vz ((repT n p).take k) ∧ OwnT wr w0.heap.size ay k cy vy ((colT n q).take k) ∧ ApT az k vz ay k vy ∧ Below w.heap.size w wr) (fun i _ => n - (intOf i).toNat)
  case atStart => exact ⟨0, none, 0, [], none, 0, [], Nat.zero_le _, rfl, hO, hR, by simpa using OwnT.nil _ _, by simpa using OwnT.nil _ _, (fun g h _ => by rcases h with h | ⟨i, hi, _⟩; (cases h); omega), hB⟩
  case round =>
    clear hR hO hB
    obtain ⟨k, az, cz, vz, ay, cy, vy, hk, rfl, hO, hR, hz, hy, hap, hB⟩ := hrel
    have hOlt := hO.lt
    by_cases hlt : k < n
    · obtain ⟨bq, oq, rfl, g1⟩ := (hq.below hB).at k hlt
      have hbq := World.block_lt_of_cell? wr _ g1
      have hE := Own.fresh wr rfl
      have hqe := below_al (Below.refl wr.heap.size wr) (.cells #[] 2)
      have HCS := Lib.hid (colT_succ q hlt)
      generalize q.getD k 0 = Z at *
      go_wp2
      go_loopw [7, 8] (fun z i wq => ∃ (j : Nat) (ar : Option Addr) (cr : Nat), j ≤ n ∧ i = .int .i64 j ∧ z = .slice ar j cr ∧ Own wq wr.heap.size ar j cr ((conR n Z).take j) ∧ Below wr.heap.size wr wq) (fun _ i _ => n - (intOf i).toNat)
      case atStart => exact ⟨0, _, 0, Nat.zero_le _, rfl, rfl, by simpa using hE, hqe⟩
      case round =>
        clear hE hqe
        obtain ⟨j, ar, cr, hj, rfl, rfl, hor, hqr⟩ := hrel
        by_cases hjt : j < n
        · have HS := Lib.hid (conR_succ Z hjt)
          have hwq := hqr.size
          have g2 := (hqr.cell (p := ⟨bq, oq + k, none⟩) hbq).trans g1
          go_wp2_with (at_builtin; refine app1 rfl rfl hor rfl rfl (by omega) hwq ?_; intro g' cc w8 hOw hg8 hs8 hb8)
          go_roundw
          case rel => exact ⟨j + 1, _, _, by omega, by go_num, rfl, by rw [HS.out]; exact hOw, hqr.trans hb8⟩
          case measure => simp [intOf]; omega
        · obtain rfl : j = n := by omega
          rw [List.take_of_length_le (by rw [conR_len]; exact Nat.le_refl _)] at hor
          have hO3 := hO.below hqr hO.lt
          have hR3 := hR.below hqr hR.lt
          have lO := hO3.two
          have hz3 := hz.below hqr
          have hy3 := hy.below hqr
          have hB3 := hB.trans (hqr.mono (by have := hB.size; omega))
          have HRS := Lib.hid (repT_succ p hlt)
          have hwq := hqr.size
          have hzhi := hz.uHi
          have hyhi := hy.uHi
          have hrlo := hor.lo
          have hrhi := hor.hi
          clear hO hR hz hy hB g1 hbq
          obtain ⟨W, rfl⟩ : ∃ W : World, W = wr := ⟨_, rfl⟩
          go_wp2
          go_region_law (first
            | (refine step_appT1n rfl rfl hz5 rfl (ho5.mono (by omega)) (fun g h1 h2 => by have h3 := hzhi _ (.inl h1); have h4 := ho5.lo _ h2; omega) (fun i hi g h1 h2 => by have h3 := ho5.lo _ h1; have h4 := hzhi _ (.inr ⟨i, hi, h2⟩); omega) rfl (by omega) (by omega) ?_; intro g6 cc6 w6 hOT6 hg6 hat6 hb6; have hO6 := hO5.below hb6 (by omega); have lO6 := hO6.two)
            | (go_simp; go_at_call 156; refine (l01Own_any _ _ _ p _ (hp.below (below_drewN hB3 1)) (by omega)).mono ?_; rintro e w5 ⟨a5, c5, rfl, ho5', hb5⟩; have ho5 := ho5'.mono (lo' := W.heap.size) (Nat.le_refl _); have hr5 : Below W.heap.size W w5 := (Below.drew (Below.refl _ _)).trans hb5; have hO5 := hO3.below hr5 hO3.lt; have lO5 := hO5.two; have lO5a := (hO5.alloc (.cells #[.slice a5 j c5] 22)).two; have hz5 := hz3.below hr5; have hw5 := hr5.size))
          all_goals
            have hy5 := hy3.below hr5
            have hor5 := hor.below hr5
            have hvl := hz5.vlen
            have hy6 := hz5.other hy5 hap hg6
            have hap6 := ApT.snoc hz5 hy5 hap (v := (a5, j, c5)) hvl hat6 (fun q h1 h2 => by have h3 := ho5.lo _ h1; have h4 := hyhi _ h2; omega)
            have hor6 := hor5.grown hg6 (fun g h1 h2 => by have h3 := hrlo _ h1; have h4 := hzhi _ (hz5.ownBlk h2.symm); omega)
            have hsz6 := hg6.size
            have hB6 := (hB3.trans (hr5.mono (by have := hB3.size; omega))).trans (hb6.mono (by omega))
            have hR6 := (hR3.below hr5 hR3.lt).below hb6 (by omega)
            have hz7 := hOT6.setlo (p := ⟨w.heap.size + 1, 0, none⟩) (by show w.heap.size + 1 < w0.heap.size; omega) (.slice (some ⟨g6, 0, none⟩) (k + 1) cc6)
            have hy7 := hy6.setlo (p := ⟨w.heap.size + 1, 0, none⟩) (by show w.heap.size + 1 < w0.heap.size; omega) (.slice (some ⟨g6, 0, none⟩) (k + 1) cc6)
            have hor7 := (hor6.mono (lo' := w0.heap.size) (by omega)).setlo (p := ⟨w.heap.size + 1, 0, none⟩) (by show w.heap.size + 1 < w0.heap.size; omega) (.slice (some ⟨g6, 0, none⟩) (k + 1) cc6)
            have hO7 := hO6.set 0 (.slice (some ⟨g6, 0, none⟩) (k + 1) cc6)
            have hR7 := hR6.setne (a := ⟨w.heap.size + 1, 0, none⟩) (by show w.heap.size ≠ w.heap.size + 1; omega) (.slice (some ⟨g6, 0, none⟩) (k + 1) cc6)
            have hB7 := below_setne (a := ⟨w.heap.size + 1, 0, none⟩) hB6 (by show w.heap.size ≤ w.heap.size + 1; omega) (.slice (some ⟨g6, 0, none⟩) (k + 1) cc6)
            have hsz7 : (w6.setCell ⟨w.heap.size + 1, 0, none⟩ (.slice (some ⟨g6, 0, none⟩) (k + 1) cc6)).heap.size = w6.heap.size := size_set _ _ _
            simp only [Array.setIfInBounds, List.size_toArray, List.length_cons, List.length_nil, Nat.zero_add, Nat.lt_add_one, Nat.reduceAdd, Nat.reduceLT, dif_pos, Nat.zero_lt_succ] at hO7
            have hyhi6 := hyhi
            have hvl7 := hy7.vlen
            have lO7 := hO7.two
            have lO7a := (hO7.alloc (.cells #[.slice ar j cr] 22)).two
            have HSZ := Lib.hid hsz7
            have hlo7 : w0.heap.size ≤ (w6.setCell ⟨w.heap.size + 1, 0, none⟩ (.slice (some ⟨g6, 0, none⟩) (k + 1) cc6)).heap.size := by rw [hsz7]; omega
            have hyz : ∀ g, TblS ay k vy g → ∀ q, ar = some ⟨q, 0, none⟩ → q ≠ g := fun g h1 q h2 e => by have h3 := hrlo _ h2; have h4 := hyhi _ h1; omega
            have hrz : ∀ q, ar = some ⟨q, 0, none⟩ → ¬ TblS (some ⟨g6, 0, none⟩) (k + 1) (vz ++ [(a5, j, c5)]) q := fun q h2 h1 => by
              have k1 := hrlo _ h2
              have k2 := hrhi _ h2
              rcases h1 with e | ⟨i, hi, e⟩
              · cases e
                rcases hat6 with e | e
                · have := hzhi _ (hz5.ownBlk e); omega
                · omega
              · by_cases hik : i < k
                · have e2 : (vz ++ [(a5, j, c5)]).getD i svO = vz.getD i svO := by simp [List.getD_eq_getElem?_getD, List.getElem?_append_left (show i < vz.length by omega)]
                  rw [e2] at e
                  have := hzhi _ (.inr ⟨i, hik, e⟩); omega
                · have e2 : i = vz.length := by omega
                  have e3 : (vz ++ [(a5, j, c5)]).getD i svO = (a5, j, c5) := by rw [e2]; simp [List.getD_eq_getElem?_getD]
                  rw [e3] at e
                  have := ho5.lo _ e; omega
            clear hsz7 hO6 lO6 hO5 lO5 lO5a hB6 hB3 hO3 lO hR3 hR6 hz3 hy3 hz5 hy5
            generalize w6.setCell ⟨w.heap.size + 1, 0, none⟩ (.slice (some ⟨g6, 0, none⟩) (k + 1) cc6) = w7 at *
            go_wp2_with (at_builtin; refine appT1g rfl rfl hy7 rfl hor7 (fun g h1 h2 => hyz _ (.inl h1) _ h2 rfl) (fun i hi g h1 h2 => hyz _ (.inr ⟨i, hi, h2⟩) _ h1 rfl) rfl (by omega) hlo7 ?_; intro g9 cc9 w9 hOT9 hg9 hat9 hb9; have hO9 := hO7.below hb9 (by omega); have lO9 := hO9.two)
            have hz9 := hy7.other hz7 hap6.symm hg9
            have hap9 := (ApT.snoc hy7 hz7 hap6.symm (v := (ar, j, cr)) hvl7 hat9 hrz).symm
            have hO10 := hO9.set 1 (.slice (some ⟨g9, 0, none⟩) (k + 1) cc9)
            have hR9 := (hR7.below hb9 (by omega)).setne (a := ⟨w.heap.size + 1, 1, none⟩) (by show w.heap.size ≠ w.heap.size + 1; omega) (.slice (some ⟨g9, 0, none⟩) (k + 1) cc9)
            have hB9 := below_setne (a := ⟨w.heap.size + 1, 1, none⟩) (hB7.trans (hb9.mono (by omega))) (by show w.heap.size ≤ w.heap.size + 1; omega) (.slice (some ⟨g9, 0, none⟩) (k + 1) cc9)
            go_roundw
            case rel => exact ⟨k + 1, _, _, _, _, _, _, by omega, by go_num, hO10, hR9, by rw [HRS.out]; exact hz9.setlo (by show w.heap.size + 1 < w0.heap.size; omega) _, by rw [HCS.out]; exact hOT9.setlo (by show w.heap.size + 1 < w0.heap.size; omega) _, hap9, hB9⟩
            case measure => simp [intOf]; omega
    · obtain rfl : k = n := by omega
      rw [List.take_of_length_le (by simp [repT])] at hz
      rw [List.take_of_length_le (by simp [colT])] at hy
      have lO := hO.two
      have lR := hR.two
      go_wp2
      refine bodyPost_ret (v := sAgg az k cz ay k cy) (by simp [results, Try.results185, go_sem, lR, lO]) rfl ⟨az, cz, vz, ay, cy, vy, rfl, ⟨?_, ?_, hap⟩, ?_⟩
      · exact ((hz.setlo (by show w.heap.size < w0.heap.size; omega) _).setlo (by show w.heap.size < w0.heap.size; omega) _).mono (by omega)
      · exact ((hy.setlo (by show w.heap.size < w0.heap.size; omega) _).setlo (by show w.heap.size < w0.heap.size; omega) _).mono (by omega)
      · exact below_setne (below_setne hB (by show w.heap.size ≤ w.heap.size; omega) _) (by show w.heap.size ≤ w.heap.size; omega) _

theorem rep_2 : repT 2 (unitL 2) = [[0, 1], [0, 1]] := by decide
theorem col_2 : colT 2 (unitL 2) = [[0, 0], [1, 1]] := by decide

set_option maxHeartbeats 1000000 in
theorem l02Flip_any (n : Nat) (w : World) (hn : n ≤ 1000) :
    Calls Try.prog 138 #[.int .i64 n] w fun e w' => ∃ a1 c1 vs a1' c1' vs', e = .returned (sAgg a1 n c1 a1' n c1') ∧ OwnS w' w.heap.size a1 n c1 vs (repT n (unitL n)) a1' n c1' vs' (colT n (unitL n)) ∧ Below w.heap.size w w' := by
  have hR := Loc.new w rfl #[.slice none 0 0, .slice none 0 0] 35
  have hB := below_al (Below.refl w.heap.size w) (.cells #[.slice none 0 0, .slice none 0 0] 35)
  go_enter Try.func138, Try.ntmps138
  go_wp2_with fail
  generalize w.alloc (.cells #[.slice none 0 0, .slice none 0 0] 35) = w0 at *
  refine (l01Unit_any n _ (by omega)).mono ?_
  rintro e w1 ⟨a1, c1, rfl, ho1, hb1⟩
  go_wp2_with fail
  refine (l02Twist_any _ n _ (unitL n) _ _ (unitL n) _ ho1.row ho1.row hn).mono ?_
  rintro e w2 ⟨a2, c2, vs2, a2', c2', vs2', rfl, ho2, hb2⟩
  have hz : w.heap.size < w0.heap.size := hR.lt
  have s1 := hb1.size
  have hR2 := (hR.below hb1 hR.lt).below hb2 (hR.below hb1 hR.lt).lt
  have lR := hR2.two
  go_wp2
  refine bodyPost_ret (v := sAgg a2 n c2 a2' n c2') (by simp [results, Try.results138, go_sem, lR]) rfl ⟨a2, c2, vs2, a2', c2', vs2', rfl, ⟨?_, ?_, ho2.ap⟩, ?_⟩
  · exact ((ho2.f.setlo (by show w.heap.size < w1.heap.size; omega) _).setlo (by show w.heap.size < w1.heap.size; omega) _).mono (by omega)
  · exact ((ho2.s.setlo (by show w.heap.size < w1.heap.size; omega) _).setlo (by show w.heap.size < w1.heap.size; omega) _).mono (by omega)
  · exact below_setne (below_setne (below_th (below_th hB hb1) hb2) (by show w.heap.size ≤ w.heap.size; omega) _) (by show w.heap.size ≤ w.heap.size; omega) _

/-- two rows that are typed out -/
theorem OwnT.lit2 {w : World} {lo b b1 b2 : Nat} {x1 y1 x2 y2 : Int} (h : Loc w b #[.slice (some ⟨b1, 0, none⟩) 2 2, .slice (some ⟨b2, 0, none⟩) 2 2] 22) (h1 : Loc w b1 #[.int .i64 x1, .int .i64 y1] 2) (h2 : Loc w b2 #[.int .i64 x2, .int .i64 y2] 2) (e1 : b ≠ b1) (e2 : b ≠ b2) (e3 : b1 ≠ b2) (l0 : lo ≤ b) (l1 : lo ≤ b1) (l2 : lo ≤ b2) :
    OwnT w lo (some ⟨b, 0, none⟩) 2 2 [(some ⟨b1, 0, none⟩, 2, 2), (some ⟨b2, 0, none⟩, 2, 2)] [[x1, y1], [x2, y2]] := by
  have o1 : Own w lo (some ⟨b1, 0, none⟩) 2 2 [x1, y1] := Own.mk rfl l1 h1 (Nat.le_refl _) (by unfold maxLen; omega) rfl rfl
  have o2 : Own w lo (some ⟨b2, 0, none⟩) 2 2 [x2, y2] := Own.mk rfl l2 h2 (Nat.le_refl _) (by unfold maxLen; omega) rfl rfl
  refine ⟨rfl, rfl, ownsRow_mk rfl l0 h (Nat.le_refl _) (by unfold maxLen; omega) rfl rfl, fun i hi => ?_, fun i hi => ?_, fun i j hi hj hij => ?_⟩
  · match i, hi with
    | 0, _ => exact o1
    | 1, _ => exact o2
  · match i, hi with
    | 0, _ => intro g h h'; cases h; cases h'; exact e1 rfl
    | 1, _ => intro g h h'; cases h; cases h'; exact e2 rfl
  · match i, hi, j, hj with
    | 0, _, 0, _ => exact absurd rfl hij
    | 0, _, 1, _ => intro g h h'; cases h; cases h'; exact e3 rfl
    | 1, _, 0, _ => intro g h h'; cases h; cases h'; exact e3 rfl
    | 1, _, 1, _ => exact absurd rfl hij

set_option maxHeartbeats 2000000 in
theorem l20New_any (w : World) : Calls Try.prog 77 #[] w (RetD0 w [[0, 1], [0, 1]] [[0, 0], [1, 1]] [[0, 1], [0, 1]] 2 []) := by
  have hR := Loc.new w rfl #[.slice none 0 0, .slice none 0 0, .slice none 0 0, .int .i64 0, .slice none 0 0] 39
  have hB := below_al (Below.refl w.heap.size w) (.cells #[.slice none 0 0, .slice none 0 0, .slice none 0 0, .int .i64 0, .slice none 0 0] 39)
  go_enter Try.func77, Try.ntmps77
  go_wp2_with fail
  generalize w.alloc (.cells #[.slice none 0 0, .slice none 0 0, .slice none 0 0, .int .i64 0, .slice none 0 0] 39) = w0 at *
  refine (l02Flip_any 2 _ (by omega)).mono ?_
  rintro e w1 ⟨a3, c3, vs3, a3', c3', vs3', rfl, ho3, hb1⟩
  rw [rep_2, col_2] at ho3
  have hz : w.heap.size < w0.heap.size := hR.lt
  have s1 := hb1.size
  have hR1 := hR.below hb1 hR.lt
  have k1 := ((Loc.new w1 rfl #[.int .i64 0, .int .i64 1] 2).alloc (.cells #[.int .i64 0, .int .i64 1] 2)).alloc (.cells #[.slice (some ⟨w1.heap.size, 0, none⟩) 2 2, .slice (some ⟨w1.heap.size + 1, 0, none⟩) 2 2] 22)
  have k2 := (Loc.new (w1.alloc (.cells #[.int .i64 0, .int .i64 1] 2)) rfl #[.int .i64 0, .int .i64 1] 2).alloc (.cells #[.slice (some ⟨w1.heap.size, 0, none⟩) 2 2, .slice (some ⟨w1.heap.size + 1, 0, none⟩) 2 2] 22)
  have k3 := Loc.new ((w1.alloc (.cells #[.int .i64 0, .int .i64 1] 2)).alloc (.cells #[.int .i64 0, .int .i64 1] 2)) rfl #[.slice (some ⟨w1.heap.size, 0, none⟩) 2 2, .slice (some ⟨w1.heap.size + 1, 0, none⟩) 2 2] 22
  rw [size_alloc] at k2
  rw [size_alloc, size_alloc] at k3
  have hT := OwnT.lit2 (lo := w1.heap.size) k3 k1 k2 (by omega) (by omega) (by omega) (by omega) (by omega) (by omega)
  have hR4 := ((hR1.alloc (.cells #[.int .i64 0, .int .i64 1] 2)).alloc (.cells #[.int .i64 0, .int .i64 1] 2)).alloc (.cells #[.slice (some ⟨w1.heap.size, 0, none⟩) 2 2, .slice (some ⟨w1.heap.size + 1, 0, none⟩) 2 2] 22)
  have ho4 := ((ho3.alloc (.cells #[.int .i64 0, .int .i64 1] 2)).alloc (.cells #[.int .i64 0, .int .i64 1] 2)).alloc (.cells #[.slice (some ⟨w1.heap.size, 0, none⟩) 2 2, .slice (some ⟨w1.heap.size + 1, 0, none⟩) 2 2] 22)
  have hB4 := below_al (below_al (below_al (below_th hB hb1) (.cells #[.int .i64 0, .int .i64 1] 2)) (.cells #[.int .i64 0, .int .i64 1] 2)) (.cells #[.slice (some ⟨w1.heap.size, 0, none⟩) 2 2, .slice (some ⟨w1.heap.size + 1, 0, none⟩) 2 2] 22)
  have lR := hR4.five
  have hap : ∀ g, SolS a3 2 vs3 a3' 2 vs3' g → ¬ TblS (some ⟨w1.heap.size + 1 + 1, 0, none⟩) 2 [(some ⟨w1.heap.size, 0, none⟩, 2, 2), (some ⟨w1.heap.size + 1, 0, none⟩, 2, 2)] g := fun g h1 h2 => by have e1 := ho3.uHi g h1; have e2 := hT.uLo g h2; omega
  go_wp2
  refine bodyPost_ret (v := dAgg a3 2 c3 a3' 2 c3' (some ⟨w1.heap.size + 1 + 1, 0, none⟩) 2 2 2 none 0 0) (by simp [results, Try.results77, go_sem, lR]) rfl ⟨a3, 2, c3, a3', 2, c3', _, 2, 2, none, 0, 0, vs3, vs3', _, rfl, ⟨⟨?_, ?_, Own.nil _ _⟩, hap, (fun g _ h => by cases h), (fun g _ h => by cases h)⟩, ?_⟩
  · refine OwnS.mono (lo := w0.heap.size) ?_ (by omega)
    iterate 5 refine OwnS.setlo ?_ (by show w.heap.size < w0.heap.size; omega) _
    exact ho4
  · refine OwnT.mono (lo := w1.heap.size) ?_ (by omega)
    iterate 5 refine OwnT.setlo ?_ (by show w.heap.size < w1.heap.size; omega) _
    exact hT
  · iterate 5 refine below_setne ?_ (by show w.heap.size ≤ w.heap.size; omega) _
    exact hB4

set_option maxHeartbeats 2000000 in
theorem spec_Nd_l (w : World) : Calls Try.prog 22 #[] w (RetD0 w [[0, 1], [0, 1]] [[0, 0], [1, 1]] [[0, 1], [0, 1]] 2 []) := by
  have hR := Loc.new w rfl #[.slice none 0 0, .slice none 0 0, .slice none 0 0, .int .i64 0, .slice none 0 0] 39
  have hB := below_al (Below.refl w.heap.size w) (.cells #[.slice none 0 0, .slice none 0 0, .slice none 0 0, .int .i64 0, .slice none 0 0] 39)
  go_enter Try.func22, Try.ntmps22
  go_wp2_with fail
  generalize w.alloc (.cells #[.slice none 0 0, .slice none 0 0, .slice none 0 0, .int .i64 0, .slice none 0 0] 39) = w0 at *
  refine (l20New_any _).mono ?_
  rintro e w1 ⟨a, n, c, a', n', c', p, m, d, q, l, k, vs, vs', ps, rfl, ho, hb1⟩
  have hR1 := hR.below hb1 hR.lt
  have hz : w.heap.size < w0.heap.size := hR.lt
  have lR := hR1.five
  go_wp2
  refine bodyPost_ret (v := dAgg a n c a' n' c' p m d 2 q l k) (by simp [results, Try.results22, go_sem, lR]) rfl ⟨a, n, c, a', n', c', p, m, d, q, l, k, vs, vs', ps, rfl, ⟨⟨?_, ?_, ?_⟩, ho.ap1, ho.ap2, ho.ap3⟩, ?_⟩
  · refine OwnS.mono (lo := w0.heap.size) ?_ (by omega)
    iterate 5 refine OwnS.setlo ?_ (by show w.heap.size < w0.heap.size; omega) _
    exact ho.o.s
  · refine OwnT.mono (lo := w0.heap.size) ?_ (by omega)
    iterate 5 refine OwnT.setlo ?_ (by show w.heap.size < w0.heap.size; omega) _
    exact ho.o.r
  · refine Own.mono (lo := w0.heap.size) ?_ (by omega)
    iterate 5 refine Own.setlo ?_ (by show w.heap.size < w0.heap.size; omega) _
    exact ho.o.b
  · iterate 5 refine below_setne ?_ (by show w.heap.size ≤ w.heap.size; omega) _
    exact below_th hB hb1

end Go.Proofs.Ythkpdodhkgdiaaa
