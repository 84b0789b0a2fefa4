/-
  Walks and plain laws of this seat, some texts in one.
  No condition but bounds on lengths.
-/
import Derived.Test.YtdkpalllfekiiaaGreatBase
import Derived.Test.YtdkpalllfekiiaaGreatBase2
import Derived.Deep.RegionLaw
import Derived.Deep.DeepCutAuto
import Derived.Deep.RegionHeld3
import Derived.Deep.LoopGhost
namespace Go.Proofs.YtdkpalllfekiiaaGreat
set_option maxRecDepth 100000
set_option linter.unusedVariables false
set_option linter.unusedSimpArgs false
open Go.RowKit

def conR (n : Nat) (z : Int) : List Int := (List.range n).map fun _ => z
theorem conR_len (n : Nat) (z : Int) : (conR n z).length = n := by simp [conR]
theorem conR_succ {n j : Nat} (z : Int) (h : j < n) : (conR n z).take (j + 1) = (conR n z).take j ++ [z] := by
  rw [List.take_succ_eq_append_getElem (by rw [conR_len]; exact h)]; simp [conR]
/-- rows that are all p -/
def repT (n : Nat) (p : List Int) : List (List Int) := List.replicate n p
/-- rows of one number each -/
def colT (n : Nat) (q : List Int) : List (List Int) := (List.range n).map fun x => conR n (q.getD x 0)
theorem repT_succ {n k : Nat} (p : List Int) (h : k < n) : (repT n p).take (k + 1) = (repT n p).take k ++ [p] := by
  rw [List.take_succ_eq_append_getElem (by simp [repT]; exact h)]; simp [repT]
theorem colT_succ {n k : Nat} (q : List Int) (h : k < n) : (colT n q).take (k + 1) = (colT n q).take k ++ [conR n (q.getD k 0)] := by
  rw [List.take_succ_eq_append_getElem (by simp [colT]; exact h)]; simp [colT]

set_option maxHeartbeats 8000000 in
theorem l02Twist_any (a : Option Addr) (n c : Nat) (p : List Int) (a' : Option Addr) (c' : Nat) (q : List Int) (w : World) (hp : Row w a n p) (hq : Row w a' n q) (hn : n ≤ 1000) :
    Calls Tryz.prog 129 #[.slice a n c, .slice a' n c'] w fun e w' => ∃ a1 c1 vs a1' c1' vs', e = .returned (sAgg a1 n c1 a1' n c1') ∧ OwnS w' w.heap.size a1 n c1 vs (repT n p) a1' n c1' vs' (colT n q) ∧ Below w.heap.size w w' := by
  have hR := (Loc.new w rfl #[.slice none 0 0, .slice none 0 0] 42).alloc (.cells #[.slice none 0 0, .slice none 0 0] 42)
  have hO := Loc.new (w.alloc (.cells #[.slice none 0 0, .slice none 0 0] 42)) rfl #[.slice none 0 0, .slice none 0 0] 42
  rw [size_alloc] at hO
  have hB := below_al (below_al (Below.refl w.heap.size w) (.cells #[.slice none 0 0, .slice none 0 0] 42)) (.cells #[.slice none 0 0, .slice none 0 0] 42)
  have HPL := Lib.hid hp.len
  go_enter Tryz.func129, Tryz.ntmps129
  go_wp2
  generalize hw0 : (w.alloc (.cells #[.slice none 0 0, .slice none 0 0] 42)).alloc (.cells #[.slice none 0 0, .slice none 0 0] 42) = w0 at *
  have hz0 : w0.heap.size = w.heap.size + 2 := by rw [← hw0]; simp
  clear hw0
  go_loopw [6] (fun i wr => ∃ (k : Nat) (az : Option Addr) (cz : Nat) (vz : List SV) (ay : Option Addr) (cy : Nat) (vy : List SV), k ≤ n ∧ i = .int .i64 k ∧ Loc wr (w.heap.size + 1) #[.slice az k cz, .slice ay k cy] 42 ∧ Loc wr w.heap.size #[.slice none 0 0, .slice none 0 0] 42 ∧ OwnT wr w0.heap.size az k cz vz ((repT n p).take k) ∧ OwnT wr w0.heap.size ay k cy vy ((colT n q).take k) ∧ ApT az k vz ay k vy ∧ Below w.heap.size w wr) (fun i _ => n - (intOf i).toNat)
  case atStart => exact ⟨0, none, 0, [], none, 0, [], Nat.zero_le _, rfl, hO, hR, by simpa using OwnT.nil _ _, by simpa using OwnT.nil _ _, (fun g h _ => by rcases h with h | ⟨i, hi, _⟩; (cases h); omega), hB⟩
  case round =>
    clear hR hO hB
    obtain ⟨k, az, cz, vz, ay, cy, vy, hk, rfl, hO, hR, hz, hy, hap, hB⟩ := hrel
    have hOlt := hO.lt
    by_cases hlt : k < n
    · obtain ⟨bq, oq, rfl, g1⟩ := (hq.below hB).at k hlt
      have hbq := World.block_lt_of_cell? wr _ g1
      have hE := Own.fresh wr rfl
      have hqe := below_al (Below.refl wr.heap.size wr) (.cells #[] 2)
      have HCS := Lib.hid (colT_succ q hlt)
      generalize q.getD k 0 = Z at *
      go_wp2
      go_loopw [7, 8] (fun z i wq => ∃ (j : Nat) (ar : Option Addr) (cr : Nat), j ≤ n ∧ i = .int .i64 j ∧ z = .slice ar j cr ∧ Own wq wr.heap.size ar j cr ((conR n Z).take j) ∧ Below wr.heap.size wr wq) (fun _ i _ => n - (intOf i).toNat)
      case atStart => exact ⟨0, _, 0, Nat.zero_le _, rfl, rfl, by simpa using hE, hqe⟩
      case round =>
        clear hE hqe
        obtain ⟨j, ar, cr, hj, rfl, rfl, hor, hqr⟩ := hrel
        by_cases hjt : j < n
        · have HS := Lib.hid (conR_succ Z hjt)
          have hwq := hqr.size
          have g2 := (hqr.cell (p := ⟨bq, oq + k, none⟩) hbq).trans g1
          go_wp2_with (at_builtin; refine app1 rfl rfl hor rfl rfl (by omega) hwq ?_; intro g' cc w8 hOw hg8 hs8 hb8)
          go_roundw
          case rel => exact ⟨j + 1, _, _, by omega, by go_num, rfl, by rw [HS.out]; exact hOw, hqr.trans hb8⟩
          case measure => simp [intOf]; omega
        · obtain rfl : j = n := by omega
          rw [List.take_of_length_le (by rw [conR_len]; exact Nat.le_refl _)] at hor
          have hO3 := hO.below hqr hO.lt
          have hR3 := hR.below hqr hR.lt
          have lO := hO3.two
          have hz3 := hz.below hqr
          have hy3 := hy.below hqr
          have hB3 := hB.trans (hqr.mono (by have := hB.size; omega))
          have HRS := Lib.hid (repT_succ p hlt)
          have hwq := hqr.size
          have hzhi := hz.uHi
          have hyhi := hy.uHi
          have hrlo := hor.lo
          have hrhi := hor.hi
          clear hO hR hz hy hB g1 hbq
          obtain ⟨W, rfl⟩ : ∃ W : World, W = wr := ⟨_, rfl⟩
          go_wp2
          go_region_law (first
            | (refine step_appT1n rfl rfl hz5 rfl (ho5.mono (by omega)) (fun g h1 h2 => by have h3 := hzhi _ (.inl h1); have h4 := ho5.lo _ h2; omega) (fun i hi g h1 h2 => by have h3 := ho5.lo _ h1; have h4 := hzhi _ (.inr ⟨i, hi, h2⟩); omega) rfl (by omega) (by omega) ?_; intro g6 cc6 w6 hOT6 hg6 hat6 hb6; have hO6 := hO5.below hb6 (by omega); have lO6 := hO6.two)
            | (go_simp; go_at_call 54; refine (l01Own_any _ _ _ p _ (hp.below (below_drewN hB3 1)) (by omega)).mono ?_; rintro e w5 ⟨a5, c5, rfl, ho5', hb5⟩; have ho5 := ho5'.mono (lo' := W.heap.size) (Nat.le_refl _); have hr5 : Below W.heap.size W w5 := (Below.drew (Below.refl _ _)).trans hb5; have hO5 := hO3.below hr5 hO3.lt; have lO5 := hO5.two; have lO5a := (hO5.alloc (.cells #[.slice a5 j c5] 24)).two; have hz5 := hz3.below hr5; have hw5 := hr5.size))
          all_goals
            have hy5 := hy3.below hr5
            have hor5 := hor.below hr5
            have hvl := hz5.vlen
            have hy6 := hz5.other hy5 hap hg6
            have hap6 := ApT.snoc hz5 hy5 hap (v := (a5, j, c5)) hvl hat6 (fun q h1 h2 => by have h3 := ho5.lo _ h1; have h4 := hyhi _ h2; omega)
            have hor6 := hor5.grown hg6 (fun g h1 h2 => by have h3 := hrlo _ h1; have h4 := hzhi _ (hz5.ownBlk h2.symm); omega)
            have hsz6 := hg6.size
            have hB6 := (hB3.trans (hr5.mono (by have := hB3.size; omega))).trans (hb6.mono (by omega))
            have hR6 := (hR3.below hr5 hR3.lt).below hb6 (by omega)
            have hz7 := hOT6.setlo (p := ⟨w.heap.size + 1, 0, none⟩) (by show w.heap.size + 1 < w0.heap.size; omega) (.slice (some ⟨g6, 0, none⟩) (k + 1) cc6)
            have hy7 := hy6.setlo (p := ⟨w.heap.size + 1, 0, none⟩) (by show w.heap.size + 1 < w0.heap.size; omega) (.slice (some ⟨g6, 0, none⟩) (k + 1) cc6)
            have hor7 := (hor6.mono (lo' := w0.heap.size) (by omega)).setlo (p := ⟨w.heap.size + 1, 0, none⟩) (by show w.heap.size + 1 < w0.heap.size; omega) (.slice (some ⟨g6, 0, none⟩) (k + 1) cc6)
            have hO7 := hO6.set 0 (.slice (some ⟨g6, 0, none⟩) (k + 1) cc6)
            have hR7 := hR6.setne (a := ⟨w.heap.size + 1, 0, none⟩) (by show w.heap.size ≠ w.heap.size + 1; omega) (.slice (some ⟨g6, 0, none⟩) (k + 1) cc6)
            have hB7 := below_setne (a := ⟨w.heap.size + 1, 0, none⟩) hB6 (by show w.heap.size ≤ w.heap.size + 1; omega) (.slice (some ⟨g6, 0, none⟩) (k + 1) cc6)
            have hsz7 : (w6.setCell ⟨w.heap.size + 1, 0, none⟩ (.slice (some ⟨g6, 0, none⟩) (k + 1) cc6)).heap.size = w6.heap.size := size_set _ _ _
            simp only [Array.setIfInBounds, List.size_toArray, List.length_cons, List.length_nil, Nat.zero_add, Nat.lt_add_one, Nat.reduceAdd, Nat.reduceLT, dif_pos, Nat.zero_lt_succ] at hO7
            have hyhi6 := hyhi
            have hvl7 := hy7.vlen
            have lO7 := hO7.two
            have lO7a := (hO7.alloc (.cells #[.slice ar j cr] 24)).two
            have HSZ := Lib.hid hsz7
            have hlo7 : w0.heap.size ≤ (w6.setCell ⟨w.heap.size + 1, 0, none⟩ (.slice (some ⟨g6, 0, none⟩) (k + 1) cc6)).heap.size := by rw [hsz7]; omega
            have hyz : ∀ g, TblS ay k vy g → ∀ q, ar = some ⟨q, 0, none⟩ → q ≠ g := fun g h1 q h2 e => by have h3 := hrlo _ h2; have h4 := hyhi _ h1; omega
            have hrz : ∀ q, ar = some ⟨q, 0, none⟩ → ¬ TblS (some ⟨g6, 0, none⟩) (k + 1) (vz ++ [(a5, j, c5)]) q := fun q h2 h1 => by
              have k1 := hrlo _ h2
              have k2 := hrhi _ h2
              rcases h1 with e | ⟨i, hi, e⟩
              · cases e
                rcases hat6 with e | e
                · have := hzhi _ (hz5.ownBlk e); omega
                · omega
              · by_cases hik : i < k
                · have e2 : (vz ++ [(a5, j, c5)]).getD i svO = vz.getD i svO := by simp [List.getD_eq_getElem?_getD, List.getElem?_append_left (show i < vz.length by omega)]
                  rw [e2] at e
                  have := hzhi _ (.inr ⟨i, hik, e⟩); omega
                · have e2 : i = vz.length := by omega
                  have e3 : (vz ++ [(a5, j, c5)]).getD i svO = (a5, j, c5) := by rw [e2]; simp [List.getD_eq_getElem?_getD]
                  rw [e3] at e
                  have := ho5.lo _ e; omega
            clear hsz7 hO6 lO6 hO5 lO5 lO5a hB6 hB3 hO3 lO hR3 hR6 hz3 hy3 hz5 hy5
            generalize w6.setCell ⟨w.heap.size + 1, 0, none⟩ (.slice (some ⟨g6, 0, none⟩) (k + 1) cc6) = w7 at *
            go_wp2_with (at_builtin; refine appT1g rfl rfl hy7 rfl hor7 (fun g h1 h2 => hyz _ (.inl h1) _ h2 rfl) (fun i hi g h1 h2 => hyz _ (.inr ⟨i, hi, h2⟩) _ h1 rfl) rfl (by omega) hlo7 ?_; intro g9 cc9 w9 hOT9 hg9 hat9 hb9; have hO9 := hO7.below hb9 (by omega); have lO9 := hO9.two)
            have hz9 := hy7.other hz7 hap6.symm hg9
            have hap9 := (ApT.snoc hy7 hz7 hap6.symm (v := (ar, j, cr)) hvl7 hat9 hrz).symm
            have hO10 := hO9.set 1 (.slice (some ⟨g9, 0, none⟩) (k + 1) cc9)
            have hR9 := (hR7.below hb9 (by omega)).setne (a := ⟨w.heap.size + 1, 1, none⟩) (by show w.heap.size ≠ w.heap.size + 1; omega) (.slice (some ⟨g9, 0, none⟩) (k + 1) cc9)
            have hB9 := below_setne (a := ⟨w.heap.size + 1, 1, none⟩) (hB7.trans (hb9.mono (by omega))) (by show w.heap.size ≤ w.heap.size + 1; omega) (.slice (some ⟨g9, 0, none⟩) (k + 1) cc9)
            go_roundw
            case rel => exact ⟨k + 1, _, _, _, _, _, _, by omega, by go_num, hO10, hR9, by rw [HRS.out]; exact hz9.setlo (by show w.heap.size + 1 < w0.heap.size; omega) _, by rw [HCS.out]; exact hOT9.setlo (by show w.heap.size + 1 < w0.heap.size; omega) _, hap9, hB9⟩
            case measure => simp [intOf]; omega
    · obtain rfl : k = n := by omega
      rw [List.take_of_length_le (by simp [repT])] at hz
      rw [List.take_of_length_le (by simp [colT])] at hy
      have lO := hO.two
      have lR := hR.two
      go_wp2
      refine bodyPost_ret (v := sAgg az k cz ay k cy) (by simp [results, Tryz.results129, go_sem, lR, lO]) rfl ⟨az, cz, vz, ay, cy, vy, rfl, ⟨?_, ?_, hap⟩, ?_⟩
      · exact ((hz.setlo (by show w.heap.size < w0.heap.size; omega) _).setlo (by show w.heap.size < w0.heap.size; omega) _).mono (by omega)
      · exact ((hy.setlo (by show w.heap.size < w0.heap.size; omega) _).setlo (by show w.heap.size < w0.heap.size; omega) _).mono (by omega)
      · exact below_setne (below_setne hB (by show w.heap.size ≤ w.heap.size; omega) _) (by show w.heap.size ≤ w.heap.size; omega) _

theorem rep_2 : repT 2 (unitL 2) = [[0, 1], [0, 1]] := by decide
theorem col_2 : colT 2 (unitL 2) = [[0, 0], [1, 1]] := by decide

set_option maxHeartbeats 1000000 in
theorem l02Flip_any (n : Nat) (w : World) (hn : n ≤ 1000) :
    Calls Tryz.prog 119 #[.int .i64 n] w fun e w' => ∃ a1 c1 vs a1' c1' vs', e = .returned (sAgg a1 n c1 a1' n c1') ∧ OwnS w' w.heap.size a1 n c1 vs (repT n (unitL n)) a1' n c1' vs' (colT n (unitL n)) ∧ Below w.heap.size w w' := by
  have hR := Loc.new w rfl #[.slice none 0 0, .slice none 0 0] 42
  have hB := below_al (Below.refl w.heap.size w) (.cells #[.slice none 0 0, .slice none 0 0] 42)
  go_enter Tryz.func119, Tryz.ntmps119
  go_wp2_with fail
  generalize w.alloc (.cells #[.slice none 0 0, .slice none 0 0] 42) = w0 at *
  refine (l01Unit_any n _ (by omega)).mono ?_
  rintro e w1 ⟨a1, c1, rfl, ho1, hb1⟩
  go_wp2_with fail
  refine (l02Twist_any _ n _ (unitL n) _ _ (unitL n) _ ho1.row ho1.row hn).mono ?_
  rintro e w2 ⟨a2, c2, vs2, a2', c2', vs2', rfl, ho2, hb2⟩
  have hz : w.heap.size < w0.heap.size := hR.lt
  have s1 := hb1.size
  have hR2 := (hR.below hb1 hR.lt).below hb2 (hR.below hb1 hR.lt).lt
  have lR := hR2.two
  go_wp2
  refine bodyPost_ret (v := sAgg a2 n c2 a2' n c2') (by simp [results, Tryz.results119, go_sem, lR]) rfl ⟨a2, c2, vs2, a2', c2', vs2', rfl, ⟨?_, ?_, ho2.ap⟩, ?_⟩
  · exact ((ho2.f.setlo (by show w.heap.size < w1.heap.size; omega) _).setlo (by show w.heap.size < w1.heap.size; omega) _).mono (by omega)
  · exact ((ho2.s.setlo (by show w.heap.size < w1.heap.size; omega) _).setlo (by show w.heap.size < w1.heap.size; omega) _).mono (by omega)
  · exact below_setne (below_setne (below_th (below_th hB hb1) hb2) (by show w.heap.size ≤ w.heap.size; omega) _) (by show w.heap.size ≤ w.heap.size; omega) _

/-- two rows that are typed out -/
theorem OwnT.lit2 {w : World} {lo b b1 b2 : Nat} {x1 y1 x2 y2 : Int} (h : Loc w b #[.slice (some ⟨b1, 0, none⟩) 2 2, .slice (some ⟨b2, 0, none⟩) 2 2] 24) (h1 : Loc w b1 #[.int .i64 x1, .int .i64 y1] 2) (h2 : Loc w b2 #[.int .i64 x2, .int .i64 y2] 2) (e1 : b ≠ b1) (e2 : b ≠ b2) (e3 : b1 ≠ b2) (l0 : lo ≤ b) (l1 : lo ≤ b1) (l2 : lo ≤ b2) :
    OwnT w lo (some ⟨b, 0, none⟩) 2 2 [(some ⟨b1, 0, none⟩, 2, 2), (some ⟨b2, 0, none⟩, 2, 2)] [[x1, y1], [x2, y2]] := by
  have o1 : Own w lo (some ⟨b1, 0, none⟩) 2 2 [x1, y1] := Own.mk rfl l1 h1 (Nat.le_refl _) (by unfold maxLen; omega) rfl rfl
  have o2 : Own w lo (some ⟨b2, 0, none⟩) 2 2 [x2, y2] := Own.mk rfl l2 h2 (Nat.le_refl _) (by unfold maxLen; omega) rfl rfl
  refine ⟨rfl, rfl, ownsRow_mk rfl l0 h (Nat.le_refl _) (by unfold maxLen; omega) rfl rfl, fun i hi => ?_, fun i hi => ?_, fun i j hi hj hij => ?_⟩
  · match i, hi with
    | 0, _ => exact o1
    | 1, _ => exact o2
  · match i, hi with
    | 0, _ => intro g h h'; cases h; cases h'; exact e1 rfl
    | 1, _ => intro g h h'; cases h; cases h'; exact e2 rfl
  · match i, hi, j, hj with
    | 0, _, 0, _ => exact absurd rfl hij
    | 0, _, 1, _ => intro g h h'; cases h; cases h'; exact e3 rfl
    | 1, _, 0, _ => intro g h h'; cases h; cases h'; exact e3 rfl
    | 1, _, 1, _ => exact absurd rfl hij

end Go.Proofs.YtdkpalllfekiiaaGreat

namespace Go.Proofs.YtdkpalllfekiiaaGreat
set_option maxRecDepth 100000
set_option linter.unusedVariables false
set_option linter.unusedSimpArgs false
open Go.RowKit

theorem wp_app1h {o : Oper} {a : Act} {K : Act → World → Prop} {Q : Exit → Act → World → Prop} {w : World} {s x : Operand}
    (ho : o.op = .call { callee := .builtin .append, args := #[s, x], argTypes := #[24, 24] }) {lo : Nat} {ad : Option Addr} {n c : Nat} {xs : List Int} (hown : Own w lo ad n c xs) (hs : a.eval s = .slice ad n c)
    {y : Int} {t : TypeId} (hx : a.eval x = .slice (some ⟨w.heap.size, 0, none⟩) 1 1) (hlen : n + 1 ≤ 1000000000000) (hlo : lo ≤ w.heap.size)
    (h : ∀ g c' w', Own w' lo (some ⟨g, 0, none⟩) (n + 1) c' (xs ++ [y]) → w.grownBy w' (Value.slice ad n c).ownBlock → ((Value.slice ad n c).ownBlock = some g ∨ w.heap.size ≤ g) → Below lo w w' → K (a.put o.dst (.slice (some ⟨g, 0, none⟩) (n + 1) c')) w') :
    Oper.wp Tryz.prog o a (w.alloc (.cells #[.int .i64 y] t)) K Q := by
  obtain ⟨i0, hi, hz0, hz1, hz2⟩ := info_parts info_int
  refine wp_append_lies _ s x 24 ho lo 2 i0 (.int .i64 0) 1 8 und_ints hi hz0 hz1 hz2 rfl (by decide) _ n (xs.map (.int .i64)) hs (hown.2.alloc _) ⟨w.heap.size, 0, none⟩ 1 1 [.int .i64 y] hx rfl (cell_one_new _ _ _) ?_ (by omega) ?_ ?_ ?_ (w.heap.size + 1) (by simp) ?_
  · intro u hu; simp at hu; subst hu; rfl
  · unfold maxLen; omega
  · omega
  · simp; omega
  · intro g cap w' ho' hg hat hlt
    have hg' : w.grownBy w' (Value.slice ad n c).ownBlock := by
      have h1 := World.grownBy_alloc w (.cells #[.int .i64 y] t) (Value.slice ad n c).ownBlock
      exact ⟨hg.os.trans h1.os, hg.tape.trans h1.tape, hg.output.trans h1.output, Nat.le_trans h1.size hg.size, fun k hk hn => (hg.block k (Nat.lt_of_lt_of_le hk h1.size) hn).trans (h1.block k hk hn)⟩
    have hat' : (Value.slice ad n c).ownBlock = some g ∨ w.heap.size ≤ g := by
      rcases hat with hat | hat
      · exact .inl hat
      · exact .inr (by omega)
    exact h g cap w' ⟨by simp [hown.1], by simpa using ho'⟩ hg' hat' ((Below.refl _ _).grown hg' hlo (fun k hk => (World.ownsRow.lt hown.2 k hk).1))
theorem app1h {ops : Array Oper} {rest : List Oper} {o : Oper} {a : Act} {Q : Exit → Act → World → Prop} {w : World} (hgd : o.guard = none) {s x : Operand}
    (ho : o.op = .call { callee := .builtin .append, args := #[s, x], argTypes := #[24, 24] }) {lo : Nat} {ad : Option Addr} {n c : Nat} {xs : List Int} (hown : Own w lo ad n c xs) (hs : a.eval s = .slice ad n c)
    {y : Int} {t : TypeId} (hx : a.eval x = .slice (some ⟨w.heap.size, 0, none⟩) 1 1) (hlen : n + 1 ≤ 1000000000000) (hlo : lo ≤ w.heap.size)
    (h : ∀ g c' w', Own w' lo (some ⟨g, 0, none⟩) (n + 1) c' (xs ++ [y]) → w.grownBy w' (Value.slice ad n c).ownBlock → ((Value.slice ad n c).ownBlock = some g ∨ w.heap.size ≤ g) → Below lo w w' → wpList Tryz.prog ops Q rest (a.put o.dst (.slice (some ⟨g, 0, none⟩) (n + 1) c')) w') :
    wpList Tryz.prog ops Q (o :: rest) a (w.alloc (.cells #[.int .i64 y] t)) :=
  wpList_plain hgd fun _ hK => wp_app1h ho hown hs hx hlen hlo fun g c' w' a b c d => hK _ _ (h g c' w' a b c d)
theorem step_app1hn {ops : Array Oper} {o : Oper} {a : Act} {K : Act → World → Prop} {Q : Exit → Act → World → Prop} {E : Prop} {w : World} (hgd : o.guard = none) {s x : Operand}
    (ho : o.op = .call { callee := .builtin .append, args := #[s, x], argTypes := #[24, 24] }) {lo : Nat} {ad : Option Addr} {n c : Nat} {xs : List Int} (hown : Own w lo ad n c xs) (hs : a.eval s = .slice ad n c)
    {y : Int} {t : TypeId} (hx : a.eval x = .slice (some ⟨w.heap.size, 0, none⟩) 1 1) (hlen : n + 1 ≤ 1000000000000) (hlo : lo ≤ w.heap.size)
    (h : ∀ g c' w', Own w' lo (some ⟨g, 0, none⟩) (n + 1) c' (xs ++ [y]) → w.grownBy w' (Value.slice ad n c).ownBlock → ((Value.slice ad n c).ownBlock = some g ∨ w.heap.size ≤ g) → Below lo w w' → K (a.put o.dst (.slice (some ⟨g, 0, none⟩) (n + 1) c')) w') :
    if Region.wanted o (yielded ops a.tmps) = true then Oper.wp Tryz.prog o a (w.alloc (.cells #[.int .i64 y] t)) K Q else E := by
  have hw : Region.wanted o (yielded ops a.tmps) = true := by simp [Region.wanted, hgd]
  rw [if_pos hw]
  exact wp_app1h ho hown hs hx hlen hlo h
/-- two slices in blocks of their own -/
def Apr (a b : Option Addr) : Prop := ∀ g, a = some ⟨g, 0, none⟩ → b = some ⟨g, 0, none⟩ → False
theorem Apr.symm {a b : Option Addr} (h : Apr a b) : Apr b a := fun g h1 h2 => h g h2 h1
/-- a slice beside one that grows -/
theorem Own.beside {w w' : World} {lo lo' : Nat} {a b : Option Addr} {n c m d : Nat} {xs ys : List Int} (h : Own w lo a n c xs) (hb : Own w lo' b m d ys) (hap : Apr a b) (hg : w.grownBy w' (Value.slice b m d).ownBlock) : Own w' lo a n c xs :=
  h.grown hg fun g e he => by
    rcases hb.block with ⟨rfl, rfl, rfl⟩ | ⟨g', cur, rfl, _⟩
    · simp [Value.ownBlock] at he
    · simp [Value.ownBlock] at he; subst he; exact hap g e rfl
theorem Own.apart {w : World} {lo lo' : Nat} {a b : Option Addr} {n c m d : Nat} {xs ys : List Int} {g : Nat} (h : Own w lo a n c xs) (hb : Own w lo' b m d ys) (hap : Apr a b) (hat : (Value.slice b m d).ownBlock = some g ∨ w.heap.size ≤ g) : Apr a (some ⟨g, 0, none⟩) := fun q e1 e2 => by
  obtain rfl : g = q := by simpa using e2
  rcases hat with hat | hat
  · rcases hb.block with ⟨rfl, rfl, rfl⟩ | ⟨g', cur, rfl, _⟩
    · simp [Value.ownBlock] at hat
    · simp [Value.ownBlock] at hat; subst hat; exact hap _ e1 rfl
  · have := h.hi _ e1; omega
end Go.Proofs.YtdkpalllfekiiaaGreat

namespace Go.Proofs.YtdkpalllfekiiaaGreat
set_option maxRecDepth 100000
set_option linter.unusedVariables false
set_option linter.unusedSimpArgs false
open Go.RowKit

def rnV (t : List (List Int)) (p : List Int) (x y : Nat) : Int := p.getD (tv t ((backF p).getD x 0).toNat ((backF p).getD y 0).toNat) 0
def rnL (n : Nat) (t : List (List Int)) (p : List Int) : List (List Int) := tabF n (rnV t p)

end Go.Proofs.YtdkpalllfekiiaaGreat

namespace Go.Proofs.YtdkpalllfekiiaaGreat
set_option maxRecDepth 100000
set_option linter.unusedVariables false
set_option linter.unusedSimpArgs false
open Go.RowKit

theorem sq_tabF {n : Nat} {t : List (List Int)} (h : Sq n t) : tabF n (fun x y => (t.getD x []).getD y 0) = t := by
  apply List.ext_getElem
  · simp [tabF, h.1]
  · intro i h1 h2
    have hi : i < n := by simpa [tabF] using h1
    have hl := (h.2 i hi).1
    rw [List.getD_eq_getElem?_getD, List.getElem?_eq_getElem h2, Option.getD_some] at hl
    apply List.ext_getElem
    · simp [tabF, hl]
    · intro j h3 h4
      simp [tabF, List.getD_eq_getElem?_getD, List.getElem?_eq_getElem h2, List.getElem?_eq_getElem h4]
def imgI (t : List (List Int)) (p : List Int) (x y : Nat) : Int := p.getD (tv t x y) 0
/-- the pairs ahead of (x, y) are stored -/
def ImgK (n : Nat) (t : List (List Int)) (p : List Int) (V : Nat → Nat → Int) (x y : Nat) : Prop := ∀ x' y', x' < n → y' < n → (x' < x ∨ x' = x ∧ y' < y) → V (p.getD x' 0).toNat (p.getD y' 0).toNat = imgI t p x' y'
theorem ImgK.step {n : Nat} {t : List (List Int)} {p : List Int} {V : Nat → Nat → Int} {x y u v : Nat} (hP : IsP n p) (h : ImgK n t p V x y) (hx : x < n) (hy : y < n) (hu : (p.getD x 0).toNat = u) (hv : (p.getD y 0).toNat = v) : ImgK n t p (updQ V u v (imgI t p x y)) x (y + 1) := by
  obtain ⟨f, g, hl, h1, h2⟩ := hP
  have hf : ∀ i, i < n → (p.getD i 0).toNat = f i := fun i hi => by rw [h2 i hi, Int.toNat_natCast]
  have inj : ∀ i j, i < n → j < n → f i = f j → i = j := fun i j hi hj e => by rw [← (h1 i hi).2.2.2, ← (h1 j hj).2.2.2, e]
  intro x' y' hx' hy' hq
  unfold updQ
  by_cases e : x' = x ∧ y' = y
  · obtain ⟨rfl, rfl⟩ := e
    rw [if_pos ⟨hu, hv⟩]
  · rw [if_neg, h x' y' hx' hy' (by omega)]
    rintro ⟨e1, e2⟩
    rw [← hu, hf _ hx', hf _ hx] at e1
    rw [← hv, hf _ hy', hf _ hy] at e2
    exact e ⟨inj _ _ hx' hx e1, inj _ _ hy' hy e2⟩
theorem ImgK.next {n : Nat} {t : List (List Int)} {p : List Int} {V : Nat → Nat → Int} {x : Nat} (h : ImgK n t p V x n) : ImgK n t p V (x + 1) 0 := fun x' y' hx' hy' hq => h x' y' hx' hy' (by omega)
theorem backF_at {n : Nat} {p : List Int} (hP : IsP n p) : ∀ u, u < n → ∃ q : Nat, (backF p).getD u 0 = q ∧ q < n ∧ p.getD q 0 = u := by
  obtain ⟨f, g, hp⟩ := hP
  have hb := backK_get n p f g hp n (Nat.le_refl _)
  obtain ⟨hl, h1, h2⟩ := hp
  intro u hu
  refine ⟨g u, ?_, (h1 u hu).2.1, ?_⟩
  · unfold backF; rw [hl, hb u hu, if_pos (h1 u hu).2.1]
  · rw [h2 (g u) (h1 u hu).2.1, (h1 u hu).2.2.1]
theorem ImgK.done {n : Nat} {t : List (List Int)} {p : List Int} {V : Nat → Nat → Int} (hP : IsP n p) (h : ImgK n t p V n 0) : tabF n V = rnL n t p := by
  refine tabQ_congr fun u v hu hv => ?_
  obtain ⟨q, e1, h1, e2⟩ := backF_at hP u hu
  obtain ⟨r, e3, h3, e4⟩ := backF_at hP v hv
  have := h q r h1 h3 (.inl h1)
  rw [e2, e4, Int.toNat_natCast, Int.toNat_natCast] at this
  rw [this]
  unfold rnV imgI
  rw [e1, e3, Int.toNat_natCast, Int.toNat_natCast]

set_option maxHeartbeats 16000000 in
theorem l03Image_any (n : Nat) (at_ ap : Option Addr) (ct cp : Nat) (t : List (List Int)) (p : List Int) (w : World) (h1 : Tbl w at_ n t) (h2 : Row w ap n p) (hs : Sq n t) (hP : IsP n p) (hn0 : 1 ≤ n) (hn : n ≤ 12) :
    Calls Tryz.prog 106 #[.slice at_ n ct, .slice ap n cp] w fun e w' => ∃ a c vs, e = .returned (.slice a n c) ∧ OwnT w' w.heap.size a n c vs (rnL n t p) ∧ Below w.heap.size w w' := by
  have HP := Lib.hid hP
  have hlen : ∀ x ∈ t, x.length ≤ 1000000 := fun x hx => by
    obtain ⟨i, hi, rfl⟩ := List.getElem_of_mem hx
    have := (hs.2 i (by rw [← hs.1]; exact hi)).1
    rw [List.getD_eq_getElem?_getD, List.getElem?_eq_getElem hi] at this
    simp at this; omega
  have HS := Lib.hid hs; have HLEN := Lib.hid hlen
  clear hlen hs hP
  go_enter Tryz.func106, Tryz.ntmps106
  go_wp2_with fail
  refine (l01Own2_any _ _ _ t _ h1 (by omega) HLEN.out).mono ?_
  rintro e w1 ⟨a1, c1, vs1, rfl, ho1, hb1⟩
  rw [← sq_tabF HS.out] at ho1
  have hz1 := hb1.size
  obtain ⟨gm, rfl, _⟩ := ho1.cells (by omega)
  have HLO := Lib.hid ho1.uLo
  go_wp2
  go_loopw [6, 7] (fun i _ wr => ∃ (x : Nat) (V : Nat → Nat → Int), x ≤ n ∧ i = .int .i64 x ∧ OwnT wr w.heap.size (some ⟨gm, 0, none⟩) n c1 vs1 (tabF n V) ∧ Hid (ImgK n t p V x 0) ∧ Below w.heap.size w wr) (fun i _ _ => n - (intOf i).toNat)
  case atStart => exact ⟨0, _, Nat.zero_le _, rfl, ho1, Lib.hid (fun x' y' _ _ h => by omega), hb1⟩
  case round =>
    clear ho1
    obtain ⟨x, V, hx, rfl, ho, HV, hq⟩ := hrel
    by_cases hlt : x < n
    · go_wp2
      go_loopw [7] (fun j wr => ∃ (y : Nat) (V : Nat → Nat → Int), y ≤ n ∧ j = .int .i64 y ∧ OwnT wr w.heap.size (some ⟨gm, 0, none⟩) n c1 vs1 (tabF n V) ∧ Hid (ImgK n t p V x y) ∧ Below w.heap.size w wr) (fun j _ => n - (intOf j).toNat)
      case atStart => exact ⟨0, V, Nat.zero_le _, rfl, ho, HV, hq⟩
      case round =>
        clear ho hq
        obtain ⟨y, V, hy, rfl, ho, HV, hq⟩ := hrel
        by_cases hly : y < n
        · obtain ⟨b, off, A, O, C, rfl, G0⟩ := h1.grid HS.out (by omega)
          have G := (G0.below hq).look hlt hly
          obtain ⟨u, hu, hun⟩ := HP.out.at hlt
          obtain ⟨v, hv, hvn⟩ := HP.out.at hly
          obtain ⟨bp, op, rfl, gu⟩ := (h2.below hq).at x hlt
          obtain ⟨bp', op', e', gv⟩ := (h2.below hq).at y hly
          cases e'
          have hz := HS.out.lt hlt hly
          obtain ⟨z, HZ⟩ : ∃ z, Hid (tv t x y = z) := ⟨_, rfl⟩
          rw [HZ.out] at G hz
          obtain ⟨bp'', op'', e'', gz⟩ := (h2.below hq).at z hz
          cases e''
          obtain ⟨Z, HZZ⟩ : ∃ Z, Hid (p.getD z 0 = Z) := ⟨_, rfl⟩
          rw [HZZ.out] at gz
          rw [hu] at gu
          rw [hv] at gv
          obtain ⟨gm', g1, cg, e3, ev, r1, hc1, ht1⟩ := ho.spotQ hun
          cases e3
          have k1 := (hc1 v hvn).1
          have f1 := (hc1 v hvn).2
          have hput := ho.putQ hun hvn ev Z
          have HST : Hid (ImgK n t p (updQ V u v Z) x (y + 1)) := Lib.hid (by
            have := ImgK.step HP.out HV.out hlt hly (u := u) (v := v) (by rw [hu, Int.toNat_natCast]) (by rw [hv, Int.toNat_natCast])
            rw [show imgI t p x y = Z by unfold imgI; rw [HZ.out, HZZ.out]] at this
            exact this)
          have hg1 : w.heap.size ≤ g1 := HLO.out g1 ht1
          have HPUT := Lib.hid hput
          have i1 : (0 : Int) ≤ (x : Int) := by omega
          have i2 : (x : Int) < (n : Int) := by omega
          have i3 : (0 : Int) ≤ (y : Int) := by omega
          have i4 : (y : Int) < (n : Int) := by omega
          have i5 : (0 : Int) ≤ (u : Int) := by omega
          have i6 : (u : Int) < (n : Int) := by omega
          have i7 : (0 : Int) ≤ (v : Int) := by omega
          have i8 : (v : Int) < (n : Int) := by omega
          have i9 : (0 : Int) ≤ (z : Int) := by omega
          have i10 : (z : Int) < (n : Int) := by omega
          obtain ⟨G1, G2⟩ := G
          have hq8 : Below w.heap.size w wr.drew := hq.drew
          have hput8 : Hid (OwnT (wr.drew.setCell ⟨g1, v, none⟩ (.int .i64 Z)) w.heap.size (some ⟨gm, 0, none⟩) n c1 vs1 (tabF n (updQ V u v Z))) := Lib.hid (hput.drewN 1)
          clear hu hv hc1 hput ho hq HPUT
          go_wp2
          refine wp_region_still_tail 22 (by kernel_rfl) (by kernel_rfl) ?_
          change wpStill _ _ wr.drew (fun a' => wpList _ _ _ _ a' wr.drew) _ _
          have G18 : wr.drew.cell? _ = _ := G1
          have G28 : wr.drew.cell? _ = _ := G2
          have gu8 : wr.drew.cell? _ = _ := gu
          have gv8 : wr.drew.cell? _ = _ := gv
          have gz8 : wr.drew.cell? _ = _ := gz
          have r18 : wr.drew.cell? _ = _ := r1
          have k18 : wr.drew.cell? _ = _ := k1
          have f18 : wr.drew.frozen? ⟨g1, v, none⟩ = false := f1
          clear G1 G2 gu gv gz r1 k1 f1
          generalize wr.drew = w8 at *
          simp only [List.take_succ_cons, List.take_zero, List.drop_succ_cons, List.drop_zero]
          repeat still_step
          refine wpStill_nil ?_
          go_wp2
          go_roundw
          case rel => exact ⟨y + 1, _, by omega, by go_num, hput8.out, HST, below_setne hq8 hg1 _⟩
          case measure => simp [intOf]; omega
        · obtain rfl : n = y := by omega
          go_wp2
          go_roundw
          case rel => exact ⟨x + 1, V, by omega, by go_num, ho, Lib.hid HV.out.next, hq⟩
          case measure => simp [intOf]; omega
    · obtain rfl : n = x := by omega
      go_wp2
      go_ret
      exact ⟨_, _, _, rfl, by rw [← ImgK.done HP.out HV.out]; exact ho, hq⟩
end Go.Proofs.YtdkpalllfekiiaaGreat

namespace Go.Proofs.YtdkpalllfekiiaaGreat
set_option maxRecDepth 100000
set_option linter.unusedVariables false
set_option linter.unusedSimpArgs false

theorem tabF_tv {n : Nat} {v : Nat → Nat → Int} {x y : Nat} (hx : x < n) (hy : y < n) : tv (tabF n v) x y = (v x y).toNat := by
  unfold tv
  rw [tabF_get _ _ _ hx]
  simp [List.getD_eq_getElem?_getD, hy]
theorem tabF_sqI {n : Nat} {v : Nat → Nat → Int} (h : ∀ x y, x < n → y < n → 0 ≤ v x y ∧ v x y < n) : Sq n (tabF n v) := by
  refine ⟨tabF_len _ _, fun x hx => ?_⟩
  have e := tabF_get n v x hx
  refine ⟨by rw [e]; simp, fun y hy => ?_⟩
  have := h x y hx hy
  rw [tabF_tv hx hy]
  refine ⟨by omega, ?_⟩
  rw [e]
  simp [List.getD_eq_getElem?_getD, hy]
  omega
theorem sq_ext {n : Nat} {t s : List (List Int)} (h : Sq n t) (k : Sq n s) (e : ∀ x y, x < n → y < n → tv t x y = tv s x y) : t = s := by
  rw [← sq_tabF h, ← sq_tabF k]
  refine tabQ_congr fun x y hx hy => ?_
  rw [h.val hx hy, k.val hx hy, e x y hx hy]
theorem isP_of {n : Nat} {p : List Int} (h : IsP n p) : ∃ f g, IsPf n p f g := h
theorem backF_pf {n : Nat} {p : List Int} {f g : Nat → Nat} (h : IsPf n p f g) : IsPf n (backF p) g f := by
  have hb := backK_get n p f g h n (Nat.le_refl _)
  obtain ⟨hl, h1, h2⟩ := h
  refine ⟨by rw [backF_len]; exact hl, fun i hi => ⟨(h1 i hi).2.1, (h1 i hi).1, (h1 i hi).2.2.2, (h1 i hi).2.2.1⟩, fun i hi => ?_⟩
  unfold backF; rw [hl, hb i hi, if_pos (h1 i hi).2.1]
theorem thL_pf {n : Nat} {p q : List Int} {f g f' g' : Nat → Nat} (h : IsPf n p f g) (k : IsPf n q f' g') : IsPf n (thL p q) (fun i => f' (f i)) (fun i => g (g' i)) := by
  obtain ⟨hl, h1, h2⟩ := h
  obtain ⟨hl', h1', h2'⟩ := k
  refine ⟨by rw [thL_len]; exact hl, fun i hi => ?_, fun i hi => ?_⟩
  · have a1 := h1 i hi
    have a2 := h1' i hi
    have a3 := h1' (f i) a1.1
    have a4 := h1 (g' i) a2.2.1
    refine ⟨a3.1, a4.2.1, ?_, ?_⟩
    · show f' (f (g (g' i))) = i
      rw [a4.2.2.1, a2.2.2.1]
    · show g (g' (f' (f i))) = i
      rw [a3.2.2.2, a1.2.2.2]
  · unfold thL
    have : (p.map fun x => q.getD x.toNat 0).getD i 0 = q.getD (p.getD i 0).toNat 0 := by
      simp only [List.getD_eq_getElem?_getD, List.getElem?_map]
      rw [List.getElem?_eq_getElem (by omega)]; rfl
    rw [this, h2 i hi, Int.toNat_natCast, h2' _ (h1 i hi).1]
theorem unit_pf (n : Nat) : IsPf n (unitL n) id id := ⟨unitL_len n, fun i h => ⟨h, h, rfl, rfl⟩, fun i h => unitL_get n i h⟩
theorem pf_ext {n : Nat} {p q : List Int} {f g f' g' : Nat → Nat} (h : IsPf n p f g) (k : IsPf n q f' g') (e : ∀ i, i < n → f i = f' i) : p = q := by
  apply List.ext_getElem
  · rw [h.1, k.1]
  · intro i h1 h2
    rw [h.1] at h1
    have a := h.2.2 i h1
    have b := k.2.2 i h1
    rw [getD_at (by rw [h.1]; exact h1)] at a
    rw [getD_at (by rw [k.1]; exact h1)] at b
    rw [a, b, e i h1]

/-- what renaming does to the values -/
theorem rn_tv {n : Nat} {t : List (List Int)} {p : List Int} {f g : Nat → Nat} (hp : IsPf n p f g) (hs : Sq n t) {x y : Nat} (hx : x < n) (hy : y < n) : rnV t p x y = ((f (tv t (g x) (g y)) : Nat) : Int) := by
  have hb := (backF_pf hp).2.2
  unfold rnV
  rw [hb x hx, hb y hy, Int.toNat_natCast, Int.toNat_natCast]
  exact hp.2.2 _ (hs.lt (hp.2.1 x hx).2.1 (hp.2.1 y hy).2.1)
theorem rnL_tv {n : Nat} {t : List (List Int)} {p : List Int} {f g : Nat → Nat} (hp : IsPf n p f g) (hs : Sq n t) {x y : Nat} (hx : x < n) (hy : y < n) : tv (rnL n t p) x y = f (tv t (g x) (g y)) := by
  unfold rnL; rw [tabF_tv hx hy, rn_tv hp hs hx hy, Int.toNat_natCast]
theorem rnL_sq {n : Nat} {t : List (List Int)} {p : List Int} (hp : IsP n p) (hs : Sq n t) : Sq n (rnL n t p) := by
  obtain ⟨f, g, hp⟩ := isP_of hp
  refine tabF_sqI fun x y hx hy => ?_
  rw [rn_tv hp hs hx hy]
  have := (hp.2.1 _ (hs.lt (hp.2.1 x hx).2.1 (hp.2.1 y hy).2.1)).1
  omega
end Go.Proofs.YtdkpalllfekiiaaGreat

namespace Go.Proofs.YtdkpalllfekiiaaGreat
set_option linter.unusedVariables false
set_option linter.unusedSimpArgs false
set_option maxRecDepth 100000
open Go.RowKit

theorem tabF_succ {n k : Nat} (V : Nat → Nat → Int) (h : k < n) : (tabF n V).take (k + 1) = (tabF n V).take k ++ [(List.range n).map fun y => V k y] := by
  have hl : k < (tabF n V).length := by rw [tabF_len]; exact h
  rw [List.take_succ_eq_append_getElem hl]
  simp [tabF]
/-- what a function that builds a pair map leaves -/
def SolB (w : World) (n : Nat) (e : Ending) (w' : World) : Prop :=
  ∃ (a : Option Addr) (c : Nat) (vs : List SV) (f : List (List Int)) (a' : Option Addr) (c' : Nat) (vs' : List SV) (g : List (List Int)), e = .returned (sAgg a n c a' n c') ∧ OwnS w' w.heap.size a n c vs f a' n c' vs' g ∧ Sq n f ∧ Sq n g ∧ Below w.heap.size w w'

set_option maxHeartbeats 16000000 in
theorem l02Polygon_any (n : Nat) (w : World) (h1 : 1 ≤ n) (hn : n ≤ 100) :
    Calls Tryz.prog 120 #[.int .i64 n] w (SolB w (n)) := by
  obtain ⟨w0, hw0⟩ : ∃ w0, (w.alloc (.cells #[.slice none 0 0, .slice none 0 0] 42)).alloc (.cells #[.slice none 0 0, .slice none 0 0] 42) = w0 := ⟨_, rfl⟩
  have HZ0 : Hid (w0.heap.size = w.heap.size + 1 + 1) := Lib.hid (by rw [← hw0]; simp)
  have hB : Below w.heap.size w w0 := by rw [← hw0]; exact below_al (below_al (Below.refl _ _) _) _
  have hR : Loc w0 (w.heap.size) #[.slice none 0 0, .slice none 0 0] 42 := by rw [← hw0]; exact (Loc.new _ (by simp) _ _).alloc _
  have hO : Loc w0 (w.heap.size + 1) #[.slice none 0 0, .slice none 0 0] 42 := by rw [← hw0]; exact Loc.new _ (by simp) _ _
  have HW0 := Lib.hid hw0; clear hw0
  obtain ⟨V, hV⟩ : ∃ V : Nat → Nat → Int, V = fun x y => (((2 * x + n - y) % n : Nat) : Int) := ⟨_, rfl⟩
  obtain ⟨U, hU⟩ : ∃ U : Nat → Nat → Int, U = fun x y => ((x : Nat) : Int) := ⟨_, rfl⟩
  have HSV : Hid (Sq n (tabF n V)) := Lib.hid (tabF_sqI fun x y hx hy => by rw [hV]; have := Nat.mod_lt (2 * x + n - y) (show n > 0 by omega); show 0 ≤ (((2 * x + n - y) % n : Nat) : Int) ∧ (((2 * x + n - y) % n : Nat) : Int) < n; omega)
  have HSU : Hid (Sq n (tabF n U)) := Lib.hid (tabF_sqI fun x y hx hy => by rw [hU]; show 0 ≤ (x : Int) ∧ (x : Int) < n; omega)
  have HVE : Hid (∀ x y, V x y = (((2 * x + n - y) % n : Nat) : Int)) := Lib.hid fun x y => by rw [hV]
  have HUE : Hid (∀ x y, U x y = (x : Int)) := Lib.hid fun x y => by rw [hU]
  clear hV hU
  go_enter Tryz.func120, Tryz.ntmps120
  go_wp2
  rw [HW0.out]
  go_loopw [4, 5, 6, 7] (fun i _ _ _ wr => ∃ (k : Nat) (az : Option Addr) (cz : Nat) (vz : List SV) (ay : Option Addr) (cy : Nat) (vy : List SV), k ≤ n ∧ i = .int .i64 k ∧ Loc wr (w.heap.size + 1) #[.slice az k cz, .slice ay k cy] 42 ∧ Loc wr (w.heap.size) #[.slice none 0 0, .slice none 0 0] 42 ∧ OwnT wr w0.heap.size az k cz vz ((tabF n V).take k) ∧ OwnT wr w0.heap.size ay k cy vy ((tabF n U).take k) ∧ ApT az k vz ay k vy ∧ Below w.heap.size w wr) (fun i _ _ _ _ => n - (intOf i).toNat)
  case atStart => exact ⟨0, none, 0, [], none, 0, [], Nat.zero_le _, rfl, hO, hR, by simpa using OwnT.nil _ _, by simpa using OwnT.nil _ _, (fun g h _ => by rcases h with h | ⟨i, hi, _⟩; (cases h); omega), hB⟩
  case round =>
    clear hR hO hB
    obtain ⟨k, az, cz, vz, ay, cy, vy, hk, rfl, hO, hR, hz, hy, hap, hB⟩ := hrel
    have hOlt := hO.lt
    have hZ0 := HZ0.out
    by_cases hlt : k < n
    · obtain ⟨w1, hw1⟩ : ∃ w1, (wr.alloc (.cells #[] 2)).alloc (.cells #[] 2) = w1 := ⟨_, rfl⟩
      have hE1 : Own w1 wr.heap.size (some ⟨wr.heap.size, 0, none⟩) 0 0 [] := by rw [← hw1]; exact (Own.fresh wr rfl).alloc _
      have hE2 : Own w1 wr.heap.size (some ⟨wr.heap.size + 1, 0, none⟩) 0 0 [] := by rw [← hw1]; exact (Own.fresh (wr.alloc (.cells #[] 2)) (by simp)).mono (by simp)
      have hqe : Below wr.heap.size wr w1 := by rw [← hw1]; exact below_al (below_al (Below.refl wr.heap.size wr) _) _
      have HRV := Lib.hid (tabF_succ V hlt)
      have HRU := Lib.hid (tabF_succ U hlt)
      obtain ⟨B, hBB⟩ : ∃ B, B = wr.heap.size := ⟨_, rfl⟩
      go_wp2
      try rw [hw1]
      clear hw1
      go_loopw [5, 6, 7] (fun z y i wq => ∃ (jj : Nat) (ar : Option Addr) (cr : Nat) (as_ : Option Addr) (cs : Nat), jj ≤ n ∧ i = .int .i64 jj ∧ z = .slice ar jj cr ∧ y = .slice as_ jj cs ∧ Own wq B ar jj cr ((List.range jj).map fun y => V k y) ∧ Own wq B as_ jj cs ((List.range jj).map fun y => U k y) ∧ Apr ar as_ ∧ Below wr.heap.size wr wq) (fun _ _ i _ => n - (intOf i).toNat)
      case atStart => exact ⟨0, _, 0, _, 0, Nat.zero_le _, rfl, rfl, rfl, by rw [hBB]; simpa using hE1, by rw [hBB]; simpa using hE2, (fun g e1 e2 => by simp at e1 e2; omega), hqe⟩
      case round =>
        clear hE1 hE2 hqe
        obtain ⟨jj, ar, cr, as_, cs, hj, rfl, rfl, rfl, hor, hos, hpr, hqr⟩ := hrel
        have hwq := hqr.size
        obtain ⟨W, rfl⟩ : ∃ W : World, W = wr := ⟨_, rfl⟩
        by_cases hjt : jj < n
        · have HV1 : Hid (((List.range (jj + 1)).map fun y => V k y) = ((List.range jj).map fun y => V k y) ++ [V k jj]) := Lib.hid (by simp [List.range_succ])
          have HU1 : Hid (((List.range (jj + 1)).map fun y => U k y) = ((List.range jj).map fun y => U k y) ++ [U k jj]) := Lib.hid (by simp [List.range_succ])
          have e1 : Int.tmod (2 * (k : Int) - (jj : Int) + (n : Int)) (n : Int) = V k jj := by
            rw [HVE.out, show 2 * (k : Int) - (jj : Int) + (n : Int) = ((2 * k + n - jj : Nat) : Int) by omega]; rfl
          have hz1 : ¬ (n : Int) = 0 := by omega
          have hz2 : ((n : Int) == 0) = false := by simpa using hz1
          have hue := HUE.out k jj
          have hvb : 0 ≤ V k jj ∧ V k jj < n := by rw [HVE.out]; have := Nat.mod_lt (2 * k + n - jj) (show n > 0 by omega); omega
          generalize V k jj = v at *
          rw [hue] at HU1
          clear hue
          go_upto_region 10 with (at_builtin; refine app1h rfl rfl hor rfl rfl (by omega) (by omega) ?_; intro g' cc w8 hO8 hg8 hat8 hb8)
          have hos8 := hos.beside hor hpr.symm hg8
          have hpr8 := hos.apart hor hpr.symm hat8
          have hs8 := hb8.size
          go_wp2_with (at_builtin; refine app1h rfl rfl hos8 rfl rfl (by omega) (by omega) ?_; intro g9 cc9 w9 hO9 hg9 hat9 hb9)
          have hor9 := hO8.beside hos8 hpr8.symm hg9
          have hpr9 := hO8.apart hos8 hpr8.symm hat9
          go_roundw
          case rel => exact ⟨jj + 1, _, _, _, _, by omega, by go_num, rfl, rfl, by rw [HV1.out]; exact hor9, by rw [HU1.out]; exact hO9, hpr9, hqr.trans ((hb8.mono (by omega)).trans (hb9.mono (by omega)))⟩
          case measure => simp [intOf]; omega
        · obtain rfl : jj = n := by omega
          have hO3 := hO.below hqr hO.lt
          have hR3 := hR.below hqr hR.lt
          have lO := hO3.two
          have hz3 := hz.below hqr
          have hy3 := hy.below hqr
          have hB3 := hB.trans (hqr.mono (by have := hB.size; omega))
          have hzhi := hz.uHi
          have hyhi := hy.uHi
          have hrlo := hor.lo
          have hrhi := hor.hi
          have hslo := hos.lo
          have hshi := hos.hi
          have hB0s := hO3.lt
          clear hO hR hz hy hB
          go_upto_region 12 with (at_builtin; refine appT1g rfl rfl hz3 rfl (hor.mono (by omega)) (fun g h1 h2 => by have h3 := hzhi _ (.inl h1); have h4 := hrlo _ h2; omega) (fun i hi g h1 h2 => by have h3 := hrlo _ h1; have h4 := hzhi _ (.inr ⟨i, hi, h2⟩); omega) rfl (by omega) (by omega) ?_; intro g6 cc6 w6 hOT6 hg6 hat6 hb6; have hO6 := hO3.below hb6 (by omega); have lO6 := hO6.two)
          have hvl := hz3.vlen
          have hy6 := hz3.other hy3 hap hg6
          have hap6 := ApT.snoc hz3 hy3 hap (v := (ar, jj, cr)) hvl hat6 (fun q h1 h2 => by have h3 := hrlo _ h1; have h4 := hyhi _ h2; omega)
          have hos6 := hos.grown hg6 (fun g h1 h2 => by have h3 := hslo _ h1; have h4 := hzhi _ (hz3.ownBlk h2.symm); omega)
          have hsz6 := hg6.size
          have hB6 := hB3.trans (hb6.mono (by omega))
          have hR6 := hR3.below hb6 (by omega)
          have hz7 := hOT6.setlo (p := ⟨w.heap.size + 1, 0, none⟩) (by show w.heap.size + 1 < w0.heap.size; omega) (.slice (some ⟨g6, 0, none⟩) (k + 1) cc6)
          have hy7 := hy6.setlo (p := ⟨w.heap.size + 1, 0, none⟩) (by show w.heap.size + 1 < w0.heap.size; omega) (.slice (some ⟨g6, 0, none⟩) (k + 1) cc6)
          have hos7 := (hos6.mono (lo' := w0.heap.size) (by omega)).setlo (p := ⟨w.heap.size + 1, 0, none⟩) (by show w.heap.size + 1 < w0.heap.size; omega) (.slice (some ⟨g6, 0, none⟩) (k + 1) cc6)
          have hO7 := hO6.set 0 (.slice (some ⟨g6, 0, none⟩) (k + 1) cc6)
          have hR7 := hR6.setne (a := ⟨w.heap.size + 1, 0, none⟩) (by show w.heap.size ≠ w.heap.size + 1; omega) (.slice (some ⟨g6, 0, none⟩) (k + 1) cc6)
          have hB7 := below_setne (a := ⟨w.heap.size + 1, 0, none⟩) hB6 (by show w.heap.size ≤ w.heap.size + 1; omega) (.slice (some ⟨g6, 0, none⟩) (k + 1) cc6)
          have hsz7 : (w6.setCell ⟨w.heap.size + 1, 0, none⟩ (.slice (some ⟨g6, 0, none⟩) (k + 1) cc6)).heap.size = w6.heap.size := size_set _ _ _
          simp only [Array.setIfInBounds, List.size_toArray, List.length_cons, List.length_nil, Nat.zero_add, Nat.lt_add_one, Nat.reduceAdd, Nat.reduceLT, dif_pos, Nat.zero_lt_succ] at hO7
          have hvl7 := hy7.vlen
          have lO7 := hO7.two
          have HSZ := Lib.hid hsz7
          have hlo7 : w0.heap.size ≤ (w6.setCell ⟨w.heap.size + 1, 0, none⟩ (.slice (some ⟨g6, 0, none⟩) (k + 1) cc6)).heap.size := by rw [hsz7]; omega
          have hyz : ∀ g, TblS ay k vy g → ∀ q, as_ = some ⟨q, 0, none⟩ → q ≠ g := fun g h1 q h2 e => by have h3 := hslo _ h2; have h4 := hyhi _ h1; omega
          have hrz : ∀ q, as_ = some ⟨q, 0, none⟩ → ¬ TblS (some ⟨g6, 0, none⟩) (k + 1) (vz ++ [(ar, jj, cr)]) q := fun q h2 h1 => by
            have k1 := hslo _ h2
            have k2 := hshi _ h2
            rcases h1 with e | ⟨i, hi, e⟩
            · cases e
              rcases hat6 with e | e
              · have := hzhi _ (hz3.ownBlk e); omega
              · omega
            · by_cases hik : i < k
              · have e2 : (vz ++ [(ar, jj, cr)]).getD i svO = vz.getD i svO := by simp [List.getD_eq_getElem?_getD, List.getElem?_append_left (show i < vz.length by omega)]
                rw [e2] at e
                have := hzhi _ (.inr ⟨i, hik, e⟩); omega
              · have e2 : i = vz.length := by omega
                have e3 : (vz ++ [(ar, jj, cr)]).getD i svO = (ar, jj, cr) := by rw [e2]; simp [List.getD_eq_getElem?_getD]
                rw [e3] at e
                exact hpr _ e h2
          clear hsz7 hO6 lO6 hB6 hB3 hO3 lO hR3 hR6 hz3 hy3
          generalize w6.setCell ⟨w.heap.size + 1, 0, none⟩ (.slice (some ⟨g6, 0, none⟩) (k + 1) cc6) = w7 at *
          go_wp2_with (at_builtin; refine appT1g rfl rfl hy7 rfl hos7 (fun g h1 h2 => hyz _ (.inl h1) _ h2 rfl) (fun i hi g h1 h2 => hyz _ (.inr ⟨i, hi, h2⟩) _ h1 rfl) rfl (by omega) hlo7 ?_; intro g9 cc9 w9 hOT9 hg9 hat9 hb9; have hO9 := hO7.below hb9 (by omega); have lO9 := hO9.two)
          have hz9 := hy7.other hz7 hap6.symm hg9
          have hap9 := (ApT.snoc hy7 hz7 hap6.symm (v := (as_, jj, cs)) hvl7 hat9 hrz).symm
          have hO10 := hO9.set 1 (.slice (some ⟨g9, 0, none⟩) (k + 1) cc9)
          have hR9 := (hR7.below hb9 (by omega)).setne (a := ⟨w.heap.size + 1, 1, none⟩) (by show w.heap.size ≠ w.heap.size + 1; omega) (.slice (some ⟨g9, 0, none⟩) (k + 1) cc9)
          have hB9 := below_setne (a := ⟨w.heap.size + 1, 1, none⟩) (hB7.trans (hb9.mono (by omega))) (by show w.heap.size ≤ w.heap.size + 1; omega) (.slice (some ⟨g9, 0, none⟩) (k + 1) cc9)
          go_roundw
          case rel => exact ⟨k + 1, _, _, _, _, _, _, by omega, by go_num, hO10, hR9, by rw [HRV.out]; exact hz9.setlo (by show w.heap.size + 1 < w0.heap.size; omega) _, by rw [HRU.out]; exact hOT9.setlo (by show w.heap.size + 1 < w0.heap.size; omega) _, hap9, hB9⟩
          case measure => simp [intOf]; omega
    · obtain rfl : k = n := by omega
      rw [List.take_of_length_le (by rw [tabF_len]; exact Nat.le_refl _)] at hz hy
      have lO := hO.two
      have lR := hR.two
      go_wp2
      refine bodyPost_ret (v := sAgg az k cz ay k cy) (by simp [results, Tryz.results120, go_sem, lR, lO]) rfl ⟨az, cz, vz, _, ay, cy, vy, _, rfl, ⟨?_, ?_, hap⟩, HSV.out, HSU.out, ?_⟩
      · exact ((hz.setlo (by show w.heap.size < w0.heap.size; omega) _).setlo (by show w.heap.size < w0.heap.size; omega) _).mono (by omega)
      · exact ((hy.setlo (by show w.heap.size < w0.heap.size; omega) _).setlo (by show w.heap.size < w0.heap.size; omega) _).mono (by omega)
      · exact below_setne (below_setne hB (by show w.heap.size ≤ w.heap.size; omega) _) (by show w.heap.size ≤ w.heap.size; omega) _

end Go.Proofs.YtdkpalllfekiiaaGreat

namespace Go.Proofs.YtdkpalllfekiiaaGreat
set_option maxRecDepth 100000
set_option linter.unusedVariables false
set_option linter.unusedSimpArgs false
open Go.RowKit

/-- two rows of the first ones do not contradict a rack -/
def chkP (rows : List (List Int)) (x y : Nat) : Bool :=
  (fun z : Nat => decide (rows.length ≤ z) || decide (thL (rows.getD x []) (rows.getD z []) = thL (rows.getD y []) (rows.getD x []))) ((rows.getD x []).getD y 0).toNat
def chkX (rows : List (List Int)) (x : Nat) : Bool := (List.range rows.length).all fun y => chkP rows x y
def chkR (rows : List (List Int)) : Bool := (List.range rows.length).all fun x => chkX rows x
theorem chkX_of {rows : List (List Int)} {x : Nat} (h : ∀ y, y < rows.length → chkP rows x y = true) : chkX rows x = true := List.all_eq_true.2 fun y hy => h y (List.mem_range.1 hy)
theorem chkX_no {rows : List (List Int)} {x y : Nat} (hy : y < rows.length) (h : chkP rows x y = false) : chkX rows x = false := by
  cases e : chkX rows x with
  | false => rfl
  | true => have := List.all_eq_true.1 e y (List.mem_range.2 hy); rw [h] at this; cases this
theorem chkR_of {rows : List (List Int)} (h : ∀ x, x < rows.length → chkX rows x = true) : chkR rows = true := List.all_eq_true.2 fun x hx => h x (List.mem_range.1 hx)
theorem chkR_no {rows : List (List Int)} {x : Nat} (hx : x < rows.length) (h : chkX rows x = false) : chkR rows = false := by
  cases e : chkR rows with
  | false => rfl
  | true => have := List.all_eq_true.1 e x (List.mem_range.2 hx); rw [h] at this; cases this

end Go.Proofs.YtdkpalllfekiiaaGreat

namespace Go.Proofs.YtdkpalllfekiiaaGreat
set_option maxRecDepth 100000
set_option linter.unusedVariables false
set_option linter.unusedSimpArgs false
open Go.RowKit

def cyV (rows : List (List Int)) (u z : Nat) : Int := (rows.getD u []).getD z 0
/-- the rows of x and of y do not contradict a cycle set -/
def cyE (n : Nat) (rows : List (List Int)) (x y u v : Nat) : Bool := (List.range n).all fun z => decide (cyV rows u (cyV rows x z).toNat = cyV rows v (cyV rows y z).toNat)
def cyZ (n : Nat) (rows : List (List Int)) (x y : Nat) : Bool := decide (rows.length ≤ (cyV rows x y).toNat) || (decide (rows.length ≤ (cyV rows y x).toNat) || cyE n rows x y (cyV rows x y).toNat (cyV rows y x).toNat)
def cyS (rows : List (List Int)) (x : Nat) : Bool := (List.range x).all fun x' => !decide (cyV rows x' x' = cyV rows x x)
def cyX (n : Nat) (rows : List (List Int)) (x : Nat) : Bool := cyS rows x && (List.range rows.length).all fun y => cyZ n rows x y
def cycR (n : Nat) (rows : List (List Int)) : Bool := (List.range rows.length).all fun x => cyX n rows x
theorem rng_of {k : Nat} {p : Nat → Bool} (h : ∀ y, y < k → p y = true) : (List.range k).all p = true := List.all_eq_true.2 fun y hy => h y (List.mem_range.1 hy)
theorem rng_no {k : Nat} {p : Nat → Bool} {y : Nat} (hy : y < k) (h : p y = false) : (List.range k).all p = false := by
  cases e : (List.range k).all p with
  | false => rfl
  | true => have := List.all_eq_true.1 e y (List.mem_range.2 hy); rw [h] at this; cases this
theorem step_lt {p : Nat → Prop} {x : Nat} (h : ∀ x', x' < x → p x') (hx : p x) : ∀ x', x' < x + 1 → p x' := fun x' h' => by
  by_cases e : x' = x
  · subst e; exact hx
  · exact h x' (by omega)

end Go.Proofs.YtdkpalllfekiiaaGreat

namespace Go.Proofs.YtdkpalllfekiiaaGreat
set_option maxRecDepth 100000
set_option linter.unusedVariables false
set_option linter.unusedSimpArgs false
open Go.RowKit

theorem sprR_none {x : Nat} {s : List (List Int) × Bool} {k : Nat} (h : sprR x k s = none) : ∀ m, k ≤ m → sprR x m s = none := by
  intro m hm
  induction m with
  | zero => obtain rfl : k = 0 := by omega
            exact h
  | succ m ih =>
    by_cases e : k = m + 1
    · subst e; exact h
    · have := ih (by omega)
      unfold sprR; rw [this]; rfl
theorem sprA_none {n : Nat} {s : List (List Int) × Bool} {k : Nat} (h : sprA n k s = none) : ∀ m, k ≤ m → sprA n m s = none := by
  intro m hm
  induction m with
  | zero => obtain rfl : k = 0 := by omega
            exact h
  | succ m ih =>
    by_cases e : k = m + 1
    · subst e; exact h
    · have := ih (by omega)
      unfold sprA; rw [this]; rfl
theorem sprR_succ {x k : Nat} {s t : List (List Int) × Bool} (h : sprR x k s = some t) : sprR x (k + 1) s = (sprT t.1 x k).map fun u => (u.1, t.2 || u.2) := by
  show (sprR x k s).bind _ = _
  rw [h]; rfl
theorem sprA_succ {n k : Nat} {s t : List (List Int) × Bool} (h : sprA n k s = some t) : sprA n (k + 1) s = sprR k n t := by
  show (sprA n k s).bind _ = _
  rw [h]; rfl
/-- what l19Spread hands back -/
def SprP (w : World) (n : Nat) (r : Option (List (List Int))) (e : Ending) (w' : World) : Prop :=
  (∃ o a c vs, r = some o ∧ e = .returned (.tuple #[.slice a n c, .bool true]) ∧ OwnT w' w.heap.size a n c vs o ∧ Below w.heap.size w w') ∨ (r = none ∧ e = .returned (.tuple #[.slice none 0 0, .bool false]) ∧ Below w.heap.size w w')

end Go.Proofs.YtdkpalllfekiiaaGreat

namespace Go.Proofs.YtdkpalllfekiiaaGreat
set_option maxRecDepth 100000
set_option linter.unusedVariables false
set_option linter.unusedSimpArgs false
open Go.RowKit

def hfP (n : Nat) (rows : List (List Int)) (x y : Nat) : Bool :=
  decide (rows.getD x [] = []) || (decide (rows.getD y [] = []) || (decide (rows.getD (cyV rows x y).toNat [] = []) || (decide (rows.getD (cyV rows y x).toNat [] = []) || cyE n rows x y (cyV rows x y).toNat (cyV rows y x).toNat)))
def hfX (n : Nat) (rows : List (List Int)) (x : Nat) : Bool := (List.range x).all fun y => hfP n rows x y
def hfL (n : Nat) (rows : List (List Int)) : Bool := (List.range n).all fun x => hfX n rows x
theorem RwsOk.at {n : Nat} {rows : List (List Int)} (h : RwsOk n rows) {x nx : Nat} (hx : x < n) {w : World} {a : Option Addr} (hr : Row w a nx (rows.getD x [])) : (nx = 0 ∧ rows.getD x [] = []) ∨ (nx = n ∧ IsP n (rows.getD x [])) := by
  rcases h.2 x hx with e | e
  · exact .inl ⟨by have := hr.len; rw [e] at this; simpa using this, e⟩
  · exact .inr ⟨by have := hr.len; rw [e.len] at this; exact this, e⟩

end Go.Proofs.YtdkpalllfekiiaaGreat

namespace Go.Proofs.YtdkpalllfekiiaaGreat
set_option linter.unusedVariables false
set_option linter.unusedSimpArgs false

/-- each of the numbers less than the length is in the list -/
def permOk (p : List Int) : Bool := allN p.length fun x : Nat => p.contains (x : Int)
/-- the first k numbers are less than the length, and all different -/
def permTo (p : List Int) (k : Nat) : Prop := (∀ i, i < k → 0 ≤ p.getD i 0 ∧ p.getD i 0 < p.length) ∧ ∀ i j, i < k → j < k → p.getD i 0 = p.getD j 0 → i = j
theorem getD_mem {p : List Int} {i : Nat} (h : i < p.length) : p.getD i 0 ∈ p := by
  rw [List.getD_eq_getElem?_getD, List.getElem?_eq_getElem h]; exact List.getElem_mem h
theorem permTo_ok {p : List Int} (h : permTo p p.length) : permOk p = true := by
  unfold permOk allN
  rw [List.all_eq_true]
  intro x hx
  have hx := List.mem_range.1 hx
  obtain ⟨i, hi, e⟩ := inj_surj p.length (fun i => (p.getD i 0).toNat) (fun i hi => by have := h.1 i hi; show (p.getD i 0).toNat < _; omega)
    (fun i j hi hj e => h.2 i j hi hj (by have a := h.1 i hi; have b := h.1 j hj; have e : (p.getD i 0).toNat = (p.getD j 0).toNat := e; omega)) x hx
  have a := h.1 i hi
  have e : (p.getD i 0).toNat = x := e
  have e2 : p.getD i 0 = (x : Int) := by omega
  rw [List.contains_iff_mem, ← e2]
  exact getD_mem hi
theorem permOk_to {p : List Int} (h : permOk p = true) : permTo p p.length := by
  have hm : ∀ x, x < p.length → ∃ i, i < p.length ∧ p.getD i 0 = (x : Int) := by
    intro x hx
    have := allN_get h hx
    rw [List.contains_iff_mem] at this
    obtain ⟨i, hi, e⟩ := List.getElem_of_mem this
    exact ⟨i, hi, by rw [List.getD_eq_getElem?_getD, List.getElem?_eq_getElem hi]; simpa using e⟩
  have H : ∀ x, ∃ i, x < p.length → i < p.length ∧ p.getD i 0 = (x : Int) := by
    intro x
    by_cases hx : x < p.length
    · obtain ⟨i, hi⟩ := hm x hx; exact ⟨i, fun _ => hi⟩
    · exact ⟨0, fun h => absurd h hx⟩
  obtain ⟨g, hg⟩ := Classical.axiomOfChoice H
  have hs := inj_surj p.length g (fun x hx => (hg x hx).1) (fun x y hx hy e => by have a := (hg x hx).2; have b := (hg y hy).2; rw [e] at a; omega)
  have hv : ∀ i, i < p.length → ∃ x, x < p.length ∧ g x = i ∧ p.getD i 0 = (x : Int) := by
    intro i hi
    obtain ⟨x, hx, e⟩ := hs i hi
    have := (hg x hx).2
    rw [e] at this
    exact ⟨x, hx, e, this⟩
  refine ⟨fun i hi => ?_, fun i j hi hj e => ?_⟩
  · obtain ⟨x, hx, _, e⟩ := hv i hi; omega
  · obtain ⟨x, hx, e1, e2⟩ := hv i hi
    obtain ⟨y, hy, e3, e4⟩ := hv j hj
    have : x = y := by omega
    subst this; omega
theorem permOk_out {p : List Int} {k : Nat} (hk : k < p.length) (h : ¬ (0 ≤ p.getD k 0 ∧ p.getD k 0 < p.length)) : permOk p = false := by
  cases hp : permOk p with
  | false => rfl
  | true => exact absurd ((permOk_to hp).1 k hk) h
theorem permOk_twice {p : List Int} {k i : Nat} (hk : k < p.length) (hi : i < k) (h : p.getD i 0 = p.getD k 0) : permOk p = false := by
  cases hp : permOk p with
  | false => rfl
  | true => have := (permOk_to hp).2 i k (by omega) hk h; omega
theorem permTo_succ {p : List Int} {k : Nat} (h : permTo p k) (h1 : 0 ≤ p.getD k 0 ∧ p.getD k 0 < p.length) (h2 : ∀ i, i < k → p.getD i 0 ≠ p.getD k 0) : permTo p (k + 1) := by
  refine ⟨fun i hi => ?_, fun i j hi hj e => ?_⟩
  · by_cases e : i = k
    · subst e; exact h1
    · exact h.1 i (by omega)
  · by_cases e1 : i = k
    · by_cases e2 : j = k
      · omega
      · subst e1; exact absurd e.symm (h2 j (by omega))
    · by_cases e2 : j = k
      · subst e2; exact absurd e (h2 i (by omega))
      · exact h.2 i j (by omega) (by omega) e
/-- what has been seen: the truths at the numbers less than n -/
def seenL (p : List Int) (n k : Nat) : List Bool := (List.range n).map fun x : Nat => (p.take k).contains (x : Int)
theorem seenL_len (p : List Int) (n k : Nat) : (seenL p n k).length = n := by simp [seenL]
theorem seenL_zero (p : List Int) (n : Nat) : seenL p n 0 = List.replicate n false := by
  apply List.ext_getElem
  · simp [seenL]
  · intro i h1 h2; simp [seenL]
theorem seenL_get (p : List Int) (n k x : Nat) (hx : x < n) : (seenL p n k).getD x false = (p.take k).contains (x : Int) := by
  simp [seenL, List.getD_eq_getElem?_getD, List.getElem?_map, hx]
theorem seenL_succ (p : List Int) (n k x : Nat) (hk : k < p.length) (hx : x < n) (h : p[k] = (x : Int)) : (seenL p n k).set x true = seenL p n (k + 1) := by
  apply List.ext_getElem
  · simp [seenL]
  · intro i h1 h2
    have hi : i < n := by simpa [seenL] using h2
    rw [List.getElem_set]
    simp only [seenL, List.getElem_map, List.getElem_range]
    rw [List.take_succ_eq_append_getElem hk]
    by_cases e : x = i
    · subst e; simp [h]
    · rw [if_neg e]
      have : ¬ (i : Int) = p[k] := by rw [h]; omega
      rw [Bool.eq_iff_iff, List.contains_iff_mem, List.contains_iff_mem, List.mem_append, List.mem_singleton]
      exact ⟨Or.inl, fun h => h.elim id (fun h => absurd h this)⟩
theorem seen_mem {p : List Int} {k : Nat} {x : Int} (h : (p.take k).contains x = true) (hk : k ≤ p.length) : ∃ i, i < k ∧ p.getD i 0 = x := by
  rw [List.contains_iff_mem] at h
  obtain ⟨i, hi, e⟩ := List.getElem_of_mem h
  rw [List.length_take] at hi
  refine ⟨i, by omega, ?_⟩
  rw [List.getElem_take] at e
  rw [List.getD_eq_getElem?_getD, List.getElem?_eq_getElem (by omega)]
  simpa using e
theorem not_seen {p : List Int} {k : Nat} {x : Int} (h : (p.take k).contains x = false) (hk : k ≤ p.length) : ∀ i, i < k → p.getD i 0 ≠ x := by
  intro i hi e
  have : x ∈ p.take k := by
    rw [List.mem_take_iff_getElem]
    refine ⟨i, by omega, ?_⟩
    rw [List.getD_eq_getElem?_getD, List.getElem?_eq_getElem (by omega)] at e
    simpa using e
  rw [← List.contains_iff_mem, h] at this
  exact Bool.noConfusion this

theorem rngB_t {lo hi x : Int} (h : rngB lo hi x = true) : lo ≤ x ∧ x ≤ hi := by unfold rngB at h; simpa using h
theorem rngB_f {lo hi x : Int} (h : rngB lo hi x = false) : ¬ (lo ≤ x ∧ x ≤ hi) := fun hh => by
  have : rngB lo hi x = true := by unfold rngB; simp [hh.1, hh.2]
  rw [this] at h; exact Bool.noConfusion h
/-! ### racks -/
def rkAt (t : List (List Int)) (x y z : Nat) : Bool := decide (tv t x (tv t y z) = tv t (tv t x y) (tv t x z))
def rkOk (n : Nat) (t : List (List Int)) : Bool := allN n fun x => allN n fun y => allN n fun z => rkAt t x y z
def isRk (t : List (List Int)) : Bool := isTab t && (t.all permOk && rkOk t.length t)

end Go.Proofs.YtdkpalllfekiiaaGreat

namespace Go.Proofs.YtdkpalllfekiiaaGreat
set_option maxRecDepth 100000
set_option linter.unusedVariables false
set_option linter.unusedSimpArgs false
open Go.RowKit

/-- no fault and nil, or a fault and a list of three -/
def FltN (ok : Bool) (W : World) (e : Ending) (w' : World) : Prop := ((ok = true ∧ e = .returned (.slice none 0 0)) ∨ (ok = false ∧ ∃ b c, e = .returned (.slice (some ⟨b, 0, none⟩) 3 c))) ∧ Below W.heap.size W w'

theorem isRk_no {t : List (List Int)} (h : isTab t = false) : isRk t = false := by unfold isRk; rw [h]; rfl

end Go.Proofs.YtdkpalllfekiiaaGreat

namespace Go.Proofs.YtdkpalllfekiiaaGreat
set_option maxRecDepth 100000
set_option linter.unusedVariables false
set_option linter.unusedSimpArgs false
open Go.RowKit

set_option maxHeartbeats 1000000 in
theorem l01Perm_any (a : Option Addr) (n c : Nat) (p : List Int) (w : World) (h1 : Row w a n p) (hm : n ≤ 9223372036854775807) :
    Calls Tryz.prog 109 #[.slice a n c] w fun e w' => e = .returned (.bool (rngB 1 12 n && permOk p)) ∧ w = w' := by
  have hl := h1.len
  cases hv : rngB 1 12 n with
  | false =>
    have HC := Lib.hid (fun w => l01In_b n 1 12 false hv w)
    clear hv hl
    go_enter Tryz.func109, Tryz.ntmps109
    go_wp2_with fail
    refine (HC.out _).mono ?_
    rintro e w2 ⟨rfl, rfl⟩
    go_wp2
    go_ret
    exact ⟨rfl, rfl⟩
  | true =>
    have HC := Lib.hid (fun w => l01In_b n 1 12 true hv w)
    have HQ : Hid (permOk p = allN n fun x : Nat => p.contains (x : Int)) := Lib.hid (by unfold permOk; rw [hl])
    have hn12 : 1 ≤ n ∧ n ≤ 12 := by unfold rngB at hv; simp at hv; omega
    clear hv hl
    go_enter Tryz.func109, Tryz.ntmps109
    go_wp2_with fail
    refine (HC.out _).mono ?_
    rintro e w2 ⟨rfl, rfl⟩
    go_wp2
    go_loop [4] (fun i => ∃ k : Nat, k ≤ n ∧ i = .int .i64 k ∧ Hid (allN k (fun x : Nat => p.contains (x : Int)) = true)) (fun i => n - (intOf i).toNat)
    case atStart => exact ⟨0, Nat.zero_le _, rfl, Lib.hid rfl⟩
    case round =>
      obtain ⟨k, hk, rfl, hI⟩ := hrel
      by_cases hlt : k < n
      · have hcd : decide ((k : Int) ∈ p) = p.contains (k : Int) := by rw [Bool.eq_iff_iff]; simp
        have HH := Lib.hid (l01Has_any a n c p (k : Int) w h1 (by omega))
        cases hc : p.contains (k : Int) with
        | true =>
          rw [hc] at hcd
          have HD := Lib.hid hcd; have HCC := Lib.hid hc
          clear hc hcd
          go_wp2_with fail
          refine HH.out.mono ?_
          rintro e w2 ⟨rfl, rfl⟩
          rw [HD.out]
          go_wp2
          go_round
          case rel => exact ⟨k + 1, by omega, by go_num, Lib.hid (allN_succ hI.out HCC.out)⟩
          case measure => simp [intOf]; omega
        | false =>
          rw [hc] at hcd
          have HD := Lib.hid hcd; have HCC := Lib.hid hc
          clear hc hcd
          go_wp2_with fail
          refine HH.out.mono ?_
          rintro e w2 ⟨rfl, rfl⟩
          rw [HD.out]
          go_wp2
          go_ret
          exact ⟨ret_bool (by rw [HQ.out, allN_no hlt HCC.out]; rfl), rfl⟩
      · obtain rfl : k = n := by omega
        go_wp2
        go_ret
        exact ⟨ret_bool ((congrArg (fun b => true && b) (HQ.out.trans hI.out)).symm), rfl⟩

set_option maxHeartbeats 4000000 in
theorem l03Fault_any (a : Option Addr) (n c : Nat) (t : List (List Int)) (w : World) (h1 : Tbl w a n t) (hn1 : 1 ≤ n) (hn : n ≤ 12) (hf : Sq n t) :
    Calls Tryz.prog 117 #[.slice a n c] w (FltN (rkOk n t) w) := by
  obtain ⟨bf, of, A, O, C, rfl, gf⟩ := h1.grid hf hn1
  clear h1
  go_enter Tryz.func117, Tryz.ntmps117
  go_wp2
  go_loopw [4] (fun i wr => ∃ k : Nat, k ≤ n ∧ i = .int .i64 k ∧ Hid (allN k (fun x => allN n fun y => allN n fun z => rkAt t x y z) = true) ∧ ∃ m, wr = w.drewN m) (fun i _ => n - (intOf i).toNat)
  case atStart => exact ⟨0, Nat.zero_le _, rfl, Lib.hid rfl, 0, rfl⟩
  case round =>
    obtain ⟨x, hx, rfl, hx1, m1, rfl⟩ := hrel
    by_cases hlt : x < n
    · go_wp2
      go_loopw [5] (fun i wr => ∃ k : Nat, k ≤ n ∧ i = .int .i64 k ∧ Hid (allN k (fun y => allN n fun z => rkAt t x y z) = true) ∧ ∃ m, wr = w.drewN m) (fun i _ => n - (intOf i).toNat)
      case atStart => exact ⟨0, Nat.zero_le _, rfl, Lib.hid rfl, m1, rfl⟩
      case round =>
        obtain ⟨y, hy, rfl, hy1, m2, rfl⟩ := hrel
        by_cases hlty : y < n
        · go_wp2
          go_loopw [6] (fun i wr => ∃ k : Nat, k ≤ n ∧ i = .int .i64 k ∧ Hid (allN k (fun z => rkAt t x y z) = true) ∧ ∃ m, wr = w.drewN m) (fun i _ => n - (intOf i).toNat)
          case atStart => exact ⟨0, Nat.zero_le _, rfl, Lib.hid rfl, m2, rfl⟩
          case round =>
            obtain ⟨z, hz, rfl, hz1, m3, rfl⟩ := hrel
            by_cases hltz : z < n
            · have l1 := hf.lt hlty hltz
              have l2 := hf.lt hlt hlty
              have l3 := hf.lt hlt hltz
              obtain ⟨r1, k1⟩ := gf.look hlty hltz
              obtain ⟨r2, k2⟩ := gf.look hlt l1
              have k3 := gf.cell _ _ hlt hlty
              have k4 := gf.cell _ _ hlt hltz
              obtain ⟨r5, k5⟩ := gf.look l2 l3
              have hE : rkAt t x y z = decide (tv t x (tv t y z) = tv t (tv t x y) (tv t x z)) := rfl
              generalize tv t y z = q1 at *
              generalize tv t x y = q2 at *
              generalize tv t x z = q3 at *
              generalize tv t x q1 = A1 at *
              generalize tv t q2 q3 = A2 at *
              have HE := Lib.hid hE
              clear hE gf hf
              by_cases p1 : A1 = A2
              · have u1 : ((A1 : Int) != (A2 : Int)) = false := by simp [p1]
                have HE2 : Hid (rkAt t x y z = true) := Lib.hid (by rw [HE.out]; simp [p1])
                clear p1
                go_wp2
                go_quiet (fail)
                go_wp2
                go_roundw
                case rel => exact ⟨z + 1, by omega, by go_num, Lib.hid (allN_succ hz1.out HE2.out), _, rfl⟩
                case measure => simp [intOf]; omega
              · have u1 : ((A1 : Int) != (A2 : Int)) = true := by simp; omega
                have HE2 : Hid (rkAt t x y z = false) := Lib.hid (by rw [HE.out]; simp [p1])
                clear p1
                go_wp2
                go_quiet (fail)
                go_wp2
                go_ret
                exact ⟨.inr ⟨allN_no hlt (allN_no hlty (allN_no hltz HE2.out)), _, _, rfl⟩, below_al (below_drewN (Below.refl _ _) _) _⟩
            · obtain rfl : z = n := by omega
              go_wp2
              go_roundw
              case rel => exact ⟨y + 1, by omega, by go_num, Lib.hid (allN_succ hy1.out hz1.out), _, rfl⟩
              case measure => simp [intOf]; omega
        · obtain rfl : y = n := by omega
          go_wp2
          go_roundw
          case rel => exact ⟨x + 1, by omega, by go_num, Lib.hid (allN_succ hx1.out hy1.out), _, rfl⟩
          case measure => simp [intOf]; omega
    · obtain rfl : x = n := by omega
      go_wp2
      go_ret
      exact ⟨.inl ⟨hx1.out, rfl⟩, below_drewN (Below.refl _ _) _⟩

set_option maxHeartbeats 2000000 in
theorem l03Is_any (a : Option Addr) (n c : Nat) (t : List (List Int)) (w : World) (h1 : Tbl w a n t) (hm : n ≤ 9223372036854775807) :
    Calls Tryz.prog 108 #[rAgg a n c] w fun e w' => e = .returned (.bool (isRk t)) ∧ Below w.heap.size w w' := by
  have hA := Loc.new w rfl #[.slice a n c] 106
  cases hf : isTab t with
  | false =>
    have HQ : Hid (isRk t = false) := Lib.hid (isRk_no hf)
    have HF := Lib.hid hf; clear hf
    go_enter Tryz.func108, Tryz.ntmps108
    go_wp2_with fail
    refine (l01Table_any _ _ _ _ _ (h1.alloc _) hm).mono ?_
    rintro e w1 ⟨rfl, rfl⟩
    rw [HF.out]
    go_wp2
    go_ret
    exact ⟨ret_bool HQ.out.symm, below_al (Below.refl _ _) _⟩
  | true =>
    obtain ⟨hn1, hn12, sf⟩ := isTab_sq hf
    have hl := h1.len
    rw [← hl] at hn1 hn12 sf
    have HQ : Hid (isRk t = (t.all permOk && rkOk n t)) := Lib.hid (by unfold isRk; rw [hf, ← hl]; rfl)
    have HF := Lib.hid hf; have HSF := Lib.hid sf; have HL := Lib.hid hl
    have hr12 : rngB 1 12 (n : Int) = true := by unfold rngB; simp; omega
    have HR := Lib.hid hr12
    clear hf sf hl hr12
    have hB := below_al (Below.refl w.heap.size w) (.cells #[.slice a n c] 106)
    have t0 := h1.alloc (.cells #[.slice a n c] 106)
    have lA := hA.one
    go_enter Tryz.func108, Tryz.ntmps108
    go_wp2_with fail
    refine (l01Table_any _ _ _ _ _ (h1.alloc _) hm).mono ?_
    rintro e w1 ⟨rfl, rfl⟩
    rw [HF.out]
    go_wp2
    generalize w.alloc (.cells #[.slice a n c] 106) = w0 at *
    go_loop [3] (fun i => ∃ k : Nat, k ≤ n ∧ i = .int .i64 k ∧ Hid ((t.take k).all permOk = true)) (fun i => n - (intOf i).toNat)
    case atStart => exact ⟨0, Nat.zero_le _, rfl, Lib.hid (by simp)⟩
    case round =>
      obtain ⟨k, hk, rfl, hI⟩ := hrel
      by_cases hlt : k < n
      · obtain ⟨b, off, ai, ni, ci, rfl, g1, hri, hni⟩ := t0.at k hlt
        have hx : k < t.length := by have := HL.out; omega
        have hrl := HSF.out.row hlt
        have hll := hri.len
        obtain rfl : ni = n := by omega
        rw [Tbl.getD hx] at hri
        have HPP := Lib.hid (fun (w : World) (hr : Row w ai ni t[k]) => l01Perm_any ai ni ci t[k] w hr (by omega))
        cases hp : permOk t[k] with
        | true =>
          have HP := Lib.hid hp
          clear hp hrl hll t0
          go_wp2_with fail
          refine (HPP.out _ hri).mono ?_
          rintro e w2 ⟨rfl, rfl⟩
          rw [HR.out, HP.out]
          go_wp2
          go_round
          case rel => exact ⟨k + 1, by omega, by go_num, Lib.hid (all_get_succ hx hI.out HP.out)⟩
          case measure => simp [intOf]; omega
        | false =>
          have HP := Lib.hid hp
          clear hp hrl hll t0
          go_wp2_with fail
          refine (HPP.out _ hri).mono ?_
          rintro e w2 ⟨rfl, rfl⟩
          rw [HR.out, HP.out]
          go_wp2
          go_ret
          exact ⟨ret_bool (by rw [HQ.out, all_no hx HP.out]; rfl), hB⟩
      · obtain rfl : k = n := by omega
        have ha := hI.out
        rw [List.take_of_length_le (by have := HL.out; omega)] at ha
        have HA := Lib.hid ha; clear ha
        go_wp2_with fail
        refine (l03Fault_any _ _ _ t _ t0 hn1 hn12 HSF.out).mono ?_
        rintro e w3 ⟨he, hb3⟩
        rcases he with ⟨hc, rfl⟩ | ⟨hc, b, k', rfl⟩
        · have HD := Lib.hid hc; clear hc
          go_wp2
          go_ret
          exact ⟨ret_bool (by rw [HQ.out, HA.out, HD.out]; rfl), below_th hB hb3⟩
        · have HD := Lib.hid hc; clear hc
          go_wp2
          go_ret
          exact ⟨ret_bool (by rw [HQ.out, HA.out, HD.out]; rfl), below_th hB hb3⟩

end Go.Proofs.YtdkpalllfekiiaaGreat

namespace Go.Proofs.YtdkpalllfekiiaaGreat
set_option maxRecDepth 100000
set_option linter.unusedVariables false
set_option linter.unusedSimpArgs false
open Go.RowKit

/-- a matrix for n elements and m -/
def isMx (n m : Int) (f : List (List Int)) : Bool := rngB 1 12 m && (decide ((f.length : Int) = n) && f.all (rowOk n m))

end Go.Proofs.YtdkpalllfekiiaaGreat

namespace Go.Proofs.YtdkpalllfekiiaaGreat
set_option linter.unusedVariables false
set_option linter.unusedSimpArgs false

/-- a square of n by n numbers of at least 0 and less than m -/
def SqM (n m : Nat) (t : List (List Int)) : Prop := t.length = n ∧ ∀ x, x < n → (t.getD x []).length = n ∧ ∀ y, y < n → tv t x y < m ∧ (t.getD x []).getD y 0 = ((tv t x y : Nat) : Int)
theorem isMx_sq {n : Nat} {m : Int} {t : List (List Int)} (h : isMx n m t = true) : (1 ≤ m ∧ m ≤ 12) ∧ SqM n m.toNat t := by
  unfold isMx at h
  rw [Bool.and_eq_true, Bool.and_eq_true] at h
  obtain ⟨h1, h2, h3⟩ := h
  have hm : 1 ≤ m ∧ m ≤ 12 := by unfold rngB at h1; simpa using h1
  have hl : t.length = n := by have := of_decide_eq_true h2; omega
  refine ⟨hm, hl, fun x hx => ?_⟩
  have hxl : x < t.length := by omega
  have hr := List.all_eq_true.1 h3 t[x] (List.getElem_mem hxl)
  have e : t.getD x [] = t[x] := by simp [List.getD_eq_getElem?_getD, List.getElem?_eq_getElem hxl]
  obtain ⟨h4, h5⟩ := rowOk_get hr
  rw [e]
  refine ⟨by omega, fun y hy => ?_⟩
  have := h5 y (by omega)
  unfold tv
  rw [e]
  omega
/-- the number that a letter adds: l before it, r behind it -/
def wtT (M : List (List Int)) (m : Int) (x : Int) (l r : List Int) : Int :=
  if 0 < x then ((tv M (l.getD (plc x).toNat 0).toNat (l.getD ((plc x).toNat + 1) 0).toNat : Nat) : Int)
  else m - ((tv M (r.getD (plc x).toNat 0).toNat (r.getD ((plc x).toNat + 1) 0).toNat : Nat) : Int)
/-- the sum of the numbers along a word -/
def wtS (n : Nat) (f g M : List (List Int)) (m : Int) : List Int → List Int → Int
  | [], _ => 0
  | x :: xs, l => wtT M m x l (stepL n f g x l) + wtS n f g M m xs (stepL n f g x l)
theorem wtS_append (n : Nat) (f g M : List (List Int)) (m : Int) (xs ys l : List Int) : wtS n f g M m (xs ++ ys) l = wtS n f g M m xs l + wtS n f g M m ys (actL n f g xs l) := by
  induction xs generalizing l with
  | nil => simp [wtS, actL]
  | cons x r ih =>
    simp only [List.cons_append, wtS]
    rw [ih]
    show _ = _ + wtS n f g M m ys (actL n f g r (stepL n f g x l))
    omega
theorem wtS_take (n : Nat) (f g M : List (List Int)) (m : Int) (xs l : List Int) (k : Nat) (h : k < xs.length) :
    wtS n f g M m (xs.take (k + 1)) l = wtS n f g M m (xs.take k) l + wtT M m xs[k] (actL n f g (xs.take k) l) (actL n f g (xs.take (k + 1)) l) := by
  rw [actL_take n f g xs l k h, List.take_succ_eq_append_getElem h, wtS_append]
  simp [wtS]
theorem wtT_bd {n : Nat} {M : List (List Int)} {m : Int} (hM : SqM n m.toNat M) (hm : 1 ≤ m ∧ m ≤ 12) {x : Int} {l r : List Int} (hl : Less n l) (hr : Less n r) (h1 : (plc x).toNat + 1 < l.length) (h2 : (plc x).toNat + 1 < r.length) : 0 ≤ wtT M m x l r ∧ wtT M m x l r ≤ m := by
  unfold wtT
  split
  · obtain ⟨a, ha, ea⟩ := hl _ (show (plc x).toNat < l.length by omega)
    obtain ⟨b, hb, eb⟩ := hl _ h1
    rw [ea, eb]
    have := ((hM.2 a ha).2 b hb).1
    simp only [Int.toNat_natCast]
    omega
  · obtain ⟨a, ha, ea⟩ := hr _ (show (plc x).toNat < r.length by omega)
    obtain ⟨b, hb, eb⟩ := hr _ h2
    rw [ea, eb]
    have := ((hM.2 a ha).2 b hb).1
    simp only [Int.toNat_natCast]
    omega
/-- the weight -/
def wtF (n : Nat) (f g M : List (List Int)) (m : Int) (xs l : List Int) : Int := wtS n f g M m xs l % m
/-- both weights of a triple differ -/
def wtBad (n : Nat) (f g M : List (List Int)) (m : Int) (l : List Int) : Bool := !decide (wtF n f g M m [1, 2, 1] l = wtF n f g M m [2, 1, 2] l)
def wtFlt (n : Nat) (f g M : List (List Int)) (m : Int) : List Int := fltL n (wtBad n f g M m)

end Go.Proofs.YtdkpalllfekiiaaGreat

namespace Go.Proofs.YtdkpalllfekiiaaGreat
set_option linter.unusedVariables false
set_option linter.unusedSimpArgs false

/-- the second table of a rack's solution -/
def cstL (n : Nat) : List (List Int) := tabF n fun x _ => (x : Int)
theorem tabF_getD {n : Nat} {v : Nat → Nat → Int} {x y : Nat} (hx : x < n) (hy : y < n) : ((tabF n v).getD x []).getD y 0 = v x y := by
  rw [tabF_get n v x hx]; simp [List.getD_eq_getElem?_getD, List.getElem?_map, hy]
theorem tv_tab2 {n : Nat} {v : Nat → Nat → Int} {x y : Nat} (hx : x < n) (hy : y < n) : tv (tabF n v) x y = (v x y).toNat := by
  unfold tv; rw [tabF_getD hx hy]
theorem tabF_sq {n : Nat} {v : Nat → Nat → Int} (h : ∀ x y, x < n → y < n → 0 ≤ v x y ∧ v x y < n) : Sq n (tabF n v) := by
  refine ⟨tabF_len n v, fun x hx => ⟨?_, fun y hy => ?_⟩⟩
  · rw [tabF_get n v x hx]; simp
  · have := h x y hx hy
    rw [tv_tab2 hx hy, tabF_getD hx hy]
    omega
theorem Sq.eq_tabF {n : Nat} {t : List (List Int)} (h : Sq n t) : tabF n (fun x y => ((tv t x y : Nat) : Int)) = t := by
  apply List.ext_getElem
  · rw [tabF_len, h.len]
  · intro x h1 h2
    have hx : x < n := by rw [tabF_len] at h1; exact h1
    have e1 := tabF_get n (fun x y => ((tv t x y : Nat) : Int)) x hx
    rw [List.getD_eq_getElem?_getD, List.getElem?_eq_getElem h1] at e1
    simp only [Option.getD_some] at e1
    rw [e1]
    have hl := h.row hx
    have e2 : t.getD x [] = t[x] := by simp [List.getD_eq_getElem?_getD, List.getElem?_eq_getElem h2]
    rw [e2] at hl
    apply List.ext_getElem
    · simp [hl]
    · intro y g1 g2
      have hy : y < n := by simpa using g1
      have := h.val hx hy
      rw [e2, List.getD_eq_getElem?_getD, List.getElem?_eq_getElem g2] at this
      simp only [Option.getD_some] at this
      simp [this]
theorem sq_isTab {n : Nat} {t : List (List Int)} (h : Sq n t) (h1 : 1 ≤ n) (h2 : n ≤ 12) : isTab t = true := by
  unfold isTab
  rw [h.len, Bool.and_eq_true]
  refine ⟨by unfold rngB; simp; omega, ?_⟩
  rw [List.all_eq_true]
  intro r hr
  obtain ⟨x, hx, rfl⟩ := List.getElem_of_mem hr
  have hxn : x < n := by rw [h.len] at hx; exact hx
  have e2 : t.getD x [] = t[x] := by simp [List.getD_eq_getElem?_getD, List.getElem?_eq_getElem hx]
  have hl := h.row hxn
  rw [e2] at hl
  unfold rowOk
  rw [Bool.and_eq_true]
  refine ⟨by simp [hl], ?_⟩
  rw [List.all_eq_true]
  intro z hz
  obtain ⟨y, hy, rfl⟩ := List.getElem_of_mem hz
  have hv := h.val hxn (show y < n by omega)
  have hlt := h.lt hxn (show y < n by omega)
  rw [e2, List.getD_eq_getElem?_getD, List.getElem?_eq_getElem hy] at hv
  simp only [Option.getD_some] at hv
  rw [hv]
  unfold rngB
  simp
  omega
theorem allN_mk {n : Nat} {P : Nat → Bool} (h : ∀ k, k < n → P k = true) : allN n P = true := by
  unfold allN; rw [List.all_eq_true]; intro k hk; exact h k (List.mem_range.1 hk)
theorem cst_sq (n : Nat) : Sq n (cstL n) := tabF_sq fun x y hx hy => by omega
theorem tv_cst {n x y : Nat} (hx : x < n) (hy : y < n) : tv (cstL n) x y = x := by unfold cstL; rw [tv_tab2 hx hy]; simp
/-- a row that is a permutation does not lead two elements to one -/
theorem perm_inj {n : Nat} {t : List (List Int)} (h : Sq n t) (hp : t.all permOk = true) {x y z : Nat} (hx : x < n) (hy : y < n) (hz : z < n) (e : tv t x y = tv t x z) : y = z := by
  have hxl : x < t.length := by rw [h.len]; exact hx
  have hm := List.all_eq_true.1 hp t[x] (List.getElem_mem hxl)
  have e2 : t.getD x [] = t[x] := by simp [List.getD_eq_getElem?_getD, List.getElem?_eq_getElem hxl]
  have hl := h.row hx
  rw [e2] at hl
  have := (permOk_to hm).2 y z (by omega) (by omega)
  have v1 := h.val hx hy
  have v2 := h.val hx hz
  rw [e2] at v1 v2
  exact this (by rw [v1, v2, e])
theorem isRk_parts {t : List (List Int)} (h : isRk t = true) : isTab t = true ∧ t.all permOk = true ∧ rkOk t.length t = true := by
  unfold isRk at h
  rw [Bool.and_eq_true, Bool.and_eq_true] at h
  exact ⟨h.1, h.2.1, h.2.2⟩
theorem rk_isSol {t : List (List Int)} (h : isRk t = true) : isSol t (cstL t.length) = true := by
  obtain ⟨h1, h2, h3⟩ := isRk_parts h
  obtain ⟨n1, n2, sq⟩ := isTab_sq h1
  have hc := cst_sq t.length
  unfold isSol isPm
  rw [Bool.and_eq_true, Bool.and_eq_true, Bool.and_eq_true, Bool.and_eq_true]
  generalize hn : t.length = n at *
  refine ⟨⟨h1, sq_isTab hc n1 n2, by simp [hc.len]⟩, ?_, ?_⟩
  · unfold collOk
    refine allN_mk fun p hp => allN_mk fun q hq => ?_
    have a1 : p / n < n := Nat.div_lt_of_lt_mul hp
    have a2 : q / n < n := Nat.div_lt_of_lt_mul hq
    have b1 : p % n < n := Nat.mod_lt _ (by omega)
    have b2 : q % n < n := Nat.mod_lt _ (by omega)
    unfold collAt
    rw [tv_cst a1 b1, tv_cst a2 b2]
    by_cases e : p = q
    · simp [e]
    · simp only [e, decide_false, Bool.not_false, Bool.true_and, Bool.not_eq_true', Bool.and_eq_false_iff, decide_eq_false_iff_not]
      rw [← Classical.not_and_iff_not_or_not]
      rintro ⟨e1, e2⟩
      rw [← e2] at e1
      have := perm_inj sq h2 a1 b1 b2 e1
      apply e
      rw [← Nat.div_add_mod p n, ← Nat.div_add_mod q n, e2, this]
  · unfold eqOk
    refine allN_mk fun x hx => allN_mk fun y hy => allN_mk fun z hz => ?_
    have hr := allN_get (allN_get (allN_get h3 hx) hy) hz
    unfold rkAt at hr
    have hr := of_decide_eq_true hr
    have c1 := sq.lt hx hy
    have c2 := sq.lt hx hz
    have c3 := sq.lt hy hz
    unfold eqAt
    simp only [tv_cst hx hy, tv_cst hx hz, tv_cst hy hz, tv_cst c1 c2, tv_cst hx c3]
    simp [hr]
/-- each element leads itself to itself -/
def qndOk (n : Nat) (t : List (List Int)) : Bool := allN n fun x => decide (tv t x x = x)
/-- the kink -/
def knkL (n : Nat) (t : List (List Int)) : List Int := (List.range n).map fun x => ((tv t x x : Nat) : Int)
/-- strictly increasing -/
def incOk (L : List Int) : Bool := allN (L.length - 1) fun i => decide (L.getD i 0 < L.getD (i + 1) 0)
theorem knk_getD {n x : Nat} {t : List (List Int)} (h : x < n) : (knkL n t).getD x 0 = ((tv t x x : Nat) : Int) := by
  simp [knkL, List.getD_eq_getElem?_getD, List.getElem?_map, h]
theorem knk_len (n : Nat) (t : List (List Int)) : (knkL n t).length = n := by simp [knkL]
/-- numbers less than n that increase are the identity -/
theorem inc_id {n : Nat} {L : List Int} (hl : L.length = n) (hb : ∀ i, i < n → 0 ≤ L.getD i 0 ∧ L.getD i 0 < n) : incOk L = true ↔ ∀ i, i < n → L.getD i 0 = i := by
  constructor
  · intro h
    have step : ∀ i, i + 1 < n → L.getD i 0 < L.getD (i + 1) 0 := fun i hi => by
      have := allN_get h (k := i) (by omega)
      exact of_decide_eq_true this
    have lo : ∀ i, i < n → (i : Int) ≤ L.getD i 0 := by
      intro i
      induction i with
      | zero => intro hi; have := hb 0 hi; omega
      | succ i ih => intro hi; have := ih (by omega); have := step i hi; omega
    have hi' : ∀ k i, i + k + 1 = n → L.getD i 0 ≤ i := by
      intro k
      induction k with
      | zero => intro i hi; have := hb i (by omega); omega
      | succ k ih => intro i hi; have := ih (i + 1) (by omega); have := step i (by omega); omega
    intro i hi
    have := lo i hi
    have := hi' (n - i - 1) i (by omega)
    omega
  · intro h
    refine allN_mk fun i hi => ?_
    rw [h i (by omega), h (i + 1) (by omega)]
    simp
    omega
theorem inc_knk {n : Nat} {t : List (List Int)} (h : Sq n t) : incOk (knkL n t) = qndOk n t := by
  rw [Bool.eq_iff_iff, inc_id (knk_len n t) (fun i hi => by rw [knk_getD hi]; have := h.lt hi hi; omega)]
  constructor
  · intro g
    refine allN_mk fun x hx => ?_
    have := g x hx
    rw [knk_getD hx] at this
    simp
    omega
  · intro g i hi
    have := of_decide_eq_true (allN_get g hi)
    rw [knk_getD hi, this]
/-- no number but 0 on the diagonal -/
def diaOk (n : Nat) (M : List (List Int)) : Bool := allN n fun x => decide (tv M x x = 0)
/-- a quandle and a quandle weight of it -/
def qwOk (t : List (List Int)) (m : Int) (M : List (List Int)) : Bool := diaOk t.length M && (qndOk t.length t && decide (wtFlt t.length t (cstL t.length) M m = []))
/-- what IsQuandleWeight hands back -/
def iqF (t : List (List Int)) (m : Int) (M : List (List Int)) : Bool × Int := if isRk t then (if isMx t.length m M then (qwOk t m M, 0) else (false, 2)) else (false, 1)
section
variable {t M : List (List Int)} {m : Int}
theorem iqF_0 (h : isRk t = false) : iqF t m M = (false, 1) := by unfold iqF; rw [h]; rfl
theorem iqF_1 (h : isRk t = true) (h1 : isMx t.length m M = false) : iqF t m M = (false, 2) := by unfold iqF; rw [h, h1]; rfl
theorem iqF_2 (h : isRk t = true) (h1 : isMx t.length m M = true) : iqF t m M = (qwOk t m M, 0) := by unfold iqF; rw [h, h1]; rfl
end
end Go.Proofs.YtdkpalllfekiiaaGreat

namespace Go.Proofs.YtdkpalllfekiiaaGreat
set_option maxRecDepth 100000
set_option linter.unusedVariables false
set_option linter.unusedSimpArgs false
open Go.RowKit

/-- all rows are permutations -/
def RwsP (n : Nat) (t : List (List Int)) : Prop := t.length = n ∧ ∀ i, i < n → IsP n (t.getD i [])
theorem RwsP.sq {n : Nat} {t : List (List Int)} (h : RwsP n t) : Sq n t := by
  refine ⟨h.1, fun x hx => ⟨(h.2 x hx).len, fun y hy => ?_⟩⟩
  obtain ⟨z, hz, hzn⟩ := (h.2 x hx).at hy
  have : tv t x y = z := by unfold tv; rw [hz, Int.toNat_natCast]
  rw [this]; exact ⟨hzn, hz⟩
def sqrL (n : Nat) (t : List (List Int)) : List Int := (List.range n).map fun x : Nat => cyV t x x
theorem sqrL_len (n : Nat) (t : List (List Int)) : (sqrL n t).length = n := by simp [sqrL]
theorem sqrL_succ (n : Nat) (t : List (List Int)) : sqrL (n + 1) t = sqrL n t ++ [cyV t n n] := by simp [sqrL, List.range_succ]
def cyfP (t : List (List Int)) (x y z : Nat) : Bool := decide (cyV t (cyV t x y).toNat (cyV t x z).toNat = cyV t (cyV t y x).toNat (cyV t y z).toNat)
def cyfY (n : Nat) (t : List (List Int)) (x y : Nat) : Bool := (List.range n).all fun z => cyfP t x y z
def cyfX (n : Nat) (t : List (List Int)) (x : Nat) : Bool := (List.range n).all fun y => cyfY n t x y
def cyfOk (n : Nat) (t : List (List Int)) : Bool := (List.range n).all fun x => cyfX n t x
def isCyc (n : Nat) (t : List (List Int)) : Bool := permOk (sqrL n t) && cyfOk n t
theorem isP_perm {n : Nat} {p : List Int} (h : IsP n p) : permOk p = true := by
  obtain ⟨f, g, hl, h1, h2⟩ := h
  unfold permOk allN
  rw [List.all_eq_true]
  intro x hx
  have hx := List.mem_range.1 hx
  rw [hl] at hx
  have h3 := h1 x hx
  have h4 := h2 (g x) h3.2.1
  rw [h3.2.2.1] at h4
  rw [List.contains_iff_mem, ← h4]
  exact getD_mem (by omega)

end Go.Proofs.YtdkpalllfekiiaaGreat

namespace Go.Proofs.YtdkpalllfekiiaaGreat
set_option linter.unusedVariables false
set_option linter.unusedSimpArgs false
set_option maxRecDepth 100000
open Go.RowKit

/-- making n numbers, as an equation -/
theorem make_eq (n : Nat) (hn : n ≤ 1000000000000) : ∃ mk : World → World, ∀ v : World, (Instr.makeSlice 24 (.int .i64 n) (.int .i64 n)).run Tryz.prog v = .ok (.slice (some ⟨v.heap.size, 0, none⟩) n n) (mk v) ∧ Own (mk v) v.heap.size (some ⟨v.heap.size, 0, none⟩) n n (List.replicate n 0) ∧ Below v.heap.size v (mk v) ∧ v.heap.size < (mk v).heap.size := by
  have H : ∀ v : World, ∃ w' : World, (Instr.makeSlice 24 (.int .i64 n) (.int .i64 n)).run Tryz.prog v = .ok (.slice (some ⟨v.heap.size, 0, none⟩) n n) w' ∧ Own w' v.heap.size (some ⟨v.heap.size, 0, none⟩) n n (List.replicate n 0) ∧ Below v.heap.size v w' ∧ v.heap.size < w'.heap.size := fun v => by
    obtain ⟨i0, hi, hz0, hz1, hz2⟩ := info_parts info_int
    obtain ⟨w', hrun, r1, r2⟩ := run_make_full (P := Tryz.prog) v v.heap.size 24 2 i0 (.int .i64 0) 1 und_ints hi hz0 hz1 .i64 .i64 n (by rw [hz2]; omega) (by unfold maxLen; omega) (Nat.le_refl _)
    have ho : Own w' v.heap.size (some ⟨v.heap.size, 0, none⟩) n n (List.replicate n 0) := by
      refine ⟨by simp, ?_⟩
      have e : (madeCells (Value.int IntKind.i64 0).cells (n * 1)).toList = (List.replicate n (0 : Int)).map (.int .i64) := by
        rw [Nat.mul_one, List.map_replicate]; exact toList_madeCells_one _ _
      rw [e] at r1; exact r1
    exact ⟨w', hrun, ho, (Below.refl _ _).grown r2 (Nat.le_refl _) (by simp), ho.lt.2⟩
  obtain ⟨mk, h⟩ := Classical.axiomOfChoice H
  exact ⟨mk, h⟩
def zT (n : Nat) : List (List Int) := tabF n fun _ _ => 0
theorem zT_succ {n k : Nat} (h : k < n) : (zT n).take (k + 1) = (zT n).take k ++ [List.replicate n 0] := by
  unfold zT
  rw [tabF_succ _ h]
  congr 2
  apply List.ext_getElem
  · simp
  · intro i h1 h2; simp
set_option maxHeartbeats 16000000 in
theorem l02Empty_any (n : Nat) (w : World) (hn : n ≤ 100) :
    Calls Tryz.prog 130 #[.int .i64 n] w fun e w' => ∃ a c vs a' c' vs', e = .returned (sAgg a n c a' n c') ∧ OwnS w' w.heap.size a n c vs (zT n) a' n c' vs' (zT n) ∧ Below w.heap.size w w' := by
  obtain ⟨w0, hw0⟩ : ∃ w0, (w.alloc (.cells #[.slice none 0 0, .slice none 0 0] 42)).alloc (.cells #[.slice none 0 0, .slice none 0 0] 42) = w0 := ⟨_, rfl⟩
  have HZ0 : Hid (w0.heap.size = w.heap.size + 1 + 1) := Lib.hid (by rw [← hw0]; simp)
  have hB : Below w.heap.size w w0 := by rw [← hw0]; exact below_al (below_al (Below.refl _ _) _) _
  have hR : Loc w0 (w.heap.size) #[.slice none 0 0, .slice none 0 0] 42 := by rw [← hw0]; exact (Loc.new _ (by simp) _ _).alloc _
  have hO : Loc w0 (w.heap.size + 1) #[.slice none 0 0, .slice none 0 0] 42 := by rw [← hw0]; exact Loc.new _ (by simp) _ _
  have HW0 := Lib.hid hw0; clear hw0
  obtain ⟨mk, hmk⟩ := make_eq n (by omega)
  have HMK := Lib.hid hmk
  have hmk1 := fun v => (hmk v).1
  clear hmk
  go_enter Tryz.func130, Tryz.ntmps130
  go_wp2
  rw [HW0.out]
  go_loopw [4] (fun i wr => ∃ (k : Nat) (az : Option Addr) (cz : Nat) (vz : List SV) (ay : Option Addr) (cy : Nat) (vy : List SV), k ≤ n ∧ i = .int .i64 k ∧ Loc wr (w.heap.size + 1) #[.slice az k cz, .slice ay k cy] 42 ∧ Loc wr (w.heap.size) #[.slice none 0 0, .slice none 0 0] 42 ∧ OwnT wr w0.heap.size az k cz vz ((zT n).take k) ∧ OwnT wr w0.heap.size ay k cy vy ((zT n).take k) ∧ ApT az k vz ay k vy ∧ Below w.heap.size w wr) (fun i _ => n - (intOf i).toNat)
  case atStart => exact ⟨0, none, 0, [], none, 0, [], Nat.zero_le _, rfl, hO, hR, by simpa using OwnT.nil _ _, by simpa using OwnT.nil _ _, (fun g h _ => by rcases h with h | ⟨i, hi, _⟩; (cases h); omega), hB⟩
  case round =>
    clear hR hO hB
    obtain ⟨k, az, cz, vz, ay, cy, vy, hk, rfl, hO, hR, hz, hy, hap, hB⟩ := hrel
    have hOlt := hO.lt
    have hZ0 := HZ0.out
    obtain ⟨W, rfl⟩ : ∃ W : World, W = wr := ⟨_, rfl⟩
    by_cases hlt : k < n
    · have HZS := Lib.hid (zT_succ hlt)
      have lO := hO.two
      have hzhi := hz.uHi
      have hyhi := hy.uHi
      have hWs : w0.heap.size ≤ W.heap.size := by omega
      have ho5 : Own (mk W.drew) W.heap.size (some ⟨W.heap.size, 0, none⟩) n n (List.replicate n 0) := (HMK.out W.drew).2.1
      have hr5 : Below W.heap.size W (mk W.drew) := (Below.drew (Below.refl _ _)).trans (HMK.out W.drew).2.2.1
      have hs5 : W.heap.size < (mk W.drew).heap.size := (HMK.out W.drew).2.2.2
      have hO5 := hO.below hr5 hO.lt
      have lO5 := hO5.two
      have lO5a := (hO5.alloc (.cells #[.slice (some ⟨W.heap.size, 0, none⟩) n n] 24)).two
      have hz5 := hz.below hr5
      go_wp2
      go_region_law (refine step_appT1n rfl rfl hz5 rfl (ho5.mono hWs) (fun g h1 h2 => by have h3 := hzhi _ (.inl h1); have h4 := ho5.lo _ h2; omega) (fun i hi g h1 h2 => by have h3 := ho5.lo _ h1; have h4 := hzhi _ (.inr ⟨i, hi, h2⟩); omega) rfl (by omega) (by omega) ?_; intro g6 cc6 w6 hOT6 hg6 hat6 hb6; have hO6 := hO5.below hb6 (by omega); have lO6 := hO6.two)
      all_goals
        have hvl := hz5.vlen
        have hy5 := hy.below hr5
        have hy6 := hz5.other hy5 hap hg6
        have hap6 := ApT.snoc hz5 hy5 hap (v := (some ⟨W.heap.size, 0, none⟩, n, n)) hvl hat6 (fun q h1 h2 => by have h3 := ho5.lo _ h1; have h4 := hyhi _ h2; omega)
        have hsz6 := hg6.size
        have hBw := hB.size
        have hB6 := (hB.trans (hr5.mono hBw)).trans (hb6.mono (by omega))
        have hR6 := (hR.below hr5 hR.lt).below hb6 (by omega)
        have hz7 := hOT6.setlo (p := ⟨w.heap.size + 1, 0, none⟩) (by show w.heap.size + 1 < w0.heap.size; omega) (.slice (some ⟨g6, 0, none⟩) (k + 1) cc6)
        have hy7 := hy6.setlo (p := ⟨w.heap.size + 1, 0, none⟩) (by show w.heap.size + 1 < w0.heap.size; omega) (.slice (some ⟨g6, 0, none⟩) (k + 1) cc6)
        have hO7 := hO6.set 0 (.slice (some ⟨g6, 0, none⟩) (k + 1) cc6)
        have hR7 := hR6.setne (a := ⟨w.heap.size + 1, 0, none⟩) (by show w.heap.size ≠ w.heap.size + 1; omega) (.slice (some ⟨g6, 0, none⟩) (k + 1) cc6)
        have hB7 := below_setne (a := ⟨w.heap.size + 1, 0, none⟩) hB6 (by show w.heap.size ≤ w.heap.size + 1; omega) (.slice (some ⟨g6, 0, none⟩) (k + 1) cc6)
        have hsz7 : (w6.setCell ⟨w.heap.size + 1, 0, none⟩ (.slice (some ⟨g6, 0, none⟩) (k + 1) cc6)).heap.size = w6.heap.size := size_set _ _ _
        simp only [Array.setIfInBounds, List.size_toArray, List.length_cons, List.length_nil, Nat.zero_add, Nat.lt_add_one, Nat.reduceAdd, Nat.reduceLT, dif_pos, Nat.zero_lt_succ] at hO7
        have hlo7 : w0.heap.size ≤ (w6.setCell ⟨w.heap.size + 1, 0, none⟩ (.slice (some ⟨g6, 0, none⟩) (k + 1) cc6)).heap.size := by rw [hsz7]; omega
        clear hsz7 hO6 lO6 hB6 hR6 hz hy hO hR lO lO5 lO5a hz5 hy5 hy6 hOT6 hO5 ho5 hB hr5 hs5 hzhi hyhi hg6 hat6 hb6 hsz6 hap hvl
        generalize w6.setCell ⟨w.heap.size + 1, 0, none⟩ (.slice (some ⟨g6, 0, none⟩) (k + 1) cc6) = w7 at *
        have hyhi := hy7.uHi
        have hzhi := hz7.uHi
        have hvl7 := hy7.vlen
        have lO7 := hO7.two
        have ho5 : Own (mk w7.drew) w7.heap.size (some ⟨w7.heap.size, 0, none⟩) n n (List.replicate n 0) := (HMK.out w7.drew).2.1
        have hr5 : Below w7.heap.size w7 (mk w7.drew) := (Below.drew (Below.refl _ _)).trans (HMK.out w7.drew).2.2.1
        have hs5 : w7.heap.size < (mk w7.drew).heap.size := (HMK.out w7.drew).2.2.2
        have hO5 := hO7.below hr5 hO7.lt
        have lO5 := hO5.two
        have lO5a := (hO5.alloc (.cells #[.slice (some ⟨w7.heap.size, 0, none⟩) n n] 24)).two
        have hy5 := hy7.below hr5
        go_upto_region 6 with fail
        go_region_law (refine step_appT1n rfl rfl hy5 rfl (ho5.mono hlo7) (fun g h1 h2 => by have h3 := hyhi _ (.inl h1); have h4 := ho5.lo _ h2; omega) (fun i hi g h1 h2 => by have h3 := ho5.lo _ h1; have h4 := hyhi _ (.inr ⟨i, hi, h2⟩); omega) rfl (by omega) (by omega) ?_; intro g9 cc9 w9 hOT9 hg9 hat9 hb9; have hO9 := hO5.below hb9 (by omega); have lO9 := hO9.two)
        all_goals
          have hz5 := hz7.below hr5
          have hz9 := hy5.other hz5 hap6.symm hg9
          have hap9 := (ApT.snoc hy5 hz5 hap6.symm (v := (some ⟨w7.heap.size, 0, none⟩, n, n)) hvl7 hat9 (fun q h1 h2 => by have h3 := ho5.lo _ h1; have h4 := hzhi _ h2; omega)).symm
          have hO10 := hO9.set 1 (.slice (some ⟨g9, 0, none⟩) (k + 1) cc9)
          have hR9 := ((hR7.below hr5 hR7.lt).below hb9 (by omega)).setne (a := ⟨w.heap.size + 1, 1, none⟩) (by show w.heap.size ≠ w.heap.size + 1; omega) (.slice (some ⟨g9, 0, none⟩) (k + 1) cc9)
          have hB9 := below_setne (a := ⟨w.heap.size + 1, 1, none⟩) ((hB7.trans (hr5.mono hB7.size)).trans (hb9.mono (by omega))) (by show w.heap.size ≤ w.heap.size + 1; omega) (.slice (some ⟨g9, 0, none⟩) (k + 1) cc9)
          go_wp2
          go_roundw
          case rel => exact ⟨k + 1, _, _, _, _, _, _, by omega, by go_num, hO10, hR9, by rw [HZS.out]; exact hz9.setlo (by show w.heap.size + 1 < w0.heap.size; omega) _, by rw [HZS.out]; exact hOT9.setlo (by show w.heap.size + 1 < w0.heap.size; omega) _, hap9, hB9⟩
          case measure => simp [intOf]; omega
    · obtain rfl : k = n := by omega
      rw [List.take_of_length_le (by unfold zT; rw [tabF_len]; exact Nat.le_refl _)] at hz hy
      have lO := hO.two
      have lR := hR.two
      go_wp2
      refine bodyPost_ret (v := sAgg az k cz ay k cy) (by simp [results, Tryz.results130, go_sem, lR, lO]) rfl ⟨az, cz, vz, ay, cy, vy, rfl, ⟨?_, ?_, hap⟩, ?_⟩
      · exact ((hz.setlo (by show w.heap.size < w0.heap.size; omega) _).setlo (by show w.heap.size < w0.heap.size; omega) _).mono (by omega)
      · exact ((hy.setlo (by show w.heap.size < w0.heap.size; omega) _).setlo (by show w.heap.size < w0.heap.size; omega) _).mono (by omega)
      · exact below_setne (below_setne hB (by show w.heap.size ≤ w.heap.size; omega) _) (by show w.heap.size ≤ w.heap.size; omega) _
end Go.Proofs.YtdkpalllfekiiaaGreat

namespace Go.Proofs.YtdkpalllfekiiaaGreat
set_option linter.unusedVariables false
set_option linter.unusedSimpArgs false
set_option maxRecDepth 100000
open Go.RowKit

/-- all numbers of a square are in range -/
def InR (n : Nat) (V : Nat → Nat → Int) : Prop := ∀ x y, x < n → y < n → 0 ≤ V x y ∧ V x y < n
theorem InR.upd {n : Nat} {V : Nat → Nat → Int} (h : InR n V) (u v : Nat) {z : Nat} (hz : z < n) : InR n (updQ V u v z) := fun x y hx hy => by
  unfold updQ
  split
  · omega
  · exact h x y hx hy
set_option maxHeartbeats 16000000 in
theorem l02Inverse_any (n : Nat) (a a' : Option Addr) (c c' : Nat) (f g : List (List Int)) (w : World) (t1 : Tbl w a n f) (t2 : Tbl w a' n g) (s1 : Sq n f) (s2 : Sq n g) (n1 : 1 ≤ n) (hn : n ≤ 100) :
    Calls Tryz.prog 125 #[sAgg a n c a' n c'] w (SolB w n) := by
  obtain ⟨ba, oa, A1, O1, C1, rfl, G1⟩ := t1.grid s1 n1
  obtain ⟨ba', oa', A2, O2, C2, rfl, G2⟩ := t2.grid s2 n1
  clear t1 t2
  obtain ⟨w0, hw0⟩ : ∃ w0, (w.alloc (.cells #[.slice (some ⟨ba, oa, none⟩) n c, .slice (some ⟨ba', oa', none⟩) n c'] 42)).alloc (.cells #[.slice none 0 0, .slice none 0 0] 42) = w0 := ⟨_, rfl⟩
  have HZ0 : Hid (w0.heap.size = w.heap.size + 1 + 1) := Lib.hid (by rw [← hw0]; simp)
  have hB0 : Below w.heap.size w w0 := by rw [← hw0]; exact below_al (below_al (Below.refl _ _) _) _
  have hX : Loc w0 w.heap.size #[.slice (some ⟨ba, oa, none⟩) n c, .slice (some ⟨ba', oa', none⟩) n c'] 42 := by rw [← hw0]; exact (Loc.new w rfl _ _).alloc _
  have hR : Loc w0 (w.heap.size + 1) #[.slice none 0 0, .slice none 0 0] 42 := by rw [← hw0]; exact Loc.new _ (by simp) _ _
  have HW0 := Lib.hid hw0; clear hw0
  have lX := hX.two
  have S1 := Lib.hid (fun x y (hx : x < n) (hy : y < n) => s1.lt (x := x) (y := y) hx hy)
  have S2 := Lib.hid (fun x y (hx : x < n) (hy : y < n) => s2.lt (x := x) (y := y) hx hy)
  clear s1 s2
  go_enter Tryz.func125, Tryz.ntmps125
  go_wp2_with fail
  rw [HW0.out]
  refine (l02Empty_any n _ hn).mono ?_
  rintro e w1 ⟨az, cz, vz, ay, cy, vy, rfl, ho1, hb1⟩
  obtain ⟨gz, rfl, _⟩ := ho1.f.cells (by omega)
  obtain ⟨gy, rfl, _⟩ := ho1.s.cells (by omega)
  have hX1 := hX.below hb1 hX.lt
  have hR1 := hR.below hb1 hR.lt
  have hB1 := below_th hB0 hb1
  have HHZ : Hid (∀ q, TblS (some ⟨gz, 0, none⟩) n vz q → w0.heap.size ≤ q ∧ q < w1.heap.size) := Lib.hid fun q h => ⟨ho1.f.uLo q h, ho1.f.uHi q h⟩
  have HHY : Hid (∀ q, TblS (some ⟨gy, 0, none⟩) n vy q → w0.heap.size ≤ q ∧ q < w1.heap.size) := Lib.hid fun q h => ⟨ho1.s.uLo q h, ho1.s.uHi q h⟩
  have HAP := Lib.hid ho1.ap
  have hz1 := hb1.size
  obtain ⟨w2, hw2⟩ : ∃ w2, w1.alloc (.cells #[.slice (some ⟨gz, 0, none⟩) n cz, .slice (some ⟨gy, 0, none⟩) n cy] 42) = w2 := ⟨_, rfl⟩
  have hb2 : Below w1.heap.size w1 w2 := by rw [← hw2]; exact below_al (Below.refl _ _) _
  have hO2 : Loc w2 w1.heap.size #[.slice (some ⟨gz, 0, none⟩) n cz, .slice (some ⟨gy, 0, none⟩) n cy] 42 := by rw [← hw2]; exact Loc.new w1 rfl _ _
  have hZ2 : OwnT w2 w0.heap.size (some ⟨gz, 0, none⟩) n cz vz (tabF n fun _ _ => 0) := ho1.f.below hb2
  have hY2 : OwnT w2 w0.heap.size (some ⟨gy, 0, none⟩) n cy vy (tabF n fun _ _ => 0) := ho1.s.below hb2
  have hX2 := hX1.below hb2 hX1.lt
  have hR2 := hR1.below hb2 hR1.lt
  have hB2 := below_th hB1 hb2
  have hX1l := hX1.lt
  have HW2 := Lib.hid hw2
  clear hw2 ho1 hX hR hX1 hR1 hB0 hB1 lX
  go_wp2
  try rw [HW2.out]
  go_loopw [5, 6, 7, 8] (fun i _ _ _ wr => ∃ (k : Nat) (V U : Nat → Nat → Int), k ≤ n ∧ i = .int .i64 k ∧ OwnT wr w0.heap.size (some ⟨gz, 0, none⟩) n cz vz (tabF n V) ∧ OwnT wr w0.heap.size (some ⟨gy, 0, none⟩) n cy vy (tabF n U) ∧ Hid (InR n V) ∧ Hid (InR n U) ∧ Loc wr w1.heap.size #[.slice (some ⟨gz, 0, none⟩) n cz, .slice (some ⟨gy, 0, none⟩) n cy] 42 ∧ Loc wr w.heap.size #[.slice (some ⟨ba, oa, none⟩) n c, .slice (some ⟨ba', oa', none⟩) n c'] 42 ∧ Loc wr (w.heap.size + 1) #[.slice none 0 0, .slice none 0 0] 42 ∧ Below w.heap.size w wr) (fun i _ _ _ _ => n - (intOf i).toNat)
  case atStart => exact ⟨0, _, _, Nat.zero_le _, rfl, hZ2, hY2, Lib.hid (fun x y _ _ => by show 0 ≤ (0 : Int) ∧ (0 : Int) < n; omega), Lib.hid (fun x y _ _ => by show 0 ≤ (0 : Int) ∧ (0 : Int) < n; omega), hO2, hX2, hR2, hB2⟩
  case round =>
    clear hZ2 hY2 hO2 hX2 hR2 hB2
    obtain ⟨k, V, U, hk, rfl, hZ, hY, HV, HU, hO, hX, hR, hB⟩ := hrel
    have hz0 := HZ0.out
    by_cases hlt : k < n
    · go_wp2
      go_loopw [6, 7, 8] (fun i _ _ wr => ∃ (j : Nat) (V U : Nat → Nat → Int), j ≤ n ∧ i = .int .i64 j ∧ OwnT wr w0.heap.size (some ⟨gz, 0, none⟩) n cz vz (tabF n V) ∧ OwnT wr w0.heap.size (some ⟨gy, 0, none⟩) n cy vy (tabF n U) ∧ Hid (InR n V) ∧ Hid (InR n U) ∧ Loc wr w1.heap.size #[.slice (some ⟨gz, 0, none⟩) n cz, .slice (some ⟨gy, 0, none⟩) n cy] 42 ∧ Loc wr w.heap.size #[.slice (some ⟨ba, oa, none⟩) n c, .slice (some ⟨ba', oa', none⟩) n c'] 42 ∧ Loc wr (w.heap.size + 1) #[.slice none 0 0, .slice none 0 0] 42 ∧ Below w.heap.size w wr) (fun i _ _ _ => n - (intOf i).toNat)
      case atStart => exact ⟨0, V, U, Nat.zero_le _, rfl, hZ, hY, HV, HU, hO, hX, hR, hB⟩
      case round =>
        clear hZ hY hO hX hR hB HV HU
        obtain ⟨j, V, U, hj, rfl, hZ, hY, HV, HU, hO, hX, hR, hB⟩ := hrel
        obtain ⟨W, rfl⟩ : ∃ W : World, W = wr := ⟨_, rfl⟩
        by_cases hjt : j < n
        · have hu := S1.out k j hlt hjt
          have hv := S2.out k j hlt hjt
          obtain ⟨r1, k1⟩ := (G1.below hB).look hlt hjt
          obtain ⟨r2, k2⟩ := (G2.below hB).look hlt hjt
          obtain ⟨u, HUU⟩ : ∃ u, Hid (tv f k j = u) := ⟨_, Lib.hid rfl⟩
          obtain ⟨v, HVV⟩ : ∃ v, Hid (tv g k j = v) := ⟨_, Lib.hid rfl⟩
          rw [HUU.out] at k1 hu
          rw [HVV.out] at k2 hv
          obtain ⟨gz', g1, cg1, e1, ev1, rz, hcz, htz⟩ := hZ.spotQ hu
          cases e1
          obtain ⟨gy', g2, cg2, e2, ev2, ry, hcy, hty⟩ := hY.spotQ hu
          cases e2
          have hgz := HHZ.out g1 htz
          have hgy := HHY.out g2 hty
          have lO := hO.two
          have lX := hX.two
          have i1 : (0 : Int) ≤ (k : Int) := by omega
          have i2 : (k : Int) < (n : Int) := by omega
          have i3 : (0 : Int) ≤ (j : Int) := by omega
          have i4 : (j : Int) < (n : Int) := by omega
          have i5 : (0 : Int) ≤ (u : Int) := by omega
          have i6 : (u : Int) < (n : Int) := by omega
          have i7 : (0 : Int) ≤ (v : Int) := by omega
          have i8 : (v : Int) < (n : Int) := by omega
          have EV1 := Lib.hid ev1; have EV2 := Lib.hid ev2
          have HCZ := Lib.hid (hcz v hv); have HCY := Lib.hid (hcy v hv)
          clear ev1 ev2 hcz hcy
          go_wp2
          go_quiet (fail)
          have hZd := hZ.drewN nq
          have hYd := hY.drewN nq
          have hXd := hX.drewN nq
          have hOd := hO.drewN nq
          have hRd := hR.drewN nq
          have hBd := below_drewN hB nq
          have r2d : (W.drewN nq).cell? _ = _ := r2
          have k2d : (W.drewN nq).cell? _ = _ := k2
          have z1 : (W.drewN nq).cell? ⟨g1, v, none⟩ = _ := HCZ.out.1
          have z2 : (W.drewN nq).frozen? ⟨g1, v, none⟩ = false := HCZ.out.2
          clear r1 k1 r2 k2 rz ry lO lX hZ hY hX hO hR hB
          generalize W.drewN nq = w5 at *
          have lX := hXd.two
          go_upto_region 11 with fail
          have hZ6 := hZd.putQ hu hv EV1.out (k : Int)
          have hY6 := hYd.asetQ (p := ⟨g1, v, none⟩) (fun q h e => HAP.out g1 htz (by have : q = g1 := e; rwa [this] at h)) (.int .i64 k)
          have hO6 := hOd.setne (a := ⟨g1, v, none⟩) (by show w1.heap.size ≠ g1; omega) (.int .i64 k)
          have hX6 := hXd.setne (a := ⟨g1, v, none⟩) (by show w.heap.size ≠ g1; omega) (.int .i64 k)
          have hR6 := hRd.setne (a := ⟨g1, v, none⟩) (by show w.heap.size + 1 ≠ g1; omega) (.int .i64 k)
          have hB6 := below_setne (a := ⟨g1, v, none⟩) hBd (by show w.heap.size ≤ g1; omega) (.int .i64 k)
          clear hZd hYd hXd hOd hRd hBd r2d k2d z1 z2 lX
          generalize w5.setCell ⟨g1, v, none⟩ (.int .i64 k) = w6 at *
          obtain ⟨r2, k2⟩ := (G2.below hB6).look hlt hjt
          rw [HVV.out] at k2
          obtain ⟨gy'', g2', cg2', e2, ev2, ry, hcy, hty2⟩ := hY6.spotQ hu
          cases e2
          have ev3 := EV2.out.symm.trans ev2
          cases ev3
          have z3 := (hcy v hv).1
          have z4 := (hcy v hv).2
          have lX := hX6.two
          clear ev2 hcy hty2
          have hY7 := hY6.putQ hu hv EV2.out (j : Int)
          have hZ7 := hZ6.asetQ (p := ⟨g2, v, none⟩) (fun q h e => HAP.out q h (by have : q = g2 := e; rw [this]; exact hty)) (.int .i64 j)
          have HY7 := Lib.hid hY7; have HZ7 := Lib.hid hZ7
          clear hY7 hZ7
          go_wp2
          go_roundw
          case rel => exact ⟨j + 1, _, _, by omega, by go_num, HZ7.out, HY7.out, Lib.hid (HV.out.upd u v hlt), Lib.hid (HU.out.upd u v hjt), hO6.setne (a := ⟨g2, v, none⟩) (by show w1.heap.size ≠ g2; omega) _, hX6.setne (a := ⟨g2, v, none⟩) (by show w.heap.size ≠ g2; omega) _, hR6.setne (a := ⟨g2, v, none⟩) (by show w.heap.size + 1 ≠ g2; omega) _, below_setne (a := ⟨g2, v, none⟩) hB6 (by show w.heap.size ≤ g2; omega) _⟩
          case measure => simp [intOf]; omega
        · obtain rfl : j = n := by omega
          go_wp2
          go_roundw
          case rel => exact ⟨k + 1, V, U, by omega, by go_num, hZ, hY, HV, HU, hO, hX, hR, hB⟩
          case measure => simp [intOf]; omega
    · obtain rfl : k = n := by omega
      have lO := hO.two
      have lR := hR.two
      go_wp2
      refine bodyPost_ret (v := sAgg (some ⟨gz, 0, none⟩) k cz (some ⟨gy, 0, none⟩) k cy) (by simp [results, Tryz.results125, go_sem, lR, lO]) rfl ⟨_, cz, vz, _, _, cy, vy, _, rfl, ⟨?_, ?_, HAP.out⟩, tabF_sqI HV.out, tabF_sqI HU.out, ?_⟩
      · exact ((hZ.setlo (by show w.heap.size + 1 < w0.heap.size; omega) _).setlo (by show w.heap.size + 1 < w0.heap.size; omega) _).mono (by omega)
      · exact ((hY.setlo (by show w.heap.size + 1 < w0.heap.size; omega) _).setlo (by show w.heap.size + 1 < w0.heap.size; omega) _).mono (by omega)
      · exact below_setne (below_setne hB (by show w.heap.size ≤ w.heap.size + 1; omega) _) (by show w.heap.size ≤ w.heap.size + 1; omega) _
end Go.Proofs.YtdkpalllfekiiaaGreat

namespace Go.Proofs.YtdkpalllfekiiaaGreat
set_option linter.unusedVariables false
set_option linter.unusedSimpArgs false
set_option maxRecDepth 100000
open Go.RowKit

/-- where a number lies in a permutation -/
def idxP (p : List Int) (x : Int) : Nat := p.findIdx fun y => decide (y = x)
theorem idxP_of {p : List Int} {x : Int} {k : Nat} (hk : k < p.length) (h : p.getD k 0 = x) (h2 : ∀ j, j < k → p.getD j 0 ≠ x) : idxP p x = k := by
  unfold idxP
  rw [List.findIdx_eq hk]
  rw [List.getD_eq_getElem?_getD, List.getElem?_eq_getElem hk] at h
  refine ⟨by simpa using h, fun j hj => ?_⟩
  have := h2 j hj
  rw [List.getD_eq_getElem?_getD, List.getElem?_eq_getElem (by omega)] at this
  simpa using this
set_option maxHeartbeats 2000000 in
theorem l01Index_perm (n x : Nat) (a : Option Addr) (c : Nat) (p : List Int) (w : World) (h : Row w a n p) (hp : IsP n p) (hx : x < n) (hn : n ≤ 1000) :
    Calls Tryz.prog 128 #[.slice a n c, .int .i64 x] w fun e w' => e = .returned (.int .i64 (idxP p x)) ∧ idxP p x < n ∧ w' = w := by
  have HL := Lib.hid h.len
  obtain ⟨k0, hk0, hk1⟩ : ∃ k, k < n ∧ p.getD k 0 = (x : Int) := by
    obtain ⟨f, g, _, h1, h2⟩ := hp
    exact ⟨g x, (h1 x hx).2.1, by rw [h2 _ (h1 x hx).2.1, (h1 x hx).2.2.1]⟩
  have HK := Lib.hid (And.intro hk0 hk1)
  clear hk0 hk1 hp
  go_enter Tryz.func128, Tryz.ntmps128
  go_wp2
  go_loop [5] (fun i => ∃ k : Nat, k ≤ n ∧ i = .int .i64 k ∧ Hid (∀ j, j < k → p.getD j 0 ≠ (x : Int))) (fun i => n - (intOf i).toNat)
  case atStart => exact ⟨0, Nat.zero_le _, rfl, Lib.hid fun j hj => absurd hj (by omega)⟩
  case round =>
    obtain ⟨k, hk, rfl, HN⟩ := hrel
    by_cases hlt : k < n
    · obtain ⟨b, o, rfl, g⟩ := h.at k hlt
      obtain ⟨v, HV⟩ : ∃ v, Hid (p.getD k 0 = v) := ⟨_, Lib.hid rfl⟩
      rw [HV.out] at g
      have i1 : (0 : Int) ≤ (k : Int) := by omega
      have i2 : (k : Int) < (n : Int) := by omega
      by_cases hv : v = (x : Int)
      · have HI : Hid (idxP p x = k) := Lib.hid (idxP_of (by have := HL.out; omega) (by rw [HV.out, hv]) HN.out)
        have hb : (v == (x : Int)) = true := by simpa using hv
        subst hv
        go_wp2
        go_ret
        exact ⟨by rw [HI.out]; rfl, by rw [HI.out]; exact hlt, rfl⟩
      · have hb : (v == (x : Int)) = false := by simpa using hv
        go_wp2
        go_round
        case rel => exact ⟨k + 1, by omega, by go_num, Lib.hid fun j hj => by
          by_cases e : j = k
          · rw [e, HV.out]; exact hv
          · exact HN.out j (by omega)⟩
        case measure => simp [intOf]; omega
    · exact absurd HK.out.2 (HN.out k0 (by have := HK.out.1; omega))

set_option maxHeartbeats 8000000 in
theorem l02Involutive_any (n : Nat) (a : Option Addr) (c : Nat) (t : List (List Int)) (w : World) (h1 : Tbl w a n t) (hp : RwsP n t) (n1 : 1 ≤ n) (hn : n ≤ 100) :
    Calls Tryz.prog 124 #[.slice a n c] w (SolB w n) := by
  have hs := hp.sq
  have HRL : Hid (∀ x ∈ t, x.length ≤ 1000000) := Lib.hid fun x hx => by
    obtain ⟨i, hi, rfl⟩ := List.getElem_of_mem hx
    have := hs.row (x := i) (by rw [← hs.len]; exact hi)
    rw [List.getD_eq_getElem?_getD, List.getElem?_eq_getElem hi, Option.getD_some] at this
    omega
  obtain ⟨U, hU⟩ : ∃ U : Nat → Nat → Int, U = fun x y => ((idxP (t.getD (tv t x y) []) x : Nat) : Int) := ⟨_, rfl⟩
  have HUE : Hid (∀ x y, U x y = ((idxP (t.getD (tv t x y) []) x : Nat) : Int)) := Lib.hid fun x y => by rw [hU]
  have HSU : Hid (Sq n (tabF n U)) := Lib.hid (tabF_sqI fun x y hx hy => by
    rw [HUE.out]
    have hq := hp.2 _ (hs.lt hx hy)
    obtain ⟨f, g, hl, g1, g2⟩ := hq
    have hlt := (g1 x hx).2.1
    have : idxP (t.getD (tv t x y) []) x < n := by
      unfold idxP
      have h2 : List.findIdx (fun y => decide (y = (x : Int))) (t.getD (tv t x y) []) < (t.getD (tv t x y) []).length := by
        rw [List.findIdx_lt_length]
        refine ⟨(t.getD (tv t x y) [])[g x]'(by omega), List.getElem_mem _, ?_⟩
        have h3 := g2 (g x) hlt
        rw [(g1 x hx).2.2.1, getD_at (by omega)] at h3
        simpa using h3
      omega
    omega)
  clear hU
  have HP := Lib.hid hp.2
  have HS := Lib.hid hs
  obtain ⟨bt, ot, A, O, C, rfl, G⟩ := h1.grid hs n1
  clear hs hp
  have hR := Loc.new w rfl #[.slice none 0 0, .slice none 0 0] 42
  have hB0 := below_al (Below.refl w.heap.size w) (.cells #[.slice none 0 0, .slice none 0 0] 42)
  go_enter Tryz.func124, Tryz.ntmps124
  go_wp2_with fail
  refine (l01Own2_any _ n c t _ (h1.below hB0) (by omega) HRL.out).mono ?_
  rintro e w1 ⟨aF, cF, vF, rfl, hoF, hb1⟩
  have hR1 := hR.below hb1 hR.lt
  have hB1 := below_th hB0 hb1
  have hFhi := hoF.uHi
  have hFlo := hoF.uLo
  rw [size_alloc] at hFlo
  obtain ⟨w2, hw2⟩ : ∃ w2, w1.alloc (.cells #[.slice aF n cF, .slice none 0 0] 42) = w2 := ⟨_, rfl⟩
  have hO2 : Loc w2 w1.heap.size #[.slice aF n cF, .slice none 0 0] 42 := by rw [← hw2]; exact Loc.new w1 rfl _ _
  have hb2 : Below w1.heap.size w1 w2 := by rw [← hw2]; exact below_al (Below.refl _ _) _
  have hR2 := hR1.below hb2 hR1.lt
  have hF2 := (hoF.mono (lo' := w.heap.size + 1) (by rw [size_alloc]; exact Nat.le_refl _)).below hb2
  have hB2 := below_th hB1 hb2
  have hz2 : w2.heap.size = w1.heap.size + 1 := by rw [← hw2]; simp
  have HZ2 := Lib.hid hz2
  have hR1l := hR1.lt
  have HW2 := Lib.hid hw2
  clear hw2 hz2 hoF hR hR1 hB0 hB1 h1
  go_wp2
  try rw [HW2.out]
  go_loopw [4, 5, 6] (fun i _ _ wr => ∃ (k : Nat) (ay : Option Addr) (cy : Nat) (vy : List SV), k ≤ n ∧ i = .int .i64 k ∧ Loc wr w1.heap.size #[.slice aF n cF, .slice ay k cy] 42 ∧ Loc wr w.heap.size #[.slice none 0 0, .slice none 0 0] 42 ∧ OwnT wr (w.heap.size + 1) aF n cF vF t ∧ OwnT wr w2.heap.size ay k cy vy ((tabF n U).take k) ∧ Below w.heap.size w wr) (fun i _ _ _ => n - (intOf i).toNat)
  case atStart => exact ⟨0, none, 0, [], Nat.zero_le _, rfl, hO2, hR2, hF2, by simpa using OwnT.nil _ _, hB2⟩
  case round =>
    clear hO2 hR2 hF2 hB2
    obtain ⟨k, ay, cy, vy, hk, rfl, hO, hR, hF, hy, hB⟩ := hrel
    have hz2 := HZ2.out
    have hOlt := hO.lt
    by_cases hlt : k < n
    · have hE := Own.fresh wr rfl
      have hqe := below_al (Below.refl wr.heap.size wr) (.cells #[] 2)
      have HRU := Lib.hid (tabF_succ U hlt)
      go_wp2
      go_loopw [5, 6] (fun z i wq => ∃ (j : Nat) (ar : Option Addr) (cr : Nat), j ≤ n ∧ i = .int .i64 j ∧ z = .slice ar j cr ∧ Own wq wr.heap.size ar j cr ((List.range j).map fun y => U k y) ∧ Below wr.heap.size wr wq) (fun _ i _ => n - (intOf i).toNat)
      case atStart => exact ⟨0, _, 0, Nat.zero_le _, rfl, rfl, by simpa using hE, hqe⟩
      case round =>
        clear hE hqe
        obtain ⟨j, ar, cr, hj, rfl, rfl, hor, hqr⟩ := hrel
        have hwq := hqr.size
        obtain ⟨W, rfl⟩ : ∃ W : World, W = wr := ⟨_, rfl⟩
        by_cases hjt : j < n
        · have HU1 : Hid (((List.range (j + 1)).map fun y => U k y) = ((List.range j).map fun y => U k y) ++ [U k j]) := Lib.hid (by simp [List.range_succ])
          have hBW := hB.trans (hqr.mono hB.size)
          have hu := HS.out.lt hlt hjt
          obtain ⟨r1, k1⟩ := (G.below hBW).look hlt hjt
          have hUkj := HUE.out k j
          have HIP := Lib.hid (HP.out (tv t k j) hu)
          have r2 := (G.below hBW).row _ hu
          have hrow : Row W (some ⟨A (tv t k j), O (tv t k j), none⟩) n (t.getD (tv t k j) []) := ⟨by rw [HS.out.row hu], fun y hy => ⟨_, _, rfl, (G.below hBW).rlt _ hu, by rw [HS.out.val hu hy]; exact (G.below hBW).cell _ _ hu hy⟩⟩
          obtain ⟨u, HUU⟩ : ∃ u, Hid (tv t k j = u) := ⟨_, Lib.hid rfl⟩
          rw [HUU.out] at k1 hu hUkj HIP r2 hrow
          rw [hUkj] at HU1
          clear hUkj
          obtain ⟨X, HX⟩ : ∃ X, Hid (idxP (t.getD u []) (k : Int) = X) := ⟨_, Lib.hid rfl⟩
          have HCX := Lib.hid (fun (v : World) (hv : Row v (some ⟨A u, O u, none⟩) n (t.getD u [])) => l01Index_perm n k _ (C u) _ v hv HIP.out hlt (by omega))
          have hcx := HCX.out
          rw [HX.out] at hcx HU1
          have HCY := Lib.hid hcx
          clear hcx HCX
          have i1 : (0 : Int) ≤ (k : Int) := by omega
          have i2 : (k : Int) < (n : Int) := by omega
          have i3 : (0 : Int) ≤ (j : Int) := by omega
          have i4 : (j : Int) < (n : Int) := by omega
          have i5 : (0 : Int) ≤ (u : Int) := by omega
          have i6 : (u : Int) < (n : Int) := by omega
          go_wp2_with fail
          refine (HCY.out _ hrow).mono ?_
          rintro e w5 ⟨rfl, _, hw5⟩
          obtain rfl : W = w5 := hw5.symm
          go_wp2_with (at_builtin; refine app1 rfl rfl hor rfl rfl (by omega) hwq ?_; intro g' cc w8 hO8 hg8 hs8 hb8)
          go_roundw
          case rel => exact ⟨j + 1, _, _, by omega, by go_num, rfl, by rw [HU1.out]; exact hO8, hqr.trans hb8⟩
          case measure => simp [intOf]; omega
        · obtain rfl : j = n := by omega
          have hO3 := hO.below hqr hO.lt
          have hR3 := hR.below hqr hR.lt
          have hF3 := hF.below hqr
          have lO := hO3.two
          have hy3 := hy.below hqr
          have hyhi := hy.uHi
          have hylo := hy.uLo
          have hrlo := hor.lo
          have hBs := hB.size
          have hB3 := hB.trans (hqr.mono hBs)
          go_wp2_with (at_builtin; refine appT1g rfl rfl hy3 rfl (hor.mono (by omega)) (fun g h1 h2 => by have h3 := hyhi _ (.inl h1); have h4 := hrlo _ h2; omega) (fun i hi g h1 h2 => by have h3 := hrlo _ h1; have h4 := hyhi _ (.inr ⟨i, hi, h2⟩); omega) rfl (by omega) (by omega) ?_; intro g6 cc6 w6 hOT6 hg6 hat6 hb6; have hO6 := hO3.below hb6 (by omega); have lO6 := hO6.two)
          have hF6 := hF3.keep (w' := w6) (fun q hq hl => hb6.block q (by have := hFhi q hq; omega))
          have hR6 := hR3.below hb6 (by omega)
          have hB6 := hB3.trans (hb6.mono (by omega))
          have hO7 := hO6.set 1 (.slice (some ⟨g6, 0, none⟩) (k + 1) cc6)
          go_roundw
          case rel => exact ⟨k + 1, _, _, _, by omega, by go_num, hO7, hR6.setne (a := ⟨w1.heap.size, 1, none⟩) (by show w.heap.size ≠ w1.heap.size; omega) _, hF6.keep (fun q hq hl => Below.heap_setCell _ _ _ _ (by have := hFhi q hq; show q ≠ w1.heap.size; omega)), by rw [HRU.out]; exact hOT6.setlo (by show w1.heap.size < w2.heap.size; omega) _, below_setne (a := ⟨w1.heap.size, 1, none⟩) hB6 (by show w.heap.size ≤ w1.heap.size; omega) _⟩
          case measure => simp [intOf]; omega
    · obtain rfl : k = n := by omega
      rw [List.take_of_length_le (by rw [tabF_len]; exact Nat.le_refl _)] at hy
      have lO := hO.two
      have lR := hR.two
      have hylo := hy.uLo
      go_wp2
      refine bodyPost_ret (v := sAgg aF k cF ay k cy) (by simp [results, Tryz.results124, go_sem, lR, lO]) rfl ⟨aF, cF, vF, _, ay, cy, vy, _, rfl, ⟨?_, ?_, fun q e1 e2 => by have := hFhi q e1; have := hylo q e2; omega⟩, HS.out, HSU.out, ?_⟩
      · exact ((hF.setlo (by show w.heap.size < w.heap.size + 1; omega) _).setlo (by show w.heap.size < w.heap.size + 1; omega) _).mono (by omega)
      · exact ((hy.setlo (by show w.heap.size < w2.heap.size; omega) _).setlo (by show w.heap.size < w2.heap.size; omega) _).mono (by omega)
      · exact below_setne (below_setne hB (by show w.heap.size ≤ w.heap.size; omega) _) (by show w.heap.size ≤ w.heap.size; omega) _
end Go.Proofs.YtdkpalllfekiiaaGreat

namespace Go.Proofs.YtdkpalllfekiiaaGreat
set_option maxRecDepth 100000
set_option linter.unusedVariables false
set_option linter.unusedSimpArgs false
open Go.RowKit

theorem zrow9 {N k : Nat} (h : k < N) : (tabF N fun _ _ => 0).take (k + 1) = (tabF N fun _ _ => 0).take k ++ [List.replicate N 0] := by
  have hl : k < (tabF N fun _ _ => 0).length := by rw [tabF_len]; exact h
  rw [List.take_succ_eq_append_getElem hl]
  congr 2
  simp only [tabF, List.getElem_map]
  apply List.ext_getElem
  · simp
  · intro i h1 h2; simp
def facN : Nat → Nat
  | 0 => 1
  | n + 1 => (n + 1) * facN n
theorem facN_bd : ∀ k : Fin 5, facN k.1 ≤ 24 := by decide
end Go.Proofs.YtdkpalllfekiiaaGreat
