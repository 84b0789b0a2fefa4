/-
  Walks and plain laws of this seat, some texts in one.
  No condition but bounds on lengths.
-/
import Derived.Test.YtpdgpgbgakinlaaGreatPb8
import Derived.Test.YtpdgpgbgakinlaaGreatPb3
import Derived.Test.YtpdgpgbgakinlaaGreatPb7
import Derived.Test.YtpdgpgbgakinlaaGreatPb18
import Derived.Deep.RegionLaw
import Derived.Test.YtpdgpgbgakinlaaGreatPb9
import Derived.Test.YtpdgpgbgakinlaaGreatPb16
import Derived.Deep.DeepCutAuto
namespace Go.Proofs.YtpdgpgbgakinlaaGreat
set_option maxRecDepth 100000
set_option linter.unusedVariables false
set_option linter.unusedSimpArgs false
open Go.RowKit
def conR (n : Nat) (z : Int) : List Int := (List.range n).map fun _ => z
theorem conR_len (n : Nat) (z : Int) : (conR n z).length = n := by simp [conR]
theorem conR_succ {n j : Nat} (z : Int) (h : j < n) : (conR n z).take (j + 1) = (conR n z).take j ++ [z] := by
  rw [List.take_succ_eq_append_getElem (by rw [conR_len]; exact h)]; simp [conR]
def repT (n : Nat) (p : List Int) : List (List Int) := List.replicate n p
def colT (n : Nat) (q : List Int) : List (List Int) := (List.range n).map fun x => conR n (q.getD x 0)
theorem repT_succ {n k : Nat} (p : List Int) (h : k < n) : (repT n p).take (k + 1) = (repT n p).take k ++ [p] := by
  rw [List.take_succ_eq_append_getElem (by simp [repT]; exact h)]; simp [repT]
theorem colT_succ {n k : Nat} (q : List Int) (h : k < n) : (colT n q).take (k + 1) = (colT n q).take k ++ [conR n (q.getD k 0)] := by
  rw [List.take_succ_eq_append_getElem (by simp [colT]; exact h)]; simp [colT]
set_option maxHeartbeats 8000000 in
theorem l02Twist_any (a : Option Addr) (n c : Nat) (p : List Int) (a' : Option Addr) (c' : Nat) (q : List Int) (w : World) (hp : Row w a n p) (hq : Row w a' n q) (hn : n ≤ 1000) :
    Calls Tryz.prog 185 #[.slice a n c, .slice a' n c'] w fun e w' => ∃ a1 c1 vs a1' c1' vs', e = .returned (sAgg a1 n c1 a1' n c1') ∧ OwnS w' w.heap.size a1 n c1 vs (repT n p) a1' n c1' vs' (colT n q) ∧ Below w.heap.size w w' := by
  have hR := (Loc.new w rfl #[.slice none 0 0, .slice none 0 0] 26).alloc (.cells #[.slice none 0 0, .slice none 0 0] 26)
  have hO := Loc.new (w.alloc (.cells #[.slice none 0 0, .slice none 0 0] 26)) rfl #[.slice none 0 0, .slice none 0 0] 26
  rw [size_alloc] at hO
  have hB := below_al (below_al (Below.refl w.heap.size w) (.cells #[.slice none 0 0, .slice none 0 0] 26)) (.cells #[.slice none 0 0, .slice none 0 0] 26)
  have HPL := Lib.hid hp.len
  go_enter Tryz.func185, Tryz.ntmps185
  go_wp2
  generalize hw0 : (w.alloc (.cells #[.slice none 0 0, .slice none 0 0] 26)).alloc (.cells #[.slice none 0 0, .slice none 0 0] 26) = w0 at *
  have hz0 : w0.heap.size = w.heap.size + 2 := by rw [← hw0]; simp
  clear hw0
  go_loopw [6] (fun i wr => ∃ (k : Nat) (az : Option Addr) (cz : Nat) (vz : List SV) (ay : Option Addr) (cy : Nat) (vy : List SV), k ≤ n ∧ i = .int .i64 k ∧ Loc wr (w.heap.size + 1) #[.slice az k cz, .slice ay k cy] 26 ∧ Loc wr w.heap.size #[.slice none 0 0, .slice none 0 0] 26 ∧ OwnT wr w0.heap.size az k cz vz ((repT n p).take k) ∧ OwnT wr w0.heap.size ay k cy vy ((colT n q).take k) ∧ ApT az k vz ay k vy ∧ Below w.heap.size w wr) (fun i _ => n - (intOf i).toNat)
  case atStart => exact ⟨0, none, 0, [], none, 0, [], Nat.zero_le _, rfl, hO, hR, by simpa using OwnT.nil _ _, by simpa using OwnT.nil _ _, (fun g h _ => by rcases h with h | ⟨i, hi, _⟩; (cases h); omega), hB⟩
  case round =>
    clear hR hO hB
    obtain ⟨k, az, cz, vz, ay, cy, vy, hk, rfl, hO, hR, hz, hy, hap, hB⟩ := hrel
    have hOlt := hO.lt
    by_cases hlt : k < n
    · obtain ⟨bq, oq, rfl, g1⟩ := (hq.below hB).at k hlt
      have hbq := World.block_lt_of_cell? wr _ g1
      have hE := Own.fresh wr rfl
      have hqe := below_al (Below.refl wr.heap.size wr) (.cells #[] 2)
      have HCS := Lib.hid (colT_succ q hlt)
      generalize q.getD k 0 = Z at *
      go_wp2
      go_loopw [7, 8] (fun z i wq => ∃ (j : Nat) (ar : Option Addr) (cr : Nat), j ≤ n ∧ i = .int .i64 j ∧ z = .slice ar j cr ∧ Own wq wr.heap.size ar j cr ((conR n Z).take j) ∧ Below wr.heap.size wr wq) (fun _ i _ => n - (intOf i).toNat)
      case atStart => exact ⟨0, _, 0, Nat.zero_le _, rfl, rfl, by simpa using hE, hqe⟩
      case round =>
        clear hE hqe
        obtain ⟨j, ar, cr, hj, rfl, rfl, hor, hqr⟩ := hrel
        by_cases hjt : j < n
        · have HS := Lib.hid (conR_succ Z hjt)
          have hwq := hqr.size
          have g2 := (hqr.cell (p := ⟨bq, oq + k, none⟩) hbq).trans g1
          go_wp2_with (at_builtin; refine app1 rfl rfl hor rfl rfl (by omega) hwq ?_; intro g' cc w8 hOw hg8 hs8 hb8)
          go_roundw
          case rel => exact ⟨j + 1, _, _, by omega, by go_num, rfl, by rw [HS.out]; exact hOw, hqr.trans hb8⟩
          case measure => simp [intOf]; omega
        · obtain rfl : j = n := by omega
          rw [List.take_of_length_le (by rw [conR_len]; exact Nat.le_refl _)] at hor
          have hO3 := hO.below hqr hO.lt
          have hR3 := hR.below hqr hR.lt
          have lO := hO3.two
          have hz3 := hz.below hqr
          have hy3 := hy.below hqr
          have hB3 := hB.trans (hqr.mono (by have := hB.size; omega))
          have HRS := Lib.hid (repT_succ p hlt)
          have hwq := hqr.size
          have hzhi := hz.uHi
          have hyhi := hy.uHi
          have hrlo := hor.lo
          have hrhi := hor.hi
          clear hO hR hz hy hB g1 hbq
          obtain ⟨W, rfl⟩ : ∃ W : World, W = wr := ⟨_, rfl⟩
          go_wp2
          go_region_law (first
            | (refine step_appT1n rfl rfl hz5 rfl (ho5.mono (by omega)) (fun g h1 h2 => by have h3 := hzhi _ (.inl h1); have h4 := ho5.lo _ h2; omega) (fun i hi g h1 h2 => by have h3 := ho5.lo _ h1; have h4 := hzhi _ (.inr ⟨i, hi, h2⟩); omega) rfl (by omega) (by omega) ?_; intro g6 cc6 w6 hOT6 hg6 hat6 hb6; have hO6 := hO5.below hb6 (by omega); have lO6 := hO6.two)
            | (go_simp; go_at_call 130; refine (l01Own_any _ _ _ p _ (hp.below (below_drewN hB3 1)) (by omega)).mono ?_; rintro e w5 ⟨a5, c5, rfl, ho5', hb5⟩; have ho5 := ho5'.mono (lo' := W.heap.size) (Nat.le_refl _); have hr5 : Below W.heap.size W w5 := (Below.drew (Below.refl _ _)).trans hb5; have hO5 := hO3.below hr5 hO3.lt; have lO5 := hO5.two; have lO5a := (hO5.alloc (.cells #[.slice a5 j c5] 27)).two; have hz5 := hz3.below hr5; have hw5 := hr5.size))
          all_goals
            have hy5 := hy3.below hr5
            have hor5 := hor.below hr5
            have hvl := hz5.vlen
            have hy6 := hz5.other hy5 hap hg6
            have hap6 := ApT.snoc hz5 hy5 hap (v := (a5, j, c5)) hvl hat6 (fun q h1 h2 => by have h3 := ho5.lo _ h1; have h4 := hyhi _ h2; omega)
            have hor6 := hor5.grown hg6 (fun g h1 h2 => by have h3 := hrlo _ h1; have h4 := hzhi _ (hz5.ownBlk h2.symm); omega)
            have hsz6 := hg6.size
            have hB6 := (hB3.trans (hr5.mono (by have := hB3.size; omega))).trans (hb6.mono (by omega))
            have hR6 := (hR3.below hr5 hR3.lt).below hb6 (by omega)
            have hz7 := hOT6.setlo (p := ⟨w.heap.size + 1, 0, none⟩) (by show w.heap.size + 1 < w0.heap.size; omega) (.slice (some ⟨g6, 0, none⟩) (k + 1) cc6)
            have hy7 := hy6.setlo (p := ⟨w.heap.size + 1, 0, none⟩) (by show w.heap.size + 1 < w0.heap.size; omega) (.slice (some ⟨g6, 0, none⟩) (k + 1) cc6)
            have hor7 := (hor6.mono (lo' := w0.heap.size) (by omega)).setlo (p := ⟨w.heap.size + 1, 0, none⟩) (by show w.heap.size + 1 < w0.heap.size; omega) (.slice (some ⟨g6, 0, none⟩) (k + 1) cc6)
            have hO7 := hO6.set 0 (.slice (some ⟨g6, 0, none⟩) (k + 1) cc6)
            have hR7 := hR6.setne (a := ⟨w.heap.size + 1, 0, none⟩) (by show w.heap.size ≠ w.heap.size + 1; omega) (.slice (some ⟨g6, 0, none⟩) (k + 1) cc6)
            have hB7 := below_setne (a := ⟨w.heap.size + 1, 0, none⟩) hB6 (by show w.heap.size ≤ w.heap.size + 1; omega) (.slice (some ⟨g6, 0, none⟩) (k + 1) cc6)
            have hsz7 : (w6.setCell ⟨w.heap.size + 1, 0, none⟩ (.slice (some ⟨g6, 0, none⟩) (k + 1) cc6)).heap.size = w6.heap.size := size_set _ _ _
            simp only [Array.setIfInBounds, List.size_toArray, List.length_cons, List.length_nil, Nat.zero_add, Nat.lt_add_one, Nat.reduceAdd, Nat.reduceLT, dif_pos, Nat.zero_lt_succ] at hO7
            have hyhi6 := hyhi
            have hvl7 := hy7.vlen
            have lO7 := hO7.two
            have lO7a := (hO7.alloc (.cells #[.slice ar j cr] 27)).two
            have HSZ := Lib.hid hsz7
            have hlo7 : w0.heap.size ≤ (w6.setCell ⟨w.heap.size + 1, 0, none⟩ (.slice (some ⟨g6, 0, none⟩) (k + 1) cc6)).heap.size := by rw [hsz7]; omega
            have hyz : ∀ g, TblS ay k vy g → ∀ q, ar = some ⟨q, 0, none⟩ → q ≠ g := fun g h1 q h2 e => by have h3 := hrlo _ h2; have h4 := hyhi _ h1; omega
            have hrz : ∀ q, ar = some ⟨q, 0, none⟩ → ¬ TblS (some ⟨g6, 0, none⟩) (k + 1) (vz ++ [(a5, j, c5)]) q := fun q h2 h1 => by
              have k1 := hrlo _ h2
              have k2 := hrhi _ h2
              rcases h1 with e | ⟨i, hi, e⟩
              · cases e
                rcases hat6 with e | e
                · have := hzhi _ (hz5.ownBlk e); omega
                · omega
              · by_cases hik : i < k
                · have e2 : (vz ++ [(a5, j, c5)]).getD i svO = vz.getD i svO := by simp [List.getD_eq_getElem?_getD, List.getElem?_append_left (show i < vz.length by omega)]
                  rw [e2] at e
                  have := hzhi _ (.inr ⟨i, hik, e⟩); omega
                · have e2 : i = vz.length := by omega
                  have e3 : (vz ++ [(a5, j, c5)]).getD i svO = (a5, j, c5) := by rw [e2]; simp [List.getD_eq_getElem?_getD]
                  rw [e3] at e
                  have := ho5.lo _ e; omega
            clear hsz7 hO6 lO6 hO5 lO5 lO5a hB6 hB3 hO3 lO hR3 hR6 hz3 hy3 hz5 hy5
            generalize w6.setCell ⟨w.heap.size + 1, 0, none⟩ (.slice (some ⟨g6, 0, none⟩) (k + 1) cc6) = w7 at *
            go_wp2_with (at_builtin; refine appT1g rfl rfl hy7 rfl hor7 (fun g h1 h2 => hyz _ (.inl h1) _ h2 rfl) (fun i hi g h1 h2 => hyz _ (.inr ⟨i, hi, h2⟩) _ h1 rfl) rfl (by omega) hlo7 ?_; intro g9 cc9 w9 hOT9 hg9 hat9 hb9; have hO9 := hO7.below hb9 (by omega); have lO9 := hO9.two)
            have hz9 := hy7.other hz7 hap6.symm hg9
            have hap9 := (ApT.snoc hy7 hz7 hap6.symm (v := (ar, j, cr)) hvl7 hat9 hrz).symm
            have hO10 := hO9.set 1 (.slice (some ⟨g9, 0, none⟩) (k + 1) cc9)
            have hR9 := (hR7.below hb9 (by omega)).setne (a := ⟨w.heap.size + 1, 1, none⟩) (by show w.heap.size ≠ w.heap.size + 1; omega) (.slice (some ⟨g9, 0, none⟩) (k + 1) cc9)
            have hB9 := below_setne (a := ⟨w.heap.size + 1, 1, none⟩) (hB7.trans (hb9.mono (by omega))) (by show w.heap.size ≤ w.heap.size + 1; omega) (.slice (some ⟨g9, 0, none⟩) (k + 1) cc9)
            go_roundw
            case rel => exact ⟨k + 1, _, _, _, _, _, _, by omega, by go_num, hO10, hR9, by rw [HRS.out]; exact hz9.setlo (by show w.heap.size + 1 < w0.heap.size; omega) _, by rw [HCS.out]; exact hOT9.setlo (by show w.heap.size + 1 < w0.heap.size; omega) _, hap9, hB9⟩
            case measure => simp [intOf]; omega
    · obtain rfl : k = n := by omega
      rw [List.take_of_length_le (by simp [repT])] at hz
      rw [List.take_of_length_le (by simp [colT])] at hy
      have lO := hO.two
      have lR := hR.two
      go_wp2
      refine bodyPost_ret (v := sAgg az k cz ay k cy) (by simp [results, Tryz.results185, go_sem, lR, lO]) rfl ⟨az, cz, vz, ay, cy, vy, rfl, ⟨?_, ?_, hap⟩, ?_⟩
      · exact ((hz.setlo (by show w.heap.size < w0.heap.size; omega) _).setlo (by show w.heap.size < w0.heap.size; omega) _).mono (by omega)
      · exact ((hy.setlo (by show w.heap.size < w0.heap.size; omega) _).setlo (by show w.heap.size < w0.heap.size; omega) _).mono (by omega)
      · exact below_setne (below_setne hB (by show w.heap.size ≤ w.heap.size; omega) _) (by show w.heap.size ≤ w.heap.size; omega) _
set_option maxHeartbeats 1000000 in
theorem l02Flip_any (n : Nat) (w : World) (hn : n ≤ 1000) :
    Calls Tryz.prog 172 #[.int .i64 n] w fun e w' => ∃ a1 c1 vs a1' c1' vs', e = .returned (sAgg a1 n c1 a1' n c1') ∧ OwnS w' w.heap.size a1 n c1 vs (repT n (unitL n)) a1' n c1' vs' (colT n (unitL n)) ∧ Below w.heap.size w w' := by
  have hR := Loc.new w rfl #[.slice none 0 0, .slice none 0 0] 26
  have hB := below_al (Below.refl w.heap.size w) (.cells #[.slice none 0 0, .slice none 0 0] 26)
  go_enter Tryz.func172, Tryz.ntmps172
  go_wp2_with fail
  generalize w.alloc (.cells #[.slice none 0 0, .slice none 0 0] 26) = w0 at *
  refine (l01Unit_any n _ (by omega)).mono ?_
  rintro e w1 ⟨a1, c1, rfl, ho1, hb1⟩
  go_wp2_with fail
  refine (l02Twist_any _ n _ (unitL n) _ _ (unitL n) _ ho1.row ho1.row hn).mono ?_
  rintro e w2 ⟨a2, c2, vs2, a2', c2', vs2', rfl, ho2, hb2⟩
  have hz : w.heap.size < w0.heap.size := hR.lt
  have s1 := hb1.size
  have hR2 := (hR.below hb1 hR.lt).below hb2 (hR.below hb1 hR.lt).lt
  have lR := hR2.two
  go_wp2
  refine bodyPost_ret (v := sAgg a2 n c2 a2' n c2') (by simp [results, Tryz.results172, go_sem, lR]) rfl ⟨a2, c2, vs2, a2', c2', vs2', rfl, ⟨?_, ?_, ho2.ap⟩, ?_⟩
  · exact ((ho2.f.setlo (by show w.heap.size < w1.heap.size; omega) _).setlo (by show w.heap.size < w1.heap.size; omega) _).mono (by omega)
  · exact ((ho2.s.setlo (by show w.heap.size < w1.heap.size; omega) _).setlo (by show w.heap.size < w1.heap.size; omega) _).mono (by omega)
  · exact below_setne (below_setne (below_th (below_th hB hb1) hb2) (by show w.heap.size ≤ w.heap.size; omega) _) (by show w.heap.size ≤ w.heap.size; omega) _
end Go.Proofs.YtpdgpgbgakinlaaGreat

namespace Go.Proofs.YtpdgpgbgakinlaaGreat
set_option maxRecDepth 100000
set_option linter.unusedVariables false
set_option linter.unusedSimpArgs false
open Go.RowKit
theorem wp_app1h {o : Oper} {a : Act} {K : Act → World → Prop} {Q : Exit → Act → World → Prop} {w : World} {s x : Operand}
    (ho : o.op = .call { callee := .builtin .append, args := #[s, x], argTypes := #[27, 27] }) {lo : Nat} {ad : Option Addr} {n c : Nat} {xs : List Int} (hown : Own w lo ad n c xs) (hs : a.eval s = .slice ad n c)
    {y : Int} {t : TypeId} (hx : a.eval x = .slice (some ⟨w.heap.size, 0, none⟩) 1 1) (hlen : n + 1 ≤ 1000000000000) (hlo : lo ≤ w.heap.size)
    (h : ∀ g c' w', Own w' lo (some ⟨g, 0, none⟩) (n + 1) c' (xs ++ [y]) → w.grownBy w' (Value.slice ad n c).ownBlock → ((Value.slice ad n c).ownBlock = some g ∨ w.heap.size ≤ g) → Below lo w w' → K (a.put o.dst (.slice (some ⟨g, 0, none⟩) (n + 1) c')) w') :
    Oper.wp Tryz.prog o a (w.alloc (.cells #[.int .i64 y] t)) K Q := by
  obtain ⟨i0, hi, hz0, hz1, hz2⟩ := info_parts info_int
  refine wp_append_lies _ s x 27 ho lo 2 i0 (.int .i64 0) 1 8 und_ints hi hz0 hz1 hz2 rfl (by decide) _ n (xs.map (.int .i64)) hs (hown.2.alloc _) ⟨w.heap.size, 0, none⟩ 1 1 [.int .i64 y] hx rfl (cell_one_new _ _ _) ?_ (by omega) ?_ ?_ ?_ (w.heap.size + 1) (by simp) ?_
  · intro u hu; simp at hu; subst hu; rfl
  · unfold maxLen; omega
  · omega
  · simp; omega
  · intro g cap w' ho' hg hat hlt
    have hg' : w.grownBy w' (Value.slice ad n c).ownBlock := by
      have h1 := World.grownBy_alloc w (.cells #[.int .i64 y] t) (Value.slice ad n c).ownBlock
      exact ⟨hg.os.trans h1.os, hg.tape.trans h1.tape, hg.output.trans h1.output, Nat.le_trans h1.size hg.size, fun k hk hn => (hg.block k (Nat.lt_of_lt_of_le hk h1.size) hn).trans (h1.block k hk hn)⟩
    have hat' : (Value.slice ad n c).ownBlock = some g ∨ w.heap.size ≤ g := by
      rcases hat with hat | hat
      · exact .inl hat
      · exact .inr (by omega)
    exact h g cap w' ⟨by simp [hown.1], by simpa using ho'⟩ hg' hat' ((Below.refl _ _).grown hg' hlo (fun k hk => (World.ownsRow.lt hown.2 k hk).1))
theorem app1h {ops : Array Oper} {rest : List Oper} {o : Oper} {a : Act} {Q : Exit → Act → World → Prop} {w : World} (hgd : o.guard = none) {s x : Operand}
    (ho : o.op = .call { callee := .builtin .append, args := #[s, x], argTypes := #[27, 27] }) {lo : Nat} {ad : Option Addr} {n c : Nat} {xs : List Int} (hown : Own w lo ad n c xs) (hs : a.eval s = .slice ad n c)
    {y : Int} {t : TypeId} (hx : a.eval x = .slice (some ⟨w.heap.size, 0, none⟩) 1 1) (hlen : n + 1 ≤ 1000000000000) (hlo : lo ≤ w.heap.size)
    (h : ∀ g c' w', Own w' lo (some ⟨g, 0, none⟩) (n + 1) c' (xs ++ [y]) → w.grownBy w' (Value.slice ad n c).ownBlock → ((Value.slice ad n c).ownBlock = some g ∨ w.heap.size ≤ g) → Below lo w w' → wpList Tryz.prog ops Q rest (a.put o.dst (.slice (some ⟨g, 0, none⟩) (n + 1) c')) w') :
    wpList Tryz.prog ops Q (o :: rest) a (w.alloc (.cells #[.int .i64 y] t)) :=
  wpList_plain hgd fun _ hK => wp_app1h ho hown hs hx hlen hlo fun g c' w' a b c d => hK _ _ (h g c' w' a b c d)
theorem step_app1hn {ops : Array Oper} {o : Oper} {a : Act} {K : Act → World → Prop} {Q : Exit → Act → World → Prop} {E : Prop} {w : World} (hgd : o.guard = none) {s x : Operand}
    (ho : o.op = .call { callee := .builtin .append, args := #[s, x], argTypes := #[27, 27] }) {lo : Nat} {ad : Option Addr} {n c : Nat} {xs : List Int} (hown : Own w lo ad n c xs) (hs : a.eval s = .slice ad n c)
    {y : Int} {t : TypeId} (hx : a.eval x = .slice (some ⟨w.heap.size, 0, none⟩) 1 1) (hlen : n + 1 ≤ 1000000000000) (hlo : lo ≤ w.heap.size)
    (h : ∀ g c' w', Own w' lo (some ⟨g, 0, none⟩) (n + 1) c' (xs ++ [y]) → w.grownBy w' (Value.slice ad n c).ownBlock → ((Value.slice ad n c).ownBlock = some g ∨ w.heap.size ≤ g) → Below lo w w' → K (a.put o.dst (.slice (some ⟨g, 0, none⟩) (n + 1) c')) w') :
    if Region.wanted o (yielded ops a.tmps) = true then Oper.wp Tryz.prog o a (w.alloc (.cells #[.int .i64 y] t)) K Q else E := by
  have hw : Region.wanted o (yielded ops a.tmps) = true := by simp [Region.wanted, hgd]
  rw [if_pos hw]
  exact wp_app1h ho hown hs hx hlen hlo h
def Apr (a b : Option Addr) : Prop := ∀ g, a = some ⟨g, 0, none⟩ → b = some ⟨g, 0, none⟩ → False
theorem Apr.symm {a b : Option Addr} (h : Apr a b) : Apr b a := fun g h1 h2 => h g h2 h1
theorem Own.beside {w w' : World} {lo lo' : Nat} {a b : Option Addr} {n c m d : Nat} {xs ys : List Int} (h : Own w lo a n c xs) (hb : Own w lo' b m d ys) (hap : Apr a b) (hg : w.grownBy w' (Value.slice b m d).ownBlock) : Own w' lo a n c xs :=
  h.grown hg fun g e he => by
    rcases hb.block with ⟨rfl, rfl, rfl⟩ | ⟨g', cur, rfl, _⟩
    · simp [Value.ownBlock] at he
    · simp [Value.ownBlock] at he; subst he; exact hap g e rfl
theorem Own.apart {w : World} {lo lo' : Nat} {a b : Option Addr} {n c m d : Nat} {xs ys : List Int} {g : Nat} (h : Own w lo a n c xs) (hb : Own w lo' b m d ys) (hap : Apr a b) (hat : (Value.slice b m d).ownBlock = some g ∨ w.heap.size ≤ g) : Apr a (some ⟨g, 0, none⟩) := fun q e1 e2 => by
  obtain rfl : g = q := by simpa using e2
  rcases hat with hat | hat
  · rcases hb.block with ⟨rfl, rfl, rfl⟩ | ⟨g', cur, rfl, _⟩
    · simp [Value.ownBlock] at hat
    · simp [Value.ownBlock] at hat; subst hat; exact hap _ e1 rfl
  · have := h.hi _ e1; omega
end Go.Proofs.YtpdgpgbgakinlaaGreat

namespace Go.Proofs.YtpdgpgbgakinlaaGreat
set_option linter.unusedVariables false
set_option linter.unusedSimpArgs false
set_option maxRecDepth 100000
open Go.RowKit
theorem tabF_succ {n k : Nat} (V : Nat → Nat → Int) (h : k < n) : (tabF n V).take (k + 1) = (tabF n V).take k ++ [(List.range n).map fun y => V k y] := by
  have hl : k < (tabF n V).length := by rw [tabF_len]; exact h
  rw [List.take_succ_eq_append_getElem hl]
  simp [tabF]
def SolB (w : World) (n : Nat) (e : Ending) (w' : World) : Prop :=
  ∃ (a : Option Addr) (c : Nat) (vs : List SV) (f : List (List Int)) (a' : Option Addr) (c' : Nat) (vs' : List SV) (g : List (List Int)), e = .returned (sAgg a n c a' n c') ∧ OwnS w' w.heap.size a n c vs f a' n c' vs' g ∧ Sq n f ∧ Sq n g ∧ Below w.heap.size w w'
set_option maxHeartbeats 16000000 in
theorem l02Polygon_any (n : Nat) (w : World) (h1 : 1 ≤ n) (hn : n ≤ 100) :
    Calls Tryz.prog 173 #[.int .i64 n] w (SolB w (n)) := by
  obtain ⟨w0, hw0⟩ : ∃ w0, (w.alloc (.cells #[.slice none 0 0, .slice none 0 0] 26)).alloc (.cells #[.slice none 0 0, .slice none 0 0] 26) = w0 := ⟨_, rfl⟩
  have HZ0 : Hid (w0.heap.size = w.heap.size + 1 + 1) := Lib.hid (by rw [← hw0]; simp)
  have hB : Below w.heap.size w w0 := by rw [← hw0]; exact below_al (below_al (Below.refl _ _) _) _
  have hR : Loc w0 (w.heap.size) #[.slice none 0 0, .slice none 0 0] 26 := by rw [← hw0]; exact (Loc.new _ (by simp) _ _).alloc _
  have hO : Loc w0 (w.heap.size + 1) #[.slice none 0 0, .slice none 0 0] 26 := by rw [← hw0]; exact Loc.new _ (by simp) _ _
  have HW0 := Lib.hid hw0; clear hw0
  obtain ⟨V, hV⟩ : ∃ V : Nat → Nat → Int, V = fun x y => (((2 * x + n - y) % n : Nat) : Int) := ⟨_, rfl⟩
  obtain ⟨U, hU⟩ : ∃ U : Nat → Nat → Int, U = fun x y => ((x : Nat) : Int) := ⟨_, rfl⟩
  have HSV : Hid (Sq n (tabF n V)) := Lib.hid (tabF_sqI fun x y hx hy => by rw [hV]; have := Nat.mod_lt (2 * x + n - y) (show n > 0 by omega); show 0 ≤ (((2 * x + n - y) % n : Nat) : Int) ∧ (((2 * x + n - y) % n : Nat) : Int) < n; omega)
  have HSU : Hid (Sq n (tabF n U)) := Lib.hid (tabF_sqI fun x y hx hy => by rw [hU]; show 0 ≤ (x : Int) ∧ (x : Int) < n; omega)
  have HVE : Hid (∀ x y, V x y = (((2 * x + n - y) % n : Nat) : Int)) := Lib.hid fun x y => by rw [hV]
  have HUE : Hid (∀ x y, U x y = (x : Int)) := Lib.hid fun x y => by rw [hU]
  clear hV hU
  go_enter Tryz.func173, Tryz.ntmps173
  go_wp2
  rw [HW0.out]
  go_loopw [4, 5, 6, 7] (fun i _ _ _ wr => ∃ (k : Nat) (az : Option Addr) (cz : Nat) (vz : List SV) (ay : Option Addr) (cy : Nat) (vy : List SV), k ≤ n ∧ i = .int .i64 k ∧ Loc wr (w.heap.size + 1) #[.slice az k cz, .slice ay k cy] 26 ∧ Loc wr (w.heap.size) #[.slice none 0 0, .slice none 0 0] 26 ∧ OwnT wr w0.heap.size az k cz vz ((tabF n V).take k) ∧ OwnT wr w0.heap.size ay k cy vy ((tabF n U).take k) ∧ ApT az k vz ay k vy ∧ Below w.heap.size w wr) (fun i _ _ _ _ => n - (intOf i).toNat)
  case atStart => exact ⟨0, none, 0, [], none, 0, [], Nat.zero_le _, rfl, hO, hR, by simpa using OwnT.nil _ _, by simpa using OwnT.nil _ _, (fun g h _ => by rcases h with h | ⟨i, hi, _⟩; (cases h); omega), hB⟩
  case round =>
    clear hR hO hB
    obtain ⟨k, az, cz, vz, ay, cy, vy, hk, rfl, hO, hR, hz, hy, hap, hB⟩ := hrel
    have hOlt := hO.lt
    have hZ0 := HZ0.out
    by_cases hlt : k < n
    · obtain ⟨w1, hw1⟩ : ∃ w1, (wr.alloc (.cells #[] 2)).alloc (.cells #[] 2) = w1 := ⟨_, rfl⟩
      have hE1 : Own w1 wr.heap.size (some ⟨wr.heap.size, 0, none⟩) 0 0 [] := by rw [← hw1]; exact (Own.fresh wr rfl).alloc _
      have hE2 : Own w1 wr.heap.size (some ⟨wr.heap.size + 1, 0, none⟩) 0 0 [] := by rw [← hw1]; exact (Own.fresh (wr.alloc (.cells #[] 2)) (by simp)).mono (by simp)
      have hqe : Below wr.heap.size wr w1 := by rw [← hw1]; exact below_al (below_al (Below.refl wr.heap.size wr) _) _
      have HRV := Lib.hid (tabF_succ V hlt)
      have HRU := Lib.hid (tabF_succ U hlt)
      obtain ⟨B, hBB⟩ : ∃ B, B = wr.heap.size := ⟨_, rfl⟩
      go_wp2
      try rw [hw1]
      clear hw1
      go_loopw [5, 6, 7] (fun z y i wq => ∃ (jj : Nat) (ar : Option Addr) (cr : Nat) (as_ : Option Addr) (cs : Nat), jj ≤ n ∧ i = .int .i64 jj ∧ z = .slice ar jj cr ∧ y = .slice as_ jj cs ∧ Own wq B ar jj cr ((List.range jj).map fun y => V k y) ∧ Own wq B as_ jj cs ((List.range jj).map fun y => U k y) ∧ Apr ar as_ ∧ Below wr.heap.size wr wq) (fun _ _ i _ => n - (intOf i).toNat)
      case atStart => exact ⟨0, _, 0, _, 0, Nat.zero_le _, rfl, rfl, rfl, by rw [hBB]; simpa using hE1, by rw [hBB]; simpa using hE2, (fun g e1 e2 => by simp at e1 e2; omega), hqe⟩
      case round =>
        clear hE1 hE2 hqe
        obtain ⟨jj, ar, cr, as_, cs, hj, rfl, rfl, rfl, hor, hos, hpr, hqr⟩ := hrel
        have hwq := hqr.size
        obtain ⟨W, rfl⟩ : ∃ W : World, W = wr := ⟨_, rfl⟩
        by_cases hjt : jj < n
        · have HV1 : Hid (((List.range (jj + 1)).map fun y => V k y) = ((List.range jj).map fun y => V k y) ++ [V k jj]) := Lib.hid (by simp [List.range_succ])
          have HU1 : Hid (((List.range (jj + 1)).map fun y => U k y) = ((List.range jj).map fun y => U k y) ++ [U k jj]) := Lib.hid (by simp [List.range_succ])
          have e1 : Int.tmod (2 * (k : Int) - (jj : Int) + (n : Int)) (n : Int) = V k jj := by
            rw [HVE.out, show 2 * (k : Int) - (jj : Int) + (n : Int) = ((2 * k + n - jj : Nat) : Int) by omega]; rfl
          have hz1 : ¬ (n : Int) = 0 := by omega
          have hz2 : ((n : Int) == 0) = false := by simpa using hz1
          have hue := HUE.out k jj
          have hvb : 0 ≤ V k jj ∧ V k jj < n := by rw [HVE.out]; have := Nat.mod_lt (2 * k + n - jj) (show n > 0 by omega); omega
          generalize V k jj = v at *
          rw [hue] at HU1
          clear hue
          go_upto_region 10 with (at_builtin; refine app1h rfl rfl hor rfl rfl (by omega) (by omega) ?_; intro g' cc w8 hO8 hg8 hat8 hb8)
          have hos8 := hos.beside hor hpr.symm hg8
          have hpr8 := hos.apart hor hpr.symm hat8
          have hs8 := hb8.size
          go_wp2_with (at_builtin; refine app1h rfl rfl hos8 rfl rfl (by omega) (by omega) ?_; intro g9 cc9 w9 hO9 hg9 hat9 hb9)
          have hor9 := hO8.beside hos8 hpr8.symm hg9
          have hpr9 := hO8.apart hos8 hpr8.symm hat9
          go_roundw
          case rel => exact ⟨jj + 1, _, _, _, _, by omega, by go_num, rfl, rfl, by rw [HV1.out]; exact hor9, by rw [HU1.out]; exact hO9, hpr9, hqr.trans ((hb8.mono (by omega)).trans (hb9.mono (by omega)))⟩
          case measure => simp [intOf]; omega
        · obtain rfl : jj = n := by omega
          have hO3 := hO.below hqr hO.lt
          have hR3 := hR.below hqr hR.lt
          have lO := hO3.two
          have hz3 := hz.below hqr
          have hy3 := hy.below hqr
          have hB3 := hB.trans (hqr.mono (by have := hB.size; omega))
          have hzhi := hz.uHi
          have hyhi := hy.uHi
          have hrlo := hor.lo
          have hrhi := hor.hi
          have hslo := hos.lo
          have hshi := hos.hi
          have hB0s := hO3.lt
          clear hO hR hz hy hB
          go_upto_region 12 with (at_builtin; refine appT1g rfl rfl hz3 rfl (hor.mono (by omega)) (fun g h1 h2 => by have h3 := hzhi _ (.inl h1); have h4 := hrlo _ h2; omega) (fun i hi g h1 h2 => by have h3 := hrlo _ h1; have h4 := hzhi _ (.inr ⟨i, hi, h2⟩); omega) rfl (by omega) (by omega) ?_; intro g6 cc6 w6 hOT6 hg6 hat6 hb6; have hO6 := hO3.below hb6 (by omega); have lO6 := hO6.two)
          have hvl := hz3.vlen
          have hy6 := hz3.other hy3 hap hg6
          have hap6 := ApT.snoc hz3 hy3 hap (v := (ar, jj, cr)) hvl hat6 (fun q h1 h2 => by have h3 := hrlo _ h1; have h4 := hyhi _ h2; omega)
          have hos6 := hos.grown hg6 (fun g h1 h2 => by have h3 := hslo _ h1; have h4 := hzhi _ (hz3.ownBlk h2.symm); omega)
          have hsz6 := hg6.size
          have hB6 := hB3.trans (hb6.mono (by omega))
          have hR6 := hR3.below hb6 (by omega)
          have hz7 := hOT6.setlo (p := ⟨w.heap.size + 1, 0, none⟩) (by show w.heap.size + 1 < w0.heap.size; omega) (.slice (some ⟨g6, 0, none⟩) (k + 1) cc6)
          have hy7 := hy6.setlo (p := ⟨w.heap.size + 1, 0, none⟩) (by show w.heap.size + 1 < w0.heap.size; omega) (.slice (some ⟨g6, 0, none⟩) (k + 1) cc6)
          have hos7 := (hos6.mono (lo' := w0.heap.size) (by omega)).setlo (p := ⟨w.heap.size + 1, 0, none⟩) (by show w.heap.size + 1 < w0.heap.size; omega) (.slice (some ⟨g6, 0, none⟩) (k + 1) cc6)
          have hO7 := hO6.set 0 (.slice (some ⟨g6, 0, none⟩) (k + 1) cc6)
          have hR7 := hR6.setne (a := ⟨w.heap.size + 1, 0, none⟩) (by show w.heap.size ≠ w.heap.size + 1; omega) (.slice (some ⟨g6, 0, none⟩) (k + 1) cc6)
          have hB7 := below_setne (a := ⟨w.heap.size + 1, 0, none⟩) hB6 (by show w.heap.size ≤ w.heap.size + 1; omega) (.slice (some ⟨g6, 0, none⟩) (k + 1) cc6)
          have hsz7 : (w6.setCell ⟨w.heap.size + 1, 0, none⟩ (.slice (some ⟨g6, 0, none⟩) (k + 1) cc6)).heap.size = w6.heap.size := size_set _ _ _
          simp only [Array.setIfInBounds, List.size_toArray, List.length_cons, List.length_nil, Nat.zero_add, Nat.lt_add_one, Nat.reduceAdd, Nat.reduceLT, dif_pos, Nat.zero_lt_succ] at hO7
          have hvl7 := hy7.vlen
          have lO7 := hO7.two
          have HSZ := Lib.hid hsz7
          have hlo7 : w0.heap.size ≤ (w6.setCell ⟨w.heap.size + 1, 0, none⟩ (.slice (some ⟨g6, 0, none⟩) (k + 1) cc6)).heap.size := by rw [hsz7]; omega
          have hyz : ∀ g, TblS ay k vy g → ∀ q, as_ = some ⟨q, 0, none⟩ → q ≠ g := fun g h1 q h2 e => by have h3 := hslo _ h2; have h4 := hyhi _ h1; omega
          have hrz : ∀ q, as_ = some ⟨q, 0, none⟩ → ¬ TblS (some ⟨g6, 0, none⟩) (k + 1) (vz ++ [(ar, jj, cr)]) q := fun q h2 h1 => by
            have k1 := hslo _ h2
            have k2 := hshi _ h2
            rcases h1 with e | ⟨i, hi, e⟩
            · cases e
              rcases hat6 with e | e
              · have := hzhi _ (hz3.ownBlk e); omega
              · omega
            · by_cases hik : i < k
              · have e2 : (vz ++ [(ar, jj, cr)]).getD i svO = vz.getD i svO := by simp [List.getD_eq_getElem?_getD, List.getElem?_append_left (show i < vz.length by omega)]
                rw [e2] at e
                have := hzhi _ (.inr ⟨i, hik, e⟩); omega
              · have e2 : i = vz.length := by omega
                have e3 : (vz ++ [(ar, jj, cr)]).getD i svO = (ar, jj, cr) := by rw [e2]; simp [List.getD_eq_getElem?_getD]
                rw [e3] at e
                exact hpr _ e h2
          clear hsz7 hO6 lO6 hB6 hB3 hO3 lO hR3 hR6 hz3 hy3
          generalize w6.setCell ⟨w.heap.size + 1, 0, none⟩ (.slice (some ⟨g6, 0, none⟩) (k + 1) cc6) = w7 at *
          go_wp2_with (at_builtin; refine appT1g rfl rfl hy7 rfl hos7 (fun g h1 h2 => hyz _ (.inl h1) _ h2 rfl) (fun i hi g h1 h2 => hyz _ (.inr ⟨i, hi, h2⟩) _ h1 rfl) rfl (by omega) hlo7 ?_; intro g9 cc9 w9 hOT9 hg9 hat9 hb9; have hO9 := hO7.below hb9 (by omega); have lO9 := hO9.two)
          have hz9 := hy7.other hz7 hap6.symm hg9
          have hap9 := (ApT.snoc hy7 hz7 hap6.symm (v := (as_, jj, cs)) hvl7 hat9 hrz).symm
          have hO10 := hO9.set 1 (.slice (some ⟨g9, 0, none⟩) (k + 1) cc9)
          have hR9 := (hR7.below hb9 (by omega)).setne (a := ⟨w.heap.size + 1, 1, none⟩) (by show w.heap.size ≠ w.heap.size + 1; omega) (.slice (some ⟨g9, 0, none⟩) (k + 1) cc9)
          have hB9 := below_setne (a := ⟨w.heap.size + 1, 1, none⟩) (hB7.trans (hb9.mono (by omega))) (by show w.heap.size ≤ w.heap.size + 1; omega) (.slice (some ⟨g9, 0, none⟩) (k + 1) cc9)
          go_roundw
          case rel => exact ⟨k + 1, _, _, _, _, _, _, by omega, by go_num, hO10, hR9, by rw [HRV.out]; exact hz9.setlo (by show w.heap.size + 1 < w0.heap.size; omega) _, by rw [HRU.out]; exact hOT9.setlo (by show w.heap.size + 1 < w0.heap.size; omega) _, hap9, hB9⟩
          case measure => simp [intOf]; omega
    · obtain rfl : k = n := by omega
      rw [List.take_of_length_le (by rw [tabF_len]; exact Nat.le_refl _)] at hz hy
      have lO := hO.two
      have lR := hR.two
      go_wp2
      refine bodyPost_ret (v := sAgg az k cz ay k cy) (by simp [results, Tryz.results173, go_sem, lR, lO]) rfl ⟨az, cz, vz, _, ay, cy, vy, _, rfl, ⟨?_, ?_, hap⟩, HSV.out, HSU.out, ?_⟩
      · exact ((hz.setlo (by show w.heap.size < w0.heap.size; omega) _).setlo (by show w.heap.size < w0.heap.size; omega) _).mono (by omega)
      · exact ((hy.setlo (by show w.heap.size < w0.heap.size; omega) _).setlo (by show w.heap.size < w0.heap.size; omega) _).mono (by omega)
      · exact below_setne (below_setne hB (by show w.heap.size ≤ w.heap.size; omega) _) (by show w.heap.size ≤ w.heap.size; omega) _
end Go.Proofs.YtpdgpgbgakinlaaGreat
