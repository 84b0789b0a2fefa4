/-
  Walks and plain laws of this seat, some texts in one.
  No condition but bounds on lengths.
-/
import Derived.Test.YtaddclaadbjnlaaGreatPs3
import Derived.Test.YtaddclaadbjnlaaGreatPs2
import Derived.Deep.RegionHeld3
import Derived.StillTailTactics
import Derived.Test.YtaddclaadbjnlaaGreatPs5
import Derived.Test.YtaddclaadbjnlaaGreatPs4
namespace Go.Proofs.YtaddclaadbjnlaaGreat
set_option maxRecDepth 100000
set_option linter.unusedVariables false
set_option linter.unusedSimpArgs false
open Go.RowKit
def tabF (n : Nat) (v : Nat → Nat → Int) : List (List Int) := (List.range n).map fun x => (List.range n).map fun y => v x y
theorem tabF_len (n : Nat) (v : Nat → Nat → Int) : (tabF n v).length = n := by simp [tabF]
theorem tabF_get (n : Nat) (v : Nat → Nat → Int) (x : Nat) (h : x < n) : (tabF n v).getD x [] = (List.range n).map fun y => v x y := by
  simp [tabF, List.getD_eq_getElem?_getD, List.getElem?_map, h]
theorem rowP_step (n : Nat) (f : Nat → Int) (j : Nat) (h : j < n) : (((List.range n).map f).take j ++ List.replicate (n - j) 0).set j (f j) = ((List.range n).map f).take (j + 1) ++ List.replicate (n - (j + 1)) 0 := by
  have hx : j < ((List.range n).map f).length := by simpa using h
  have e : (((List.range n).map f).take j).length = j := by rw [List.length_take]; omega
  rw [List.set_append_right _ _ (by omega), e, Nat.sub_self, List.take_succ_eq_append_getElem hx, List.append_assoc]
  congr 1
  obtain ⟨m, hm⟩ : ∃ m, n - j = m + 1 := ⟨n - j - 1, by omega⟩
  have hm' : n - (j + 1) = m := by omega
  rw [hm, hm', List.replicate_succ]
  simp
theorem tabP_get (n : Nat) (v : Nat → Nat → Int) (k : Nat) (hk : k < n) (y : List Int) (r : List (List Int)) : ((tabF n v).take k ++ y :: r).getD k [] = y := by
  have e : ((tabF n v).take k).length = k := by rw [List.length_take, tabF_len]; omega
  rw [List.getD_eq_getElem?_getD, List.getElem?_append_right (by omega), e, Nat.sub_self]; rfl
theorem tabP_set (n : Nat) (v : Nat → Nat → Int) (k : Nat) (hk : k < n) (y z : List Int) (r : List (List Int)) : ((tabF n v).take k ++ y :: r).set k z = (tabF n v).take k ++ z :: r := by
  have e : ((tabF n v).take k).length = k := by rw [List.length_take, tabF_len]; omega
  rw [List.set_append_right _ _ (by omega), e, Nat.sub_self]; rfl
theorem tabP_next (n : Nat) (v : Nat → Nat → Int) (k : Nat) (hk : k < n) (r : List (List Int)) : (tabF n v).take k ++ ((List.range n).map fun y => v k y) :: r = (tabF n v).take (k + 1) ++ r := by
  have hx : k < (tabF n v).length := by rw [tabF_len]; exact hk
  have hg := tabF_get n v k hk
  rw [Tbl.getD hx] at hg
  rw [List.take_succ_eq_append_getElem hx, hg, List.append_assoc]; rfl
theorem rep_cons (n k : Nat) (hk : k < n) : List.replicate (n - k) ([] : List Int) = [] :: List.replicate (n - (k + 1)) [] := by
  have : n - k = (n - (k + 1)) + 1 := by omega
  rw [this, List.replicate_succ]
set_option maxHeartbeats 2000000 in
theorem tableBy_any (f : FuncId) (caps : Array Value) (v : Nat → Nat → Int) (n : Nat) (w : World) (hn : n ≤ 1000000) (hcf : Ent f)
    (hf : ∀ x y, x < n → y < n → ∀ w1, Below w.heap.size w w1 → Calls Tryz.prog f (#[.int .i64 x, .int .i64 y] ++ caps) w1 fun e w' => e = .returned (.int .i64 (v x y)) ∧ Below w1.heap.size w1 w') :
    Calls Tryz.prog 133 #[.int .i64 n, .func (.func f) #[] caps] w fun e w' => ∃ a c vs, e = .returned (.slice a n c) ∧ OwnT w' w.heap.size a n c vs (tabF n v) ∧ Below w.heap.size w w' := by
  have hcf' : ∀ (args : Array Value) (w : World), (callFunc f args).run Tryz.prog w = .ok (.enter f args) w := hcf
  have HF := Lib.hid hf; clear hf
  go_enter Tryz.func133, Tryz.ntmps133
  go_wp2_with (at_make; refine makeT rfl rfl rfl rfl (by omega) ?_; intro w1 ho hs hb)
  go_loopw [12] (fun i wr => ∃ (k : Nat) (vs : List SV), k ≤ n ∧ i = .int .i64 k ∧ OwnT wr w.heap.size (some ⟨w.heap.size, 0, none⟩) n n vs ((tabF n v).take k ++ List.replicate (n - k) []) ∧ Below w.heap.size w wr) (fun i _ => n - (intOf i).toNat)
  case atStart => exact ⟨0, _, Nat.zero_le _, rfl, by simpa using ho, hb⟩
  case round =>
    clear ho hb
    obtain ⟨k, vs, hk, rfl, ho, hb⟩ := hrel
    by_cases hlt : k < n
    · have hszw : w.heap.size < wr.heap.size := ho.high _ rfl
      go_wp2_with (at_make; refine make1 rfl rfl rfl rfl (by omega) ?_; intro w2 ho2 hs2 hb2; have hot := ho.below hb2; obtain ⟨g', hg', hgl', hc', hf'⟩ := hot.cells (by omega); cases hg'; have hc1 := hc' k hlt; have hf1 := hf' k; clear hc' hf')
      have hp := hot.put k hlt (v := (some ⟨wr.heap.size, 0, none⟩, n, n)) (ho2.mono (Nat.le_of_lt hszw)) (fun e => by have h1 := ho.high _ rfl; simp only [Option.some.injEq, Addr.mk.injEq] at e; omega) (fun j hj _ g1 h1 h2 => by have h3 := ho2.lo _ h1; have h4 := (ho.row j hj).hi _ h2; omega)
      rw [rep_cons n k hlt, tabP_set n v k hlt] at hp
      have hb3 : Below w.heap.size w (w2.setCell ⟨w.heap.size, k, none⟩ (.slice (some ⟨wr.heap.size, 0, none⟩) n n)) := (hb.trans (hb2.mono (Nat.le_of_lt hszw))).setCell (Nat.le_refl _) _
      generalize hW3 : w2.setCell ⟨w.heap.size, k, none⟩ (.slice (some ⟨wr.heap.size, 0, none⟩) n n) = w3 at hp hb3 ⊢
      clear hW3 hc1 hf1 hot ho2 hb2 hs2
      obtain ⟨g', hg', hgl', hc', hf'⟩ := hp.cells (by omega)
      cases hg'
      have hc1 := hc' k hlt
      have hvs : (vs.set k (some ⟨wr.heap.size, 0, none⟩, n, n)).getD k svO = (some ⟨wr.heap.size, 0, none⟩, n, n) := by
        rw [getD_set' _ _ _ _ _ (by have := ho.vlen; omega), if_pos rfl]
      rw [hvs] at hc1
      have HVS := Lib.hid hvs
      clear hc' hf' hvs ho hb
      generalize hV : vs.set k (some ⟨wr.heap.size, 0, none⟩, n, n) = vs' at hp HVS
      clear hV
      go_wp2
      have hszw3 : wr.heap.size < w3.heap.size := by
        have := (hp.row k hlt).hi wr.heap.size (by rw [HVS.out])
        exact this
      generalize wr.heap.size = rb at *
      go_loopw [25] (fun i w4 => ∃ j : Nat, j ≤ n ∧ i = .int .i64 j ∧ OwnT w4 w.heap.size (some ⟨w.heap.size, 0, none⟩) n n vs' ((tabF n v).take k ++ (((List.range n).map fun y => v k y).take j ++ List.replicate (n - j) 0) :: List.replicate (n - (k + 1)) []) ∧ Below w.heap.size w w4) (fun i _ => n - (intOf i).toNat)
      case atStart => exact ⟨0, Nat.zero_le _, rfl, by simpa using hp, hb3⟩
      case round =>
        clear hp hb3 hc1 hszw3
        obtain ⟨j, hj, rfl, ho, hb⟩ := hrel
        obtain ⟨g', hg', hgl', hc', hf'⟩ := ho.cells (by omega)
        cases hg'
        have hc1 := hc' k hlt
        rw [HVS.out] at hc1
        clear hc' hf'
        have hne5 : (⟨w.heap.size, k, none⟩ : Addr).block ≠ (⟨rb, j, none⟩ : Addr).block := by show w.heap.size ≠ rb; omega
        by_cases hjt : j < n
        · go_wp2
          go_region_held3 (fun w' => w'.cell? ⟨w.heap.size, k, none⟩ = some (.slice (some ⟨rb, 0, none⟩) n n))
            (first | exact hc5 | exact cell_setne hc5 hne5 _ | exact hc1 | go_keep)
            (first
            | (refine (HF.out k j hlt hjt _ (below_drewN hb 1)).mono ?_; rintro e w5 ⟨rfl, hb5⟩; have ho5 := (ho.drewN 1).below hb5; have hB5 := below_th (below_drewN hb 1) hb5; have hc5 := (ho5.cells (by omega)).elim (fun g' h => by obtain ⟨h1, h2, h3, h4⟩ := h; have h5 := h3 k hlt; rw [HVS.out] at h5; cases h1; exact h5); have hr5 := ho5.row k hlt; rw [HVS.out, tabP_get n v k hlt] at hr5; have hcr := hr5.cells.2.1 j hjt; have hfr := hr5.cells.2.2 j; clear hr5))
          all_goals
            go_wp2
            go_roundw
            case rel =>
              refine ⟨j + 1, by omega, by go_num, ?_, hB5.setCell (by show _ ≤ rb; omega) _⟩
              have hq := ho5.setrow k hlt (g := rb) (by rw [HVS.out]) j (v k j)
              rw [tabP_get n v k hlt, tabP_set n v k hlt, rowP_step n (fun y => v k y) j hjt] at hq
              exact hq
            case measure => simp [intOf]; omega
        · obtain rfl : j = n := by omega
          go_wp2
          go_roundw
          case rel =>
            refine ⟨k + 1, vs', by omega, by go_num, ?_, hb⟩
            rw [List.take_of_length_le (l := (List.range j).map fun y => v k y) (by simp), Nat.sub_self, List.replicate_zero, List.append_nil, tabP_next _ v k hlt] at ho
            exact ho
          case measure => simp [intOf]; omega
    · obtain rfl : k = n := by omega
      go_wp2
      go_ret
      have e1 : (tabF k v).take k ++ List.replicate (k - k) [] = tabF k v := by
        rw [List.take_of_length_le (by rw [tabF_len]; omega), Nat.sub_self, List.replicate_zero, List.append_nil]
      rw [e1] at ho
      exact ⟨_, _, _, rfl, ho, hb⟩
def updQ (v : Nat → Nat → Int) (a b : Nat) (z : Int) : Nat → Nat → Int := fun x y => if x = a ∧ y = b then z else v x y
theorem tabQ_row {n : Nat} {v : Nat → Nat → Int} {x : Nat} (h : x < n) : (tabF n v).getD x [] = (List.range n).map fun y => v x y := tabF_get n v x h
theorem tabQ_val {n : Nat} {v : Nat → Nat → Int} {x y : Nat} (hx : x < n) (hy : y < n) : ((tabF n v).getD x []).getD y 0 = v x y := by
  rw [tabQ_row hx]; simp [List.getD_eq_getElem?_getD, List.getElem?_map, hy]
theorem tabQ_congr {n : Nat} {u v : Nat → Nat → Int} (h : ∀ x y, x < n → y < n → u x y = v x y) : tabF n u = tabF n v := by
  unfold tabF
  apply List.map_congr_left
  intro x hx
  apply List.map_congr_left
  intro y hy
  exact h x y (List.mem_range.1 hx) (List.mem_range.1 hy)
theorem tabQ_upd {n : Nat} {v : Nat → Nat → Int} {a b : Nat} (ha : a < n) (hb : b < n) (z : Int) : (tabF n v).set a (((tabF n v).getD a []).set b z) = tabF n (updQ v a b z) := by
  apply List.ext_getElem
  · simp [tabF]
  · intro i h1 h2
    have hi : i < n := by simpa [tabF] using h2
    have e2 : (tabF n (updQ v a b z))[i] = (List.range n).map fun y => updQ v a b z i y := by simp [tabF]
    rw [e2, List.getElem_set]
    by_cases e : a = i
    · subst e
      rw [if_pos rfl, tabQ_row ha]
      apply List.ext_getElem
      · simp
      · intro j g1 g2
        have hj : j < n := by simpa using g2
        rw [List.getElem_set]
        by_cases e : b = j
        · subst e; simp [updQ]
        · rw [if_neg e]; simp [updQ, fun h => e (Eq.symm h)]
          intro h; exact absurd h.symm e
    · rw [if_neg e]
      have : (tabF n v)[i]'(by simpa [tabF] using hi) = (List.range n).map fun y => v i y := by simp [tabF]
      rw [this]
      apply List.map_congr_left
      intro y hy
      simp [updQ, fun h => e (Eq.symm h)]
      intro h; exact absurd h.symm e
theorem OwnT.spotQ {w : World} {lo : Nat} {b : Option Addr} {n d : Nat} {vs : List SV} {v : Nat → Nat → Int} (h : OwnT w lo b n d vs (tabF n v)) {x : Nat} (hx : x < n) :
    ∃ gb g1 c1, b = some ⟨gb, 0, none⟩ ∧ vs.getD x svO = (some ⟨g1, 0, none⟩, n, c1) ∧ w.cell? ⟨gb, x, none⟩ = some (.slice (some ⟨g1, 0, none⟩) n c1) ∧ (∀ y, y < n → w.cell? ⟨g1, y, none⟩ = some (.int .i64 (v x y)) ∧ w.frozen? ⟨g1, y, none⟩ = false) ∧ TblS b n vs g1 := by
  obtain ⟨gb, hb, _, hc, _⟩ := h.cells (by omega)
  have hr := h.row x hx
  have hl := hr.len
  rw [tabQ_row hx] at hl
  have hk : (vs.getD x svO).2.1 = n := by simpa using hl
  obtain ⟨g1, o1, e1, _⟩ := hr.row.at x (by omega)
  rw [e1] at hr
  obtain ⟨rfl, h2, h3⟩ := hr.cells
  have hcx := hc x hx
  rw [e1, hk] at hcx
  refine ⟨gb, g1, _, hb, Prod.ext e1 (Prod.ext hk rfl), hcx, fun y hy => ⟨?_, h3 y⟩, .inr ⟨x, hx, e1⟩⟩
  have := h2 y (by omega)
  rw [this, tabQ_val hx hy]
theorem OwnT.putQ {w : World} {lo : Nat} {b : Option Addr} {n d : Nat} {vs : List SV} {v : Nat → Nat → Int} (h : OwnT w lo b n d vs (tabF n v)) {x y g1 c1 : Nat} (hx : x < n) (hy : y < n) (e : vs.getD x svO = (some ⟨g1, 0, none⟩, n, c1)) (z : Int) :
    OwnT (w.setCell ⟨g1, y, none⟩ (.int .i64 z)) lo b n d vs (tabF n (updQ v x y z)) := by
  have := h.setrow x hx (g := g1) (by rw [e]) y z
  rw [tabQ_upd hx hy] at this
  exact this
theorem OwnT.asetQ {w : World} {lo : Nat} {b : Option Addr} {n d : Nat} {vs : List SV} {F : List (List Int)} (h : OwnT w lo b n d vs F) {p : Addr} (hp : ∀ q, TblS b n vs q → q ≠ p.block) (u : Value) : OwnT (w.setCell p u) lo b n d vs F :=
  h.keep fun g hg _ => Below.heap_setCell _ _ _ _ (hp g hg)
def thL (p q : List Int) : List Int := p.map fun x => q.getD x.toNat 0
theorem thL_len (p q : List Int) : (thL p q).length = p.length := by simp [thL]
theorem thL_succ (p q : List Int) {k : Nat} (h : k < p.length) : thL (p.take (k + 1)) q = thL (p.take k) q ++ [q.getD p[k].toNat 0] := by
  simp only [thL, List.take_succ_eq_append_getElem h, List.map_append, List.map_cons, List.map_nil]
set_option maxHeartbeats 2000000 in
theorem l01Then_any (a1 a2 : Option Addr) (n m c1 c2 : Nat) (p q : List Int) (w : World) (h1 : Row w a1 n p) (h2 : Row w a2 m q) (hm : n ≤ 1000000) (hp : ∀ x ∈ p, 0 ≤ x ∧ x < m) :
    Calls Tryz.prog 158 #[.slice a1 n c1, .slice a2 m c2] w fun e w' => ∃ a' c', e = .returned (.slice a' n c') ∧ Own w' w.heap.size a' n c' (thL p q) ∧ Below w.heap.size w w' := by
  have HL := Lib.hid h1.len; have HP := Lib.hid hp
  clear hp
  go_enter Tryz.func158, Tryz.ntmps158
  go_wp2
  go_loopw [5, 6] (fun s i wr => ∃ (k : Nat) (a' : Option Addr) (c' : Nat), k ≤ n ∧ i = .int .i64 k ∧ s = .slice a' k c' ∧ Own wr w.heap.size a' k c' (thL (p.take k) q) ∧ Below w.heap.size w wr) (fun _ i _ => n - (intOf i).toNat)
  case atStart => exact ⟨0, _, _, Nat.zero_le _, rfl, rfl, Own.fresh w rfl, below_al (Below.refl _ _) _⟩
  case round =>
    obtain ⟨k, a', c', hk, rfl, rfl, ho, hq⟩ := hrel
    by_cases hlt : k < n
    · have hx : k < p.length := by have := HL.out; omega
      obtain ⟨b1, o1, rfl, g1⟩ := (h1.below hq).at k hlt
      rw [getD_at hx] at g1
      have hv := HP.out p[k] (List.getElem_mem hx)
      obtain ⟨v, hve⟩ : ∃ v : Nat, p[k] = v := ⟨p[k].toNat, by omega⟩
      have HST := Lib.hid (thL_succ p q hx)
      rw [hve] at g1 hv HST
      rw [Int.toNat_natCast] at HST
      have hvm : v < m := by omega
      obtain ⟨b2, o2, rfl, g2⟩ := (h2.below hq).at v hvm
      obtain ⟨V, HV⟩ : ∃ V, Hid (q.getD v 0 = V) := ⟨_, rfl⟩
      rw [HV.out] at g2 HST
      have i1 : (0 : Int) ≤ (v : Int) := by omega
      have i2 : (v : Int) < (m : Int) := by omega
      have hwq := hq.size
      clear hve
      go_wp2_with (at_builtin; refine app1 rfl rfl ho rfl rfl (by omega) hwq ?_; intro g' cc w8 hO hg8 hs8 hb8)
      go_roundw
      case rel => exact ⟨k + 1, _, cc, by omega, by go_num, rfl, by rw [HST.out]; exact hO, hq.trans hb8⟩
      case measure => simp [intOf]; omega
    · obtain rfl : k = n := by omega
      go_wp2
      go_ret
      have e : p.take k = p := List.take_of_length_le (by have := HL.out; omega)
      rw [e] at ho
      exact ⟨_, _, rfl, ho, hq⟩
def cjL (x y : List Int) : List Int := thL (thL (backF x) y) x
theorem thL_mem {p q : List Int} {n : Nat} (hp : ∀ x ∈ p, 0 ≤ x ∧ x < q.length) (hq : ∀ x ∈ q, 0 ≤ x ∧ x < n) : ∀ x ∈ thL p q, 0 ≤ x ∧ x < n := by
  intro x hx
  obtain ⟨y, hy, rfl⟩ := List.mem_map.1 hx
  have := hp y hy
  have hl : y.toNat < q.length := by omega
  rw [getD_at hl]
  exact hq _ (List.getElem_mem hl)
end Go.Proofs.YtaddclaadbjnlaaGreat
namespace Go.Proofs.YtaddclaadbjnlaaGreat
set_option maxRecDepth 100000
set_option linter.unusedVariables false
set_option linter.unusedSimpArgs false
theorem thL_isP {n : Nat} {p q : List Int} (h : IsP n p) (k : IsP n q) : IsP n (thL p q) := by
  obtain ⟨f, g, hl, h1, h2⟩ := h
  obtain ⟨f', g', hl', h1', h2'⟩ := k
  refine ⟨fun i => f' (f i), fun i => g (g' i), by rw [thL_len]; exact hl, fun i hi => ?_, fun i hi => ?_⟩
  · have a1 := h1 i hi
    have a2 := h1' i hi
    have a3 := h1' (f i) a1.1
    have a4 := h1 (g' i) a2.2.1
    refine ⟨a3.1, a4.2.1, ?_, ?_⟩
    · show f' (f (g (g' i))) = i
      rw [a4.2.2.1, a2.2.2.1]
    · show g (g' (f' (f i))) = i
      rw [a3.2.2.2, a1.2.2.2]
  · have hp : i < p.length := by omega
    have e : (thL p q).getD i 0 = q.getD (p.getD i 0).toNat 0 := by
      simp [thL, List.getD_eq_getElem?_getD, List.getElem?_eq_getElem hp]
    rw [e, h2 i hi, Int.toNat_natCast, h2' (f i) (h1 i hi).1]
def RwOk (n : Nat) (r : List Int) : Prop := r = [] ∨ IsP n r
def RwsOk (n : Nat) (o : List (List Int)) : Prop := o.length = n ∧ ∀ i, i < n → RwOk n (o.getD i [])
theorem RwsOk.set {n : Nat} {o : List (List Int)} (h : RwsOk n o) (z : Nat) {r : List Int} (hr : RwOk n r) : RwsOk n (o.set z r) := by
  refine ⟨by rw [List.length_set]; exact h.1, fun i hi => ?_⟩
  rw [getD_set' o z i r [] (by rw [h.1]; exact hi)]
  split
  · exact hr
  · exact h.2 i hi
theorem IsP.at {n : Nat} {r : List Int} (h : IsP n r) {y : Nat} (hy : y < n) : ∃ z : Nat, r.getD y 0 = z ∧ z < n := by
  obtain ⟨f, g, hl, h1, h2⟩ := h
  exact ⟨f y, h2 y hy, (h1 y hy).1⟩
end Go.Proofs.YtaddclaadbjnlaaGreat
namespace Go.Proofs.YtaddclaadbjnlaaGreat
set_option maxRecDepth 100000
set_option linter.unusedVariables false
set_option linter.unusedSimpArgs false
open Go.RowKit
def rnV (t : List (List Int)) (p : List Int) (x y : Nat) : Int := p.getD (tv t ((backF p).getD x 0).toNat ((backF p).getD y 0).toNat) 0
def rnL (n : Nat) (t : List (List Int)) (p : List Int) : List (List Int) := tabF n (rnV t p)
set_option maxHeartbeats 4000000 in
theorem renamed1_any (n bp bt bq : Nat) (tp tt tq : TypeId) (at_ ap aq : Option Addr) (ct cp cq : Nat) (t : List (List Int)) (p : List Int) (w : World) (hp : Loc w bp #[.slice ap n cp] tp) (ht : Loc w bt #[.slice at_ n ct] tt) (hq : Loc w bq #[.slice aq n cq] tq)
    (h1 : Tbl w at_ n t) (h2 : Row w ap n p) (h3 : Row w aq n (backF p)) (hs : Sq n t) (hP : IsP n p) (hn : n ≤ 12) (x y : Nat) (hx : x < n) (hy : y < n) :
    Calls Tryz.prog 134 #[.int .i64 x, .int .i64 y, .pointer (some ⟨bp, 0, none⟩), .pointer (some ⟨bt, 0, none⟩), .pointer (some ⟨bq, 0, none⟩)] w fun e w' => e = .returned (.int .i64 (rnV t p x y)) ∧ ∃ m, w' = w.drewN m := by
  obtain ⟨b, off, A, O, C, rfl, G⟩ := h1.grid hs (by omega)
  obtain ⟨qx, hqx, hqxn⟩ := (back_isP hP).at hx
  obtain ⟨qy, hqy, hqyn⟩ := (back_isP hP).at hy
  obtain ⟨b2, o2, rfl, g2⟩ := h3.at x hx
  obtain ⟨b2', o2', e2, g3⟩ := h3.at y hy
  cases e2
  rw [hqx] at g2
  rw [hqy] at g3
  have g4 := G.look hqxn hqyn
  have hv := hs.lt hqxn hqyn
  obtain ⟨v, HV⟩ : ∃ v, Hid (tv t qx qy = v) := ⟨_, rfl⟩
  rw [HV.out] at g4 hv
  obtain ⟨b3, o3, rfl, g5⟩ := h2.at v hv
  obtain ⟨u, HU⟩ : ∃ u, Hid (p.getD v 0 = u) := ⟨_, rfl⟩
  rw [HU.out] at g5
  have hr : rnV t p x y = u := by unfold rnV; rw [hqx, hqy, Int.toNat_natCast, Int.toNat_natCast, HV.out, HU.out]
  rw [hr]
  have l1 := hp.one
  have l2 := ht.one
  have l3 := hq.one
  have i1 : (0 : Int) ≤ (x : Int) := by omega
  have i2 : (x : Int) < (n : Int) := by omega
  have i3 : (0 : Int) ≤ (y : Int) := by omega
  have i4 : (y : Int) < (n : Int) := by omega
  have i5 : (0 : Int) ≤ (qx : Int) := by omega
  have i6 : (qx : Int) < (n : Int) := by omega
  have i7 : (0 : Int) ≤ (qy : Int) := by omega
  have i8 : (qy : Int) < (n : Int) := by omega
  have i9 : (0 : Int) ≤ (v : Int) := by omega
  have i10 : (v : Int) < (n : Int) := by omega
  clear hqx hqy hr
  go_enter Tryz.func134, Tryz.ntmps134
  go_wp2
  go_quiet (fail)
  go_wp2
  go_ret
  exact ⟨rfl, _, rfl⟩
theorem ent_ren1 : Ent 134 := fun _ _ => rfl
set_option maxHeartbeats 4000000 in
theorem renamed_any (n : Nat) (at_ ap : Option Addr) (ct cp : Nat) (t : List (List Int)) (p : List Int) (w : World) (h1 : Tbl w at_ n t) (h2 : Row w ap n p) (hs : Sq n t) (hP : IsP n p) (hn : n ≤ 12) :
    Calls Tryz.prog 96 #[.slice at_ n ct, .slice ap n cp] w fun e w' => ∃ a c vs, e = .returned (.slice a n c) ∧ OwnT w' w.heap.size a n c vs (rnL n t p) ∧ Below w.heap.size w w' := by
  have HP := Lib.hid hP; have HS := Lib.hid hs
  have hm := hP.mem
  clear hP hs
  obtain ⟨w0, hw0⟩ : ∃ w0, (w.alloc (.cells #[.slice at_ n ct] 32)).alloc (.cells #[.slice ap n cp] 41) = w0 := ⟨_, rfl⟩
  have hz0 : w0.heap.size = w.heap.size + 2 := by rw [← hw0]; simp
  have hB0 : Below w.heap.size w w0 := by rw [← hw0]; exact below_al (below_al (Below.refl _ _) _) _
  have hT : Loc w0 w.heap.size #[.slice at_ n ct] 32 := by rw [← hw0]; exact (Loc.new w rfl _ _).alloc _
  have hQ : Loc w0 (w.heap.size + 1) #[.slice ap n cp] 41 := by rw [← hw0]; exact Loc.new _ (by simp) _ _
  have lT := hT.one
  have lQ := hQ.one
  go_enter Tryz.func96, Tryz.ntmps96
  go_wp2_with fail
  refine (inverse_any _ _ _ p _ (h2.below hB0) (by omega) hm).mono ?_
  rintro e w1 ⟨a1, c1, rfl, ho1, hb1⟩
  have hB1 := below_th hB0 hb1
  have hT1 := hT.below hb1 hT.lt
  have hQ1 := hQ.below hb1 hQ.lt
  have lT1 := hT1.one
  have lQ1 := hQ1.one
  have hz1 := hb1.size
  obtain ⟨w2, hw2⟩ : ∃ w2, (w1.alloc (.cells #[.slice none 0 0] 41)).setCell ⟨w1.heap.size, 0, none⟩ (.slice a1 n c1) = w2 := ⟨_, rfl⟩
  have hL2 : Loc w2 w1.heap.size #[.slice a1 n c1] 41 := by rw [← hw2]; exact (Loc.new w1 rfl _ _).set 0 _
  have hb2 : Below w1.heap.size w1 w2 := by rw [← hw2]; exact (below_al (Below.refl _ _) _).setCell (Nat.le_refl _) _
  have hB2 := below_th hB1 hb2
  have hT2 := hT1.below hb2 hT1.lt
  have hQ2 := hQ1.below hb2 hQ1.lt
  have lT2 := hT2.one
  have ho2 := ho1.below hb2
  have hcl : ∀ x y, x < n → y < n → ∀ w3, Below w2.heap.size w2 w3 → Calls Tryz.prog 134 (#[.int .i64 x, .int .i64 y] ++ #[.pointer (some ⟨w.heap.size + 1, 0, none⟩), .pointer (some ⟨w.heap.size, 0, none⟩), .pointer (some ⟨w1.heap.size, 0, none⟩)]) w3 fun e w' => e = .returned (.int .i64 (rnV t p x y)) ∧ Below w3.heap.size w3 w' := fun x y hx hy w3 hb3 => by
    have hB3 := below_th hB2 hb3
    refine (renamed1_any n _ _ _ _ _ _ at_ ap a1 ct cp c1 t p w3 (hQ2.below hb3 hQ2.lt) (hT2.below hb3 hT2.lt) (hL2.below hb3 hL2.lt) (h1.below hB3) (h2.below hB3) (ho2.below hb3).row HS.out HP.out hn x y hx hy).mono fun e w' ⟨he, k, hk⟩ => ⟨he, ?_⟩
    rw [hk]; exact below_drewN (Below.refl _ _) k
  have HCL := Lib.hid hcl; clear hcl
  go_wp2_with fail
  refine (tableBy_any _ _ (rnV t p) n _ (by omega) ent_ren1 HCL.out).mono ?_
  rintro e w3 ⟨a, c, vs, rfl, ho, hb3⟩
  go_wp2
  go_ret
  exact ⟨_, _, _, rfl, ho.mono hB2.size, below_th hB2 hb3⟩
set_option maxHeartbeats 2000000 in
theorem l01Own2_any (a : Option Addr) (n c : Nat) (xss : List (List Int)) (w : World) (h : Tbl w a n xss) (hm : n ≤ 1000000) (hx : ∀ x ∈ xss, x.length ≤ 1000000) :
    Calls Tryz.prog 86 #[.slice a n c] w fun e w' => ∃ a' c' vs, e = .returned (.slice a' n c') ∧ OwnT w' w.heap.size a' n c' vs xss ∧ Below w.heap.size w w' := by
  have HL := Lib.hid h.len
  have HX := Lib.hid hx; clear hx
  go_enter Tryz.func86, Tryz.ntmps86
  go_wp2
  have hO := OwnT.fresh w rfl
  have hB := below_al (Below.refl w.heap.size w) (.cells #[] 41)
  go_loopw [3, 4] (fun z i wr => ∃ (k : Nat) (az : Option Addr) (cz : Nat) (vz : List SV), k ≤ n ∧ i = .int .i64 k ∧ z = .slice az k cz ∧ OwnT wr w.heap.size az k cz vz (xss.take k) ∧ Below w.heap.size w wr) (fun _ i _ => n - (intOf i).toNat)
  case atStart => exact ⟨0, _, 0, _, Nat.zero_le _, rfl, rfl, by simpa using hO, hB⟩
  case round =>
    clear hO hB
    obtain ⟨k, az, cz, vz, hk, rfl, rfl, ho, hb⟩ := hrel
    by_cases hlt : k < n
    · obtain ⟨b, off, ai, ni, ci, rfl, g1, hr, hni⟩ := (h.below hb).at k hlt
      have hxk : k < xss.length := by have := HL.out; omega
      rw [Tbl.getD hxk] at hr
      have hni2 : ni ≤ 1000000 := by have := hr.len; have := HX.out _ (List.getElem_mem hxk); omega
      have HT : Hid (xss.take (k + 1) = xss.take k ++ [xss[k]]) := Lib.hid (List.take_succ_eq_append_getElem hxk)
      generalize xss[k] = X at *
      go_wp2_with fail
      refine (l01Own_any _ _ _ X _ hr (by omega)).mono ?_
      rintro e w1 ⟨a1, c1, rfl, ho1, hb1⟩
      have hbb := hb.size
      have hz1 := ho.below hb1
      have hq1 := below_th hb hb1
      have hs1 := hb1.size
      go_wp2_with (at_builtin; refine appT1 rfl rfl hz1 rfl (ho1.mono hbb) (fun g h1 h2 => by have h3 := ho.high _ h1; have h4 := ho1.lo _ h2; omega) (fun i hi g h1 h2 => by have h3 := ho1.lo _ h1; have h4 := (ho.row i hi).hi _ h2; omega) rfl (by omega) (by omega) ?_; intro g' cc w2 hO hb2)
      go_roundw
      case rel => exact ⟨k + 1, _, _, _, by omega, by go_num, rfl, by rw [HT.out]; exact hO, hq1.trans hb2⟩
      case measure => simp [intOf]; omega
    · obtain rfl : k = n := by omega
      go_wp2
      go_ret
      refine ⟨_, _, vz, rfl, ?_, hb⟩
      rw [List.take_of_length_le (by have := HL.out; omega)] at ho
      exact ho
theorem sq_tabF {n : Nat} {t : List (List Int)} (h : Sq n t) : tabF n (fun x y => (t.getD x []).getD y 0) = t := by
  apply List.ext_getElem
  · simp [tabF, h.1]
  · intro i h1 h2
    have hi : i < n := by simpa [tabF] using h1
    have hl := (h.2 i hi).1
    rw [List.getD_eq_getElem?_getD, List.getElem?_eq_getElem h2, Option.getD_some] at hl
    apply List.ext_getElem
    · simp [tabF, hl]
    · intro j h3 h4
      simp [tabF, List.getD_eq_getElem?_getD, List.getElem?_eq_getElem h2, List.getElem?_eq_getElem h4]
def imgI (t : List (List Int)) (p : List Int) (x y : Nat) : Int := p.getD (tv t x y) 0
def ImgK (n : Nat) (t : List (List Int)) (p : List Int) (V : Nat → Nat → Int) (x y : Nat) : Prop := ∀ x' y', x' < n → y' < n → (x' < x ∨ x' = x ∧ y' < y) → V (p.getD x' 0).toNat (p.getD y' 0).toNat = imgI t p x' y'
theorem ImgK.step {n : Nat} {t : List (List Int)} {p : List Int} {V : Nat → Nat → Int} {x y u v : Nat} (hP : IsP n p) (h : ImgK n t p V x y) (hx : x < n) (hy : y < n) (hu : (p.getD x 0).toNat = u) (hv : (p.getD y 0).toNat = v) : ImgK n t p (updQ V u v (imgI t p x y)) x (y + 1) := by
  obtain ⟨f, g, hl, h1, h2⟩ := hP
  have hf : ∀ i, i < n → (p.getD i 0).toNat = f i := fun i hi => by rw [h2 i hi, Int.toNat_natCast]
  have inj : ∀ i j, i < n → j < n → f i = f j → i = j := fun i j hi hj e => by rw [← (h1 i hi).2.2.2, ← (h1 j hj).2.2.2, e]
  intro x' y' hx' hy' hq
  unfold updQ
  by_cases e : x' = x ∧ y' = y
  · obtain ⟨rfl, rfl⟩ := e
    rw [if_pos ⟨hu, hv⟩]
  · rw [if_neg, h x' y' hx' hy' (by omega)]
    rintro ⟨e1, e2⟩
    rw [← hu, hf _ hx', hf _ hx] at e1
    rw [← hv, hf _ hy', hf _ hy] at e2
    exact e ⟨inj _ _ hx' hx e1, inj _ _ hy' hy e2⟩
theorem ImgK.next {n : Nat} {t : List (List Int)} {p : List Int} {V : Nat → Nat → Int} {x : Nat} (h : ImgK n t p V x n) : ImgK n t p V (x + 1) 0 := fun x' y' hx' hy' hq => h x' y' hx' hy' (by omega)
theorem backF_at {n : Nat} {p : List Int} (hP : IsP n p) : ∀ u, u < n → ∃ q : Nat, (backF p).getD u 0 = q ∧ q < n ∧ p.getD q 0 = u := by
  obtain ⟨f, g, hp⟩ := hP
  have hb := backK_get n p f g hp n (Nat.le_refl _)
  obtain ⟨hl, h1, h2⟩ := hp
  intro u hu
  refine ⟨g u, ?_, (h1 u hu).2.1, ?_⟩
  · unfold backF; rw [hl, hb u hu, if_pos (h1 u hu).2.1]
  · rw [h2 (g u) (h1 u hu).2.1, (h1 u hu).2.2.1]
theorem ImgK.done {n : Nat} {t : List (List Int)} {p : List Int} {V : Nat → Nat → Int} (hP : IsP n p) (h : ImgK n t p V n 0) : tabF n V = rnL n t p := by
  refine tabQ_congr fun u v hu hv => ?_
  obtain ⟨q, e1, h1, e2⟩ := backF_at hP u hu
  obtain ⟨r, e3, h3, e4⟩ := backF_at hP v hv
  have := h q r h1 h3 (.inl h1)
  rw [e2, e4, Int.toNat_natCast, Int.toNat_natCast] at this
  rw [this]
  unfold rnV imgI
  rw [e1, e3, Int.toNat_natCast, Int.toNat_natCast]
set_option maxHeartbeats 16000000 in
theorem l03Image_any (n : Nat) (at_ ap : Option Addr) (ct cp : Nat) (t : List (List Int)) (p : List Int) (w : World) (h1 : Tbl w at_ n t) (h2 : Row w ap n p) (hs : Sq n t) (hP : IsP n p) (hn0 : 1 ≤ n) (hn : n ≤ 12) :
    Calls Tryz.prog 108 #[.slice at_ n ct, .slice ap n cp] w fun e w' => ∃ a c vs, e = .returned (.slice a n c) ∧ OwnT w' w.heap.size a n c vs (rnL n t p) ∧ Below w.heap.size w w' := by
  have HP := Lib.hid hP
  have hlen : ∀ x ∈ t, x.length ≤ 1000000 := fun x hx => by
    obtain ⟨i, hi, rfl⟩ := List.getElem_of_mem hx
    have := (hs.2 i (by rw [← hs.1]; exact hi)).1
    rw [List.getD_eq_getElem?_getD, List.getElem?_eq_getElem hi] at this
    simp at this; omega
  have HS := Lib.hid hs; have HLEN := Lib.hid hlen
  clear hlen hs hP
  go_enter Tryz.func108, Tryz.ntmps108
  go_wp2_with fail
  refine (l01Own2_any _ _ _ t _ h1 (by omega) HLEN.out).mono ?_
  rintro e w1 ⟨a1, c1, vs1, rfl, ho1, hb1⟩
  rw [← sq_tabF HS.out] at ho1
  have hz1 := hb1.size
  obtain ⟨gm, rfl, _⟩ := ho1.cells (by omega)
  have HLO := Lib.hid ho1.uLo
  go_wp2
  go_loopw [6, 7] (fun i _ wr => ∃ (x : Nat) (V : Nat → Nat → Int), x ≤ n ∧ i = .int .i64 x ∧ OwnT wr w.heap.size (some ⟨gm, 0, none⟩) n c1 vs1 (tabF n V) ∧ Hid (ImgK n t p V x 0) ∧ Below w.heap.size w wr) (fun i _ _ => n - (intOf i).toNat)
  case atStart => exact ⟨0, _, Nat.zero_le _, rfl, ho1, Lib.hid (fun x' y' _ _ h => by omega), hb1⟩
  case round =>
    clear ho1
    obtain ⟨x, V, hx, rfl, ho, HV, hq⟩ := hrel
    by_cases hlt : x < n
    · go_wp2
      go_loopw [7] (fun j wr => ∃ (y : Nat) (V : Nat → Nat → Int), y ≤ n ∧ j = .int .i64 y ∧ OwnT wr w.heap.size (some ⟨gm, 0, none⟩) n c1 vs1 (tabF n V) ∧ Hid (ImgK n t p V x y) ∧ Below w.heap.size w wr) (fun j _ => n - (intOf j).toNat)
      case atStart => exact ⟨0, V, Nat.zero_le _, rfl, ho, HV, hq⟩
      case round =>
        clear ho hq
        obtain ⟨y, V, hy, rfl, ho, HV, hq⟩ := hrel
        by_cases hly : y < n
        · obtain ⟨b, off, A, O, C, rfl, G0⟩ := h1.grid HS.out (by omega)
          have G := (G0.below hq).look hlt hly
          obtain ⟨u, hu, hun⟩ := HP.out.at hlt
          obtain ⟨v, hv, hvn⟩ := HP.out.at hly
          obtain ⟨bp, op, rfl, gu⟩ := (h2.below hq).at x hlt
          obtain ⟨bp', op', e', gv⟩ := (h2.below hq).at y hly
          cases e'
          have hz := HS.out.lt hlt hly
          obtain ⟨z, HZ⟩ : ∃ z, Hid (tv t x y = z) := ⟨_, rfl⟩
          rw [HZ.out] at G hz
          obtain ⟨bp'', op'', e'', gz⟩ := (h2.below hq).at z hz
          cases e''
          obtain ⟨Z, HZZ⟩ : ∃ Z, Hid (p.getD z 0 = Z) := ⟨_, rfl⟩
          rw [HZZ.out] at gz
          rw [hu] at gu
          rw [hv] at gv
          obtain ⟨gm', g1, cg, e3, ev, r1, hc1, ht1⟩ := ho.spotQ hun
          cases e3
          have k1 := (hc1 v hvn).1
          have f1 := (hc1 v hvn).2
          have hput := ho.putQ hun hvn ev Z
          have HST : Hid (ImgK n t p (updQ V u v Z) x (y + 1)) := Lib.hid (by
            have := ImgK.step HP.out HV.out hlt hly (u := u) (v := v) (by rw [hu, Int.toNat_natCast]) (by rw [hv, Int.toNat_natCast])
            rw [show imgI t p x y = Z by unfold imgI; rw [HZ.out, HZZ.out]] at this
            exact this)
          have hg1 : w.heap.size ≤ g1 := HLO.out g1 ht1
          have HPUT := Lib.hid hput
          have i1 : (0 : Int) ≤ (x : Int) := by omega
          have i2 : (x : Int) < (n : Int) := by omega
          have i3 : (0 : Int) ≤ (y : Int) := by omega
          have i4 : (y : Int) < (n : Int) := by omega
          have i5 : (0 : Int) ≤ (u : Int) := by omega
          have i6 : (u : Int) < (n : Int) := by omega
          have i7 : (0 : Int) ≤ (v : Int) := by omega
          have i8 : (v : Int) < (n : Int) := by omega
          have i9 : (0 : Int) ≤ (z : Int) := by omega
          have i10 : (z : Int) < (n : Int) := by omega
          obtain ⟨G1, G2⟩ := G
          have hq8 : Below w.heap.size w wr.drew := hq.drew
          have hput8 : Hid (OwnT (wr.drew.setCell ⟨g1, v, none⟩ (.int .i64 Z)) w.heap.size (some ⟨gm, 0, none⟩) n c1 vs1 (tabF n (updQ V u v Z))) := Lib.hid (hput.drewN 1)
          clear hu hv hc1 hput ho hq HPUT
          go_wp2
          refine wp_region_still_tail 22 (by kernel_rfl) (by kernel_rfl) ?_
          change wpStill _ _ wr.drew (fun a' => wpList _ _ _ _ a' wr.drew) _ _
          have G18 : wr.drew.cell? _ = _ := G1
          have G28 : wr.drew.cell? _ = _ := G2
          have gu8 : wr.drew.cell? _ = _ := gu
          have gv8 : wr.drew.cell? _ = _ := gv
          have gz8 : wr.drew.cell? _ = _ := gz
          have r18 : wr.drew.cell? _ = _ := r1
          have k18 : wr.drew.cell? _ = _ := k1
          have f18 : wr.drew.frozen? ⟨g1, v, none⟩ = false := f1
          clear G1 G2 gu gv gz r1 k1 f1
          generalize wr.drew = w8 at *
          simp only [List.take_succ_cons, List.take_zero, List.drop_succ_cons, List.drop_zero]
          repeat still_step
          refine wpStill_nil ?_
          go_wp2
          go_roundw
          case rel => exact ⟨y + 1, _, by omega, by go_num, hput8.out, HST, below_setne hq8 hg1 _⟩
          case measure => simp [intOf]; omega
        · obtain rfl : n = y := by omega
          go_wp2
          go_roundw
          case rel => exact ⟨x + 1, V, by omega, by go_num, ho, Lib.hid HV.out.next, hq⟩
          case measure => simp [intOf]; omega
    · obtain rfl : n = x := by omega
      go_wp2
      go_ret
      exact ⟨_, _, _, rfl, by rw [← ImgK.done HP.out HV.out]; exact ho, hq⟩
end Go.Proofs.YtaddclaadbjnlaaGreat
