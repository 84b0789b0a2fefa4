/-
  Walks and plain laws of this seat, some texts in one.
  No condition but bounds on lengths.
-/
import Derived.Test.YtpdgpgbgakinlaaGreatPa3
import Derived.Test.YtpdgpgbgakinlaaGreatPa2
import Derived.Deep.RegionHeld3
import Derived.StillTailTactics
import Derived.Test.YtpdgpgbgakinlaaGreatPa1
import Derived.Test.YtpdgpgbgakinlaaGreatPa4
namespace Go.Proofs.YtpdgpgbgakinlaaGreat
set_option maxRecDepth 100000
set_option linter.unusedVariables false
set_option linter.unusedSimpArgs false
open Go.RowKit
def tabF (n : Nat) (v : Nat → Nat → Int) : List (List Int) := (List.range n).map fun x => (List.range n).map fun y => v x y
theorem tabF_len (n : Nat) (v : Nat → Nat → Int) : (tabF n v).length = n := by simp [tabF]
theorem tabF_get (n : Nat) (v : Nat → Nat → Int) (x : Nat) (h : x < n) : (tabF n v).getD x [] = (List.range n).map fun y => v x y := by
  simp [tabF, List.getD_eq_getElem?_getD, List.getElem?_map, h]
theorem rowP_step (n : Nat) (f : Nat → Int) (j : Nat) (h : j < n) : (((List.range n).map f).take j ++ List.replicate (n - j) 0).set j (f j) = ((List.range n).map f).take (j + 1) ++ List.replicate (n - (j + 1)) 0 := by
  have hx : j < ((List.range n).map f).length := by simpa using h
  have e : (((List.range n).map f).take j).length = j := by rw [List.length_take]; omega
  rw [List.set_append_right _ _ (by omega), e, Nat.sub_self, List.take_succ_eq_append_getElem hx, List.append_assoc]
  congr 1
  obtain ⟨m, hm⟩ : ∃ m, n - j = m + 1 := ⟨n - j - 1, by omega⟩
  have hm' : n - (j + 1) = m := by omega
  rw [hm, hm', List.replicate_succ]
  simp
theorem tabP_get (n : Nat) (v : Nat → Nat → Int) (k : Nat) (hk : k < n) (y : List Int) (r : List (List Int)) : ((tabF n v).take k ++ y :: r).getD k [] = y := by
  have e : ((tabF n v).take k).length = k := by rw [List.length_take, tabF_len]; omega
  rw [List.getD_eq_getElem?_getD, List.getElem?_append_right (by omega), e, Nat.sub_self]; rfl
theorem tabP_set (n : Nat) (v : Nat → Nat → Int) (k : Nat) (hk : k < n) (y z : List Int) (r : List (List Int)) : ((tabF n v).take k ++ y :: r).set k z = (tabF n v).take k ++ z :: r := by
  have e : ((tabF n v).take k).length = k := by rw [List.length_take, tabF_len]; omega
  rw [List.set_append_right _ _ (by omega), e, Nat.sub_self]; rfl
theorem tabP_next (n : Nat) (v : Nat → Nat → Int) (k : Nat) (hk : k < n) (r : List (List Int)) : (tabF n v).take k ++ ((List.range n).map fun y => v k y) :: r = (tabF n v).take (k + 1) ++ r := by
  have hx : k < (tabF n v).length := by rw [tabF_len]; exact hk
  have hg := tabF_get n v k hk
  rw [Tbl.getD hx] at hg
  rw [List.take_succ_eq_append_getElem hx, hg, List.append_assoc]; rfl
theorem rep_cons (n k : Nat) (hk : k < n) : List.replicate (n - k) ([] : List Int) = [] :: List.replicate (n - (k + 1)) [] := by
  have : n - k = (n - (k + 1)) + 1 := by omega
  rw [this, List.replicate_succ]
set_option maxHeartbeats 2000000 in
theorem tableBy_any (f : FuncId) (caps : Array Value) (v : Nat → Nat → Int) (n : Nat) (w : World) (hn : n ≤ 1000000) (hcf : Ent f)
    (hf : ∀ x y, x < n → y < n → ∀ w1, Below w.heap.size w w1 → Calls Tryz.prog f (#[.int .i64 x, .int .i64 y] ++ caps) w1 fun e w' => e = .returned (.int .i64 (v x y)) ∧ Below w1.heap.size w1 w') :
    Calls Tryz.prog 69 #[.int .i64 n, .func (.func f) #[] caps] w fun e w' => ∃ a c vs, e = .returned (.slice a n c) ∧ OwnT w' w.heap.size a n c vs (tabF n v) ∧ Below w.heap.size w w' := by
  have hcf' : ∀ (args : Array Value) (w : World), (callFunc f args).run Tryz.prog w = .ok (.enter f args) w := hcf
  have HF := Lib.hid hf; clear hf
  go_enter Tryz.func69, Tryz.ntmps69
  go_wp2_with (at_make; refine makeT rfl rfl rfl rfl (by omega) ?_; intro w1 ho hs hb)
  go_loopw [12] (fun i wr => ∃ (k : Nat) (vs : List SV), k ≤ n ∧ i = .int .i64 k ∧ OwnT wr w.heap.size (some ⟨w.heap.size, 0, none⟩) n n vs ((tabF n v).take k ++ List.replicate (n - k) []) ∧ Below w.heap.size w wr) (fun i _ => n - (intOf i).toNat)
  case atStart => exact ⟨0, _, Nat.zero_le _, rfl, by simpa using ho, hb⟩
  case round =>
    clear ho hb
    obtain ⟨k, vs, hk, rfl, ho, hb⟩ := hrel
    by_cases hlt : k < n
    · have hszw : w.heap.size < wr.heap.size := ho.high _ rfl
      go_wp2_with (at_make; refine make1 rfl rfl rfl rfl (by omega) ?_; intro w2 ho2 hs2 hb2; have hot := ho.below hb2; obtain ⟨g', hg', hgl', hc', hf'⟩ := hot.cells (by omega); cases hg'; have hc1 := hc' k hlt; have hf1 := hf' k; clear hc' hf')
      have hp := hot.put k hlt (v := (some ⟨wr.heap.size, 0, none⟩, n, n)) (ho2.mono (Nat.le_of_lt hszw)) (fun e => by have h1 := ho.high _ rfl; simp only [Option.some.injEq, Addr.mk.injEq] at e; omega) (fun j hj _ g1 h1 h2 => by have h3 := ho2.lo _ h1; have h4 := (ho.row j hj).hi _ h2; omega)
      rw [rep_cons n k hlt, tabP_set n v k hlt] at hp
      have hb3 : Below w.heap.size w (w2.setCell ⟨w.heap.size, k, none⟩ (.slice (some ⟨wr.heap.size, 0, none⟩) n n)) := (hb.trans (hb2.mono (Nat.le_of_lt hszw))).setCell (Nat.le_refl _) _
      generalize hW3 : w2.setCell ⟨w.heap.size, k, none⟩ (.slice (some ⟨wr.heap.size, 0, none⟩) n n) = w3 at hp hb3 ⊢
      clear hW3 hc1 hf1 hot ho2 hb2 hs2
      obtain ⟨g', hg', hgl', hc', hf'⟩ := hp.cells (by omega)
      cases hg'
      have hc1 := hc' k hlt
      have hvs : (vs.set k (some ⟨wr.heap.size, 0, none⟩, n, n)).getD k svO = (some ⟨wr.heap.size, 0, none⟩, n, n) := by
        rw [getD_set' _ _ _ _ _ (by have := ho.vlen; omega), if_pos rfl]
      rw [hvs] at hc1
      have HVS := Lib.hid hvs
      clear hc' hf' hvs ho hb
      generalize hV : vs.set k (some ⟨wr.heap.size, 0, none⟩, n, n) = vs' at hp HVS
      clear hV
      go_wp2
      have hszw3 : wr.heap.size < w3.heap.size := by
        have := (hp.row k hlt).hi wr.heap.size (by rw [HVS.out])
        exact this
      generalize wr.heap.size = rb at *
      go_loopw [25] (fun i w4 => ∃ j : Nat, j ≤ n ∧ i = .int .i64 j ∧ OwnT w4 w.heap.size (some ⟨w.heap.size, 0, none⟩) n n vs' ((tabF n v).take k ++ (((List.range n).map fun y => v k y).take j ++ List.replicate (n - j) 0) :: List.replicate (n - (k + 1)) []) ∧ Below w.heap.size w w4) (fun i _ => n - (intOf i).toNat)
      case atStart => exact ⟨0, Nat.zero_le _, rfl, by simpa using hp, hb3⟩
      case round =>
        clear hp hb3 hc1 hszw3
        obtain ⟨j, hj, rfl, ho, hb⟩ := hrel
        obtain ⟨g', hg', hgl', hc', hf'⟩ := ho.cells (by omega)
        cases hg'
        have hc1 := hc' k hlt
        rw [HVS.out] at hc1
        clear hc' hf'
        have hne5 : (⟨w.heap.size, k, none⟩ : Addr).block ≠ (⟨rb, j, none⟩ : Addr).block := by show w.heap.size ≠ rb; omega
        by_cases hjt : j < n
        · go_wp2
          go_region_held3 (fun w' => w'.cell? ⟨w.heap.size, k, none⟩ = some (.slice (some ⟨rb, 0, none⟩) n n))
            (first | exact hc5 | exact cell_setne hc5 hne5 _ | exact hc1 | go_keep)
            (first
            | (refine (HF.out k j hlt hjt _ (below_drewN hb 1)).mono ?_; rintro e w5 ⟨rfl, hb5⟩; have ho5 := (ho.drewN 1).below hb5; have hB5 := below_th (below_drewN hb 1) hb5; have hc5 := (ho5.cells (by omega)).elim (fun g' h => by obtain ⟨h1, h2, h3, h4⟩ := h; have h5 := h3 k hlt; rw [HVS.out] at h5; cases h1; exact h5); have hr5 := ho5.row k hlt; rw [HVS.out, tabP_get n v k hlt] at hr5; have hcr := hr5.cells.2.1 j hjt; have hfr := hr5.cells.2.2 j; clear hr5))
          all_goals
            go_wp2
            go_roundw
            case rel =>
              refine ⟨j + 1, by omega, by go_num, ?_, hB5.setCell (by show _ ≤ rb; omega) _⟩
              have hq := ho5.setrow k hlt (g := rb) (by rw [HVS.out]) j (v k j)
              rw [tabP_get n v k hlt, tabP_set n v k hlt, rowP_step n (fun y => v k y) j hjt] at hq
              exact hq
            case measure => simp [intOf]; omega
        · obtain rfl : j = n := by omega
          go_wp2
          go_roundw
          case rel =>
            refine ⟨k + 1, vs', by omega, by go_num, ?_, hb⟩
            rw [List.take_of_length_le (l := (List.range j).map fun y => v k y) (by simp), Nat.sub_self, List.replicate_zero, List.append_nil, tabP_next _ v k hlt] at ho
            exact ho
          case measure => simp [intOf]; omega
    · obtain rfl : k = n := by omega
      go_wp2
      go_ret
      have e1 : (tabF k v).take k ++ List.replicate (k - k) [] = tabF k v := by
        rw [List.take_of_length_le (by rw [tabF_len]; omega), Nat.sub_self, List.replicate_zero, List.append_nil]
      rw [e1] at ho
      exact ⟨_, _, _, rfl, ho, hb⟩
end Go.Proofs.YtpdgpgbgakinlaaGreat

namespace Go.Proofs.YtpdgpgbgakinlaaGreat
set_option maxRecDepth 100000
set_option linter.unusedVariables false
set_option linter.unusedSimpArgs false
open Go.RowKit
def updQ (v : Nat → Nat → Int) (a b : Nat) (z : Int) : Nat → Nat → Int := fun x y => if x = a ∧ y = b then z else v x y
theorem tabQ_row {n : Nat} {v : Nat → Nat → Int} {x : Nat} (h : x < n) : (tabF n v).getD x [] = (List.range n).map fun y => v x y := tabF_get n v x h
theorem tabQ_val {n : Nat} {v : Nat → Nat → Int} {x y : Nat} (hx : x < n) (hy : y < n) : ((tabF n v).getD x []).getD y 0 = v x y := by
  rw [tabQ_row hx]; simp [List.getD_eq_getElem?_getD, List.getElem?_map, hy]
theorem tabQ_congr {n : Nat} {u v : Nat → Nat → Int} (h : ∀ x y, x < n → y < n → u x y = v x y) : tabF n u = tabF n v := by
  unfold tabF
  apply List.map_congr_left
  intro x hx
  apply List.map_congr_left
  intro y hy
  exact h x y (List.mem_range.1 hx) (List.mem_range.1 hy)
theorem tabQ_upd {n : Nat} {v : Nat → Nat → Int} {a b : Nat} (ha : a < n) (hb : b < n) (z : Int) : (tabF n v).set a (((tabF n v).getD a []).set b z) = tabF n (updQ v a b z) := by
  apply List.ext_getElem
  · simp [tabF]
  · intro i h1 h2
    have hi : i < n := by simpa [tabF] using h2
    have e2 : (tabF n (updQ v a b z))[i] = (List.range n).map fun y => updQ v a b z i y := by simp [tabF]
    rw [e2, List.getElem_set]
    by_cases e : a = i
    · subst e
      rw [if_pos rfl, tabQ_row ha]
      apply List.ext_getElem
      · simp
      · intro j g1 g2
        have hj : j < n := by simpa using g2
        rw [List.getElem_set]
        by_cases e : b = j
        · subst e; simp [updQ]
        · rw [if_neg e]; simp [updQ, fun h => e (Eq.symm h)]
          intro h; exact absurd h.symm e
    · rw [if_neg e]
      have : (tabF n v)[i]'(by simpa [tabF] using hi) = (List.range n).map fun y => v i y := by simp [tabF]
      rw [this]
      apply List.map_congr_left
      intro y hy
      simp [updQ, fun h => e (Eq.symm h)]
      intro h; exact absurd h.symm e
theorem OwnT.spotQ {w : World} {lo : Nat} {b : Option Addr} {n d : Nat} {vs : List SV} {v : Nat → Nat → Int} (h : OwnT w lo b n d vs (tabF n v)) {x : Nat} (hx : x < n) :
    ∃ gb g1 c1, b = some ⟨gb, 0, none⟩ ∧ vs.getD x svO = (some ⟨g1, 0, none⟩, n, c1) ∧ w.cell? ⟨gb, x, none⟩ = some (.slice (some ⟨g1, 0, none⟩) n c1) ∧ (∀ y, y < n → w.cell? ⟨g1, y, none⟩ = some (.int .i64 (v x y)) ∧ w.frozen? ⟨g1, y, none⟩ = false) ∧ TblS b n vs g1 := by
  obtain ⟨gb, hb, _, hc, _⟩ := h.cells (by omega)
  have hr := h.row x hx
  have hl := hr.len
  rw [tabQ_row hx] at hl
  have hk : (vs.getD x svO).2.1 = n := by simpa using hl
  obtain ⟨g1, o1, e1, _⟩ := hr.row.at x (by omega)
  rw [e1] at hr
  obtain ⟨rfl, h2, h3⟩ := hr.cells
  have hcx := hc x hx
  rw [e1, hk] at hcx
  refine ⟨gb, g1, _, hb, Prod.ext e1 (Prod.ext hk rfl), hcx, fun y hy => ⟨?_, h3 y⟩, .inr ⟨x, hx, e1⟩⟩
  have := h2 y (by omega)
  rw [this, tabQ_val hx hy]
theorem OwnT.putQ {w : World} {lo : Nat} {b : Option Addr} {n d : Nat} {vs : List SV} {v : Nat → Nat → Int} (h : OwnT w lo b n d vs (tabF n v)) {x y g1 c1 : Nat} (hx : x < n) (hy : y < n) (e : vs.getD x svO = (some ⟨g1, 0, none⟩, n, c1)) (z : Int) :
    OwnT (w.setCell ⟨g1, y, none⟩ (.int .i64 z)) lo b n d vs (tabF n (updQ v x y z)) := by
  have := h.setrow x hx (g := g1) (by rw [e]) y z
  rw [tabQ_upd hx hy] at this
  exact this
theorem OwnT.asetQ {w : World} {lo : Nat} {b : Option Addr} {n d : Nat} {vs : List SV} {F : List (List Int)} (h : OwnT w lo b n d vs F) {p : Addr} (hp : ∀ q, TblS b n vs q → q ≠ p.block) (u : Value) : OwnT (w.setCell p u) lo b n d vs F :=
  h.keep fun g hg _ => Below.heap_setCell _ _ _ _ (hp g hg)
end Go.Proofs.YtpdgpgbgakinlaaGreat

namespace Go.Proofs.YtpdgpgbgakinlaaGreat
set_option maxRecDepth 100000
set_option linter.unusedVariables false
set_option linter.unusedSimpArgs false
open Go.RowKit
def thL (p q : List Int) : List Int := p.map fun x => q.getD x.toNat 0
theorem thL_len (p q : List Int) : (thL p q).length = p.length := by simp [thL]
theorem thL_succ (p q : List Int) {k : Nat} (h : k < p.length) : thL (p.take (k + 1)) q = thL (p.take k) q ++ [q.getD p[k].toNat 0] := by
  simp only [thL, List.take_succ_eq_append_getElem h, List.map_append, List.map_cons, List.map_nil]
set_option maxHeartbeats 2000000 in
theorem l01Then_any (a1 a2 : Option Addr) (n m c1 c2 : Nat) (p q : List Int) (w : World) (h1 : Row w a1 n p) (h2 : Row w a2 m q) (hm : n ≤ 1000000) (hp : ∀ x ∈ p, 0 ≤ x ∧ x < m) :
    Calls Tryz.prog 144 #[.slice a1 n c1, .slice a2 m c2] w fun e w' => ∃ a' c', e = .returned (.slice a' n c') ∧ Own w' w.heap.size a' n c' (thL p q) ∧ Below w.heap.size w w' := by
  have HL := Lib.hid h1.len; have HP := Lib.hid hp
  clear hp
  go_enter Tryz.func144, Tryz.ntmps144
  go_wp2
  go_loopw [5, 6] (fun s i wr => ∃ (k : Nat) (a' : Option Addr) (c' : Nat), k ≤ n ∧ i = .int .i64 k ∧ s = .slice a' k c' ∧ Own wr w.heap.size a' k c' (thL (p.take k) q) ∧ Below w.heap.size w wr) (fun _ i _ => n - (intOf i).toNat)
  case atStart => exact ⟨0, _, _, Nat.zero_le _, rfl, rfl, Own.fresh w rfl, below_al (Below.refl _ _) _⟩
  case round =>
    obtain ⟨k, a', c', hk, rfl, rfl, ho, hq⟩ := hrel
    by_cases hlt : k < n
    · have hx : k < p.length := by have := HL.out; omega
      obtain ⟨b1, o1, rfl, g1⟩ := (h1.below hq).at k hlt
      rw [getD_at hx] at g1
      have hv := HP.out p[k] (List.getElem_mem hx)
      obtain ⟨v, hve⟩ : ∃ v : Nat, p[k] = v := ⟨p[k].toNat, by omega⟩
      have HST := Lib.hid (thL_succ p q hx)
      rw [hve] at g1 hv HST
      rw [Int.toNat_natCast] at HST
      have hvm : v < m := by omega
      obtain ⟨b2, o2, rfl, g2⟩ := (h2.below hq).at v hvm
      obtain ⟨V, HV⟩ : ∃ V, Hid (q.getD v 0 = V) := ⟨_, rfl⟩
      rw [HV.out] at g2 HST
      have i1 : (0 : Int) ≤ (v : Int) := by omega
      have i2 : (v : Int) < (m : Int) := by omega
      have hwq := hq.size
      clear hve
      go_wp2_with (at_builtin; refine app1 rfl rfl ho rfl rfl (by omega) hwq ?_; intro g' cc w8 hO hg8 hs8 hb8)
      go_roundw
      case rel => exact ⟨k + 1, _, cc, by omega, by go_num, rfl, by rw [HST.out]; exact hO, hq.trans hb8⟩
      case measure => simp [intOf]; omega
    · obtain rfl : k = n := by omega
      go_wp2
      go_ret
      have e : p.take k = p := List.take_of_length_le (by have := HL.out; omega)
      rw [e] at ho
      exact ⟨_, _, rfl, ho, hq⟩
def cjL (x y : List Int) : List Int := thL (thL (backF x) y) x
theorem thL_mem {p q : List Int} {n : Nat} (hp : ∀ x ∈ p, 0 ≤ x ∧ x < q.length) (hq : ∀ x ∈ q, 0 ≤ x ∧ x < n) : ∀ x ∈ thL p q, 0 ≤ x ∧ x < n := by
  intro x hx
  obtain ⟨y, hy, rfl⟩ := List.mem_map.1 hx
  have := hp y hy
  have hl : y.toNat < q.length := by omega
  rw [getD_at hl]
  exact hq _ (List.getElem_mem hl)
end Go.Proofs.YtpdgpgbgakinlaaGreat

namespace Go.Proofs.YtpdgpgbgakinlaaGreat
set_option maxRecDepth 100000
set_option linter.unusedVariables false
set_option linter.unusedSimpArgs false
theorem thL_isP {n : Nat} {p q : List Int} (h : IsP n p) (k : IsP n q) : IsP n (thL p q) := by
  obtain ⟨f, g, hl, h1, h2⟩ := h
  obtain ⟨f', g', hl', h1', h2'⟩ := k
  refine ⟨fun i => f' (f i), fun i => g (g' i), by rw [thL_len]; exact hl, fun i hi => ?_, fun i hi => ?_⟩
  · have a1 := h1 i hi
    have a2 := h1' i hi
    have a3 := h1' (f i) a1.1
    have a4 := h1 (g' i) a2.2.1
    refine ⟨a3.1, a4.2.1, ?_, ?_⟩
    · show f' (f (g (g' i))) = i
      rw [a4.2.2.1, a2.2.2.1]
    · show g (g' (f' (f i))) = i
      rw [a3.2.2.2, a1.2.2.2]
  · have hp : i < p.length := by omega
    have e : (thL p q).getD i 0 = q.getD (p.getD i 0).toNat 0 := by
      simp [thL, List.getD_eq_getElem?_getD, List.getElem?_eq_getElem hp]
    rw [e, h2 i hi, Int.toNat_natCast, h2' (f i) (h1 i hi).1]
def RwOk (n : Nat) (r : List Int) : Prop := r = [] ∨ IsP n r
def RwsOk (n : Nat) (o : List (List Int)) : Prop := o.length = n ∧ ∀ i, i < n → RwOk n (o.getD i [])
theorem RwsOk.set {n : Nat} {o : List (List Int)} (h : RwsOk n o) (z : Nat) {r : List Int} (hr : RwOk n r) : RwsOk n (o.set z r) := by
  refine ⟨by rw [List.length_set]; exact h.1, fun i hi => ?_⟩
  rw [getD_set' o z i r [] (by rw [h.1]; exact hi)]
  split
  · exact hr
  · exact h.2 i hi
theorem IsP.ne {n : Nat} {r : List Int} (hn : 0 < n) (h : IsP n r) : r ≠ [] := fun e => by have := h.len; rw [e] at this; simp at this; omega
theorem IsP.at {n : Nat} {r : List Int} (h : IsP n r) {y : Nat} (hy : y < n) : ∃ z : Nat, r.getD y 0 = z ∧ z < n := by
  obtain ⟨f, g, hl, h1, h2⟩ := h
  exact ⟨f y, h2 y hy, (h1 y hy).1⟩
end Go.Proofs.YtpdgpgbgakinlaaGreat

namespace Go.Proofs.YtpdgpgbgakinlaaGreat
set_option maxRecDepth 100000
set_option linter.unusedVariables false
set_option linter.unusedSimpArgs false
open Go.RowKit
def rngB (lo hi x : Int) : Bool := decide (lo ≤ x) && decide (x ≤ hi)
def rowOk (n m : Int) (xs : List Int) : Bool := decide ((xs.length : Int) = n) && xs.all (rngB 0 (m - 1))
theorem all_get_succ {α : Type} {f : α → Bool} {xs : List α} {k : Nat} (hx : k < xs.length) (h1 : (xs.take k).all f = true) (h2 : f xs[k] = true) : (xs.take (k + 1)).all f = true := by
  rw [List.take_succ_eq_append_getElem hx, List.all_append, h1]; simp [h2]
theorem all_no {α : Type} {f : α → Bool} {xs : List α} {k : Nat} (hx : k < xs.length) (h : f xs[k] = false) : xs.all f = false := by
  rw [List.all_eq_false]; exact ⟨xs[k], List.getElem_mem hx, by simp [h]⟩
theorem within_b (v lo hi : Int) (b : Bool) (h : rngB lo hi v = b) (w : World) :
    Calls Tryz.prog 71 #[.int .i64 v, .int .i64 lo, .int .i64 hi] w fun e w' => e = .returned (.bool b) ∧ w = w' :=
  (within_any v lo hi w).mono fun e w' ⟨he, hw⟩ => ⟨he.trans (ret_bool h), hw⟩
theorem l01In_b (v lo hi : Int) (b : Bool) (h : rngB lo hi v = b) (w : World) :
    Calls Tryz.prog 96 #[.int .i64 v, .int .i64 lo, .int .i64 hi] w fun e w' => e = .returned (.bool b) ∧ w = w' :=
  (l01In_any v lo hi w).mono fun e w' ⟨he, hw⟩ => ⟨he.trans (ret_bool h), hw⟩
set_option maxHeartbeats 400000 in
theorem allWithin_any (a : Option Addr) (n c : Nat) (xs : List Int) (lo hi : Int) (w : World) (h1 : Row w a n xs) (hm : n ≤ 9223372036854775807) :
    Calls Tryz.prog 89 #[.slice a n c, .int .i64 lo, .int .i64 hi] w fun e w' => e = .returned (.bool (xs.all (rngB lo hi))) ∧ w = w' := by
  have hl := h1.len
  have HL := Lib.hid hl; clear hl
  go_enter Tryz.func89, Tryz.ntmps89
  go_wp2
  go_loop [11] (fun i => ∃ k : Nat, k ≤ n ∧ i = .int .i64 k ∧ Hid ((xs.take k).all (rngB lo hi) = true)) (fun i => n - (intOf i).toNat)
  case atStart => exact ⟨0, Nat.zero_le _, rfl, by simp [Hid]⟩
  case round =>
    obtain ⟨k, hk, rfl, hall⟩ := hrel
    by_cases hlt : k < n
    · obtain ⟨b, off, rfl, g1⟩ := h1.at k hlt
      have hx : k < xs.length := by have := HL.out; omega
      clear h1
      cases hp : rngB lo hi xs[k] with
      | true =>
        have HC := Lib.hid (fun w => within_b xs[k] lo hi true hp w)
        have HP := Lib.hid hp; clear hp
        go_wp2_with fail
        refine (HC.out _).mono ?_
        rintro e w' ⟨rfl, rfl⟩
        go_wp2
        go_round
        case rel => exact ⟨k + 1, by omega, by go_num, all_get_succ hx hall HP.out⟩
        case measure => simp [intOf]; omega
      | false =>
        have HC := Lib.hid (fun w => within_b xs[k] lo hi false hp w)
        have HP := Lib.hid hp; clear hp
        go_wp2_with fail
        refine (HC.out _).mono ?_
        rintro e w' ⟨rfl, rfl⟩
        go_wp2
        go_ret
        exact ⟨ret_bool (all_no hx HP.out).symm, rfl⟩
    · obtain rfl : k = n := by omega
      go_wp2
      go_ret
      have ha : (xs.take k).all (rngB lo hi) = true := hall
      rw [List.take_of_length_le (by have := HL.out; omega)] at ha
      exact ⟨ret_bool ha.symm, rfl⟩
/-! ### questions of rows at a function value that only reads -/
def idxT (p : List Int → Bool) (xs : List (List Int)) : Int := match xs.findIdx? p with | some i => (i : Int) | none => -1
theorem idxT_hit {p : List Int → Bool} {xs : List (List Int)} {k : Nat} (hk : k < xs.length) (h1 : (xs.take k).all (fun x => !p x) = true) (h2 : p xs[k] = true) : idxT p xs = k := by
  have : xs.findIdx? p = some k := by
    rw [List.findIdx?_eq_some_iff_getElem]
    refine ⟨hk, h2, fun j hj => ?_⟩
    have hj' : j < xs.length := by omega
    rw [List.all_eq_true] at h1
    have := h1 xs[j] (by rw [List.mem_take_iff_getElem]; exact ⟨j, by omega, rfl⟩)
    simpa using this
  simp [idxT, this]
theorem idxT_miss {p : List Int → Bool} {xs : List (List Int)} (h1 : xs.all (fun x => !p x) = true) : idxT p xs = -1 := by
  have : xs.findIdx? p = none := by
    rw [List.findIdx?_eq_none_iff]
    intro x hx
    rw [List.all_eq_true] at h1
    simpa using h1 x hx
  simp [idxT, this]
theorem idxT_any (p : List Int → Bool) (xs : List (List Int)) : decide (0 ≤ idxT p xs) = xs.any p := by
  unfold idxT
  cases h : xs.findIdx? p with
  | none => rw [List.findIdx?_eq_none_iff] at h; simp; intro x hx; simpa using h x hx
  | some i =>
    rw [List.findIdx?_eq_some_iff_getElem] at h
    obtain ⟨hi, hp, _⟩ := h
    have : xs.any p = true := List.any_eq_true.2 ⟨xs[i], List.getElem_mem hi, hp⟩
    simp [this]
set_option maxHeartbeats 1000000 in
theorem idxFunc_rows (Inv : World → Prop) (f : FuncId) (caps : Array Value) (p : List Int → Bool) (a : Option Addr) (n c : Nat) (xs : List (List Int)) (w : World) (hI : Inv w) (h1 : ∀ w1, Inv w1 → Tbl w1 a n xs) (hm : n ≤ 9223372036854775807)
    (hcf : Ent f) (hf : ∀ x ∈ xs, ∀ w1, Inv w1 → ∀ a' n' c', Row w1 a' n' x → n' ≤ 9223372036854775807 → Calls Tryz.prog f (#[.slice a' n' c'] ++ caps) w1 fun e w' => e = .returned (.bool (p x)) ∧ Inv w') :
    Calls Tryz.prog 133 #[.slice a n c, .func (.func f) #[] caps] w fun e w' => e = .returned (.int .i64 (idxT p xs)) ∧ Inv w' := by
  have hcf' : ∀ (args : Array Value) (w : World), (callFunc f args).run Tryz.prog w = .ok (.enter f args) w := hcf
  have HF := Lib.hid hf; clear hf
  have hl := (h1 w hI).len
  have HL := Lib.hid hl; clear hl
  have H1 := Lib.hid h1; clear h1
  have HI := Lib.hid hI; clear hI
  go_enter Tryz.func133, Tryz.ntmps133
  go_wp2
  go_loopw [8] (fun i wr => ∃ k : Nat, k ≤ n ∧ i = .int .i64 k ∧ Hid ((xs.take k).all (fun x => !p x) = true) ∧ Hid (Inv wr)) (fun i _ => n - (intOf i).toNat)
  case atStart => exact ⟨0, Nat.zero_le _, rfl, by simp [Hid], HI⟩
  case round =>
    obtain ⟨k, hk, rfl, hall, hi⟩ := hrel
    by_cases hlt : k < n
    · obtain ⟨b, off, ai, ni, ci, rfl, g1, hri, hni⟩ := (H1.out wr hi.out).at k hlt
      have hx : k < xs.length := by have := HL.out; omega
      rw [Tbl.getD hx] at hri
      have hc := HF.out xs[k] (List.getElem_mem hx) wr hi.out ai ni ci hri hni
      by_cases hp : p xs[k] = true
      · rw [hp] at hc
        have HC := Lib.hid hc; clear hc
        have HP := Lib.hid hp; clear hp
        go_wp2_with fail
        refine HC.out.mono ?_
        rintro e w' ⟨rfl, hi'⟩
        have HI' := Lib.hid hi'; clear hi'
        go_wp2
        go_ret
        exact ⟨ret_int (idxT_hit hx hall HP.out).symm, HI'.out⟩
      · have hp : p xs[k] = false := by simpa using hp
        rw [hp] at hc
        have HC := Lib.hid hc; clear hc
        have HP := Lib.hid hp; clear hp
        go_wp2_with fail
        refine HC.out.mono ?_
        rintro e w' ⟨rfl, hi'⟩
        have HI' := Lib.hid hi'; clear hi'
        go_wp2
        go_roundw
        case rel =>
          refine ⟨k + 1, by omega, by go_num, ?_, HI'⟩
          show ((xs.take (k + 1)).all (fun x => !p x)) = true
          have ha : (xs.take k).all (fun x => !p x) = true := hall
          rw [List.take_succ_eq_append_getElem hx, List.all_append, ha]; simp [HP.out]
        case measure => simp [intOf]; omega
    · obtain rfl : k = n := by omega
      go_wp2
      go_ret
      have ha : (xs.take k).all (fun x => !p x) = true := hall
      rw [List.take_of_length_le (by have := HL.out; omega)] at ha
      exact ⟨ret_int (idxT_miss ha).symm, hi.out⟩
set_option maxHeartbeats 400000 in
theorem containsFunc_rows (Inv : World → Prop) (f : FuncId) (caps : Array Value) (p : List Int → Bool) (a : Option Addr) (n c : Nat) (xs : List (List Int)) (w : World) (hI : Inv w) (h1 : ∀ w1, Inv w1 → Tbl w1 a n xs) (hm : n ≤ 9223372036854775807)
    (hcf : Ent f) (hf : ∀ x ∈ xs, ∀ w1, Inv w1 → ∀ a' n' c', Row w1 a' n' x → n' ≤ 9223372036854775807 → Calls Tryz.prog f (#[.slice a' n' c'] ++ caps) w1 fun e w' => e = .returned (.bool (p x)) ∧ Inv w') :
    Calls Tryz.prog 87 #[.slice a n c, .func (.func f) #[] caps] w fun e w' => e = .returned (.bool (xs.any p)) ∧ Inv w' := by
  have HF := Lib.hid hf; clear hf
  have H1 := Lib.hid h1; clear h1
  have HI := Lib.hid hI; clear hI
  go_enter Tryz.func87, Tryz.ntmps87
  go_wp2_with fail
  refine (idxFunc_rows Inv f caps p _ _ _ xs _ HI.out H1.out hm hcf HF.out).mono ?_
  rintro e w' ⟨rfl, hi'⟩
  have HI' := Lib.hid hi'; clear hi'
  go_wp2
  go_ret
  exact ⟨ret_bool (idxT_any p xs), HI'.out⟩
end Go.Proofs.YtpdgpgbgakinlaaGreat

namespace Go.Proofs.YtpdgpgbgakinlaaGreat
set_option linter.unusedVariables false
set_option linter.unusedSimpArgs false
def tv (t : List (List Int)) (x y : Nat) : Nat := ((t.getD x []).getD y 0).toNat
def isTab (t : List (List Int)) : Bool := rngB 1 12 (t.length : Int) && t.all (rowOk t.length t.length)
def Sq (n : Nat) (t : List (List Int)) : Prop := t.length = n ∧ ∀ x, x < n → (t.getD x []).length = n ∧ ∀ y, y < n → tv t x y < n ∧ (t.getD x []).getD y 0 = ((tv t x y : Nat) : Int)
theorem rowOk_get {n m : Int} {xs : List Int} (h : rowOk n m xs = true) : (xs.length : Int) = n ∧ ∀ y, y < xs.length → 0 ≤ xs.getD y 0 ∧ xs.getD y 0 < m := by
  unfold rowOk at h
  rw [Bool.and_eq_true] at h
  refine ⟨by simpa using h.1, fun y hy => ?_⟩
  have := List.all_eq_true.1 h.2 xs[y] (List.getElem_mem hy)
  unfold rngB at this
  have e : xs.getD y 0 = xs[y] := by simp [List.getD_eq_getElem?_getD, List.getElem?_eq_getElem hy]
  rw [e]
  simp at this
  omega
theorem isTab_sq {t : List (List Int)} (h : isTab t = true) : 1 ≤ t.length ∧ t.length ≤ 12 ∧ Sq t.length t := by
  unfold isTab at h
  rw [Bool.and_eq_true] at h
  have h1 : 1 ≤ t.length ∧ t.length ≤ 12 := by
    have := h.1; unfold rngB at this; simp at this; omega
  refine ⟨h1.1, h1.2, rfl, fun x hx => ?_⟩
  have hr := List.all_eq_true.1 h.2 t[x] (List.getElem_mem hx)
  have e : t.getD x [] = t[x] := by simp [List.getD_eq_getElem?_getD, List.getElem?_eq_getElem hx]
  obtain ⟨h2, h3⟩ := rowOk_get hr
  rw [e]
  refine ⟨by omega, fun y hy => ?_⟩
  have := h3 y (by omega)
  unfold tv
  rw [e]
  omega
theorem Sq.len {n : Nat} {t : List (List Int)} (h : Sq n t) : t.length = n := h.1
theorem Sq.lt {n : Nat} {t : List (List Int)} (h : Sq n t) {x y : Nat} (hx : x < n) (hy : y < n) : tv t x y < n := ((h.2 x hx).2 y hy).1
theorem Sq.row {n : Nat} {t : List (List Int)} (h : Sq n t) {x : Nat} (hx : x < n) : (t.getD x []).length = n := (h.2 x hx).1
theorem Sq.val {n : Nat} {t : List (List Int)} (h : Sq n t) {x y : Nat} (hx : x < n) (hy : y < n) : (t.getD x []).getD y 0 = ((tv t x y : Nat) : Int) := ((h.2 x hx).2 y hy).2
/-! ### all of the numbers less than n -/
def allN (n : Nat) (P : Nat → Bool) : Bool := (List.range n).all P
theorem allN_succ {n : Nat} {P : Nat → Bool} (h : allN n P = true) (h' : P n = true) : allN (n + 1) P = true := by
  unfold allN at *; rw [List.range_succ, List.all_append, h]; simp [h']
theorem allN_no {n k : Nat} {P : Nat → Bool} (hk : k < n) (h : P k = false) : allN n P = false := by
  unfold allN; rw [List.all_eq_false]; exact ⟨k, List.mem_range.2 hk, by simp [h]⟩
theorem allN_get {n k : Nat} {P : Nat → Bool} (h : allN n P = true) (hk : k < n) : P k = true := List.all_eq_true.1 h k (List.mem_range.2 hk)
/-! ### the equation, and pairs that are led to one pair -/
def eqAt (f g : List (List Int)) (x y z : Nat) : Bool :=
  let a1 := tv f x y; let b1 := tv g x y; let b2 := tv f b1 z; let c2 := tv g b1 z; let a3 := tv f a1 b2; let b3 := tv g a1 b2
  let e1 := tv f y z; let f1 := tv g y z; let d2 := tv f x e1; let e2 := tv g x e1; let e3 := tv f e2 f1; let f3 := tv g e2 f1
  (decide (a3 = d2) && decide (b3 = e3)) && decide (c2 = f3)
def eqOk (n : Nat) (f g : List (List Int)) : Bool := allN n fun x => allN n fun y => allN n fun z => eqAt f g x y z
def collAt (n : Nat) (f g : List (List Int)) (p q : Nat) : Bool := (!decide (p = q)) && (decide (tv f (p / n) (p % n) = tv f (q / n) (q % n)) && decide (tv g (p / n) (p % n) = tv g (q / n) (q % n)))
def collOk (n : Nat) (f g : List (List Int)) : Bool := allN (n * n) fun p => allN (n * n) fun q => !collAt n f g p q
def isPm (f g : List (List Int)) : Bool := isTab f && (isTab g && decide (f.length = g.length))
def isSol (f g : List (List Int)) : Bool := isPm f g && (collOk f.length f g && eqOk f.length f g)
theorem isPm_sq {f g : List (List Int)} (h : isPm f g = true) : 1 ≤ f.length ∧ f.length ≤ 12 ∧ Sq f.length f ∧ Sq f.length g := by
  unfold isPm at h
  rw [Bool.and_eq_true, Bool.and_eq_true] at h
  obtain ⟨h1, h2, h3⟩ := isTab_sq h.1
  obtain ⟨_, _, h4⟩ := isTab_sq h.2.1
  have e : f.length = g.length := by simpa using h.2.2
  exact ⟨h1, h2, h3, by rw [e]; exact h4⟩
theorem isSol_pm {f g : List (List Int)} (h : isSol f g = true) : isPm f g = true := by
  unfold isSol at h; rw [Bool.and_eq_true] at h; exact h.1
theorem isSol_sq {f g : List (List Int)} (h : isSol f g = true) : 1 ≤ f.length ∧ f.length ≤ 12 ∧ Sq f.length f ∧ Sq f.length g := isPm_sq (isSol_pm h)
end Go.Proofs.YtpdgpgbgakinlaaGreat

namespace Go.Proofs.YtpdgpgbgakinlaaGreat
set_option linter.unusedVariables false
set_option linter.unusedSimpArgs false
open Go.RowKit
structure Grid (w : World) (b off : Nat) (A O C : Nat → Nat) (n : Nat) (t : List (List Int)) : Prop where
  lt : b < w.heap.size
  row : ∀ x, x < n → w.cell? ⟨b, off + x, none⟩ = some (.slice (some ⟨A x, O x, none⟩) n (C x))
  rlt : ∀ x, x < n → A x < w.heap.size
  cell : ∀ x y, x < n → y < n → w.cell? ⟨A x, O x + y, none⟩ = some (.int .i64 ((tv t x y : Nat) : Int))
theorem Tbl.grid {w : World} {a : Option Addr} {n : Nat} {t : List (List Int)} (h : Tbl w a n t) (hs : Sq n t) (hn : 0 < n) : ∃ b off A O C, a = some ⟨b, off, none⟩ ∧ Grid w b off A O C n t := by
  obtain ⟨b, off, ai, ni, ci, ha, hb, _⟩ := h.2 0 hn
  have H : ∀ x, ∃ q : Nat × Nat × Nat, x < n → w.cell? ⟨b, off + x, none⟩ = some (.slice (some ⟨q.1, q.2.1, none⟩) n q.2.2) ∧ q.1 < w.heap.size ∧ ∀ y, y < n → w.cell? ⟨q.1, q.2.1 + y, none⟩ = some (.int .i64 ((tv t x y : Nat) : Int)) := by
    intro x
    by_cases hx : x < n
    · obtain ⟨b', off', ax, nx, cx, e, _, hc, hr, _⟩ := h.2 x hx
      rw [ha] at e; cases e
      have hl : nx = n := by rw [hr.len, hs.row hx]
      subst hl
      obtain ⟨bx, ox, e, hbx, hcx⟩ := hr.all hn
      subst e
      exact ⟨(bx, ox, cx), fun _ => ⟨hc, hbx, fun y hy => by rw [hcx y hy, hs.val hx hy]⟩⟩
    · exact ⟨(0, 0, 0), fun h => absurd h hx⟩
  obtain ⟨Q, hQ⟩ := Classical.axiomOfChoice H
  exact ⟨b, off, fun x => (Q x).1, fun x => (Q x).2.1, fun x => (Q x).2.2, ha, hb, fun x hx => (hQ x hx).1, fun x hx => (hQ x hx).2.1, fun x y hx hy => (hQ x hx).2.2 y hy⟩
section
variable {w w' : World} {b off n : Nat} {A O C : Nat → Nat} {t : List (List Int)}
theorem Grid.below (h : Grid w b off A O C n t) (hb : Below w.heap.size w w') : Grid w' b off A O C n t :=
  ⟨Nat.lt_of_lt_of_le h.lt hb.size, fun x hx => (hb.cell (p := ⟨b, off + x, none⟩) h.lt).trans (h.row x hx), fun x hx => Nat.lt_of_lt_of_le (h.rlt x hx) hb.size,
   fun x y hx hy => (hb.cell (p := ⟨A x, O x + y, none⟩) (h.rlt x hx)).trans (h.cell x y hx hy)⟩
theorem Grid.alloc (h : Grid w b off A O C n t) (o : Obj) : Grid (w.alloc o) b off A O C n t := h.below ((Below.refl _ _).alloc (Nat.le_refl _) o)
theorem Grid.drewN (h : Grid w b off A O C n t) (k : Nat) : Grid (w.drewN k) b off A O C n t := ⟨h.lt, h.row, h.rlt, h.cell⟩
theorem Grid.look (h : Grid w b off A O C n t) {x y : Nat} (hx : x < n) (hy : y < n) : w.cell? ⟨b, off + x, none⟩ = some (.slice (some ⟨A x, O x, none⟩) n (C x)) ∧ w.cell? ⟨A x, O x + y, none⟩ = some (.int .i64 ((tv t x y : Nat) : Int)) := ⟨h.row x hx, h.cell x y hx hy⟩
end
end Go.Proofs.YtpdgpgbgakinlaaGreat

namespace Go.Proofs.YtpdgpgbgakinlaaGreat
set_option maxRecDepth 100000
set_option linter.unusedVariables false
set_option linter.unusedSimpArgs false
open Go.RowKit
def rnV (t : List (List Int)) (p : List Int) (x y : Nat) : Int := p.getD (tv t ((backF p).getD x 0).toNat ((backF p).getD y 0).toNat) 0
def rnL (n : Nat) (t : List (List Int)) (p : List Int) : List (List Int) := tabF n (rnV t p)
end Go.Proofs.YtpdgpgbgakinlaaGreat

namespace Go.Proofs.YtpdgpgbgakinlaaGreat
set_option maxRecDepth 100000
set_option linter.unusedVariables false
set_option linter.unusedSimpArgs false
open Go.RowKit
set_option maxHeartbeats 2000000 in
theorem l01Own2_any (a : Option Addr) (n c : Nat) (xss : List (List Int)) (w : World) (h : Tbl w a n xss) (hm : n ≤ 1000000) (hx : ∀ x ∈ xss, x.length ≤ 1000000) :
    Calls Tryz.prog 115 #[.slice a n c] w fun e w' => ∃ a' c' vs, e = .returned (.slice a' n c') ∧ OwnT w' w.heap.size a' n c' vs xss ∧ Below w.heap.size w w' := by
  have HL := Lib.hid h.len
  have HX := Lib.hid hx; clear hx
  go_enter Tryz.func115, Tryz.ntmps115
  go_wp2
  have hO := OwnT.fresh w rfl
  have hB := below_al (Below.refl w.heap.size w) (.cells #[] 27)
  go_loopw [3, 4] (fun z i wr => ∃ (k : Nat) (az : Option Addr) (cz : Nat) (vz : List SV), k ≤ n ∧ i = .int .i64 k ∧ z = .slice az k cz ∧ OwnT wr w.heap.size az k cz vz (xss.take k) ∧ Below w.heap.size w wr) (fun _ i _ => n - (intOf i).toNat)
  case atStart => exact ⟨0, _, 0, _, Nat.zero_le _, rfl, rfl, by simpa using hO, hB⟩
  case round =>
    clear hO hB
    obtain ⟨k, az, cz, vz, hk, rfl, rfl, ho, hb⟩ := hrel
    by_cases hlt : k < n
    · obtain ⟨b, off, ai, ni, ci, rfl, g1, hr, hni⟩ := (h.below hb).at k hlt
      have hxk : k < xss.length := by have := HL.out; omega
      rw [Tbl.getD hxk] at hr
      have hni2 : ni ≤ 1000000 := by have := hr.len; have := HX.out _ (List.getElem_mem hxk); omega
      have HT : Hid (xss.take (k + 1) = xss.take k ++ [xss[k]]) := Lib.hid (List.take_succ_eq_append_getElem hxk)
      generalize xss[k] = X at *
      go_wp2_with fail
      refine (l01Own_any _ _ _ X _ hr (by omega)).mono ?_
      rintro e w1 ⟨a1, c1, rfl, ho1, hb1⟩
      have hbb := hb.size
      have hz1 := ho.below hb1
      have hq1 := below_th hb hb1
      have hs1 := hb1.size
      go_wp2_with (at_builtin; refine appT1 rfl rfl hz1 rfl (ho1.mono hbb) (fun g h1 h2 => by have h3 := ho.high _ h1; have h4 := ho1.lo _ h2; omega) (fun i hi g h1 h2 => by have h3 := ho1.lo _ h1; have h4 := (ho.row i hi).hi _ h2; omega) rfl (by omega) (by omega) ?_; intro g' cc w2 hO hb2)
      go_roundw
      case rel => exact ⟨k + 1, _, _, _, by omega, by go_num, rfl, by rw [HT.out]; exact hO, hq1.trans hb2⟩
      case measure => simp [intOf]; omega
    · obtain rfl : k = n := by omega
      go_wp2
      go_ret
      refine ⟨_, _, vz, rfl, ?_, hb⟩
      rw [List.take_of_length_le (by have := HL.out; omega)] at ho
      exact ho
end Go.Proofs.YtpdgpgbgakinlaaGreat
