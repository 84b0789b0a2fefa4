/-
  Walks and plain laws of this seat, some texts in one.
  No condition but bounds on lengths.
-/
import Derived.Test.YtaddclaadbjnlaaGreatPs1
import Derived.Test.YtaddclaadbjnlaaGreatPs7
import Derived.Test.YtaddclaadbjnlaaGreatPs2
import Derived.Test.YtaddclaadbjnlaaGreatPs3
import Derived.Test.YtaddclaadbjnlaaGreatPs5
import Derived.Deep.RegionHeld3
import Derived.Deep.LoopGhost
import Derived.Test.YtaddclaadbjnlaaGreatPs4
namespace Go.Proofs.YtaddclaadbjnlaaGreat
set_option maxRecDepth 100000
set_option linter.unusedVariables false
set_option linter.unusedSimpArgs false
open Go.RowKit
theorem info_bool : (Tryz.prog.info? 4).map (fun i => (i.zero, i.size, i.bytes)) = some (some (.bool false), 1, 1) := by kernel_rfl
theorem und_bools : Tryz.prog.underlying 104 = some (.slice 4) := by kernel_rfl
/-! ### A slice of truths that the call owns (its block lies from 'lo' on) -/
def OwnBo (w : World) (lo : Nat) (a : Option Addr) (n c : Nat) (xs : List Bool) : Prop := n = xs.length ∧ w.ownsRow lo 4 1 (.slice a n c) n (xs.map Value.bool)
theorem OwnBo.nil (w : World) (lo : Nat) : OwnBo w lo none 0 0 [] := ⟨rfl, World.ownsRow_nil w lo _ 1⟩
theorem OwnBo.len {w : World} {lo : Nat} {a : Option Addr} {n c : Nat} {xs : List Bool} (h : OwnBo w lo a n c xs) : n = xs.length := h.1
theorem OwnBo.alloc {w : World} {lo : Nat} {a : Option Addr} {n c : Nat} {xs : List Bool} (h : OwnBo w lo a n c xs) (o : Obj) : OwnBo (w.alloc o) lo a n c xs := ⟨h.1, h.2.alloc o⟩
theorem OwnBo.drew {w : World} {lo : Nat} {a : Option Addr} {n c : Nat} {xs : List Bool} (h : OwnBo w lo a n c xs) : OwnBo w.drew lo a n c xs := h
theorem OwnBo.drewN {w : World} {lo : Nat} {a : Option Addr} {n c : Nat} {xs : List Bool} (h : OwnBo w lo a n c xs) (k : Nat) : OwnBo (w.drewN k) lo a n c xs := h
theorem OwnBo.block {w : World} {lo : Nat} {a : Option Addr} {n c : Nat} {xs : List Bool} (h : OwnBo w lo a n c xs) : (a = none ∧ n = 0 ∧ c = 0) ∨ ∃ g cur, a = some ⟨g, 0, none⟩ ∧ lo ≤ g ∧ Loc w g cur 4 ∧ n ≤ c ∧ c ≤ maxLen ∧ cur.size = c ∧ cur.toList.take n = xs.map Value.bool := by
  rcases h.2.2 with ⟨h1, h2⟩ | ⟨g, cap, cur, h1, h2, h3, h4, h5, h6, h7⟩
  · cases h1; exact .inl ⟨rfl, rfl, rfl⟩
  · cases h1; exact .inr ⟨g, cur, rfl, h2, h3, h4, h5, by simpa using h6, by simpa using h7⟩
theorem OwnBo.mk {w : World} {lo : Nat} {g n c : Nat} {xs : List Bool} {cur : Array Value} (hn : n = xs.length) (h1 : lo ≤ g) (h2 : Loc w g cur 4) (h3 : n ≤ c) (h4 : c ≤ maxLen) (h5 : cur.size = c) (h6 : cur.toList.take n = xs.map Value.bool) : OwnBo w lo (some ⟨g, 0, none⟩) n c xs :=
  ⟨hn, by simp [hn], .inr ⟨g, c, cur, rfl, h1, h2, h3, h4, by simpa using h5, by simpa using h6⟩⟩
theorem OwnBo.lt {w : World} {lo : Nat} {g o n c : Nat} {xs : List Bool} (h : OwnBo w lo (some ⟨g, o, none⟩) n c xs) : lo ≤ g ∧ g < w.heap.size := by
  rcases h.block with ⟨h1, _⟩ | ⟨g', cur, h1, h2, h3, _⟩
  · cases h1
  · cases h1; exact ⟨h2, h3.lt⟩
theorem OwnBo.mono {w : World} {lo lo' : Nat} {a : Option Addr} {n c : Nat} {xs : List Bool} (h : OwnBo w lo a n c xs) (hl : lo' ≤ lo) : OwnBo w lo' a n c xs := by
  rcases h.block with ⟨rfl, rfl, rfl⟩ | ⟨g, cur, rfl, h2, h3, h4, h5, h6, h7⟩
  · have : xs = [] := List.eq_nil_of_length_eq_zero h.1.symm
    subst this; exact OwnBo.nil _ _
  · exact OwnBo.mk h.1 (by omega) h3 h4 h5 h6 h7
theorem OwnBo.keep {w w' : World} {lo : Nat} {a : Option Addr} {n c : Nat} {xs : List Bool} (h : OwnBo w lo a n c xs) (hk : ∀ g, a = some ⟨g, 0, none⟩ → g < w.heap.size → w'.heap[g]? = w.heap[g]?) : OwnBo w' lo a n c xs := by
  rcases h.block with ⟨rfl, rfl, rfl⟩ | ⟨g, cur, rfl, h2, h3, h4, h5, h6, h7⟩
  · have : xs = [] := List.eq_nil_of_length_eq_zero h.1.symm
    subst this; exact OwnBo.nil _ _
  · exact OwnBo.mk h.1 h2 ((hk g rfl h3.lt).trans h3) h4 h5 h6 h7
theorem OwnBo.below {w w' : World} {lo : Nat} {a : Option Addr} {n c : Nat} {xs : List Bool} (h : OwnBo w lo a n c xs) (hb : Below w.heap.size w w') : OwnBo w' lo a n c xs := h.keep fun g _ hlt => hb.block g hlt
theorem OwnBo.setne {w : World} {lo : Nat} {a : Option Addr} {n c : Nat} {xs : List Bool} (h : OwnBo w lo a n c xs) {p : Addr} (hp : ∀ g, a = some ⟨g, 0, none⟩ → g ≠ p.block) (u : Value) : OwnBo (w.setCell p u) lo a n c xs := h.keep fun g hg _ => Below.heap_setCell _ _ _ _ (hp g hg)
theorem OwnBo.setlo {w : World} {lo : Nat} {a : Option Addr} {n c : Nat} {xs : List Bool} (h : OwnBo w lo a n c xs) {p : Addr} (hp : p.block < lo) (u : Value) : OwnBo (w.setCell p u) lo a n c xs := by
  refine h.setne (fun g hg => ?_) u
  subst hg; have := h.lt; omega
theorem OwnBo.grown {w w' : World} {lo : Nat} {a : Option Addr} {n c : Nat} {xs : List Bool} {row : Option Nat} (h : OwnBo w lo a n c xs) (hg : w.grownBy w' row) (hne : ∀ g, a = some ⟨g, 0, none⟩ → some g ≠ row) : OwnBo w' lo a n c xs := h.keep fun g hg' hlt => hg.block g hlt (hne g hg')
theorem OwnBo.cap {w : World} {lo : Nat} {a : Option Addr} {n c : Nat} {xs : List Bool} (h : OwnBo w lo a n c xs) : n ≤ c ∧ c ≤ 9223372036854775807 := by
  rcases h.block with ⟨rfl, rfl, rfl⟩ | ⟨g, cur, rfl, h2, h3, h4, h5, h6, h7⟩
  · omega
  · unfold maxLen at h5; omega
theorem OwnBo.cells {w : World} {lo : Nat} {g o n c : Nat} {xs : List Bool} (h : OwnBo w lo (some ⟨g, o, none⟩) n c xs) : o = 0 ∧ (∀ i, i < n → w.cell? ⟨g, i, none⟩ = some (.bool (xs.getD i false))) ∧ (∀ i, w.frozen? ⟨g, i, none⟩ = false) := by
  rcases h.block with ⟨h1, _⟩ | ⟨g', cur, h1, h2, h3, h4, h5, h6, h7⟩
  · cases h1
  · cases h1
    refine ⟨rfl, fun i hi => h3.cell i ?_, fun i => h3.free i⟩
    have hx : (cur.toList.take n)[i]? = (xs.map Value.bool)[i]? := by rw [h7]
    have hxi : i < xs.length := by have := h.1; omega
    rw [List.getElem?_take, if_pos hi] at hx
    simp [List.getElem?_eq_getElem hxi] at hx
    simp [List.getD_eq_getElem?_getD, List.getElem?_eq_getElem hxi, hx]
theorem OwnBo.set {w : World} {lo : Nat} {g n c : Nat} {xs : List Bool} (h : OwnBo w lo (some ⟨g, 0, none⟩) n c xs) (i : Nat) (x : Bool) : OwnBo (w.setCell ⟨g, i, none⟩ (.bool x)) lo (some ⟨g, 0, none⟩) n c (xs.set i x) := by
  rcases h.block with ⟨h1, _⟩ | ⟨g', cur, h1, h2, h3, h4, h5, h6, h7⟩
  · cases h1
  · cases h1
    refine OwnBo.mk (by simp [h.1]) h2 (h3.set i _) h4 h5 (by simpa using h6) ?_
    rw [Array.toList_setIfInBounds, List.take_set, h7, List.map_set]
theorem OwnBo.hi {w : World} {lo : Nat} {a : Option Addr} {n c : Nat} {xs : List Bool} (h : OwnBo w lo a n c xs) : ∀ g, a = some ⟨g, 0, none⟩ → g < w.heap.size := fun g hg => by subst hg; exact h.lt.2
theorem OwnBo.lo {w : World} {lo : Nat} {a : Option Addr} {n c : Nat} {xs : List Bool} (h : OwnBo w lo a n c xs) : ∀ g, a = some ⟨g, 0, none⟩ → lo ≤ g := fun g hg => by subst hg; exact h.lt.1
theorem makeBo {ops : Array Oper} {rest : List Oper} {o : Oper} {a : Act} {Q : Exit → Act → World → Prop} {w : World} (hgd : o.guard = none) {l c : Operand}
    (ho : o.op = Op.makeSlice 104 l c) {n : Nat} (hl : a.eval l = .int .i64 n) (hc : a.eval c = .int .i64 n) (hn : n ≤ 1000000000000)
    (h : ∀ w', OwnBo w' w.heap.size (some ⟨w.heap.size, 0, none⟩) n n (List.replicate n false) → w.heap.size < w'.heap.size → Below w.heap.size w w' → wpList Tryz.prog ops Q rest (a.put o.dst (.slice (some ⟨w.heap.size, 0, none⟩) n n)) w') :
    wpList Tryz.prog ops Q (o :: rest) a w := by
  obtain ⟨i0, hi, hz0, hz1, hz2⟩ := info_parts info_bool
  refine wpList_make_full w hgd l c 104 ho w.heap.size 4 i0 (.bool false) 1 und_bools hi hz0 hz1 .i64 .i64 n n n hl hc rfl rfl (by rw [hz2]; omega) (by unfold maxLen; omega) (Nat.le_refl _) ?_
  intro w' ho' hg
  refine h w' ⟨by simp, ?_⟩ ?_ ((Below.refl _ _).grown hg (Nat.le_refl _) (by simp))
  · have e : (madeCells (Value.bool false).cells (n * 1)).toList = (List.replicate n false).map Value.bool := by
      rw [Nat.mul_one, List.map_replicate]; exact toList_madeCells_one _ _
    rw [e] at ho'; exact ho'
  · rcases ho'.2 with ⟨h1, _⟩ | ⟨g, cap, cur, h1, h2, h3, _⟩
    · cases h1
    · cases h1; exact lt_of_block h3
def cyV (rows : List (List Int)) (u z : Nat) : Int := (rows.getD u []).getD z 0
def cyE (n : Nat) (rows : List (List Int)) (x y u v : Nat) : Bool := (List.range n).all fun z => decide (cyV rows u (cyV rows x z).toNat = cyV rows v (cyV rows y z).toNat)
def cyZ (n : Nat) (rows : List (List Int)) (x y : Nat) : Bool := decide (rows.length ≤ (cyV rows x y).toNat) || (decide (rows.length ≤ (cyV rows y x).toNat) || cyE n rows x y (cyV rows x y).toNat (cyV rows y x).toNat)
def cyS (rows : List (List Int)) (x : Nat) : Bool := (List.range x).all fun x' => !decide (cyV rows x' x' = cyV rows x x)
def cyX (n : Nat) (rows : List (List Int)) (x : Nat) : Bool := cyS rows x && (List.range rows.length).all fun y => cyZ n rows x y
def cycR (n : Nat) (rows : List (List Int)) : Bool := (List.range rows.length).all fun x => cyX n rows x
theorem rng_of {k : Nat} {p : Nat → Bool} (h : ∀ y, y < k → p y = true) : (List.range k).all p = true := List.all_eq_true.2 fun y hy => h y (List.mem_range.1 hy)
theorem rng_no {k : Nat} {p : Nat → Bool} {y : Nat} (hy : y < k) (h : p y = false) : (List.range k).all p = false := by
  cases e : (List.range k).all p with
  | false => rfl
  | true => have := List.all_eq_true.1 e y (List.mem_range.2 hy); rw [h] at this; cases this
theorem step_lt {p : Nat → Prop} {x : Nat} (h : ∀ x', x' < x → p x') (hx : p x) : ∀ x', x' < x + 1 → p x' := fun x' h' => by
  by_cases e : x' = x
  · subst e; exact hx
  · exact h x' (by omega)
set_option maxHeartbeats 16000000 in
theorem cycleRows_any (n : Nat) (a : Option Addr) (k c : Nat) (rows : List (List Int)) (w : World) (h : Tbl w a k rows) (hk : k ≤ n) (hn : n ≤ 12) (hp : ∀ i, i < k → IsP n (rows.getD i [])) :
    Calls Tryz.prog 66 #[.int .i64 n, .slice a k c] w fun e w' => e = .returned (.bool (cycR n rows)) ∧ Below w.heap.size w w' := by
  have HL := Lib.hid h.len; have HP := Lib.hid hp
  clear hp
  go_enter Tryz.func66, Tryz.ntmps66
  have i0 : wrap64 (k : Int) = k := IntWalk.wrap64_in _ ⟨by omega, by omega⟩
  go_wp2_with (at_make; refine makeBo rfl rfl rfl rfl (by omega) ?_; intro w1 ho1 hs1 hb1)
  go_loopw [7, 8, 9, 10, 11, 12, 13, 20] (fun _ _ _ _ _ _ _ i wr => ∃ (x : Nat) (sq : List Bool), x ≤ k ∧ i = .int .i64 x ∧ OwnBo wr w.heap.size (some ⟨w.heap.size, 0, none⟩) n n sq ∧ Below w.heap.size w wr ∧ Hid (∀ i, i < n → sq.getD i false = decide (∃ x', x' < x ∧ cyV rows x' x' = (i : Int))) ∧ Hid (∀ x', x' < x → cyX n rows x' = true)) (fun _ _ _ _ _ _ _ i _ => k - (intOf i).toNat)
  case atStart => exact ⟨0, _, Nat.zero_le _, rfl, ho1, hb1, Lib.hid (fun i hi => by simp [List.getD_eq_getElem?_getD, hi]), Lib.hid fun x' hx => absurd hx (by omega)⟩
  case round =>
    clear ho1 hs1 hb1
    obtain ⟨x, sq, hx, rfl, ho, hq, HS, HX⟩ := hrel
    by_cases hlt : x < k
    · obtain ⟨b, off, ax, nx, cx, rfl, g0, r1, l1⟩ := h.at x hlt
      have hpx := HP.out x hlt
      obtain rfl : n = nx := by have := r1.len; rw [hpx.len] at this; exact this.symm
      obtain ⟨s, hs, hsn⟩ := hpx.at (show x < n by omega)
      obtain ⟨bx, ox, rfl, gs⟩ := (r1.below hq).at x (by omega)
      rw [hs] at gs
      have HSV : Hid (cyV rows x x = (s : Int)) := Lib.hid hs
      have i1 : (0 : Int) ≤ (x : Int) := by omega
      have i2 : (x : Int) < (k : Int) := by omega
      have i3 : (x : Int) < (n : Int) := by omega
      have i4 : (0 : Int) ≤ (s : Int) := by omega
      have i5 : (s : Int) < (n : Int) := by omega
      have HQ0 := Lib.hid hq
      have g1 := (hq.cell (p := ⟨b, off + x, none⟩) (World.block_lt_of_cell? w _ g0)).trans g0
      obtain ⟨_, hc, hf⟩ := ho.cells
      have c1 := hc s hsn
      have f1 := hf s
      obtain ⟨t, ht⟩ : ∃ t, sq.getD s false = t := ⟨_, rfl⟩
      rw [ht] at c1
      have HT : Hid (t = decide (∃ x', x' < x ∧ cyV rows x' x' = (s : Int))) := Lib.hid (by rw [← ht]; exact HS.out s hsn)
      clear hq hs hc hf ht
      cases t with
      | true =>
        have HC : Hid (cycR n rows = false) := Lib.hid (by
          have h1 := HT.out
          simp only [true_eq_decide_iff] at h1
          obtain ⟨x', h2, h3⟩ := h1
          refine rng_no (y := x) (by have := HL.out; omega) ?_
          have h4 : cyS rows x = false := rng_no (y := x') h2 (by rw [h3, HSV.out]; simp)
          unfold cyX; rw [h4]; rfl)
        go_wp2
        go_ret
        exact ⟨ret_bool HC.out.symm, HQ0.out⟩
      | false =>
        have HCS : Hid (cyS rows x = true) := Lib.hid (rng_of fun x' h2 => by
          have h1 := HT.out
          have h3 : ¬ cyV rows x' x' = cyV rows x x := fun e => by
            rw [HSV.out] at e
            have : (∃ x', x' < x ∧ cyV rows x' x' = (s : Int)) := ⟨x', h2, e⟩
            simp [this] at h1
          simp [h3])
        have hoS := ho.set s true
        have hbS : Below w.heap.size w (wr.setCell ⟨w.heap.size, s, none⟩ (.bool true)) := HQ0.out.setCell (Nat.le_refl _) _
        have HS2 : Hid (∀ i, i < n → (sq.set s true).getD i false = decide (∃ x', x' < x + 1 ∧ cyV rows x' x' = (i : Int))) := Lib.hid fun i hi => by
          rw [getD_set' _ _ _ _ _ (by have := ho.len; omega)]
          by_cases e : i = s
          · subst e
            rw [if_pos rfl]
            symm; simp only [decide_eq_true_eq]
            exact ⟨x, by omega, HSV.out⟩
          · rw [if_neg e, HS.out i hi]
            refine decide_eq_decide.2 ⟨fun ⟨x', h1, h2⟩ => ⟨x', by omega, h2⟩, fun ⟨x', h1, h2⟩ => ?_⟩
            by_cases e' : x' = x
            · subst e'; rw [HSV.out] at h2; omega
            · exact ⟨x', by omega, h2⟩
        have HOS := Lib.hid hoS; have HBS := Lib.hid hbS
        clear hoS hbS
        go_wp2
        go_loopw [9, 10, 11, 12, 13, 40] (fun _ _ _ _ _ j wr2 => ∃ y m : Nat, y ≤ k ∧ j = .int .i64 y ∧ wr2 = (wr.setCell ⟨w.heap.size, s, none⟩ (.bool true)).drewN m ∧ Hid (∀ y', y' < y → cyZ n rows x y' = true)) (fun _ _ _ _ _ j _ => k - (intOf j).toNat)
        case atStart => exact ⟨0, 0, Nat.zero_le _, rfl, rfl, Lib.hid fun x' hx => absurd hx (by omega)⟩
        case round =>
          obtain ⟨y, m, hy, rfl, hwm, HY⟩ := hrel
          have hq : Below w.heap.size w wr := by rw [hwm]; exact below_drewN HBS.out m
          have HWM := Lib.hid hwm
          clear hwm
          by_cases hly : y < k
          · obtain ⟨b2, off2, ay, ny, cy, e2, g20, r2, l2⟩ := h.at y hly
            cases e2
            have hpy := HP.out y hly
            obtain rfl : n = ny := by have := r2.len; rw [hpy.len] at this; exact this.symm
            have g2 := (hq.cell (p := ⟨b, off + y, none⟩) (World.block_lt_of_cell? w _ g20)).trans g20
            obtain ⟨u, hu, hun⟩ := hpx.at (show y < n by omega)
            obtain ⟨v, hv, hvn⟩ := hpy.at (show x < n by omega)
            obtain ⟨bx, ox, e3, gu⟩ := (r1.below hq).at y (by omega)
            cases e3
            obtain ⟨by_, oy, rfl, gv⟩ := (r2.below hq).at x (by omega)
            rw [hu] at gu
            rw [hv] at gv
            have j1 : (0 : Int) ≤ (y : Int) := by omega
            have j2 : (y : Int) < (k : Int) := by omega
            have j3 : (y : Int) < (n : Int) := by omega
            have HCE : Hid (cyZ n rows x y = (decide (k ≤ u) || (decide (k ≤ v) || cyE n rows x y u v))) := Lib.hid (by
              unfold cyZ
              rw [show cyV rows x y = (u : Int) from hu, show cyV rows y x = (v : Int) from hv, Int.toNat_natCast, Int.toNat_natCast, ← HL.out])
            clear hu hv
            have STEP : Hid (cyZ n rows x y = true → ∀ y', y' < y + 1 → cyZ n rows x y' = true) := Lib.hid (step_lt HY.out)
            go_wp2
            go_quiet (fail)
            by_cases hku : k ≤ u
            · have j4 : (k : Int) ≤ (u : Int) := by omega
              have hz : decide (k ≤ u) = true := by simp; omega
              have HC1 : Hid (cyZ n rows x y = true) := Lib.hid (by rw [HCE.out, hz]; rfl)
              clear hz
              go_wp2
              go_roundw
              case rel => exact ⟨y + 1, m + nq, by omega, by go_num, by rw [HWM.out, World.drewN_drewN], Lib.hid (STEP.out HC1.out)⟩
              case measure => simp [intOf]; omega
            · have j4 : ¬ (k : Int) ≤ (u : Int) := by omega
              by_cases hkv : k ≤ v
              · have j5 : (k : Int) ≤ (v : Int) := by omega
                have hz : decide (k ≤ v) = true := by simp; omega
                have HC1 : Hid (cyZ n rows x y = true) := Lib.hid (by rw [HCE.out, hz]; simp)
                clear hz
                go_wp2
                go_roundw
                case rel => exact ⟨y + 1, m + nq, by omega, by go_num, by rw [HWM.out, World.drewN_drewN], Lib.hid (STEP.out HC1.out)⟩
                case measure => simp [intOf]; omega
              · have j5 : ¬ (k : Int) ≤ (v : Int) := by omega
                have HCE2 : Hid (cyZ n rows x y = cyE n rows x y u v) := Lib.hid (by
                  have z1 : decide (k ≤ u) = false := by simp; omega
                  have z2 : decide (k ≤ v) = false := by simp; omega
                  rw [HCE.out, z1, z2]; rfl)
                have hku' : u < k := by omega
                have hkv' : v < k := by omega
                go_wp2
                go_loopw [13, 62] (fun _ i wr3 => ∃ z m : Nat, z ≤ n ∧ i = .int .i64 z ∧ Hid (Below w.heap.size w wr3) ∧ Hid (∃ m, wr3 = wr.drewN m) ∧ Hid (∀ z', z' < z → decide (cyV rows u (cyV rows x z').toNat = cyV rows v (cyV rows y z').toNat) = true)) (fun _ i _ => n - (intOf i).toNat)
                case atStart => exact ⟨0, 0, Nat.zero_le _, rfl, Lib.hid (below_drewN hq _), Lib.hid ⟨nq, rfl⟩, Lib.hid fun x' hx => absurd hx (by omega)⟩
                case round =>
                  obtain ⟨z, _, hz, rfl, HB3, HM3, HZ⟩ := hrel
                  by_cases hlz : z < n
                  · obtain ⟨b4, o4, au, nu, cu, e4, g40, ru, lu⟩ := h.at u hku'
                    cases e4
                    obtain ⟨b5, o5, av, nv, cv, e5, g50, rv, lv⟩ := h.at v hkv'
                    cases e5
                    obtain rfl : n = nu := by have := ru.len; rw [(HP.out u hku').len] at this; exact this.symm
                    obtain rfl : n = nv := by have := rv.len; rw [(HP.out v hkv').len] at this; exact this.symm
                    obtain ⟨pz, hpz, hpzn⟩ := hpx.at hlz
                    obtain ⟨qz, hqz, hqzn⟩ := hpy.at hlz
                    have hq := HB3.out
                    have gu4 := (hq.cell (p := ⟨b, off + u, none⟩) (World.block_lt_of_cell? w _ g40)).trans g40
                    have gv4 := (hq.cell (p := ⟨b, off + v, none⟩) (World.block_lt_of_cell? w _ g50)).trans g50
                    obtain ⟨bx', ox', e6, gp⟩ := (r1.below hq).at z (by omega)
                    cases e6
                    obtain ⟨by', oy', e7, gq⟩ := (r2.below hq).at z (by omega)
                    cases e7
                    obtain ⟨bu, ou, rfl, gup⟩ := (ru.below hq).at pz (by omega)
                    obtain ⟨bv, ov, rfl, gvq⟩ := (rv.below hq).at qz (by omega)
                    rw [hpz] at gp
                    rw [hqz] at gq
                    obtain ⟨A, HA⟩ : ∃ A, Hid ((rows.getD u []).getD pz 0 = A) := ⟨_, rfl⟩
                    obtain ⟨B, HBB⟩ : ∃ B, Hid ((rows.getD v []).getD qz 0 = B) := ⟨_, rfl⟩
                    rw [HA.out] at gup
                    rw [HBB.out] at gvq
                    have k1 : (0 : Int) ≤ (z : Int) := by omega
                    have k2 : (z : Int) < (n : Int) := by omega
                    have k3 : (0 : Int) ≤ (u : Int) := by omega
                    have k4 : (u : Int) < (k : Int) := by omega
                    have k5 : (0 : Int) ≤ (v : Int) := by omega
                    have k6 : (v : Int) < (k : Int) := by omega
                    have k7 : (0 : Int) ≤ (pz : Int) := by omega
                    have k8 : (pz : Int) < (n : Int) := by omega
                    have k9 : (0 : Int) ≤ (qz : Int) := by omega
                    have k10 : (qz : Int) < (n : Int) := by omega
                    have HZE : Hid (decide (cyV rows u (cyV rows x z).toNat = cyV rows v (cyV rows y z).toNat) = decide (A = B)) := Lib.hid (by
                      rw [show cyV rows x z = (pz : Int) from hpz, show cyV rows y z = (qz : Int) from hqz, Int.toNat_natCast, Int.toNat_natCast]
                      rw [show cyV rows u pz = A from HA.out, show cyV rows v qz = B from HBB.out])
                    clear hpz hqz hq
                    by_cases hAB : A = B
                    · subst hAB
                      have t1 : (A != A) = false := by simp
                      go_wp2
                      go_quiet (fail)
                      go_wp2
                      go_roundw
                      case rel => exact ⟨z + 1, 0, by omega, by go_num, Lib.hid (below_drewN HB3.out _), Lib.hid (by obtain ⟨m3, h3⟩ := HM3.out; exact ⟨m3 + nq, by rw [h3, World.drewN_drewN]⟩), Lib.hid (step_lt HZ.out (by rw [HZE.out]; simp))⟩
                      case measure => simp [intOf]; omega
                    · have t1 : (A != B) = true := by simp [hAB]
                      have HC : Hid (cycR n rows = false) := Lib.hid (by
                        refine rng_no (y := x) (by have := HL.out; omega) ?_
                        unfold cyX
                        rw [rng_no (y := y) (by have := HL.out; omega) (by rw [HCE2.out]; exact rng_no (y := z) hlz (by rw [HZE.out]; simp [hAB])), Bool.and_false])
                      go_wp2
                      go_quiet (fail)
                      go_wp2
                      go_ret
                      exact ⟨ret_bool HC.out.symm, below_drewN HB3.out _⟩
                  · obtain rfl : n = z := by omega
                    have HC1 : Hid (cyZ n rows x y = true) := Lib.hid (by rw [HCE2.out]; exact rng_of fun z hz => HZ.out z hz)
                    go_wp2
                    go_roundw
                    case rel =>
                      obtain ⟨m3, h3⟩ := HM3.out
                      exact ⟨y + 1, m + m3, by omega, by go_num, by rw [h3, HWM.out, World.drewN_drewN], Lib.hid (STEP.out HC1.out)⟩
                    case measure => simp [intOf]; omega
          · obtain rfl : k = y := by omega
            have HC : Hid (cyX n rows x = true) := Lib.hid (by unfold cyX; rw [HCS.out, rng_of fun y hy => HY.out y (by have := HL.out; omega)]; rfl)
            go_wp2
            go_roundw
            case rel => exact ⟨x + 1, _, by omega, by go_num, by rw [HWM.out]; exact HOS.out.drewN m, hq, HS2, Lib.hid (step_lt HX.out HC.out)⟩
            case measure => simp [intOf]; omega
    · obtain rfl : k = x := by omega
      have HC : Hid (cycR n rows = true) := Lib.hid (rng_of fun x hx => HX.out x (by have := HL.out; omega))
      go_wp2
      go_ret
      exact ⟨ret_bool HC.out.symm, hq⟩
theorem RwsOk.at {n : Nat} {rows : List (List Int)} (h : RwsOk n rows) {x nx : Nat} (hx : x < n) {w : World} {a : Option Addr} (hr : Row w a nx (rows.getD x [])) : (nx = 0 ∧ rows.getD x [] = []) ∨ (nx = n ∧ IsP n (rows.getD x [])) := by
  rcases h.2 x hx with e | e
  · exact .inl ⟨by have := hr.len; rw [e] at this; simpa using this, e⟩
  · exact .inr ⟨by have := hr.len; rw [e.len] at this; exact this, e⟩
def FltR (ok : Bool) (W w : World) (e : Ending) (w' : World) : Prop := ((ok = true ∧ e = .returned (.slice none 0 0)) ∨ (ok = false ∧ ∃ b n c, e = .returned (.slice (some ⟨b, 0, none⟩) n c))) ∧ Below W.heap.size W w'
theorem eq_reads (n : Nat) (f g : List (List Int)) (hf : Sq n f) (hg : Sq n g) {x y z : Nat} (hx : x < n) (hy : y < n) (hz : z < n) :
    ∃ a1 b1 b2 c2 a3 b3 e1 f1 d2 e2 e3 f3 : Nat, (a1 < n ∧ b1 < n ∧ b2 < n ∧ e1 < n ∧ f1 < n ∧ e2 < n) ∧
      (tv f x y = a1 ∧ tv g x y = b1 ∧ tv f b1 z = b2 ∧ tv g b1 z = c2 ∧ tv f a1 b2 = a3 ∧ tv g a1 b2 = b3) ∧
      (tv f y z = e1 ∧ tv g y z = f1 ∧ tv f x e1 = d2 ∧ tv g x e1 = e2 ∧ tv f e2 f1 = e3 ∧ tv g e2 f1 = f3) ∧
      eqAt f g x y z = ((decide (a3 = d2) && decide (b3 = e3)) && decide (c2 = f3)) :=
  ⟨_, _, _, _, _, _, _, _, _, _, _, _, ⟨hf.lt hx hy, hg.lt hx hy, hf.lt (hg.lt hx hy) hz, hf.lt hy hz, hg.lt hy hz, hg.lt hx (hf.lt hy hz)⟩, ⟨rfl, rfl, rfl, rfl, rfl, rfl⟩, ⟨rfl, rfl, rfl, rfl, rfl, rfl⟩, rfl⟩
set_option maxHeartbeats 4000000 in
theorem equationFault_any (a : Option Addr) (n c : Nat) (a' : Option Addr) (c' : Nat) (f g : List (List Int)) (w : World) (h1 : Tbl w a n f) (h2 : Tbl w a' n g) (hn1 : 1 ≤ n) (hn : n ≤ 12) (hf : Sq n f) (hg : Sq n g) :
    Calls Tryz.prog 72 #[sAgg a n c a' n c'] w (FltR (eqOk n f g) w w) := by
  obtain ⟨bf, of, A, O, C, rfl, Gf⟩ := h1.grid hf hn1
  obtain ⟨bg, og, A', O', C', rfl, Gg⟩ := h2.grid hg hn1
  clear h1 h2
  go_enter Tryz.func72, Tryz.ntmps72
  have hA := Loc.new w rfl #[.slice (some ⟨bf, of, none⟩) n c, .slice (some ⟨bg, og, none⟩) n c'] 53
  have lA := hA.two
  have gf := Gf.alloc (.cells #[.slice (some ⟨bf, of, none⟩) n c, .slice (some ⟨bg, og, none⟩) n c'] 53)
  have gg := Gg.alloc (.cells #[.slice (some ⟨bf, of, none⟩) n c, .slice (some ⟨bg, og, none⟩) n c'] 53)
  have hB := below_al (Below.refl w.heap.size w) (.cells #[.slice (some ⟨bf, of, none⟩) n c, .slice (some ⟨bg, og, none⟩) n c'] 53)
  clear Gf Gg
  go_wp2
  generalize (w.alloc (.cells #[.slice (some ⟨bf, of, none⟩) n c, .slice (some ⟨bg, og, none⟩) n c'] 53)) = w0 at *
  go_loopw [17] (fun i wr => ∃ k : Nat, k ≤ n ∧ i = .int .i64 k ∧ Hid (allN k (fun x => allN n fun y => allN n fun z => eqAt f g x y z) = true) ∧ ∃ m, wr = w0.drewN m) (fun i _ => n - (intOf i).toNat)
  case atStart => exact ⟨0, Nat.zero_le _, rfl, Lib.hid rfl, 0, rfl⟩
  case round =>
    obtain ⟨x, hx, rfl, hx1, m1, rfl⟩ := hrel
    by_cases hlt : x < n
    · go_wp2
      go_loopw [21] (fun i wr => ∃ k : Nat, k ≤ n ∧ i = .int .i64 k ∧ Hid (allN k (fun y => allN n fun z => eqAt f g x y z) = true) ∧ ∃ m, wr = w0.drewN m) (fun i _ => n - (intOf i).toNat)
      case atStart => exact ⟨0, Nat.zero_le _, rfl, Lib.hid rfl, m1, rfl⟩
      case round =>
        obtain ⟨y, hy, rfl, hy1, m2, rfl⟩ := hrel
        by_cases hlty : y < n
        · go_wp2
          go_loopw [25] (fun i wr => ∃ k : Nat, k ≤ n ∧ i = .int .i64 k ∧ Hid (allN k (fun z => eqAt f g x y z) = true) ∧ ∃ m, wr = w0.drewN m) (fun i _ => n - (intOf i).toNat)
          case atStart => exact ⟨0, Nat.zero_le _, rfl, Lib.hid rfl, m2, rfl⟩
          case round =>
            obtain ⟨z, hz, rfl, hz1, m3, rfl⟩ := hrel
            by_cases hltz : z < n
            · obtain ⟨a1, b1, b2, c2, a3, b3, e1, f1, d2, e2, e3, f3, ⟨l1, l2, l3, l4, l5, l6⟩, ⟨q1, q2, q3, q4, q5, q6⟩, ⟨q7, q8, q9, q10, q11, q12⟩, hE⟩ := eq_reads n f g hf hg hlt hlty hltz
              obtain ⟨r1, k1⟩ := gf.look hlt hlty
              obtain ⟨r2, k2⟩ := gg.look hlt hlty
              obtain ⟨r3, k3⟩ := gf.look l2 hltz
              obtain ⟨r4, k4⟩ := gg.look l2 hltz
              obtain ⟨r5, k5⟩ := gf.look l1 l3
              obtain ⟨r6, k6⟩ := gg.look l1 l3
              obtain ⟨r7, k7⟩ := gf.look hlty hltz
              obtain ⟨r8, k8⟩ := gg.look hlty hltz
              have k9 := gf.cell _ _ hlt l4
              have k10 := gg.cell _ _ hlt l4
              obtain ⟨r11, k11⟩ := gf.look l6 l5
              obtain ⟨r12, k12⟩ := gg.look l6 l5
              rw [q1] at k1; rw [q2] at k2; rw [q3] at k3; rw [q4] at k4; rw [q5] at k5; rw [q6] at k6; rw [q7] at k7; rw [q8] at k8; rw [q9] at k9; rw [q10] at k10; rw [q11] at k11; rw [q12] at k12
              have HE := Lib.hid hE
              clear q1 q2 q3 q4 q5 q6 q7 q8 q9 q10 q11 q12 hE gf gg hf hg
              go_wp2
              go_quiet (fail)
              go_wp2
              go_quiet (fail)
              go_wp2
              go_quiet (fail)
              go_wp2
              go_quiet (fail)
              go_wp2
              go_quiet (fail)
              go_wp2
              go_quiet (fail)
              clear r1 r2 r3 r4 r5 r6 r7 r8 r11 r12 k1 k2 k3 k4 k5 k6 k7 k8 k9 k10 k11 k12
              by_cases p1 : a3 = d2
              · by_cases p2 : b3 = e3
                · by_cases p3 : c2 = f3
                  · have u1 : ((a3 : Int) != (d2 : Int)) = false := by simp [p1]
                    have u2 : ((b3 : Int) != (e3 : Int)) = false := by simp [p2]
                    have u3 : ((c2 : Int) != (f3 : Int)) = false := by simp [p3]
                    have HE2 : Hid (eqAt f g x y z = true) := Lib.hid (by rw [HE.out]; simp [p1, p2, p3])
                    clear p1 p2 p3
                    go_wp2
                    go_roundw
                    case rel => exact ⟨z + 1, by omega, by go_num, Lib.hid (allN_succ hz1.out HE2.out), _, rfl⟩
                    case measure => simp [intOf]; omega
                  · have u1 : ((a3 : Int) != (d2 : Int)) = false := by simp [p1]
                    have u2 : ((b3 : Int) != (e3 : Int)) = false := by simp [p2]
                    have u3 : ((c2 : Int) != (f3 : Int)) = true := by simp; omega
                    have HE2 : Hid (eqAt f g x y z = false) := Lib.hid (by rw [HE.out]; simp [p3])
                    clear p1 p2 p3
                    go_wp2
                    go_ret
                    exact ⟨.inr ⟨allN_no hlt (allN_no hlty (allN_no hltz HE2.out)), _, _, _, rfl⟩, below_al (below_drewN hB _) _⟩
                · have u1 : ((a3 : Int) != (d2 : Int)) = false := by simp [p1]
                  have u2 : ((b3 : Int) != (e3 : Int)) = true := by simp; omega
                  have HE2 : Hid (eqAt f g x y z = false) := Lib.hid (by rw [HE.out]; simp [p2])
                  clear p1 p2
                  go_wp2
                  go_ret
                  exact ⟨.inr ⟨allN_no hlt (allN_no hlty (allN_no hltz HE2.out)), _, _, _, rfl⟩, below_al (below_drewN hB _) _⟩
              · have u1 : ((a3 : Int) != (d2 : Int)) = true := by simp; omega
                have HE2 : Hid (eqAt f g x y z = false) := Lib.hid (by rw [HE.out]; simp [p1])
                clear p1
                go_wp2
                go_ret
                exact ⟨.inr ⟨allN_no hlt (allN_no hlty (allN_no hltz HE2.out)), _, _, _, rfl⟩, below_al (below_drewN hB _) _⟩
            · obtain rfl : z = n := by omega
              go_wp2
              go_roundw
              case rel => exact ⟨y + 1, by omega, by go_num, Lib.hid (allN_succ hy1.out hz1.out), _, rfl⟩
              case measure => simp [intOf]; omega
        · obtain rfl : y = n := by omega
          go_wp2
          go_roundw
          case rel => exact ⟨x + 1, by omega, by go_num, Lib.hid (allN_succ hx1.out hy1.out), _, rfl⟩
          case measure => simp [intOf]; omega
    · obtain rfl : x = n := by omega
      go_wp2
      go_ret
      exact ⟨.inl ⟨hx1.out, rfl⟩, below_drewN hB _⟩
end Go.Proofs.YtaddclaadbjnlaaGreat
