/-
  Walks and plain laws of this seat, some texts in one.
  No condition but bounds on lengths.
-/
import Derived.Test.YtaddclaadbjnlaaGreatPs29
import Derived.Test.YtaddclaadbjnlaaGreatPs4
import Derived.Sort.Grow
import Derived.Deep.RegionHeld3
import Derived.Test.YtaddclaadbjnlaaGreatPs6
namespace Go.Proofs.YtaddclaadbjnlaaGreat
set_option maxRecDepth 100000
set_option linter.unusedVariables false
set_option linter.unusedSimpArgs false
open Go.RowKit
def orI (x y : Int) : Int := if x = 0 then y else x
set_option maxHeartbeats 1000000 in
theorem cmpOr_any (b : Nat) (x y : Int) (t : TypeId) (w : World) (h : Loc w b #[.int .i64 x, .int .i64 y] t) :
    Calls Tryz.prog 118 #[.slice (some ⟨b, 0, none⟩) 2 2] w fun e w' => e = .returned (.int .i64 (orI x y)) ∧ w = w' := by
  have l := h.two
  by_cases hx : x = 0
  · have HO : Hid (orI x y = y) := Lib.hid (if_pos hx)
    rw [HO.out]
    subst hx
    go_enter Tryz.func118, Tryz.ntmps118
    go_wp2
    go_loop [5, 8] (fun _ i => i = .int .i64 0 ∨ i = .int .i64 1 ∨ (i = .int .i64 2 ∧ y = 0)) (fun _ i => 2 - (intOf i).toNat)
    case atStart => exact .inl rfl
    case round =>
      rcases hrel with rfl | rfl | ⟨rfl, rfl⟩
      · go_wp2
        go_round
        case rel => exact .inr (.inl rfl)
        case measure => simp [intOf]
      · by_cases hy : y = 0
        · subst hy
          go_wp2
          go_round
          case rel => first | exact .inr (.inr ⟨rfl, rfl⟩) | exact .inr (.inr trivial) | simp
          case measure => simp [intOf]
        · have hy2 : (y != 0) = true := by simpa using hy
          go_wp2
          go_ret
          exact ⟨rfl, rfl⟩
      · go_wp2
        go_ret
        exact ⟨rfl, rfl⟩
  · have HO : Hid (orI x y = x) := Lib.hid (if_neg hx)
    rw [HO.out]
    have hx2 : (x != 0) = true := by simpa using hx
    go_enter Tryz.func118, Tryz.ntmps118
    go_wp2
    go_loop [5, 8] (fun _ i => i = .int .i64 0) (fun _ i => 2 - (intOf i).toNat)
    case atStart => rfl
    case round =>
      obtain rfl := hrel
      go_wp2
      go_ret
      exact ⟨rfl, rfl⟩
def cmpS (s t : List (List Int) × List (List Int)) : Int := orI (cmpT s.1 t.1) (cmpT s.2 t.2)
theorem orI_bd {x y : Int} (h1 : -1 ≤ x ∧ x ≤ 1) (h2 : -1 ≤ y ∧ y ≤ 1) : -1 ≤ orI x y ∧ orI x y ≤ 1 := by unfold orI; split <;> assumption
theorem cmpS_bd (s t : List (List Int) × List (List Int)) : -1 ≤ cmpS s t ∧ cmpS s t ≤ 1 := orI_bd (cmpT_bd _ _) (cmpT_bd _ _)
theorem grow3 (w : World) (o1 o2 o3 : Obj) : (((w.alloc o1).alloc o2).drew).alloc o3 = Go.Sort.grow (w.drewN 1) #[o1, o2, o3] := by
  have e : (((w.alloc o1).alloc o2).drew).alloc o3 = (((w.drewN 1).alloc o1).alloc o2).alloc o3 := rfl
  rw [e, Go.Sort.alloc_eq_grow, Go.Sort.alloc_eq_grow, Go.Sort.alloc_eq_grow, Go.Sort.grow_grow, Go.Sort.grow_grow]; rfl
set_option maxHeartbeats 4000000 in
theorem compareSolutions_any (a a' b b' : Option Addr) (n n' m m' c c' d d' : Nat) (f f' g g' : List (List Int)) (w : World) (h1 : Tbl w a n f) (h2 : Tbl w a' n' f') (h3 : Tbl w b m g) (h4 : Tbl w b' m' g') (hn : n ≤ 9223372036854775807) (hn' : n' ≤ 9223372036854775807) :
    Calls Tryz.prog 78 #[sAgg a n c a' n' c', sAgg b m d b' m' d'] w fun e w' => e = .returned (.int .i64 (cmpS (f, f') (g, g'))) ∧ ∃ q os', w' = Go.Sort.grow (w.drewN q) os' := by
  obtain ⟨w0, hw0⟩ : ∃ w0, (w.alloc (.cells #[.slice a n c, .slice a' n' c'] 53)).alloc (.cells #[.slice b m d, .slice b' m' d'] 53) = w0 := ⟨_, rfl⟩
  have hA : Loc w0 w.heap.size #[.slice a n c, .slice a' n' c'] 53 := by rw [← hw0]; exact (Loc.new w rfl _ _).alloc _
  have hC : Loc w0 (w.heap.size + 1) #[.slice b m d, .slice b' m' d'] 53 := by rw [← hw0]; exact Loc.new _ (by simp) _ _
  have hB0 : Below w.heap.size w w0 := by rw [← hw0]; exact below_al (below_al (Below.refl _ _) _) _
  have h1' := (h1.below hB0).drewN 1
  have h2' := (h2.below hB0).drewN 1
  have h3' := (h3.below hB0).drewN 1
  have h4' := (h4.below hB0).drewN 1
  have lA := hA.two
  have lC := hC.two
  have HW0 := Lib.hid hw0
  clear hw0
  obtain ⟨X, HX⟩ : ∃ X, Hid (cmpT f g = X) := ⟨_, Lib.hid rfl⟩
  obtain ⟨Y, HY⟩ : ∃ Y, Hid (cmpT f' g' = Y) := ⟨_, Lib.hid rfl⟩
  have HR : Hid (cmpS (f, f') (g, g') = orI X Y) := Lib.hid (by unfold cmpS; rw [HX.out, HY.out])
  rw [HR.out]
  go_enter Tryz.func78, Tryz.ntmps78
  go_wp2_with fail
  rw [HW0.out]
  go_region_held3 (fun w' => w'.cell? ⟨w.heap.size, 0, none⟩ = some (.slice a n c) ∧ w'.cell? ⟨w.heap.size, 1, none⟩ = some (.slice a' n' c') ∧ w'.cell? ⟨w.heap.size + 1, 0, none⟩ = some (.slice b m d) ∧ w'.cell? ⟨w.heap.size + 1, 1, none⟩ = some (.slice b' m' d'))
    (first | exact ⟨lA.1, lA.2.1, lC.1, lC.2.1⟩ | exact ⟨(hA.alloc _).cell 0 rfl, (hA.alloc _).cell 1 rfl, (hC.alloc _).cell 0 rfl, (hC.alloc _).cell 1 rfl⟩ | go_keep)
    (first
    | (go_at_call 97; refine (compareTables_any a b n m c d f g _ h1' h3' hn).mono ?_; rintro e w2 ⟨rfl, rfl⟩; rw [HX.out])
    | (go_at_call 97; refine (compareTables_any a' b' n' m' c' d' f' g' _ h2' h4' hn').mono ?_; rintro e w2 ⟨rfl, rfl⟩; rw [HY.out])
    | (go_at_call 118; refine (cmpOr_any _ X Y _ _ (Loc.new _ rfl _ _)).mono ?_; rintro e w2 ⟨rfl, rfl⟩))
  all_goals
    go_wp2
    go_ret
    exact ⟨rfl, 1, _, by rw [← HW0.out]; exact grow3 w _ _ _⟩
theorem info_So : (Tryz.prog.info? 53).map (fun i => (i.zero, i.size, i.bytes)) = some (some (.agg #[.slice none 0 0, .slice none 0 0]), 2, 48) := by kernel_rfl
theorem und_So : Tryz.prog.underlying 45 = some (.slice 53) := by kernel_rfl
abbrev T2 : Type := List (List Int) × List (List Int)
def t2O : T2 := ([], [])
abbrev PV : Type := TV × TV
def pvO : PV := (tvO, tvO)
def PvS (u : PV) (g : Nat) : Prop := SolS u.1.1.1 u.1.1.2.1 u.1.2 u.2.1.1 u.2.1.2.1 u.2.2 g
def OwnPV (w : World) (lo : Nat) (u : PV) (t : T2) : Prop := OwnS w lo u.1.1.1 u.1.1.2.1 u.1.1.2.2 u.1.2 t.1 u.2.1.1 u.2.1.2.1 u.2.1.2.2 u.2.2 t.2
theorem OwnPV.keep {w w' : World} {lo : Nat} {u : PV} {t : T2} (h : OwnPV w lo u t) (hk : ∀ g, PvS u g → g < w.heap.size → w'.heap[g]? = w.heap[g]?) : OwnPV w' lo u t :=
  ⟨OwnT.keep h.f fun g hg => hk g (.inl hg), OwnT.keep h.s fun g hg => hk g (.inr hg), h.ap⟩
def flS (us : List PV) : List Value := us.flatMap fun u => [slT u.1, slT u.2]
theorem flS_len (us : List PV) : (flS us).length = us.length * 2 := by
  induction us with
  | nil => rfl
  | cons u us ih => simp only [flS, List.flatMap_cons, List.length_append] at *; simp [ih]; omega
theorem flS_snoc (us : List PV) (u : PV) : flS (us ++ [u]) = flS us ++ [slT u.1, slT u.2] := by simp [flS]
theorem flS_get : ∀ (us : List PV) (i : Nat), i < us.length → (flS us)[i * 2]? = some (slT (us.getD i pvO).1) ∧ (flS us)[i * 2 + 1]? = some (slT (us.getD i pvO).2) := by
  intro us
  induction us with
  | nil => intro i h; simp at h
  | cons u us ih =>
    intro i hi
    have e : flS (u :: us) = slT u.1 :: slT u.2 :: flS us := rfl
    cases i with
    | zero => rw [e]; simp
    | succ i =>
      have := ih i (by simpa using hi)
      rw [e, show (i + 1) * 2 = i * 2 + 2 by omega]
      simpa using this
theorem cell_two_new (w : World) (x y : Value) (t : TypeId) : ∀ j u, [x, y][j]? = some u → (w.alloc (.cells #[x, y] t)).cell? ((⟨w.heap.size, 0, none⟩ : Addr).add j) = some u := by
  intro j u hj
  match j, hj with
  | 0, hj => simp at hj; subst hj; simp [Addr.add]
  | 1, hj => simp at hj; subst hj; simp [Addr.add]
  | (j + 2), hj => simp at hj
def SSS (a : Option Addr) (n : Nat) (us : List PV) (g : Nat) : Prop := a = some ⟨g, 0, none⟩ ∨ ∃ i, i < n ∧ PvS (us.getD i pvO) g
structure OwnSo (w : World) (lo : Nat) (a : Option Addr) (n c : Nat) (us : List PV) (ts : List T2) : Prop where
  len : n = ts.length
  ulen : us.length = n
  hdr : w.ownsRow lo 53 2 (.slice a n c) n (flS us)
  tab : ∀ i, i < n → OwnPV w lo (us.getD i pvO) (ts.getD i t2O)
  ap : ∀ i, i < n → ∀ g, a = some ⟨g, 0, none⟩ → ¬ PvS (us.getD i pvO) g
  pw : ∀ i j, i < n → j < n → i ≠ j → ∀ g, PvS (us.getD i pvO) g → ¬ PvS (us.getD j pvO) g
section
variable {w w' : World} {lo : Nat} {a : Option Addr} {n c : Nat} {us : List PV} {ts : List T2}
theorem OwnSo.nil (w : World) (lo : Nat) : OwnSo w lo none 0 0 [] [] :=
  ⟨rfl, rfl, World.ownsRow_nil w lo _ 2, fun i h => absurd h (by omega), fun i h => absurd h (by omega), fun i j h => absurd h (by omega)⟩
theorem OwnSo.block (h : OwnSo w lo a n c us ts) : (a = none ∧ n = 0 ∧ c = 0) ∨ ∃ g cur, a = some ⟨g, 0, none⟩ ∧ lo ≤ g ∧ Loc w g cur 53 ∧ n ≤ c ∧ c ≤ maxLen ∧ cur.size = c * 2 ∧ cur.toList.take (n * 2) = flS us := by
  rcases h.hdr.2 with ⟨h1, h2⟩ | ⟨g, cap, cur, h1, h2, h3, h4, h5, h6, h7⟩
  · cases h1; exact .inl ⟨rfl, rfl, rfl⟩
  · cases h1; exact .inr ⟨g, cur, rfl, h2, h3, h4, h5, by simpa using h6, by simpa using h7⟩
theorem ownsRowSo_mk {w : World} {lo g n c : Nat} {us : List PV} {cur : Array Value} (hn : us.length = n) (h1 : lo ≤ g) (h2 : Loc w g cur 53) (h3 : n ≤ c) (h4 : c ≤ maxLen) (h5 : cur.size = c * 2) (h6 : cur.toList.take (n * 2) = flS us) :
    w.ownsRow lo 53 2 (.slice (some ⟨g, 0, none⟩) n c) n (flS us) :=
  ⟨by rw [flS_len, hn], .inr ⟨g, c, cur, rfl, h1, h2, h3, h4, by simpa using h5, by simpa using h6⟩⟩
theorem OwnSo.high (h : OwnSo w lo a n c us ts) : ∀ g, a = some ⟨g, 0, none⟩ → g < w.heap.size := by
  intro g hg
  rcases h.block with ⟨h1, _⟩ | ⟨g', cur, h1, h2, h3, _⟩
  · rw [h1] at hg; cases hg
  · rw [h1] at hg; cases hg; exact h3.lt
theorem OwnSo.low (h : OwnSo w lo a n c us ts) : ∀ g, a = some ⟨g, 0, none⟩ → lo ≤ g := by
  intro g hg
  rcases h.block with ⟨h1, _⟩ | ⟨g', cur, h1, h2, h3, _⟩
  · rw [h1] at hg; cases hg
  · rw [h1] at hg; cases hg; exact h2
theorem OwnSo.uLo (h : OwnSo w lo a n c us ts) : ∀ g, SSS a n us g → lo ≤ g := fun g hg => by
  rcases hg with hg | ⟨i, hi, hg⟩
  · exact h.low g hg
  · exact (h.tab i hi).uLo g hg
theorem OwnSo.uHi (h : OwnSo w lo a n c us ts) : ∀ g, SSS a n us g → g < w.heap.size := fun g hg => by
  rcases hg with hg | ⟨i, hi, hg⟩
  · exact h.high g hg
  · exact (h.tab i hi).uHi g hg
theorem OwnSo.keep (h : OwnSo w lo a n c us ts) (hk : ∀ g, SSS a n us g → g < w.heap.size → w'.heap[g]? = w.heap[g]?) : OwnSo w' lo a n c us ts := by
  refine ⟨h.len, h.ulen, ?_, fun i hi => OwnPV.keep (h.tab i hi) fun g hg hlt => hk g (.inr ⟨i, hi, hg⟩) hlt, h.ap, h.pw⟩
  rcases h.block with ⟨h1, h2, h3⟩ | ⟨g, cur, h1, h2, h3, h4, h5, h6, h7⟩
  · subst h1 h2 h3
    have : us = [] := List.eq_nil_of_length_eq_zero h.ulen
    subst this; exact World.ownsRow_nil _ _ _ _
  · subst h1
    exact ownsRowSo_mk h.ulen h2 ((hk g (.inl rfl) h3.lt).trans h3) h4 h5 h6 h7
theorem OwnSo.below (h : OwnSo w lo a n c us ts) (hb : Below w.heap.size w w') : OwnSo w' lo a n c us ts := h.keep fun g _ hlt => hb.block g hlt
theorem OwnSo.alloc (h : OwnSo w lo a n c us ts) (o : Obj) : OwnSo (w.alloc o) lo a n c us ts := h.below ((Below.refl _ _).alloc (Nat.le_refl _) o)
theorem OwnSo.drewN (h : OwnSo w lo a n c us ts) (k : Nat) : OwnSo (w.drewN k) lo a n c us ts := h.keep fun _ _ _ => rfl
theorem OwnSo.mono {lo' : Nat} (h : OwnSo w lo a n c us ts) (hl : lo' ≤ lo) : OwnSo w lo' a n c us ts := by
  refine ⟨h.len, h.ulen, ?_, fun i hi => (h.tab i hi).mono hl, h.ap, h.pw⟩
  rcases h.block with ⟨h1, h2, h3⟩ | ⟨g, cur, h1, h2, h3, h4, h5, h6, h7⟩
  · subst h1 h2 h3
    have : us = [] := List.eq_nil_of_length_eq_zero h.ulen
    subst this; exact World.ownsRow_nil _ _ _ _
  · subst h1; exact ownsRowSo_mk h.ulen (Nat.le_trans hl h2) h3 h4 h5 h6 h7
theorem OwnSo.setlo (h : OwnSo w lo a n c us ts) {p : Addr} (hp : p.block < lo) (u : Value) : OwnSo (w.setCell p u) lo a n c us ts :=
  h.keep fun g hg _ => Below.heap_setCell _ _ _ _ (by have := h.uLo g hg; omega)
theorem OwnSo.marked (h : OwnSo w lo a n c us ts) {S : Nat → Prop} (hm : Marked S w w') (hS : ∀ g, SSS a n us g → ¬ S g) : OwnSo w' lo a n c us ts := h.keep fun g hg hlt => hm.block g hlt (hS g hg)
theorem OwnSo.cap (h : OwnSo w lo a n c us ts) : n ≤ c ∧ c ≤ 9223372036854775807 := by
  rcases h.block with ⟨_, h1, h2⟩ | ⟨g', cur, h1, h2, h3, h4, h5, _⟩
  · omega
  · unfold maxLen at h5; omega
theorem OwnSo.cells (h : OwnSo w lo a n c us ts) (hn : 0 < n) : ∃ g, a = some ⟨g, 0, none⟩ ∧ g < w.heap.size ∧ (∀ i, i < n → w.cell? ⟨g, i * 2, none⟩ = some (slT (us.getD i pvO).1) ∧ w.cell? ⟨g, i * 2 + 1, none⟩ = some (slT (us.getD i pvO).2)) ∧ ∀ i, w.frozen? ⟨g, i, none⟩ = false := by
  rcases h.block with ⟨h1, h2, h3⟩ | ⟨g, cur, h1, h2, h3, h4, h5, h6, h7⟩
  · omega
  · refine ⟨g, h1, h3.lt, fun i hi => ?_, fun i => h3.free i⟩
    have hxi : i < us.length := by have := h.ulen; omega
    have hg := flS_get us i hxi
    have hx : ∀ k, k < n * 2 → cur[k]? = (flS us)[k]? := fun k hk => by
      rw [← h7, List.getElem?_take, if_pos hk]; simp
    exact ⟨h3.cell _ ((hx _ (by omega)).trans hg.1), h3.cell _ ((hx _ (by omega)).trans hg.2)⟩
theorem OwnSo.ownBlk (h : OwnSo w lo a n c us ts) {g : Nat} (e : (Value.slice a n c).ownBlock = some g) : a = some ⟨g, 0, none⟩ := by
  rcases h.block with ⟨r1, _⟩ | ⟨g2, cur, r1, _⟩
  · subst r1; simp [Value.ownBlock] at e
  · subst r1; simp [Value.ownBlock] at e; subst e; rfl
theorem OwnSo.snoc {o : Obj} {g cap : Nat} {u : PV} {t : T2} (h : OwnSo w lo a n c us ts) (hv : OwnPV w lo u t) (h1 : ∀ q, PvS u q → ¬ SSS a n us q)
    (ho : w'.ownsRow lo 53 2 (.slice (some ⟨g, 0, none⟩) (n + 1) cap) (n + 1) (flS us ++ [slT u.1, slT u.2]))
    (hg : w.grownBy w' (Value.slice a n c).ownBlock) (hat : (Value.slice a n c).ownBlock = some g ∨ w.heap.size ≤ g) : OwnSo w' lo (some ⟨g, 0, none⟩) (n + 1) cap (us ++ [u]) (ts ++ [t]) := by
  have hl := h.len
  have hul := h.ulen
  have gl : ∀ i, i < n → (us ++ [u]).getD i pvO = us.getD i pvO := fun i hi => by simp [List.getD_eq_getElem?_getD, List.getElem?_append_left (show i < us.length by omega)]
  have gn : (us ++ [u]).getD n pvO = u := by rw [← hul]; simp [List.getD_eq_getElem?_getD]
  have xl : ∀ i, i < n → (ts ++ [t]).getD i t2O = ts.getD i t2O := fun i hi => by simp [List.getD_eq_getElem?_getD, List.getElem?_append_left (show i < ts.length by omega)]
  have xn : (ts ++ [t]).getD n t2O = t := by rw [hl]; simp [List.getD_eq_getElem?_getD]
  have keepR : ∀ i, i < n → OwnPV w' lo (us.getD i pvO) (ts.getD i t2O) := fun i hi => OwnPV.keep (h.tab i hi) fun q hq hlt => hg.block q hlt fun e => h.ap i hi q (h.ownBlk e.symm) hq
  have keepV : OwnPV w' lo u t := OwnPV.keep hv fun q hq hlt => hg.block q hlt fun e => h1 q hq (.inl (h.ownBlk e.symm))
  refine ⟨by simp [hl], by simp [hul], by rw [flS_snoc]; exact ho, fun i hi => ?_, fun i hi q hq hs => ?_, fun i j hi hj hij q h3 h4 => ?_⟩
  · by_cases e : i < n
    · rw [gl i e, xl i e]; exact keepR i e
    · obtain rfl : i = n := by omega
      rw [gn, xn]; exact keepV
  · cases hq
    by_cases e : i < n
    · rw [gl i e] at hs
      rcases hat with hat | hat
      · exact h.ap i e g (h.ownBlk hat) hs
      · have := (h.tab i e).uHi g hs; omega
    · obtain rfl : i = n := by omega
      rw [gn] at hs
      rcases hat with hat | hat
      · exact h1 g hs (.inl (h.ownBlk hat))
      · have := OwnS.uHi hv g hs; omega
  · by_cases e : i < n
    · rw [gl i e] at h3
      by_cases e' : j < n
      · rw [gl j e'] at h4; exact h.pw i j e e' hij q h3 h4
      · obtain rfl : j = n := by omega
        rw [gn] at h4; exact h1 q h4 (.inr ⟨i, e, h3⟩)
    · obtain rfl : i = n := by omega
      rw [gn] at h3
      have e' : j < i := by omega
      rw [gl j e'] at h4; exact h1 q h3 (.inr ⟨j, e', h4⟩)
end
theorem wp_appSo {o : Oper} {a : Act} {K : Act → World → Prop} {Q : Exit → Act → World → Prop} {w : World} {s x : Operand}
    (ho : o.op = .call { callee := .builtin .append, args := #[s, x], argTypes := #[45, 45] }) {lo : Nat} {ad : Option Addr} {n c : Nat} {us : List PV} {ts : List T2} (hown : OwnSo w lo ad n c us ts) (hs : a.eval s = .slice ad n c)
    {va : Option Addr} {vn vc : Nat} {vv : List SV} {t : List (List Int)} {vb : Option Addr} {vm vd : Nat} {vz : List SV} {s' : List (List Int)} {ty : TypeId} (hv : OwnS w lo va vn vc vv t vb vm vd vz s') (h1 : ∀ q, SolS va vn vv vb vm vz q → ¬ SSS ad n us q) (hx : a.eval x = .slice (some ⟨w.heap.size, 0, none⟩) 1 1) (hlen : n + 1 ≤ 1000000000000) (hlo : lo ≤ w.heap.size)
    (h : ∀ g c' w', OwnSo w' lo (some ⟨g, 0, none⟩) (n + 1) c' (us ++ [(((va, vn, vc), vv), ((vb, vm, vd), vz))]) (ts ++ [(t, s')]) → w.grownBy w' (Value.slice ad n c).ownBlock → ((Value.slice ad n c).ownBlock = some g ∨ w.heap.size ≤ g) → Below lo w w' → K (a.put o.dst (.slice (some ⟨g, 0, none⟩) (n + 1) c')) w') :
    Oper.wp Tryz.prog o a (w.alloc (.cells #[.slice va vn vc, .slice vb vm vd] ty)) K Q := by
  obtain ⟨i0, hi, hz0, hz1, hz2⟩ := info_parts info_So
  refine wp_append_lies _ s x 45 ho lo 53 i0 (.agg #[.slice none 0 0, .slice none 0 0]) 2 48 und_So hi hz0 hz1 hz2 rfl (by decide) _ n (flS us) hs (hown.hdr.alloc _) ⟨w.heap.size, 0, none⟩ 1 1 [.slice va vn vc, .slice vb vm vd] hx rfl (cell_two_new _ _ _ _) ?_ (by omega) ?_ ?_ ?_ (w.heap.size + 1) (by simp) ?_
  · intro u hu; simp at hu; rcases hu with hu | hu <;> subst hu <;> rfl
  · unfold maxLen; omega
  · omega
  · simp; omega
  · intro g cap w' ho' hg hat hlt
    have hg' : w.grownBy w' (Value.slice ad n c).ownBlock := by
      have h1 := World.grownBy_alloc w (.cells #[.slice va vn vc, .slice vb vm vd] ty) (Value.slice ad n c).ownBlock
      exact ⟨hg.os.trans h1.os, hg.tape.trans h1.tape, hg.output.trans h1.output, Nat.le_trans h1.size hg.size, fun k hk hn => (hg.block k (Nat.lt_of_lt_of_le hk h1.size) hn).trans (h1.block k hk hn)⟩
    have hat' : (Value.slice ad n c).ownBlock = some g ∨ w.heap.size ≤ g := by
      rcases hat with hat | hat
      · exact .inl hat
      · exact .inr (by omega)
    exact h g cap w' (hown.snoc (o := .cells #[] ty) (u := (((va, vn, vc), vv), ((vb, vm, vd), vz))) (t := (t, s')) hv h1 ho' hg' hat') hg' hat' ((Below.refl _ _).grown hg' hlo (fun k hk => (World.ownsRow.lt hown.hdr k hk).1))
theorem appSo {ops : Array Oper} {rest : List Oper} {o : Oper} {a : Act} {Q : Exit → Act → World → Prop} {w : World} (hgd : o.guard = none) {s x : Operand}
    (ho : o.op = .call { callee := .builtin .append, args := #[s, x], argTypes := #[45, 45] }) {lo : Nat} {ad : Option Addr} {n c : Nat} {us : List PV} {ts : List T2} (hown : OwnSo w lo ad n c us ts) (hs : a.eval s = .slice ad n c)
    {va : Option Addr} {vn vc : Nat} {vv : List SV} {t : List (List Int)} {vb : Option Addr} {vm vd : Nat} {vz : List SV} {s' : List (List Int)} {ty : TypeId} (hv : OwnS w lo va vn vc vv t vb vm vd vz s') (h1 : ∀ q, SolS va vn vv vb vm vz q → ¬ SSS ad n us q) (hx : a.eval x = .slice (some ⟨w.heap.size, 0, none⟩) 1 1) (hlen : n + 1 ≤ 1000000000000) (hlo : lo ≤ w.heap.size)
    (h : ∀ g c' w', OwnSo w' lo (some ⟨g, 0, none⟩) (n + 1) c' (us ++ [(((va, vn, vc), vv), ((vb, vm, vd), vz))]) (ts ++ [(t, s')]) → w.grownBy w' (Value.slice ad n c).ownBlock → ((Value.slice ad n c).ownBlock = some g ∨ w.heap.size ≤ g) → Below lo w w' → wpList Tryz.prog ops Q rest (a.put o.dst (.slice (some ⟨g, 0, none⟩) (n + 1) c')) w') :
    wpList Tryz.prog ops Q (o :: rest) a (w.alloc (.cells #[.slice va vn vc, .slice vb vm vd] ty)) :=
  wpList_plain hgd fun _ hK => wp_appSo ho hown hs hv h1 hx hlen hlo fun g c' w' a b c d => hK _ _ (h g c' w' a b c d)
theorem step_appSon {ops : Array Oper} {o : Oper} {a : Act} {K : Act → World → Prop} {Q : Exit → Act → World → Prop} {E : Prop} {w : World} (hgd : o.guard = none) {s x : Operand}
    (ho : o.op = .call { callee := .builtin .append, args := #[s, x], argTypes := #[45, 45] }) {lo : Nat} {ad : Option Addr} {n c : Nat} {us : List PV} {ts : List T2} (hown : OwnSo w lo ad n c us ts) (hs : a.eval s = .slice ad n c)
    {va : Option Addr} {vn vc : Nat} {vv : List SV} {t : List (List Int)} {vb : Option Addr} {vm vd : Nat} {vz : List SV} {s' : List (List Int)} {ty : TypeId} (hv : OwnS w lo va vn vc vv t vb vm vd vz s') (h1 : ∀ q, SolS va vn vv vb vm vz q → ¬ SSS ad n us q) (hx : a.eval x = .slice (some ⟨w.heap.size, 0, none⟩) 1 1) (hlen : n + 1 ≤ 1000000000000) (hlo : lo ≤ w.heap.size)
    (h : ∀ g c' w', OwnSo w' lo (some ⟨g, 0, none⟩) (n + 1) c' (us ++ [(((va, vn, vc), vv), ((vb, vm, vd), vz))]) (ts ++ [(t, s')]) → w.grownBy w' (Value.slice ad n c).ownBlock → ((Value.slice ad n c).ownBlock = some g ∨ w.heap.size ≤ g) → Below lo w w' → K (a.put o.dst (.slice (some ⟨g, 0, none⟩) (n + 1) c')) w') :
    if Region.wanted o (yielded ops a.tmps) = true then Oper.wp Tryz.prog o a (w.alloc (.cells #[.slice va vn vc, .slice vb vm vd] ty)) K Q else E := by
  have hw : Region.wanted o (yielded ops a.tmps) = true := by simp [Region.wanted, hgd]
  rw [if_pos hw]
  exact wp_appSo ho hown hs hv h1 hx hlen hlo h
end Go.Proofs.YtaddclaadbjnlaaGreat
