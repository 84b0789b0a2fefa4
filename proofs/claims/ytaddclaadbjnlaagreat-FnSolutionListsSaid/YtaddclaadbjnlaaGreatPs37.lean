/-
  Walks and plain laws of this seat, some texts in one.
  No condition but bounds on lengths.
-/
import Derived.Test.YtaddclaadbjnlaaGreatPs36
import Derived.Test.YtaddclaadbjnlaaGreatPs20
import Derived.Test.YtaddclaadbjnlaaGreatPs31
import Derived.Test.YtaddclaadbjnlaaGreatPs30
import Derived.Test.YtaddclaadbjnlaaGreatPs28
import Derived.Test.YtaddclaadbjnlaaGreatPs13
import Derived.Shelf.Abstract
namespace Go.Proofs.YtaddclaadbjnlaaGreat
set_option maxRecDepth 100000
set_option linter.unusedVariables false
set_option linter.unusedSimpArgs false
open Go.RowKit
def colL (n : Nat) (t : List (List Int)) (y : Nat) : List Int := (List.range n).map fun x => ((tv t x y : Nat) : Int)
theorem colL_succ (k : Nat) (t : List (List Int)) (y : Nat) : colL (k + 1) t y = colL k t y ++ [((tv t k y : Nat) : Int)] := by simp [colL, List.range_succ]
theorem trnL_col (n : Nat) (t : List (List Int)) : trnL n t = (List.range n).map fun y => colL n t y := rfl
set_option maxHeartbeats 2000000 in
theorem l01Column_any (n y : Nat) (at_ : Option Addr) (ct : Nat) (t : List (List Int)) (w : World) (h1 : Tbl w at_ n t) (hs : Sq n t) (hn1 : 1 ≤ n) (hn : n ≤ 12) (hy : y < n) :
    Calls Tryz.prog 122 #[.slice at_ n ct, .int .i64 y] w fun e w' => ∃ a c, e = .returned (.slice a n c) ∧ Own w' w.heap.size a n c (colL n t y) ∧ Below w.heap.size w w' := by
  obtain ⟨b, off, A, O, C, rfl, G⟩ := h1.grid hs hn1
  clear h1
  have hO : Own (w.alloc (.cells #[] 2)) w.heap.size (some ⟨w.heap.size, 0, none⟩) 0 0 [] := Own.mk rfl (Nat.le_refl _) (Loc.new w rfl _ _) (Nat.le_refl _) (by unfold maxLen; omega) rfl rfl
  have hB := below_al (Below.refl w.heap.size w) (.cells #[] 2)
  go_enter Tryz.func122, Tryz.ntmps122
  go_wp2
  go_loopw [5, 6] (fun z i wr => ∃ (k : Nat) (az : Option Addr) (cz : Nat), k ≤ n ∧ i = .int .i64 k ∧ z = .slice az k cz ∧ Own wr w.heap.size az k cz (colL k t y) ∧ Below w.heap.size w wr) (fun _ i _ => n - (intOf i).toNat)
  case atStart => exact ⟨0, _, 0, Nat.zero_le _, rfl, rfl, hO, hB⟩
  case round =>
    clear hO hB
    obtain ⟨k, az, cz, hk, rfl, rfl, ho, hb⟩ := hrel
    by_cases hlt : k < n
    · obtain ⟨r1, k1⟩ := (G.below hb).look hlt hy
      obtain ⟨v, HV⟩ : ∃ v, Hid (tv t k y = v) := ⟨_, rfl⟩
      rw [HV.out] at k1
      have HCC : Hid (colL (k + 1) t y = colL k t y ++ [((v : Nat) : Int)]) := Lib.hid (by rw [colL_succ, HV.out])
      have i1 : (0 : Int) ≤ (k : Int) := by omega
      have i2 : (k : Int) < (n : Int) := by omega
      have i3 : (0 : Int) ≤ (y : Int) := by omega
      have i4 : (y : Int) < (n : Int) := by omega
      have hbz := hb.size
      go_wp2_with (at_builtin; refine app1 rfl rfl ho rfl rfl (by omega) hbz ?_; intro g' cc w8 hO8 hg8 hs8 hb8)
      go_roundw
      case rel => exact ⟨k + 1, _, cc, by omega, by go_num, rfl, by rw [HCC.out]; exact hO8, hb.trans hb8⟩
      case measure => simp [intOf]; omega
    · obtain rfl : k = n := by omega
      go_wp2
      go_ret
      exact ⟨az, cz, rfl, ho, hb⟩
set_option maxHeartbeats 2000000 in
theorem l01Turn_any (n : Nat) (at_ : Option Addr) (ct : Nat) (t : List (List Int)) (w : World) (h1 : Tbl w at_ n t) (hs : Sq n t) (hn1 : 1 ≤ n) (hn : n ≤ 12) :
    Calls Tryz.prog 146 #[.slice at_ n ct] w fun e w' => ∃ a c vs, e = .returned (.slice a n c) ∧ OwnT w' w.heap.size a n c vs (trnL n t) ∧ Below w.heap.size w w' := by
  have HS := Lib.hid hs; clear hs
  have HT : Hid (trnL n t = (List.range n).map fun y => colL n t y) := Lib.hid rfl
  have hO := OwnT.fresh w rfl
  have hB := below_al (Below.refl w.heap.size w) (.cells #[] 41)
  go_enter Tryz.func146, Tryz.ntmps146
  go_wp2
  go_loopw [3, 4] (fun z i wr => ∃ (k : Nat) (az : Option Addr) (cz : Nat) (vz : List SV), k ≤ n ∧ i = .int .i64 k ∧ z = .slice az k cz ∧ OwnT wr w.heap.size az k cz vz ((List.range k).map fun y => colL n t y) ∧ Below w.heap.size w wr) (fun _ i _ => n - (intOf i).toNat)
  case atStart => exact ⟨0, _, 0, _, Nat.zero_le _, rfl, rfl, by simpa using hO, hB⟩
  case round =>
    clear hO hB
    obtain ⟨k, az, cz, vz, hk, rfl, rfl, ho, hb⟩ := hrel
    by_cases hlt : k < n
    · have HK : Hid (((List.range (k + 1)).map fun y => colL n t y) = ((List.range k).map fun y => colL n t y) ++ [colL n t k]) := Lib.hid (by simp [List.range_succ])
      go_wp2_with fail
      refine (l01Column_any n k _ _ t _ (h1.below hb) HS.out hn1 hn hlt).mono ?_
      rintro e w1 ⟨a1, c1, rfl, ho1, hb1⟩
      have hbb := hb.size
      have hz1 := ho.below hb1
      have hq1 := below_th hb hb1
      have hs1 := hb1.size
      go_wp2_with (at_builtin; refine appT1 rfl rfl hz1 rfl (ho1.mono hbb) (fun g h1 h2 => by have h3 := ho.high _ h1; have h4 := ho1.lo _ h2; omega) (fun i hi g h1 h2 => by have h3 := ho1.lo _ h1; have h4 := (ho.row i hi).hi _ h2; omega) rfl (by omega) (by omega) ?_; intro g' cc w2 hO hb2)
      go_roundw
      case rel => exact ⟨k + 1, _, _, _, by omega, by go_num, rfl, by rw [HK.out]; exact hO, hq1.trans hb2⟩
      case measure => simp [intOf]; omega
    · obtain rfl : k = n := by omega
      go_wp2
      go_ret
      exact ⟨_, _, vz, rfl, by rw [HT.out]; exact ho, hb⟩
structure LEl (w : World) (v : SV) (us : List TV) (p : List (List Int) × List (List Int)) : Prop where
  own : OwnTT w 0 v.1 2 v.2.2 us [p.1, p.2]
  len : v.2.1 = 2
structure LsT (w : World) (lo : Nat) (a : Option Addr) (n c : Nat) (vs : List SV) (uss : List (List TV)) (L : List (List (List Int) × List (List Int))) : Prop where
  hd : Hq w lo a n c vs
  len : n = L.length
  ulen : uss.length = n
  el : ∀ i, i < n → LEl w (vs.getD i svO) (uss.getD i []) (L.getD i ([], []))
  ap : ∀ i, i < n → ∀ g, a = some ⟨g, 0, none⟩ → ¬ TTS (vs.getD i svO).1 2 (uss.getD i []) g
section
variable {w w' : World} {lo : Nat} {a : Option Addr} {n c : Nat} {vs : List SV} {uss : List (List TV)} {L : List (List (List Int) × List (List Int))} {v : SV} {us : List TV} {p : List (List Int) × List (List Int)}
theorem LEl.below (h : LEl w v us p) (hb : Below w.heap.size w w') : LEl w' v us p := ⟨h.own.below hb, h.len⟩
theorem LsT.below (h : LsT w lo a n c vs uss L) (hb : Below w.heap.size w w') : LsT w' lo a n c vs uss L := ⟨h.hd.below hb, h.len, h.ulen, fun i hi => (h.el i hi).below hb, h.ap⟩
theorem LsT.mono {lo' : Nat} (h : LsT w lo a n c vs uss L) (hl : lo' ≤ lo) : LsT w lo' a n c vs uss L := ⟨h.hd.mono hl, h.len, h.ulen, h.el, h.ap⟩
theorem LsT.fresh (w : World) {b : Nat} (hb : b = w.heap.size) : LsT (w.alloc (.cells #[] 70)) w.heap.size (some ⟨b, 0, none⟩) 0 0 [] [] [] :=
  ⟨Hq.fresh w hb, rfl, rfl, fun i h => absurd h (by omega), fun i h => absurd h (by omega)⟩
theorem LsT.blk (h : LsT w lo a n c vs uss L) : ∀ q, (Value.slice a n c).ownBlock = some q → a = some ⟨q, 0, none⟩ := fun q hq => by
  rcases h.hd.block with ⟨h1, h2, h3⟩ | ⟨g', cur, h1, _⟩
  · rw [h1] at hq; cases hq
  · rw [h1] at hq; simp [Value.ownBlock] at hq; subst hq; exact h1
theorem LsT.snoc {g cap : Nat} (h : LsT w lo a n c vs uss L) (hv : LEl w v us p) (hne : ∀ q, a = some ⟨q, 0, none⟩ → ¬ TTS v.1 2 us q)
    (ho : Hq w' lo (some ⟨g, 0, none⟩) (n + 1) cap (vs ++ [v])) (hg : w.grownBy w' (Value.slice a n c).ownBlock) (hat : (Value.slice a n c).ownBlock = some g ∨ w.heap.size ≤ g) : LsT w' lo (some ⟨g, 0, none⟩) (n + 1) cap (vs ++ [v]) (uss ++ [us]) (L ++ [p]) := by
  have hob := h.blk
  have hl := h.len
  have hvl := h.hd.1
  have hul := h.ulen
  have gl : ∀ i, i < n → (vs ++ [v]).getD i svO = vs.getD i svO := fun i hi => by simp [List.getD_eq_getElem?_getD, List.getElem?_append_left (show i < vs.length by omega)]
  have gn : (vs ++ [v]).getD n svO = v := by rw [← hvl]; simp [List.getD_eq_getElem?_getD]
  have ul : ∀ i, i < n → (uss ++ [us]).getD i [] = uss.getD i [] := fun i hi => by simp [List.getD_eq_getElem?_getD, List.getElem?_append_left (show i < uss.length by omega)]
  have un : (uss ++ [us]).getD n [] = us := by rw [← hul]; simp [List.getD_eq_getElem?_getD]
  have yl : ∀ i, i < n → (L ++ [p]).getD i ([], []) = L.getD i ([], []) := fun i hi => by simp [List.getD_eq_getElem?_getD, List.getElem?_append_left (show i < L.length by omega)]
  have yn : (L ++ [p]).getD n ([], []) = p := by rw [hl]; simp [List.getD_eq_getElem?_getD]
  have keep : ∀ (u : SV) (z : List TV) (q : List (List Int) × List (List Int)), LEl w u z q → (∀ b, a = some ⟨b, 0, none⟩ → ¬ TTS u.1 2 z b) → LEl w' u z q := fun u z q hu hne => ⟨hu.own.keep fun b hb hlt => hg.block b hlt fun e => hne b (hob b e.symm) hb, hu.len⟩
  refine ⟨ho, by simp [hl], by simp [hul], fun i hi => ?_, fun i hi q hq => ?_⟩
  · by_cases e : i < n
    · rw [gl i e, yl i e, ul i e]; exact keep _ _ _ (h.el i e) (h.ap i e)
    · obtain rfl : i = n := by omega
      rw [gn, yn, un]; exact keep _ _ _ hv hne
  · cases hq
    have fin : ∀ (u : SV) (z : List TV) (q : List (List Int) × List (List Int)), LEl w u z q → (∀ b, a = some ⟨b, 0, none⟩ → ¬ TTS u.1 2 z b) → ¬ TTS u.1 2 z g := fun u z q hu hne e => by
      rcases hat with hat | hat
      · exact hne g (hob g hat) e
      · have := hu.own.uHi g e; omega
    by_cases e : i < n
    · rw [gl i e, ul i e]; exact fin _ _ _ (h.el i e) (h.ap i e)
    · obtain rfl : i = n := by omega
      rw [gn, un]; exact fin _ _ _ hv hne
theorem LEl.lit {b : Nat} (hb : b = w.heap.size) {a1 a2 : Option Addr} {n1 c1 n2 c2 : Nat} {v1 v2 : List SV} {t1 t2 : List (List Int)} (h1 : OwnT w 0 a1 n1 c1 v1 t1) (h2 : OwnT w 0 a2 n2 c2 v2 t2) (hd : ∀ g, TblS a1 n1 v1 g → ¬ TblS a2 n2 v2 g) :
    LEl (w.alloc (.cells #[.slice a1 n1 c1, .slice a2 n2 c2] 32)) (some ⟨b, 0, none⟩, 2, 2) [((a1, n1, c1), v1), ((a2, n2, c2), v2)] (t1, t2) := by
  refine ⟨⟨rfl, rfl, ownsRowT_mk rfl (Nat.zero_le _) (Loc.new w hb _ _) (Nat.le_refl _) (by show 2 ≤ maxLen; unfold maxLen; omega) rfl rfl, fun i hi => ?_, fun i hi g hg => ?_, fun i j hi hj hij g hg => ?_⟩, rfl⟩
  · match i, hi with
    | 0, _ => exact h1.alloc _
    | 1, _ => exact h2.alloc _
  · cases hg
    match i, hi with
    | 0, _ => intro hs; have := h1.uHi _ hs; omega
    | 1, _ => intro hs; have := h2.uHi _ hs; omega
  · match i, j, hi, hj with
    | 0, 0, _, _ => exact absurd rfl hij
    | 0, 1, _, _ => exact hd g hg
    | 1, 0, _, _ => exact fun h => hd g h hg
    | 1, 1, _, _ => exact absurd rfl hij
end
attribute [local go_sem] Oper.semAt_some
theorem isomorphisms_any (a1 a2 : Option Addr) (n1 c1 n2 c2 : Nat) (w : World) :
    Calls Tryz.prog 47 #[.slice a1 n1 c1, .slice a2 n2 c2] w fun e w' => e = .returned (.func (.func 94) #[] #[.pointer (some ⟨w.heap.size, 0, none⟩), .pointer (some ⟨w.heap.size + 1, 0, none⟩)]) ∧
      Loc w' w.heap.size #[.slice a1 n1 c1] 70 ∧ Loc w' (w.heap.size + 1) #[.slice a2 n2 c2] 70 ∧ Below w.heap.size w w' := by
  have hA := (Loc.new w rfl #[.slice a1 n1 c1] 70).alloc (.cells #[.slice a2 n2 c2] 70)
  have hB := Loc.new (b := w.heap.size + 1) (w.alloc (.cells #[.slice a1 n1 c1] 70)) (by simp) #[.slice a2 n2 c2] 70
  have hb := below_al (below_al (Below.refl w.heap.size w) (.cells #[.slice a1 n1 c1] 70)) (.cells #[.slice a2 n2 c2] 70)
  go_enter Tryz.func47, Tryz.ntmps47
  go_wp2
  go_ret
  exact ⟨rfl, hA, hB, hb⟩
def isoPost (S0 : Nat → Prop) (D : Nat) (I Is : (Nat → Prop) → List (List Int) → World → Prop) (S : Nat → Prop) (ys : List (List Int)) (W : World) : Exit → Act → World → Prop
  | .normal, _, W' => I S ys W' ∧ Marked (fun g => S0 g ∨ (D + 2 ≤ g ∧ ¬ S g)) W W'
  | .ret, _, W' => Is S ys W' ∧ Marked (fun g => S0 g ∨ (D + 2 ≤ g ∧ ¬ S g)) W W'
  | .exit _, _, _ => False
  | .goto _, _, _ => False
  | .panic _, _, _ => False
  | .outgrown, _, _ => False
def IOk (D : Nat) (I : (Nat → Prop) → List (List Int) → World → Prop) : Prop :=
  ∀ S S' ys A B, I S ys A → Marked (fun g => S g ∨ g = D + 1) A B → (∀ g, S' g → S g ∨ A.heap.size ≤ g) → I S' ys B
theorem TB.later2 {S0 S1 : Nat → Prop} {w W : World} {g K n : Nat} {BB OO CC : Nat → Nat} {A O C : Nat → Nat → Nat} {ts : List (List (List Int))} (h : TB S0 w g K n BB OO CC A O C ts) (hm : Below w.heap.size w W) (hS : ∀ g, S1 g → S0 g ∨ w.heap.size ≤ g) : TB S1 W g K n BB OO CC A O C ts :=
  ⟨h.len, fun w' q => h.cell w' ((Marked.ofB hm).then q hS), fun w' q => h.grid w' ((Marked.ofB hm).then q hS), h.sq⟩
theorem wpIn_rangeFunc_iso {n m : Nat} {g : Operand} {ps : Array Tmp} {assign body : Code} {Q : Exit → Act → World → Prop} {a : Act} {w : World}
    (B1 B2 : Nat) (hg : a.eval g = .func (.func 94) #[] #[.pointer (some ⟨B1, 0, none⟩), .pointer (some ⟨B2, 0, none⟩)])
    (eg : ∀ args w, (callFunc 94 args).run Tryz.prog w = .ok (.enter 94 args) w)
    {S0 : Nat → Prop} {gf gt K kf kt : Nat} {ts us : List (List (List Int))} (BB OO CC DB DO DC : Nat → Nat) (AA AO AC EA EO EC : Nat → Nat → Nat) (hT : TB S0 w gf K n BB OO CC AA AO AC ts) (hU : TB S0 w gt K n DB DO DC EA EO EC us) (hn1 : 1 ≤ n) (hn : n ≤ 12) (hK1 : 1 ≤ K) (hK : K ≤ 2) (h0 : ∀ g, S0 g → g < w.heap.size)
    (hB1 : Loc w B1 #[.slice (some ⟨gf, 0, none⟩) K kf] 70) (hB2 : Loc w B2 #[.slice (some ⟨gt, 0, none⟩) K kt] 70)
    (hps : ps.size = 1) (I Is : (Nat → Prop) → List (List Int) → World → Prop) (hI : IOk w.heap.size I) (hIs : IOk w.heap.size Is)
    (hI0 : ∀ S A, (∀ g, S g → w.heap.size + 2 ≤ g ∧ g < A.heap.size) → Below w.heap.size w A → I S [] A)
    (a₁ : Nat → Act)
    (hassign : ∀ (l n' b : Nat) (W : World) (Kc : Act → World → Prop), Kc (a₁ b) W →
      assign.wpIn (Fence.wide.inRound l) n' Tryz.prog (Exit.then Kc (fun _ _ _ => False)) { tmps := (ps.zip #[.slice (some ⟨b, 0, none⟩) n n]).foldl (fun t (p, v) => t.setIfInBounds p v) a.tmps, defers := [] } W)
    (hbody : ∀ (l n' b : Nat) (S : Nat → Prop) (ys : List (List Int)) (im : List Int) (W : World), I S ys W → (IsoL n ts us im ∧ im ∉ ys) → S b → Own W (w.heap.size + 2) (some ⟨b, 0, none⟩) n n im → (∀ g, S g → w.heap.size + 2 ≤ g ∧ g < W.heap.size) → Marked (fun g => S0 g ∨ w.heap.size ≤ g) w W →
      body.wpIn (Fence.wide.inRound l) n' Tryz.prog (isoPost S0 w.heap.size I Is S (ys ++ [im]) W) (a₁ b) W)
    (hdone : ∀ (S : Nat → Prop) (Y : List (List Int)) (W : World), YA n ts us Y → I S Y W → W.heap[w.heap.size]? = some (.deferred (some [])) → Q .normal { a with defers := { target := .collected w.heap.size, args := #[] } :: a.defers } W)
    (hstop : ∀ (S : Nat → Prop) (Z : List (List Int)) (W : World), Is S Z W → W.heap[w.heap.size]? = some (.deferred (some [])) → Q .ret { a with defers := { target := .collected w.heap.size, args := #[] } :: a.defers } W) :
    (Code.rangeFunc g ps assign body).wpIn Fence.wide m Tryz.prog Q a w := by
  refine wpIn_rangeFunc ?_
  intro fn hfn
  obtain ⟨rec, hrec⟩ : ∃ rec : LoopState → Option Code → Loop, rec = fun st pe => { state := st, pending := pe, fn, tmps := a.tmps, params := ps, assign, body, defers := w.heap.size } := ⟨_, rfl⟩
  obtain ⟨W1, hW1⟩ : ∃ W1, (w.alloc (.deferred (some []))).alloc (.loop (rec .ready none)) = W1 := ⟨_, rfl⟩
  have hsz1 : W1.heap.size = w.heap.size + 2 := by rw [← hW1]; simp
  have hL1 : W1.heap[w.heap.size + 1]? = some (.loop (rec .ready none)) := by
    rw [← hW1]; have := World.alloc_heap_new (w.alloc (.deferred (some []))) (.loop (rec .ready none)); rwa [World.size_alloc] at this
  have hK1' : W1.heap[w.heap.size]? = some (.deferred (some [])) := by
    rw [← hW1]; exact (Below.heap_alloc _ _ _ (by simp)).trans (World.alloc_heap_new w _)
  have hbw : Below w.heap.size w W1 := by
    rw [← hW1]; exact ((Below.refl _ w).alloc (Nat.le_refl _) _).alloc (by simp) _
  have hkeep : ∀ {S : Nat → Prop} {A B : World} {k : Nat} {o : Obj}, Marked S A B → ¬ S k → A.heap[k]? = some o → B.heap[k]? = some o := fun hm hne h =>
    (hm.block _ (Array.getElem?_eq_some_iff.1 h).1 hne).trans h
  have hput : ∀ (A : World) (o : Obj), Marked (fun g => g = w.heap.size + 1) A (A.putObj (w.heap.size + 1) o) := fun A o =>
    ⟨rfl, rfl, rfl, by simp, fun k hk hs => World.putObj_heap_other hs⟩
  have h01 : ∀ g, (S0 g ∨ g = w.heap.size + 1) → g < W1.heap.size := fun g hg => by
    rcases hg with hg | hg
    · have := h0 g hg; omega
    · omega
  have hS1 : ∀ g, (S0 g ∨ g = w.heap.size + 1) → S0 g ∨ w.heap.size ≤ g := fun g hg => hg.imp id fun e => by omega
  refine ⟨w.heap.size + 1, [{ target := .collected w.heap.size, args := #[] }], W1, { target := .fn (.func 94) #[.pointer (some ⟨B1, 0, none⟩), .pointer (some ⟨B2, 0, none⟩)], args := #[.func (.yield (w.heap.size + 1)) #[] #[]] }, W1, 94,
    #[.func (.yield (w.heap.size + 1)) #[] #[]] ++ #[.pointer (some ⟨B1, 0, none⟩), .pointer (some ⟨B2, 0, none⟩)], W1, ?_, ?_, ?_, ?_, (fun h => by cases h), ?_⟩
  · rw [← hW1, hrec]; exact run_enterLoop_outer _ _ _ _ _
  · simp only [resolve, hg]
    simp [go_sem]
  · intro f' hf'; trivial
  · simp [invoke, go_sem, eg]
  · refine (callsIn_wide.2 (iso1_any (S0 := fun g => S0 g ∨ g = w.heap.size + 1) (W := W1) B1 B2 BB OO CC DB DO DC AA AO AC EA EO EC (hT.later2 hbw hS1) (hU.later2 hbw hS1) hn1 hn hK1 hK h01 (hB1.below hbw hB1.lt) (hB2.below hbw hB2.lt) (w.heap.size + 1)
      (fun S ys A => I S ys A ∧ A.heap[w.heap.size + 1]? = some (.loop (rec .ready none)) ∧ A.heap[w.heap.size]? = some (.deferred (some [])) ∧ w.heap.size + 2 ≤ A.heap.size ∧ (∀ g, S g → w.heap.size + 2 ≤ g) ∧ Marked (fun g => S0 g ∨ w.heap.size ≤ g) w A)
      (fun S ys A => Is S ys A ∧ A.heap[w.heap.size + 1]? = some (.loop (rec .done (some .ret))) ∧ A.heap[w.heap.size]? = some (.deferred (some [])) ∧ w.heap.size + 2 ≤ A.heap.size ∧ (∀ g, S g → w.heap.size + 2 ≤ g))
      ?_ ?_ ?_ ?_)).mono ?_
    · intro bi n' S ys A im ⟨hi, hl, hk, hs, hS, hmA⟩ hown hbi hiso hm0 hSs
      have hlt : w.heap.size + 1 < A.heap.size := by omega
      have hy := run_yield (P := Tryz.prog) (args := #[.slice (some ⟨bi, 0, none⟩) n n]) hl (by rw [hrec]; simp [hps])
      rw [hrec] at hy
      refine ⟨fn, _, assign, body, hy, roundIn_of_wpIn hfn (hassign _ _ bi A _ ⟨_, run_beginRound hl (by rw [hrec]), ?_⟩)⟩
      obtain ⟨W2, hW2⟩ : ∃ W2, A.putObj (w.heap.size + 1) (.loop { rec .ready none with state := .busy }) = W2 := ⟨_, rfl⟩
      have hm2 : Marked (fun g => g = w.heap.size + 1) A W2 := by rw [← hW2]; exact hput _ _
      have hl2 : W2.heap[w.heap.size + 1]? = some (.loop { rec .ready none with state := .busy }) := by rw [← hW2]; exact World.putObj_heap_same hlt
      have hk2 : W2.heap[w.heap.size]? = some (.deferred (some [])) := hkeep hm2 (by omega) hk
      have hsz2 : W2.heap.size = A.heap.size := by rw [← hW2]; simp
      have hi2 : I S ys W2 := hI _ _ _ _ _ hi (hm2.mono fun g e => .inr e) (fun g e => .inl e)
      have hown2 : Own W2 (w.heap.size + 2) (some ⟨bi, 0, none⟩) n n im := (hown.mono (lo' := w.heap.size + 2) (by omega)).keep fun q hq hlq => hm2.block q hlq (fun e => by cases hq; have := (hSs bi hbi).1; omega)
      rw [hW2]
      refine wpIn_mono (hbody _ _ bi S ys im W2 hi2 hiso hbi hown2 (fun g hg => ⟨hS g hg, by have := (hSs g hg).2; omega⟩) ?_) ?_
      · exact hmA.then hm2 fun g e => .inl (.inr (by omega))
      rintro e a3 W3 hp
      have key : ∀ (ys' : List (List Int)) (Ix : (Nat → Prop) → List (List Int) → World → Prop) (hIx : IOk w.heap.size Ix) (jump : Option Code), Ix S ys' W3 → Marked (fun g => S0 g ∨ (w.heap.size + 2 ≤ g ∧ ¬ S g)) W2 W3 →
          (Instr.endRound (w.heap.size + 1) jump).run Tryz.prog W3 = .ok (.bool jump.isNone) (W3.putObj (w.heap.size + 1) (.loop (rec (if jump.isNone then .ready else .done) jump))) ∧
          Ix S ys' (W3.putObj (w.heap.size + 1) (.loop (rec (if jump.isNone then .ready else .done) jump))) ∧
          (W3.putObj (w.heap.size + 1) (.loop (rec (if jump.isNone then .ready else .done) jump))).heap[w.heap.size + 1]? = some (.loop (rec (if jump.isNone then .ready else .done) jump)) ∧
          (W3.putObj (w.heap.size + 1) (.loop (rec (if jump.isNone then .ready else .done) jump))).heap[w.heap.size]? = some (.deferred (some [])) ∧
          w.heap.size + 2 ≤ (W3.putObj (w.heap.size + 1) (.loop (rec (if jump.isNone then .ready else .done) jump))).heap.size ∧
          Marked (fun g => (S0 g ∨ g = w.heap.size + 1) ∨ (W1.heap.size ≤ g ∧ ¬ S g)) A (W3.putObj (w.heap.size + 1) (.loop (rec (if jump.isNone then .ready else .done) jump))) := fun ys' Ix hIx jump hi3 hm3 => by
        have n1 : ¬ (S0 (w.heap.size + 1) ∨ (w.heap.size + 2 ≤ w.heap.size + 1 ∧ ¬ S (w.heap.size + 1))) := fun q => by
          rcases q with q | q
          · have := h0 _ q; omega
          · omega
        have n2 : ¬ (S0 (w.heap.size) ∨ (w.heap.size + 2 ≤ w.heap.size ∧ ¬ S (w.heap.size))) := fun q => by
          rcases q with q | q
          · have := h0 _ q; omega
          · omega
        have hl3 := hkeep hm3 n1 hl2
        have hk3 := hkeep hm3 n2 hk2
        have hrun := run_endRound (P := Tryz.prog) jump hl3
        rw [hrec] at hrun
        have hlt3 : w.heap.size + 1 < W3.heap.size := by have := hm3.size; omega
        refine ⟨by rw [hrec]; exact hrun, hIx _ _ _ _ _ hi3 ((hput _ _).mono fun g e => .inr e) (fun g e => .inl e), World.putObj_heap_same hlt3, (World.putObj_heap_other (by omega)).trans hk3, by simp; omega, ?_⟩
        have q1 : Marked (fun g => (S0 g ∨ g = w.heap.size + 1) ∨ (W1.heap.size ≤ g ∧ ¬ S g)) A W2 := hm2.mono fun g e => .inl (.inr e)
        have q2 := q1.then hm3 (fun g e => .inl (by
          rcases e with e | e
          · exact .inl (.inl e)
          · exact .inr ⟨by omega, e.2⟩))
        exact q2.then (hput _ _) (fun g e => .inl (.inl (.inr e)))
      cases e with
      | normal =>
        obtain ⟨hi3, hm3⟩ := hp
        obtain ⟨r1, r2, r3, r4, r5, r6⟩ := key _ I hI none hi3 hm3
        refine ⟨_, _, r1, .inl ⟨rfl, r2, r3, r4, r5, hS, ?_⟩, r6⟩
        exact hmA.then r6 fun g e => .inl (by
          rcases e with (e | e) | e
          · exact .inl e
          · exact .inr (by omega)
          · exact .inr (by omega))
      | ret =>
        obtain ⟨hi3, hm3⟩ := hp
        obtain ⟨r1, r2, r3, r4, r5, r6⟩ := key _ Is hIs (some .ret) hi3 hm3
        exact ⟨_, _, r1, .inr ⟨rfl, r2, r3, r4, r5, hS⟩, r6⟩
      | exit id => exact hp.elim
      | goto t => exact hp.elim
      | panic ch => exact hp.elim
      | outgrown => exact hp.elim
    · rintro S S' ys A B ⟨hi, hl, hk, hs, hS, hmA⟩ hm hS'
      have n1 : ¬ S (w.heap.size + 1) := fun q => by have := hS _ q; omega
      have n2 : ¬ S (w.heap.size) := fun q => by have := hS _ q; omega
      refine ⟨hI _ _ _ _ _ hi (hm.mono fun g e => .inl e) hS', hkeep hm n1 hl, hkeep hm n2 hk, by have := hm.size; omega, fun g hg => ?_, hmA.then hm fun g e => .inl (.inr (by have := hS g e; omega))⟩
      rcases hS' g hg with e | e
      · exact hS g e
      · omega
    · rintro S S' ys A B ⟨hi, hl, hk, hs, hS⟩ hm hS'
      have n1 : ¬ S (w.heap.size + 1) := fun q => by have := hS _ q; omega
      have n2 : ¬ S (w.heap.size) := fun q => by have := hS _ q; omega
      refine ⟨hIs _ _ _ _ _ hi (hm.mono fun g e => .inl e) hS', hkeep hm n1 hl, hkeep hm n2 hk, by have := hm.size; omega, fun g hg => ?_⟩
      rcases hS' g hg with e | e
      · exact hS g e
      · omega
    · intro S A hSA hBA
      have hzA := hBA.size
      refine ⟨hI0 S A (fun g hg => by have := hSA g hg; omega) (hbw.trans (hBA.mono (by omega))), (hBA.block _ (by omega)).trans hL1, (hBA.block _ (by omega)).trans hK1', by omega, fun g hg => by have := (hSA g hg).1; omega, ?_⟩
      exact (Marked.ofB (hbw.trans (hBA.mono (by omega))))
    · rintro e W2 ⟨⟨v, rfl⟩, (⟨S, Y, hY, hi, hl, hk, hs, hS, _⟩ | ⟨S, Z, hi, hl, hk, hs, hS⟩)⟩
      · refine ⟨none, _, by have := run_endLoop (P := Tryz.prog) hl (by rw [hrec]; simp); rw [hrec] at this; exact this, hdone S Y _ hY ?_ ((World.putObj_heap_other (by omega)).trans hk)⟩
        exact hI _ _ _ _ _ hi ((hput _ _).mono fun g e => .inr e) (fun g e => .inl e)
      · refine ⟨some .ret, _, by have := run_endLoop (P := Tryz.prog) hl (by rw [hrec]; simp); rw [hrec] at this; exact this, wpIn_ret (hstop S Z _ ?_ ((World.putObj_heap_other (by omega)).trans hk))⟩
        exact hIs _ _ _ _ _ hi ((hput _ _).mono fun g e => .inr e) (fun g e => .inl e)
attribute [local go_sem] Oper.semAt_some
theorem TB.one {S0 : Nat → Prop} {w1 W : World} {g n c : Nat} {t : List (List Int)} {A O C : Nat → Nat} {b off : Nat} (hG : Grid w1 b off A O C n t) (hs : Sq n t) (hL : Loc W g #[.slice (some ⟨b, off, none⟩) n c] 32) (hB : Below w1.heap.size w1 W) (hg : ¬ S0 g) (hS : ∀ q, S0 q → w1.heap.size ≤ q) :
    TB S0 W g 1 n (fun _ => b) (fun _ => off) (fun _ => c) (fun _ => A) (fun _ => O) (fun _ => C) [t] := by
  refine ⟨rfl, fun w' hm k hk => ?_, fun w' hm k hk => ?_, fun k hk => ?_⟩
  · obtain rfl : k = 0 := by omega
    have : Loc w' g #[.slice (some ⟨b, off, none⟩) n c] 32 := (hm.block g hL.lt hg).trans hL
    exact this.one.1
  · obtain rfl : k = 0 := by omega
    exact hG.below (hB.trans (hm.lowb hS hB.size))
  · obtain rfl : k = 0 := by omega
    exact hs
end Go.Proofs.YtaddclaadbjnlaaGreat
