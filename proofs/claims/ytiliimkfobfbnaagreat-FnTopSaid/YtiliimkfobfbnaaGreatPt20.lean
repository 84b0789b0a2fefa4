/-
  Walks and plain laws of this seat, some texts in one.
  No condition but bounds on lengths.
-/
import Derived.Test.YtiliimkfobfbnaaGreatPt5
import Derived.Test.YtiliimkfobfbnaaGreatPt6
import Derived.Test.YtiliimkfobfbnaaGreatPt3
import Derived.Test.YtiliimkfobfbnaaGreatPt15
import Derived.Test.YtiliimkfobfbnaaGreatPt19
import Derived.Test.YtiliimkfobfbnaaGreatPt7
import Derived.Test.YtiliimkfobfbnaaGreatPt4
import Derived.Test.YtiliimkfobfbnaaGreatPt2
import Derived.Test.YtiliimkfobfbnaaGreatPt8
import Derived.Test.YtiliimkfobfbnaaGreatPt1
import Derived.Deep.RegionHeld3
import Derived.StillTailTactics
import Derived.Laws.BitsLemmas
import Derived.Laws.Bits64
import Derived.Deep.LoopGhost
import Derived.Deep.RegionLaw
import Derived.Test.YtiliimkfobfbnaaGreatPt18
import Derived.Deep.DeepCutAuto
import Derived.Test.YtiliimkfobfbnaaGreatPt9
namespace Go.Proofs.YtiliimkfobfbnaaGreat
set_option maxRecDepth 100000
set_option linter.unusedVariables false
set_option linter.unusedSimpArgs false
open Go.RowKit
def dulL (t : List (List Int)) : List (List Int) := t.map backF
theorem dulL_succ {t : List (List Int)} {k : Nat} (h : k < t.length) : (dulL t).take (k + 1) = (dulL t).take k ++ [backF (t.getD k [])] := by
  have hl : k < (dulL t).length := by unfold dulL; rw [List.length_map]; exact h
  rw [List.take_succ_eq_append_getElem hl]
  have e : (dulL t)[k] = backF t[k] := by simp [dulL]
  rw [e, List.getD_eq_getElem?_getD, List.getElem?_eq_getElem h]; rfl
set_option maxHeartbeats 8000000 in
theorem dualRack_any (n : Nat) (a : Option Addr) (c : Nat) (t : List (List Int)) (w : World) (h1 : Tbl w a n t) (hs : Sq n t) (hn : n ≤ 12) :
    Calls Tryz.prog 40 #[rAgg a n c] w fun e w' => ∃ a1 c1 vs, e = .returned (rAgg a1 n c1) ∧ OwnT w' w.heap.size a1 n c1 vs (dulL t) ∧ Below w.heap.size w w' := by
  have HS := Lib.hid hs
  have HTL : Hid (t.length = n) := Lib.hid hs.len
  clear hs
  obtain ⟨w0, hw0⟩ : ∃ w0, (w.alloc (.cells #[.slice a n c] 37)).alloc (.cells #[.slice none 0 0] 37) = w0 := ⟨_, rfl⟩
  have hz0 : w0.heap.size = w.heap.size + 2 := by rw [← hw0]; simp
  have hB : Below w.heap.size w w0 := by rw [← hw0]; exact below_al (below_al (Below.refl _ _) _) _
  have hA : Loc w0 w.heap.size #[.slice a n c] 37 := by rw [← hw0]; exact (Loc.new w rfl _ _).alloc _
  have hO : Loc w0 (w.heap.size + 1) #[.slice none 0 0] 37 := by rw [← hw0]; exact Loc.new _ (by simp) _ _
  have HZ0 := Lib.hid hz0
  obtain ⟨w1, hw1⟩ : ∃ w1, w0.alloc (.cells #[.slice none 0 0] 37) = w1 := ⟨_, rfl⟩
  have hU1 : Loc w1 w0.heap.size #[.slice none 0 0] 37 := by rw [← hw1]; exact Loc.new w0 rfl _ _
  have hb1 : Below w0.heap.size w0 w1 := by rw [← hw1]; exact below_al (Below.refl _ _) _
  have lA1 := (hA.below hb1 hA.lt).one
  rw [hz0] at hU1 hb1
  go_enter Tryz.func40, Tryz.ntmps40
  go_wp2
  try rw [hw0]
  try rw [hw1]
  clear hw0 hw1
  go_loopw [9] (fun i wr => ∃ (k : Nat) (az : Option Addr) (cz : Nat) (vz : List SV), k ≤ n ∧ i = .int .i64 k ∧ Loc wr (w.heap.size + 2) #[.slice az k cz] 37 ∧ OwnT wr ((w.heap.size + 2) + 1) az k cz vz ((dulL t).take k) ∧ Below (w.heap.size + 2) w0 wr) (fun i _ => n - (intOf i).toNat)
  case atStart => exact ⟨0, none, 0, [], Nat.zero_le _, rfl, hU1, by simpa using OwnT.nil _ _, hb1⟩
  case round =>
    clear hU1 hb1 lA1
    obtain ⟨k, az, cz, vz, hk, rfl, hU, hz, hq⟩ := hrel
    have hUlt := hU.lt
    obtain ⟨W, rfl⟩ : ∃ W : World, W = wr := ⟨_, rfl⟩
    by_cases hlt : k < n
    · have hBW := hB.trans (hq.mono (by omega))
      obtain ⟨b1, o1, ax, nx, cx, rfl, g1, r1, l1⟩ := (h1.below hBW).at k hlt
      obtain rfl : n = nx := by have := r1.len; have := HS.out.row hlt; omega
      have HMM : Hid (∀ x ∈ t.getD k [], 0 ≤ x ∧ x < n) := Lib.hid fun x hx => by
        obtain ⟨i, hi, rfl⟩ := List.getElem_of_mem hx
        have hi2 : i < n := by rw [HS.out.row hlt] at hi; exact hi
        have h2 := HS.out.val hlt hi2
        have h3 := HS.out.lt hlt hi2
        rw [List.getD_eq_getElem?_getD, List.getElem?_eq_getElem hi, Option.getD_some] at h2
        omega
      have HSU := Lib.hid (dulL_succ (t := t) (k := k) (by rw [HTL.out]; exact hlt))
      have lU := hU.one
      have hzhi := hz.uHi
      have r1d := r1.drewN 1
      have HUK := Lib.hid (fun (v : World) (hb : Below W.heap.size W v) => hU.below hb hUlt)
      obtain ⟨P, HP⟩ : ∃ P, Hid (t.getD k [] = P) := ⟨_, Lib.hid rfl⟩
      rw [HP.out] at HMM HSU r1d
      have HIV := Lib.hid (fun (v : World) (hv : Row v ax n P) => inverse_any ax n cx P v hv (by omega) HMM.out)
      have hk12 : k + 1 ≤ 1000000000000 := by omega
      clear r1
      go_wp2
      go_region_law (first
        | (refine step_appT1n rfl rfl hz5 rfl (ho5.mono hlo5) (fun g h1 h2 => by have h3 := hzhi _ (.inl h1); have h4 := ho5.lo _ h2; omega) (fun i hi g h1 h2 => by have h3 := ho5.lo _ h1; have h4 := hzhi _ (.inr ⟨i, hi, h2⟩); omega) rfl hk12 hsz5 ?_; intro g6 cc6 w6 hOT6 hg6 hat6 hb6; have hU6 := hU5.below hb6 (by omega); have lU6 := hU6.one)
        | (go_simp; go_at_call 53; refine (HIV.out _ r1d).mono ?_; rintro e w5 ⟨a5, c5, rfl, ho5', hb5⟩; have ho5 := ho5'.mono (lo' := W.heap.size) (Nat.le_refl _); have hr5 : Below W.heap.size W w5 := (Below.drew (Below.refl _ _)).trans hb5; have hU5 := HUK.out w5 hr5; have lU5 := hU5.one; have lU5a := (hU5.alloc (.cells #[.slice a5 n c5] 50)).one; have hz5 := hz.below hr5; have hsz5 : (w.heap.size + 2) + 1 ≤ w5.heap.size := Nat.le_trans hUlt hr5.size; have hlo5 : (w.heap.size + 2) + 1 ≤ W.heap.size := hUlt))
      all_goals
        have hset := hU6.set 0 (.slice (some ⟨g6, 0, none⟩) (k + 1) cc6)
        have hzs := hOT6.setlo (p := ⟨(w.heap.size + 2), 0, none⟩) (by show (w.heap.size + 2) < (w.heap.size + 2) + 1; omega) (.slice (some ⟨g6, 0, none⟩) (k + 1) cc6)
        have hqs := below_setne (a := ⟨(w.heap.size + 2), 0, none⟩) ((hq.trans (hr5.mono (by omega))).trans (hb6.mono (by omega))) (by show (w.heap.size + 2) ≤ (w.heap.size + 2); omega) (.slice (some ⟨g6, 0, none⟩) (k + 1) cc6)
        go_wp2
        go_roundw
        case rel => exact ⟨k + 1, _, _, _, by omega, by go_num, hset, by rw [HSU.out]; exact hzs, hqs⟩
        case measure => simp [intOf]; omega
    · obtain rfl : k = n := by omega
      have HDT : Hid ((dulL t).take k = dulL t) := Lib.hid (List.take_of_length_le (by unfold dulL; rw [List.length_map, HTL.out]; exact Nat.le_refl _))
      rw [HDT.out] at hz
      have lU := hU.one
      have lR := (hO.below hq (by omega)).one
      have hz0 := HZ0.out
      have hBW := hB.trans (hq.mono (by omega))
      go_wp2
      refine bodyPost_ret (v := rAgg az k cz) (by simp [results, Tryz.results40, go_sem, lR, lU]) rfl ⟨az, cz, vz, rfl, ?_, ?_⟩
      · exact (hz.setlo (by show w.heap.size + 1 < (w.heap.size + 2) + 1; omega) _).mono (by omega)
      · exact below_setne hBW (by show w.heap.size ≤ w.heap.size + 1; omega) _
set_option maxHeartbeats 4000000 in
theorem DualRack_yes (n : Nat) (a : Option Addr) (c : Nat) (t : List (List Int)) (w : World) (h1 : Tbl w a n t) (hs : Sq n t) (hr : isRk t = true) (hn : n ≤ 12) :
    Calls Tryz.prog 14 #[rAgg a n c] w fun e w' => ∃ a1 c1 vs, e = .returned (.tuple #[rAgg a1 n c1, .int .i64 0]) ∧ OwnT w' w.heap.size a1 n c1 vs (dulL t) ∧ Below w.heap.size w w' := by
  have HR := Lib.hid hr; have HS := Lib.hid hs
  clear hr hs
  obtain ⟨w0, hw0⟩ : ∃ w0, (w.alloc (.cells #[.slice a n c] 37)).alloc (.cells #[.slice none 0 0] 37) = w0 := ⟨_, rfl⟩
  have hz0 : w0.heap.size = w.heap.size + 2 := by rw [← hw0]; simp
  have hB : Below w.heap.size w w0 := by rw [← hw0]; exact below_al (below_al (Below.refl _ _) _) _
  have hA : Loc w0 w.heap.size #[.slice a n c] 37 := by rw [← hw0]; exact (Loc.new w rfl _ _).alloc _
  have hO : Loc w0 (w.heap.size + 1) #[.slice none 0 0] 37 := by rw [← hw0]; exact Loc.new _ (by simp) _ _
  have lA := hA.one
  go_enter Tryz.func14, Tryz.ntmps14
  go_wp2_with fail
  try rw [hw0]
  refine (isRack_any a n c t _ (h1.below hB) (by omega)).mono ?_
  rintro e w1 ⟨rfl, hb1⟩
  rw [HR.out]
  have hz1 := hb1.size
  have hA1 := hA.below hb1 hA.lt
  have hO1 := hO.below hb1 hO.lt
  have hB1 := below_th hB hb1
  have lA1 := hA1.one
  go_wp2_with fail
  refine (dualRack_any n a c t _ (h1.below hB1) HS.out hn).mono ?_
  rintro e w5 ⟨a1, c1, vs, rfl, ho, hb5⟩
  have hB5 := below_th hB1 hb5
  have hO5 := hO1.below hb5 hO1.lt
  have lO := hO5.one
  go_wp2
  refine bodyPost_ret (v := .tuple #[rAgg a1 n c1, .int .i64 0]) (by simp [results, Tryz.results14, go_sem, lO]) rfl ⟨a1, c1, vs, rfl, ?_, ?_⟩
  · exact (ho.setlo (by show w.heap.size + 1 < w1.heap.size; omega) _).mono (by omega)
  · exact below_setne hB5 (by show w.heap.size ≤ w.heap.size + 1; omega) _
end Go.Proofs.YtiliimkfobfbnaaGreat
namespace Go.Proofs.YtiliimkfobfbnaaGreat
set_option maxRecDepth 100000
set_option linter.unusedVariables false
set_option linter.unusedSimpArgs false
theorem tab_ext {n : Nat} {t t' : List (List Int)} (hs : Sq n t) (hs' : Sq n t') (h : ∀ x y, x < n → y < n → tv t x y = tv t' x y) : t = t' := by
  apply List.ext_getElem
  · rw [hs.len, hs'.len]
  · intro i h1 h2
    have hi : i < n := by rw [hs.len] at h1; exact h1
    have := (row_ext hs hs' hi hi).2 (fun y hy => h i y hi hy)
    rwa [List.getD_eq_getElem?_getD, List.getD_eq_getElem?_getD, List.getElem?_eq_getElem h1, List.getElem?_eq_getElem h2] at this
section
variable {n : Nat} {f g : List (List Int)}
theorem brc_sqL (hT : BrT n f g) : Sq n (lamT f g) ∧ Sq n (rhoT f g) := by
  have hl := hT.sf.len
  exact ⟨by have := brc_sqF (a := f) (c := g) (by rw [hl]; exact hT.b); rwa [hl] at this, by have := brc_sqG (a := f) (c := g) (by rw [hl]; exact hT.b); rwa [hl] at this⟩
theorem brc_tv (hT : BrT n f g) {x y : Nat} (hx : x < n) (hy : y < n) : tv (lamT f g) x y = lamN f g x y ∧ tv (rhoT f g) x y = rhoN f g x y := by
  have hl := hT.sf.len
  exact ⟨lamT_tv (by omega) (by omega), rhoT_tv (by omega) (by omega)⟩
theorem brc_ivl (hT : BrT n f g) : ivlB n (lamT f g) (rhoT f g) = decide (f = trnL n f) := by
  have sT : Sq n (trnL n f) := Sq.tab fun x y hx hy => hT.sf.lt hy hx
  have e1 : (f = trnL n f) ↔ ∀ x y, x < n → y < n → tv f x y = tv f y x := by
    constructor
    · intro e x y hx hy
      have : tv f x y = tv (trnL n f) x y := congrArg (fun t => tv t x y) e
      rw [trnL_tv hx hy] at this; exact this
    · intro h; exact tab_ext hT.sf sT fun x y hx hy => by rw [trnL_tv hx hy]; exact h x y hx hy
  rw [Bool.eq_iff_iff, decide_eq_true_eq, e1, ← hT.b.invol]
  unfold ivlB allN
  simp only [List.all_eq_true, List.mem_range]
  have at_ : ∀ x y, x < n → y < n → (ivlAt (lamT f g) (rhoT f g) x y = true ↔ lamN f g (lamN f g x y) (rhoN f g x y) = x ∧ rhoN f g (lamN f g x y) (rhoN f g x y) = y) := fun x y hx hy => by
    have hl : lamN f g x y < n := hT.b.lam_lt hx hy
    have hr : rhoN f g x y < n := hT.b.rho_lt hx hy
    unfold ivlAt
    simp only [Bool.and_eq_true, decide_eq_true_eq]
    rw [(brc_tv hT hx hy).1, (brc_tv hT hx hy).2, (brc_tv hT hl hr).1, (brc_tv hT hl hr).2]
  constructor
  · intro h x y hx hy; exact (at_ x y hx hy).1 (h x hx y hy)
  · intro h x hx y hy; exact (at_ x y hx hy).2 (h x y hx hy)
theorem cj_rack (hT : BrT n f g) : isRk (tabF n fun x y => ((cjV f x y : Nat) : Int)) = true ∧ Sq n (tabF n fun x y => ((cjV f x y : Nat) : Int)) := by
  have ga := hT.b.a
  have hlt : ∀ x y, x < n → y < n → cjV f x y < n := fun x y hx hy => hT.sf.lt (hT.sf.lt hx hy) (ga.il x hx)
  have sC : Sq n (tabF n fun x y => ((cjV f x y : Nat) : Int)) := Sq.tab hlt
  have tvc : ∀ x y, x < n → y < n → tv (tabF n fun x y => ((cjV f x y : Nat) : Int)) x y = cjV f x y := fun x y hx hy => tv_tab (V := fun x y => cjV f x y) hx hy
  refine ⟨?_, sC⟩
  have hadd : ∀ x y z, x < n → y < n → z < n → cjV f x (tv f y z) = tv f (cjV f x y) (cjV f x z) := fun x y z hx hy hz => by
    have hnx := ga.il x hx
    have hxy := hT.sf.lt hx hy
    have hxz := hT.sf.lt hx hz
    unfold cjV
    rw [← ga.assoc _ _ _ (hT.sf.lt hxy hnx) hxz hnx, ga.assoc _ _ _ hxy hnx hxz, ga.inv_mul hx hz, ← ga.assoc _ _ _ hx hy hz]
  have hz0 : ∀ x, x < n → cjV f x 0 = 0 := fun x hx => by unfold cjV; rw [ga.one_r _ hx, ga.inv_r _ hx]
  have hneg : ∀ x y, x < n → y < n → cjV f x (ivN f y) = ivN f (cjV f x y) := fun x y hx hy => by
    have hny := ga.il y hy
    refine ga.inv_uniq (hlt x y hx hy) (hlt x _ hx hny) ?_
    rw [← hadd x y _ hx hy hny, ga.inv_r _ hy, hz0 x hx]
  have hinj : ∀ x y z, x < n → y < n → z < n → cjV f x y = cjV f x z → y = z := fun x y z hx hy hz e =>
    ga.cancel_l hx hy hz (ga.cancel_r (ga.il x hx) (hT.sf.lt hx hy) (hT.sf.lt hx hz) e)
  unfold isRk
  rw [isTab_of hT.n1 hT.n12 sC, Bool.true_and, Bool.and_eq_true, sC.len]
  constructor
  · rw [List.all_eq_true]
    intro r hr
    obtain ⟨x, hx, rfl⟩ := List.getElem_of_mem hr
    have hxn : x < n := by rw [sC.len] at hx; exact hx
    have e : (tabF n fun x y => ((cjV f x y : Nat) : Int)).getD x [] = (tabF n fun x y => ((cjV f x y : Nat) : Int))[x] := by simp [List.getD_eq_getElem?_getD, List.getElem?_eq_getElem hx]
    rw [← e]
    exact permOk_of (F := fun y => cjV f x y) (sC.row hxn) (fun y hy => by rw [sC.val hxn hy, tvc x y hxn hy]) ⟨fun y hy => hlt x y hxn hy, fun y z hy hz e2 => hinj x y z hxn hy hz e2⟩
  · unfold rkOk allN
    simp only [List.all_eq_true, List.mem_range]
    intro x hx y hy z hz
    unfold rkAt
    rw [decide_eq_true_eq, tvc y z hy hz, tvc x y hx hy, tvc x z hx hz, tvc _ _ hx (hlt y z hy hz), tvc _ _ (hlt x y hx hy) (hlt x z hx hz)]
    have hny := ga.il y hy
    have hyz := hT.sf.lt hy hz
    rw [show cjV f y z = tv f (tv f y z) (ivN f y) from rfl, hadd x _ _ hx hyz hny, hadd x y z hx hy hz, hneg x y hx hy]
    rfl
theorem brc_dual (hT : BrT n f g) : drL n (lamT f g) (rhoT f g) = dulL (tabF n fun x y => ((cjV f x y : Nat) : Int)) := by
  have ga := hT.b.a
  have hl := hT.sf.len
  obtain ⟨hrk, sC⟩ := cj_rack hT
  have tvc : ∀ x y, x < n → y < n → tv (tabF n fun x y => ((cjV f x y : Nat) : Int)) x y = cjV f x y := fun x y hx hy => tv_tab (V := fun x y => cjV f x y) hx hy
  have hrow : ∀ x, x < n → IsP n ((tabF n fun x y => ((cjV f x y : Nat) : Int)).getD x []) := fun x hx => by
    unfold isRk at hrk
    rw [Bool.and_eq_true, Bool.and_eq_true] at hrk
    refine permOk_isP (sC.row hx) (List.all_eq_true.1 hrk.2.1 _ ?_)
    have hx2 : x < (tabF n fun x y => ((cjV f x y : Nat) : Int)).length := by rw [sC.len]; exact hx
    rw [List.getD_eq_getElem?_getD, List.getElem?_eq_getElem hx2]
    exact List.getElem_mem hx2
  generalize hCt : (tabF n fun x y => ((cjV f x y : Nat) : Int)) = T at *
  have hd : ∀ x y, x < n → y < n → drN (lamT f g) (rhoT f g) x y = tv f (tv f (ivN f x) y) x := fun x y hx hy => brc_der hT.is (by omega) (by omega)
  apply List.ext_getElem
  · simp [drL, dulL, tabF_len, sC.len]
  · intro x h1 h2
    have hx : x < n := by simp [drL, tabF_len] at h1; exact h1
    have hxT : x < T.length := by rw [sC.len]; exact hx
    have e2 : (dulL T)[x] = backF (T.getD x []) := by
      rw [List.getD_eq_getElem?_getD, List.getElem?_eq_getElem hxT]; simp [dulL]
    have e1 : (drL n (lamT f g) (rhoT f g))[x] = (List.range n).map fun y => ((drN (lamT f g) (rhoT f g) x y : Nat) : Int) := by simp [drL, tabF]
    rw [e1, e2]
    apply List.ext_getElem
    · rw [backF_len, sC.row hx]; simp
    · intro y k1 k2
      have hy : y < n := by simpa using k1
      obtain ⟨q, hq, hqn, hq2⟩ := backF_at (hrow x hx) y hy
      rw [List.getD_eq_getElem?_getD, List.getElem?_eq_getElem k2, Option.getD_some] at hq
      rw [hq]
      simp only [List.getElem_map, List.getElem_range]
      rw [hd x y hx hy]
      -- q is where y is in the row of x
      have hv := sC.val hx hqn
      rw [hq2, tvc x q hx hqn] at hv
      have hy2 : cjV f x q = y := by omega
      have hqq : tv f (tv f (ivN f x) y) x = q := by
        rw [← hy2]
        unfold cjV
        have hnx := ga.il x hx
        have hxq := hT.sf.lt hx hqn
        rw [← ga.assoc _ _ _ hnx hxq hnx, ga.inv_mul hx hqn, ga.inv_mul' hqn hx]
      rw [hqq]
end
section
variable {n : Nat} {f g : List (List Int)}
/-! ### one more strand -/
end
theorem set_same {s k : Nat} (x : Int) (h : k < s) : (List.replicate s x).set k x = List.replicate s x := by
  apply List.ext_getElem
  · simp
  · intro i h1 h2
    rw [List.getElem_set]
    by_cases e : k = i
    · subst e; simp
    · rw [if_neg e]
theorem zero_do {f g : List (List Int)} {s k : Nat} (hf : tv f 0 0 = 0) (hg : tv g 0 0 = 0) (h : k + 1 < s) : doF f g k (List.replicate s 0) = List.replicate s 0 := by
  have e1 : (List.replicate s (0 : Int)).getD k 0 = 0 := by simp [List.getD_eq_getElem?_getD, List.getElem?_replicate]; split <;> rfl
  have e2 : (List.replicate s (0 : Int)).getD (k + 1) 0 = 0 := by simp [List.getD_eq_getElem?_getD, List.getElem?_replicate]; split <;> rfl
  unfold doF
  simp only [e1, e2, Int.toNat_zero, hf, hg, Int.natCast_zero, Int.ofNat_zero, Int.cast_ofNat_Int]
  rw [set_same 0 (by omega), set_same 0 h]
theorem zero_less {n s : Nat} (hn : 1 ≤ n) : Less n (List.replicate s 0) := fun i hi => ⟨0, hn, by simp at hi; simp [List.getD_eq_getElem?_getD, List.getElem?_replicate, hi]⟩
theorem zero_step {n s : Nat} {f g : List (List Int)} (hn : 1 ≤ n) (hf : Sq n f) (hg : Sq n g) (hc : collOk n f g = true) (h0 : tv f 0 0 = 0) (h1 : tv g 0 0 = 0) {x : Int} (hx : x ≠ 0) (hp : (plc x).toNat + 1 < s) : stepL n f g x (List.replicate s 0) = List.replicate s 0 := by
  by_cases c : 0 < x
  · unfold stepL; rw [if_pos c]; exact zero_do h0 h1 hp
  · have e1 : stepL n f g (-x) (List.replicate s 0) = List.replicate s 0 := by
      unfold stepL
      rw [if_pos (by omega)]
      refine zero_do h0 h1 ?_
      unfold plc at hp ⊢
      rw [if_pos (by omega)] at hp
      rw [if_neg (by omega)]; exact hp
    have hp2 : (plc (-x)).toNat + 1 < s := by
      unfold plc at hp ⊢
      rw [if_pos (by omega)] at hp
      rw [if_neg (by omega)]; exact hp
    have := step_back (x := -x) hn hf hg hc (by omega) (by rw [List.length_replicate]; exact hp2) (zero_less (s := s) hn)
    rw [e1, Int.neg_neg] at this; exact this
theorem zero_act {n s : Nat} {f g : List (List Int)} (hn : 1 ≤ n) (hf : Sq n f) (hg : Sq n g) (hc : collOk n f g = true) (h0 : tv f 0 0 = 0) (h1 : tv g 0 0 = 0) : ∀ xs : List Int, (∀ x ∈ xs, x ≠ 0 ∧ (plc x).toNat + 1 < s) → actL n f g xs (List.replicate s 0) = List.replicate s 0 := by
  intro xs
  induction xs with
  | nil => intro _; rfl
  | cons x xs ih =>
    intro h
    unfold actL
    rw [List.foldl_cons, zero_step hn hf hg hc h0 h1 (h x (by simp)).1 (h x (by simp)).2]
    exact ih fun y hy => h y (by simp [hy])
theorem dig_zero (n s : Nat) : digL n s 0 = List.replicate s 0 := by
  apply List.ext_getElem
  · simp [digL]
  · intro i h1 h2; simp [digL]
theorem top_cnt {n S : Nat} {f g : List (List Int)} {ys : List Int} (hs : isSol f g = true) (hl : f.length = n) (h0 : tv f 0 0 = 0) (h1 : tv g 0 0 = 0) (hS : 2 ≤ S ∧ S ≤ 3) (hlen : ys.length ≤ 30) (hy : ∀ x ∈ ys, x ≠ 0 ∧ 1 - (S : Int) ≤ x ∧ x ≤ (S : Int) - 1) :
    ∃ LL, colsF f g (S : Int) ys = (LL, 0) ∧ 1 ≤ LL.length ∧ LL.length ≤ 1728 := by
  subst hl
  obtain ⟨q1, q12, sf, sg⟩ := isSol_sq hs
  have hc := isSol_coll hs
  have hb : isBr (S : Int) ys = true := isBr_of ⟨by omega, by omega⟩ hlen hy
  have hpow : f.length ^ S ≤ 1728 := by
    have a : f.length ^ S ≤ 12 ^ S := Nat.pow_le_pow_left q12 S
    have b : (12 : Nat) ^ S ≤ 12 ^ 3 := Nat.pow_le_pow_right (by decide) hS.2
    have c : (12 : Nat) ^ 3 = 1728 := by decide
    omega
  refine ⟨colsL f.length S f g ys, ?_, ?_, Nat.le_trans colsK_len hpow⟩
  · unfold colsF codeF colsC
    rw [if_pos hs, if_pos hb, if_pos rfl, Int.toNat_natCast, if_pos (by omega)]
  · have hz : colAt f.length S f g ys 0 = true := by
      unfold colAt
      rw [dig_zero, decide_eq_true_eq]
      refine zero_act q1 sf sg hc h0 h1 ys fun x hx => ?_
      obtain ⟨a, b, c⟩ := hy x hx
      refine ⟨a, ?_⟩
      unfold plc
      split <;> omega
    have hm : digL f.length S 0 ∈ colsL f.length S f g ys := by
      unfold colsL colsK
      refine List.mem_map.2 ⟨0, List.mem_filter.2 ⟨List.mem_range.2 (Nat.pow_pos (show 0 < f.length by omega)), hz⟩, rfl⟩
    exact List.length_pos_of_mem hm
theorem brc_zero {n : Nat} {f g : List (List Int)} (hT : BrT n f g) : tv (lamT f g) 0 0 = 0 ∧ tv (rhoT f g) 0 0 = 0 := by
  obtain ⟨e1, e2⟩ := brc_tv hT hT.n1 hT.n1
  rw [e1, e2]
  exact ⟨hT.b.zero_lam hT.n1, hT.b.zero_rho hT.n1⟩
end Go.Proofs.YtiliimkfobfbnaaGreat
namespace Go.Proofs.YtiliimkfobfbnaaGreat
set_option maxRecDepth 100000
set_option linter.unusedVariables false
set_option linter.unusedSimpArgs false
open Go.RowKit
set_option maxHeartbeats 1000000 in
theorem l01Perm_any (a : Option Addr) (n c : Nat) (p : List Int) (w : World) (h1 : Row w a n p) (hm : n ≤ 9223372036854775807) :
    Calls Tryz.prog 95 #[.slice a n c] w fun e w' => e = .returned (.bool (rngB 1 12 n && permOk p)) ∧ w = w' := by
  have hl := h1.len
  cases hv : rngB 1 12 n with
  | false =>
    have HC := Lib.hid (fun w => l01In_b n 1 12 false hv w)
    clear hv hl
    go_enter Tryz.func95, Tryz.ntmps95
    go_wp2_with fail
    refine (HC.out _).mono ?_
    rintro e w2 ⟨rfl, rfl⟩
    go_wp2
    go_ret
    exact ⟨rfl, rfl⟩
  | true =>
    have HC := Lib.hid (fun w => l01In_b n 1 12 true hv w)
    have HQ : Hid (permOk p = allN n fun x : Nat => p.contains (x : Int)) := Lib.hid (by unfold permOk; rw [hl])
    have hn12 : 1 ≤ n ∧ n ≤ 12 := by unfold rngB at hv; simp at hv; omega
    clear hv hl
    go_enter Tryz.func95, Tryz.ntmps95
    go_wp2_with fail
    refine (HC.out _).mono ?_
    rintro e w2 ⟨rfl, rfl⟩
    go_wp2
    go_loop [4] (fun i => ∃ k : Nat, k ≤ n ∧ i = .int .i64 k ∧ Hid (allN k (fun x : Nat => p.contains (x : Int)) = true)) (fun i => n - (intOf i).toNat)
    case atStart => exact ⟨0, Nat.zero_le _, rfl, Lib.hid rfl⟩
    case round =>
      obtain ⟨k, hk, rfl, hI⟩ := hrel
      by_cases hlt : k < n
      · have hcd : decide ((k : Int) ∈ p) = p.contains (k : Int) := by rw [Bool.eq_iff_iff]; simp
        have HH := Lib.hid (l01Has_any a n c p (k : Int) w h1 (by omega))
        cases hc : p.contains (k : Int) with
        | true =>
          rw [hc] at hcd
          have HD := Lib.hid hcd; have HCC := Lib.hid hc
          clear hc hcd
          go_wp2_with fail
          refine HH.out.mono ?_
          rintro e w2 ⟨rfl, rfl⟩
          rw [HD.out]
          go_wp2
          go_round
          case rel => exact ⟨k + 1, by omega, by go_num, Lib.hid (allN_succ hI.out HCC.out)⟩
          case measure => simp [intOf]; omega
        | false =>
          rw [hc] at hcd
          have HD := Lib.hid hcd; have HCC := Lib.hid hc
          clear hc hcd
          go_wp2_with fail
          refine HH.out.mono ?_
          rintro e w2 ⟨rfl, rfl⟩
          rw [HD.out]
          go_wp2
          go_ret
          exact ⟨ret_bool (by rw [HQ.out, allN_no hlt HCC.out]; rfl), rfl⟩
      · obtain rfl : k = n := by omega
        go_wp2
        go_ret
        exact ⟨ret_bool ((congrArg (fun b => true && b) (HQ.out.trans hI.out)).symm), rfl⟩
theorem grown_trans {a b c : World} {r : Option Nat} (h : a.grownBy b r) (k : b.grownBy c r) : a.grownBy c r :=
  ⟨k.os.trans h.os, k.tape.trans h.tape, k.output.trans h.output, Nat.le_trans h.size k.size, fun i hi hn => (k.block i (Nat.lt_of_lt_of_le hi h.size) hn).trans (h.block i hi hn)⟩
theorem grown_refl (w : World) (r : Option Nat) : w.grownBy w r := ⟨rfl, rfl, rfl, Nat.le_refl _, fun _ _ _ => rfl⟩
theorem grown_of_below {w w' : World} (h : Below w.heap.size w w') (r : Option Nat) : w.grownBy w' r := ⟨h.os, h.tape, h.output, h.size, fun k hk _ => h.block k hk⟩
theorem grown_drewN {a w : World} {r : Option Nat} (h : a.grownBy w r) (n : Nat) : a.grownBy (w.drewN n) r := ⟨h.os, h.tape, h.output, h.size, h.block⟩
theorem grown_set {a w : World} {b : Nat} (h : a.grownBy w (some b)) {p : Addr} (hp : p.block = b ∨ a.heap.size ≤ p.block) (u : Value) : a.grownBy (w.setCell p u) (some b) :=
  ⟨h.os, h.tape, h.output, by rw [size_set]; exact h.size, fun k hk hn => (Below.heap_setCell _ _ _ k (fun e => by rcases hp with hp | hp; exact hn (by rw [e, hp]); omega)).trans (h.block k hk hn)⟩
def Src (w : World) (b : Nat) : Prop := ∃ (a : Option Addr) (n c : Nat) (xs : List Int) (i : Nat) (h : Int), n ≤ 9223372036854775807 ∧ i ≤ n ∧ 0 ≤ h ∧ h < 18446744073709551616 ∧ Bts w a n xs ∧ (0 < n → ∀ g o, a = some ⟨g, o, none⟩ → g < b) ∧
  Loc w b #[.slice a n c, .int .i64 i, .int .u64 h] 104
theorem Src.lt {w : World} {b : Nat} (h : Src w b) : b < w.heap.size := by obtain ⟨a, n, c, xs, i, h, _, _, _, _, _, _, hL⟩ := h; exact hL.lt
theorem Src.below {w w' : World} {b : Nat} (h : Src w b) (hb : Below w.heap.size w w') : Src w' b := by
  obtain ⟨a, n, c, xs, i, h, h1, h2, h3, h4, hB, hg, hL⟩ := h
  exact ⟨a, n, c, xs, i, h, h1, h2, h3, h4, hB.below hb, hg, hL.below hb hL.lt⟩
theorem wrapsU (n : Int) (h₀ : 0 ≤ n) (h₁ : n < 2 ^ 63) : IntKind.u64.wrap n = n := by rw [IntKind.wrap_u64]; omega
theorem u64_rng (z : Int) : 0 ≤ IntKind.u64.wrap z ∧ IntKind.u64.wrap z < 18446744073709551616 := by rw [IntKind.wrap_u64]; omega
theorem mask24 (g : Int) (h1 : 0 ≤ g) (h2 : g < 18446744073709551616) : 0 ≤ wrap64 (bits BinOp.and IntKind.u64 (g / 8589934592) 16777215) ∧ wrap64 (bits BinOp.and IntKind.u64 (g / 8589934592) 16777215) ≤ 16777215 := by
  have h := bits_mask .u64 63 (by decide) wrapsU 24 (by decide) (g / 8589934592) (by omega) (by omega)
  have e : ((2 : Int) ^ 24 - 1) = 16777215 := by decide
  have e2 : ((2 : Int) ^ 24) = 16777216 := by decide
  rw [e, e2] at h
  rw [h, IntWalk.wrap64_in _ ⟨by omega, by omega⟩]
  omega
set_option maxHeartbeats 2000000 in
theorem l01Next_ok (b : Nat) (n : Int) (w : World) (h : Src w b) (hn : I64 n) :
    Calls Tryz.prog 92 #[.pointer (some ⟨b, 0, none⟩), .int .i64 n] w fun e w' => ∃ x, e = .returned (.int .i64 x) ∧ (n < 1 → x = 0) ∧ (1 ≤ n → 0 ≤ x ∧ x < n) ∧ Src w' b ∧ w.grownBy w' (some b) := by
  obtain ⟨a, m, c, xs, i, g, h1, h2, h3, h4, hB, hg, hL⟩ := h
  by_cases hn1 : n < 1
  · go_enter Tryz.func92, Tryz.ntmps92
    go_wp2
    go_ret
    exact ⟨_, rfl, fun _ => rfl, fun h => absurd h (by omega), ⟨a, m, c, xs, i, g, h1, h2, h3, h4, hB, hg, hL⟩, grown_refl _ _⟩
  · have lL := hL.three
    obtain ⟨hn2, hn3⟩ := hn
    have hn4 : 1 ≤ n := by omega
    clear hn1
    go_enter Tryz.func92, Tryz.ntmps92
    go_wp2
    obtain ⟨G, HG⟩ : ∃ G, Hid (IntKind.u64.wrap (IntKind.u64.wrap (g * 6364136223846793005) + 1442695040888963407) = G) := ⟨_, rfl⟩
    have hG := u64_rng (IntKind.u64.wrap (g * 6364136223846793005) + 1442695040888963407)
    rw [HG.out] at hG
    rw [HG.out]
    obtain ⟨hG1, hG2⟩ := hG
    obtain ⟨hX1, hX2⟩ := mask24 G hG1 hG2
    obtain ⟨X, HX⟩ : ∃ X, Hid (wrap64 (bits BinOp.and IntKind.u64 (G / 8589934592) 16777215) = X) := ⟨_, rfl⟩
    rw [HX.out] at hX1 hX2
    rw [HX.out]
    have hL2 := hL.set 2 (.int .u64 G)
    have lL2 := hL2.three
    have hg2 := grown_set (grown_refl w (some b)) (p := ⟨b, 2, none⟩) (.inl rfl) (.int .u64 G)
    have hB2 : Bts (w.setCell ⟨b, 2, none⟩ (.int .u64 G)) a m xs := ⟨hB.1, fun j hj => by
      obtain ⟨q, off, e1, e2, e3⟩ := hB.2.1 j hj
      exact ⟨q, off, e1, by rw [size_set]; exact e2, cell_setne e3 (by have := hg (by omega) q off e1; simp; omega) _⟩, hB.2.2⟩
    generalize w.setCell ⟨b, 2, none⟩ (.int .u64 G) = w2 at *
    by_cases hi : i < m
    · obtain ⟨q, off, rfl, hc⟩ := hB2.at i hi
      have hxr := hB2.2.2 i
      obtain ⟨V, HV⟩ : ∃ V, Hid (xs.getD i 0 = V) := ⟨_, rfl⟩
      rw [HV.out] at hc hxr
      obtain ⟨v1, v2⟩ := hxr
      have s1 : (0 : Int) ≤ (i : Int) := by omega
      have s2 : (i : Int) < (m : Int) := by omega
      go_quiet (fail)
      go_wp2
      have s3 : IntKind.i64.wrap (X + V) = X + V := IntWalk.i64_in _ ⟨by omega, by omega⟩
      have s4 : IntKind.i64.wrap V = V := IntWalk.i64_in _ ⟨by omega, by omega⟩
      go_quiet (fail)
      clear s3 s4
      go_wp2
      go_ret
      rename_i nq0
      have hL3 := (hL2.drewN (nq0 + nq)).set 1 (.int .i64 (i + 1))
      refine ⟨_, rfl, fun h => absurd h (by omega), fun _ => ⟨Int.emod_nonneg _ (by omega), Int.emod_lt_of_pos _ (by omega)⟩, ?_, grown_set (grown_drewN hg2 _) (.inl rfl) _⟩
      refine ⟨some ⟨q, off, none⟩, m, c, xs, i + 1, G, h1, by omega, hG1, hG2, ?_, hg, hL3⟩
      exact ⟨hB2.1, fun j hj => by
        obtain ⟨q', off', e1, e2, e3⟩ := hB2.2.1 j hj
        exact ⟨q', off', e1, by rw [size_set]; exact e2, cell_setne (w := w2.drewN _) e3 (by have := hg (by omega) q' off' e1; simp; omega) _⟩, hB2.2.2⟩
    · go_quiet (fail)
      go_wp2
      go_ret
      refine ⟨_, rfl, fun h => absurd h (by omega), fun _ => ⟨Int.emod_nonneg _ (by omega), Int.emod_lt_of_pos _ (by omega)⟩, ?_, grown_drewN hg2 _⟩
      exact ⟨a, m, c, xs, i, G, h1, h2, hG1, hG2, hB2.below (below_drewN (Below.refl _ _) _), hg, hL2.drewN _⟩
set_option maxHeartbeats 2000000 in
theorem l01From_ok (a : Option Addr) (n c : Nat) (xs : List Int) (w : World) (h : Bts w a n xs) (hn : n ≤ 9223372036854775807) :
    Calls Tryz.prog 58 #[.slice a n c] w fun e w' => ∃ b, e = .returned (.pointer (some ⟨b, 0, none⟩)) ∧ w.heap.size ≤ b ∧ Src w' b ∧ Below w.heap.size w w' := by
  go_enter Tryz.func58, Tryz.ntmps58
  go_wp2
  go_loopw [4] (fun i wr => ∃ (k : Nat) (g : Int), k ≤ 4096 ∧ i = .int .i64 k ∧ 0 ≤ g ∧ g < 18446744073709551616 ∧ Loc wr w.heap.size #[.slice a n c, .int .i64 0, .int .u64 g] 104 ∧ Below w.heap.size w wr) (fun i _ => 4096 - (intOf i).toNat)
  case atStart => exact ⟨0, _, by omega, rfl, by omega, by omega, Loc.new w rfl _ _, below_al (Below.refl _ _) _⟩
  case round =>
    obtain ⟨k, g, hk, rfl, hg1, hg2, hL, hq⟩ := hrel
    by_cases hlt : k < n
    · by_cases hlt2 : k < 4096
      · obtain ⟨q, off, rfl, hc⟩ := (h.below hq).at k hlt
        obtain ⟨V, HV⟩ : ∃ V, Hid (xs.getD k 0 = V) := ⟨_, rfl⟩
        have hxr := h.2.2 k
        rw [HV.out] at hc hxr
        obtain ⟨v1, v2⟩ := hxr
        have s1 : (0 : Int) ≤ (k : Int) := by omega
        have s2 : (k : Int) < (n : Int) := by omega
        have lL := hL.three
        go_wp2
        refine wp_region_still_tail 15 (by kernel_rfl) (by kernel_rfl) ?_
        change wpStill _ _ wr.drew (fun a' => wpList _ _ _ _ a' wr.drew) _ _
        replace hL := hL.drew
        replace lL := hL.three
        replace hc : wr.drew.cell? ⟨q, off + k, none⟩ = some (.int .u8 V) := hc
        replace hq : Below w.heap.size w wr.drew := hq.drew
        generalize wr.drew = w2 at *
        simp only [List.take_succ_cons, List.take_zero, List.drop_succ_cons, List.drop_zero]
        repeat still_step
        refine wpStill_nil ?_
        go_wp2
        go_roundw
        case rel =>
          have hu := u64_rng (IntKind.u64.wrap (IntKind.u64.wrap (g * 1099511628211) + V) + 11)
          exact ⟨k + 1, _, by omega, by go_num, hu.1, hu.2, hL.set 2 _, hq.setCell (Nat.le_refl _) _⟩
        case measure => simp [intOf]; omega
      · have hk2 : k = 4096 := by omega
        subst hk2
        go_wp2
        go_ret
        exact ⟨_, rfl, Nat.le_refl _, ⟨a, n, c, xs, 0, g, hn, by omega, hg1, hg2, h.below hq, fun hn q o e => by obtain ⟨b', o', e1, e2, _⟩ := h.2.1 0 hn; rw [e1] at e; cases e; exact e2, hL⟩, hq⟩
    · go_wp2
      go_ret
      exact ⟨_, rfl, Nat.le_refl _, ⟨a, n, c, xs, 0, g, hn, by omega, hg1, hg2, h.below hq, fun hn q o e => by obtain ⟨b', o', e1, e2, _⟩ := h.2.1 0 hn; rw [e1] at e; cases e; exact e2, hL⟩, hq⟩
theorem Row.grown {w w' : World} {a : Option Addr} {n : Nat} {xs : List Int} {r : Option Nat} (h : Row w a n xs) (hg : w.grownBy w' r) (hne : ∀ g o, 0 < n → a = some ⟨g, o, none⟩ → some g ≠ r) : Row w' a n xs :=
  ⟨h.1, fun i hi => by
    obtain ⟨b, off, h1, h3, h2⟩ := h.2 i hi
    exact ⟨b, off, h1, Nat.lt_of_lt_of_le h3 hg.size, hg.cell (a := ⟨b, off + i, none⟩) h2 (hne b off (by omega) h1)⟩⟩
theorem Src.setne {w : World} {b : Nat} (h : Src w b) {p : Addr} (hp : b < p.block) (u : Value) : Src (w.setCell p u) b := by
  obtain ⟨a, n, c, xs, i, g, h1, h2, h3, h4, hB, hg, hL⟩ := h
  refine ⟨a, n, c, xs, i, g, h1, h2, h3, h4, ⟨hB.1, fun j hj => ?_, hB.2.2⟩, hg, hL.setne (by omega) u⟩
  obtain ⟨q, off, e1, e2, e3⟩ := hB.2.1 j hj
  exact ⟨q, off, e1, by rw [size_set]; exact e2, cell_setne e3 (by have := hg (by omega) q off e1; simp; omega) _⟩
theorem Src.keepB {w w' : World} {b B : Nat} (h : Src w b) (hb : Below B w w') (hlt : b < B) : Src w' b := by
  obtain ⟨a, n, c, xs, i, g, h1, h2, h3, h4, hB, hg, hL⟩ := h
  refine ⟨a, n, c, xs, i, g, h1, h2, h3, h4, ⟨hB.1, fun j hj => ?_, hB.2.2⟩, hg, hL.below hb hlt⟩
  obtain ⟨q, off, e1, e2, e3⟩ := hB.2.1 j hj
  exact ⟨q, off, e1, Nat.lt_of_lt_of_le e2 hb.size, (hb.cell (p := ⟨q, off + j, none⟩) (by have := hg (by omega) q off e1; show q < B; omega)).trans e3⟩
theorem grown_below {a w w' : World} {r : Option Nat} {B : Nat} (h : a.grownBy w r) (hb : Below B w w') (hB : a.heap.size ≤ B) : a.grownBy w' r :=
  ⟨hb.os.trans h.os, hb.tape.trans h.tape, hb.output.trans h.output, Nat.le_trans h.size hb.size, fun k hk hn => (hb.block k (by omega)).trans (h.block k hk hn)⟩
def Sml (xs : List Int) : Prop := ∀ x ∈ xs, -100 ≤ x ∧ x ≤ 100
theorem Sml.snoc {xs : List Int} (h : Sml xs) {x : Int} (h1 : -100 ≤ x) (h2 : x ≤ 100) : Sml (xs ++ [x]) := fun y hy => by
  rcases List.mem_append.1 hy with hy | hy
  · exact h y hy
  · simp at hy; subst hy; exact ⟨h1, h2⟩
def PrD (b : Nat) (w : World) (n : Nat) (e : Ending) (w' : World) : Prop :=
  ∃ (a : Option Addr) (c : Nat) (p : List Int), e = .returned (.slice a n c) ∧ IsP n p ∧ Own w' w.heap.size a n c p ∧ Src w' b ∧ w.grownBy w' (some b)
theorem OwnT.lit2 {w : World} {lo b b1 b2 : Nat} {x1 y1 x2 y2 : Int} (h : Loc w b #[.slice (some ⟨b1, 0, none⟩) 2 2, .slice (some ⟨b2, 0, none⟩) 2 2] 50) (h1 : Loc w b1 #[.int .i64 x1, .int .i64 y1] 2) (h2 : Loc w b2 #[.int .i64 x2, .int .i64 y2] 2) (e1 : b ≠ b1) (e2 : b ≠ b2) (e3 : b1 ≠ b2) (l0 : lo ≤ b) (l1 : lo ≤ b1) (l2 : lo ≤ b2) :
    OwnT w lo (some ⟨b, 0, none⟩) 2 2 [(some ⟨b1, 0, none⟩, 2, 2), (some ⟨b2, 0, none⟩, 2, 2)] [[x1, y1], [x2, y2]] := by
  have o1 : Own w lo (some ⟨b1, 0, none⟩) 2 2 [x1, y1] := Own.mk rfl l1 h1 (Nat.le_refl _) (by unfold maxLen; omega) rfl rfl
  have o2 : Own w lo (some ⟨b2, 0, none⟩) 2 2 [x2, y2] := Own.mk rfl l2 h2 (Nat.le_refl _) (by unfold maxLen; omega) rfl rfl
  refine ⟨rfl, rfl, ownsRow_mk rfl l0 h (Nat.le_refl _) (by unfold maxLen; omega) rfl rfl, fun i hi => ?_, fun i hi => ?_, fun i j hi hj hij => ?_⟩
  · match i, hi with
    | 0, _ => exact o1
    | 1, _ => exact o2
  · match i, hi with
    | 0, _ => intro g h h'; cases h; cases h'; exact e1 rfl
    | 1, _ => intro g h h'; cases h; cases h'; exact e2 rfl
  · match i, hi, j, hj with
    | 0, _, 0, _ => exact absurd rfl hij
    | 0, _, 1, _ => intro g h h'; cases h; cases h'; exact e3 rfl
    | 1, _, 0, _ => intro g h h'; cases h; cases h'; exact e3 rfl
    | 1, _, 1, _ => exact absurd rfl hij
theorem tabF_succ {n k : Nat} (V : Nat → Nat → Int) (h : k < n) : (tabF n V).take (k + 1) = (tabF n V).take k ++ [(List.range n).map fun y => V k y] := by
  have hl : k < (tabF n V).length := by rw [tabF_len]; exact h
  rw [List.take_succ_eq_append_getElem hl]
  simp [tabF]
theorem make_eq (n : Nat) (hn : n ≤ 1000000000000) : ∃ mk : World → World, ∀ v : World, (Instr.makeSlice 50 (.int .i64 n) (.int .i64 n)).run Tryz.prog v = .ok (.slice (some ⟨v.heap.size, 0, none⟩) n n) (mk v) ∧ Own (mk v) v.heap.size (some ⟨v.heap.size, 0, none⟩) n n (List.replicate n 0) ∧ Below v.heap.size v (mk v) ∧ v.heap.size < (mk v).heap.size := by
  have H : ∀ v : World, ∃ w' : World, (Instr.makeSlice 50 (.int .i64 n) (.int .i64 n)).run Tryz.prog v = .ok (.slice (some ⟨v.heap.size, 0, none⟩) n n) w' ∧ Own w' v.heap.size (some ⟨v.heap.size, 0, none⟩) n n (List.replicate n 0) ∧ Below v.heap.size v w' ∧ v.heap.size < w'.heap.size := fun v => by
    obtain ⟨i0, hi, hz0, hz1, hz2⟩ := info_parts info_int
    obtain ⟨w', hrun, r1, r2⟩ := run_make_full (P := Tryz.prog) v v.heap.size 50 2 i0 (.int .i64 0) 1 und_ints hi hz0 hz1 .i64 .i64 n (by rw [hz2]; omega) (by unfold maxLen; omega) (Nat.le_refl _)
    have ho : Own w' v.heap.size (some ⟨v.heap.size, 0, none⟩) n n (List.replicate n 0) := by
      refine ⟨by simp, ?_⟩
      have e : (madeCells (Value.int IntKind.i64 0).cells (n * 1)).toList = (List.replicate n (0 : Int)).map (.int .i64) := by
        rw [Nat.mul_one, List.map_replicate]; exact toList_madeCells_one _ _
      rw [e] at r1; exact r1
    exact ⟨w', hrun, ho, (Below.refl _ _).grown r2 (Nat.le_refl _) (by simp), ho.lt.2⟩
  obtain ⟨mk, h⟩ := Classical.axiomOfChoice H
  exact ⟨mk, h⟩
theorem RwsOk.at {n : Nat} {rows : List (List Int)} (h : RwsOk n rows) {x nx : Nat} (hx : x < n) {w : World} {a : Option Addr} (hr : Row w a nx (rows.getD x [])) : (nx = 0 ∧ rows.getD x [] = []) ∨ (nx = n ∧ IsP n (rows.getD x [])) := by
  rcases h.2 x hx with e | e
  · exact .inl ⟨by have := hr.len; rw [e] at this; simpa using this, e⟩
  · exact .inr ⟨by have := hr.len; rw [e.len] at this; exact this, e⟩
def RwsP (n : Nat) (t : List (List Int)) : Prop := t.length = n ∧ ∀ i, i < n → IsP n (t.getD i [])
theorem RwsP.sq {n : Nat} {t : List (List Int)} (h : RwsP n t) : Sq n t := by
  refine ⟨h.1, fun x hx => ⟨(h.2 x hx).len, fun y hy => ?_⟩⟩
  obtain ⟨z, hz, hzn⟩ := (h.2 x hx).at hy
  have : tv t x y = z := by unfold tv; rw [hz, Int.toNat_natCast]
  rw [this]; exact ⟨hzn, hz⟩
end Go.Proofs.YtiliimkfobfbnaaGreat
