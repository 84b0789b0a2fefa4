/-
  Walks and plain laws of this seat, some texts in one.
  No condition but bounds on lengths.
-/
import Derived.Test.YtpdgpgbgakinlaaGreatPb37
import Derived.Test.YtpdgpgbgakinlaaGreatPb25
import Derived.Test.YtpdgpgbgakinlaaGreatPb29
import Derived.Test.YtpdgpgbgakinlaaGreatPb30
import Derived.Test.YtpdgpgbgakinlaaGreatPb8
import Derived.Deep.DeepCutAuto
namespace Go.Proofs.YtpdgpgbgakinlaaGreat
set_option maxRecDepth 100000
set_option linter.unusedVariables false
set_option linter.unusedSimpArgs false
open Go.RowKit
/-! ### tables that are read, whose blocks lie from lo on -/
def TbR (w : World) (lo : Nat) (a : Option Addr) (n : Nat) (F : List (List Int)) : Prop :=
  Tbl w a n F ∧ ∀ w' : World, w.heap.size ≤ w'.heap.size → (∀ k, lo ≤ k → k < w.heap.size → w'.heap[k]? = w.heap[k]?) → Tbl w' a n F
theorem TbR.own {w : World} {lo : Nat} {a : Option Addr} {n c : Nat} {vs : List SV} {F : List (List Int)} (h : OwnT w lo a n c vs F) : TbR w lo a n F :=
  ⟨h.tbl, fun w' hs hk => (h.keep fun g hg hl => hk g (h.blo g hg) hl).tbl⟩
theorem TbR.keep {w w' : World} {lo : Nat} {a : Option Addr} {n : Nat} {F : List (List Int)} (h : TbR w lo a n F) (hs : w.heap.size ≤ w'.heap.size) (hk : ∀ k, lo ≤ k → k < w.heap.size → w'.heap[k]? = w.heap[k]?) : TbR w' lo a n F :=
  ⟨h.2 w' hs hk, fun w'' hs2 hk2 => h.2 w'' (Nat.le_trans hs hs2) fun k h1 h2 => (hk2 k h1 (Nat.lt_of_lt_of_le h2 hs)).trans (hk k h1 h2)⟩
theorem TbR.grown {w w' : World} {lo b : Nat} {a : Option Addr} {n : Nat} {F : List (List Int)} (h : TbR w lo a n F) (hg : w.grownBy w' (some b)) (hb : b < lo) : TbR w' lo a n F :=
  h.keep hg.size fun k h1 h2 => hg.block k h2 (fun e => by cases e; omega)
theorem TbR.below {w w' : World} {lo : Nat} {a : Option Addr} {n : Nat} {F : List (List Int)} (h : TbR w lo a n F) (hb : Below w.heap.size w w') : TbR w' lo a n F :=
  h.keep hb.size fun k _ h2 => hb.block k h2
theorem TbR.mono {w : World} {lo lo' : Nat} {a : Option Addr} {n : Nat} {F : List (List Int)} (h : TbR w lo a n F) (hl : lo' ≤ lo) : TbR w lo' a n F :=
  ⟨h.1, fun w' hs hk => h.2 w' hs fun k h1 h2 => hk k (by omega) h2⟩
theorem TbR.setlo {w : World} {lo : Nat} {a : Option Addr} {n : Nat} {F : List (List Int)} (h : TbR w lo a n F) {p : Addr} (hp : p.block < lo) (u : Value) : TbR (w.setCell p u) lo a n F :=
  h.keep (by rw [size_set]; exact Nat.le_refl _) fun k h1 _ => Below.heap_setCell _ _ _ _ (by omega)
theorem Tbl.tail {w : World} {g n : Nat} {F : List (List Int)} (h : Tbl w (some ⟨g, 0, none⟩) n F) (hn : 1 ≤ n) : Tbl w (some ⟨g, 1, none⟩) (n - 1) (F.drop 1) := by
  refine ⟨by rw [List.length_drop, ← h.1], fun i hi => ?_⟩
  obtain ⟨b, off, ai, ni, ci, e, h1, h2, h3, h4⟩ := h.2 (1 + i) (by omega)
  cases e
  refine ⟨g, 1, ai, ni, ci, rfl, h1, by rw [Nat.zero_add] at h2; exact h2, ?_, h4⟩
  have : (F.drop 1).getD i [] = F.getD (1 + i) [] := by rw [List.getD_eq_getElem?_getD, List.getElem?_drop, ← List.getD_eq_getElem?_getD]
  rw [this]; exact h3
theorem TbR.tail {w : World} {lo g n c : Nat} {vs : List SV} {F : List (List Int)} (h : OwnT w lo (some ⟨g, 0, none⟩) n c vs F) (hn : 1 ≤ n) : TbR w lo (some ⟨g, 1, none⟩) (n - 1) (F.drop 1) :=
  ⟨h.tbl.tail hn, fun w' hs hk => ((h.keep fun g hg hl => hk g (h.blo g hg) hl).tbl).tail hn⟩
/-! ### matrices -/
theorem mx_tab {n : Nat} {m : Int} {v : Nat → Nat → Int} (hm : 1 ≤ m ∧ m ≤ 12) (h : ∀ x y, x < n → y < n → 0 ≤ v x y ∧ v x y < m) : isMx n m (tabF n v) = true := by
  unfold isMx rngB
  have h1 : decide (1 ≤ m) = true := by simpa using hm.1
  have h2 : decide (m ≤ 12) = true := by simpa using hm.2
  rw [h1, h2, tabF_len]
  simp only [Bool.and_self, decide_true, Bool.true_and]
  rw [List.all_eq_true]
  intro row hrow
  obtain ⟨x, hx, rfl⟩ := List.mem_iff_getElem.1 hrow
  rw [tabF_len] at hx
  have e : (tabF n v)[x] = (List.range n).map fun y => v x y := by
    have := tabF_get n v x hx
    rw [List.getD_eq_getElem?_getD, List.getElem?_eq_getElem (by rw [tabF_len]; exact hx)] at this
    exact this
  rw [e]
  unfold rowOk
  rw [List.length_map, List.length_range, List.all_eq_true.2]
  · simp
  · intro z hz
    obtain ⟨y, hy, rfl⟩ := List.mem_map.1 hz
    have := h x y hx (List.mem_range.1 hy)
    unfold rngB; simp; omega
theorem mx_mod {n : Nat} {m : Int} (hm : 1 ≤ m ∧ m ≤ 12) (v : Nat → Nat → Int) : isMx n m (tabF n fun x y => v x y % m) = true :=
  mx_tab hm fun x y _ _ => ⟨Int.emod_nonneg _ (by omega), Int.emod_lt_of_pos _ (by omega)⟩
theorem bnd_mx {n : Nat} {m : Int} (hm : 1 ≤ m ∧ m ≤ 12) (f g : List (List Int)) (gs : List Int) : isMx n m (bndL n m f g gs) = true := mx_mod hm _
theorem add_mx {n : Nat} {m : Int} (hm : 1 ≤ m ∧ m ≤ 12) (f g : List (List Int)) : isMx n m (tabF n (addE m f g)) = true := mx_mod hm _
theorem mx_len {n : Nat} {m : Int} {F : List (List Int)} (h : isMx n m F = true) : F.length = n := (isMx_sq h).2.1
theorem mx_rlen {n : Nat} {m : Int} {F : List (List Int)} (h : isMx n m F = true) {x : Nat} (hx : x < n) : (F.getD x []).length = n := ((isMx_sq h).2.2 x hx).1
theorem mx_at {n : Nat} {m : Int} {F : List (List Int)} (h : isMx n m F = true) {x y : Nat} (hx : x < n) (hy : y < n) : 0 ≤ (F.getD x []).getD y 0 ∧ (F.getD x []).getD y 0 < m := by
  obtain ⟨hm, h1, h2⟩ := isMx_sq h
  have := (h2 x hx).2 y hy
  rw [this.2]; omega
theorem mx_set {n : Nat} {m : Int} {F : List (List Int)} (h : isMx n m F = true) {x y : Nat} (hx : x < n) (hy : y < n) {z : Int} (h0 : 0 ≤ z) (h1 : z < m) : isMx n m (F.set x ((F.getD x []).set y z)) = true := by
  have hl := mx_len h
  have hmem : F.getD x [] ∈ F := by rw [List.getD_eq_getElem?_getD, List.getElem?_eq_getElem (by omega)]; exact List.getElem_mem _
  unfold isMx at h ⊢
  rw [Bool.and_eq_true, Bool.and_eq_true] at h ⊢
  obtain ⟨a1, a2, a3⟩ := h
  refine ⟨a1, by rw [List.length_set]; exact a2, ?_⟩
  rw [List.all_eq_true] at a3 ⊢
  intro r hr
  rcases List.mem_or_eq_of_mem_set hr with hr | rfl
  · exact a3 r hr
  · have h3 := a3 _ hmem
    unfold rowOk at h3 ⊢
    rw [Bool.and_eq_true, List.all_eq_true] at h3 ⊢
    refine ⟨by rw [List.length_set]; exact h3.1, fun q hq => ?_⟩
    rcases List.mem_or_eq_of_mem_set hq with hq | rfl
    · exact h3.2 q hq
    · unfold rngB; simp; omega
def MxD (b N : Nat) (w : World) (e : Ending) (w' : World) : Prop :=
  ∃ (a : Option Addr) (n c : Nat) (F : List (List Int)), e = .returned (.slice a n c) ∧ n ≤ 14 ∧ TbR w' w.heap.size a n F ∧ (n = N → ∃ vs, OwnT w' w.heap.size a n c vs F) ∧ Src w' b ∧ w.grownBy w' (some b)
set_option maxHeartbeats 64000000 in
theorem l18DrawMatrix_ok (b lo n n' : Nat) (m : Int) (a a' : Option Addr) (c c' : Nat) (f g : List (List Int)) (w : World) (hs : Src w b) (hlo : b < lo) (hlw : lo ≤ w.heap.size) (h1 : TbR w lo a n f) (h2 : TbR w lo a' n' g) (hn : n ≤ 14) (hn' : n' ≤ 14) (hm : -2 ≤ m ∧ m ≤ 13) :
    Calls Tryz.prog 79 #[.pointer (some ⟨b, 0, none⟩), sAgg a n c a' n' c', .int .i64 m] w (MxD b n w) := by
  have hlt := hs.lt
  obtain ⟨w0, hw0⟩ : ∃ w0, w.alloc (.cells #[.slice a n c, .slice a' n' c'] 26) = w0 := ⟨_, rfl⟩
  have hA : Loc w0 w.heap.size #[.slice a n c, .slice a' n' c'] 26 := by rw [← hw0]; exact Loc.new w rfl _ _
  have hb0 : Below w.heap.size w w0 := by rw [← hw0]; exact below_al (Below.refl _ _) _
  have hz0 : w.heap.size < w0.heap.size := hA.lt
  have hs0 := hs.below hb0
  have t1 := h1.below hb0
  have t2 := h2.below hb0
  have HW0 := Lib.hid hw0
  have HB0 := Lib.hid hb0
  clear hw0 hs h1 h2 hb0
  obtain ⟨hm1, hm2⟩ := hm
  go_enter Tryz.func79, Tryz.ntmps79
  have lA := hA.two
  go_upto_region 1 with fail
  rw [HW0.out]
  have hO := OwnT.fresh w0 rfl
  have hs1 := hs0.below (below_al (Below.refl w0.heap.size w0) (.cells #[] 27))
  have hG := World.grownBy_alloc w0 (.cells #[] 27) (some b)
  clear hs0
  go_wp2
  go_loopw [8, 9] (fun z x wr => ∃ (k : Nat) (az : Option Addr) (cz : Nat) (vz : List SV) (F : List (List Int)), k ≤ n ∧ x = .int .i64 k ∧ z = .slice az k cz ∧ OwnT wr w0.heap.size az k cz vz F ∧ Src wr b ∧ w0.grownBy wr (some b)) (fun _ x _ => n - (intOf x).toNat)
  case atStart => exact ⟨0, _, 0, [], [], Nat.zero_le _, rfl, rfl, hO, hs1, hG⟩
  case round =>
    clear hO hs1 hG
    obtain ⟨k, az, cz, vz, F, hk, rfl, rfl, hO, hs, hG⟩ := hrel
    have hzr := hG.size
    by_cases hlt2 : k < n
    · go_wp2_with fail
      refine (l14DrawList_ok b n m _ hs ⟨by omega, by omega⟩ (by omega)).mono ?_
      rintro e w3 ⟨a3, c3, q, rfl, _, _, ho3, hs3, hg3⟩
      have hO3 := hO.grownS hg3 (by omega)
      have hG3 := grown_trans hG hg3
      have hz3 := hg3.size
      have HZH := Lib.hid hO.uHi
      clear hO hs hG
      go_wp2_with (at_builtin; refine appT1g rfl rfl hO3 rfl (ho3.mono (by omega)) (fun g h1 h2 => by have h3 := HZH.out _ (.inl h1); have h4 := ho3.lo _ h2; omega) (fun i hi g h1 h2 => by have h3 := ho3.lo _ h1; have h4 := HZH.out _ (.inr ⟨i, hi, h2⟩); omega) rfl (by omega) (by omega) ?_; intro g' cc w9 hO9 hg9 hat9 hb9)
      go_roundw
      case rel => exact ⟨k + 1, _, _, _, _, by omega, by go_num, rfl, hO9, hs3.keepB hb9 (by omega), grown_below hG3 hb9 (Nat.le_refl _)⟩
      case measure => simp [intOf]; omega
    · obtain rfl : n = k := by omega
      have fin0 : ∀ V : World, V.heap.size = wr.heap.size → OwnT V w0.heap.size az n cz vz F → Src V b → w0.grownBy V (some b) → MxD b n w (.returned (.slice az n cz)) V := fun V _ h1 h2 h3 => ⟨az, n, cz, F, rfl, hn, (TbR.own h1).mono (by omega), fun _ => ⟨vz, h1.mono (by omega)⟩, h2, grown_trans (grown_of_below HB0.out (some b)) h3⟩
      have l4 := (hA.grown hG (by simp; omega)).two
      have t1r := t1.grown hG hlo
      have t2r := t2.grown hG hlo
      go_wp2_with fail
      refine (l02Is_any a n c a' n' c' f g _ t1r.1 t2r.1 (by omega) (by omega)).mono ?_
      rintro e w3 ⟨rfl, hb3⟩
      have hO3 := hO.below hb3
      have hs3 := hs.below hb3
      have hG3 := grown_trans hG (grown_of_below hb3 (some b))
      clear hO hs hG l4 t1r t2r fin0 hb3
      have fin0 : ∀ V : World, OwnT V w0.heap.size az n cz vz F → Src V b → w0.grownBy V (some b) → MxD b n w (.returned (.slice az n cz)) V := fun V h1 h2 h3 => ⟨az, n, cz, F, rfl, hn, (TbR.own h1).mono (by omega), fun _ => ⟨vz, h1.mono (by omega)⟩, h2, grown_trans (grown_of_below HB0.out (some b)) h3⟩
      cases hsol : isSol f g with
      | false =>
        go_wp2
        go_ret
        exact fin0 _ hO3 hs3 hG3
      | true =>
        obtain ⟨n1, n12, sf, sg⟩ := isSol_sq hsol
        have hfl : f.length = n := t1.1.len.symm
        have hgl : n' = n := by rw [t2.1.len, sg.len, hfl]
        subst hgl
        rw [hfl] at n1 n12 sf sg
        have HSOL := Lib.hid hsol; have HFL := Lib.hid hfl
        have SF := Lib.hid sf; have SG := Lib.hid sg
        clear hsol hfl sf sg
        cases hin : rngB 1 12 m with
        | false =>
          have HIN := Lib.hid (fun v => l01In_b m 1 12 false hin v)
          go_wp2_with fail
          refine (HIN.out _).mono ?_
          rintro e w4 ⟨rfl, rfl⟩
          go_wp2
          go_ret
          exact fin0 _ hO3 hs3 hG3
        | true =>
          have HIN := Lib.hid (fun v => l01In_b m 1 12 true hin v)
          have hmb : 1 ≤ m ∧ m ≤ 12 := by unfold rngB at hin; simpa using hin
          clear hin
          go_wp2_with fail
          refine (HIN.out _).mono ?_
          rintro e w4 ⟨rfl, rfl⟩
          go_wp2_with fail
          refine (l01Next_ok b 8 _ hs3 ⟨by omega, by omega⟩).mono ?_
          rintro e w5 ⟨x, rfl, _, _, hs5, hg5⟩
          have hO5 := hO3.grownS hg5 (by omega)
          have hG5 := grown_trans hG3 hg5
          have hz5 := hG5.size
          clear hO3 hs3 hG3 hg5 HIN
          by_cases hx0 : x = 0
          · subst hx0
            go_wp2
            go_ret
            exact fin0 _ hO5 hs5 hG5
          have hxb : (x == 0) = false := by simpa using hx0
          clear fin0 hO5
          have l5 := (hA.grown hG5 (by simp; omega)).two
          have HK : Hid (∀ gs : List Int, gs.length = n' → (∀ x ∈ gs, 0 ≤ x ∧ x < m) → rowOk n' m gs = true) := Lib.hid fun gs hl hx => by
            unfold rowOk
            rw [hl, List.all_eq_true.2]
            · simp
            · intro z hz
              have := hx z hz
              unfold rngB; simp; omega
          go_upto_region 9 with fail
          go_region_held3 (fun v => v.cell? ⟨w.heap.size, 0, none⟩ = some (.slice a n' c) ∧ v.cell? ⟨w.heap.size, 1, none⟩ = some (.slice a' n' c'))
            (first | exact k8 | exact k7 | exact ⟨l5.1, l5.2.1⟩ | go_keep)
            (first
              | (go_at_call 37; refine (l14DrawList_ok b n' m _ (hs5.below (below_drewN (Below.refl _ _) 1)) ⟨by omega, by omega⟩ (by omega)).mono ?_; rintro e w6 ⟨a6, c6, gs, rfl, hgs, _, ho6, hs6, hg6'⟩; have hg6 : w5.grownBy w6 (some b) := grown_trans (grown_of_below (below_drewN (Below.refl _ _) 1) (some b)) hg6'; have hG6 := grown_trans hG5 hg6; have hA6 := hA.grown hG6 (by simp; omega); have k7 : w6.cell? ⟨w.heap.size, 0, none⟩ = some (.slice a n' c) ∧ w6.cell? ⟨w.heap.size, 1, none⟩ = some (.slice a' n' c') := ⟨hA6.two.1, hA6.two.2.1⟩)
              | (go_at_call 125; refine (l18Bound_any m a n' c a' c' f g a6 c6 gs _ (t1.grown hG6 hlo).1 (t2.grown hG6 hlo).1 n1 n12 SF.out SG.out ho6.row hmb.1 hmb.2 (HK.out gs ho6.len.symm (hgs hmb.1))).mono ?_; rintro e w7 ⟨a7, c7, vs7, rfl, ho7, hb7⟩; have hA7 := hA6.below hb7 hA6.lt; have k8 : w7.cell? ⟨w.heap.size, 0, none⟩ = some (.slice a n' c) ∧ w7.cell? ⟨w.heap.size, 1, none⟩ = some (.slice a' n' c') := ⟨hA7.two.1, hA7.two.2.1⟩))
          all_goals
            have hG7 := grown_trans hG6 (grown_of_below hb7 (some b))
            have hs7 := hs6.below hb7
            have hO7 := ho7.mono (lo' := w0.heap.size) hG6.size
            have HM := Lib.hid (bnd_mx (n := n') hmb f g gs)
            clear hG5 hs5 l5 hG6 hs6 ho6 hgs ho7 hb7 hA6 hg6 HK
            generalize bndL n' m f g gs = F0 at hO7 HM
            have l7 := hA7.two
            have tg1 := (t1.grown hG7 hlo).1
            have tg2 := (t2.grown hG7 hlo).1
            go_wp2_with fail
            refine (l02Good_any n' a a' c c' f g _ tg1 tg2 SG.out n1 n12).mono ?_
            rintro e w8 ⟨B, rfl, hb8⟩
            have hG8 := grown_trans hG7 (grown_of_below hb8 (some b))
            have hs8 := hs7.below hb8
            have hO8 := hO7.below hb8
            clear hG7 hs7 hO7 hA7 l7 hb8 tg1 tg2
            go_upto_if 60 with fail
            go_cut [8] (fun s8 wx => ∃ (az : Option Addr) (cz : Nat) (vz : List SV) (F : List (List Int)), s8 = .slice az n' cz ∧ Hid (isMx n' m F = true) ∧ OwnT wx w0.heap.size az n' cz vz F ∧ Src wx b ∧ w0.grownBy wx (some b))
            case first => as_aux_lemma =>
              cases B with
              | false =>
                go_wp2
                go_meet
                exact ⟨_, _, _, _, rfl, HM, hO8, hs8, hG8⟩
              | true =>
                have l8 := (hA.grown hG8 (by simp; omega)).two
                go_wp2_with fail
                refine (l07Orbits_any n' a a' c c' f g _ (t1.grown hG8 hlo).1 (t2.grown hG8 hlo).1 SF.out SG.out n1 n12).mono ?_
                rintro e w9 ⟨la, lc, L, rfl, hL, hoL, hb9⟩
                have hG9 := grown_trans hG8 (grown_of_below hb9 (some b))
                have hs9 := hs8.below hb9
                have hO9 := hO8.below hb9
                have HFH := Lib.hid hO8.uHi
                have HLB := Lib.hid hL
                have hz8 := hG8.size
                have hz9 := hb9.size
                obtain ⟨NN, hNN⟩ : ∃ NN, n' * n' = NN := ⟨_, rfl⟩
                have hN144 : NN ≤ 144 := by rw [← hNN]; exact Nat.mul_le_mul n12 n12
                have hwN : IntKind.i64.wrap ((n' : Int) * (n' : Int)) = (NN : Int) := by rw [show (n' : Int) * (n' : Int) = (NN : Int) by rw [← hNN]; simp]; exact IntWalk.i64_in _ (by omega)
                have HNN := Lib.hid hNN
                clear hG8 hs8 hO8 l8 hL hb9 hNN
                go_wp2_with fail
                refine (l14DrawList_ok b NN m _ hs9 ⟨by omega, by omega⟩ (by omega)).mono ?_
                rintro e w10 ⟨wa, wcc, Wt, rfl, hWt, _, hoW, hs10, hg10⟩
                have hG10 := grown_trans hG9 hg10
                have hO10 := hO9.grownS hg10 (by omega)
                have hoL10 := hoL.grown hg10 (fun g e => by have := hoL.lo g e; simp; omega)
                have hoW10 := hoW.mono (lo' := w8.heap.size) hz9
                have HWT := Lib.hid (hWt hmb.1)
                have hz10 := hg10.size
                obtain ⟨gl, rfl⟩ := hoL10.headS (by omega)
                obtain ⟨gw, rfl⟩ := hoW10.headS (by have := HNN.out; have := Nat.mul_le_mul n1 n1; omega)
                have hgl := hoL10.lo gl rfl
                have hgw := hoW10.lo gw rfl
                clear hG9 hs9 hO9 hoL hoW hg10 hWt
                go_wp2
                go_loopw [12] (fun x wr => ∃ (k : Nat) (F : List (List Int)), k ≤ n' ∧ x = .int .i64 k ∧ Hid (isMx n' m F = true) ∧ OwnT wr w0.heap.size a7 n' c7 vs7 F ∧ Own wr w8.heap.size (some ⟨gl, 0, none⟩) n' lc L ∧ Own wr w8.heap.size (some ⟨gw, 0, none⟩) NN wcc Wt ∧ Src wr b ∧ w0.grownBy wr (some b)) (fun x _ => n' - (intOf x).toNat)
                case atStart => exact ⟨0, _, Nat.zero_le _, rfl, HM, hO10, hoL10, hoW10, hs10, hG10⟩
                case round =>
                  clear HM hO10 hoL10 hoW10 hs10 hG10
                  obtain ⟨k, F, hk, rfl, HM, hO, hoL, hoW, hs, hG⟩ := hrel
                  by_cases hlt3 : k < n'
                  · obtain ⟨gz, rfl⟩ := hO.head (by omega)
                    obtain ⟨_, e0, _, cc, _⟩ := hO.cells (by omega)
                    cases e0
                    have ck := cc k hlt3
                    have hrk := hO.row k hlt3
                    have hrl := hrk.len
                    rw [mx_rlen HM.out hlt3] at hrl
                    obtain ⟨gr, hgr⟩ := hrk.headS (by omega)
                    rw [hgr, hrl] at ck
                    generalize (vs7.getD k svO).2.2 = cr at ck
                    have HGR := Lib.hid hgr
                    have hgrh := HFH.out gr (.inr ⟨k, hlt3, hgr⟩)
                    have hgrl := hrk.lo gr hgr
                    have i1 : (0 : Int) ≤ (k : Int) := by omega
                    have i2 : (k : Int) < (n' : Int) := by omega
                    clear cc hrk hrl hgr
                    go_wp2
                    go_loopw [14] (fun y wr => ∃ (j : Nat) (F : List (List Int)), j ≤ n' ∧ y = .int .i64 j ∧ Hid (isMx n' m F = true) ∧ OwnT wr w0.heap.size (some ⟨gz, 0, none⟩) n' c7 vs7 F ∧ Own wr w8.heap.size (some ⟨gl, 0, none⟩) n' lc L ∧ Own wr w8.heap.size (some ⟨gw, 0, none⟩) NN wcc Wt ∧ Src wr b ∧ w0.grownBy wr (some b)) (fun y _ => n' - (intOf y).toNat)
                    case atStart => exact ⟨0, F, Nat.zero_le _, rfl, HM, hO, hoL, hoW, hs, hG⟩
                    case round =>
                      clear HM hO hoL hoW hs hG ck
                      obtain ⟨j, F, hj, rfl, HM, hO, hoL, hoW, hs, hG⟩ := hrel
                      by_cases hjt : j < n'
                      · have hrk := hO.row k hlt3
                        rw [HGR.out] at hrk
                        have hrl := hrk.len
                        rw [mx_rlen HM.out hlt3] at hrl
                        have c1 := hrk.cells.2.1 j (by rw [hrl]; exact hjt)
                        have f1 := hrk.cells.2.2 j
                        have hX := mx_at HM.out hlt3 hjt
                        obtain ⟨X, hXe⟩ : ∃ X, (F.getD k []).getD j 0 = X := ⟨_, rfl⟩
                        rw [hXe] at c1 hX
                        have c2 := hoL.cells.2.1 k hlt3
                        have c3 := hoL.cells.2.1 j hjt
                        have hLk := HLB.out.2 k hlt3
                        have hLj := HLB.out.2 j hjt
                        obtain ⟨LX, hLX⟩ : ∃ LX : Nat, L.getD k 0 = LX := ⟨(L.getD k 0).toNat, by have := hLk.2.2 hlt3; omega⟩
                        obtain ⟨LY, hLY⟩ : ∃ LY : Nat, L.getD j 0 = LY := ⟨(L.getD j 0).toNat, by have := hLj.2.2 hjt; omega⟩
                        rw [hLX] at c2 hLk
                        rw [hLY] at c3 hLj
                        obtain ⟨Q, hQ⟩ : ∃ Q, LX * n' = Q := ⟨_, rfl⟩
                        have hPN : LX * n' + LY < n' * n' := pairN (by omega) (by omega)
                        rw [hQ, HNN.out] at hPN
                        obtain ⟨P, hP⟩ : ∃ P, Q + LY = P := ⟨_, rfl⟩
                        rw [hP] at hPN
                        have e1 : IntKind.i64.wrap ((LX : Int) * (n' : Int)) = (Q : Int) := by rw [show (LX : Int) * (n' : Int) = (Q : Int) by rw [← hQ]; simp]; exact IntWalk.i64_in _ (by omega)
                        have e2 : IntKind.i64.wrap ((Q : Int) + (LY : Int)) = (P : Int) := by rw [show (Q : Int) + (LY : Int) = (P : Int) by omega]; exact IntWalk.i64_in _ (by omega)
                        have c4 := hoW.cells.2.1 P hPN
                        have hWb : 0 ≤ Wt.getD P 0 ∧ Wt.getD P 0 < m := HWT.out _ (by rw [List.getD_eq_getElem?_getD, List.getElem?_eq_getElem (by have := hoW.len; omega)]; exact List.getElem_mem _)
                        obtain ⟨WV, hWV⟩ : ∃ WV, Wt.getD P 0 = WV := ⟨_, rfl⟩
                        rw [hWV] at c4 hWb
                        obtain ⟨Z, hZ⟩ : ∃ Z, (X + WV) % m = Z := ⟨_, rfl⟩
                        have e3 : IntKind.i64.wrap (X + WV) = X + WV := IntWalk.i64_in _ (by omega)
                        have e4 : (X + WV).tmod m = Z := by rw [← hZ]; exact IntWalk.rem_in _ _ (by omega)
                        have HV : Hid (Int.tmod (IntKind.i64.wrap (X + WV)) m = Z) := Lib.hid (by rw [e3, e4])
                        have hZb : 0 ≤ Z ∧ Z < m := by rw [← hZ]; exact ⟨Int.emod_nonneg _ (by omega), Int.emod_lt_of_pos _ (by omega)⟩
                        have HM2 := Lib.hid (mx_set HM.out hlt3 hjt hZb.1 hZb.2)
                        have p0 : ¬ m = 0 := by omega
                        have p0b : (m == 0) = false := by simpa using p0
                        have j1 : (0 : Int) ≤ (j : Int) := by omega
                        have j2 : (j : Int) < (n' : Int) := by omega
                        have j3 : (0 : Int) ≤ (P : Int) := by omega
                        have j4 : (P : Int) < (NN : Int) := by omega
                        have hNs := (hO.drewN 1).setrow k hlt3 (g := gr) HGR.out j Z
                        have hLs := (hoL.drewN 1).setne (p := ⟨gr, j, none⟩) (fun g e => by cases e; show gl ≠ gr; omega) (.int .i64 Z)
                        have hWs := (hoW.drewN 1).setne (p := ⟨gr, j, none⟩) (fun g e => by cases e; show gw ≠ gr; omega) (.int .i64 Z)
                        have hSs := (hs.below (below_drewN (Below.refl _ _) 1)).setne (p := ⟨gr, j, none⟩) (by show b < gr; omega) (.int .i64 Z)
                        have hGs := grown_set (p := ⟨gr, j, none⟩) (grown_drewN hG 1) (.inr hgrl) (.int .i64 Z)
                        have HTS := Lib.hid (And.intro hNs (And.intro hLs (And.intro hWs (And.intro hSs hGs))))
                        clear hNs hLs hWs hSs hGs hO hoL hoW hs hG hXe hLX hLY hQ hP hWV hZ e3 e4 hrk hrl
                        go_wp2
                        refine wp_region_still_tail 24 (by kernel_rfl) (by kernel_rfl) ?_
                        change wpStill _ _ wr.drew (fun a' => wpList _ _ _ _ a' wr.drew) _ _
                        change Hid (OwnT (wr.drew.setCell ⟨gr, j, none⟩ (.int .i64 Z)) _ _ _ _ _ _ ∧ Own (wr.drew.setCell ⟨gr, j, none⟩ (.int .i64 Z)) _ _ _ _ _ ∧ Own (wr.drew.setCell ⟨gr, j, none⟩ (.int .i64 Z)) _ _ _ _ _ ∧ Src (wr.drew.setCell ⟨gr, j, none⟩ (.int .i64 Z)) _ ∧ w0.grownBy (wr.drew.setCell ⟨gr, j, none⟩ (.int .i64 Z)) (some b)) at HTS
                        have c11 : wr.drew.cell? _ = _ := c1
                        have c21 : wr.drew.cell? _ = _ := c2
                        have c31 : wr.drew.cell? _ = _ := c3
                        have c41 : wr.drew.cell? _ = _ := c4
                        have f11 : wr.drew.frozen? ⟨gr, j, none⟩ = false := f1
                        clear c1 c2 c3 c4 f1
                        generalize wr.drew = w19 at *
                        simp only [List.take_succ_cons, List.take_zero, List.drop_succ_cons, List.drop_zero]
                        repeat still_step
                        refine wpStill_nil ?_
                        try rw [HV.out]
                        go_wp2
                        go_roundw
                        case rel => exact ⟨j + 1, _, by omega, by go_num, HM2, HTS.out.1, HTS.out.2.1, HTS.out.2.2.1, HTS.out.2.2.2.1, HTS.out.2.2.2.2⟩
                        case measure => simp [intOf]; omega
                      · obtain rfl : n' = j := by omega
                        go_wp2
                        go_roundw
                        case rel => exact ⟨k + 1, F, by omega, by go_num, HM, hO, hoL, hoW, hs, hG⟩
                        case measure => simp [intOf]; omega
                  · obtain rfl : n' = k := by omega
                    go_wp2
                    go_meet
                    exact ⟨_, _, _, F, rfl, HM, hO, hs, hG⟩
            case rest =>
            obtain ⟨az, cz, vz, F1, rfl, HM1, hO1, hs1, hG1⟩ := hcut
            clear HM hO8 hs8 hG8
            go_upto_region 21 with fail
            go_cut [117] (fun s117 wx => ∃ t : Bool, s117 = .bool t ∧ (t = true → isPr m ∧ n' ≤ 5) ∧ OwnT wx w0.heap.size az n' cz vz F1 ∧ Src wx b ∧ w0.grownBy wx (some b))
            case first => as_aux_lemma =>
              by_cases hpr : isPr m
              · have HPR := Lib.hid hpr
                clear hpr
                go_wp2_with fail
                refine (l15Prime_ok m true (decide_eq_true HPR.out) _).mono ?_
                rintro e w9 ⟨rfl, rfl⟩
                by_cases h5 : n' ≤ 5
                · have hd : decide ((n' : Int) ≤ 5) = true := by simp; omega
                  have h5' : (n' : Int) ≤ 5 := by omega
                  go_wp2_with fail
                  refine (l01Next_ok b 2 _ hs1 ⟨by omega, by omega⟩).mono ?_
                  rintro e w10 ⟨y, rfl, _, _, hs10, hg10⟩
                  have hO10 := hO1.grownS hg10 (by omega)
                  have hG10 := grown_trans hG1 hg10
                  go_wp2
                  go_meet
                  exact ⟨_, rfl, fun _ => ⟨HPR.out, h5⟩, hO10, hs10, hG10⟩
                · have hd : decide ((n' : Int) ≤ 5) = false := by simp; omega
                  have h5' : ¬ (n' : Int) ≤ 5 := by omega
                  go_wp2
                  go_meet
                  exact ⟨_, rfl, fun q => by simp at q, hO1, hs1, hG1⟩
              · have HPR := Lib.hid hpr
                clear hpr
                go_wp2_with fail
                refine (l15Prime_ok m false (decide_eq_false HPR.out) _).mono ?_
                rintro e w9 ⟨rfl, rfl⟩
                go_wp2
                go_meet
                exact ⟨_, rfl, fun q => by simp at q, hO1, hs1, hG1⟩
            case rest =>
            obtain ⟨tt, rfl, htt, hO2, hs2, hG2⟩ := hcut
            clear hO1 hs1 hG1
            go_upto_if 117 with fail
            go_cut [8] (fun s8 wx => ∃ (az : Option Addr) (cz : Nat) (vz : List SV) (F : List (List Int)), s8 = .slice az n' cz ∧ Hid (isMx n' m F = true) ∧ OwnT wx w0.heap.size az n' cz vz F ∧ Src wx b ∧ w0.grownBy wx (some b))
            case first => as_aux_lemma =>
              cases tt with
              | false =>
                go_wp2
                go_meet
                exact ⟨_, _, _, _, rfl, HM1, hO2, hs2, hG2⟩
              | true =>
                obtain ⟨hpr, h5⟩ := htt rfl
                have HPR := Lib.hid hpr
                obtain ⟨M, rfl⟩ : ∃ M : Nat, m = M := ⟨m.toNat, by omega⟩
                have hM : 2 ≤ M ∧ M ≤ 7 := by unfold isPr at hpr; omega
                have hbk : wbF f g M = (wbL f g n' M, 0) := by have := wbF_0 HSOL.out hpr (by rw [HFL.out]; omega); rw [HFL.out] at this; exact this
                have HBS : Hid (∀ v : World, Tbl v a n' f → Tbl v a' n' g → Calls Tryz.prog 129 #[sAgg a n' c a' n' c', .int .i64 M] v (RetT v (wbL f g n' M) 0)) := Lib.hid fun v h1 h2 => by have := spec_Wb_l a n' c f a' n' c' g M v ⟨h1, h2⟩ ⟨by omega, by omega⟩ ⟨by omega, by omega⟩; rw [hbk] at this; exact this
                have HROW : Hid (∀ b, b ∈ wbL f g n' M → Vec M (n' * n') b) := Lib.hid fun b hb => by have := (wb_row HSOL.out hpr (b := b) (by rw [HFL.out]; exact hb)).1; rw [HFL.out] at this; exact this
                clear hpr hbk htt
                obtain ⟨B, hBe⟩ : ∃ B, wbL f g n' M = B := ⟨_, rfl⟩
                rw [hBe] at HBS HROW
                clear hBe
                have l2 := (hA.grown hG2 (by simp; omega)).two
                go_wp2_with fail
                refine (HBS.out _ (t1.grown hG2 hlo).1 (t2.grown hG2 hlo).1).mono ?_
                rintro e w9 ⟨a9, m9, c9, vs9, rfl, hoB, hb9⟩
                have hO9 := hO2.below hb9
                have hs9 := hs2.below hb9
                have hG9 := grown_trans hG2 (grown_of_below hb9 (some b))
                have hz2 := hG2.size
                have hz9 := hb9.size
                have hoB9 := hoB.mono (lo' := w0.heap.size) hz2
                have HBL := Lib.hid hoB9.len
                have hcB := hoB9.cap
                clear hO2 hs2 hG2 l2 hoB hb9 HBS
                go_wp2_with fail
                refine (l01Next_ok b 3 _ hs9 ⟨by omega, by omega⟩).mono ?_
                rintro e w10 ⟨y, rfl, _, hy, hs10, hg10⟩
                obtain ⟨hy1, hy2⟩ := hy (by omega)
                obtain ⟨K, rfl⟩ : ∃ K : Nat, y = K := ⟨y.toNat, by omega⟩
                have hO10 := hO9.grownS hg10 (by omega)
                have hoB10 := hoB9.grownS hg10 (by omega)
                have hG10 := grown_trans hG9 hg10
                clear hO9 hoB9 hs9 hG9 hg10 hy
                go_wp2
                go_loopw [8, 17] (fun s8 kk wx => ∃ (q : Nat) (az : Option Addr) (cz : Nat) (vz : List SV) (F : List (List Int)), q ≤ 2 ∧ kk = .int .i64 q ∧ s8 = .slice az n' cz ∧ Hid (isMx n' (M : Int) F = true) ∧ OwnT wx w0.heap.size az n' cz vz F ∧ OwnT wx w0.heap.size a9 m9 c9 vs9 B ∧ Src wx b ∧ w0.grownBy wx (some b)) (fun _ kk _ => (intOf kk).toNat)
                case atStart => exact ⟨K, _, _, _, _, by omega, rfl, rfl, HM1, hO10, hoB10, hs10, hG10⟩
                case round =>
                  clear HM1 hO10 hoB10 hs10 hG10
                  obtain ⟨q, az, cz, vz, F, hq, rfl, rfl, HM, hO, hoB, hs, hG⟩ := hrel
                  obtain ⟨V, rfl⟩ : ∃ V : World, V = wr := ⟨_, rfl⟩
                  by_cases hq0 : 0 < q
                  · have hq0' : (0 : Int) < (q : Int) := by omega
                    by_cases hm0 : 0 < m9
                    · have hm0' : (0 : Int) < (m9 : Int) := by omega
                      go_wp2_with fail
                      refine (l01Next_ok b (m9 : Int) _ hs ⟨by omega, by omega⟩).mono ?_
                      rintro e w11 ⟨x2, rfl, _, hx2, hs11, hg11⟩
                      obtain ⟨hx21, hx22⟩ := hx2 (by omega)
                      obtain ⟨X, rfl⟩ : ∃ X : Nat, x2 = X := ⟨x2.toNat, by omega⟩
                      have hXm : X < m9 := by omega
                      have hO11 := hO.grownS hg11 (by omega)
                      have hoB11 := hoB.grownS hg11 (by omega)
                      have hG11 := grown_trans hG hg11
                      obtain ⟨gB, rfl⟩ := hoB11.head (by omega)
                      obtain ⟨_, e0, _, cc, _⟩ := hoB11.cells (by omega)
                      cases e0
                      have ck := cc X hXm
                      have hrk := hoB11.row X hXm
                      have hVb := HROW.out (B.getD X []) (by rw [List.getD_eq_getElem?_getD, List.getElem?_eq_getElem (by have := HBL.out; omega)]; exact List.getElem_mem _)
                      obtain ⟨bb, hbb⟩ : ∃ bb, B.getD X [] = bb := ⟨_, rfl⟩
                      rw [hbb] at hrk hVb
                      have hrl := hrk.len
                      rw [hVb.1] at hrl
                      have hn2 : 1 ≤ n' * n' := Nat.mul_le_mul n1 n1
                      obtain ⟨gr, hgr⟩ := hrk.headS (by omega)
                      rw [hgr, hrl] at ck hrk
                      generalize (vs9.getD X svO).2.2 = cr at ck hrk
                      have hrw := hrk.row
                      have hcr := hrk.cap
                      have HVB := Lib.hid hVb
                      obtain ⟨N, hN⟩ : ∃ N, n' * n' = N := ⟨_, rfl⟩
                      rw [hN] at ck hrw hcr
                      have HN := Lib.hid hN
                      have hN25 : N ≤ 25 := by rw [← hN]; exact Nat.mul_le_mul h5 h5
                      clear cc hrk hVb hbb hrl hgr hn2 hN hO hoB hs hG hg11 hx2
                      have hK0 := OwnT.fresh w11 rfl
                      have hW0 := below_al (Below.refl w11.heap.size w11) (.cells #[] 27)
                      go_wp2
                      go_loopw [19, 20] (fun z x wr => ∃ (i : Nat) (ga : Option Addr) (gc : Nat) (vg : List SV), i ≤ n' ∧ x = .int .i64 i ∧ z = .slice ga i gc ∧ OwnT wr w11.heap.size ga i gc vg ((chL n' bb).take i) ∧ Below w11.heap.size w11 wr) (fun _ x _ => n' - (intOf x).toNat)
                      case atStart => exact ⟨0, _, 0, [], Nat.zero_le _, rfl, rfl, hK0, hW0⟩
                      case round =>
                        clear hK0 hW0 ck
                        obtain ⟨i, ga, gc, vg, hi, rfl, rfl, hK, hW⟩ := hrel
                        have hWs := hW.size
                        by_cases hit : i < n'
                        · have hl1 := rowN hit
                          obtain ⟨L, hL⟩ : ∃ L, i * n' = L := ⟨_, rfl⟩
                          obtain ⟨L2, hL2⟩ : ∃ L2, (i + 1) * n' = L2 := ⟨_, rfl⟩
                          have hLL : L2 - L = n' := by rw [← hL2, Nat.add_mul, hL]; omega
                          have hLL2 : L2 = L + n' := by rw [← hL2, Nat.add_mul, hL]; omega
                          have hcu := chL_take (R := bb) hit
                          rw [hL, HN.out] at hl1
                          rw [hL] at hcu
                          have hw1 : IntKind.i64.wrap ((i : Int) * (n' : Int)) = (L : Int) := by rw [show (i : Int) * (n' : Int) = (L : Int) by rw [← hL]; simp]; exact IntWalk.i64_in _ (by omega)
                          have hw2 : IntKind.i64.wrap ((i : Int) + 1) = (i : Int) + 1 := IntWalk.i64_in _ (by omega)
                          have hw3 : IntKind.i64.wrap (((i : Int) + 1) * (n' : Int)) = (L2 : Int) := by rw [show ((i : Int) + 1) * (n' : Int) = (L2 : Int) by rw [← hL2]; simp]; exact IntWalk.i64_in _ (by omega)
                          have q1 : (0 : Int) ≤ (L : Int) := by omega
                          have q2 : (L : Int) ≤ (L2 : Int) := by omega
                          have q3 : (L2 : Int) ≤ (N : Int) := by omega
                          have q4 : L ≤ L2 := by omega
                          have q5 : L2 ≤ cr := by omega
                          have q6 : ¬ cr = L := by omega
                          have q7 : ¬ (cr : Int) = (L : Int) := by omega
                          have q8 : (L2 : Int) ≤ (cr : Int) := by omega
                          have hrm := (hrw.below hW).mid2 L (L2 - L) (by omega)
                          have HCU : Hid ((chL n' bb).take (i + 1) = (chL n' bb).take i ++ [(bb.drop L).take (L2 - L)]) := Lib.hid (by rw [hLL]; exact hcu)
                          have HKH := Lib.hid hK.uHi
                          clear hcu hL hL2 hLL hl1 hLL2
                          go_wp2_with fail
                          refine (l01Own_any _ _ _ _ _ hrm (by omega)).mono ?_
                          rintro e w12 ⟨a12, c12, rfl, hO12, hb12⟩
                          have hK12 := hK.below hb12
                          have hz12 := hb12.size
                          go_wp2_with (at_builtin; refine appT1g rfl rfl hK12 rfl (hO12.mono (by omega)) (fun g h1 h2 => by have h3 := HKH.out _ (.inl h1); have h4 := hO12.lo _ h2; omega) (fun i hi g h1 h2 => by have h3 := hO12.lo _ h1; have h4 := HKH.out _ (.inr ⟨i, hi, h2⟩); omega) rfl (by omega) (by omega) ?_; intro g' cc w13 hO13 hg13 hat13 hb13)
                          go_roundw
                          case rel => exact ⟨i + 1, _, cc, _, by omega, by go_num, rfl, by rw [HCU.out]; exact hO13, (hW.trans (hb12.mono hWs)).trans hb13⟩
                          case measure => simp [intOf]; omega
                        · obtain rfl : n' = i := by omega
                          rw [List.take_of_length_le (by rw [chL_len]; exact Nat.le_refl _)] at hK
                          have hO13 := hO11.below hW
                          have hoB13 := hoB11.below hW
                          have hs13 := hs11.below hW
                          have hG13 := grown_trans hG11 (grown_of_below hW (some b))
                          have hcm := chL_mx (n := n') hmb HVB.out
                          clear hO11 hoB11 hs11 hG11 hW
                          go_wp2_with fail
                          refine (l18Plus_any (M : Int) _ _ n' n' _ _ F (chL n' bb) _ hO13.tbl hK.tbl n12 HM.out hcm).mono ?_
                          rintro e w14 ⟨a14, c14, vs14, rfl, ho14, hb14⟩
                          have hG14 := grown_trans hG13 (grown_of_below hb14 (some b))
                          have hz13 := hG13.size
                          have hwq : IntKind.i64.wrap ((q : Int) - 1) = (q : Int) - 1 := IntWalk.i64_in _ (by omega)
                          go_wp2
                          go_roundw
                          case rel => exact ⟨q - 1, _, _, _, _, by omega, by congr 1; omega, rfl, Lib.hid (add_mx hmb _ _), ho14.mono hz13, hoB13.below hb14, hs13.below hb14, hG14⟩
                          case measure => simp [intOf]; omega
                    · have hm0' : ¬ (0 : Int) < (m9 : Int) := by omega
                      obtain rfl : m9 = 0 := by omega
                      go_wp2
                      go_meet
                      exact ⟨_, _, _, F, rfl, HM, hO, hs, hG⟩
                  · obtain rfl : q = 0 := by omega
                    go_wp2
                    go_meet
                    exact ⟨_, _, _, F, rfl, HM, hO, hs, hG⟩
            case rest =>
            obtain ⟨az3, cz3, vz3, F3, rfl, HM3, hO3, hs3, hG3⟩ := hcut
            clear HM1 hO2 hs2 hG2 htt
            go_wp2_with fail
            refine (l01Next_ok b 20 _ hs3 ⟨by omega, by omega⟩).mono ?_
            rintro e w9 ⟨x2, rfl, _, _, hs9, hg9⟩
            have hO9 := hO3.grownS hg9 (by omega)
            have hG9 := grown_trans hG3 hg9
            clear hO3 hs3 hG3 hg9
            have hzG := hG9.size
            have fin : ∀ (V : World) (F : List (List Int)) (vs : List SV), OwnT V w0.heap.size az3 n' cz3 vs F → Src V b → w0.grownBy V (some b) → MxD b n' w (.returned (.slice az3 n' cz3)) V := fun V F vs h1 h2 h3 => ⟨az3, n', cz3, F, rfl, hn', (TbR.own h1).mono (by omega), fun _ => ⟨vs, h1.mono (by omega)⟩, h2, grown_trans (grown_of_below HB0.out (some b)) h3⟩
            have FIN := Lib.hid fin
            clear fin
            obtain ⟨gz, rfl⟩ := hO9.head (by omega)
            have hgz := hO9.low gz rfl
            have hgzh := hO9.high gz rfl
            have hni : (1 : Int) ≤ (n' : Int) := by omega
            have ROW : Hid (∀ (V : World) (F : List (List Int)), OwnT V w0.heap.size (some ⟨gz, 0, none⟩) n' cz3 vz3 F → isMx n' m F = true → ∀ x, x < n' → ∃ gr cr, vz3.getD x svO = (some ⟨gr, 0, none⟩, n', cr) ∧ w0.heap.size ≤ gr ∧ gr ≠ gz) := Lib.hid fun V F hO hM x hx => by
              have hr := hO.row x hx
              have hl := hr.len
              rw [mx_rlen hM hx] at hl
              obtain ⟨gr, hgr⟩ := hr.headS (by omega)
              exact ⟨gr, _, Prod.ext hgr (Prod.ext hl rfl), hr.lo gr hgr, fun e => by subst e; exact hO.ap x hx _ rfl hgr⟩
            by_cases y0 : x2 = 0
            · subst y0
              go_wp2_with fail
              refine (l01Next_ok b (n' : Int) _ hs9 ⟨by omega, by omega⟩).mono ?_
              rintro e w10 ⟨y, rfl, _, hy, hs10, hg10⟩
              obtain ⟨hy1, hy2⟩ := hy (by omega)
              obtain ⟨X, rfl⟩ : ∃ X : Nat, y = X := ⟨y.toNat, by omega⟩
              have hXn : X < n' := by omega
              have hO10 := hO9.grownS hg10 (by omega)
              have hG10 := grown_trans hG9 hg10
              obtain ⟨gr, cr, er, hgr, hgrz⟩ := ROW.out _ _ hO10 HM3.out X hXn
              obtain ⟨_, e0, _, cc, _⟩ := hO10.cells (by omega)
              cases e0
              have ck := cc X hXn
              rw [er] at ck
              have ER := Lib.hid er
              clear cc er hO9 hs9 hG9 hg10 hy
              go_wp2_with fail
              refine (l01Next_ok b (n' : Int) _ hs10 ⟨by omega, by omega⟩).mono ?_
              rintro e w11 ⟨y3, rfl, _, hy3, hs11, hg11⟩
              obtain ⟨hy31, hy32⟩ := hy3 (by omega)
              obtain ⟨J, rfl⟩ : ∃ J : Nat, y3 = J := ⟨y3.toNat, by omega⟩
              have hO11 := hO10.grownS hg11 (by omega)
              have hG11 := grown_trans hG10 hg11
              clear ck hO10 hs10 hG10 hg11 hy3
              go_wp2_with fail
              refine (l01Next_ok b m _ hs11 ⟨by omega, by omega⟩).mono ?_
              rintro e w12 ⟨z, rfl, _, _, hs12, hg12⟩
              have hO12 := hO11.grownS hg12 (by omega)
              have hG12 := grown_trans hG11 hg12
              have hrr := hO12.row X hXn
              rw [ER.out] at hrr
              have d7 := hrr.cells.2.1 J (show J < n' by omega)
              have k7 := hrr.cells.2.2 J
              clear hrr hO11 hs11 hG11 hg12
              have h8 := hO12.setrow X hXn (g := gr) (by rw [ER.out]) J z
              have hs8 := hs12.setne (p := ⟨gr, J, none⟩) (by show b < gr; omega) (.int .i64 z)
              have hG8 := grown_set (p := ⟨gr, J, none⟩) hG12 (.inr hgr) (.int .i64 z)
              go_wp2
              go_ret
              exact FIN.out _ _ _ h8 hs8 hG8
            have y0b : (x2 == 0) = false := by simpa using y0
            by_cases y1 : x2 = 1
            · subst y1
              obtain ⟨gr, cr, er, hgr, hgrz⟩ := ROW.out _ _ hO9 HM3.out 0 (by omega)
              obtain ⟨_, e0, _, cc, _⟩ := hO9.cells (by omega)
              cases e0
              have ck := cc 0 (by omega)
              rw [er] at ck
              have hrr := hO9.row 0 (by omega)
              rw [er] at hrr
              have d00 := hrr.cells.2.1 0 (show 0 < n' by omega)
              have k00 := hrr.cells.2.2 0
              have hgrh := hrr.hi gr rfl
              have ER := Lib.hid er
              have hM2 : 0 < n' := by omega
              have hM1 : (0 : Int) < (n' : Int) := by omega
              clear cc er hrr
              go_upto_region 37 with fail
              go_region_held3 (fun v => v.cell? ⟨gz, 0, none⟩ = some (.slice (some ⟨gr, 0, none⟩) n' cr))
                (first | exact c7 | exact c6 | exact ck | go_keep)
                (first | (go_at_call 39; refine (l01Pick_ok b _ _ _ [-1, m] _ (hs9.below (below_al (Below.refl _ _) _).drew) ((row_lit w9 _ _ [-1, m] rfl).drewN 1) (by simp) (by simp) (fun g o e => by cases e; have := hs9.lt; simp <;> omega)).mono ?_; rintro e w10 ⟨y, rfl, _, hs10, hg10⟩; have hO10 := ((hO9.alloc (.cells #[.int .i64 (-1), .int .i64 m] 2)).drewN 1).grownS hg10 (by omega); have hG10 := grown_trans (grown_drewN (grown_alloc hG9 (.cells #[.int .i64 (-1), .int .i64 m] 2)) 1) hg10; have hr2 := hO10.row 0 hM2; have d3 : w10.cell? ⟨gr, 0, none⟩ = some (.int .i64 ((F3.getD 0 []).getD 0 0)) := by { rw [ER.out] at hr2; exact hr2.cells.2.1 0 hM2 }; have k3 : w10.frozen? ⟨gr, 0, none⟩ = false := by { rw [ER.out] at hr2; exact hr2.cells.2.2 0 }; have c6 : w10.cell? ⟨gz, 0, none⟩ = some (.slice (some ⟨gr, 0, none⟩) n' cr) := (by { obtain ⟨_, e0, _, cc, _⟩ := hO10.cells hM2; cases e0; have := cc 0 hM2; rw [ER.out] at this; exact this }); have c7 : (w10.setCell ⟨gr, 0, none⟩ (.int .i64 y)).cell? ⟨gz, 0, none⟩ = some (.slice (some ⟨gr, 0, none⟩) n' cr) := cell_setne c6 (by show gz ≠ gr; omega) _))
              all_goals
                have h8 := hO10.setrow 0 hM2 (g := gr) (by rw [ER.out]) 0 y
                have hs8 := hs10.setne (p := ⟨gr, 0, none⟩) (by show b < gr; omega) (.int .i64 y)
                have hG8 := grown_set (p := ⟨gr, 0, none⟩) hG10 (.inr hgr) (.int .i64 y)
                go_wp2
                go_ret
                exact FIN.out _ _ _ h8 hs8 hG8
            have y1b : (x2 == 1) = false := by simpa using y1
            by_cases y2 : x2 = 2
            · subst y2
              have hcp := hO9.cap
              by_cases hc1 : cz3 = 1
              · subst hc1
                obtain rfl : n' = 1 := by omega
                go_wp2
                go_ret
                exact ⟨_, _, _, [], rfl, by omega, ⟨Tbl.nil _ _, fun _ _ _ => Tbl.nil _ _⟩, fun e => by simp at e, hs9, grown_trans (grown_of_below HB0.out (some b)) hG9⟩
              · have hcc : ¬ (cz3 : Int) = 1 := by omega
                have hRL := TbR.tail hO9 n1
                go_wp2
                go_ret
                exact ⟨_, _, _, _, rfl, by omega, hRL.mono (by omega), fun e => by omega, hs9, grown_trans (grown_of_below HB0.out (some b)) hG9⟩
            have y2b : (x2 == 2) = false := by simpa using y2
            go_wp2
            go_ret
            exact FIN.out _ _ _ hO9 hs9 hG9
end Go.Proofs.YtpdgpgbgakinlaaGreat
