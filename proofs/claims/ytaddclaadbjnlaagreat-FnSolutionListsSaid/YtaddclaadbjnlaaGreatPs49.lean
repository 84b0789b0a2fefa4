/-
  Walks and plain laws of this seat, some texts in one.
  No condition but bounds on lengths.
-/
import Derived.Test.YtaddclaadbjnlaaGreatPs48
import Derived.Test.YtaddclaadbjnlaaGreatPs39
import Derived.Test.YtaddclaadbjnlaaGreatPs47
import Derived.Test.YtaddclaadbjnlaaGreatPs18
import Derived.Test.YtaddclaadbjnlaaGreatPs34
import Derived.Test.YtaddclaadbjnlaaGreatPs20
import Derived.Test.YtaddclaadbjnlaaGreatPs45
import Derived.Deep.DeepCutAuto
import Derived.Test.YtaddclaadbjnlaaGreatPs46
import Derived.Test.YtaddclaadbjnlaaGreatPs43
import Derived.Test.YtaddclaadbjnlaaGreatPs15
namespace Go.Proofs.YtaddclaadbjnlaaGreat
set_option maxRecDepth 100000
set_option linter.unusedVariables false
set_option linter.unusedSimpArgs false
theorem cyf_iff {n : Nat} {t : List (List Int)} (hs : Sq n t) : cyfOk n t = true ↔ ∀ x y z, x < n → y < n → z < n → tv t (tv t x y) (tv t x z) = tv t (tv t y x) (tv t y z) := by
  have v : ∀ u v, u < n → v < n → cyV t u v = ((tv t u v : Nat) : Int) := fun u v hu hv => by unfold cyV; exact hs.val hu hv
  have key : ∀ x y z, x < n → y < n → z < n → (cyfP t x y z = true ↔ tv t (tv t x y) (tv t x z) = tv t (tv t y x) (tv t y z)) := fun x y z hx hy hz => by
    unfold cyfP
    rw [decide_eq_true_iff, v x y hx hy, v x z hx hz, v y x hy hx, v y z hy hz, Int.toNat_natCast, Int.toNat_natCast, Int.toNat_natCast, Int.toNat_natCast, v _ _ (hs.lt hx hy) (hs.lt hx hz), v _ _ (hs.lt hy hx) (hs.lt hy hz)]
    exact ⟨fun h => Int.ofNat.inj h, fun h => by rw [h]⟩
  constructor
  · intro h x y z hx hy hz
    exact (key x y z hx hy hz).1 (List.all_eq_true.1 (List.all_eq_true.1 (List.all_eq_true.1 h x (List.mem_range.2 hx)) y (List.mem_range.2 hy)) z (List.mem_range.2 hz))
  · intro h
    refine List.all_eq_true.2 fun x hx => List.all_eq_true.2 fun y hy => List.all_eq_true.2 fun z hz => ?_
    have hx := List.mem_range.1 hx; have hy := List.mem_range.1 hy; have hz := List.mem_range.1 hz
    exact (key x y z hx hy hz).2 (h x y z hx hy hz)
theorem cyf_rn {n : Nat} {t : List (List Int)} {p : List Int} (hs : Sq n t) (hp : IsP n p) (h : cyfOk n t = true) : cyfOk n (rnL n t p) = true := by
  rw [cyf_iff (rnL_sq hp hs)]
  rw [cyf_iff hs] at h
  obtain ⟨φ, ψ, hp⟩ := isP_of hp
  have A := fun a b (ha : a < n) (hb : b < n) => rnL_tv hp hs (x := a) (y := b) ha hb
  have k1 := fun i (hi : i < n) => (hp.2.1 i hi).1
  have k2 := fun i (hi : i < n) => (hp.2.1 i hi).2.1
  have k3 := fun i (hi : i < n) => (hp.2.1 i hi).2.2.2
  have k4 := fun a b (ha : a < n) (hb : b < n) => hs.lt (x := a) (y := b) ha hb
  intro x y z hx hy hz
  have e := h (ψ x) (ψ y) (ψ z) (k2 x hx) (k2 y hy) (k2 z hz)
  have c1 := k4 _ _ (k2 x hx) (k2 y hy)
  have c2 := k4 _ _ (k2 x hx) (k2 z hz)
  have c3 := k4 _ _ (k2 y hy) (k2 x hx)
  have c4 := k4 _ _ (k2 y hy) (k2 z hz)
  rw [A x y hx hy, A x z hx hz, A y x hy hx, A y z hy hz, A _ _ (k1 _ c1) (k1 _ c2), A _ _ (k1 _ c3) (k1 _ c4), k3 _ c1, k3 _ c2, k3 _ c3, k3 _ c4, e]
theorem sqr_iff {n : Nat} {t : List (List Int)} (hp : RwsP n t) : permOk (sqrL n t) = true ↔ ∀ x y, x < n → y < n → tv t x x = tv t y y → x = y := by
  have hs := hp.sq
  have v : ∀ u v, u < n → v < n → cyV t u v = ((tv t u v : Nat) : Int) := fun u v hu hv => by unfold cyV; exact hs.val hu hv
  rw [cyS_perm hp]
  constructor
  · intro h x y hx hy e
    have key : ∀ a b, b < n → a < b → tv t a a ≠ tv t b b := fun a b hb hab e => by
      have := List.all_eq_true.1 (List.all_eq_true.1 h b (List.mem_range.2 hb)) a (List.mem_range.2 hab)
      rw [v a a (by omega) (by omega), v b b hb hb, e] at this
      simp at this
    rcases Nat.lt_trichotomy x y with hlt | heq | hgt
    · exact absurd e (key x y hy hlt)
    · exact heq
    · exact absurd e.symm (key y x hx hgt)
  · intro h
    refine List.all_eq_true.2 fun x hx => List.all_eq_true.2 fun y hy => ?_
    have hx := List.mem_range.1 hx
    have hy := List.mem_range.1 hy
    rw [v y y (by omega) (by omega), v x x hx hx]
    rw [Bool.not_eq_true', decide_eq_false_iff_not]
    intro e
    have := h y x (by omega) hx (Int.ofNat.inj e)
    omega
theorem isP_rows {n : Nat} (h1 : 1 ≤ n) (h4 : n ≤ 4) {t : List (List Int)} : t ∈ allT (prmL n) n [] ↔ RwsP n t := by
  constructor
  · exact allT_rwsP h1 h4
  · intro h
    have := allT_of (ps := prmL n) n [] t h.1 (fun p hp => by
      obtain ⟨i, hi, rfl⟩ := List.getElem_of_mem hp
      have := h.2 i (by rw [← h.1]; exact hi)
      rw [List.getD_eq_getElem?_getD, List.getElem?_eq_getElem hi, Option.getD_some] at this
      exact prm_put h4 this)
    simpa using this
theorem rws_rn {n : Nat} {t : List (List Int)} {p : List Int} (h : RwsP n t) (hp : IsP n p) : RwsP n (rnL n t p) := by
  have hs := h.sq
  have hs2 := rnL_sq hp hs
  refine ⟨hs2.len, fun x hx => ?_⟩
  obtain ⟨f, g, hp⟩ := isP_of hp
  obtain ⟨F, G, hF⟩ := isP_of (h.2 (g x) (hp.2.1 x hx).2.1)
  refine ⟨fun y => f (F (g y)), fun y => f (G (g y)), hs2.row hx, fun y hy => ?_, fun y hy => ?_⟩
  · have a1 := hp.2.1 y hy
    have a2 := hF.2.1 (g y) a1.2.1
    have a3 := hp.2.1 (F (g y)) a2.1
    have a4 := hp.2.1 (G (g y)) a2.2.1
    refine ⟨a3.1, a4.1, ?_, ?_⟩
    · show f (F (g (f (G (g y))))) = y
      rw [a4.2.2.2, a2.2.2.1, a1.2.2.1]
    · show f (G (g (f (F (g y))))) = y
      rw [a3.2.2.2, a2.2.2.2, a1.2.2.1]
  · rw [hs2.val hx hy, rnL_tv hp hs hx hy]
    have a1 := (hp.2.1 y hy).2.1
    have := hF.2.2 (g y) a1
    rw [hs.val (hp.2.1 x hx).2.1 a1] at this
    have : tv t (g x) (g y) = F (g y) := Int.ofNat.inj this
    rw [this]
theorem cy_in {n : Nat} (h1 : 1 ≤ n) (h4 : n ≤ 4) {t : List (List Int)} : t ∈ rowL n (cycR n) ↔ RwsP n t ∧ isCyc n t = true := by
  rw [rowL_filter h1 (cycR_pre n), List.mem_filter, isP_rows h1 h4]
  exact ⟨fun ⟨a, b⟩ => ⟨a, by rw [← cycR_full a]; exact b⟩, fun ⟨a, b⟩ => ⟨a, by rw [cycR_full a]; exact b⟩⟩
theorem cy_rn {n : Nat} (h1 : 1 ≤ n) (h4 : n ≤ 4) : ∀ t, t ∈ rowL n (cycR n) → ∀ p, IsP n p → rnL n t p ∈ rowL n (cycR n) := by
  intro t ht p hp
  rw [cy_in h1 h4] at ht ⊢
  obtain ⟨hr, hc⟩ := ht
  have hr2 := rws_rn hr hp
  unfold isCyc at hc ⊢
  rw [Bool.and_eq_true] at hc ⊢
  refine ⟨hr2, ?_, cyf_rn hr.sq hp hc.2⟩
  have h := (sqr_iff hr).1 hc.1
  rw [sqr_iff hr2]
  obtain ⟨φ, ψ, hp⟩ := isP_of hp
  intro x y hx hy e
  have kx := hp.2.1 x hx
  have ky := hp.2.1 y hy
  rw [rnL_tv hp hr.sq hx hx, rnL_tv hp hr.sq hy hy] at e
  have e := congrArg ψ e
  rw [(hp.2.1 _ (hr.sq.lt kx.2.1 kx.2.1)).2.2.2, (hp.2.1 _ (hr.sq.lt ky.2.1 ky.2.1)).2.2.2] at e
  have e := congrArg φ (h _ _ kx.2.1 ky.2.1 e)
  rwa [kx.2.2.1, ky.2.2.1] at e
theorem cy_lens {n : Nat} (h1 : 1 ≤ n) (h4 : n ≤ 4) : ((rowL n (cycR n)).filter (lstB n)).length = [0, 1, 2, 5, 23].getD n 0 := by
  by_cases h : n = 4
  · subst h
    rw [cert_all h1 h4 (cycR_pre 4) (cy_rn h1 h4) cyR4_nd cyR4_ok (by rw [cyR4_sum, cy_len4])]
    rfl
  · have := cy_small ⟨n, by omega⟩ h1
    rw [this]
    have hq : n = 1 ∨ n = 2 ∨ n = 3 := by omega
    rcases hq with rfl | rfl | rfl <;> rfl
end Go.Proofs.YtaddclaadbjnlaaGreat
namespace Go.Proofs.YtaddclaadbjnlaaGreat
set_option maxRecDepth 100000
set_option linter.unusedVariables false
set_option linter.unusedSimpArgs false
open Go.RowKit
theorem posF_no {f g : List (List Int)} (h : isSol f g = false) : posF f g = (0, 1) := by unfold posF; rw [h]; rfl
theorem posF_big {f g : List (List Int)} (h : isSol f g = true) (h3 : ¬ f.length ≤ 3) : posF f g = (0, 3) := by unfold posF; rw [h, if_pos rfl, if_neg h3]
theorem posF_deg {f g : List (List Int)} (h : isSol f g = true) (h3 : f.length ≤ 3) (hd : ndF f g = false) : posF f g = (0, 5) := by unfold posF; rw [h, if_pos rfl, if_pos h3, hd]; rfl
theorem posF_in {f g : List (List Int)} (h : isSol f g = true) (h3 : f.length ≤ 3) (hd : ndF f g = true) : posF f g = (((posI (f, g) : Nat) : Int), 0) := by unfold posF; rw [h, if_pos rfl, if_pos h3, hd, if_pos rfl]
theorem TbS.pair {w : World} {b : Nat} (hb : b = w.heap.size) {a a' : Option Addr} {n n' c c' : Nat} {f g : List (List Int)} (h1 : Tbl w a n f) (h2 : Tbl w a' n' g) (hm1 : n ≤ 9223372036854775807) (hm2 : n' ≤ 9223372036854775807) (t : TypeId) :
    TbS (w.alloc (.cells #[.slice a n c, .slice a' n' c'] t)) (some ⟨b, 0, none⟩) 2 [f, g] := by
  have hL := Loc.new w hb #[.slice a n c, .slice a' n' c'] t
  have l := hL.two
  refine ⟨rfl, fun i hi => ?_⟩
  match i, hi with
  | 0, _ => exact ⟨b, 0, a, n, c, rfl, hL.lt, l.1, h1.alloc _, hm1⟩
  | 1, _ => exact ⟨b, 0, a', n', c', rfl, hL.lt, l.2.1, h2.alloc _, hm2⟩
def PosMade (w w1 : World) (L : List T2) (M : T2) (s4 s5 : Value) (wx : World) : Prop :=
  ∃ a1 k1 c1 a2 c2, s4 = .slice a1 k1 c1 ∧ s5 = .slice a2 2 c2 ∧ SbS wx a1 k1 L ∧ TbS wx a2 2 [M.1, M.2] ∧ k1 ≤ 1000000 ∧ Below w.heap.size w wx
set_option maxHeartbeats 8000000 in
theorem spec_Pos_l (a : Option Addr) (n c : Nat) (f : List (List Int)) (a' : Option Addr) (n' c' : Nat) (g : List (List Int)) (w : World) (h1 : Sol w a n f a' n' g) (hm : n ≤ 9223372036854775807 ∧ n' ≤ 9223372036854775807) :
    Calls Tryz.prog 33 #[sAgg a n c a' n' c'] w (RetI w (posF f g).1 (posF f g).2) := by
  have hA := Loc.new w rfl #[.slice a n c, .slice a' n' c'] 53
  have hB := below_al (Below.refl w.heap.size w) (.cells #[.slice a n c, .slice a' n' c'] 53)
  have f1' := h1.f.alloc (.cells #[.slice a n c, .slice a' n' c'] 53)
  have g1' := h1.s.alloc (.cells #[.slice a n c, .slice a' n' c'] 53)
  obtain ⟨hm1, hm2⟩ := hm
  have HN := Lib.hid h1.f.len
  have hNG := h1.s.len
  have lA := hA.two
  cases hk : isSol f g with
  | false =>
    rw [posF_no hk]
    have HK := Lib.hid hk; clear hk hNG
    go_enter Tryz.func33, Tryz.ntmps33
    go_wp2_with fail
    refine (l02Is_any _ _ _ _ _ _ f g _ f1' g1' hm1 hm2).mono ?_
    rintro e w1 ⟨rfl, hb1⟩
    rw [HK.out]
    go_wp2
    go_ret2
    exact ⟨rfl, below_th hB hb1⟩
  | true =>
    obtain ⟨n1, n12, sf, sg⟩ := isSol_sq hk
    rw [← HN.out] at n1 n12 sf sg
    obtain rfl : n = n' := by have := sg.len; omega
    have HSF := Lib.hid sf; have HSG := Lib.hid sg
    have HK := Lib.hid hk
    clear hNG
    by_cases h3 : n ≤ 3
    · cases hd : ndF f g with
      | false =>
        rw [posF_deg hk (by rw [← HN.out]; exact h3) hd]
        have HD := Lib.hid hd
        clear hk sf sg hd
        have hgt : ¬ (3 : Int) < (n : Int) := by omega
        go_enter Tryz.func33, Tryz.ntmps33
        go_wp2_with fail
        refine (l02Is_any _ _ _ _ _ _ f g _ f1' g1' hm1 hm2).mono ?_
        rintro e w1 ⟨rfl, hb1⟩
        rw [HK.out]
        have lA1 := (hA.below hb1 hA.lt).two
        go_wp2_with fail
        refine (l06Plain_any n _ _ _ _ f g _ (f1'.below hb1) (g1'.below hb1) HSF.out HSG.out n1 n12).mono ?_
        rintro e w2 ⟨rfl, hb2⟩
        rw [HD.out]
        go_wp2
        go_ret2
        exact ⟨rfl, below_th (below_th hB hb1) hb2⟩
      | true =>
        rw [posF_in hk (by rw [← HN.out]; exact h3) hd]
        obtain ⟨k0, hk0, ek0⟩ := pos_some hk (by rw [← HN.out]; exact h3) hd
        have HI := Lib.hid (fun k hk => posI_of (s := (f, g)) (k := k) hk)
        rw [← HN.out] at hk0 ek0
        obtain ⟨L, HL⟩ : ∃ L, Hid (slrL n = L) := ⟨_, Lib.hid rfl⟩
        obtain ⟨M, HM⟩ : ∃ M, Hid (lesL n (f, g) = M) := ⟨_, Lib.hid rfl⟩
        have HI2 : Hid (∀ k, k < L.length → L.getD k t2O = M → (∀ j, j < k → L.getD j t2O ≠ M) → posI (f, g) = k) := Lib.hid (by rw [← HL.out, ← HM.out, HN.out]; exact HI.out)
        clear HI
        rw [HL.out] at hk0 ek0
        rw [HM.out] at ek0
        have HLS : Hid (leaS n [f, g] = [M.1, M.2]) := Lib.hid (by
          have := lea_two (n := n) (s := (f, g)) sf.len sg.len
          rw [HM.out] at this
          exact this)
        have HLB : Hid (L.length ≤ 1000000) := Lib.hid (by rw [← HL.out]; exact slrL_bd n1 h3)
        have HD := Lib.hid hd
        have HK0 := Lib.hid (And.intro hk0 ek0)
        obtain ⟨R, HR⟩ : ∃ R : Nat, Hid (posI (f, g) = R) := ⟨_, Lib.hid rfl⟩
        rw [HR.out] at HI2
        rw [HR.out]
        clear hk sf sg hd hk0 ek0
        have hgt : ¬ (3 : Int) < (n : Int) := by omega
        go_enter Tryz.func33, Tryz.ntmps33
        go_wp2_with fail
        refine (l02Is_any _ _ _ _ _ _ f g _ f1' g1' hm1 hm2).mono ?_
        rintro e w0 ⟨rfl, hb0⟩
        rw [HK.out]
        have hA0 := hA.below hb0 hA.lt
        have lA0 := hA0.two
        have f0 := f1'.below hb0
        have g0 := g1'.below hb0
        have hB0 := below_th hB hb0
        clear hA hB f1' g1' lA
        go_wp2_with fail
        refine (l06Plain_any n _ _ _ _ f g _ f0 g0 HSF.out HSG.out n1 n12).mono ?_
        rintro e w1 ⟨rfl, hb1⟩
        rw [HD.out]
        have hA1 := hA0.below hb1 hA0.lt
        have lA1 := hA1.two
        have hB1 := below_th hB0 hb1
        have hlt1 := hA1.lt
        have ff1 := f0.below hb1
        have gg1 := g0.below hb1
        clear hA0 hB0 f0 g0 lA0 hb0 hb1
        go_upto_region 7 with fail
        go_cut [4, 5] (fun s4 s5 wx => PosMade w w1 L M s4 s5 wx)
        case first =>
          have tok1 : True := trivial
          have HSS : Hid (∀ k, k < 2 → Sq n (([f, g] : List (List (List Int))).getD k [])) := Lib.hid fun k hk => by
            match k, hk with
            | 0, _ => exact HSF.out
            | 1, _ => exact HSG.out
          go_region_held3 (fun w' => w'.cell? ⟨w.heap.size, 0, none⟩ = some (.slice a n c) ∧ w'.cell? ⟨w.heap.size, 1, none⟩ = some (.slice a' n c'))
            (first | exact ⟨lD.1, lD.2.1⟩ | exact ⟨lC.1, lC.2.1⟩ | exact ⟨lB'.1, lB'.2.1⟩ | exact ⟨lB.1, lB.2.1⟩ | exact ⟨lA1.1, lA1.2.1⟩ | go_keep)
            (first
              | (go_at_call 64; have _t := tok1; refine (l19Sorted_any n _ n1 h3).mono ?_; rintro e w2 ⟨a2, k2, c2, us2, rfl, ho2, hb2⟩; clear _t tok1; have tok2 : True := trivial; have hq2 : Below w1.heap.size w1 w2 := below_th (below_drewN (Below.refl _ _) 1) hb2; have hA2 := hA1.below hq2 hlt1; have lB := hA2.two; have lB' := (hA2.alloc (.cells #[.slice a n c, .slice a' n c'] 32)).two)
              | (go_at_call 64; have _t := tok1; refine (l19Sorted_any n _ n1 h3).mono ?_; rintro e w2 ⟨a2, k2, c2, us2, rfl, ho2, hb2⟩; clear _t tok1; have tok3 : True := trivial; have hq2 : Below w1.heap.size w1 w2 := below_alth (below_drewN (Below.refl _ _) 1) hb2; have hL2 : TbS w2 (some ⟨w1.heap.size, 0, none⟩) 2 [f, g] := (TbS.pair rfl (ff1.drewN 1) (gg1.drewN 1) hm1 hm2 _).below hb2; have hA2 := hA1.below hq2 hlt1; have lB := hA2.two)
              | (go_at_call 59; have _t := tok2; refine (l03Least_any n 2 (some ⟨w2.heap.size, 0, none⟩) 2 [f, g] _ (TbS.pair rfl (ff1.below hq2) (gg1.below hq2) hm1 hm2 _) n1 (by omega) (by omega) (by omega) HSS.out).mono ?_; rintro e w3 ⟨a3, c3, us3, rfl, ho3, hb3⟩; clear _t tok2; have hq3 : Below w2.heap.size w2 w3 := below_alth (Below.refl _ _) hb3; have lC := (hA2.below hq3 hA2.lt).two)
              | (go_at_call 59; have _t := tok3; refine (l03Least_any n 2 (some ⟨w1.heap.size, 0, none⟩) 2 [f, g] _ hL2 n1 (by omega) (by omega) (by omega) HSS.out).mono ?_; rintro e w3 ⟨a3, c3, us3, rfl, ho3, hb3⟩; clear _t tok3; have hq3 : Below w2.heap.size w2 w3 := hb3; have lC := (hA2.below hq3 hA2.lt).two))
          all_goals (rw [HL.out] at ho2; rw [HLS.out] at ho3; go_wp2_with fail; go_meet; exact ⟨a2, k2, c2, a3, c3, rfl, rfl, ho2.sbS.below hq3, ho3.tbS, by have := ho2.len; have := HLB.out; omega, hB1.trans ((hq2.mono hB1.size).trans (hq3.mono (Nat.le_trans hB1.size hq2.size)))⟩)
        case rest =>
          obtain ⟨a1, N, c1, a2, c2, rfl, rfl, tL, tM, hN1, hB2⟩ := hcut
          have HNL := Lib.hid tL.len
          go_wp2
          go_loopw [6] (fun i wr => ∃ k : Nat, k ≤ N ∧ i = .int .i64 k ∧ Hid (∀ j, j < k → L.getD j t2O ≠ M) ∧ Hid (∃ m, wr = wc.drewN m)) (fun i _ => N - (intOf i).toNat)
          case atStart => exact ⟨0, Nat.zero_le _, rfl, Lib.hid fun j hj => absurd hj (by omega), Lib.hid ⟨0, rfl⟩⟩
          case round =>
            obtain ⟨k, hk, rfl, HT, HW⟩ := hrel
            by_cases hlt : k < N
            · have tLr : SbS wr a1 N L := by obtain ⟨m, hm⟩ := HW.out; rw [hm]; exact tL.drewN m
              have tMr : TbS wr a2 2 [M.1, M.2] := by obtain ⟨m, hm⟩ := HW.out; rw [hm]; exact tM.drewN m
              obtain ⟨b3, a3, n3, c3, d3, m3, e3, rfl, lt3, g3, g3', r3, l3, l3'⟩ := tLr.2 k hlt
              obtain ⟨b4, o4, a4, n4, c4, rfl, g4, r4, l4⟩ := tMr.at 0 (by omega)
              obtain ⟨b5, o5, a5, n5, c5, e5, g5, r5, l5⟩ := tMr.at 1 (by omega)
              cases e5
              rw [Nat.add_zero] at g4
              have r4 : Tbl wr a4 n4 M.1 := r4
              have r5 : Tbl wr a5 n5 M.2 := r5
              obtain ⟨X, HX⟩ : ∃ X, Hid (L.getD k t2O = X) := ⟨_, Lib.hid rfl⟩
              rw [HX.out] at r3
              have j1 : (0 : Int) ≤ (k : Int) := by omega
              have j2 : (k : Int) < (N : Int) := by omega
              clear tLr tMr
              obtain ⟨D, HD1⟩ : ∃ D, Hid (decide (X.1 = M.1) = D) := ⟨_, Lib.hid rfl⟩
              obtain ⟨E, HE1⟩ : ∃ E, Hid (decide (X.2 = M.2) = E) := ⟨_, Lib.hid rfl⟩
              have HSA : Hid (∀ m, Calls Tryz.prog 60 #[.slice a3 n3 c3, .slice a4 n4 c4] (wr.drewN m) fun e w'' => e = .returned (.bool D) ∧ ∃ k, w'' = wr.drewN k) := Lib.hid fun m => (l01Same2_any a3 a4 n3 n4 c3 c4 X.1 M.1 (wr.drewN m) (r3.f.drewN m) (r4.drewN m) l3).mono fun e w'' ⟨he, k, hk⟩ => ⟨by rw [he, HD1.out], m + k, by rw [hk, World.drewN_drewN]⟩
              have HSB : Hid (∀ m, Calls Tryz.prog 60 #[.slice d3 m3 e3, .slice a5 n5 c5] (wr.drewN m) fun e w'' => e = .returned (.bool E) ∧ ∃ k, w'' = wr.drewN k) := Lib.hid fun m => (l01Same2_any d3 a5 m3 n5 e3 c5 X.2 M.2 (wr.drewN m) (r3.s.drewN m) (r5.drewN m) l3').mono fun e w'' ⟨he, k, hk⟩ => ⟨by rw [he, HE1.out], m + k, by rw [hk, World.drewN_drewN]⟩
              have HDE : Hid ((D && E) = decide (X = M)) := Lib.hid (by
                rw [← HD1.out, ← HE1.out, ← Bool.decide_and]
                exact decide_eq_decide.2 ⟨fun h => Prod.ext h.1 h.2, fun h => by rw [h]; exact ⟨rfl, rfl⟩⟩)
              cases D with
              | true =>
                cases E with
                | true =>
                  have HRK : Hid (R = k) := Lib.hid (HI2.out k (by have := HNL.out; omega) (by rw [HX.out]; exact of_decide_eq_true HDE.out.symm) HT.out)
                  go_wp2
                  go_quiet (first | (go_at_call 60; with_reducible exact HSA.out _) | (go_at_call 60; with_reducible exact HSB.out _))
                  go_wp2
                  go_ret2
                  exact ⟨by rw [HRK.out]; rfl, by obtain ⟨m, hm⟩ := HW.out; rw [hm]; exact below_drewN (below_drewN hB2 _) _⟩
                | false =>
                  go_wp2
                  go_quiet (first | (go_at_call 60; with_reducible exact HSA.out _) | (go_at_call 60; with_reducible exact HSB.out _))
                  go_wp2
                  go_roundw
                  case rel => exact ⟨k + 1, by omega, by go_num, Lib.hid fun j hj => by
                    by_cases e : j = k
                    · subst e; rw [HX.out]; exact of_decide_eq_false HDE.out.symm
                    · exact HT.out j (by omega), Lib.hid (by obtain ⟨m, hm⟩ := HW.out; exact ⟨m + nq, by rw [hm, World.drewN_drewN]⟩)⟩
                  case measure => simp [intOf]; omega
              | false =>
                go_wp2
                go_quiet (first | (go_at_call 60; with_reducible exact HSA.out _) | (go_at_call 60; with_reducible exact HSB.out _))
                go_wp2
                go_roundw
                case rel => exact ⟨k + 1, by omega, by go_num, Lib.hid fun j hj => by
                  by_cases e : j = k
                  · subst e; rw [HX.out]; exact of_decide_eq_false HDE.out.symm
                  · exact HT.out j (by omega), Lib.hid (by obtain ⟨m, hm⟩ := HW.out; exact ⟨m + nq, by rw [hm, World.drewN_drewN]⟩)⟩
                case measure => simp [intOf]; omega
            · exact absurd HK0.out.2 (HT.out k0 (by have := HK0.out.1; have := HNL.out; omega))
    · rw [posF_big hk (by rw [← HN.out]; exact h3)]
      have hgt : (3 : Int) < (n : Int) := by omega
      clear hk sf sg
      go_enter Tryz.func33, Tryz.ntmps33
      go_wp2_with fail
      refine (l02Is_any _ _ _ _ _ _ f g _ f1' g1' hm1 hm2).mono ?_
      rintro e w1 ⟨rfl, hb1⟩
      rw [HK.out]
      have lA1 := (hA.below hb1 hA.lt).two
      go_wp2
      go_ret2
      exact ⟨rfl, below_th hB hb1⟩
end Go.Proofs.YtaddclaadbjnlaaGreat
namespace Go.Proofs.YtaddclaadbjnlaaGreat
set_option maxRecDepth 100000
set_option linter.unusedVariables false
set_option linter.unusedSimpArgs false
theorem sfac_prm : ∀ n : Fin 5, 1 ≤ n.1 → (prmL n.1).length = facN n.1 := by decide +kernel
theorem ssum_take_le {α : Type} (f : α → Nat) (l : List α) (k : Nat) : ((l.take k).map f).sum ≤ (l.map f).sum := by
  have h : (l.map f).sum = ((l.take k ++ l.drop k).map f).sum := by rw [List.take_append_drop]
  rw [h, List.map_append, List.sum_append]; omega
theorem ssum_take_succ {α : Type} (f : α → Nat) (l : List α) (d : α) {k : Nat} (h : k < l.length) : ((l.take (k + 1)).map f).sum = ((l.take k).map f).sum + f (l.getD k d) := by
  rw [List.take_succ_eq_append_getElem h, List.map_append, List.sum_append]
  simp [List.getD_eq_getElem?_getD, List.getElem?_eq_getElem h]
theorem sfil_take_succ {α : Type} (p : α → Bool) (l : List α) (d : α) {k : Nat} (h : k < l.length) : ((l.take (k + 1)).filter p).length = ((l.take k).filter p).length + if p (l.getD k d) then 1 else 0 := by
  rw [List.take_succ_eq_append_getElem h, List.filter_append, List.length_append, List.getD_eq_getElem?_getD, List.getElem?_eq_getElem h, Option.getD_some]
  cases e : p l[k] <;> simp [e]
theorem sfil_take_le {α : Type} (p : α → Bool) (l : List α) (k : Nat) : ((l.take k).filter p).length ≤ k :=
  Nat.le_trans (List.length_filter_le _ _) (by rw [List.length_take]; omega)
def ivS (n : Nat) (s : T2) : Bool := ivlB n s.1 s.2
structure SoLs (n : Nat) (L : List T2) (C : List (List (List Int))) (T F : Nat) : Prop where
  asl : aslF n = (L, 0)
  sls : slsF n = ((T : Int), 0)
  acy : acyF n = (C, 0)
  even : (L.filter (ivS n)).length = C.length
  len : L.length ≤ 1000000
  mem : ∀ k, k < L.length → isSol (L.getD k t2O).1 (L.getD k t2O).2 = true ∧ ndF (L.getD k t2O).1 (L.getD k t2O).2 = true ∧ Sq2 n (L.getD k t2O) ∧ isPm (L.getD k t2O).1 (L.getD k t2O).2 = true
  sum : (L.map (gfS n)).sum = T
  bd : T ≤ 1000000
  fac : facN n = F ∧ F ≤ 24
  gf : ∀ s, Sq2 n s → 1 ≤ kpN (fun p s => rnS n s p) (prmL n) s ∧ kpN (fun p s => rnS n s p) (prmL n) s ≤ F ∧ gfS n s = F / kpN (fun p s => rnS n s p) (prmL n) s
theorem soLs_of {n : Nat} (h1 : 1 ≤ n) (h3 : n ≤ 3) : SoLs n (slrL n) ((rowL n (cycR n)).filter (lstB n)) (solL n).length (facN n) := by
  have hv : (1 : Int) ≤ (n : Int) ∧ (n : Int) ≤ 3 := by omega
  have hv4 : (1 : Int) ≤ (n : Int) ∧ (n : Int) ≤ 4 := by omega
  have hpb := prm_bd h1 (show n ≤ 4 by omega)
  have hpf := sfac_prm ⟨n, by omega⟩ h1
  have hc := cy_lens h1 (show n ≤ 4 by omega)
  have he := even_slr h1 h3
  refine ⟨by unfold aslF; rw [if_pos hv]; rfl, by unfold slsF; rw [if_pos hv]; rfl, by unfold acyF; rw [if_pos hv4]; rfl, ?_, slrL_bd h1 h3, fun k hk => ?_, sol_sum h1 h3, slsL_bd h1 h3, ⟨rfl, by rw [← hpf]; exact hpb.1⟩, fun s hs => ?_⟩
  · rw [hc]
    refine he.trans ?_
    have hq : n = 1 ∨ n = 2 ∨ n = 3 := by omega
    rcases hq with rfl | rfl | rfl <;> rfl
  · have hm : (slrL n).getD k t2O ∈ slrL n := by rw [List.getD_eq_getElem?_getD, List.getElem?_eq_getElem hk]; exact List.getElem_mem hk
    exact sol_mem h1 h3 (slr_mem h1 h3 hm)
  · refine ⟨kp_pos (rnS_wrk h1 (by omega)) hs, ?_, ?_⟩
    · rw [← hpf]; exact List.length_filter_le _ _
    · unfold gfS; rw [hpf]
theorem sol_place {f g : List (List Int)} {n : Nat} (hl : f.length = n) (h : isSol f g = true) (h3 : n ≤ 3) (hd : ndF f g = true) : 1 ≤ n ∧ Sq n f ∧ Sq n g ∧ isPm f g = true ∧ aslF n = (slrL n, 0) ∧ posI (f, g) < (slrL n).length ∧ (slrL n).length ≤ 1000000 ∧ Sq2 n ((slrL n).getD (posI (f, g)) t2O) ∧ isPm ((slrL n).getD (posI (f, g)) t2O).1 ((slrL n).getD (posI (f, g)) t2O).2 = true ∧ ∃ p, IsoL n [f, g] [((slrL n).getD (posI (f, g)) t2O).1, ((slrL n).getD (posI (f, g)) t2O).2] p := by
  obtain ⟨h1, hs, hp, hm, hi⟩ := sol_iso hl h h3 hd
  obtain ⟨_, _, q3, q4⟩ := sol_mem h1 h3 hm
  have hpm : isPm f g = true := by
    unfold isSol at h; rw [Bool.and_eq_true] at h
    first | exact h.1 | (rw [Bool.and_eq_true] at h; exact h.1.1)
  exact ⟨h1, hs.1, hs.2, hpm, by unfold aslF; rw [if_pos (by omega)]; rfl, hp, slrL_bd h1 h3, q3, q4, hi⟩
end Go.Proofs.YtaddclaadbjnlaaGreat
