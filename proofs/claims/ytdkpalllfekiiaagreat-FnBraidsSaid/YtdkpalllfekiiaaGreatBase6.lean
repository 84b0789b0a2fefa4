/-
  Walks and plain laws of this seat, some texts in one.
  No condition but bounds on lengths.
-/
import Derived.Test.YtdkpalllfekiiaaGreatGarW
import Derived.Test.YtdkpalllfekiiaaGreatGarN
import Derived.Test.YtdkpalllfekiiaaGreatBase2
import Derived.Test.YtdkpalllfekiiaaGreatActP
namespace Go.Proofs.YtdkpalllfekiiaaGreat
set_option maxRecDepth 100000
set_option linter.unusedVariables false
set_option linter.unusedSimpArgs false

/-- 1, then 2 1, then 3 2 1, and so on -/
def htW (n : Nat) : List Int := (List.range (n - 1)).flatMap fun i => (List.range (i + 1)).map fun k => ((i + 1 - k : Nat) : Int)
/-- each letter is a descent -/
def chkW (n : Nat) : List Int → List Int → Bool
  | p, [] => decide (p = unitL n)
  | p, x :: ws => decide (0 < x) && (decide (x.toNat < n) && (decide (p.getD x.toNat 0 < p.getD (x.toNat - 1) 0) && chkW n (swp p (x.toNat - 1)) ws))
theorem chkW_wd {n : Nat} : ∀ (ws : List Int) (q : Pm), Fx n q → chkW n (toL n q) ws = true → Wd n q ws := by
  intro ws
  induction ws with
  | nil =>
    intro q hq h
    have h1 : toL n q = unitL n := of_decide_eq_true h
    rw [unit_toL] at h1
    rw [toL_inj hq (Fx.one n) h1]
    exact .nil
  | cons x ws ih =>
    intro q hq h
    simp only [chkW, Bool.and_eq_true, decide_eq_true_eq] at h
    obtain ⟨h1, h2, h3, h4⟩ := h
    obtain ⟨k, hk⟩ : ∃ k : Nat, x = (k : Int) + 1 := ⟨(x - 1).toNat, by omega⟩
    subst hk
    have e1 : ((k : Int) + 1).toNat = k + 1 := by omega
    rw [e1] at h2 h3 h4
    rw [Nat.add_sub_cancel] at h3 h4
    rw [toL_get h2, toL_get (by omega)] at h3
    rw [swp_toL h2] at h4
    exact .cons q k ws (by unfold St; omega) (ih _ ((Fx.s h2).m hq) h4)
theorem htW_chk : ∀ n : Fin 7, 2 ≤ n.1 → chkW n.1 (unitL n.1).reverse (htW n.1) = true := by decide +kernel
theorem htW_len : ∀ n : Fin 7, (htW n.1).length = n.1 * (n.1 - 1) / 2 := by decide +kernel
theorem htW_wd {n : Nat} (h2 : 2 ≤ n) (h6 : n ≤ 6) : Wd n (Pm.tw n) (htW n) := by
  have := htW_chk ⟨n, by omega⟩ h2
  simp only [rev_toL] at this
  exact chkW_wd _ _ (tw_fx n) this
/-- the first descent of a list -/
def fstD (p : List Int) : Nat := (List.range (p.length - 1)).findIdx fun k => decide (p.getD (k + 1) 0 < p.getD k 0)
/-- the half twist, from which letters are taken -/
def htS (n : Nat) : Nat → List Int
  | 0 => (unitL n).reverse
  | s + 1 => swp (htS n s) (fstD (htS n s))
/-- one step of the program's loop -/
def htOk (n s : Nat) : Bool :=
  let p := htS n s; let k := fstD p
  decide (p.length = n) && (decide (k + 1 < n) && (decide (p.getD (k + 1) 0 < p.getD k 0) && ((List.range k).all (fun j => decide (p.getD j 0 < p.getD (j + 1) 0)) && decide ((htW n)[s]? = some ((k : Int) + 1)))))
theorem htS_ok : ∀ n : Fin 7, 2 ≤ n.1 → ((List.range (n.1 * (n.1 - 1) / 2)).all (htOk n.1)) = true := by decide +kernel
theorem htS_end : ∀ n : Fin 7, htS n.1 (n.1 * (n.1 - 1) / 2) = unitL n.1 := by decide +kernel
end Go.Proofs.YtdkpalllfekiiaaGreat

namespace Go.Proofs.YtdkpalllfekiiaaGreat
set_option maxRecDepth 100000
set_option linter.unusedVariables false
set_option linter.unusedSimpArgs false
open Go.RowKit

set_option maxHeartbeats 4000000 in
theorem impl_Bac_l (a : Option Addr) (n c : Nat) (f : List (List Int)) (a' : Option Addr) (n' c' : Nat) (g : List (List Int)) (s : Int) (ab : Option Addr) (nb cb : Nat) (xs : List Int) (al : Option Addr) (m cl : Nat) (l : List Int) (w : World)
    (h1 : Sol w a n f a' n' g) (hm : n ≤ 9223372036854775807 ∧ n' ≤ 9223372036854775807) (hs : I64 s) (hr : Row w ab nb xs) (hnb : nb ≤ 9223372036854775807) (hx : I64s xs) (hl : Row w al m l) (hml : m ≤ 9223372036854775807) (hxl : I64s l) :
    Calls Tryz.prog 20 #[sAgg a n c a' n' c', bAgg s ab nb cb, .slice al m cl] w (RetR w (bacF f g s xs l).1 (bacF f g s xs l).2) := by
  obtain ⟨hm1, hm2⟩ := hm
  have hA := (Loc.new w rfl #[.slice a n c, .slice a' n' c'] 42).alloc (.cells #[.int .i64 s, .slice ab nb cb] 26)
  have hE := Loc.new (w.alloc (.cells #[.slice a n c, .slice a' n' c'] 42)) rfl #[.int .i64 s, .slice ab nb cb] 26
  rw [size_alloc] at hE
  have hB := below_al (below_al (Below.refl w.heap.size w) (.cells #[.slice a n c, .slice a' n' c'] 42)) (.cells #[.int .i64 s, .slice ab nb cb] 26)
  by_cases hz : ckF f g s xs l = 0
  · obtain ⟨q1, q2, q3, q4⟩ := ckF_zero hz
    have hq : bacF f g s xs l = (actL f.length f g xs l, 0) := by unfold bacF; rw [if_pos hz]
    rw [hq]
    obtain ⟨hn1, hn12, sf, sg⟩ := isSol_sq q1
    have hcc := isSol_coll q1
    have hfl := h1.f.len
    have hl2 : n' = n := by rw [h1.s.len, hfl]; have := sg.len; omega
    subst hl2
    have hml2 := hl.len
    obtain rfl : s = (m : Int) := by omega
    rw [← hfl] at hn1 hn12 sf sg hcc q4 ⊢
    have HSF := Lib.hid sf; have HSG := Lib.hid sg; have HC := Lib.hid hcc; have H1 := Lib.hid q1; have H2 := Lib.hid q2; have HZ := Lib.hid hz; have HLE := Lib.hid q4
    clear q1 q2 q3 q4 hz sf sg hcc hfl hml2 hq
    go_enter Tryz.func20, Tryz.ntmps20
    go_wp2_with fail
    generalize (w.alloc (.cells #[.slice a n' c, .slice a' n' c'] 42)).alloc (.cells #[.int .i64 m, .slice ab nb cb] 26) = w0 at *
    refine (checkAction_any _ _ _ _ _ _ f g _ _ _ _ xs _ _ _ l _ (h1.f.below hB) (h1.s.below hB) hm1 hm2 hs (hr.below hB) hnb (hl.below hB) hml).mono ?_
    rintro e w1 ⟨rfl, hb1⟩
    rw [HZ.out]
    have hA1 := hA.below hb1 hA.lt
    have hE1 := hE.below hb1 hE.lt
    have hB1 := below_th hB hb1
    have lA := hA1.two
    have lE := hE1.two
    clear hA hE hB hb1
    have tok1 : True := trivial
    go_wp2
    go_region_held3 (fun w' => (w'.cell? ⟨w.heap.size, 0, none⟩ = some (.slice a n' c) ∧ w'.cell? ⟨w.heap.size, 1, none⟩ = some (.slice a' n' c')) ∧ w'.cell? ⟨w.heap.size + 1, 0, none⟩ = some (.int .i64 m) ∧ w'.cell? ⟨w.heap.size + 1, 1, none⟩ = some (.slice ab nb cb))
      (first | exact ⟨⟨lA3.1, lA3.2.1⟩, lE3.1, lE3.2.1⟩ | exact ⟨⟨lA2.1, lA2.2.1⟩, lE2.1, lE2.2.1⟩ | exact ⟨⟨lA.1, lA.2.1⟩, lE.1, lE.2.1⟩)
      (first
        | (go_at_call 46; refine (newAction_any _ _ _ _ _ f g _ ((h1.f.below hB1).drewN 1) ((h1.s.below hB1).drewN 1) H1.out hn12).mono ?_; rintro e w2 ⟨b, d, vs, b', d', vs', rfl, ho, hb2⟩; have hq2 : Below w1.heap.size w1 w2 := (Below.drew (Below.refl _ _)).trans hb2; have lA2 := (hA1.below hq2 hA1.lt).two; have lE2 := (hE1.below hq2 hE1.lt).two)
        | (go_at_call 47; refine (lead_any _ _ _ _ _ _ _ _ _ f g m _ _ _ xs _ _ l _ (h1.f.below (below_th hB1 hq2)) (h1.s.below (below_th hB1 hq2)) ho.f.tbl ho.s.tbl hn1 HSF.out HSG.out HC.out (hr.below (below_th hB1 hq2)) H2.out (hl.below (below_th hB1 hq2)) HLE.out).mono ?_; rintro e w3 ⟨ao, co, rfl, ho3, hb3⟩; have hq3 := below_th hq2 hb3; have lA3 := (hA1.below hq3 hA1.lt).two; have lE3 := (hE1.below hq3 hE1.lt).two))
    all_goals
      go_wp2
      go_ret2
      exact ⟨_, _, _, rfl, ho3.mono (below_th hB1 hq2).size, below_th hB1 hq3⟩
  · have hq : bacF f g s xs l = ([], ckF f g s xs l) := by unfold bacF; rw [if_neg hz]
    rw [hq]
    generalize hK : ckF f g s xs l = K at *
    have hb : (K != 0) = true := by simpa using hz
    have HK := Lib.hid hK
    clear hq hz hK
    go_enter Tryz.func20, Tryz.ntmps20
    go_wp2_with fail
    generalize (w.alloc (.cells #[.slice a n c, .slice a' n' c'] 42)).alloc (.cells #[.int .i64 s, .slice ab nb cb] 26) = w0 at *
    refine (checkAction_any _ _ _ _ _ _ f g _ _ _ _ xs _ _ _ l _ (h1.f.below hB) (h1.s.below hB) hm1 hm2 hs (hr.below hB) hnb (hl.below hB) hml).mono ?_
    rintro e w1 ⟨rfl, hb1⟩
    rw [HK.out]
    go_wp2
    go_ret2
    exact ⟨none, 0, 0, rfl, Own.nil _ _, below_th hB hb1⟩

end Go.Proofs.YtdkpalllfekiiaaGreat

namespace Go.Proofs.YtdkpalllfekiiaaGreat
set_option maxRecDepth 100000
set_option linter.unusedVariables false
set_option linter.unusedSimpArgs false
open Go.RowKit

set_option maxHeartbeats 400000 in
theorem impl_Ivb_no (s : Int) (a : Option Addr) (n c : Nat) (xs : List Int) (w : World) (h1 : Row w a n xs) (hm : n ≤ 9223372036854775807) (hb : isBr s xs = false) :
    Calls Tryz.prog 21 #[bAgg s a n c] w (RetB w 0 [] 1) := by
  have HB := Lib.hid hb; clear hb
  go_enter Tryz.func21, Tryz.ntmps21
  go_wp2_with fail
  refine (isBraid_any _ _ _ _ xs _ ((h1.alloc _).alloc _) hm).mono ?_
  rintro e w1 ⟨rfl, hb1⟩
  rw [HB.out]
  have hR : Loc w1 (w.heap.size + 1) _ _ := (Loc.new _ (by simp) _ _).below hb1 (by simp)
  have hB1 : Below w.heap.size w w1 := below_alth (below_al (Below.refl _ _) _) hb1
  have lR := hR.two
  go_wp2
  refine bodyPost_ret (v := .tuple #[bAgg 0 none 0 0, .int .i64 1]) (by simp [results, Tryz.results21, go_sem, lR]) rfl ⟨none, 0, 0, rfl, Own.nil _ _, ?_⟩
  exact ((hB1.setCell (by simp) _).setCell (by simp) _)

set_option maxHeartbeats 1000000 in
theorem impl_Ivb_ok (s : Int) (a : Option Addr) (n c : Nat) (xs : List Int) (w : World) (h1 : Row w a n xs) (hb : isBr s xs = true) :
    Calls Tryz.prog 21 #[bAgg s a n c] w (RetB w s (ivL xs) 0) := by
  obtain ⟨h26, h30, hlet⟩ := isBr_let hb
  have hl := h1.len
  have hn30 : n ≤ 30 := by omega
  have HX := Lib.hid (show ∀ x ∈ xs, -1000 ≤ x ∧ x ≤ 1000 from fun x hx => by have := hlet x hx; omega); clear hlet
  have HB := Lib.hid hb; clear hb
  have HL := Lib.hid hl; clear hl
  go_enter Tryz.func21, Tryz.ntmps21
  go_wp2_with fail
  refine (isBraid_any _ _ _ _ xs _ ((h1.alloc _).alloc _) (by omega)).mono ?_
  rintro e w1 ⟨rfl, hb1⟩
  rw [HB.out]
  have hA : Loc w1 w.heap.size _ _ := ((Loc.new _ (by simp) _ _).alloc _).below hb1 (by simp <;> omega)
  have hR : Loc w1 (w.heap.size + 1) _ _ := (Loc.new _ (by simp) _ _).below hb1 (by simp)
  have hr1 := ((h1.alloc _).alloc _).below hb1
  have hB1 : Below w.heap.size w w1 := below_alth (below_al (Below.refl _ _) _) hb1
  have lA := hA.two
  have lR := hR.two
  have z1 : w.heap.size + 1 < w1.heap.size := hR.lt
  have z0 : w.heap.size < w1.heap.size := hA.lt
  clear h1 hb1
  go_wp2_with fail
  refine (opposites_any _ _ _ xs _ hr1 (by omega) HX.out).mono ?_
  rintro e w2 ⟨a', c', rfl, ho, hb2⟩
  have hA := hA.below hb2 hA.lt
  have hR := hR.below hb2 hR.lt
  have hB2 := below_th hB1 hb2
  go_wp2_with fail
  refine (reverse_any _ _ _ _ _ _ ho).mono ?_
  rintro e w3 ⟨rfl, ho3, ht3⟩
  have hlo : ∀ k, a' = some ⟨k, 0, none⟩ → w1.heap.size ≤ k := ho.lo
  have hB3 := Touch.below hB2 ht3 (fun k h => by have := hlo k h; have := hB1.size; omega)
  have hA := (ht3.block w.heap.size (fun h => by have := hlo _ h; omega)).trans hA
  have hR := (ht3.block (w.heap.size + 1) (fun h => by have := hlo _ h; omega)).trans hR
  have hA : Loc w3 w.heap.size _ _ := hA
  have hR : Loc w3 (w.heap.size + 1) _ _ := hR
  have lA := hA.two
  have lR := hR.two
  go_wp2
  refine bodyPost_ret (v := .tuple #[bAgg s a' n c', .int .i64 0]) (by simp [results, Tryz.results21, go_sem, lR]) rfl ⟨a', _, c', rfl, ?_, ?_⟩
  · exact ((ho3.setlo (by first | omega | (simp <;> omega)) _).setlo (by first | omega | (simp <;> omega)) _).mono (by first | omega | (simp <;> omega))
  · exact (hB3.setCell (by simp) _).setCell (by simp) _
end Go.Proofs.YtdkpalllfekiiaaGreat

namespace Go.Proofs.YtdkpalllfekiiaaGreat
set_option maxRecDepth 100000
set_option linter.unusedVariables false
set_option linter.unusedSimpArgs false
open Go.RowKit

set_option maxHeartbeats 1000000 in
theorem impl_Bpm_ok (s : Nat) (a : Option Addr) (n c : Nat) (xs : List Int) (w : World) (h1 : Row w a n xs) (hb : isBr s xs = true) :
    Calls Tryz.prog 10 #[bAgg s a n c] w fun e w' => ∃ a' c', e = .returned (.tuple #[.slice a' s c', .int .i64 0]) ∧ Own w' w.heap.size a' s c' (brP s xs) ∧ Below w.heap.size w w' := by
  have HB := Lib.hid hb
  have hm : n ≤ 9223372036854775807 := by have := (isBr_let hb).2.1; have := h1.len; omega
  clear hb
  have hA := Loc.new w rfl #[.int .i64 s, .slice a n c] 26
  go_enter Tryz.func10, Tryz.ntmps10
  go_wp2_with fail
  refine (isBraid_any _ _ _ _ xs _ (h1.alloc _) hm).mono ?_
  rintro e w1 ⟨rfl, hb1⟩
  rw [HB.out]
  have hB1 : Below w.heap.size w w1 := below_alth (Below.refl _ _) hb1
  have hA1 := hA.below hb1 hA.lt
  have lA1 := hA1.two
  have hr1 := (h1.alloc (.cells #[.int .i64 s, .slice a n c] 26)).below hb1
  have hz1 := hb1.size
  rw [size_alloc] at hz1
  go_wp2_with fail
  refine (braidPermutation_any s a n c xs _ hr1 HB.out).mono ?_
  rintro e w2 ⟨a', c', rfl, ho, hb2⟩
  go_wp2
  go_ret2
  exact ⟨a', c', rfl, ho.mono (by omega), below_th hB1 hb2⟩
theorem brP_ht : ∀ n : Fin 7, brP n.1 (htW n.1) = (unitL n.1).reverse := by decide +kernel
theorem htW_br : ∀ n : Fin 7, 2 ≤ n.1 → isBr n.1 (htW n.1) = true := by decide +kernel
theorem ht_get (n i : Nat) (hi : i < n) : (unitL n).reverse.getD i 0 = ((n - 1 - i : Nat) : Int) := by
  rw [rev_toL, toL_get hi]
  show ((twf n i : Nat) : Int) = _
  rw [twf_in hi]
end Go.Proofs.YtdkpalllfekiiaaGreat
