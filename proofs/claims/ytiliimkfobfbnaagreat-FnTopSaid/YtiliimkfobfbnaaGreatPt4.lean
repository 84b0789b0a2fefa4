/-
  Walks and plain laws of this seat, some texts in one.
  No condition but bounds on lengths.
-/
import Derived.Test.YtiliimkfobfbnaaGreatPt2
import Derived.Deep.RegionHeld3
import Derived.Test.YtiliimkfobfbnaaGreatPt1
import Derived.Test.YtiliimkfobfbnaaGreatPt3
namespace Go.Proofs.YtiliimkfobfbnaaGreat
set_option maxRecDepth 100000
set_option linter.unusedVariables false
set_option linter.unusedSimpArgs false
open Go.RowKit
def tabF (n : Nat) (v : Nat → Nat → Int) : List (List Int) := (List.range n).map fun x => (List.range n).map fun y => v x y
theorem tabF_len (n : Nat) (v : Nat → Nat → Int) : (tabF n v).length = n := by simp [tabF]
theorem tabF_get (n : Nat) (v : Nat → Nat → Int) (x : Nat) (h : x < n) : (tabF n v).getD x [] = (List.range n).map fun y => v x y := by
  simp [tabF, List.getD_eq_getElem?_getD, List.getElem?_map, h]
theorem rowP_step (n : Nat) (f : Nat → Int) (j : Nat) (h : j < n) : (((List.range n).map f).take j ++ List.replicate (n - j) 0).set j (f j) = ((List.range n).map f).take (j + 1) ++ List.replicate (n - (j + 1)) 0 := by
  have hx : j < ((List.range n).map f).length := by simpa using h
  have e : (((List.range n).map f).take j).length = j := by rw [List.length_take]; omega
  rw [List.set_append_right _ _ (by omega), e, Nat.sub_self, List.take_succ_eq_append_getElem hx, List.append_assoc]
  congr 1
  obtain ⟨m, hm⟩ : ∃ m, n - j = m + 1 := ⟨n - j - 1, by omega⟩
  have hm' : n - (j + 1) = m := by omega
  rw [hm, hm', List.replicate_succ]
  simp
theorem tabP_get (n : Nat) (v : Nat → Nat → Int) (k : Nat) (hk : k < n) (y : List Int) (r : List (List Int)) : ((tabF n v).take k ++ y :: r).getD k [] = y := by
  have e : ((tabF n v).take k).length = k := by rw [List.length_take, tabF_len]; omega
  rw [List.getD_eq_getElem?_getD, List.getElem?_append_right (by omega), e, Nat.sub_self]; rfl
theorem tabP_set (n : Nat) (v : Nat → Nat → Int) (k : Nat) (hk : k < n) (y z : List Int) (r : List (List Int)) : ((tabF n v).take k ++ y :: r).set k z = (tabF n v).take k ++ z :: r := by
  have e : ((tabF n v).take k).length = k := by rw [List.length_take, tabF_len]; omega
  rw [List.set_append_right _ _ (by omega), e, Nat.sub_self]; rfl
theorem tabP_next (n : Nat) (v : Nat → Nat → Int) (k : Nat) (hk : k < n) (r : List (List Int)) : (tabF n v).take k ++ ((List.range n).map fun y => v k y) :: r = (tabF n v).take (k + 1) ++ r := by
  have hx : k < (tabF n v).length := by rw [tabF_len]; exact hk
  have hg := tabF_get n v k hk
  rw [Tbl.getD hx] at hg
  rw [List.take_succ_eq_append_getElem hx, hg, List.append_assoc]; rfl
theorem rep_cons (n k : Nat) (hk : k < n) : List.replicate (n - k) ([] : List Int) = [] :: List.replicate (n - (k + 1)) [] := by
  have : n - k = (n - (k + 1)) + 1 := by omega
  rw [this, List.replicate_succ]
set_option maxHeartbeats 2000000 in
theorem tableBy_any (f : FuncId) (caps : Array Value) (v : Nat → Nat → Int) (n : Nat) (w : World) (hn : n ≤ 1000000) (hcf : Ent f)
    (hf : ∀ x y, x < n → y < n → ∀ w1, Below w.heap.size w w1 → Calls Tryz.prog f (#[.int .i64 x, .int .i64 y] ++ caps) w1 fun e w' => e = .returned (.int .i64 (v x y)) ∧ Below w1.heap.size w1 w') :
    Calls Tryz.prog 69 #[.int .i64 n, .func (.func f) #[] caps] w fun e w' => ∃ a c vs, e = .returned (.slice a n c) ∧ OwnT w' w.heap.size a n c vs (tabF n v) ∧ Below w.heap.size w w' := by
  have hcf' : ∀ (args : Array Value) (w : World), (callFunc f args).run Tryz.prog w = .ok (.enter f args) w := hcf
  have HF := Lib.hid hf; clear hf
  go_enter Tryz.func69, Tryz.ntmps69
  go_wp2_with (at_make; refine makeT rfl rfl rfl rfl (by omega) ?_; intro w1 ho hs hb)
  go_loopw [12] (fun i wr => ∃ (k : Nat) (vs : List SV), k ≤ n ∧ i = .int .i64 k ∧ OwnT wr w.heap.size (some ⟨w.heap.size, 0, none⟩) n n vs ((tabF n v).take k ++ List.replicate (n - k) []) ∧ Below w.heap.size w wr) (fun i _ => n - (intOf i).toNat)
  case atStart => exact ⟨0, _, Nat.zero_le _, rfl, by simpa using ho, hb⟩
  case round =>
    clear ho hb
    obtain ⟨k, vs, hk, rfl, ho, hb⟩ := hrel
    by_cases hlt : k < n
    · have hszw : w.heap.size < wr.heap.size := ho.high _ rfl
      go_wp2_with (at_make; refine make1 rfl rfl rfl rfl (by omega) ?_; intro w2 ho2 hs2 hb2; have hot := ho.below hb2; obtain ⟨g', hg', hgl', hc', hf'⟩ := hot.cells (by omega); cases hg'; have hc1 := hc' k hlt; have hf1 := hf' k; clear hc' hf')
      have hp := hot.put k hlt (v := (some ⟨wr.heap.size, 0, none⟩, n, n)) (ho2.mono (Nat.le_of_lt hszw)) (fun e => by have h1 := ho.high _ rfl; simp only [Option.some.injEq, Addr.mk.injEq] at e; omega) (fun j hj _ g1 h1 h2 => by have h3 := ho2.lo _ h1; have h4 := (ho.row j hj).hi _ h2; omega)
      rw [rep_cons n k hlt, tabP_set n v k hlt] at hp
      have hb3 : Below w.heap.size w (w2.setCell ⟨w.heap.size, k, none⟩ (.slice (some ⟨wr.heap.size, 0, none⟩) n n)) := (hb.trans (hb2.mono (Nat.le_of_lt hszw))).setCell (Nat.le_refl _) _
      generalize hW3 : w2.setCell ⟨w.heap.size, k, none⟩ (.slice (some ⟨wr.heap.size, 0, none⟩) n n) = w3 at hp hb3 ⊢
      clear hW3 hc1 hf1 hot ho2 hb2 hs2
      obtain ⟨g', hg', hgl', hc', hf'⟩ := hp.cells (by omega)
      cases hg'
      have hc1 := hc' k hlt
      have hvs : (vs.set k (some ⟨wr.heap.size, 0, none⟩, n, n)).getD k svO = (some ⟨wr.heap.size, 0, none⟩, n, n) := by
        rw [getD_set' _ _ _ _ _ (by have := ho.vlen; omega), if_pos rfl]
      rw [hvs] at hc1
      have HVS := Lib.hid hvs
      clear hc' hf' hvs ho hb
      generalize hV : vs.set k (some ⟨wr.heap.size, 0, none⟩, n, n) = vs' at hp HVS
      clear hV
      go_wp2
      have hszw3 : wr.heap.size < w3.heap.size := by
        have := (hp.row k hlt).hi wr.heap.size (by rw [HVS.out])
        exact this
      generalize wr.heap.size = rb at *
      go_loopw [25] (fun i w4 => ∃ j : Nat, j ≤ n ∧ i = .int .i64 j ∧ OwnT w4 w.heap.size (some ⟨w.heap.size, 0, none⟩) n n vs' ((tabF n v).take k ++ (((List.range n).map fun y => v k y).take j ++ List.replicate (n - j) 0) :: List.replicate (n - (k + 1)) []) ∧ Below w.heap.size w w4) (fun i _ => n - (intOf i).toNat)
      case atStart => exact ⟨0, Nat.zero_le _, rfl, by simpa using hp, hb3⟩
      case round =>
        clear hp hb3 hc1 hszw3
        obtain ⟨j, hj, rfl, ho, hb⟩ := hrel
        obtain ⟨g', hg', hgl', hc', hf'⟩ := ho.cells (by omega)
        cases hg'
        have hc1 := hc' k hlt
        rw [HVS.out] at hc1
        clear hc' hf'
        have hne5 : (⟨w.heap.size, k, none⟩ : Addr).block ≠ (⟨rb, j, none⟩ : Addr).block := by show w.heap.size ≠ rb; omega
        by_cases hjt : j < n
        · go_wp2
          go_region_held3 (fun w' => w'.cell? ⟨w.heap.size, k, none⟩ = some (.slice (some ⟨rb, 0, none⟩) n n))
            (first | exact hc5 | exact cell_setne hc5 hne5 _ | exact hc1 | go_keep)
            (first
            | (refine (HF.out k j hlt hjt _ (below_drewN hb 1)).mono ?_; rintro e w5 ⟨rfl, hb5⟩; have ho5 := (ho.drewN 1).below hb5; have hB5 := below_th (below_drewN hb 1) hb5; have hc5 := (ho5.cells (by omega)).elim (fun g' h => by obtain ⟨h1, h2, h3, h4⟩ := h; have h5 := h3 k hlt; rw [HVS.out] at h5; cases h1; exact h5); have hr5 := ho5.row k hlt; rw [HVS.out, tabP_get n v k hlt] at hr5; have hcr := hr5.cells.2.1 j hjt; have hfr := hr5.cells.2.2 j; clear hr5))
          all_goals
            go_wp2
            go_roundw
            case rel =>
              refine ⟨j + 1, by omega, by go_num, ?_, hB5.setCell (by show _ ≤ rb; omega) _⟩
              have hq := ho5.setrow k hlt (g := rb) (by rw [HVS.out]) j (v k j)
              rw [tabP_get n v k hlt, tabP_set n v k hlt, rowP_step n (fun y => v k y) j hjt] at hq
              exact hq
            case measure => simp [intOf]; omega
        · obtain rfl : j = n := by omega
          go_wp2
          go_roundw
          case rel =>
            refine ⟨k + 1, vs', by omega, by go_num, ?_, hb⟩
            rw [List.take_of_length_le (l := (List.range j).map fun y => v k y) (by simp), Nat.sub_self, List.replicate_zero, List.append_nil, tabP_next _ v k hlt] at ho
            exact ho
          case measure => simp [intOf]; omega
    · obtain rfl : k = n := by omega
      go_wp2
      go_ret
      have e1 : (tabF k v).take k ++ List.replicate (k - k) [] = tabF k v := by
        rw [List.take_of_length_le (by rw [tabF_len]; omega), Nat.sub_self, List.replicate_zero, List.append_nil]
      rw [e1] at ho
      exact ⟨_, _, _, rfl, ho, hb⟩
def plc (x : Int) : Int := if x < 0 then -x - 1 else x - 1
def sgn (x : Int) : Int := if x < 0 then -1 else 1
theorem signOf_any (x : Int) (w : World) :
    Calls Tryz.prog 153 #[.int .i64 x] w fun e w' => e = .returned (.int .i64 (sgn x)) ∧ w' = w := by
  by_cases h : x < 0
  · have HE := Lib.hid (show sgn x = -1 from if_pos h)
    go_enter Tryz.func153, Tryz.ntmps153
    go_wp2
    go_ret
    exact ⟨ret_int HE.out.symm, rfl⟩
  · have HE := Lib.hid (show sgn x = 1 from if_neg h)
    go_enter Tryz.func153, Tryz.ntmps153
    go_wp2
    go_ret
    exact ⟨ret_int HE.out.symm, rfl⟩
theorem placeOf_any (x : Int) (w : World) (h1 : -1000 ≤ x) (h2 : x ≤ 1000) :
    Calls Tryz.prog 144 #[.int .i64 x] w fun e w' => e = .returned (.int .i64 (plc x)) ∧ w' = w := by
  have hp : plc x = x * sgn x - 1 := by unfold plc sgn; split <;> omega
  have hb : -1000 ≤ x * sgn x ∧ x * sgn x ≤ 1000 := by unfold sgn; split <;> omega
  have HP := Lib.hid hp; clear hp
  go_enter Tryz.func144, Tryz.ntmps144
  go_wp2_with fail
  refine (signOf_any _ _).mono ?_
  rintro e w' ⟨rfl, hw⟩
  subst hw
  go_wp2
  go_ret
  exact ⟨ret_int HP.out.symm, rfl⟩
end Go.Proofs.YtiliimkfobfbnaaGreat
namespace Go.Proofs.YtiliimkfobfbnaaGreat
set_option linter.unusedVariables false
set_option linter.unusedSimpArgs false
theorem inj_surj (N : Nat) : ∀ (f : Nat → Nat), (∀ i, i < N → f i < N) → (∀ i j, i < N → j < N → f i = f j → i = j) → ∀ j, j < N → ∃ i, i < N ∧ f i = j := by
  induction N with
  | zero => intro f _ _ j hj; omega
  | succ N ih =>
    intro f hlt hinj j hj
    by_cases hm : f N = j
    · exact ⟨N, by omega, hm⟩
    · have hne : ∀ i, i < N → f i ≠ f N := fun i hi e => by have := hinj i N (by omega) (by omega) e; omega
      have hNlt := hlt N (by omega)
      obtain ⟨F, hF⟩ : ∃ F : Nat → Nat, ∀ i, F i = if f i = N then f N else f i := ⟨_, fun _ => rfl⟩
      have h1 : ∀ i, i < N → F i < N := by
        intro i hi
        have a := hlt i (by omega)
        have b := hne i hi
        rw [hF]
        by_cases e : f i = N
        · rw [if_pos e]; omega
        · rw [if_neg e]; omega
      have h2 : ∀ i k, i < N → k < N → F i = F k → i = k := by
        intro i k hi hk e
        rw [hF, hF] at e
        have b1 := hne i hi
        have b2 := hne k hk
        by_cases e1 : f i = N
        · by_cases e2 : f k = N
          · exact hinj i k (by omega) (by omega) (by omega)
          · rw [if_pos e1, if_neg e2] at e; omega
        · by_cases e2 : f k = N
          · rw [if_neg e1, if_pos e2] at e; omega
          · rw [if_neg e1, if_neg e2] at e; exact hinj i k (by omega) (by omega) e
      by_cases hjN : j = N
      · subst hjN
        obtain ⟨i, hi, e⟩ := ih F h1 h2 (f j) (by omega)
        rw [hF] at e
        by_cases e1 : f i = j
        · exact ⟨i, by omega, e1⟩
        · rw [if_neg e1] at e; exact absurd e (hne i hi)
      · obtain ⟨i, hi, e⟩ := ih F h1 h2 j (by omega)
        rw [hF] at e
        by_cases e1 : f i = N
        · rw [if_pos e1] at e; exact absurd e hm
        · rw [if_neg e1] at e; exact ⟨i, by omega, e⟩
theorem pair_div {n x y : Nat} (hn : 1 ≤ n) (hy : y < n) : (x * n + y) / n = x := by
  rw [Nat.mul_comm, Nat.mul_add_div (by omega), Nat.div_eq_of_lt hy, Nat.add_zero]
theorem pair_mod {n x y : Nat} (hy : y < n) : (x * n + y) % n = y := by
  rw [Nat.mul_comm, Nat.mul_add_mod, Nat.mod_eq_of_lt hy]
theorem pair_lt {n x y : Nat} (hx : x < n) (hy : y < n) : x * n + y < n * n := by
  have : (x + 1) * n ≤ n * n := Nat.mul_le_mul_right n hx
  have e : (x + 1) * n = x * n + n := by rw [Nat.add_mul]; simp
  omega
def prN (n : Nat) (f g : List (List Int)) (u v : Nat) : Nat := ((List.range (n * n)).find? fun p => decide (tv f (p / n) (p % n) = u) && decide (tv g (p / n) (p % n) = v)).getD 0
theorem coll_inj {n : Nat} {f g : List (List Int)} (hc : collOk n f g = true) {p q : Nat} (hp : p < n * n) (hq : q < n * n) (h1 : tv f (p / n) (p % n) = tv f (q / n) (q % n)) (h2 : tv g (p / n) (p % n) = tv g (q / n) (q % n)) : p = q := by
  have := allN_get (allN_get hc hp) hq
  unfold collAt at this
  by_cases e : p = q
  · exact e
  · simp [e, h1, h2] at this
theorem prN_eq {n : Nat} {f g : List (List Int)} (hn : 1 ≤ n) (hc : collOk n f g = true) {x y u v : Nat} (hx : x < n) (hy : y < n) (h1 : tv f x y = u) (h2 : tv g x y = v) : prN n f g u v = x * n + y := by
  unfold prN
  have hlt := pair_lt hx hy
  have hP : (fun p => decide (tv f (p / n) (p % n) = u) && decide (tv g (p / n) (p % n) = v)) (x * n + y) = true := by
    show (decide (tv f ((x * n + y) / n) ((x * n + y) % n) = u) && decide (tv g ((x * n + y) / n) ((x * n + y) % n) = v)) = true
    rw [pair_div hn hy, pair_mod hy]; simp [h1, h2]
  cases hq : (List.range (n * n)).find? (fun p => decide (tv f (p / n) (p % n) = u) && decide (tv g (p / n) (p % n) = v)) with
  | none => rw [List.find?_eq_none] at hq; exact absurd hP (hq _ (List.mem_range.2 hlt))
  | some q =>
    have h3 := List.find?_some hq
    have h4 := List.mem_range.1 (List.mem_of_find?_eq_some hq)
    rw [Bool.and_eq_true, decide_eq_true_iff, decide_eq_true_iff] at h3
    show q = _
    refine coll_inj hc h4 hlt ?_ ?_
    · rw [pair_div hn hy, pair_mod hy, h1]; exact h3.1
    · rw [pair_div hn hy, pair_mod hy, h2]; exact h3.2
theorem pr_ex {n : Nat} {f g : List (List Int)} (hn : 1 ≤ n) (hf : Sq n f) (hg : Sq n g) (hc : collOk n f g = true) {u v : Nat} (hu : u < n) (hv : v < n) : ∃ x y, x < n ∧ y < n ∧ tv f x y = u ∧ tv g x y = v := by
  obtain ⟨p, hp, e⟩ := inj_surj (n * n) (fun p => tv f (p / n) (p % n) * n + tv g (p / n) (p % n))
    (fun p hp => pair_lt (hf.lt (div_lt_sq hp) (Nat.mod_lt _ hn)) (hg.lt (div_lt_sq hp) (Nat.mod_lt _ hn)))
    (fun p q hp hq e => by
      have bp := hg.lt (div_lt_sq hp) (Nat.mod_lt p hn)
      have bq := hg.lt (div_lt_sq hq) (Nat.mod_lt q hn)
      have e1 := congrArg (· / n) e
      have e2 := congrArg (· % n) e
      simp only [pair_div hn bp, pair_div hn bq, pair_mod bp, pair_mod bq] at e1 e2
      exact coll_inj hc hp hq e1 e2)
    (u * n + v) (pair_lt hu hv)
  have bp := hg.lt (div_lt_sq hp) (Nat.mod_lt p hn)
  have e1 := congrArg (· / n) e
  have e2 := congrArg (· % n) e
  simp only [pair_div hn bp, pair_mod bp, pair_div hn hv, pair_mod hv] at e1 e2
  exact ⟨p / n, p % n, div_lt_sq hp, Nat.mod_lt _ hn, e1, e2⟩
def bfT (n : Nat) (f g : List (List Int)) : List (List Int) := tabF n fun u v => ((prN n f g u v / n : Nat) : Int)
def bgT (n : Nat) (f g : List (List Int)) : List (List Int) := tabF n fun u v => ((prN n f g u v % n : Nat) : Int)
theorem tv_tabF (n : Nat) (V : Nat → Nat → Int) {x y : Nat} (hx : x < n) (hy : y < n) : ((tabF n V).getD x []).getD y 0 = V x y := by
  rw [tabF_get n V x hx]
  simp [List.getD_eq_getElem?_getD, List.getElem?_map, hy]
theorem Sq.tab {n : Nat} {V : Nat → Nat → Nat} (h : ∀ x y, x < n → y < n → V x y < n) : Sq n (tabF n fun x y => ((V x y : Nat) : Int)) := by
  refine ⟨tabF_len _ _, fun x hx => ⟨by rw [tabF_get _ _ x hx]; simp, fun y hy => ?_⟩⟩
  unfold tv
  rw [tv_tabF n _ hx hy]
  simp [h x y hx hy]
theorem tv_tab {n : Nat} {V : Nat → Nat → Nat} {x y : Nat} (hx : x < n) (hy : y < n) : tv (tabF n fun x y => ((V x y : Nat) : Int)) x y = V x y := by
  unfold tv; rw [tv_tabF n _ hx hy]; simp
theorem prN_lt {n : Nat} {f g : List (List Int)} (hn : 1 ≤ n) (hf : Sq n f) (hg : Sq n g) (hc : collOk n f g = true) {u v : Nat} (hu : u < n) (hv : v < n) : prN n f g u v < n * n := by
  obtain ⟨x, y, hx, hy, h1, h2⟩ := pr_ex hn hf hg hc hu hv
  rw [prN_eq hn hc hx hy h1 h2]; exact pair_lt hx hy
theorem bf_sq {n : Nat} {f g : List (List Int)} (hn : 1 ≤ n) (hf : Sq n f) (hg : Sq n g) (hc : collOk n f g = true) : Sq n (bfT n f g) := Sq.tab fun u v hu hv => div_lt_sq (prN_lt hn hf hg hc hu hv)
theorem bg_sq {n : Nat} {f g : List (List Int)} (hn : 1 ≤ n) : Sq n (bgT n f g) := Sq.tab fun u v hu hv => Nat.mod_lt _ hn
theorem bf_tv {n : Nat} {f g : List (List Int)} (hn : 1 ≤ n) (hc : collOk n f g = true) {x y u v : Nat} (hx : x < n) (hy : y < n) (hu : u < n) (hv : v < n) (h1 : tv f x y = u) (h2 : tv g x y = v) : tv (bfT n f g) u v = x := by
  unfold bfT; rw [tv_tab hu hv, prN_eq hn hc hx hy h1 h2, pair_div hn hy]
theorem bg_tv {n : Nat} {f g : List (List Int)} (hn : 1 ≤ n) (hc : collOk n f g = true) {x y u v : Nat} (hx : x < n) (hy : y < n) (hu : u < n) (hv : v < n) (h1 : tv f x y = u) (h2 : tv g x y = v) : tv (bgT n f g) u v = y := by
  unfold bgT; rw [tv_tab hu hv, prN_eq hn hc hx hy h1 h2, pair_mod hy]
theorem isSol_coll {f g : List (List Int)} (h : isSol f g = true) : collOk f.length f g = true := by
  unfold isSol at h; rw [Bool.and_eq_true, Bool.and_eq_true] at h; exact h.2.1
def stepL (n : Nat) (f g : List (List Int)) (x : Int) (l : List Int) : List Int := if 0 < x then doF f g (plc x).toNat l else doF (bfT n f g) (bgT n f g) (plc x).toNat l
def actL (n : Nat) (f g : List (List Int)) (xs : List Int) (l : List Int) : List Int := xs.foldl (fun l x => stepL n f g x l) l
theorem stepL_len (n : Nat) (f g : List (List Int)) (x : Int) (l : List Int) : (stepL n f g x l).length = l.length := by
  unfold stepL; split <;> exact doF_len _ _ _ _
theorem actL_take (n : Nat) (f g : List (List Int)) (xs : List Int) (l : List Int) (k : Nat) (h : k < xs.length) : actL n f g (xs.take (k + 1)) l = stepL n f g xs[k] (actL n f g (xs.take k) l) := by
  unfold actL; rw [List.take_succ_eq_append_getElem h, List.foldl_append]; rfl
theorem Less.step {n : Nat} {f g : List (List Int)} {l : List Int} (hn : 1 ≤ n) (hf : Sq n f) (hg : Sq n g) (hc : collOk n f g = true) (h : Less n l) (x : Int) (hx : (plc x).toNat + 1 < l.length) : Less n (stepL n f g x l) := by
  unfold stepL
  split
  · exact h.do_ hf hg _ hx
  · exact h.do_ (bf_sq hn hf hg hc) (bg_sq hn) _ hx
theorem Less.act {n : Nat} {f g : List (List Int)} {l : List Int} (hn : 1 ≤ n) (hf : Sq n f) (hg : Sq n g) (hc : collOk n f g = true) (h : Less n l) (xs : List Int) (hx : ∀ x ∈ xs, (plc x).toNat + 1 < l.length) : Less n (actL n f g xs l) := by
  unfold actL
  induction xs generalizing l with
  | nil => exact h
  | cons x r ih =>
    rw [List.foldl_cons]
    exact ih (h.step hn hf hg hc x (hx x (by simp))) (fun y hy => by rw [stepL_len]; exact hx y (by simp [hy]))
def permOk (p : List Int) : Bool := allN p.length fun x : Nat => p.contains (x : Int)
def permTo (p : List Int) (k : Nat) : Prop := (∀ i, i < k → 0 ≤ p.getD i 0 ∧ p.getD i 0 < p.length) ∧ ∀ i j, i < k → j < k → p.getD i 0 = p.getD j 0 → i = j
theorem getD_mem {p : List Int} {i : Nat} (h : i < p.length) : p.getD i 0 ∈ p := by
  rw [List.getD_eq_getElem?_getD, List.getElem?_eq_getElem h]; exact List.getElem_mem h
theorem permTo_ok {p : List Int} (h : permTo p p.length) : permOk p = true := by
  unfold permOk allN
  rw [List.all_eq_true]
  intro x hx
  have hx := List.mem_range.1 hx
  obtain ⟨i, hi, e⟩ := inj_surj p.length (fun i => (p.getD i 0).toNat) (fun i hi => by have := h.1 i hi; show (p.getD i 0).toNat < _; omega)
    (fun i j hi hj e => h.2 i j hi hj (by have a := h.1 i hi; have b := h.1 j hj; have e : (p.getD i 0).toNat = (p.getD j 0).toNat := e; omega)) x hx
  have a := h.1 i hi
  have e : (p.getD i 0).toNat = x := e
  have e2 : p.getD i 0 = (x : Int) := by omega
  rw [List.contains_iff_mem, ← e2]
  exact getD_mem hi
theorem permOk_to {p : List Int} (h : permOk p = true) : permTo p p.length := by
  have hm : ∀ x, x < p.length → ∃ i, i < p.length ∧ p.getD i 0 = (x : Int) := by
    intro x hx
    have := allN_get h hx
    rw [List.contains_iff_mem] at this
    obtain ⟨i, hi, e⟩ := List.getElem_of_mem this
    exact ⟨i, hi, by rw [List.getD_eq_getElem?_getD, List.getElem?_eq_getElem hi]; simpa using e⟩
  have H : ∀ x, ∃ i, x < p.length → i < p.length ∧ p.getD i 0 = (x : Int) := by
    intro x
    by_cases hx : x < p.length
    · obtain ⟨i, hi⟩ := hm x hx; exact ⟨i, fun _ => hi⟩
    · exact ⟨0, fun h => absurd h hx⟩
  obtain ⟨g, hg⟩ := Classical.axiomOfChoice H
  have hs := inj_surj p.length g (fun x hx => (hg x hx).1) (fun x y hx hy e => by have a := (hg x hx).2; have b := (hg y hy).2; rw [e] at a; omega)
  have hv : ∀ i, i < p.length → ∃ x, x < p.length ∧ g x = i ∧ p.getD i 0 = (x : Int) := by
    intro i hi
    obtain ⟨x, hx, e⟩ := hs i hi
    have := (hg x hx).2
    rw [e] at this
    exact ⟨x, hx, e, this⟩
  refine ⟨fun i hi => ?_, fun i j hi hj e => ?_⟩
  · obtain ⟨x, hx, _, e⟩ := hv i hi; omega
  · obtain ⟨x, hx, e1, e2⟩ := hv i hi
    obtain ⟨y, hy, e3, e4⟩ := hv j hj
    have : x = y := by omega
    subst this; omega
theorem permOk_out {p : List Int} {k : Nat} (hk : k < p.length) (h : ¬ (0 ≤ p.getD k 0 ∧ p.getD k 0 < p.length)) : permOk p = false := by
  cases hp : permOk p with
  | false => rfl
  | true => exact absurd ((permOk_to hp).1 k hk) h
theorem permOk_twice {p : List Int} {k i : Nat} (hk : k < p.length) (hi : i < k) (h : p.getD i 0 = p.getD k 0) : permOk p = false := by
  cases hp : permOk p with
  | false => rfl
  | true => have := (permOk_to hp).2 i k (by omega) hk h; omega
theorem permTo_succ {p : List Int} {k : Nat} (h : permTo p k) (h1 : 0 ≤ p.getD k 0 ∧ p.getD k 0 < p.length) (h2 : ∀ i, i < k → p.getD i 0 ≠ p.getD k 0) : permTo p (k + 1) := by
  refine ⟨fun i hi => ?_, fun i j hi hj e => ?_⟩
  · by_cases e : i = k
    · subst e; exact h1
    · exact h.1 i (by omega)
  · by_cases e1 : i = k
    · by_cases e2 : j = k
      · omega
      · subst e1; exact absurd e.symm (h2 j (by omega))
    · by_cases e2 : j = k
      · subst e2; exact absurd e (h2 i (by omega))
      · exact h.2 i j (by omega) (by omega) e
def seenL (p : List Int) (n k : Nat) : List Bool := (List.range n).map fun x : Nat => (p.take k).contains (x : Int)
theorem seenL_zero (p : List Int) (n : Nat) : seenL p n 0 = List.replicate n false := by
  apply List.ext_getElem
  · simp [seenL]
  · intro i h1 h2; simp [seenL]
theorem seenL_get (p : List Int) (n k x : Nat) (hx : x < n) : (seenL p n k).getD x false = (p.take k).contains (x : Int) := by
  simp [seenL, List.getD_eq_getElem?_getD, List.getElem?_map, hx]
theorem seenL_succ (p : List Int) (n k x : Nat) (hk : k < p.length) (hx : x < n) (h : p[k] = (x : Int)) : (seenL p n k).set x true = seenL p n (k + 1) := by
  apply List.ext_getElem
  · simp [seenL]
  · intro i h1 h2
    have hi : i < n := by simpa [seenL] using h2
    rw [List.getElem_set]
    simp only [seenL, List.getElem_map, List.getElem_range]
    rw [List.take_succ_eq_append_getElem hk]
    by_cases e : x = i
    · subst e; simp [h]
    · rw [if_neg e]
      have : ¬ (i : Int) = p[k] := by rw [h]; omega
      rw [Bool.eq_iff_iff, List.contains_iff_mem, List.contains_iff_mem, List.mem_append, List.mem_singleton]
      exact ⟨Or.inl, fun h => h.elim id (fun h => absurd h this)⟩
theorem seen_mem {p : List Int} {k : Nat} {x : Int} (h : (p.take k).contains x = true) (hk : k ≤ p.length) : ∃ i, i < k ∧ p.getD i 0 = x := by
  rw [List.contains_iff_mem] at h
  obtain ⟨i, hi, e⟩ := List.getElem_of_mem h
  rw [List.length_take] at hi
  refine ⟨i, by omega, ?_⟩
  rw [List.getElem_take] at e
  rw [List.getD_eq_getElem?_getD, List.getElem?_eq_getElem (by omega)]
  simpa using e
theorem not_seen {p : List Int} {k : Nat} {x : Int} (h : (p.take k).contains x = false) (hk : k ≤ p.length) : ∀ i, i < k → p.getD i 0 ≠ x := by
  intro i hi e
  have : x ∈ p.take k := by
    rw [List.mem_take_iff_getElem]
    refine ⟨i, by omega, ?_⟩
    rw [List.getD_eq_getElem?_getD, List.getElem?_eq_getElem (by omega)] at e
    simpa using e
  rw [← List.contains_iff_mem, h] at this
  exact Bool.noConfusion this
theorem rngB_t {lo hi x : Int} (h : rngB lo hi x = true) : lo ≤ x ∧ x ≤ hi := by unfold rngB at h; simpa using h
theorem rngB_f {lo hi x : Int} (h : rngB lo hi x = false) : ¬ (lo ≤ x ∧ x ≤ hi) := fun hh => by
  have : rngB lo hi x = true := by unfold rngB; simp [hh.1, hh.2]
  rw [this] at h; exact Bool.noConfusion h
/-! ### racks -/
def rkAt (t : List (List Int)) (x y z : Nat) : Bool := decide (tv t x (tv t y z) = tv t (tv t x y) (tv t x z))
def rkOk (n : Nat) (t : List (List Int)) : Bool := allN n fun x => allN n fun y => allN n fun z => rkAt t x y z
def isRk (t : List (List Int)) : Bool := isTab t && (t.all permOk && rkOk t.length t)
end Go.Proofs.YtiliimkfobfbnaaGreat
namespace Go.Proofs.YtiliimkfobfbnaaGreat
set_option maxRecDepth 100000
set_option linter.unusedVariables false
set_option linter.unusedSimpArgs false
open Go.RowKit
theorem info_bool : (Tryz.prog.info? 4).map (fun i => (i.zero, i.size, i.bytes)) = some (some (.bool false), 1, 1) := by kernel_rfl
theorem und_bools : Tryz.prog.underlying 99 = some (.slice 4) := by kernel_rfl
/-! ### A slice of truths that the call owns (its block lies from 'lo' on) -/
def OwnBo (w : World) (lo : Nat) (a : Option Addr) (n c : Nat) (xs : List Bool) : Prop := n = xs.length ∧ w.ownsRow lo 4 1 (.slice a n c) n (xs.map Value.bool)
theorem OwnBo.nil (w : World) (lo : Nat) : OwnBo w lo none 0 0 [] := ⟨rfl, World.ownsRow_nil w lo _ 1⟩
theorem OwnBo.len {w : World} {lo : Nat} {a : Option Addr} {n c : Nat} {xs : List Bool} (h : OwnBo w lo a n c xs) : n = xs.length := h.1
theorem OwnBo.alloc {w : World} {lo : Nat} {a : Option Addr} {n c : Nat} {xs : List Bool} (h : OwnBo w lo a n c xs) (o : Obj) : OwnBo (w.alloc o) lo a n c xs := ⟨h.1, h.2.alloc o⟩
theorem OwnBo.drew {w : World} {lo : Nat} {a : Option Addr} {n c : Nat} {xs : List Bool} (h : OwnBo w lo a n c xs) : OwnBo w.drew lo a n c xs := h
theorem OwnBo.drewN {w : World} {lo : Nat} {a : Option Addr} {n c : Nat} {xs : List Bool} (h : OwnBo w lo a n c xs) (k : Nat) : OwnBo (w.drewN k) lo a n c xs := h
theorem OwnBo.block {w : World} {lo : Nat} {a : Option Addr} {n c : Nat} {xs : List Bool} (h : OwnBo w lo a n c xs) : (a = none ∧ n = 0 ∧ c = 0) ∨ ∃ g cur, a = some ⟨g, 0, none⟩ ∧ lo ≤ g ∧ Loc w g cur 4 ∧ n ≤ c ∧ c ≤ maxLen ∧ cur.size = c ∧ cur.toList.take n = xs.map Value.bool := by
  rcases h.2.2 with ⟨h1, h2⟩ | ⟨g, cap, cur, h1, h2, h3, h4, h5, h6, h7⟩
  · cases h1; exact .inl ⟨rfl, rfl, rfl⟩
  · cases h1; exact .inr ⟨g, cur, rfl, h2, h3, h4, h5, by simpa using h6, by simpa using h7⟩
theorem OwnBo.mk {w : World} {lo : Nat} {g n c : Nat} {xs : List Bool} {cur : Array Value} (hn : n = xs.length) (h1 : lo ≤ g) (h2 : Loc w g cur 4) (h3 : n ≤ c) (h4 : c ≤ maxLen) (h5 : cur.size = c) (h6 : cur.toList.take n = xs.map Value.bool) : OwnBo w lo (some ⟨g, 0, none⟩) n c xs :=
  ⟨hn, by simp [hn], .inr ⟨g, c, cur, rfl, h1, h2, h3, h4, by simpa using h5, by simpa using h6⟩⟩
theorem OwnBo.lt {w : World} {lo : Nat} {g o n c : Nat} {xs : List Bool} (h : OwnBo w lo (some ⟨g, o, none⟩) n c xs) : lo ≤ g ∧ g < w.heap.size := by
  rcases h.block with ⟨h1, _⟩ | ⟨g', cur, h1, h2, h3, _⟩
  · cases h1
  · cases h1; exact ⟨h2, h3.lt⟩
theorem OwnBo.mono {w : World} {lo lo' : Nat} {a : Option Addr} {n c : Nat} {xs : List Bool} (h : OwnBo w lo a n c xs) (hl : lo' ≤ lo) : OwnBo w lo' a n c xs := by
  rcases h.block with ⟨rfl, rfl, rfl⟩ | ⟨g, cur, rfl, h2, h3, h4, h5, h6, h7⟩
  · have : xs = [] := List.eq_nil_of_length_eq_zero h.1.symm
    subst this; exact OwnBo.nil _ _
  · exact OwnBo.mk h.1 (by omega) h3 h4 h5 h6 h7
theorem OwnBo.keep {w w' : World} {lo : Nat} {a : Option Addr} {n c : Nat} {xs : List Bool} (h : OwnBo w lo a n c xs) (hk : ∀ g, a = some ⟨g, 0, none⟩ → g < w.heap.size → w'.heap[g]? = w.heap[g]?) : OwnBo w' lo a n c xs := by
  rcases h.block with ⟨rfl, rfl, rfl⟩ | ⟨g, cur, rfl, h2, h3, h4, h5, h6, h7⟩
  · have : xs = [] := List.eq_nil_of_length_eq_zero h.1.symm
    subst this; exact OwnBo.nil _ _
  · exact OwnBo.mk h.1 h2 ((hk g rfl h3.lt).trans h3) h4 h5 h6 h7
theorem OwnBo.below {w w' : World} {lo : Nat} {a : Option Addr} {n c : Nat} {xs : List Bool} (h : OwnBo w lo a n c xs) (hb : Below w.heap.size w w') : OwnBo w' lo a n c xs := h.keep fun g _ hlt => hb.block g hlt
theorem OwnBo.setne {w : World} {lo : Nat} {a : Option Addr} {n c : Nat} {xs : List Bool} (h : OwnBo w lo a n c xs) {p : Addr} (hp : ∀ g, a = some ⟨g, 0, none⟩ → g ≠ p.block) (u : Value) : OwnBo (w.setCell p u) lo a n c xs := h.keep fun g hg _ => Below.heap_setCell _ _ _ _ (hp g hg)
theorem OwnBo.setlo {w : World} {lo : Nat} {a : Option Addr} {n c : Nat} {xs : List Bool} (h : OwnBo w lo a n c xs) {p : Addr} (hp : p.block < lo) (u : Value) : OwnBo (w.setCell p u) lo a n c xs := by
  refine h.setne (fun g hg => ?_) u
  subst hg; have := h.lt; omega
theorem OwnBo.grown {w w' : World} {lo : Nat} {a : Option Addr} {n c : Nat} {xs : List Bool} {row : Option Nat} (h : OwnBo w lo a n c xs) (hg : w.grownBy w' row) (hne : ∀ g, a = some ⟨g, 0, none⟩ → some g ≠ row) : OwnBo w' lo a n c xs := h.keep fun g hg' hlt => hg.block g hlt (hne g hg')
theorem OwnBo.cap {w : World} {lo : Nat} {a : Option Addr} {n c : Nat} {xs : List Bool} (h : OwnBo w lo a n c xs) : n ≤ c ∧ c ≤ 9223372036854775807 := by
  rcases h.block with ⟨rfl, rfl, rfl⟩ | ⟨g, cur, rfl, h2, h3, h4, h5, h6, h7⟩
  · omega
  · unfold maxLen at h5; omega
theorem OwnBo.cells {w : World} {lo : Nat} {g o n c : Nat} {xs : List Bool} (h : OwnBo w lo (some ⟨g, o, none⟩) n c xs) : o = 0 ∧ (∀ i, i < n → w.cell? ⟨g, i, none⟩ = some (.bool (xs.getD i false))) ∧ (∀ i, w.frozen? ⟨g, i, none⟩ = false) := by
  rcases h.block with ⟨h1, _⟩ | ⟨g', cur, h1, h2, h3, h4, h5, h6, h7⟩
  · cases h1
  · cases h1
    refine ⟨rfl, fun i hi => h3.cell i ?_, fun i => h3.free i⟩
    have hx : (cur.toList.take n)[i]? = (xs.map Value.bool)[i]? := by rw [h7]
    have hxi : i < xs.length := by have := h.1; omega
    rw [List.getElem?_take, if_pos hi] at hx
    simp [List.getElem?_eq_getElem hxi] at hx
    simp [List.getD_eq_getElem?_getD, List.getElem?_eq_getElem hxi, hx]
theorem OwnBo.set {w : World} {lo : Nat} {g n c : Nat} {xs : List Bool} (h : OwnBo w lo (some ⟨g, 0, none⟩) n c xs) (i : Nat) (x : Bool) : OwnBo (w.setCell ⟨g, i, none⟩ (.bool x)) lo (some ⟨g, 0, none⟩) n c (xs.set i x) := by
  rcases h.block with ⟨h1, _⟩ | ⟨g', cur, h1, h2, h3, h4, h5, h6, h7⟩
  · cases h1
  · cases h1
    refine OwnBo.mk (by simp [h.1]) h2 (h3.set i _) h4 h5 (by simpa using h6) ?_
    rw [Array.toList_setIfInBounds, List.take_set, h7, List.map_set]
theorem OwnBo.hi {w : World} {lo : Nat} {a : Option Addr} {n c : Nat} {xs : List Bool} (h : OwnBo w lo a n c xs) : ∀ g, a = some ⟨g, 0, none⟩ → g < w.heap.size := fun g hg => by subst hg; exact h.lt.2
theorem OwnBo.lo {w : World} {lo : Nat} {a : Option Addr} {n c : Nat} {xs : List Bool} (h : OwnBo w lo a n c xs) : ∀ g, a = some ⟨g, 0, none⟩ → lo ≤ g := fun g hg => by subst hg; exact h.lt.1
theorem makeBo {ops : Array Oper} {rest : List Oper} {o : Oper} {a : Act} {Q : Exit → Act → World → Prop} {w : World} (hgd : o.guard = none) {l c : Operand}
    (ho : o.op = Op.makeSlice 99 l c) {n : Nat} (hl : a.eval l = .int .i64 n) (hc : a.eval c = .int .i64 n) (hn : n ≤ 1000000000000)
    (h : ∀ w', OwnBo w' w.heap.size (some ⟨w.heap.size, 0, none⟩) n n (List.replicate n false) → w.heap.size < w'.heap.size → Below w.heap.size w w' → wpList Tryz.prog ops Q rest (a.put o.dst (.slice (some ⟨w.heap.size, 0, none⟩) n n)) w') :
    wpList Tryz.prog ops Q (o :: rest) a w := by
  obtain ⟨i0, hi, hz0, hz1, hz2⟩ := info_parts info_bool
  refine wpList_make_full w hgd l c 99 ho w.heap.size 4 i0 (.bool false) 1 und_bools hi hz0 hz1 .i64 .i64 n n n hl hc rfl rfl (by rw [hz2]; omega) (by unfold maxLen; omega) (Nat.le_refl _) ?_
  intro w' ho' hg
  refine h w' ⟨by simp, ?_⟩ ?_ ((Below.refl _ _).grown hg (Nat.le_refl _) (by simp))
  · have e : (madeCells (Value.bool false).cells (n * 1)).toList = (List.replicate n false).map Value.bool := by
      rw [Nat.mul_one, List.map_replicate]; exact toList_madeCells_one _ _
    rw [e] at ho'; exact ho'
  · rcases ho'.2 with ⟨h1, _⟩ | ⟨g, cap, cur, h1, h2, h3, _⟩
    · cases h1
    · cases h1; exact lt_of_block h3
end Go.Proofs.YtiliimkfobfbnaaGreat
