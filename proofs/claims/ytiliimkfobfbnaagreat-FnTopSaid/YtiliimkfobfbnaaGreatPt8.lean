/-
  Walks and plain laws of this seat, some texts in one.
  No condition but bounds on lengths.
-/
import Derived.Test.YtiliimkfobfbnaaGreatPt3
import Derived.Test.YtiliimkfobfbnaaGreatPt4
import Derived.Test.YtiliimkfobfbnaaGreatPt5
import Derived.Test.YtiliimkfobfbnaaGreatPt6
import Derived.Deep.RegionHeld3
namespace Go.Proofs.YtiliimkfobfbnaaGreat
set_option maxRecDepth 100000
set_option linter.unusedVariables false
set_option linter.unusedSimpArgs false
open Go.RowKit
theorem rowOk_len {n m : Int} {xs : List Int} (h : (xs.length : Int) ≠ n) : rowOk n m xs = false := by unfold rowOk; simp [h]
theorem rowOk_mk {n m : Int} {xs : List Int} (h : (xs.length : Int) = n) : rowOk n m xs = xs.all (rngB 0 (m - 1)) := by unfold rowOk; simp [h]
set_option maxHeartbeats 2000000 in
theorem l01Table_any (a : Option Addr) (n c : Nat) (t : List (List Int)) (w : World) (h1 : Tbl w a n t) (hm : n ≤ 9223372036854775807) :
    Calls Tryz.prog 94 #[.slice a n c] w fun e w' => e = .returned (.bool (isTab t)) ∧ w = w' := by
  have hl := h1.len
  cases hp : rngB 1 12 n with
  | false =>
    have hq : isTab t = false := by unfold isTab; rw [← hl, hp]; rfl
    have HQ := Lib.hid hq
    have HC := Lib.hid (fun w => l01In_b n 1 12 false hp w); clear hp hl hq
    go_enter Tryz.func94, Tryz.ntmps94
    go_wp2_with fail
    refine (HC.out _).mono ?_
    rintro e w' ⟨rfl, rfl⟩
    go_wp2
    go_ret
    exact ⟨ret_bool HQ.out.symm, rfl⟩
  | true =>
    have hn12 : 1 ≤ n ∧ n ≤ 12 := by unfold rngB at hp; simp at hp; omega
    obtain ⟨hn1, hn12⟩ := hn12
    have HC := Lib.hid (fun w => l01In_b n 1 12 true hp w)
    have hq : isTab t = t.all (rowOk n n) := by unfold isTab; rw [← hl, hp]; rfl
    have HQ := Lib.hid hq; have HL := Lib.hid hl; clear hq hl hp
    go_enter Tryz.func94, Tryz.ntmps94
    go_wp2_with fail
    refine (HC.out _).mono ?_
    rintro e w' ⟨rfl, rfl⟩
    go_wp2
    go_loop [4] (fun i => ∃ k : Nat, k ≤ n ∧ i = .int .i64 k ∧ Hid ((t.take k).all (rowOk n n) = true)) (fun i => n - (intOf i).toNat)
    case atStart => exact ⟨0, Nat.zero_le _, rfl, Lib.hid (by simp)⟩
    case round =>
      obtain ⟨k, hk, rfl, hall⟩ := hrel
      by_cases hlt : k < n
      · obtain ⟨b, off, ai, ni, ci, rfl, g1, hri, hni⟩ := h1.at k hlt
        have hx : k < t.length := by have := HL.out; omega
        rw [Tbl.getD hx] at hri
        have hll := hri.len
        by_cases hnn : ni = n
        · subst hnn
          have b1 : ((ni : Int) != (ni : Int)) = false := by simp
          have HR : Hid (rowOk ni ni t[k] = t[k].all (rngB 0 ((ni : Int) - 1))) := Lib.hid (rowOk_mk (by omega))
          have HLL := Lib.hid hll; clear hll
          go_wp2
          go_loop [5] (fun i => ∃ j : Nat, j ≤ ni ∧ i = .int .i64 j ∧ Hid ((t[k].take j).all (rngB 0 ((ni : Int) - 1)) = true)) (fun i => ni - (intOf i).toNat)
          case atStart => exact ⟨0, Nat.zero_le _, rfl, Lib.hid (by simp)⟩
          case round =>
            obtain ⟨j, hj, rfl, hin⟩ := hrel
            by_cases hjt : j < ni
            · obtain ⟨b2, o2, rfl, g2⟩ := hri.at j hjt
              have hy : j < t[k].length := by have := HLL.out; omega
              have e : t[k].getD j 0 = t[k][j] := by simp [List.getD_eq_getElem?_getD, List.getElem?_eq_getElem hy]
              rw [e] at g2
              clear h1 hri e
              cases hv : rngB 0 ((ni : Int) - 1) t[k][j] with
              | true =>
                have HD := Lib.hid (fun w => l01In_b t[k][j] 0 ((ni : Int) - 1) true hv w)
                have HV := Lib.hid hv; clear hv
                generalize t[k][j] = V at g2 HD
                go_wp2_with fail
                refine (HD.out _).mono ?_
                rintro e w' ⟨rfl, rfl⟩
                go_wp2
                go_round
                case rel => exact ⟨j + 1, by omega, by go_num, Lib.hid (all_get_succ hy hin.out HV.out)⟩
                case measure => simp [intOf]; omega
              | false =>
                have HD := Lib.hid (fun w => l01In_b t[k][j] 0 ((ni : Int) - 1) false hv w)
                have HV := Lib.hid hv; clear hv
                generalize t[k][j] = V at g2 HD
                go_wp2_with fail
                refine (HD.out _).mono ?_
                rintro e w' ⟨rfl, rfl⟩
                go_wp2
                go_ret
                exact ⟨ret_bool (by rw [HQ.out]; exact (all_no hx (by rw [HR.out]; exact all_no hy HV.out)).symm), rfl⟩
            · obtain rfl : j = ni := by omega
              have ha := hin.out
              rw [List.take_of_length_le (by have := HLL.out; omega)] at ha
              have HA := Lib.hid ha; clear ha
              go_wp2
              go_round
              case rel => exact ⟨k + 1, by omega, by go_num, Lib.hid (all_get_succ hx hall.out (by rw [HR.out]; exact HA.out))⟩
              case measure => simp [intOf]; omega
        · have b1 : ((ni : Int) != (n : Int)) = true := by simp; omega
          have HN : Hid (rowOk n n t[k] = false) := Lib.hid (rowOk_len (by omega))
          clear hll hnn
          go_wp2
          go_ret
          exact ⟨ret_bool (by rw [HQ.out]; exact (all_no hx HN.out).symm), rfl⟩
      · obtain rfl : k = n := by omega
        have ha := hall.out
        rw [List.take_of_length_le (by have := HL.out; omega)] at ha
        have HA := Lib.hid ha; clear ha
        go_wp2
        go_ret
        exact ⟨ret_bool (by rw [HQ.out]; exact HA.out.symm), rfl⟩
def codeF (f g : List (List Int)) (s : Int) (xs : List Int) : Int := if isSol f g then (if isBr s xs then 0 else 1) else 1
end Go.Proofs.YtiliimkfobfbnaaGreat
namespace Go.Proofs.YtiliimkfobfbnaaGreat
set_option linter.unusedVariables false
set_option linter.unusedSimpArgs false
def Shape (n : Nat) (F : List (List Int)) : Prop := F.length = n ∧ ∀ x, x < n → (F.getD x []).length = n
theorem Sq.shape {n : Nat} {t : List (List Int)} (h : Sq n t) : Shape n t := ⟨h.len, fun x hx => h.row hx⟩
theorem Shape.set {n : Nat} {F : List (List Int)} (h : Shape n F) (u v : Nat) (x : Int) : Shape n (F.set u ((F.getD u []).set v x)) := by
  refine ⟨by simp [h.1], fun i hi => ?_⟩
  rw [getD_set' _ _ _ _ _ (by rw [h.1]; exact hi)]
  by_cases e : i = u
  · rw [if_pos e, List.length_set, ← e]; exact h.2 i hi
  · rw [if_neg e]; exact h.2 i hi
theorem Shape.at_ {n : Nat} {F : List (List Int)} (h : Shape n F) (u v : Nat) (x : Int) {i j : Nat} (hi : i < n) (hj : j < n) : ((F.set u ((F.getD u []).set v x)).getD i []).getD j 0 = if i = u ∧ j = v then x else (F.getD i []).getD j 0 := by
  rw [getD_set' _ _ _ _ _ (by rw [h.1]; exact hi)]
  by_cases e : i = u
  · subst e
    rw [if_pos rfl, getD_set' _ _ _ _ _ (by rw [h.2 i hi]; exact hj)]
    by_cases e' : j = v <;> simp [e']
  · rw [if_neg e, if_neg (fun h => e h.1)]
theorem Shape.ext {n : Nat} {F : List (List Int)} {V : Nat → Nat → Int} (h : Shape n F) (hv : ∀ x y, x < n → y < n → (F.getD x []).getD y 0 = V x y) : F = tabF n V := by
  apply List.ext_getElem
  · rw [h.1, tabF_len]
  · intro x h1 h2
    have hx : x < n := by rw [h.1] at h1; exact h1
    have e1 : F.getD x [] = F[x] := by simp [List.getD_eq_getElem?_getD, List.getElem?_eq_getElem h1]
    have e2 : (tabF n V).getD x [] = (tabF n V)[x] := by simp [List.getD_eq_getElem?_getD, List.getElem?_eq_getElem h2]
    have e3 := tabF_get n V x hx
    rw [← e1, ← e2, e3]
    apply List.ext_getElem
    · rw [h.2 x hx]; simp
    · intro y h3 h4
      have hy : y < n := by rw [h.2 x hx] at h3; exact h3
      have := hv x y hx hy
      rw [List.getD_eq_getElem?_getD, List.getElem?_eq_getElem h3] at this
      simpa using this
def InvAt (n : Nat) (f g : List (List Int)) (done : Nat → Nat → Prop) (F G : List (List Int)) : Prop :=
  Shape n F ∧ Shape n G ∧ ∀ x y, x < n → y < n → done x y → (F.getD (tv f x y) []).getD (tv g x y) 0 = (x : Int) ∧ (G.getD (tv f x y) []).getD (tv g x y) 0 = (y : Int)
section
variable {n : Nat} {f g F G : List (List Int)}
theorem InvAt.start (hf : Shape n F) (hg : Shape n G) : InvAt n f g (fun x _ => x < 0) F G := ⟨hf, hg, fun x y _ _ h => absurd h (by omega)⟩
theorem InvAt.begin {k : Nat} (h : InvAt n f g (fun x _ => x < k) F G) : InvAt n f g (fun x y => x < k ∨ (x = k ∧ y < 0)) F G := ⟨h.1, h.2.1, fun x y hx hy hd => h.2.2 x y hx hy (by show x < k; omega)⟩
theorem InvAt.finish {k : Nat} (h : InvAt n f g (fun x y => x < k ∨ (x = k ∧ y < n)) F G) : InvAt n f g (fun x _ => x < k + 1) F G := ⟨h.1, h.2.1, fun x y hx hy hd => h.2.2 x y hx hy (by show x < k ∨ (x = k ∧ y < n); have : x < k + 1 := hd; omega)⟩
theorem InvAt.step (hn : 1 ≤ n) (hf : Sq n f) (hg : Sq n g) (hc : collOk n f g = true) {k j : Nat} (hk : k < n) (hj : j < n) (h : InvAt n f g (fun x y => x < k ∨ (x = k ∧ y < j)) F G) :
    InvAt n f g (fun x y => x < k ∨ (x = k ∧ y < j + 1)) (F.set (tv f k j) ((F.getD (tv f k j) []).set (tv g k j) (k : Int))) (G.set (tv f k j) ((G.getD (tv f k j) []).set (tv g k j) (j : Int))) := by
  refine ⟨h.1.set _ _ _, h.2.1.set _ _ _, fun x y hx hy hd => ?_⟩
  rw [h.1.at_ _ _ _ (hf.lt hx hy) (hg.lt hx hy), h.2.1.at_ _ _ _ (hf.lt hx hy) (hg.lt hx hy)]
  by_cases e : tv f x y = tv f k j ∧ tv g x y = tv g k j
  · rw [if_pos e, if_pos e]
    have e2 := prN_eq hn hc hx hy e.1 e.2
    rw [prN_eq hn hc hk hj rfl rfl] at e2
    have e3 := congrArg (· / n) e2
    have e4 := congrArg (· % n) e2
    simp only [pair_div hn hy, pair_div hn hj, pair_mod hy, pair_mod hj] at e3 e4
    exact ⟨by rw [e3], by rw [e4]⟩
  · rw [if_neg e, if_neg e]
    have hne : ¬ (x = k ∧ y = j) := by rintro ⟨rfl, rfl⟩; exact e ⟨rfl, rfl⟩
    refine h.2.2 x y hx hy ?_
    show x < k ∨ (x = k ∧ y < j)
    have : x < k ∨ (x = k ∧ y < j + 1) := hd
    omega
theorem InvAt.done_ (hn : 1 ≤ n) (hf : Sq n f) (hg : Sq n g) (hc : collOk n f g = true) (h : InvAt n f g (fun x _ => x < n) F G) : F = bfT n f g ∧ G = bgT n f g := by
  constructor
  · refine h.1.ext fun u v hu hv => ?_
    obtain ⟨x, y, hx, hy, h1, h2⟩ := pr_ex hn hf hg hc hu hv
    have := (h.2.2 x y hx hy hx).1
    rw [h1, h2] at this
    rw [this, prN_eq hn hc hx hy h1 h2, pair_div hn hy]
  · refine h.2.1.ext fun u v hu hv => ?_
    obtain ⟨x, y, hx, hy, h1, h2⟩ := pr_ex hn hf hg hc hu hv
    have := (h.2.2 x y hx hy hx).2
    rw [h1, h2] at this
    rw [this, prN_eq hn hc hx hy h1 h2, pair_mod hy]
end
end Go.Proofs.YtiliimkfobfbnaaGreat
namespace Go.Proofs.YtiliimkfobfbnaaGreat
set_option maxRecDepth 100000
set_option linter.unusedVariables false
set_option linter.unusedSimpArgs false
open Go.RowKit
set_option maxHeartbeats 400000 in
theorem clone_any (a : Option Addr) (n c : Nat) (xs : List Int) (w : World) (h1 : Row w a n xs) (hm : n ≤ 1000000000000) :
    Calls Tryz.prog 132 #[.slice a n c] w fun e w' => ∃ a' c', e = .returned (.slice a' n c') ∧ Own w' w.heap.size a' n c' xs ∧ Below w.heap.size w w' := by
  have hnil := Lib.run_eql_slice_nil (P := Tryz.prog) w 50 2 a n c 0 0 und_ints
  cases a with
  | none =>
    have hn : n = 0 := by
      rcases Nat.eq_zero_or_pos n with h | h
      · exact h
      · obtain ⟨b, off, h2, _⟩ := h1.at 0 h; cases h2
    subst hn
    have hx : xs = [] := List.eq_nil_of_length_eq_zero h1.len.symm
    subst hx
    go_enter Tryz.func132, Tryz.ntmps132
    go_wp2
    go_ret
    exact ⟨none, 0, rfl, Own.nil _ _, Below.refl _ _⟩
  | some p =>
    have hr := h1.alloc (.cells #[] 2)
    go_enter Tryz.func132, Tryz.ntmps132
    go_wp2_with (at_builtin; refine appL rfl rfl (Own.fresh w rfl) rfl hr rfl (by omega) (by simp) ?_; intro ad' c' w' hO hg hb; rw [Nat.zero_add] at hO ⊢)
    go_ret
    exact ⟨ad', c', rfl, by simpa using hO, ((Below.refl _ _).alloc (Nat.le_refl _) _).trans hb⟩
set_option maxHeartbeats 1000000 in
theorem cloneTable_any (a : Option Addr) (n c : Nat) (xss : List (List Int)) (w : World) (h1 : Tbl w a n xss) (hm : n ≤ 1000000) (hx1 : ∀ i, i < n → (xss.getD i []).length ≤ 1000000) :
    Calls Tryz.prog 142 #[.slice a n c] w fun e w' => ∃ a' c' vs, e = .returned (.slice a' n c') ∧ OwnT w' w.heap.size a' n c' vs xss ∧ Below w.heap.size w w' := by
  have hl := h1.len
  have HL := Lib.hid hl; clear hl
  have HX := Lib.hid hx1; clear hx1
  go_enter Tryz.func142, Tryz.ntmps142
  go_wp2_with (at_make; refine makeT rfl rfl rfl rfl (by omega) ?_; intro w1 ho hs hb)
  go_loopw [11] (fun i wr => ∃ (k : Nat) (vs : List SV), k ≤ n ∧ i = .int .i64 k ∧ OwnT wr w.heap.size (some ⟨w.heap.size, 0, none⟩) n n vs (xss.take k ++ List.replicate (n - k) []) ∧ Below w.heap.size w wr) (fun i _ => n - (intOf i).toNat)
  case atStart => exact ⟨0, _, Nat.zero_le _, rfl, by simpa using ho, hb⟩
  case round =>
    clear ho hb
    obtain ⟨k, vs, hk, rfl, ho, hb⟩ := hrel
    by_cases hlt : k < n
    · have hr := h1.below hb
      obtain ⟨b, off, ai, ni, ci, rfl, g1, hri, hni⟩ := hr.at k hlt
      have hx : k < xss.length := by have := HL.out; omega
      have hle : ni ≤ 1000000 := by have := HX.out k hlt; have := hri.len; omega
      rw [Tbl.getD hx] at hri
      obtain ⟨g, hg, hgl, hc, hf⟩ := ho.cells (by omega)
      cases hg
      clear h1 hr hc
      go_wp2_with fail
      refine (clone_any _ _ _ _ _ hri (by omega)).mono ?_
      rintro e w2 ⟨a2, c2, rfl, ho2, hb2⟩
      have hot := ho.below hb2
      obtain ⟨g', hg', hgl', hc', hf'⟩ := hot.cells (by omega)
      cases hg'
      have hc1 := hc' k hlt
      have hf1 := hf' k
      clear hc' hf' hf
      go_wp2
      go_roundw
      case rel =>
        have hlo : w.heap.size ≤ wr.heap.size := hb.size
        refine ⟨k + 1, vs.set k (a2, ni, c2), by omega, by go_num, ?_, ?_⟩
        · have hp := hot.put k hlt (v := (a2, ni, c2)) (ho2.mono hlo) (fun e => by have := ho2.lo _ e; omega) (fun j hj _ g1 h1 h2 => by have h3 := ho2.lo _ h1; have h4 := (ho.row j hj).hi _ h2; omega)
          rw [copyT_step xss n k HL.out hx] at hp
          exact hp
        · exact (hb.trans (hb2.mono hlo)).setCell (Nat.le_refl _) _
      case measure => simp [intOf]; omega
    · obtain rfl : k = n := by omega
      go_wp2
      go_ret
      have e1 : xss.take k ++ List.replicate (k - k) [] = xss := by
        rw [List.take_of_length_le (by have := HL.out; omega), Nat.sub_self, List.replicate_zero, List.append_nil]
      rw [e1] at ho
      exact ⟨_, _, _, rfl, ho, hb⟩
set_option maxHeartbeats 1000000 in
theorem isPairMap_any (a : Option Addr) (n c : Nat) (a' : Option Addr) (n' c' : Nat) (f g : List (List Int)) (w : World) (h1 : Tbl w a n f) (h2 : Tbl w a' n' g) (hm1 : n ≤ 9223372036854775807) (hm2 : n' ≤ 9223372036854775807) :
    Calls Tryz.prog 29 #[sAgg a n c a' n' c'] w fun e w' => e = .returned (.bool (isPm f g)) ∧ Below w.heap.size w w' := by
  have hl1 := h1.len
  have hl2 := h2.len
  have HL : Hid (decide (f.length = g.length) = decide (n = n')) := Lib.hid (by rw [← hl1, ← hl2])
  clear hl1 hl2
  have hA := Loc.new w rfl #[.slice a n c, .slice a' n' c'] 29
  have lA := hA.two
  cases hf : isTab f with
  | false =>
    have HF := Lib.hid hf; clear hf
    go_enter Tryz.func29, Tryz.ntmps29
    go_wp2_with fail
    refine (isTable_any _ _ _ _ _ (h1.alloc _) hm1).mono ?_
    rintro e w1 ⟨rfl, hb1⟩
    rw [HF.out]
    go_wp2
    go_ret
    exact ⟨ret_bool (by unfold isPm; rw [HF.out]; rfl), below_alth (Below.refl _ _) hb1⟩
  | true =>
    have HF := Lib.hid hf; clear hf
    cases hg : isTab g with
    | false =>
      have HG := Lib.hid hg; clear hg
      go_enter Tryz.func29, Tryz.ntmps29
      go_wp2_with fail
      refine (isTable_any _ _ _ _ _ (h1.alloc _) hm1).mono ?_
      rintro e w1 ⟨rfl, hb1⟩
      rw [HF.out]
      have hA1 := hA.below hb1 (by simp)
      have lA1 := hA1.two
      have hg1 := (h2.alloc _).below hb1
      go_wp2_with fail
      refine (isTable_any _ _ _ _ _ hg1 hm2).mono ?_
      rintro e w2 ⟨rfl, hb2⟩
      rw [HG.out]
      go_wp2
      go_ret
      exact ⟨ret_bool (by unfold isPm; rw [HF.out, HG.out]; rfl), below_th (below_alth (Below.refl _ _) hb1) hb2⟩
    | true =>
      have HG := Lib.hid hg; clear hg
      have HQ : Hid (isPm f g = decide ((n : Int) = (n' : Int))) := Lib.hid (by unfold isPm; rw [HF.out, HG.out, HL.out]; simp [Int.ofNat_inj])
      go_enter Tryz.func29, Tryz.ntmps29
      go_wp2_with fail
      refine (isTable_any _ _ _ _ _ (h1.alloc _) hm1).mono ?_
      rintro e w1 ⟨rfl, hb1⟩
      rw [HF.out]
      have hA1 := hA.below hb1 (by simp)
      have lA1 := hA1.two
      have hg1 := (h2.alloc _).below hb1
      go_wp2_with fail
      refine (isTable_any _ _ _ _ _ hg1 hm2).mono ?_
      rintro e w2 ⟨rfl, hb2⟩
      rw [HG.out]
      have hA2 := hA1.below hb2 hA1.lt
      have lA2 := hA2.two
      go_wp2
      go_ret
      exact ⟨ret_bool (by rw [HQ.out]; rfl), below_th (below_alth (Below.refl _ _) hb1) hb2⟩
set_option maxHeartbeats 1000000 in
theorem isSolution_any (a : Option Addr) (n c : Nat) (a' : Option Addr) (n' c' : Nat) (f g : List (List Int)) (w : World) (h1 : Tbl w a n f) (h2 : Tbl w a' n' g) (hm1 : n ≤ 9223372036854775807) (hm2 : n' ≤ 9223372036854775807) :
    Calls Tryz.prog 18 #[sAgg a n c a' n' c'] w fun e w' => e = .returned (.bool (isSol f g)) ∧ Below w.heap.size w w' := by
  have hA := Loc.new w rfl #[.slice a n c, .slice a' n' c'] 29
  have lA := hA.two
  cases hf : isPm f g with
  | false =>
    have HF := Lib.hid hf; clear hf
    go_enter Tryz.func18, Tryz.ntmps18
    go_wp2_with fail
    refine (isPairMap_any _ _ _ _ _ _ _ _ _ (h1.alloc _) (h2.alloc _) hm1 hm2).mono ?_
    rintro e w1 ⟨rfl, hb1⟩
    rw [HF.out]
    go_wp2
    go_ret
    exact ⟨ret_bool (by unfold isSol; rw [HF.out]; rfl), below_alth (Below.refl _ _) hb1⟩
  | true =>
    obtain ⟨hn1, hn12, sf, sg⟩ := isPm_sq hf
    have hl1 := h1.len
    have hl2 : n' = n := by rw [h2.len, hl1]; have := sg.len; omega
    subst hl2
    rw [← hl1] at hn1 hn12 sf sg
    have HF := Lib.hid hf; clear hf
    have HS : Hid (isSol f g = (collOk n' f g && eqOk n' f g)) := Lib.hid (by unfold isSol; rw [HF.out, ← hl1]; rfl)
    clear hl1
    have HSF := Lib.hid sf; have HSG := Lib.hid sg; clear sf sg
    go_enter Tryz.func18, Tryz.ntmps18
    go_wp2_with fail
    refine (isPairMap_any _ _ _ _ _ _ _ _ _ (h1.alloc _) (h2.alloc _) hm1 hm2).mono ?_
    rintro e w1 ⟨rfl, hb1⟩
    rw [HF.out]
    have hA1 := hA.below hb1 (by simp)
    have lA1 := hA1.two
    have hf1 := (h1.alloc _).below hb1
    have hg1 := (h2.alloc _).below hb1
    have hB1 := below_alth (Below.refl _ _) hb1
    clear hb1 hA lA
    go_wp2_with fail
    refine (collisionOf_any _ _ _ _ _ _ _ _ hf1 hg1 hn1 hn12 HSF.out HSG.out).mono ?_
    rintro e w2 ⟨he, hb2⟩
    have hA2 := hA1.below hb2 hA1.lt
    have lA2 := hA2.two
    have hf2 := hf1.below hb2
    have hg2 := hg1.below hb2
    have hB2 := below_th hB1 hb2
    clear hb2 hA1 lA1 hB1
    have nn := fun (w : World) (a : Option Addr) (n c : Nat) => Lib.run_eql_slice_nil (P := Tryz.prog) w 50 2 a n c 0 0 und_ints
    rcases he with ⟨hc, rfl⟩ | ⟨hc, b, m, k, rfl⟩
    · have HC := Lib.hid hc; clear hc
      go_wp2_with fail
      refine (equationFault_any _ _ _ _ _ _ _ _ hf2 hg2 hn1 hn12 HSF.out HSG.out).mono ?_
      rintro e w3 ⟨he, hb3⟩
      have hB3 := below_th hB2 hb3
      rcases he with ⟨hc, rfl⟩ | ⟨hc, b, m, k, rfl⟩
      · have HD := Lib.hid hc; clear hc
        go_wp2
        go_ret
        exact ⟨ret_bool (by rw [HS.out, HC.out, HD.out]; rfl), hB3⟩
      · have HD := Lib.hid hc; clear hc
        go_wp2
        go_ret
        exact ⟨ret_bool (by rw [HS.out, HC.out, HD.out]; rfl), hB3⟩
    · have HC := Lib.hid hc; clear hc
      go_wp2
      go_ret
      exact ⟨ret_bool (by rw [HS.out, HC.out]; rfl), hB2⟩
structure Sol (w : World) (a : Option Addr) (n : Nat) (xss : List (List Int)) (a' : Option Addr) (n' : Nat) (yss : List (List Int)) : Prop where
  f : Tbl w a n xss
  s : Tbl w a' n' yss
def SolS (a : Option Addr) (n : Nat) (vs : List SV) (a' : Option Addr) (n' : Nat) (vs' : List SV) (g : Nat) : Prop := TblS a n vs g ∨ TblS a' n' vs' g
structure OwnS (w : World) (lo : Nat) (a : Option Addr) (n c : Nat) (vs : List SV) (xss : List (List Int)) (a' : Option Addr) (n' c' : Nat) (vs' : List SV) (yss : List (List Int)) : Prop where
  f : OwnT w lo a n c vs xss
  s : OwnT w lo a' n' c' vs' yss
  ap : ∀ g, TblS a n vs g → ¬ TblS a' n' vs' g
section
variable {w w' : World} {lo : Nat} {a a' a1 a1' a2 a2' : Option Addr} {n n' c c' n1 n1' n2 n2' c1 c1' c2 c2' : Nat} {vs vs' : List SV} {xss yss : List (List Int)}
theorem Sol.below (h : Sol w a n xss a' n' yss) (hb : Below w.heap.size w w') : Sol w' a n xss a' n' yss := ⟨h.f.below hb, h.s.below hb⟩
theorem Sol.alloc (h : Sol w a n xss a' n' yss) (o : Obj) : Sol (w.alloc o) a n xss a' n' yss := ⟨h.f.alloc o, h.s.alloc o⟩
theorem Sol.drewN (h : Sol w a n xss a' n' yss) (k : Nat) : Sol (w.drewN k) a n xss a' n' yss := ⟨h.f.drewN k, h.s.drewN k⟩
theorem OwnS.below (h : OwnS w lo a n c vs xss a' n' c' vs' yss) (hb : Below w.heap.size w w') : OwnS w' lo a n c vs xss a' n' c' vs' yss := ⟨h.f.below hb, h.s.below hb, h.ap⟩
theorem OwnS.alloc (h : OwnS w lo a n c vs xss a' n' c' vs' yss) (o : Obj) : OwnS (w.alloc o) lo a n c vs xss a' n' c' vs' yss := ⟨h.f.alloc o, h.s.alloc o, h.ap⟩
theorem OwnS.drewN (h : OwnS w lo a n c vs xss a' n' c' vs' yss) (k : Nat) : OwnS (w.drewN k) lo a n c vs xss a' n' c' vs' yss := ⟨h.f.drewN k, h.s.drewN k, h.ap⟩
theorem OwnS.mono {lo' : Nat} (h : OwnS w lo a n c vs xss a' n' c' vs' yss) (hl : lo' ≤ lo) : OwnS w lo' a n c vs xss a' n' c' vs' yss := ⟨h.f.mono hl, h.s.mono hl, h.ap⟩
theorem OwnS.cap (h : OwnS w lo a n c vs xss a' n' c' vs' yss) : (n ≤ c ∧ c ≤ 9223372036854775807) ∧ n' ≤ c' ∧ c' ≤ 9223372036854775807 := ⟨h.f.cap, h.s.cap⟩
theorem OwnS.uLo (h : OwnS w lo a n c vs xss a' n' c' vs' yss) : ∀ g, SolS a n vs a' n' vs' g → lo ≤ g := fun g hg => hg.elim (h.f.uLo g) (h.s.uLo g)
theorem OwnS.uHi (h : OwnS w lo a n c vs xss a' n' c' vs' yss) : ∀ g, SolS a n vs a' n' vs' g → g < w.heap.size := fun g hg => hg.elim (h.f.uHi g) (h.s.uHi g)
theorem OwnS.uKeep (h : OwnS w lo a n c vs xss a' n' c' vs' yss) {S : Nat → Prop} (hm : Marked S w w') (hS : ∀ g, SolS a n vs a' n' vs' g → ¬ S g) : OwnS w' lo a n c vs xss a' n' c' vs' yss :=
  ⟨h.f.uKeep hm fun g hg => hS g (.inl hg), h.s.uKeep hm fun g hg => hS g (.inr hg), h.ap⟩
end
end Go.Proofs.YtiliimkfobfbnaaGreat
