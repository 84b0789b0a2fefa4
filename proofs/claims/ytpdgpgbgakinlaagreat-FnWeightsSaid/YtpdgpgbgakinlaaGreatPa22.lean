/-
  Walks and plain laws of this seat, some texts in one.
  No condition but bounds on lengths.
-/
import Derived.Test.YtpdgpgbgakinlaaGreatPa21
import Derived.Test.YtpdgpgbgakinlaaGreatPa2
import Derived.Test.YtpdgpgbgakinlaaGreatPa3
import Derived.Test.YtpdgpgbgakinlaaGreatPa7
import Derived.Test.YtpdgpgbgakinlaaGreatPa1
import Derived.Test.YtpdgpgbgakinlaaGreatPa6
namespace Go.Proofs.YtpdgpgbgakinlaaGreat
set_option maxRecDepth 100000
set_option linter.unusedVariables false
set_option linter.unusedSimpArgs false
open Go.RowKit
abbrev aAgg (a : Option Addr) (n c : Nat) (a' : Option Addr) (c' : Nat) (b : Option Addr) (d : Nat) (b' : Option Addr) (d' : Nat) : Value := .agg #[.slice a n c, .slice a' n c', .slice b n d, .slice b' n d']
theorem Loc.four {w : World} {b : Nat} {x y z u : Value} {t : TypeId} (h : Loc w b #[x, y, z, u] t) : w.cell? ⟨b, 0, none⟩ = some x ∧ w.cell? ⟨b, 1, none⟩ = some y ∧ w.cell? ⟨b, 2, none⟩ = some z ∧ w.cell? ⟨b, 3, none⟩ = some u ∧ w.frozen? ⟨b, 0, none⟩ = false ∧ w.frozen? ⟨b, 1, none⟩ = false ∧ w.frozen? ⟨b, 2, none⟩ = false ∧ w.frozen? ⟨b, 3, none⟩ = false :=
  ⟨h.cell 0 rfl, h.cell 1 rfl, h.cell 2 rfl, h.cell 3 rfl, h.free 0, h.free 1, h.free 2, h.free 3⟩
set_option maxHeartbeats 2000000 in
theorem newAction_any (a : Option Addr) (n c : Nat) (a' : Option Addr) (c' : Nat) (f g : List (List Int)) (w : World) (h1 : Tbl w a n f) (h2 : Tbl w a' n g) (hs : isSol f g = true) (hm : n ≤ 12) :
    Calls Tryz.prog 45 #[sAgg a n c a' n c'] w fun e w' => ∃ b d vs b' d' vs', e = .returned (aAgg a n c a' c' b d b' d') ∧ OwnS w' w.heap.size b n d vs (bfT n f g) b' n d' vs' (bgT n f g) ∧ Below w.heap.size w w' := by
  have hA := (Loc.new w rfl #[.slice a n c, .slice a' n c'] 26).alloc (.cells #[.slice none 0 0, .slice none 0 0, .slice none 0 0, .slice none 0 0] 77)
  have hR := Loc.new (w.alloc (.cells #[.slice a n c, .slice a' n c'] 26)) rfl #[.slice none 0 0, .slice none 0 0, .slice none 0 0, .slice none 0 0] 77
  rw [size_alloc] at hR
  have hB := below_al (below_al (Below.refl w.heap.size w) (.cells #[.slice a n c, .slice a' n c'] 26)) (.cells #[.slice none 0 0, .slice none 0 0, .slice none 0 0, .slice none 0 0] 77)
  have HS := Lib.hid hs; clear hs
  go_enter Tryz.func45, Tryz.ntmps45
  go_wp2_with fail
  generalize (w.alloc (.cells #[.slice a n c, .slice a' n c'] 26)).alloc (.cells #[.slice none 0 0, .slice none 0 0, .slice none 0 0, .slice none 0 0] 77) = w0 at *
  refine (inverseSolution_any _ _ _ _ _ f g _ (h1.below hB) (h2.below hB) HS.out hm).mono ?_
  rintro e w1 ⟨b, d, vs, b', d', vs', rfl, ho, hb1⟩
  have lA := (hA.below hb1 hA.lt).two
  have hR1 := hR.below hb1 hR.lt
  have lR := hR1.four
  have lR2 := (hR1.alloc (.cells #[.slice b n d, .slice b' n d'] 26)).four
  have lA2 := ((hA.below hb1 hA.lt).alloc (.cells #[.slice b n d, .slice b' n d'] 26)).two
  have hs1 := hb1.size
  have hs2 := hR.lt
  go_wp2
  have n1 : ∀ q, TblS b n vs q → q ≠ w.heap.size + 1 := fun q hq => by have := ho.f.uLo q hq; omega
  have n2 : ∀ q, TblS b' n vs' q → q ≠ w.heap.size + 1 := fun q hq => by have := ho.s.uLo q hq; omega
  have hs0 := hB.size
  refine bodyPost_ret (v := aAgg a n c a' c' b d b' d') (by simp [results, Tryz.results45, go_sem, lR, lR2]) rfl ⟨b, d, vs, b', d', vs', rfl, ?_, ?_⟩
  · exact ⟨(((((ho.f.alloc _).uSet n1 _).uSet n1 _).uSet n1 _).uSet n1 _).mono hs0, (((((ho.s.alloc _).uSet n2 _).uSet n2 _).uSet n2 _).uSet n2 _).mono hs0, ho.ap⟩
  · exact below_setne (below_setne (below_setne (below_setne (below_al (below_th hB hb1) _) (by show w.heap.size ≤ w.heap.size + 1; omega) _) (by show w.heap.size ≤ w.heap.size + 1; omega) _) (by show w.heap.size ≤ w.heap.size + 1; omega) _) (by show w.heap.size ≤ w.heap.size + 1; omega) _
set_option maxHeartbeats 2000000 in
theorem step_any (a : Option Addr) (n c : Nat) (a' : Option Addr) (c' : Nat) (b : Option Addr) (d : Nat) (b' : Option Addr) (d' : Nat) (f g : List (List Int)) (al : Option Addr) (m cl : Nat) (l : List Int) (x : Int) (w : World)
    (h1 : Tbl w a n f) (h2 : Tbl w a' n g) (h3 : Tbl w b n (bfT n f g)) (h4 : Tbl w b' n (bgT n f g)) (hn1 : 1 ≤ n) (hf : Sq n f) (hg : Sq n g) (hc : collOk n f g = true)
    (hl : Row w al m l) (hm : m ≤ 1000000) (hx1 : -1000 ≤ x) (hx2 : x ≤ 1000) (hp0 : 0 ≤ plc x) (hp : plc x + 1 < m) (hle : Less n l) :
    Calls Tryz.prog 90 #[aAgg a n c a' c' b d b' d', .int .i64 x, .slice al m cl] w fun e w' => ∃ ao co, e = .returned (.slice ao m co) ∧ Own w' w.heap.size ao m co (stepL n f g x l) ∧ Below w.heap.size w w' := by
  obtain ⟨k, hk⟩ : ∃ k : Nat, plc x = k := ⟨(plc x).toNat, by omega⟩
  have hkm : k + 1 < m := by omega
  have HK := Lib.hid hk
  have HSF := Lib.hid hf; have HSG := Lib.hid hg; have HC := Lib.hid hc
  have hA := Loc.new w rfl #[.slice a n c, .slice a' n c', .slice b n d, .slice b' n d'] 77
  have lA := hA.four
  have hB := below_al (Below.refl w.heap.size w) (.cells #[.slice a n c, .slice a' n c', .slice b n d, .slice b' n d'] 77)
  by_cases hpos : 0 < x
  · have hst : stepL n f g x l = doF f g k l := by unfold stepL; rw [if_pos hpos, hk]; rfl
    have HST := Lib.hid hst
    clear hst hk hp hp0 hf hg hc
    go_enter Tryz.func90, Tryz.ntmps90
    go_wp2
    go_region_held3 (fun w' => (w'.cell? ⟨w.heap.size, 0, none⟩ = some (.slice a n c) ∧ w'.cell? ⟨w.heap.size, 1, none⟩ = some (.slice a' n c')) ∧ w'.cell? ⟨w.heap.size, 2, none⟩ = some (.slice b n d) ∧ w'.cell? ⟨w.heap.size, 3, none⟩ = some (.slice b' n d'))
      (first | exact ⟨⟨lA2.1, lA2.2.1⟩, lA2.2.2.1, lA2.2.2.2.1⟩ | exact ⟨⟨lA.1, lA.2.1⟩, lA.2.2.1, lA.2.2.2.1⟩)
      (first
        | (go_at_call 91; refine (placeOf_any _ _ hx1 hx2).mono ?_; rintro e w1 ⟨rfl, rfl⟩; rw [HK.out])
        | (go_at_call 134; refine (moved_any _ _ _ _ _ f g _ _ _ l k _ ((h1.alloc _).drewN 1) ((h2.alloc _).drewN 1) hn1 HSF.out HSG.out ((hl.alloc _).drewN 1) hm hkm hle).mono ?_; rintro e w2 ⟨ao, co, rfl, ho, hb2⟩; have hB2 := below_th (below_drewN hB 1) hb2; have lA2 := ((hA.drewN 1).below hb2 (by simp)).four))
    all_goals
      go_wp2
      go_ret
      exact ⟨_, _, rfl, by rw [HST.out]; exact ho.mono (by simp), hB2⟩
  · have hst : stepL n f g x l = doF (bfT n f g) (bgT n f g) k l := by unfold stepL; rw [if_neg hpos, hk]; rfl
    have HST := Lib.hid hst
    have s3 := bf_sq hn1 hf hg hc
    have s4 : Sq n (bgT n f g) := bg_sq hn1
    have HS3 := Lib.hid s3; have HS4 := Lib.hid s4
    clear hst hk hp hp0 hf hg hc s3 s4
    go_enter Tryz.func90, Tryz.ntmps90
    go_wp2
    go_region_held3 (fun w' => (w'.cell? ⟨w.heap.size, 0, none⟩ = some (.slice a n c) ∧ w'.cell? ⟨w.heap.size, 1, none⟩ = some (.slice a' n c')) ∧ w'.cell? ⟨w.heap.size, 2, none⟩ = some (.slice b n d) ∧ w'.cell? ⟨w.heap.size, 3, none⟩ = some (.slice b' n d'))
      (first | exact ⟨⟨lA2.1, lA2.2.1⟩, lA2.2.2.1, lA2.2.2.2.1⟩ | exact ⟨⟨lA.1, lA.2.1⟩, lA.2.2.1, lA.2.2.2.1⟩)
      (first
        | (go_at_call 91; refine (placeOf_any _ _ hx1 hx2).mono ?_; rintro e w1 ⟨rfl, rfl⟩; rw [HK.out])
        | (go_at_call 134; refine (moved_any _ _ _ _ _ (bfT n f g) (bgT n f g) _ _ _ l k _ ((h3.alloc _).drewN 1) ((h4.alloc _).drewN 1) hn1 HS3.out HS4.out ((hl.alloc _).drewN 1) hm hkm hle).mono ?_; rintro e w2 ⟨ao, co, rfl, ho, hb2⟩; have hB2 := below_th (below_drewN hB 1) hb2; have lA2 := ((hA.drewN 1).below hb2 (by simp)).four))
    all_goals
      go_wp2
      go_ret
      exact ⟨_, _, rfl, by rw [HST.out]; exact ho.mono (by simp), hB2⟩
set_option maxHeartbeats 2000000 in
theorem lead_any (a : Option Addr) (n c : Nat) (a' : Option Addr) (c' : Nat) (b : Option Addr) (d : Nat) (b' : Option Addr) (d' : Nat) (f g : List (List Int)) (s : Nat) (ab : Option Addr) (nb cb : Nat) (xs : List Int) (al : Option Addr) (cl : Nat) (l : List Int) (w : World)
    (h1 : Tbl w a n f) (h2 : Tbl w a' n g) (h3 : Tbl w b n (bfT n f g)) (h4 : Tbl w b' n (bgT n f g)) (hn1 : 1 ≤ n) (hf : Sq n f) (hg : Sq n g) (hc : collOk n f g = true)
    (hr : Row w ab nb xs) (hb : isBr s xs = true) (hl : Row w al s l) (hle : Less n l) :
    Calls Tryz.prog 54 #[aAgg a n c a' c' b d b' d', bAgg s ab nb cb, .slice al s cl] w fun e w' => ∃ ao co, e = .returned (.slice ao s co) ∧ Own w' w.heap.size ao s co (actL n f g xs l) ∧ Below w.heap.size w w' := by
  obtain ⟨h26, h30, hlet⟩ := isBr_let hb
  have hll := hl.len
  have hrl := hr.len
  have hpl : ∀ x ∈ xs, 0 ≤ plc x ∧ plc x + 1 < s := fun x hx => by
    have := hlet x hx
    unfold plc; split <;> omega
  have hlt2 : ∀ k, Less n (actL n f g (xs.take k) l) := fun k => hle.act hn1 hf hg hc _ (fun x hx => by have := hpl x (List.mem_of_mem_take hx); omega)
  have hn30 : nb ≤ 30 := by omega
  have HLet := Lib.hid hlet; have HP := Lib.hid hpl; have HLT := Lib.hid hlt2; have HRL := Lib.hid hrl
  have HSF := Lib.hid hf; have HSG := Lib.hid hg; have HC := Lib.hid hc
  clear hlet hpl hlt2 hb hf hg hc hrl hll
  have hA := (Loc.new w rfl #[.slice a n c, .slice a' n c', .slice b n d, .slice b' n d'] 77).alloc (.cells #[.int .i64 s, .slice ab nb cb] 29)
  have hE := Loc.new (w.alloc (.cells #[.slice a n c, .slice a' n c', .slice b n d, .slice b' n d'] 77)) rfl #[.int .i64 s, .slice ab nb cb] 29
  rw [size_alloc] at hE
  have hB := below_al (below_al (Below.refl w.heap.size w) (.cells #[.slice a n c, .slice a' n c', .slice b n d, .slice b' n d'] 77)) (.cells #[.int .i64 s, .slice ab nb cb] 29)
  have hl0 := (hl.alloc (.cells #[.slice a n c, .slice a' n c', .slice b n d, .slice b' n d'] 77)).alloc (.cells #[.int .i64 s, .slice ab nb cb] 29)
  go_enter Tryz.func54, Tryz.ntmps54
  go_wp2_with fail
  generalize (w.alloc (.cells #[.slice a n c, .slice a' n c', .slice b n d, .slice b' n d'] 77)).alloc (.cells #[.int .i64 s, .slice ab nb cb] 29) = w0 at *
  refine (clone_any _ _ _ l _ hl0 (by omega)).mono ?_
  rintro e w1 ⟨ao, co, rfl, ho, hb1⟩
  have hA1 := hA.below hb1 hA.lt
  have hE1 := hE.below hb1 hE.lt
  have hB1 := below_th hB hb1
  have ho1 := ho.mono hB.size
  have lE := hE1.two
  clear hA hE hB hb1 ho hl0 hl
  go_wp2
  go_loopw [2, 14] (fun t i wr => ∃ (k : Nat) (ao : Option Addr) (co : Nat), k ≤ nb ∧ i = .int .i64 k ∧ t = .slice ao s co ∧ Own wr w.heap.size ao s co (actL n f g (xs.take k) l) ∧ Loc wr w.heap.size #[.slice a n c, .slice a' n c', .slice b n d, .slice b' n d'] 77 ∧ Below w.heap.size w wr) (fun _ i _ => nb - (intOf i).toNat)
  case atStart => exact ⟨0, _, _, Nat.zero_le _, rfl, rfl, by simpa [actL] using ho1, hA1, hB1⟩
  case round =>
    clear ho1 hA1 hB1 hE1 lE
    obtain ⟨k, ao, co, hk, rfl, rfl, ho, hA, hB⟩ := hrel
    have lA := hA.four
    by_cases hlt : k < nb
    · have hr := hr.below hB
      obtain ⟨bb, off, rfl, g1⟩ := hr.at k hlt
      have hx : k < xs.length := by have := HRL.out; omega
      rw [getD_eq_at hx] at g1
      have hle2 := HLet.out xs[k] (List.getElem_mem hx)
      have hpl2 := HP.out xs[k] (List.getElem_mem hx)
      have HS : Hid (actL n f g (xs.take (k + 1)) l = stepL n f g xs[k] (actL n f g (xs.take k) l)) := Lib.hid (actL_take n f g xs l k hx)
      have b1 : -1000 ≤ xs[k] := by omega
      have b2 : xs[k] ≤ 1000 := by omega
      obtain ⟨p0, p1⟩ := hpl2
      clear hle2
      have T1 := h1.below hB; have T2 := h2.below hB; have T3 := h3.below hB; have T4 := h4.below hB
      go_wp2_with fail
      refine (step_any _ _ _ _ _ _ _ _ _ f g _ _ _ _ _ _ T1 T2 T3 T4 hn1 HSF.out HSG.out HC.out ho.row (by omega) b1 b2 p0 p1 (HLT.out k)).mono ?_
      rintro e w2 ⟨ao2, co2, rfl, ho2, hb2⟩
      have hA2 := hA.below hb2 hA.lt
      have hB2 := below_th hB hb2
      go_wp2
      go_roundw
      case rel => exact ⟨k + 1, _, _, by omega, by go_num, rfl, by rw [HS.out]; exact ho2.mono hB.size, hA2, hB2⟩
      case measure => simp [intOf]; omega
    · obtain rfl : k = nb := by omega
      rw [List.take_of_length_le (by have := HRL.out; omega)] at ho
      go_wp2
      go_ret
      exact ⟨_, _, rfl, ho, hB⟩
end Go.Proofs.YtpdgpgbgakinlaaGreat

namespace Go.Proofs.YtpdgpgbgakinlaaGreat
set_option linter.unusedVariables false
set_option linter.unusedSimpArgs false
section
variable {f : Nat → Nat} {K x y : Nat}
/-! ### the period -/
/-! ### what is met -/
end
end Go.Proofs.YtpdgpgbgakinlaaGreat

namespace Go.Proofs.YtpdgpgbgakinlaaGreat
set_option linter.unusedVariables false
set_option linter.unusedSimpArgs false
def numL (n : Nat) (l : List Int) : Nat := l.foldl (fun a x => a * n + x.toNat) 0
def LessM (n : Nat) (l : List Int) : Prop := ∀ x ∈ l, 0 ≤ x ∧ x < n
theorem Less.mem {n : Nat} {l : List Int} (h : Less n l) : LessM n l := fun x hx => by
  obtain ⟨i, hi, rfl⟩ := List.getElem_of_mem hx
  obtain ⟨k, hk, e⟩ := h i hi
  rw [List.getD_eq_getElem?_getD, List.getElem?_eq_getElem hi] at e
  simp only [Option.getD_some] at e
  omega
theorem num_bd {n : Nat} (hn : 1 ≤ n) : ∀ (l : List Int) (a : Nat), LessM n l → l.foldl (fun a x => a * n + x.toNat) a < (a + 1) * n ^ l.length := by
  intro l
  induction l with
  | nil => intro a _; simp
  | cons x r ih =>
    intro a h
    rw [List.foldl_cons]
    have h1 := ih (a * n + x.toNat) (fun y hy => h y (List.mem_cons_of_mem _ hy))
    have hx := h x (List.mem_cons_self ..)
    refine Nat.lt_of_lt_of_le h1 ?_
    rw [List.length_cons, Nat.pow_succ, Nat.mul_comm (n ^ r.length) n, ← Nat.mul_assoc]
    refine Nat.mul_le_mul_right _ ?_
    rw [Nat.add_mul, Nat.one_mul]
    omega
theorem numL_lt {n : Nat} (hn : 1 ≤ n) {l : List Int} (h : Less n l) : numL n l < n ^ l.length := by
  have := num_bd hn l 0 h.mem
  simpa [numL] using this
theorem num_inj {n : Nat} (hn : 1 ≤ n) : ∀ (l l' : List Int) (a a' : Nat), l.length = l'.length → LessM n l → LessM n l' → l.foldl (fun a x => a * n + x.toNat) a = l'.foldl (fun a x => a * n + x.toNat) a' → a = a' ∧ l = l' := by
  intro l
  induction l with
  | nil =>
    intro l' a a' hl _ _ e
    have : l' = [] := List.eq_nil_of_length_eq_zero hl.symm
    subst this
    exact ⟨by simpa using e, rfl⟩
  | cons x r ih =>
    intro l' a a' hl h h' e
    cases l' with
    | nil => simp at hl
    | cons y s =>
      rw [List.foldl_cons, List.foldl_cons] at e
      obtain ⟨e1, e2⟩ := ih s _ _ (by simpa using hl) (fun z hz => h z (List.mem_cons_of_mem _ hz)) (fun z hz => h' z (List.mem_cons_of_mem _ hz)) e
      have hx := h x (List.mem_cons_self ..)
      have hy := h' y (List.mem_cons_self ..)
      have d1 := congrArg (· / n) e1
      have d2 := congrArg (· % n) e1
      simp only [pair_div hn (show x.toNat < n by omega), pair_div hn (show y.toNat < n by omega), pair_mod (show x.toNat < n by omega), pair_mod (show y.toNat < n by omega)] at d1 d2
      exact ⟨d1, by rw [e2, show x = y by omega]⟩
theorem digL_succ (n s N : Nat) : digL n (s + 1) N = digL n s (N / n) ++ [((N % n : Nat) : Int)] := by
  unfold digL
  rw [List.range_succ, List.map_append]
  congr 1
  · apply List.map_congr_left
    intro i hi
    have hi := List.mem_range.1 hi
    have : s + 1 - 1 - i = (s - 1 - i) + 1 := by omega
    rw [this, Nat.pow_succ, Nat.mul_comm, ← Nat.div_div_eq_div_mul]
  · simp
theorem numL_dig {n : Nat} : ∀ (s N : Nat), N < n ^ s → numL n (digL n s N) = N := by
  intro s
  induction s with
  | zero => intro N h; simp [digL, numL] at *; omega
  | succ s ih =>
    intro N h
    rw [digL_succ]
    unfold numL
    rw [List.foldl_append]
    have h1 : N / n < n ^ s := Nat.div_lt_of_lt_mul (by rw [Nat.mul_comm, ← Nat.pow_succ]; exact h)
    have := ih (N / n) h1
    unfold numL at this
    rw [this]
    simp only [List.foldl_cons, List.foldl_nil, Int.toNat_natCast]
    rw [Nat.mul_comm]
    exact Nat.div_add_mod N n
theorem list_ext0 {l l' : List Int} (hl : l.length = l'.length) (h : ∀ i, i < l.length → l.getD i 0 = l'.getD i 0) : l = l' := by
  apply List.ext_getElem hl
  intro i h1 h2
  have := h i h1
  simpa [List.getD_eq_getElem?_getD, List.getElem?_eq_getElem h1, List.getElem?_eq_getElem h2] using this
end Go.Proofs.YtpdgpgbgakinlaaGreat

namespace Go.Proofs.YtpdgpgbgakinlaaGreat
set_option maxRecDepth 100000
set_option linter.unusedVariables false
set_option linter.unusedSimpArgs false
open Go.RowKit
/-! ### A slice of numbers that is read -/
def RowIn (w : World) (a : Option Addr) (n : Nat) (xs : List Int) : Prop :=
  n = xs.length ∧ ∀ i, i < n → ∃ b off, a = some ⟨b, off, none⟩ ∧ b < w.heap.size ∧ w.cell? ⟨b, off + i, none⟩ = some ((Value.int .i64) (xs.getD i 0))
theorem RowIn.nil (w : World) (a : Option Addr) : RowIn w a 0 [] := ⟨rfl, fun i h => absurd h (by omega)⟩
theorem RowIn.len {w : World} {a : Option Addr} {n : Nat} {xs : List Int} (h : RowIn w a n xs) : n = xs.length := h.1
theorem RowIn.at {w : World} {a : Option Addr} {n : Nat} {xs : List Int} (h : RowIn w a n xs) (i : Nat) (hi : i < n) : ∃ b off, a = some ⟨b, off, none⟩ ∧ w.cell? ⟨b, off + i, none⟩ = some ((Value.int .i64) (xs.getD i 0)) := by
  obtain ⟨b, off, h1, _, h2⟩ := h.2 i hi; exact ⟨b, off, h1, h2⟩
theorem RowIn.all {w : World} {a : Option Addr} {n : Nat} {xs : List Int} (h : RowIn w a n xs) (hn : 0 < n) : ∃ b off, a = some ⟨b, off, none⟩ ∧ b < w.heap.size ∧ ∀ i, i < n → w.cell? ⟨b, off + i, none⟩ = some ((Value.int .i64) (xs.getD i 0)) := by
  obtain ⟨b, off, h1, h3, h2⟩ := h.2 0 hn
  refine ⟨b, off, h1, h3, fun i hi => ?_⟩
  obtain ⟨b', off', h4, _, h5⟩ := h.2 i hi
  rw [h1] at h4; cases h4; exact h5
theorem RowIn.below {w w' : World} {a : Option Addr} {n : Nat} {xs : List Int} (h : RowIn w a n xs) (hb : Below w.heap.size w w') : RowIn w' a n xs :=
  ⟨h.1, fun i hi => by obtain ⟨b, off, h1, h3, h2⟩ := h.2 i hi; exact ⟨b, off, h1, Nat.lt_of_lt_of_le h3 hb.size, (hb.cell (p := ⟨b, off + i, none⟩) h3).trans h2⟩⟩
theorem RowIn.drewN {w : World} {a : Option Addr} {n : Nat} {xs : List Int} (h : RowIn w a n xs) (k : Nat) : RowIn (w.drewN k) a n xs := h
theorem RowIn.alloc {w : World} {a : Option Addr} {n : Nat} {xs : List Int} (h : RowIn w a n xs) (o : Obj) : RowIn (w.alloc o) a n xs := h.below ((Below.refl _ _).alloc (Nat.le_refl _) o)
/-! ### A slice of numbers that the call owns (its block lies from 'lo' on) -/
def OwnIn (w : World) (lo : Nat) (a : Option Addr) (n c : Nat) (xs : List Int) : Prop := n = xs.length ∧ w.ownsRow lo 3 1 (.slice a n c) n (xs.map (((Value.int .i64))))
theorem OwnIn.nil (w : World) (lo : Nat) : OwnIn w lo none 0 0 [] := ⟨rfl, World.ownsRow_nil w lo _ 1⟩
theorem OwnIn.len {w : World} {lo : Nat} {a : Option Addr} {n c : Nat} {xs : List Int} (h : OwnIn w lo a n c xs) : n = xs.length := h.1
theorem OwnIn.alloc {w : World} {lo : Nat} {a : Option Addr} {n c : Nat} {xs : List Int} (h : OwnIn w lo a n c xs) (o : Obj) : OwnIn (w.alloc o) lo a n c xs := ⟨h.1, h.2.alloc o⟩
theorem OwnIn.drew {w : World} {lo : Nat} {a : Option Addr} {n c : Nat} {xs : List Int} (h : OwnIn w lo a n c xs) : OwnIn w.drew lo a n c xs := h
theorem OwnIn.drewN {w : World} {lo : Nat} {a : Option Addr} {n c : Nat} {xs : List Int} (h : OwnIn w lo a n c xs) (k : Nat) : OwnIn (w.drewN k) lo a n c xs := h
theorem OwnIn.block {w : World} {lo : Nat} {a : Option Addr} {n c : Nat} {xs : List Int} (h : OwnIn w lo a n c xs) : (a = none ∧ n = 0 ∧ c = 0) ∨ ∃ g cur, a = some ⟨g, 0, none⟩ ∧ lo ≤ g ∧ Loc w g cur 3 ∧ n ≤ c ∧ c ≤ maxLen ∧ cur.size = c ∧ cur.toList.take n = xs.map (((Value.int .i64))) := by
  rcases h.2.2 with ⟨h1, h2⟩ | ⟨g, cap, cur, h1, h2, h3, h4, h5, h6, h7⟩
  · cases h1; exact .inl ⟨rfl, rfl, rfl⟩
  · cases h1; exact .inr ⟨g, cur, rfl, h2, h3, h4, h5, by simpa using h6, by simpa using h7⟩
theorem OwnIn.mk {w : World} {lo : Nat} {g n c : Nat} {xs : List Int} {cur : Array Value} (hn : n = xs.length) (h1 : lo ≤ g) (h2 : Loc w g cur 3) (h3 : n ≤ c) (h4 : c ≤ maxLen) (h5 : cur.size = c) (h6 : cur.toList.take n = xs.map (((Value.int .i64)))) : OwnIn w lo (some ⟨g, 0, none⟩) n c xs :=
  ⟨hn, by simp [hn], .inr ⟨g, c, cur, rfl, h1, h2, h3, h4, by simpa using h5, by simpa using h6⟩⟩
theorem OwnIn.lt {w : World} {lo : Nat} {g o n c : Nat} {xs : List Int} (h : OwnIn w lo (some ⟨g, o, none⟩) n c xs) : lo ≤ g ∧ g < w.heap.size := by
  rcases h.block with ⟨h1, _⟩ | ⟨g', cur, h1, h2, h3, _⟩
  · cases h1
  · cases h1; exact ⟨h2, h3.lt⟩
theorem OwnIn.mono {w : World} {lo lo' : Nat} {a : Option Addr} {n c : Nat} {xs : List Int} (h : OwnIn w lo a n c xs) (hl : lo' ≤ lo) : OwnIn w lo' a n c xs := by
  rcases h.block with ⟨rfl, rfl, rfl⟩ | ⟨g, cur, rfl, h2, h3, h4, h5, h6, h7⟩
  · have : xs = [] := List.eq_nil_of_length_eq_zero h.1.symm
    subst this; exact OwnIn.nil _ _
  · exact OwnIn.mk h.1 (by omega) h3 h4 h5 h6 h7
theorem OwnIn.keep {w w' : World} {lo : Nat} {a : Option Addr} {n c : Nat} {xs : List Int} (h : OwnIn w lo a n c xs) (hk : ∀ g, a = some ⟨g, 0, none⟩ → g < w.heap.size → w'.heap[g]? = w.heap[g]?) : OwnIn w' lo a n c xs := by
  rcases h.block with ⟨rfl, rfl, rfl⟩ | ⟨g, cur, rfl, h2, h3, h4, h5, h6, h7⟩
  · have : xs = [] := List.eq_nil_of_length_eq_zero h.1.symm
    subst this; exact OwnIn.nil _ _
  · exact OwnIn.mk h.1 h2 ((hk g rfl h3.lt).trans h3) h4 h5 h6 h7
theorem OwnIn.below {w w' : World} {lo : Nat} {a : Option Addr} {n c : Nat} {xs : List Int} (h : OwnIn w lo a n c xs) (hb : Below w.heap.size w w') : OwnIn w' lo a n c xs := h.keep fun g _ hlt => hb.block g hlt
theorem OwnIn.setne {w : World} {lo : Nat} {a : Option Addr} {n c : Nat} {xs : List Int} (h : OwnIn w lo a n c xs) {p : Addr} (hp : ∀ g, a = some ⟨g, 0, none⟩ → g ≠ p.block) (u : Value) : OwnIn (w.setCell p u) lo a n c xs := h.keep fun g hg _ => Below.heap_setCell _ _ _ _ (hp g hg)
theorem OwnIn.setlo {w : World} {lo : Nat} {a : Option Addr} {n c : Nat} {xs : List Int} (h : OwnIn w lo a n c xs) {p : Addr} (hp : p.block < lo) (u : Value) : OwnIn (w.setCell p u) lo a n c xs := by
  refine h.setne (fun g hg => ?_) u
  subst hg; have := h.lt; omega
theorem OwnIn.grown {w w' : World} {lo : Nat} {a : Option Addr} {n c : Nat} {xs : List Int} {row : Option Nat} (h : OwnIn w lo a n c xs) (hg : w.grownBy w' row) (hne : ∀ g, a = some ⟨g, 0, none⟩ → some g ≠ row) : OwnIn w' lo a n c xs := h.keep fun g hg' hlt => hg.block g hlt (hne g hg')
theorem OwnIn.cap {w : World} {lo : Nat} {a : Option Addr} {n c : Nat} {xs : List Int} (h : OwnIn w lo a n c xs) : n ≤ c ∧ c ≤ 9223372036854775807 := by
  rcases h.block with ⟨rfl, rfl, rfl⟩ | ⟨g, cur, rfl, h2, h3, h4, h5, h6, h7⟩
  · omega
  · unfold maxLen at h5; omega
theorem OwnIn.cells {w : World} {lo : Nat} {g o n c : Nat} {xs : List Int} (h : OwnIn w lo (some ⟨g, o, none⟩) n c xs) : o = 0 ∧ (∀ i, i < n → w.cell? ⟨g, i, none⟩ = some ((Value.int .i64) (xs.getD i 0))) ∧ (∀ i, w.frozen? ⟨g, i, none⟩ = false) := by
  rcases h.block with ⟨h1, _⟩ | ⟨g', cur, h1, h2, h3, h4, h5, h6, h7⟩
  · cases h1
  · cases h1
    refine ⟨rfl, fun i hi => h3.cell i ?_, fun i => h3.free i⟩
    have hx : (cur.toList.take n)[i]? = (xs.map (((Value.int .i64))))[i]? := by rw [h7]
    have hxi : i < xs.length := by have := h.1; omega
    rw [List.getElem?_take, if_pos hi] at hx
    simp [List.getElem?_eq_getElem hxi] at hx
    simp [List.getD_eq_getElem?_getD, List.getElem?_eq_getElem hxi, hx]
theorem OwnIn.row {w : World} {lo : Nat} {a : Option Addr} {n c : Nat} {xs : List Int} (h : OwnIn w lo a n c xs) : RowIn w a n xs := by
  refine ⟨h.1, fun i hi => ?_⟩
  rcases h.block with ⟨rfl, rfl, rfl⟩ | ⟨g, cur, rfl, h2, h3, _⟩
  · omega
  · exact ⟨g, 0, rfl, h3.lt, by simpa using h.cells.2.1 i hi⟩
theorem OwnIn.set {w : World} {lo : Nat} {g n c : Nat} {xs : List Int} (h : OwnIn w lo (some ⟨g, 0, none⟩) n c xs) (i : Nat) (x : Int) : OwnIn (w.setCell ⟨g, i, none⟩ ((Value.int .i64) x)) lo (some ⟨g, 0, none⟩) n c (xs.set i x) := by
  rcases h.block with ⟨h1, _⟩ | ⟨g', cur, h1, h2, h3, h4, h5, h6, h7⟩
  · cases h1
  · cases h1
    refine OwnIn.mk (by simp [h.1]) h2 (h3.set i _) h4 h5 (by simpa using h6) ?_
    rw [Array.toList_setIfInBounds, List.take_set, h7, List.map_set]
theorem OwnIn.hi {w : World} {lo : Nat} {a : Option Addr} {n c : Nat} {xs : List Int} (h : OwnIn w lo a n c xs) : ∀ g, a = some ⟨g, 0, none⟩ → g < w.heap.size := fun g hg => by subst hg; exact h.lt.2
theorem OwnIn.lo {w : World} {lo : Nat} {a : Option Addr} {n c : Nat} {xs : List Int} (h : OwnIn w lo a n c xs) : ∀ g, a = some ⟨g, 0, none⟩ → lo ≤ g := fun g hg => by subst hg; exact h.lt.1
theorem OwnIn.single (w : World) {b : Nat} (hb : b = w.heap.size) (y : Int) : OwnIn (w.alloc (.cells #[Value.int .i64 y] 3)) w.heap.size (some ⟨b, 0, none⟩) 1 1 [y] :=
  OwnIn.mk rfl (by omega) (Loc.new _ hb _ _) (Nat.le_refl _) (by unfold maxLen; omega) rfl rfl
theorem OwnIn.fresh (w : World) {b : Nat} (hb : b = w.heap.size) : OwnIn (w.alloc (.cells #[] 3)) w.heap.size (some ⟨b, 0, none⟩) 0 0 [] :=
  OwnIn.mk rfl (by omega) (Loc.new _ hb _ _) (Nat.le_refl _) (by unfold maxLen; omega) rfl rfl
end Go.Proofs.YtpdgpgbgakinlaaGreat

namespace Go.Proofs.YtpdgpgbgakinlaaGreat
set_option linter.unusedVariables false
set_option linter.unusedSimpArgs false
def colAt (n s : Nat) (f g : List (List Int)) (xs : List Int) (N : Nat) : Bool := decide (actL n f g xs (digL n s N) = digL n s N)
def colsK (n s : Nat) (f g : List (List Int)) (xs : List Int) (k : Nat) : List (List Int) := ((List.range k).filter (colAt n s f g xs)).map (digL n s)
def colsL (n s : Nat) (f g : List (List Int)) (xs : List Int) : List (List Int) := colsK n s f g xs (n ^ s)
section
variable {n s : Nat} {f g : List (List Int)} {xs : List Int} {k : Nat}
theorem colsK_yes (h : colAt n s f g xs k = true) : colsK n s f g xs (k + 1) = colsK n s f g xs k ++ [digL n s k] := by
  unfold colsK; rw [List.range_succ, List.filter_append, List.map_append]; simp [h]
theorem colsK_no (h : colAt n s f g xs k = false) : colsK n s f g xs (k + 1) = colsK n s f g xs k := by
  unfold colsK; rw [List.range_succ, List.filter_append, List.map_append]; simp [h]
theorem colsK_len : (colsK n s f g xs k).length ≤ k := by
  unfold colsK
  rw [List.length_map]
  exact Nat.le_trans (List.length_filter_le _ _) (by simp)
theorem colsK_mem {l : List Int} (h : l ∈ colsK n s f g xs k) : ∃ N, N < k ∧ l = digL n s N := by
  unfold colsK at h
  rw [List.mem_map] at h
  obtain ⟨N, hN, e⟩ := h
  exact ⟨N, List.mem_range.1 ((List.mem_filter.1 hN).1), e.symm⟩
end
end Go.Proofs.YtpdgpgbgakinlaaGreat

namespace Go.Proofs.YtpdgpgbgakinlaaGreat
set_option maxRecDepth 100000
set_option linter.unusedVariables false
set_option linter.unusedSimpArgs false
open Go.RowKit
def CntR (n s : Nat) (e : Ending) : Prop := (n ^ s ≤ 5000 ∧ e = .returned (.tuple #[.int .i64 ((n ^ s : Nat) : Int), .bool true])) ∨ (5000 < n ^ s ∧ e = .returned (.tuple #[.int .i64 0, .bool false]))
set_option maxHeartbeats 1000000 in
theorem countTuples_any (n s : Nat) (w : World) (hn1 : 1 ≤ n) (hn : n ≤ 12) (hs : s ≤ 6) :
    Calls Tryz.prog 168 #[.int .i64 n, .int .i64 s] w fun e w' => CntR n s e ∧ w = w' := by
  go_enter Tryz.func168, Tryz.ntmps168
  go_wp2
  go_loop [6, 8] (fun q i => ∃ k : Nat, k ≤ s ∧ i = .int .i64 k ∧ q = .int .i64 ((n ^ k : Nat) : Int) ∧ n ^ k ≤ 5000) (fun _ i => s - (intOf i).toNat)
  case atStart => exact ⟨0, Nat.zero_le _, rfl, by simp, by simp⟩
  case round =>
    obtain ⟨k, hk, rfl, rfl, hb⟩ := hrel
    by_cases hlt : k < s
    · have e1 : ((n ^ k : Nat) : Int) * (n : Int) = ((n ^ (k + 1) : Nat) : Int) := by rw [Nat.pow_succ]; simp
      have hb2 : n ^ (k + 1) ≤ 60000 := by rw [Nat.pow_succ]; exact Nat.le_trans (Nat.mul_le_mul hb hn) (by omega)
      have hms : n ^ (k + 1) ≤ n ^ s := Nat.pow_le_pow_right hn1 hlt
      have HN : Hid (n ^ (k + 1) = n ^ (k + 1)) := Lib.hid rfl
      generalize n ^ k = C at *
      generalize hC : n ^ (k + 1) = D at *
      have HC := Lib.hid hC; clear hC
      by_cases h5 : D ≤ 5000
      · go_wp2
        go_round
        case rel => exact ⟨k + 1, by omega, by go_num, by rw [HC.out], by rw [HC.out]; exact h5⟩
        case measure => simp [intOf]; omega
      · go_wp2
        go_ret2
        exact ⟨.inr ⟨by omega, rfl⟩, rfl⟩
    · obtain rfl : k = s := by omega
      generalize hC : n ^ k = C at *
      have HC := Lib.hid hC; clear hC
      go_wp2
      go_ret2
      exact ⟨.inl ⟨by rw [HC.out]; exact hb, by rw [HC.out]; rfl⟩, rfl⟩
def colsC (n s : Nat) (f g : List (List Int)) (xs : List Int) : List (List Int) × Int := if n ^ s ≤ 5000 then (colsL n s f g xs, 0) else ([], 3)
set_option maxHeartbeats 4000000 in
theorem colouringsOf_any (a : Option Addr) (n c : Nat) (a' : Option Addr) (c' : Nat) (f g : List (List Int)) (s : Nat) (ab : Option Addr) (nb cb : Nat) (xs : List Int) (w : World) (h1 : Tbl w a n f) (h2 : Tbl w a' n g) (q1 : isSol f g = true) (hr : Row w ab nb xs) (q2 : isBr s xs = true) :
    Calls Tryz.prog 149 #[sAgg a n c a' n c', bAgg s ab nb cb] w (RetT w (colsC n s f g xs).1 (colsC n s f g xs).2) := by
  obtain ⟨hn1, hn12, sf, sg⟩ := isSol_sq q1
  have hcc := isSol_coll q1
  have hfl := h1.len
  rw [← hfl] at hn1 hn12 sf sg hcc
  have hs26 := (isBr_let q2).1
  have hs6 : s ≤ 6 := by omega
  have H1 := Lib.hid q1; have H2 := Lib.hid q2; have HSF := Lib.hid sf; have HSG := Lib.hid sg; have HC := Lib.hid hcc
  clear q1 q2 sf sg hcc hfl hs26
  have hA := (Loc.new w rfl #[.slice a n c, .slice a' n c'] 26).alloc (.cells #[.int .i64 s, .slice ab nb cb] 29)
  have hE := Loc.new (w.alloc (.cells #[.slice a n c, .slice a' n c'] 26)) rfl #[.int .i64 s, .slice ab nb cb] 29
  rw [size_alloc] at hE
  have hB := below_al (below_al (Below.refl w.heap.size w) (.cells #[.slice a n c, .slice a' n c'] 26)) (.cells #[.int .i64 s, .slice ab nb cb] 29)
  go_enter Tryz.func149, Tryz.ntmps149
  go_wp2_with fail
  generalize (w.alloc (.cells #[.slice a n c, .slice a' n c'] 26)).alloc (.cells #[.int .i64 s, .slice ab nb cb] 29) = w0 at *
  have lA := hA.two
  have lE := hE.two
  refine (countTuples_any n s _ hn1 hn12 hs6).mono ?_
  rintro e w1 ⟨he, rfl⟩
  rcases he with ⟨h5, rfl⟩ | ⟨h5, rfl⟩
  · have HCS : Hid (colsC n s f g xs = (colsK n s f g xs (n ^ s), 0)) := Lib.hid (by unfold colsC; rw [if_pos h5]; rfl)
    generalize n ^ s = K at *
    go_wp2_with fail
    refine (newAction_any _ _ _ _ _ f g _ (h1.below hB) (h2.below hB) H1.out hn12).mono ?_
    rintro e w2 ⟨b, d, vs, b', d', vs', rfl, ho2, hb2⟩
    have hX := Loc.new w2 rfl #[.slice a n c, .slice a' n c', .slice b n d, .slice b' n d'] 77
    have hq := below_al hb2 (.cells #[.slice a n c, .slice a' n c', .slice b n d, .slice b' n d'] 77)
    have hE2 := (hE.below hb2 hE.lt).alloc (.cells #[.slice a n c, .slice a' n c', .slice b n d, .slice b' n d'] 77)
    have hBX := below_th hB hq
    have T1 := h1.below hBX; have T2 := h2.below hBX; have T5 := hr.below hBX
    have T3 := ho2.f.tbl.alloc (.cells #[.slice a n c, .slice a' n c', .slice b n d, .slice b' n d'] 77); have T4 := ho2.s.tbl.alloc (.cells #[.slice a n c, .slice a' n c', .slice b n d, .slice b' n d'] 77)
    clear hA hE h1 h2 hr ho2 hb2 hq lA lE hB
    go_wp2
    generalize hwA : w2.alloc (.cells #[.slice a n c, .slice a' n c', .slice b n d, .slice b' n d'] 77) = wA at *
    have hsz : w2.heap.size < wA.heap.size := hX.lt
    clear hwA
    go_loopw [10, 28] (fun z i wr => ∃ (k L : Nat) (az : Option Addr) (cz : Nat) (vz : List SV), k ≤ K ∧ i = .int .i64 k ∧ z = .slice az L cz ∧ OwnT wr wA.heap.size az L cz vz (colsK n s f g xs k) ∧ Below wA.heap.size wA wr) (fun _ i _ => K - (intOf i).toNat)
    case atStart => exact ⟨0, 0, none, 0, [], Nat.zero_le _, rfl, rfl, OwnT.nil _ _, Below.refl _ _⟩
    case round =>
      obtain ⟨N, L, az, cz, vz, hk, rfl, rfl, hoz, hq⟩ := hrel
      by_cases hlt : N < K
      · have lE := (hE2.below hq hE2.lt).two
        have hL : L ≤ N := by have := hoz.len; have := colsK_len (n := n) (s := s) (f := f) (g := g) (xs := xs) (k := N); omega
        go_wp2_with fail
        refine (tupleOf_any n s N _ hn1 (by omega) (by omega) (by omega)).mono ?_
        rintro e w3 ⟨at3, c3, rfl, ho, hb3⟩
        have hq3 := below_th hq hb3
        have lX := (hX.below hq3 hX.lt).four
        have lE3 := (hE2.below hq3 hE2.lt).two
        clear lE
        go_wp2_with fail
        refine (lead_any _ _ _ _ _ _ _ _ _ f g s _ _ _ xs _ _ (digL n s N) _ (T1.below hq3) (T2.below hq3) (T3.below hq3) (T4.below hq3) hn1 HSF.out HSG.out HC.out (T5.below hq3) H2.out ho.row (digL_less n s N hn1)).mono ?_
        rintro e w4 ⟨a4, c4, rfl, ho4, hb4⟩
        have hq4 := below_th hq3 hb4
        cases hv : colAt n s f g xs N with
        | true =>
          have HY : Hid (colsK n s f g xs (N + 1) = colsK n s f g xs N ++ [digL n s N]) := Lib.hid (colsK_yes hv)
          have HV : Hid (decide (actL n f g xs (digL n s N) = digL n s N) = true) := Lib.hid hv
          clear hv lX lE3
          go_wp2_with fail
          refine (sEqual_b _ _ _ _ _ _ (actL n f g xs (digL n s N)) (digL n s N) _ ho4.row (ho.row.below hb4) (by omega) true HV.out).mono ?_
          rintro e w5 ⟨rfl, hb5⟩
          have hq5 := below_th hq4 hb5
          have hz5 := hoz.below (below_th (below_th hb3 hb4) hb5)
          have ho5 := (ho.below hb4).below hb5
          have hwq := hq.size
          go_wp2_with (at_builtin; refine appT1 rfl rfl hz5 rfl (ho5.mono hwq) (fun g h1 h2 => by have h3 := hoz.high _ h1; have h4 := ho5.lo _ h2; omega) (fun i hi g h1 h2 => by have h3 := ho5.lo _ h1; have h4 := (hoz.row i hi).hi _ h2; omega) rfl (by omega) (by have := hq5.size; omega) ?_; intro g' cc w6 hO hb6)
          go_roundw
          case rel => exact ⟨N + 1, L + 1, _, _, _, by omega, by go_num, rfl, by rw [HY.out]; exact hO, hq5.trans hb6⟩
          case measure => simp [intOf]; omega
        | false =>
          have HY : Hid (colsK n s f g xs (N + 1) = colsK n s f g xs N) := Lib.hid (colsK_no hv)
          have HV : Hid (decide (actL n f g xs (digL n s N) = digL n s N) = false) := Lib.hid hv
          clear hv lX lE3
          go_wp2_with fail
          refine (sEqual_b _ _ _ _ _ _ (actL n f g xs (digL n s N)) (digL n s N) _ ho4.row (ho.row.below hb4) (by omega) false HV.out).mono ?_
          rintro e w5 ⟨rfl, hb5⟩
          have hq5 := below_th hq4 hb5
          have hz5 := hoz.below (below_th (below_th hb3 hb4) hb5)
          go_wp2
          go_roundw
          case rel => exact ⟨N + 1, L, _, _, _, by omega, by go_num, rfl, by rw [HY.out]; exact hz5, hq5⟩
          case measure => simp [intOf]; omega
      · obtain rfl : N = K := by omega
        go_wp2
        go_ret2
        exact ⟨az, L, cz, vz, by rw [HCS.out]; rfl, by rw [HCS.out]; exact hoz.mono hBX.size, hBX.trans (hq.mono hBX.size)⟩
  · have HCS : Hid (colsC n s f g xs = ([], 3)) := Lib.hid (by unfold colsC; rw [if_neg (by omega)])
    clear h5
    go_wp2
    go_ret2
    exact ⟨none, 0, 0, [], by rw [HCS.out]; rfl, by rw [HCS.out]; exact OwnT.nil _ _, hB⟩
end Go.Proofs.YtpdgpgbgakinlaaGreat
