/-
  How a braid leads a tuple: what the program's functions compute.
  No condition but bounds on lengths.
-/
import Derived.Test.YtfmcaflefiapoaaInvI
import Derived.Test.YtfmcaflefiapoaaMoveI
import Derived.Test.YtfmcaflefiapoaaBase
namespace Go.Proofs.Ytfmcaflefiapoaa
set_option maxRecDepth 100000
set_option linter.unusedVariables false
set_option linter.unusedSimpArgs false
open Go.RowKit

abbrev aAgg (a : Option Addr) (n c : Nat) (a' : Option Addr) (c' : Nat) (b : Option Addr) (d : Nat) (b' : Option Addr) (d' : Nat) : Value := .agg #[.slice a n c, .slice a' n c', .slice b n d, .slice b' n d']

theorem Loc.four {w : World} {b : Nat} {x y z u : Value} {t : TypeId} (h : Loc w b #[x, y, z, u] t) : w.cell? ⟨b, 0, none⟩ = some x ∧ w.cell? ⟨b, 1, none⟩ = some y ∧ w.cell? ⟨b, 2, none⟩ = some z ∧ w.cell? ⟨b, 3, none⟩ = some u ∧ w.frozen? ⟨b, 0, none⟩ = false ∧ w.frozen? ⟨b, 1, none⟩ = false ∧ w.frozen? ⟨b, 2, none⟩ = false ∧ w.frozen? ⟨b, 3, none⟩ = false :=
  ⟨h.cell 0 rfl, h.cell 1 rfl, h.cell 2 rfl, h.cell 3 rfl, h.free 0, h.free 1, h.free 2, h.free 3⟩

set_option maxHeartbeats 2000000 in
theorem newAction_any (a : Option Addr) (n c : Nat) (a' : Option Addr) (c' : Nat) (f g : List (List Int)) (w : World) (h1 : Tbl w a n f) (h2 : Tbl w a' n g) (hs : isSol f g = true) (hm : n ≤ 12) :
    Calls Try.prog 61 #[sAgg a n c a' n c'] w fun e w' => ∃ b d vs b' d' vs', e = .returned (aAgg a n c a' c' b d b' d') ∧ OwnS w' w.heap.size b n d vs (bfT n f g) b' n d' vs' (bgT n f g) ∧ Below w.heap.size w w' := by
  have hA := (Loc.new w rfl #[.slice a n c, .slice a' n c'] 33).alloc (.cells #[.slice none 0 0, .slice none 0 0, .slice none 0 0, .slice none 0 0] 76)
  have hR := Loc.new (w.alloc (.cells #[.slice a n c, .slice a' n c'] 33)) rfl #[.slice none 0 0, .slice none 0 0, .slice none 0 0, .slice none 0 0] 76
  rw [size_alloc] at hR
  have hB := below_al (below_al (Below.refl w.heap.size w) (.cells #[.slice a n c, .slice a' n c'] 33)) (.cells #[.slice none 0 0, .slice none 0 0, .slice none 0 0, .slice none 0 0] 76)
  have HS := Lib.hid hs; clear hs
  go_enter Try.func61, Try.ntmps61
  go_wp2_with fail
  generalize (w.alloc (.cells #[.slice a n c, .slice a' n c'] 33)).alloc (.cells #[.slice none 0 0, .slice none 0 0, .slice none 0 0, .slice none 0 0] 76) = w0 at *
  refine (inverseSolution_any _ _ _ _ _ f g _ (h1.below hB) (h2.below hB) HS.out hm).mono ?_
  rintro e w1 ⟨b, d, vs, b', d', vs', rfl, ho, hb1⟩
  have lA := (hA.below hb1 hA.lt).two
  have hR1 := hR.below hb1 hR.lt
  have lR := hR1.four
  have lR2 := (hR1.alloc (.cells #[.slice b n d, .slice b' n d'] 33)).four
  have lA2 := ((hA.below hb1 hA.lt).alloc (.cells #[.slice b n d, .slice b' n d'] 33)).two
  have hs1 := hb1.size
  have hs2 := hR.lt
  go_wp2
  have n1 : ∀ q, TblS b n vs q → q ≠ w.heap.size + 1 := fun q hq => by have := ho.f.uLo q hq; omega
  have n2 : ∀ q, TblS b' n vs' q → q ≠ w.heap.size + 1 := fun q hq => by have := ho.s.uLo q hq; omega
  have hs0 := hB.size
  refine bodyPost_ret (v := aAgg a n c a' c' b d b' d') (by simp [results, Try.results61, go_sem, lR, lR2]) rfl ⟨b, d, vs, b', d', vs', rfl, ?_, ?_⟩
  · exact ⟨(((((ho.f.alloc _).uSet n1 _).uSet n1 _).uSet n1 _).uSet n1 _).mono hs0, (((((ho.s.alloc _).uSet n2 _).uSet n2 _).uSet n2 _).uSet n2 _).mono hs0, ho.ap⟩
  · exact below_setne (below_setne (below_setne (below_setne (below_al (below_th hB hb1) _) (by show w.heap.size ≤ w.heap.size + 1; omega) _) (by show w.heap.size ≤ w.heap.size + 1; omega) _) (by show w.heap.size ≤ w.heap.size + 1; omega) _) (by show w.heap.size ≤ w.heap.size + 1; omega) _

set_option maxHeartbeats 2000000 in
theorem step_any (a : Option Addr) (n c : Nat) (a' : Option Addr) (c' : Nat) (b : Option Addr) (d : Nat) (b' : Option Addr) (d' : Nat) (f g : List (List Int)) (al : Option Addr) (m cl : Nat) (l : List Int) (x : Int) (w : World)
    (h1 : Tbl w a n f) (h2 : Tbl w a' n g) (h3 : Tbl w b n (bfT n f g)) (h4 : Tbl w b' n (bgT n f g)) (hn1 : 1 ≤ n) (hf : Sq n f) (hg : Sq n g) (hc : collOk n f g = true)
    (hl : Row w al m l) (hm : m ≤ 1000000) (hx1 : -1000 ≤ x) (hx2 : x ≤ 1000) (hp0 : 0 ≤ plc x) (hp : plc x + 1 < m) (hle : Less n l) :
    Calls Try.prog 103 #[aAgg a n c a' c' b d b' d', .int .i64 x, .slice al m cl] w fun e w' => ∃ ao co, e = .returned (.slice ao m co) ∧ Own w' w.heap.size ao m co (stepL n f g x l) ∧ Below w.heap.size w w' := by
  obtain ⟨k, hk⟩ : ∃ k : Nat, plc x = k := ⟨(plc x).toNat, by omega⟩
  have hkm : k + 1 < m := by omega
  have HK := Lib.hid hk
  have HSF := Lib.hid hf; have HSG := Lib.hid hg; have HC := Lib.hid hc
  have hA := Loc.new w rfl #[.slice a n c, .slice a' n c', .slice b n d, .slice b' n d'] 76
  have lA := hA.four
  have hB := below_al (Below.refl w.heap.size w) (.cells #[.slice a n c, .slice a' n c', .slice b n d, .slice b' n d'] 76)
  by_cases hpos : 0 < x
  · have hst : stepL n f g x l = doF f g k l := by unfold stepL; rw [if_pos hpos, hk]; rfl
    have HST := Lib.hid hst
    clear hst hk hp hp0 hf hg hc
    go_enter Try.func103, Try.ntmps103
    go_wp2
    go_region_held3 (fun w' => (w'.cell? ⟨w.heap.size, 0, none⟩ = some (.slice a n c) ∧ w'.cell? ⟨w.heap.size, 1, none⟩ = some (.slice a' n c')) ∧ w'.cell? ⟨w.heap.size, 2, none⟩ = some (.slice b n d) ∧ w'.cell? ⟨w.heap.size, 3, none⟩ = some (.slice b' n d'))
      (first | exact ⟨⟨lA2.1, lA2.2.1⟩, lA2.2.2.1, lA2.2.2.2.1⟩ | exact ⟨⟨lA.1, lA.2.1⟩, lA.2.2.1, lA.2.2.2.1⟩)
      (first
        | (go_at_call 104; refine (placeOf_any _ _ hx1 hx2).mono ?_; rintro e w1 ⟨rfl, rfl⟩; rw [HK.out])
        | (go_at_call 126; refine (moved_any _ _ _ _ _ f g _ _ _ l k _ ((h1.alloc _).drewN 1) ((h2.alloc _).drewN 1) hn1 HSF.out HSG.out ((hl.alloc _).drewN 1) hm hkm hle).mono ?_; rintro e w2 ⟨ao, co, rfl, ho, hb2⟩; have hB2 := below_th (below_drewN hB 1) hb2; have lA2 := ((hA.drewN 1).below hb2 (by simp)).four))
    all_goals
      go_wp2
      go_ret
      exact ⟨_, _, rfl, by rw [HST.out]; exact ho.mono (by simp), hB2⟩
  · have hst : stepL n f g x l = doF (bfT n f g) (bgT n f g) k l := by unfold stepL; rw [if_neg hpos, hk]; rfl
    have HST := Lib.hid hst
    have s3 := bf_sq hn1 hf hg hc
    have s4 : Sq n (bgT n f g) := bg_sq hn1
    have HS3 := Lib.hid s3; have HS4 := Lib.hid s4
    clear hst hk hp hp0 hf hg hc s3 s4
    go_enter Try.func103, Try.ntmps103
    go_wp2
    go_region_held3 (fun w' => (w'.cell? ⟨w.heap.size, 0, none⟩ = some (.slice a n c) ∧ w'.cell? ⟨w.heap.size, 1, none⟩ = some (.slice a' n c')) ∧ w'.cell? ⟨w.heap.size, 2, none⟩ = some (.slice b n d) ∧ w'.cell? ⟨w.heap.size, 3, none⟩ = some (.slice b' n d'))
      (first | exact ⟨⟨lA2.1, lA2.2.1⟩, lA2.2.2.1, lA2.2.2.2.1⟩ | exact ⟨⟨lA.1, lA.2.1⟩, lA.2.2.1, lA.2.2.2.1⟩)
      (first
        | (go_at_call 104; refine (placeOf_any _ _ hx1 hx2).mono ?_; rintro e w1 ⟨rfl, rfl⟩; rw [HK.out])
        | (go_at_call 126; refine (moved_any _ _ _ _ _ (bfT n f g) (bgT n f g) _ _ _ l k _ ((h3.alloc _).drewN 1) ((h4.alloc _).drewN 1) hn1 HS3.out HS4.out ((hl.alloc _).drewN 1) hm hkm hle).mono ?_; rintro e w2 ⟨ao, co, rfl, ho, hb2⟩; have hB2 := below_th (below_drewN hB 1) hb2; have lA2 := ((hA.drewN 1).below hb2 (by simp)).four))
    all_goals
      go_wp2
      go_ret
      exact ⟨_, _, rfl, by rw [HST.out]; exact ho.mono (by simp), hB2⟩

set_option maxHeartbeats 2000000 in
theorem lead_any (a : Option Addr) (n c : Nat) (a' : Option Addr) (c' : Nat) (b : Option Addr) (d : Nat) (b' : Option Addr) (d' : Nat) (f g : List (List Int)) (s : Nat) (ab : Option Addr) (nb cb : Nat) (xs : List Int) (al : Option Addr) (cl : Nat) (l : List Int) (w : World)
    (h1 : Tbl w a n f) (h2 : Tbl w a' n g) (h3 : Tbl w b n (bfT n f g)) (h4 : Tbl w b' n (bgT n f g)) (hn1 : 1 ≤ n) (hf : Sq n f) (hg : Sq n g) (hc : collOk n f g = true)
    (hr : Row w ab nb xs) (hb : isBr s xs = true) (hl : Row w al s l) (hle : Less n l) :
    Calls Try.prog 73 #[aAgg a n c a' c' b d b' d', bAgg s ab nb cb, .slice al s cl] w fun e w' => ∃ ao co, e = .returned (.slice ao s co) ∧ Own w' w.heap.size ao s co (actL n f g xs l) ∧ Below w.heap.size w w' := by
  obtain ⟨h26, h30, hlet⟩ := isBr_let hb
  have hll := hl.len
  have hrl := hr.len
  have hpl : ∀ x ∈ xs, 0 ≤ plc x ∧ plc x + 1 < s := fun x hx => by
    have := hlet x hx
    unfold plc; split <;> omega
  have hlt2 : ∀ k, Less n (actL n f g (xs.take k) l) := fun k => hle.act hn1 hf hg hc _ (fun x hx => by have := hpl x (List.mem_of_mem_take hx); omega)
  have hn30 : nb ≤ 30 := by omega
  have HLet := Lib.hid hlet; have HP := Lib.hid hpl; have HLT := Lib.hid hlt2; have HRL := Lib.hid hrl
  have HSF := Lib.hid hf; have HSG := Lib.hid hg; have HC := Lib.hid hc
  clear hlet hpl hlt2 hb hf hg hc hrl hll
  have hA := (Loc.new w rfl #[.slice a n c, .slice a' n c', .slice b n d, .slice b' n d'] 76).alloc (.cells #[.int .i64 s, .slice ab nb cb] 36)
  have hE := Loc.new (w.alloc (.cells #[.slice a n c, .slice a' n c', .slice b n d, .slice b' n d'] 76)) rfl #[.int .i64 s, .slice ab nb cb] 36
  rw [size_alloc] at hE
  have hB := below_al (below_al (Below.refl w.heap.size w) (.cells #[.slice a n c, .slice a' n c', .slice b n d, .slice b' n d'] 76)) (.cells #[.int .i64 s, .slice ab nb cb] 36)
  have hl0 := (hl.alloc (.cells #[.slice a n c, .slice a' n c', .slice b n d, .slice b' n d'] 76)).alloc (.cells #[.int .i64 s, .slice ab nb cb] 36)
  go_enter Try.func73, Try.ntmps73
  go_wp2_with fail
  generalize (w.alloc (.cells #[.slice a n c, .slice a' n c', .slice b n d, .slice b' n d'] 76)).alloc (.cells #[.int .i64 s, .slice ab nb cb] 36) = w0 at *
  refine (clone_any _ _ _ l _ hl0 (by omega)).mono ?_
  rintro e w1 ⟨ao, co, rfl, ho, hb1⟩
  have hA1 := hA.below hb1 hA.lt
  have hE1 := hE.below hb1 hE.lt
  have hB1 := below_th hB hb1
  have ho1 := ho.mono hB.size
  have lE := hE1.two
  clear hA hE hB hb1 ho hl0 hl
  go_wp2
  go_loopw [2, 14] (fun t i wr => ∃ (k : Nat) (ao : Option Addr) (co : Nat), k ≤ nb ∧ i = .int .i64 k ∧ t = .slice ao s co ∧ Own wr w.heap.size ao s co (actL n f g (xs.take k) l) ∧ Loc wr w.heap.size #[.slice a n c, .slice a' n c', .slice b n d, .slice b' n d'] 76 ∧ Below w.heap.size w wr) (fun _ i _ => nb - (intOf i).toNat)
  case atStart => exact ⟨0, _, _, Nat.zero_le _, rfl, rfl, by simpa [actL] using ho1, hA1, hB1⟩
  case round =>
    clear ho1 hA1 hB1 hE1 lE
    obtain ⟨k, ao, co, hk, rfl, rfl, ho, hA, hB⟩ := hrel
    have lA := hA.four
    by_cases hlt : k < nb
    · have hr := hr.below hB
      obtain ⟨bb, off, rfl, g1⟩ := hr.at k hlt
      have hx : k < xs.length := by have := HRL.out; omega
      rw [getD_eq_at hx] at g1
      have hle2 := HLet.out xs[k] (List.getElem_mem hx)
      have hpl2 := HP.out xs[k] (List.getElem_mem hx)
      have HS : Hid (actL n f g (xs.take (k + 1)) l = stepL n f g xs[k] (actL n f g (xs.take k) l)) := Lib.hid (actL_take n f g xs l k hx)
      have b1 : -1000 ≤ xs[k] := by omega
      have b2 : xs[k] ≤ 1000 := by omega
      obtain ⟨p0, p1⟩ := hpl2
      clear hle2
      have T1 := h1.below hB; have T2 := h2.below hB; have T3 := h3.below hB; have T4 := h4.below hB
      go_wp2_with fail
      refine (step_any _ _ _ _ _ _ _ _ _ f g _ _ _ _ _ _ T1 T2 T3 T4 hn1 HSF.out HSG.out HC.out ho.row (by omega) b1 b2 p0 p1 (HLT.out k)).mono ?_
      rintro e w2 ⟨ao2, co2, rfl, ho2, hb2⟩
      have hA2 := hA.below hb2 hA.lt
      have hB2 := below_th hB hb2
      go_wp2
      go_roundw
      case rel => exact ⟨k + 1, _, _, by omega, by go_num, rfl, by rw [HS.out]; exact ho2.mono hB.size, hA2, hB2⟩
      case measure => simp [intOf]; omega
    · obtain rfl : k = nb := by omega
      rw [List.take_of_length_le (by have := HRL.out; omega)] at ho
      go_wp2
      go_ret
      exact ⟨_, _, rfl, ho, hB⟩

end Go.Proofs.Ytfmcaflefiapoaa
