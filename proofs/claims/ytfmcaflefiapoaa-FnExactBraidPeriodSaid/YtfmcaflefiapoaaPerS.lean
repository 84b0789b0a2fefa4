/-
  BraidPeriod: what the reference's functions compute.
  No condition but bounds.
-/
import Derived.Test.YtfmcaflefiapoaaPerI
import Derived.Test.YtfmcaflefiapoaaBools
import Derived.Test.YtfmcaflefiapoaaColsB
import Derived.Test.YtfmcaflefiapoaaCwS
namespace Go.Proofs.Ytfmcaflefiapoaa
set_option maxRecDepth 100000
set_option linter.unusedVariables false
set_option linter.unusedSimpArgs false
open Go.RowKit

set_option maxHeartbeats 1000000 in
theorem l06Number_any (n s : Nat) (a : Option Addr) (c : Nat) (l : List Int) (w : World) (h : Row w a s l) (hn1 : 1 ≤ n) (hn : n ≤ 12) (hs : s ≤ 6) (hle : Less n l) (hb : n ^ s ≤ 5000) :
    Calls Try.prog 67 #[.slice a s c, .int .i64 n] w fun e w' => e = .returned (.int .i64 ((numL n l : Nat) : Int)) ∧ w = w' := by
  have HL := Lib.hid h.len
  have HBD := Lib.hid (numL_bd hn1 h.len.symm hle hb)
  go_enter Try.func67, Try.ntmps67
  go_wp2
  go_loop [5, 6] (fun m i => ∃ k : Nat, k ≤ s ∧ i = .int .i64 k ∧ m = .int .i64 ((numL n (l.take k) : Nat) : Int)) (fun _ i => s - (intOf i).toNat)
  case atStart => exact ⟨0, Nat.zero_le _, rfl, by simp [numL]⟩
  case round =>
    obtain ⟨k, hk, rfl, rfl⟩ := hrel
    by_cases hlt : k < s
    · obtain ⟨b, off, rfl, g1⟩ := h.at k hlt
      have hx : k < l.length := by have := HL.out; omega
      obtain ⟨d, hd, ed⟩ := hle k hx
      have HT := Lib.hid (numL_take (n := n) hx)
      rw [ed] at g1 HT
      rw [Int.toNat_natCast] at HT
      have b1 := HBD.out k hk
      generalize numL n (l.take k) = M at *
      have m1 : M * n ≤ 60000 := Nat.le_trans (Nat.mul_le_mul (show M ≤ 5000 by omega) hn) (by omega)
      have e1 : (M : Int) * (n : Int) = ((M * n : Nat) : Int) := by simp
      have HS : Hid (((M * n : Nat) : Int) + (d : Int) = ((M * n + d : Nat) : Int)) := Lib.hid (by simp)
      generalize hP : M * n = P at *
      clear hP ed
      go_wp2
      go_round
      case rel => exact ⟨k + 1, by omega, by go_num, by rw [HT.out, ← HS.out]⟩
      case measure => simp [intOf]; omega
    · obtain rfl : k = s := by omega
      go_wp2
      go_ret
      exact ⟨ret_int (by rw [List.take_of_length_le (by have := HL.out; omega)]), rfl⟩

set_option maxHeartbeats 1000000 in
theorem l16Common_any (x y : Nat) (w : World) (hx : x ≤ 1000000000) (hy : y ≤ 1000000000) :
    Calls Try.prog 70 #[.int .i64 x, .int .i64 y] w fun e w' => e = .returned (.int .i64 ((Nat.gcd x y : Nat) : Int)) ∧ w = w' := by
  go_enter Try.func70, Try.ntmps70
  go_wp2
  go_loop [0, 1] (fun a b => ∃ u v : Nat, a = .int .i64 u ∧ b = .int .i64 v ∧ u ≤ 1000000000 ∧ v ≤ 1000000000 ∧ Hid (Nat.gcd u v = Nat.gcd x y)) (fun _ b => (intOf b).toNat)
  case atStart => exact ⟨x, y, rfl, rfl, hx, hy, Lib.hid rfl⟩
  case round =>
    obtain ⟨u, v, rfl, rfl, hu, hv, hg⟩ := hrel
    by_cases h0 : 0 < v
    · have hm : u % v < v := Nat.mod_lt _ h0
      have e1 : (u : Int) % (v : Int) = ((u % v : Nat) : Int) := by simp
      have hv0 : (v : Int) ≠ 0 := by omega
      have i1 : (0 : Int) < (v : Int) := by omega
      have HG : Hid (Nat.gcd v (u % v) = Nat.gcd x y) := Lib.hid (by rw [← hg.out, Nat.gcd_comm u v, Nat.gcd_rec v u, Nat.gcd_comm])
      generalize u % v = r at *
      go_wp2
      go_round
      case rel => exact ⟨v, r, rfl, by rw [e1], hv, by omega, HG⟩
      case measure => simp [intOf]; omega
    · obtain rfl : v = 0 := by omega
      have HE : Hid (Nat.gcd x y = u) := Lib.hid (by rw [← hg.out]; simp)
      go_wp2
      go_ret
      exact ⟨ret_int (by rw [HE.out]), rfl⟩

/-- the numbers to which the first k tuples are led -/
def nxtL (F : Nat → Nat) (k : Nat) : List Int := (List.range k).map fun i => ((F i : Nat) : Int)
theorem nxtL_len (F : Nat → Nat) (k : Nat) : (nxtL F k).length = k := by simp [nxtL]
theorem nxtL_succ (F : Nat → Nat) (k : Nat) : nxtL F (k + 1) = nxtL F k ++ [((F k : Nat) : Int)] := by simp [nxtL, List.range_succ]
theorem nxtL_get (F : Nat → Nat) {k i : Nat} (h : i < k) : (nxtL F k).getD i 0 = ((F i : Nat) : Int) := by simp [nxtL, List.getD_eq_getElem?_getD, List.getElem?_map, h]

set_option maxHeartbeats 16000000 in
theorem spec_Bp_l (a : Option Addr) (n c : Nat) (f : List (List Int)) (a' : Option Addr) (n' c' : Nat) (g : List (List Int)) (s : Int) (ab : Option Addr) (nb cb : Nat) (xs : List Int) (w : World) (h1 : Sol w a n f a' n' g) (hm : n ≤ 9223372036854775807 ∧ n' ≤ 9223372036854775807) (hs : I64 s) (hr : Row w ab nb xs) (hnb : nb ≤ 9223372036854775807) (hx : I64s xs) :
    Calls Try.prog 33 #[sAgg a n c a' n' c', bAgg s ab nb cb] w (RetI w (bpF f g s xs).1 (bpF f g s xs).2) := by
  obtain ⟨hm1, hm2⟩ := hm
  have HFL := Lib.hid h1.f.len
  have hA := (Loc.new w rfl #[.slice a n c, .slice a' n' c'] 33).alloc (.cells #[.int .i64 s, .slice ab nb cb] 36)
  have hE := Loc.new (w.alloc (.cells #[.slice a n c, .slice a' n' c'] 33)) rfl #[.int .i64 s, .slice ab nb cb] 36
  rw [size_alloc] at hE
  have hB := below_al (below_al (Below.refl w.heap.size w) (.cells #[.slice a n c, .slice a' n' c'] 33)) (.cells #[.int .i64 s, .slice ab nb cb] 36)
  go_enter Try.func33, Try.ntmps33
  go_wp2_with fail
  generalize (w.alloc (.cells #[.slice a n c, .slice a' n' c'] 33)).alloc (.cells #[.int .i64 s, .slice ab nb cb] 36) = w0 at *
  have lA := hA.two
  have lE := hE.two
  refine (l16Code_any _ _ _ _ _ _ f g _ _ _ _ xs _ (h1.f.below hB) (h1.s.below hB) hm1 hm2 hs (hr.below hB) hnb).mono ?_
  rintro e w1 ⟨rfl, hb1⟩
  replace hB := below_th hB hb1; replace hA := hA.below hb1 hA.lt; replace hE := hE.below hb1 hE.lt; replace lA := hA.two; replace lE := hE.two
  clear hb1
  by_cases q : codeF f g s xs = 0
  rotate_left
  · have HQ : Hid (bpF f g s xs = (0, 1)) := Lib.hid (by
      by_cases q0 : isSol f g = true
      · refine bpF_1 q0 ?_
        cases q1 : isBr s xs with
        | false => rfl
        | true => exact absurd (by unfold codeF; rw [q0, q1]; rfl) q
      · exact bpF_0 (by simpa using q0))
    rw [codeF_one q]
    clear q
    go_wp2
    go_ret2
    exact ⟨by rw [HQ.out]; rfl, hB⟩
  rw [q]
  obtain ⟨q0, q1⟩ := codeF_zero q
  have HS := Lib.hid q0
  have HBR := Lib.hid q1
  have hs26 := (isBr_let q1).1
  have hpl : ∀ x ∈ xs, (plc x).toNat + 1 < s.toNat := fun x hx => by have := (isBr_let q1).2.2 x hx; unfold plc; split <;> omega
  clear q q0 q1
  obtain ⟨hn1, hn12, sf, sg⟩ := isSol_sq HS.out
  have hcc := isSol_coll HS.out
  obtain rfl : n' = n := by rw [h1.s.len, HFL.out]; have := sg.len; omega
  rw [← HFL.out] at hn1 hn12 sf sg hcc
  obtain ⟨S, rfl⟩ : ∃ S : Nat, s = S := ⟨s.toNat, by omega⟩
  have HPL : Hid (∀ x ∈ xs, (plc x).toNat + 1 < S) := Lib.hid (by simpa using hpl)
  have HSF := Lib.hid sf; have HSG := Lib.hid sg; have HC := Lib.hid hcc
  have HPM : Hid (PermN (nxtN n' S f g xs) (n' ^ S)) := Lib.hid (nxt_perm hn1 sf sg hcc HPL.out)
  clear sf sg hcc hpl
  have hs2 : 2 ≤ S := by omega
  have hs6 : S ≤ 6 := by omega
  by_cases h5 : n' ^ S ≤ 5000
  rotate_left
  · have HQ : Hid (bpF f g S xs = (0, 3)) := Lib.hid (bpF_2 HS.out HBR.out (by rw [← HFL.out, Int.toNat_natCast]; exact h5))
    have HT : Hid (∀ w, Calls Try.prog 66 #[sAgg a n' c a' n' c', bAgg S ab nb cb] w fun e w' => e = .returned (.int .i64 (-1)) ∧ Below w.heap.size w w') := Lib.hid fun w => (l16Tuples_any a n' c a' n' c' S ab nb cb w hn1 hn12 hs6).mono fun e w' ⟨he, hb⟩ => by
      rcases he with ⟨h, rfl⟩ | ⟨h, rfl⟩
      · exact absurd h h5
      · exact ⟨rfl, hb⟩
    clear h5
    go_wp2_with fail
    go_region_held3 (fun w' => (w'.cell? ⟨w.heap.size, 0, none⟩ = some (.slice a n' c) ∧ w'.cell? ⟨w.heap.size, 1, none⟩ = some (.slice a' n' c')) ∧ w'.cell? ⟨w.heap.size + 1, 0, none⟩ = some (.int .i64 S) ∧ w'.cell? ⟨w.heap.size + 1, 1, none⟩ = some (.slice ab nb cb))
      (first | exact ⟨⟨lA3.1, lA3.2.1⟩, lE3.1, lE3.2.1⟩ | exact ⟨⟨lA.1, lA.2.1⟩, lE.1, lE.2.1⟩ | go_keep)
      (first | (go_at_call 66; refine (HT.out _).mono ?_; rintro e w3 ⟨rfl, hb3⟩; have hr3 := (Below.drew (Below.refl _ _)).trans hb3; have lA3 := (hA.below hr3 hA.lt).two; have lE3 := (hE.below hr3 hE.lt).two; have hB3 := below_th hB hr3))
    all_goals
      go_wp2
      go_ret2
      exact ⟨by rw [HQ.out]; rfl, hB3⟩
  have HQ : Hid (bpF f g S xs = perF (nxtN n' S f g xs) (n' ^ S)) := Lib.hid (by rw [bpF_3 HS.out HBR.out (by rw [← HFL.out, Int.toNat_natCast]; exact h5), ← HFL.out, Int.toNat_natCast])
  have HFD : Hid (∀ N, nxtN n' S f g xs N = numL n' (actL n' f g xs (digL n' S N))) := Lib.hid fun N => rfl
  have HK5 : Hid (n' ^ S ≤ 5000) := Lib.hid h5
  have HT : Hid (∀ w, Calls Try.prog 66 #[sAgg a n' c a' n' c', bAgg S ab nb cb] w fun e w' => e = .returned (.int .i64 ((n' ^ S : Nat) : Int)) ∧ Below w.heap.size w w') := Lib.hid fun w => (l16Tuples_any a n' c a' n' c' S ab nb cb w hn1 hn12 hs6).mono fun e w' ⟨he, hb⟩ => by
    rcases he with ⟨h, rfl⟩ | ⟨h, rfl⟩
    · exact ⟨rfl, hb⟩
    · exact absurd h5 (by omega)
  have hKp : 1 ≤ n' ^ S := Nat.pow_pos hn1
  generalize nxtN n' S f g xs = F at *
  obtain ⟨K, hK⟩ : ∃ K, K = n' ^ S := ⟨_, rfl⟩
  rw [← hK] at h5 hKp HQ HPM HT
  clear hK
  go_wp2_with fail
  go_region_held3 (fun w' => (w'.cell? ⟨w.heap.size, 0, none⟩ = some (.slice a n' c) ∧ w'.cell? ⟨w.heap.size, 1, none⟩ = some (.slice a' n' c')) ∧ w'.cell? ⟨w.heap.size + 1, 0, none⟩ = some (.int .i64 S) ∧ w'.cell? ⟨w.heap.size + 1, 1, none⟩ = some (.slice ab nb cb))
    (first | exact ⟨⟨lA3.1, lA3.2.1⟩, lE3.1, lE3.2.1⟩ | exact ⟨⟨lA.1, lA.2.1⟩, lE.1, lE.2.1⟩ | go_keep)
    (first | (go_at_call 66; refine (HT.out _).mono ?_; rintro e w3 ⟨rfl, hb3⟩; have hr3 := (Below.drew (Below.refl _ _)).trans hb3; have hA3 := hA.below hr3 hA.lt; have hE3 := hE.below hr3 hE.lt; have lA3 := hA3.two; have lE3 := hE3.two; have hB3 := below_th hB hr3))
  clear lA lE
  have T1 := h1.f.below hB3; have T2 := h1.s.below hB3; have T6 := hr.below hB3
  have hBs := hB3.size
  have hO0 := Own.fresh w3 rfl
  have hQ0 := below_al (Below.refl w3.heap.size w3) (.cells #[] 2)
  clear hA hE lA3 lE3 h1 hr hB hr3 hb3
  go_wp2
  go_loopw [9, 10] (fun z i wr => ∃ (k : Nat) (ay : Option Addr) (cy : Nat), k ≤ K ∧ i = .int .i64 k ∧ z = .slice ay k cy ∧ Own wr w3.heap.size ay k cy (nxtL F k) ∧ Below w3.heap.size w3 wr) (fun _ i _ => K - (intOf i).toNat)
  case atStart => exact ⟨0, _, 0, Nat.zero_le _, rfl, rfl, by simpa [nxtL] using hO0, hQ0⟩
  case round =>
    clear hO0 hQ0
    obtain ⟨N, ay, cy, hk, rfl, rfl, hoy, hq⟩ := hrel
    by_cases hlt : N < K
    · have hAr := hA3.below hq hA3.lt
      have hEr := hE3.below hq hE3.lt
      have lA := hAr.two
      have lE := hEr.two
      have HNX : Hid (F N = numL n' (actL n' f g xs (digL n' S N))) := Lib.hid (HFD.out N)
      have HST := Lib.hid (nxtL_succ F N)
      have HLA : Hid (Less n' (actL n' f g xs (digL n' S N))) := Lib.hid ((digL_less n' S N hn1).act hn1 HSF.out HSG.out HC.out xs (fun x h => by rw [digL_len]; exact HPL.out x h))
      have hwq := hq.size
      obtain ⟨W, rfl⟩ : ∃ W : World, W = wr := ⟨_, rfl⟩
      go_wp2_with fail
      go_region_held3 (fun w' => (w'.cell? ⟨w.heap.size, 0, none⟩ = some (.slice a n' c) ∧ w'.cell? ⟨w.heap.size, 1, none⟩ = some (.slice a' n' c')) ∧ w'.cell? ⟨w.heap.size + 1, 0, none⟩ = some (.int .i64 S) ∧ w'.cell? ⟨w.heap.size + 1, 1, none⟩ = some (.slice ab nb cb))
        (first | exact ⟨⟨lA8.1, lA8.2.1⟩, lE8.1, lE8.2.1⟩ | exact ⟨⟨lA7.1, lA7.2.1⟩, lE7.1, lE7.2.1⟩ | exact ⟨⟨lA6.1, lA6.2.1⟩, lE6.1, lE6.2.1⟩ | exact ⟨⟨lA5.1, lA5.2.1⟩, lE5.1, lE5.2.1⟩ | exact ⟨⟨lA.1, lA.2.1⟩, lE.1, lE.2.1⟩ | go_keep)
        (first
          | (go_at_call 69; refine (l06Digits_any n' S N _ hn1 (by omega) (by omega) (by omega)).mono ?_; rintro e w5 ⟨a5, c5, rfl, ho5, hb5⟩; have hr5 : Below W.heap.size W w5 := (Below.drew (Below.refl _ _)).trans hb5; have hq5 := below_th hq hr5; have lA5 := (hAr.below hr5 hAr.lt).two; have lE5 := (hEr.below hr5 hEr.lt).two)
          | (go_at_call 68; refine (l16Act_any _ _ _ _ _ f g S _ _ _ xs _ _ (digL n' S N) _ (T1.below hq5) (T2.below hq5) hn1 hn12 HSF.out HSG.out HC.out (T6.below hq5) HBR.out ho5.row (digL_less n' S N hn1)).mono ?_; rintro e w6 ⟨a6, c6, rfl, ho6, hb6⟩; have hr6 := below_th hr5 hb6; have hA6 := hAr.below hr6 hAr.lt; have hE6 := hEr.below hr6 hEr.lt; have lA6 := hA6.two; have lE6 := hE6.two; have hoy6 := hoy.below hr6; have hw6 := hr6.size)
          | (go_at_call 67; refine (l06Number_any n' S _ _ (actL n' f g xs (digL n' S N)) _ ho6.row hn1 hn12 hs6 HLA.out HK5.out).mono ?_; rintro e w7 ⟨rfl, hw7⟩; subst hw7; rw [← HNX.out]; have lA7 := (hA6.alloc (.cells #[.int .i64 ((F N : Nat) : Int)] 2)).two; have lE7 := (hE6.alloc (.cells #[.int .i64 ((F N : Nat) : Int)] 2)).two)
          | (refine step_app1n rfl rfl hoy6 rfl rfl ?_ ?_ ?_; (omega); (omega); intro g' cc w8 hO8 hg8 hs8 hb8; have hr8 : Below w3.heap.size W w8 := (hr6.mono hwq).trans hb8; have lA8 := (hA6.below hb8 hA3.lt).two; have lE8 := (hE6.below hb8 hE3.lt).two))
      all_goals
        go_wp2
        go_roundw
        case rel => exact ⟨N + 1, _, _, by omega, by go_num, rfl, by rw [HST.out]; exact hO8, hq.trans hr8⟩
        case measure => simp [intOf]; omega
    · obtain rfl : N = K := by omega
      obtain ⟨gn, on, rfl, _⟩ := hoy.row.at 0 (by omega)
      obtain ⟨rfl, hcell, _⟩ := hoy.cells
      have HCE : Hid (∀ i, i < N → wr.cell? ⟨gn, i, none⟩ = some (.int .i64 ((F i : Nat) : Int))) := Lib.hid fun i hi => by rw [hcell i hi, nxtL_get F hi]
      have hnlt : gn < wr.heap.size := hoy.lt.2
      have hBr := hB3.trans (hq.mono hBs)
      clear hcell hoy hq hA3 hE3 T1 T2 T6 hB3
      obtain ⟨W, rfl⟩ : ∃ W : World, W = wr := ⟨_, rfl⟩
      go_wp2_with (at_make; refine makeBo rfl rfl rfl rfl (by omega) ?_; intro w4 ho4 hs4 hb4)
      rw [← metL_zero (f := F)] at ho4
      go_loopw [12, 13] (fun p i wq => ∃ (k P : Nat), k ≤ N ∧ i = .int .i64 k ∧ p = .int .i64 P ∧ Hid (perK F N k = some P) ∧ OwnBo wq W.heap.size (some ⟨W.heap.size, 0, none⟩) N N (metL F N k) ∧ Below W.heap.size W wq) (fun _ i _ => N - (intOf i).toNat)
      case atStart => exact ⟨0, 1, Nat.zero_le _, rfl, rfl, Lib.hid rfl, ho4, hb4⟩
      case round =>
        clear ho4 hb4 hs4
        obtain ⟨k, P, hk2, rfl, rfl, hP, hom, hq⟩ := hrel
        by_cases hlt2 : k < N
        · have hcy := HPM.out.cyc_spec hlt2
          obtain ⟨y1, y2, y3, y4⟩ := hcy
          have HY3 := Lib.hid y3; have HY4 := Lib.hid y4
          have hps := perK_some hP.out
          obtain ⟨z1, z2, _⟩ := hps
          have hgl : Nat.gcd P (cyc F N k) ≤ P := Nat.gcd_le_left _ (by omega)
          have hgp : 1 ≤ Nat.gcd P (cyc F N k) := Nat.gcd_pos_of_pos_left _ (by omega)
          have HLC : Hid (P / Nat.gcd P (cyc F N k) * cyc F N k = Nat.lcm P (cyc F N k)) := Lib.hid (lcm_go P _)
          have HGO : Hid (Nat.lcm P (cyc F N k) ≤ 1000000000 → perK F N (k + 1) = some (Nat.lcm P (cyc F N k))) := Lib.hid (perK_go hP.out)
          have HNO : Hid (¬ Nat.lcm P (cyc F N k) ≤ 1000000000 → perK F N (k + 1) = none) := Lib.hid (perK_stop hP.out)
          rw [← metS_zero] at hom
          clear y3 y4
          go_wp2
          go_loopw [14, 15] (fun l t wy => ∃ m : Nat, m ≤ cyc F N k ∧ Hid (m = 0 ∨ metB F N k k = false) ∧ l = .int .i64 m ∧ t = .int .i64 ((itf F m k : Nat) : Int) ∧ OwnBo wy W.heap.size (some ⟨W.heap.size, 0, none⟩) N N (metS F N k m) ∧ Below W.heap.size W wy) (fun l _ _ => N - (intOf l).toNat)
          case atStart => exact ⟨0, by omega, Lib.hid (.inl rfl), rfl, rfl, hom, hq⟩
          case round =>
            clear hom hq
            obtain ⟨m, m2, hmb, rfl, rfl, hom, hq⟩ := hrel
            have htl := HPM.out.it_lt hlt2 m
            have HIT : Hid (itf F (m + 1) k = F (itf F m k)) := Lib.hid rfl
            obtain ⟨_, hcm, hfm⟩ := hom.cells
            have c2 := hcm _ htl
            have f2 := hfm (itf F m k)
            clear hcm hfm
            by_cases hgo : metB F N k k = false ∧ m < cyc F N k
            · obtain ⟨hm0, hmc⟩ := hgo
              rw [HPM.out.metS_no hlt2 hm0 hmc] at c2
              have hset := hom.set (itf F m k) true
              rw [HPM.out.metS_set hlt2] at hset
              have HSET := Lib.hid hset
              have hqs := hq.size
              have c1 := (hq.cell (p := ⟨gn, itf F m k, none⟩) hnlt).trans (HCE.out _ htl)
              have hgne : (⟨gn, itf F m k, none⟩ : Addr).block ≠ (⟨W.heap.size, itf F m k, none⟩ : Addr).block := by show gn ≠ W.heap.size; omega
              have c1' := cell_setne c1 hgne (.bool true)
              have HMB := Lib.hid hm0
              clear hset hm0
              generalize itf F m k = T at *
              generalize hFT : F T = FT at *
              have HFT := Lib.hid hFT
              clear hFT hgne
              go_wp2
              go_roundw
              case rel => exact ⟨m + 1, by omega, Lib.hid (.inr HMB.out), by go_num, by rw [HIT.out], HSET.out, below_setne hq (Nat.le_refl _) _⟩
              case measure => simp [intOf]; omega
            · have hyes : (metS F N k m).getD (itf F m k) false = true := by
                cases hb : metB F N k k with
                | true =>
                  rcases hmb.out with e | e
                  · subst e
                    rw [metS_zero]
                    show (metL F N k).getD k false = true
                    rw [← metS_zero, metS_get _ _ hlt2, hb]; rfl
                  · rw [hb] at e; cases e
                | false =>
                  obtain rfl : m = cyc F N k := by
                    by_cases h : m < cyc F N k
                    · exact absurd ⟨hb, h⟩ hgo
                    · omega
                  rw [HY3.out]
                  exact HPM.out.metS_yes hlt2
              rw [hyes] at c2
              clear hyes
              by_cases hmt : metB F N k k = true
              · obtain rfl : m = 0 := by
                  rcases hmb.out with e | e
                  · exact e
                  · rw [hmt] at e; cases e
                rw [metS_zero, ← HPM.out.metL_same hlt2 hmt] at hom
                have HP2 := Lib.hid (HPM.out.met_per hlt2 hP.out hmt)
                clear hgo hmt
                have e0 : itf F 0 k = k := rfl
                rw [e0] at c2 f2 ⊢
                clear e0
                have hd0 : decide ((P : Int) > 1000000000) = false := decide_eq_false (by omega)
                go_wp2
                go_roundw
                case rel => exact ⟨k + 1, P, by omega, by go_num, rfl, HP2, hom, hq⟩
                case measure => simp [intOf]; omega
              · obtain rfl : m = cyc F N k := by
                  by_cases h : m < cyc F N k
                  · exact absurd ⟨by simpa using hmt, h⟩ hgo
                  · omega
                rw [HPM.out.metS_end hlt2] at hom
                rw [HY3.out] at c2 f2 ⊢
                clear hgo hmt
                generalize cyc F N k = L at *
                have hL5 : L ≤ 5000 := by omega
                have hL0 : (0 : Int) < (L : Int) := by omega
                go_wp2_with fail
                refine (l16Common_any P L _ (by omega) (by omega)).mono ?_
                rintro e w8 ⟨rfl, hw8⟩
                subst hw8
                generalize Nat.gcd P L = G at *
                have e1 : (P : Int) / (G : Int) = ((P / G : Nat) : Int) := by simp
                have e1' : (P : Int).tdiv (G : Int) = ((P / G : Nat) : Int) := by rw [Int.tdiv_eq_ediv_of_nonneg (by omega)]; simp
                have hG0 : (G : Int) ≠ 0 := by omega
                have hdl : P / G ≤ P := Nat.div_le_self _ _
                have hml : P / G * L ≤ 1000000000 * 5000 := Nat.mul_le_mul (by omega) hL5
                have e2 : ((P / G : Nat) : Int) * (L : Int) = ((P / G * L : Nat) : Int) := by simp
                rw [HLC.out] at e2 hml
                generalize Nat.lcm P L = M at *
                generalize P / G = D at *
                by_cases hM : M ≤ 1000000000
                · have HP2 := Lib.hid (HGO.out hM)
                  go_wp2
                  go_roundw
                  case rel => exact ⟨k + 1, M, by omega, by go_num, rfl, HP2, hom, hq⟩
                  case measure => simp [intOf]; omega
                · have HP2 := Lib.hid (perF_none (HNO.out hM) (by omega))
                  go_wp2
                  go_ret2
                  exact ⟨by rw [HQ.out, HP2.out]; rfl, hBr.trans (hq.mono hBr.size)⟩
        · obtain rfl : k = N := by omega
          have HP2 := Lib.hid (perF_some hP.out)
          go_wp2
          go_ret2
          exact ⟨by rw [HQ.out, HP2.out]; rfl, hBr.trans (hq.mono hBr.size)⟩

end Go.Proofs.Ytfmcaflefiapoaa
