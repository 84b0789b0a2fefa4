/-
  BraidPeriod: what the program's functions compute.
  No condition but bounds.
-/
import Derived.Test.YtfmcaflefiapoaaPerL
import Derived.Test.YtfmcaflefiapoaaOwnIn
import Derived.Test.YtfmcaflefiapoaaColsI
import Derived.Test.YtfmcaflefiapoaaBase
import Derived.Test.YtfmcaflefiapoaaSolP
import Derived.Deep.RegionHeld3
namespace Go.Proofs.Ytfmcaflefiapoaa
set_option maxRecDepth 100000
set_option linter.unusedVariables false
set_option linter.unusedSimpArgs false
open Go.RowKit

theorem numL_bd {n s : Nat} {l : List Int} (hn : 1 ≤ n) (hl : l.length = s) (hle : Less n l) (hb : n ^ s ≤ 5000) (k : Nat) (hk : k ≤ s) : numL n (l.take k) < 5000 := by
  have h1 : Less n (l.take k) := fun i hi => by
    rw [List.length_take] at hi
    have := hle i (by omega)
    simpa [List.getD_eq_getElem?_getD, List.getElem?_take, show i < k by omega] using this
  have h2 := numL_lt hn h1
  have h3 : n ^ (l.take k).length ≤ n ^ s := Nat.pow_le_pow_right hn (by rw [List.length_take]; omega)
  omega

set_option maxHeartbeats 1000000 in
theorem numberOf_any (n s : Nat) (a : Option Addr) (c : Nat) (l : List Int) (w : World) (h : Row w a s l) (hn1 : 1 ≤ n) (hn : n ≤ 12) (hs : s ≤ 6) (hle : Less n l) (hb : n ^ s ≤ 5000) :
    Calls Try.prog 72 #[.int .i64 n, .slice a s c] w fun e w' => e = .returned (.int .i64 ((numL n l : Nat) : Int)) ∧ w = w' := by
  have HL := Lib.hid h.len
  have HBD := Lib.hid (numL_bd hn1 h.len.symm hle hb)
  go_enter Try.func72, Try.ntmps72
  go_wp2
  go_loop [5, 10] (fun m i => ∃ k : Nat, k ≤ s ∧ i = .int .i64 k ∧ m = .int .i64 ((numL n (l.take k) : Nat) : Int)) (fun _ i => s - (intOf i).toNat)
  case atStart => exact ⟨0, Nat.zero_le _, rfl, by simp [numL]⟩
  case round =>
    obtain ⟨k, hk, rfl, rfl⟩ := hrel
    by_cases hlt : k < s
    · obtain ⟨b, off, rfl, g1⟩ := h.at k hlt
      have hx : k < l.length := by have := HL.out; omega
      obtain ⟨d, hd, ed⟩ := hle k hx
      have HT := Lib.hid (numL_take (n := n) hx)
      rw [ed] at g1 HT
      rw [Int.toNat_natCast] at HT
      have b1 := HBD.out k hk
      generalize numL n (l.take k) = M at *
      have m1 : M * n ≤ 60000 := Nat.le_trans (Nat.mul_le_mul (show M ≤ 5000 by omega) hn) (by omega)
      have e1 : (M : Int) * (n : Int) = ((M * n : Nat) : Int) := by simp
      have HS : Hid (((M * n : Nat) : Int) + (d : Int) = ((M * n + d : Nat) : Int)) := Lib.hid (by simp)
      generalize hP : M * n = P at *
      clear hP ed
      go_wp2
      go_round
      case rel => exact ⟨k + 1, by omega, by go_num, by rw [HT.out, ← HS.out]⟩
      case measure => simp [intOf]; omega
    · obtain rfl : k = s := by omega
      go_wp2
      go_ret
      exact ⟨ret_int (by rw [List.take_of_length_le (by have := HL.out; omega)]), rfl⟩

set_option maxHeartbeats 1000000 in
theorem divisorOf_any (x y : Nat) (w : World) (hx : x ≤ 1000000000) (hy : y ≤ 1000000000) :
    Calls Try.prog 75 #[.int .i64 x, .int .i64 y] w fun e w' => e = .returned (.int .i64 ((Nat.gcd x y : Nat) : Int)) ∧ Below w.heap.size w w' := by
  go_enter Try.func75, Try.ntmps75
  go_wp2
  go_loopw [0, 1] (fun a b wr => ∃ u v : Nat, a = .int .i64 u ∧ b = .int .i64 v ∧ u ≤ 1000000000 ∧ v ≤ 1000000000 ∧ Hid (Nat.gcd u v = Nat.gcd x y) ∧ Below w.heap.size w wr) (fun _ b _ => (intOf b).toNat)
  case atStart => exact ⟨x, y, rfl, rfl, hx, hy, Lib.hid rfl, Below.refl _ _⟩
  case round =>
    obtain ⟨u, v, rfl, rfl, hu, hv, hg, hb⟩ := hrel
    by_cases h0 : 0 < v
    · have hm : u % v < v := Nat.mod_lt _ h0
      have e1 : (u : Int).tmod (v : Int) = ((u % v : Nat) : Int) := by rw [Int.tmod_eq_emod_of_nonneg (by omega)]; simp
      have hv0 : (v : Int) ≠ 0 := by omega
      have i1 : (0 : Int) < (v : Int) := by omega
      have HG : Hid (Nat.gcd v (u % v) = Nat.gcd x y) := Lib.hid (by rw [← hg.out, Nat.gcd_comm u v, Nat.gcd_rec v u, Nat.gcd_comm])
      generalize u % v = r at *
      go_wp2
      go_quiet (fail)
      go_wp2
      go_roundw
      case rel => exact ⟨v, r, rfl, rfl, hv, by omega, HG, below_drewN hb _⟩
      case measure => simp [intOf]; omega
    · obtain rfl : v = 0 := by omega
      have HE : Hid (Nat.gcd x y = u) := Lib.hid (by rw [← hg.out]; simp)
      go_wp2
      go_ret
      exact ⟨ret_int (by rw [HE.out]), hb⟩

/-- the numbers to which the first k tuples are led, and zeros -/
def nxtP (F : Nat → Nat) (K k : Nat) : List Int := ((List.range K).map fun i => ((F i : Nat) : Int)).take k ++ List.replicate (K - k) 0
theorem nxtP_step (F : Nat → Nat) {K k : Nat} (h : k < K) : (nxtP F K k).set k ((F k : Nat) : Int) = nxtP F K (k + 1) := rowP_step K (fun i => ((F i : Nat) : Int)) k h
theorem nxtP_full (F : Nat → Nat) (K i : Nat) (h : i < K) : (nxtP F K K).getD i 0 = ((F i : Nat) : Int) := by
  unfold nxtP
  rw [List.take_of_length_le (by simp), Nat.sub_self, List.replicate_zero, List.append_nil]
  simp [List.getD_eq_getElem?_getD, List.getElem?_map, h]

set_option maxHeartbeats 16000000 in
theorem impl_Bp_l (a : Option Addr) (n c : Nat) (f : List (List Int)) (a' : Option Addr) (n' c' : Nat) (g : List (List Int)) (s : Int) (ab : Option Addr) (nb cb : Nat) (xs : List Int) (w : World) (h1 : Sol w a n f a' n' g) (hm : n ≤ 9223372036854775807 ∧ n' ≤ 9223372036854775807) (hs : I64 s) (hr : Row w ab nb xs) (hnb : nb ≤ 9223372036854775807) (hx : I64s xs) :
    Calls Try.prog 34 #[sAgg a n c a' n' c', bAgg s ab nb cb] w (RetI w (bpF f g s xs).1 (bpF f g s xs).2) := by
  obtain ⟨hm1, hm2⟩ := hm
  have HFL := Lib.hid h1.f.len
  have hA := (Loc.new w rfl #[.slice a n c, .slice a' n' c'] 33).alloc (.cells #[.int .i64 s, .slice ab nb cb] 36)
  have hE := Loc.new (w.alloc (.cells #[.slice a n c, .slice a' n' c'] 33)) rfl #[.int .i64 s, .slice ab nb cb] 36
  rw [size_alloc] at hE
  have hB := below_al (below_al (Below.refl w.heap.size w) (.cells #[.slice a n c, .slice a' n' c'] 33)) (.cells #[.int .i64 s, .slice ab nb cb] 36)
  go_enter Try.func34, Try.ntmps34
  go_wp2_with fail
  generalize (w.alloc (.cells #[.slice a n c, .slice a' n' c'] 33)).alloc (.cells #[.int .i64 s, .slice ab nb cb] 36) = w0 at *
  have lA := hA.two
  have lE := hE.two
  refine (isSolution_any _ _ _ _ _ _ _ _ _ (h1.f.below hB) (h1.s.below hB) hm1 hm2).mono ?_
  rintro e w1 ⟨rfl, hb1⟩
  replace hB := below_th hB hb1; replace hA := hA.below hb1 hA.lt; replace hE := hE.below hb1 hE.lt; replace lA := hA.two; replace lE := hE.two
  clear hb1
  cases q0 : isSol f g with
  | false =>
    have HQ : Hid (bpF f g s xs = (0, 1)) := Lib.hid (bpF_0 q0)
    clear q0
    go_wp2
    go_ret2
    exact ⟨by rw [HQ.out]; rfl, hB⟩
  | true =>
  have HS := Lib.hid q0
  clear q0
  go_wp2_with fail
  refine (isBraid_any _ _ _ _ xs _ (hr.below hB) hnb).mono ?_
  rintro e w2 ⟨rfl, hb2⟩
  replace hB := below_th hB hb2; replace hA := hA.below hb2 hA.lt; replace hE := hE.below hb2 hE.lt; replace lA := hA.two; replace lE := hE.two
  clear hb2
  cases q1 : isBr s xs with
  | false =>
    have HQ : Hid (bpF f g s xs = (0, 1)) := Lib.hid (bpF_1 HS.out q1)
    clear q1
    go_wp2
    go_ret2
    exact ⟨by rw [HQ.out]; rfl, hB⟩
  | true =>
  have HBR := Lib.hid q1
  have hs26 := (isBr_let q1).1
  have hpl : ∀ x ∈ xs, (plc x).toNat + 1 < s.toNat := fun x hx => by have := (isBr_let q1).2.2 x hx; unfold plc; split <;> omega
  clear q1
  obtain ⟨hn1, hn12, sf, sg⟩ := isSol_sq HS.out
  have hcc := isSol_coll HS.out
  obtain rfl : n' = n := by rw [h1.s.len, HFL.out]; have := sg.len; omega
  rw [← HFL.out] at hn1 hn12 sf sg hcc
  obtain ⟨S, rfl⟩ : ∃ S : Nat, s = S := ⟨s.toNat, by omega⟩
  have HPL : Hid (∀ x ∈ xs, (plc x).toNat + 1 < S) := Lib.hid (by simpa using hpl)
  have HSF := Lib.hid sf; have HSG := Lib.hid sg; have HC := Lib.hid hcc
  have HPM : Hid (PermN (nxtN n' S f g xs) (n' ^ S)) := Lib.hid (nxt_perm hn1 sf sg hcc HPL.out)
  clear sf sg hcc hpl
  have hs2 : 2 ≤ S := by omega
  have hs6 : S ≤ 6 := by omega
  go_wp2_with fail
  refine (countTuples_any n' S _ hn1 hn12 hs6).mono ?_
  rintro e w3 ⟨he, rfl⟩
  rcases he with ⟨h5, rfl⟩ | ⟨h5, rfl⟩
  rotate_left
  · have HQ : Hid (bpF f g S xs = (0, 3)) := Lib.hid (bpF_2 HS.out HBR.out (by rw [← HFL.out, Int.toNat_natCast]; omega))
    clear h5
    go_wp2
    go_ret2
    exact ⟨by rw [HQ.out]; rfl, hB⟩
  have HQ : Hid (bpF f g S xs = perF (nxtN n' S f g xs) (n' ^ S)) := Lib.hid (by rw [bpF_3 HS.out HBR.out (by rw [← HFL.out, Int.toNat_natCast]; exact h5), ← HFL.out, Int.toNat_natCast])
  have HFD : Hid (∀ N, nxtN n' S f g xs N = numL n' (actL n' f g xs (digL n' S N))) := Lib.hid fun N => rfl
  have HK5 : Hid (n' ^ S ≤ 5000) := Lib.hid h5
  have hKp : 1 ≤ n' ^ S := Nat.pow_pos hn1
  generalize nxtN n' S f g xs = F at *
  obtain ⟨K, hK⟩ : ∃ K, K = n' ^ S := ⟨_, rfl⟩
  rw [← hK] at h5 hKp HQ HPM ⊢
  clear hK
  go_wp2_with fail
  refine (newAction_any _ _ _ _ _ f g _ (h1.f.below hB) (h1.s.below hB) HS.out hn12).mono ?_
  rintro e w6 ⟨b, d, vs, b', d', vs', rfl, ho2, hb6⟩
  have hX := Loc.new w6 rfl #[.slice a n' c, .slice a' n' c', .slice b n' d, .slice b' n' d'] 76
  have hq := below_al hb6 (.cells #[.slice a n' c, .slice a' n' c', .slice b n' d, .slice b' n' d'] 76)
  have hE6 := (hE.below hb6 hE.lt).lt
  replace hE := (hE.below hb6 hE.lt).alloc (.cells #[.slice a n' c, .slice a' n' c', .slice b n' d, .slice b' n' d'] 76)
  have T3 := ho2.f.tbl.alloc (.cells #[.slice a n' c, .slice a' n' c', .slice b n' d, .slice b' n' d'] 76); have T4 := ho2.s.tbl.alloc (.cells #[.slice a n' c, .slice a' n' c', .slice b n' d, .slice b' n' d'] 76)
  replace hB := below_th hB hq
  have T1 := h1.f.below hB; have T2 := h1.s.below hB; have T6 := hr.below hB
  clear hA lA lE h1 hr ho2 hb6 hq
  go_wp2_with (at_make; refine make1In rfl rfl rfl rfl (by omega) ?_; intro w7 ho7 hs7 hb7)
  rw [size_alloc] at ho7
  have HZA := Lib.hid (size_alloc w6 (.cells #[.slice a n' c, .slice a' n' c', .slice b n' d, .slice b' n' d'] 76))
  generalize hwA : w6.alloc (.cells #[.slice a n' c, .slice a' n' c', .slice b n' d, .slice b' n' d'] 76) = wA at *
  have hsz : w6.heap.size < wA.heap.size := hX.lt
  have hszE : w.heap.size + 1 < w6.heap.size := hE6
  have hBs := hB.size
  clear hwA
  have hX7 := hX.below hb7 hX.lt
  have hQ7 := hb7
  go_loopw [42] (fun i wr => ∃ k : Nat, k ≤ K ∧ i = .int .i64 k ∧ OwnIn wr (w6.heap.size + 1) (some ⟨w6.heap.size + 1, 0, none⟩) K K (nxtP F K k) ∧ Below wA.heap.size wA wr) (fun i _ => K - (intOf i).toNat)
  case atStart => exact ⟨0, Nat.zero_le _, rfl, by simpa [nxtP] using ho7, hQ7⟩
  case round =>
    clear ho7 hb7 hX7 hQ7 hs7
    obtain ⟨N, hk, rfl, hon, hq⟩ := hrel
    by_cases hlt : N < K
    · have hXr := hX.below hq hX.lt
      have hEr := hE.below hq hE.lt
      have lX := hXr.four
      have lE := hEr.two
      have HNX : Hid (F N = numL n' (actL n' f g xs (digL n' S N))) := Lib.hid (HFD.out N)
      have HST := Lib.hid (nxtP_step F hlt)
      have HLA : Hid (Less n' (actL n' f g xs (digL n' S N))) := Lib.hid ((digL_less n' S N hn1).act hn1 HSF.out HSG.out HC.out xs (fun x h => by rw [digL_len]; exact HPL.out x h))
      have i1 : (0 : Int) ≤ (N : Int) := by omega
      have i2 : (N : Int) < (K : Int) := by omega
      have hq1 := below_drewN hq 1
      obtain ⟨W, rfl⟩ : ∃ W : World, W = wr := ⟨_, rfl⟩
      go_wp2_with fail
      go_region_held3 (fun w' => (w'.cell? ⟨w6.heap.size, 0, none⟩ = some (.slice a n' c) ∧ w'.cell? ⟨w6.heap.size, 1, none⟩ = some (.slice a' n' c') ∧ w'.cell? ⟨w6.heap.size, 2, none⟩ = some (.slice b n' d) ∧ w'.cell? ⟨w6.heap.size, 3, none⟩ = some (.slice b' n' d')) ∧ w'.cell? ⟨w.heap.size + 1, 0, none⟩ = some (.int .i64 S) ∧ w'.cell? ⟨w.heap.size + 1, 1, none⟩ = some (.slice ab nb cb))
        (first | exact ⟨⟨lX5.1, lX5.2.1, lX5.2.2.1, lX5.2.2.2.1⟩, lE5.1, lE5.2.1⟩ | exact ⟨⟨lX4.1, lX4.2.1, lX4.2.2.1, lX4.2.2.2.1⟩, lE4.1, lE4.2.1⟩ | exact ⟨⟨lX3.1, lX3.2.1, lX3.2.2.1, lX3.2.2.2.1⟩, lE3.1, lE3.2.1⟩ | exact ⟨⟨lX.1, lX.2.1, lX.2.2.1, lX.2.2.2.1⟩, lE.1, lE.2.1⟩ | go_keep)
        (first
          | (go_at_call 74; refine (tupleOf_any n' S N _ hn1 (by omega) (by omega) (by omega)).mono ?_; rintro e w3 ⟨at3, c3, rfl, ho3, hb3⟩; have hr3 : Below W.heap.size W w3 := (Below.drew (Below.refl _ _)).trans hb3; have hq3 := below_th hq hr3; have lX3 := (hXr.below hr3 hXr.lt).four; have lE3 := (hEr.below hr3 hEr.lt).two)
          | (go_at_call 73; refine (lead_any _ _ _ _ _ _ _ _ _ f g S _ _ _ xs _ _ (digL n' S N) _ (T1.below hq3) (T2.below hq3) (T3.below hq3) (T4.below hq3) hn1 HSF.out HSG.out HC.out (T6.below hq3) HBR.out ho3.row (digL_less n' S N hn1)).mono ?_; rintro e w4 ⟨a4, c4, rfl, ho4, hb4⟩; have hr4 := below_th hr3 hb4; have lX4 := (hXr.below hr4 hXr.lt).four; have lE4 := (hEr.below hr4 hEr.lt).two; have hX4 := hXr.below hr4 hXr.lt; have hE4 := hEr.below hr4 hEr.lt; have hon4 := hon.below hr4)
          | (go_at_call 72; refine (numberOf_any n' S _ _ (actL n' f g xs (digL n' S N)) _ ho4.row hn1 hn12 hs6 HLA.out HK5.out).mono ?_; rintro e w5 ⟨rfl, hw5⟩; subst hw5; rw [← HNX.out]; have hcn := hon4.cells.2.1 N hlt; have hfn := hon4.cells.2.2 N; have lX5 := (hX4.setne (a := ⟨w6.heap.size + 1, N, none⟩) (by show w6.heap.size ≠ w6.heap.size + 1; omega) (.int .i64 ((F N : Nat) : Int))).four; have lE5 := (hE4.setne (a := ⟨w6.heap.size + 1, N, none⟩) (by show w.heap.size + 1 ≠ w6.heap.size + 1; omega) (.int .i64 ((F N : Nat) : Int))).two))
      all_goals
        go_wp2
        go_roundw
        case rel => exact ⟨N + 1, by omega, by go_num, by rw [← HST.out]; exact hon4.set N _, below_setne (below_th hq hr4) (by have := HZA.out; show wA.heap.size ≤ w6.heap.size + 1; omega) _⟩
        case measure => simp [intOf]; omega
    · obtain rfl : N = K := by omega
      obtain ⟨_, hcell, _⟩ := hon.cells
      have HCE : Hid (∀ i, i < N → wr.cell? ⟨w6.heap.size + 1, i, none⟩ = some (.int .i64 ((F i : Nat) : Int))) := Lib.hid fun i hi => by rw [hcell i hi, nxtP_full F N i hi]
      have hnlt : w6.heap.size + 1 < wr.heap.size := hon.lt.2
      have hBr := hB.trans (hq.mono hBs)
      clear hcell hon hq hX hE T1 T2 T3 T4 T6 hB
      obtain ⟨W, rfl⟩ : ∃ W : World, W = wr := ⟨_, rfl⟩
      go_wp2
      go_loopw [12, 61] (fun p i wq => ∃ (k P : Nat), k ≤ N ∧ i = .int .i64 k ∧ p = .int .i64 P ∧ Hid (perK F N k = some P) ∧ Below W.heap.size W wq) (fun _ i _ => N - (intOf i).toNat)
      case atStart => exact ⟨0, 1, Nat.zero_le _, rfl, rfl, Lib.hid rfl, Below.refl _ _⟩
      case round =>
        obtain ⟨k, P, hk2, rfl, rfl, hP, hq⟩ := hrel
        by_cases hlt2 : k < N
        · have hcy := HPM.out.cyc_spec hlt2
          obtain ⟨y1, y2, y3, y4⟩ := hcy
          have HY3 := Lib.hid y3; have HY4 := Lib.hid y4
          have hps := perK_some hP.out
          obtain ⟨z1, z2, _⟩ := hps
          have c0 := (hq.cell (p := ⟨w6.heap.size + 1, k, none⟩) hnlt).trans (HCE.out k hlt2)
          have hgl : Nat.gcd P (cyc F N k) ≤ P := Nat.gcd_le_left _ (by omega)
          have hgp : 1 ≤ Nat.gcd P (cyc F N k) := Nat.gcd_pos_of_pos_left _ (by omega)
          have HLC : Hid (P / Nat.gcd P (cyc F N k) * cyc F N k = Nat.lcm P (cyc F N k)) := Lib.hid (lcm_go P _)
          have HGO : Hid (Nat.lcm P (cyc F N k) ≤ 1000000000 → perK F N (k + 1) = some (Nat.lcm P (cyc F N k))) := Lib.hid (perK_go hP.out)
          have HNO : Hid (¬ Nat.lcm P (cyc F N k) ≤ 1000000000 → perK F N (k + 1) = none) := Lib.hid (perK_stop hP.out)
          clear y3 y4
          obtain ⟨W2, rfl⟩ : ∃ W2 : World, W2 = wr := ⟨_, rfl⟩
          go_wp2
          go_loopw [14, 15] (fun l t wy => ∃ m : Nat, 1 ≤ m ∧ m ≤ cyc F N k ∧ l = .int .i64 m ∧ t = .int .i64 ((itf F m k : Nat) : Int) ∧ W2 = wy) (fun l _ _ => N - (intOf l).toNat)
          case atStart => exact ⟨1, Nat.le_refl _, y1, rfl, rfl, rfl⟩
          case round =>
            obtain ⟨m, m1, m2, rfl, rfl, hw⟩ := hrel
            subst hw
            have htl := HPM.out.it_lt hlt2 m
            have HNE : Hid (m < cyc F N k → itf F m k ≠ k) := Lib.hid fun h => HY4.out m m1 h
            have HIT : Hid (itf F (m + 1) k = F (itf F m k)) := Lib.hid rfl
            by_cases hmc : m < cyc F N k
            · have hne := HNE.out hmc
              have c1 := (hq.cell (p := ⟨w6.heap.size + 1, itf F m k, none⟩) hnlt).trans (HCE.out _ htl)
              generalize itf F m k = T at *
              have hbq : ((T : Int) != (k : Int)) = true := by simp; omega
              generalize hFT : F T = FT at *
              have HFT := Lib.hid hFT
              clear hFT
              go_wp2
              go_roundw
              case rel => exact ⟨m + 1, by omega, by omega, by go_num, by rw [HIT.out], trivial⟩
              case measure => simp [intOf]; omega
            · obtain rfl : m = cyc F N k := by omega
              rw [HY3.out]
              have hbq : ((k : Int) != (k : Int)) = false := by simp
              generalize cyc F N k = L at *
              have hL5 : L ≤ 5000 := by omega
              go_wp2_with fail
              refine (divisorOf_any P L _ (by omega) (by omega)).mono ?_
              rintro e w8 ⟨rfl, hb8⟩
              generalize Nat.gcd P L = G at *
              have e1 : (P : Int).tdiv (G : Int) = ((P / G : Nat) : Int) := by rw [Int.tdiv_eq_ediv_of_nonneg (by omega)]; simp
              have hG0 : (G : Int) ≠ 0 := by omega
              have hdl : P / G ≤ P := Nat.div_le_self _ _
              have hml : P / G * L ≤ 1000000000 * 5000 := Nat.mul_le_mul (by omega) hL5
              have e2 : ((P / G : Nat) : Int) * (L : Int) = ((P / G * L : Nat) : Int) := by simp
              rw [HLC.out] at e2 hml
              generalize Nat.lcm P L = M at *
              generalize P / G = D at *
              by_cases hM : M ≤ 1000000000
              · have HP2 := Lib.hid (HGO.out hM)
                go_wp2
                go_roundw
                case rel => exact ⟨k + 1, M, by omega, by go_num, rfl, HP2, below_th hq hb8⟩
                case measure => simp [intOf]; omega
              · have HP2 := Lib.hid (perF_none (HNO.out hM) (by omega))
                go_wp2
                go_ret2
                exact ⟨by rw [HQ.out, HP2.out]; rfl, hBr.trans ((below_th hq hb8).mono hBr.size)⟩
        · obtain rfl : k = N := by omega
          have HP2 := Lib.hid (perF_some hP.out)
          go_wp2
          go_ret2
          exact ⟨by rw [HQ.out, HP2.out]; rfl, hBr.trans (hq.mono hBr.size)⟩

end Go.Proofs.Ytfmcaflefiapoaa
