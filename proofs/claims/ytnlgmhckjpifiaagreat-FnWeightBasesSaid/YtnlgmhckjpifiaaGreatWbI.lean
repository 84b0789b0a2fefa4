/-
  The program's WeightBasis.
  No condition but the bounds of lengths.
-/
import Derived.Test.YtnlgmhckjpifiaaGreatWbB
import Derived.Test.YtnlgmhckjpifiaaGreatWbC
import Derived.Test.YtnlgmhckjpifiaaGreatWbR
import Derived.Test.YtnlgmhckjpifiaaGreatBase2
namespace Go.Proofs.YtnlgmhckjpifiaaGreat
set_option maxRecDepth 100000
set_option linter.unusedVariables false
set_option linter.unusedSimpArgs false
open Go.RowKit

theorem own_ne {w : World} {lo G : Nat} {a : Option Addr} {n c : Nat} {xs : List Int} (h : Own w lo a n c xs) (hg : w.heap.size ≤ G) : ∀ o, a ≠ some ⟨G, o, none⟩ := fun o e => by
  rcases h.block with ⟨h', _⟩ | ⟨q, cur, h', _⟩
  · rw [h'] at e; cases e
  · have := h.hi q h'; rw [h'] at e; cases e; omega
theorem countPairs_N (a : Option Addr) (n c : Nat) (a' : Option Addr) (c' : Nat) (b : Option Addr) (d : Nat) (b' : Option Addr) (d' : Nat) (f g : List (List Int)) (p t : Int) (ks : List Nat) (ab : Option Addr) (nb cb : Nat) (al : Option Addr) (s cl : Nat) (l R : List Int) (G C lo : Nat) (w0 w : World) (N : Nat) (hN : N = n * n)
    (h1 : Tbl w0 a n f) (h2 : Tbl w0 a' n g) (h3 : Tbl w0 b n (bfT n f g)) (h4 : Tbl w0 b' n (bgT n f g)) (hB0 : Below w0.heap.size w0 w) (hG : w0.heap.size ≤ G)
    (hn1 : 1 ≤ n) (hn : n ≤ 8) (hf : Sq n f) (hg : Sq n g) (hc : collOk n f g = true) (p2 : 2 ≤ p ∧ p ≤ 7) (ht : 0 ≤ t ∧ t ≤ 7)
    (hw : Row w ab nb (ks.map fun k : Nat => (k : Int) + 1)) (hwn : ∀ o, ab ≠ some ⟨G, o, none⟩) (hks : ∀ k, k ∈ ks → k + 1 < s) (hs : s ≤ 6) (hnb : nb ≤ 30)
    (hl : Row w al s l) (hln : ∀ o, al ≠ some ⟨G, o, none⟩) (hcl : s ≤ cl ∧ cl ≤ 9223372036854775807) (hI : CpI n p s (l, R))
    (ho : Own w lo (some ⟨G, 0, none⟩) N C R) :
    Calls Tryz.prog 98 #[aAgg a n c a' c' b d b' d', .int .i64 p, .int .i64 t, .slice ab nb cb, .slice al s cl, .slice (some ⟨G, 0, none⟩) N C] w
      fun e w' => e = .returned (.tuple #[]) ∧ Own w' lo (some ⟨G, 0, none⟩) N C (cpF f g n p t ks (l, R)).2 ∧ w.grownBy w' (some G) := by
  subst hN
  exact countPairs_ok a n c a' c' b d b' d' f g p t ks ab nb cb al s cl l R G C lo w0 w h1 h2 h3 h4 hB0 hG hn1 hn hf hg hc p2 ht hw hwn hks hs hnb hl hln hcl hI ho

set_option maxHeartbeats 16000000 in
theorem impl_Wb_l (a : Option Addr) (n c : Nat) (f : List (List Int)) (a' : Option Addr) (n' c' : Nat) (g : List (List Int)) (p : Int) (w : World) (h1 : Sol w a n f a' n' g) (hm : n ≤ 9223372036854775807 ∧ n' ≤ 9223372036854775807) (hp64 : I64 p) :
    Calls Tryz.prog 29 #[sAgg a n c a' n' c', .int .i64 p] w (RetT w (wbF f g p).1 (wbF f g p).2) := by
  obtain ⟨hm1, hm2⟩ := hm
  have HFL := Lib.hid h1.f.len
  have hA := Loc.new w rfl #[.slice a n c, .slice a' n' c'] 29
  have hB := below_al (Below.refl w.heap.size w) (.cells #[.slice a n c, .slice a' n' c'] 29)
  go_enter Tryz.func29, Tryz.ntmps29
  go_wp2_with fail
  generalize w.alloc (.cells #[.slice a n c, .slice a' n' c'] 29) = w0 at *
  have lA := hA.two
  refine (isSolution_any _ _ _ _ _ _ _ _ _ (h1.f.below hB) (h1.s.below hB) hm1 hm2).mono ?_
  rintro e w1 ⟨rfl, hb1⟩
  replace hB := below_th hB hb1; replace hA := hA.below hb1 hA.lt; replace lA := hA.two
  clear hb1
  cases q0 : isSol f g with
  | false =>
    have HQ : Hid (wbF f g p = ([], 1)) := Lib.hid (wbF_1 q0)
    clear q0
    go_wp2
    go_ret2
    exact ⟨none, 0, 0, [], by rw [HQ.out]; rfl, by rw [HQ.out]; exact OwnT.nil _ _, hB⟩
  | true =>
  have HS := Lib.hid q0
  clear q0
  by_cases hpr : isPr p
  rotate_left
  · have HQ : Hid (wbF f g p = ([], 2)) := Lib.hid (wbF_2 HS.out hpr)
    have HPC := Lib.hid (fun w => isFieldPrime_ok p false (by simp [hpr]) w)
    clear hpr
    go_wp2_with fail
    refine (HPC.out _).mono ?_
    rintro e w' ⟨rfl, rfl⟩
    go_wp2
    go_ret2
    exact ⟨none, 0, 0, [], by rw [HQ.out]; rfl, by rw [HQ.out]; exact OwnT.nil _ _, hB⟩
  have HP := Lib.hid hpr
  have p2 : 2 ≤ p ∧ p ≤ 7 := by unfold isPr at hpr; omega
  have HPC := Lib.hid (fun w => isFieldPrime_ok p true (by simp [hpr]) w)
  clear hpr
  go_wp2_with fail
  refine (HPC.out _).mono ?_
  rintro e w' ⟨rfl, rfl⟩
  obtain ⟨hn1, hn12, sf, sg⟩ := isSol_sq HS.out
  have hcc := isSol_coll HS.out
  obtain rfl : n' = n := by rw [h1.s.len, HFL.out]; have := sg.len; omega
  rw [← HFL.out] at hn1 hn12 sf sg hcc
  have HSF := Lib.hid sf; have HSG := Lib.hid sg; have HC := Lib.hid hcc
  clear sf sg hcc
  by_cases hn8 : n' ≤ 8
  rotate_left
  · have HQ : Hid (wbF f g p = ([], 3)) := Lib.hid (wbF_3 HS.out HP.out (by rw [← HFL.out]; exact hn8))
    have hn8' : (8 : Int) < (n' : Int) := by omega
    go_wp2
    go_ret2
    exact ⟨none, 0, 0, [], by rw [HQ.out]; rfl, by rw [HQ.out]; exact OwnT.nil _ _, hB⟩
  have HQ : Hid (wbF f g p = (wbL f g n' p, 0)) := Lib.hid (by rw [wbF_0 HS.out HP.out (by rw [← HFL.out]; exact hn8), ← HFL.out])
  have hn8' : ¬ (8 : Int) < (n' : Int) := by omega
  go_wp2_with fail
  refine (newAction_any _ _ _ _ _ f g _ (h1.f.below hB) (h1.s.below hB) HS.out hn12).mono ?_
  rintro e w2 ⟨b, d, vs, b', d', vs', rfl, ho2, hb2'⟩
  have hX := Loc.new w2 rfl #[.slice a n' c, .slice a' n' c', .slice b n' d, .slice b' n' d'] 105
  have hBX := below_al (below_th hB hb2') (.cells #[.slice a n' c, .slice a' n' c', .slice b n' d, .slice b' n' d'] 105)
  have T1 := h1.f.below hBX; have T2 := h1.s.below hBX
  have T3 := ho2.f.tbl.alloc (.cells #[.slice a n' c, .slice a' n' c', .slice b n' d, .slice b' n' d'] 105); have T4 := ho2.s.tbl.alloc (.cells #[.slice a n' c, .slice a' n' c', .slice b n' d, .slice b' n' d'] 105)
  clear hA hB h1 ho2 hb2' lA
  obtain ⟨N, hN⟩ : ∃ N, N = n' * n' := ⟨_, rfl⟩
  have hbN : N ≤ 64 := by rw [hN]; exact Nat.mul_le_mul hn8 hn8
  have hbN1 : 1 ≤ N := by rw [hN]; exact Nat.mul_le_mul hn1 hn1
  obtain ⟨N3, hN3⟩ : ∃ N3, N3 = n' * n' * n' := ⟨_, rfl⟩
  have hb3 : N3 ≤ 512 := by rw [hN3]; exact Nat.mul_le_mul (Nat.mul_le_mul hn8 hn8) hn8
  have e2 : (n' : Int) * (n' : Int) = (N : Int) := by rw [hN]; simp
  have e3 : (N : Int) * (n' : Int) = (N3 : Int) := by rw [hN3, hN]; simp
  have HN := Lib.hid hN; have HN3 := Lib.hid hN3
  clear hN hN3
  go_wp2
  generalize hwA : w2.alloc (.cells #[.slice a n' c, .slice a' n' c', .slice b n' d, .slice b' n' d'] 105) = wA at *
  have hsz : w2.heap.size < wA.heap.size := hX.lt
  clear hwA
  go_loopw [8, 30] (fun s8 s30 wr => ∃ (m : Nat) (a8 : Option Addr) (c8 : Nat) (vs8 : List SV), m ≤ N3 ∧ s30 = .int .i64 m ∧ s8 = .slice a8 m c8 ∧ OwnT wr wA.heap.size a8 m c8 vs8 ((rowsW f g n' p).take m) ∧ Below wA.heap.size wA wr) (fun _ s30 _ => N3 - (intOf s30).toNat)
  case atStart => exact ⟨0, none, 0, [], Nat.zero_le _, rfl, rfl, by simpa using OwnT.nil _ _, Below.refl _ _⟩
  case round =>
    obtain ⟨m, a8, c8, vs8, hk, rfl, rfl, ho, hq⟩ := hrel
    obtain ⟨W, rfl⟩ : ∃ W : World, W = wr := ⟨_, rfl⟩
    have hqz := hq.size
    by_cases hlt : m < N3
    · have HR1 := Lib.hid (rowW_one hn1 HSF.out HSG.out (p := p) (by omega) m)
      have HR2 := Lib.hid (rowW_two hn1 HSF.out HSG.out (p := p) (by omega) m)
      have HTK : Hid ((rowsW f g n' p).take (m + 1) = (rowsW f g n' p).take m ++ [rowW f g n' p m]) := Lib.hid (rowsW_take (by rw [← HN3.out]; exact hlt))
      have HRW : Hid (rowW f g n' p m = (cpF f g n' p (p - 1) [1, 0, 1] (digL n' 3 m, (cpF f g n' p 1 [0, 1, 0] (digL n' 3 m, List.replicate N 0)).2)).2) := Lib.hid (by rw [HN.out]; rfl)
      rw [← HN.out] at HR1 HR2
      have HI1 : Hid (CpI n' p 3 (digL n' 3 m, List.replicate N 0)) := Lib.hid ⟨digL_len n' 3 m, digL_less n' 3 m hn1, by rw [HN.out]; exact rep_vecW (by omega)⟩
      clear HR1
      obtain ⟨R1, hR1⟩ : ∃ R1, (cpF f g n' p 1 [0, 1, 0] (digL n' 3 m, List.replicate N 0)).2 = R1 := ⟨_, rfl⟩
      rw [hR1] at HR2 HRW
      have HRE := Lib.hid hR1; clear hR1
      have hw1 : IntKind.i64.wrap (p - 1) = p - 1 := IntWalk.i64_in _ (by omega)
      go_wp2_with fail
      refine (tupleOf_3 n' m _ hn1 (by omega) (by omega)).mono ?_
      rintro e w3 ⟨at3, c3, rfl, hot, hb3⟩
      have hz3 := hb3.size
      have hq3 := below_th hq hb3
      go_wp2_with (at_make; refine make1 rfl rfl rfl rfl (by omega) ?_; intro w4 hor hs4 hb4; have hX4 := (hX.below hq3 hX.lt).below hb4 (by omega); obtain ⟨x1, x2, x3, x4, _⟩ := hX4.four)
      have hz4 := hb4.size
      have b4 := below_th hb3 hb4
      have c4 := below_th hq b4
      refine (countPairs_N a n' c a' c' b d b' d' f g p 1 [0, 1, 0] (some ⟨w4.heap.size, 0, none⟩) 3 3 at3 3 c3 (digL n' 3 m) (List.replicate N 0) w3.heap.size N w3.heap.size wA (w4.alloc (.cells #[.int .i64 1, .int .i64 2, .int .i64 1] 2)) N HN.out T1 T2 T3 T4 (below_al c4 _) (by omega) hn1 hn8 HSF.out HSG.out HC.out p2 ⟨by omega, by omega⟩ (pick3 w4 1 2 1 _) (fun o e => by simp at e <;> omega) (fun k hk => by simp at hk; omega) (by omega) (by omega) ((hot.below hb4).alloc _).row (own_ne hot (Nat.le_refl _)) (by have := hot.cap; omega) HI1.out (hor.alloc _)).mono ?_
      rintro e w5 ⟨rfl, ho5, hg5⟩
      rw [HRE.out] at ho5
      have hX5 := (hX4.alloc (.cells #[.int .i64 1, .int .i64 2, .int .i64 1] 2)).grown hg5 (by simp; omega)
      have ht5 := (((hot.below hb4).alloc (.cells #[.int .i64 1, .int .i64 2, .int .i64 1] 2))).grown hg5 (fun q e1 e2 => own_ne hot (Nat.le_refl _) 0 (by cases e2; exact e1))
      have hz5 : w4.heap.size + 1 ≤ w5.heap.size := by have := hg5.size; simpa using this
      have b5 : Below W.heap.size W w5 := (below_al b4 (.cells #[.int .i64 1, .int .i64 2, .int .i64 1] 2)).grown hg5 (by simp; omega) (fun k hk => by cases hk; exact hz3)
      have c5 := below_th hq b5
      clear x1 x2 x3 x4 hX4
      obtain ⟨x1, x2, x3, x4, _⟩ := hX5.four
      go_wp2_with fail
      refine (countPairs_N a n' c a' c' b d b' d' f g p (p - 1) [1, 0, 1] (some ⟨w5.heap.size, 0, none⟩) 3 3 at3 3 c3 (digL n' 3 m) R1 w3.heap.size N w3.heap.size wA (w5.alloc (.cells #[.int .i64 2, .int .i64 1, .int .i64 2] 2)) N HN.out T1 T2 T3 T4 (below_al c5 _) (by omega) hn1 hn8 HSF.out HSG.out HC.out p2 ⟨by omega, by omega⟩ (pick3 w5 2 1 2 _) (fun o e => by simp at e <;> omega) (fun k hk => by simp at hk; omega) (by omega) (by omega) (ht5.alloc _).row (own_ne hot (Nat.le_refl _)) (by have := hot.cap; omega) HR2.out (ho5.alloc _)).mono ?_
      rintro e w6 ⟨rfl, ho6, hg6⟩
      rw [← HRW.out] at ho6
      have hz6 : w5.heap.size + 1 ≤ w6.heap.size := by have := hg6.size; simpa using this
      have b6 : Below W.heap.size W w6 := (below_al b5 (.cells #[.int .i64 2, .int .i64 1, .int .i64 2] 2)).grown hg6 (by simp; omega) (fun k hk => by cases hk; exact hz3)
      have hO6 := ho.below b6
      have hv6 := ho6.mono (show wA.heap.size ≤ w3.heap.size by omega)
      clear x1 x2 x3 x4
      go_wp2_with (at_builtin; refine appT1 rfl rfl hO6 rfl hv6 (fun q h1 h2 => by cases h2; have := ho.high _ h1; omega) (fun j' hj' q h1 h2 => by cases h1; have := (ho.row j' hj').hi _ h2; omega) rfl (by omega) (by omega) ?_; intro g7 c7 w7 hO7 hb7)
      go_roundw
      case rel => exact ⟨m + 1, _, c7, vs8 ++ [(some ⟨w3.heap.size, 0, none⟩, N, N)], by omega, by go_num, rfl, by rw [HTK.out]; exact hO7, (below_th hq b6).trans hb7⟩
      case measure => simp [intOf]; omega
    · obtain rfl : N3 = m := by omega
      rw [List.take_of_length_le (by rw [HN3.out]; simp [rowsW])] at ho
      have hv := rowsW_vec (p := p) hn1 HSF.out HSG.out (by omega)
      rw [← HN.out] at hv
      have HWL : Hid (wbL f g n' p = echL p (invF p) N (kerL p N (echL p (invF p) N (rowsW f g n' p)) N)) := Lib.hid (by rw [HN.out]; rfl)
      have hrd := ech_rdc HP.out hv
      have hkv := kerL_vec (p := p) (N := N) (R := echL p (invF p) N (rowsW f g n' p)) (by omega) N
      have HRR := Lib.hid (reducedRows_any p a8 N3 c8 N _ W ho.tbl HP.out (by omega) hbN1 (by omega) hv)
      have hl2 := ech_len p (invF p) N (rowsW f g n' p)
      generalize echL p (invF p) N (rowsW f g n' p) = R2 at *
      have hl3 := ker_len p N R2 N
      have HKR : Hid (∀ (v : World) (a9 : Option Addr) (d9 c9 : Nat), Tbl v a9 d9 R2 → Calls Tryz.prog 100 #[.int .i64 p, .int .i64 N, .slice a9 d9 c9] v fun e w' => ∃ a' d c' vs, e = .returned (.slice a' d c') ∧ OwnT w' v.heap.size a' d c' vs (kerL p N R2 N) ∧ Below v.heap.size v w') := Lib.hid fun v a9 d9 c9 h9 => kernelOf_any p N a9 d9 c9 R2 v h9 p2 (by have := h9.len; omega) (by omega) hrd
      have HR9 : Hid (∀ (v : World) (a9 : Option Addr) (d9 c9 : Nat), Tbl v a9 d9 (kerL p N R2 N) → Calls Tryz.prog 99 #[.int .i64 p, .slice a9 d9 c9] v fun e w' => ∃ a' d c' vs, e = .returned (.slice a' d c') ∧ OwnT w' v.heap.size a' d c' vs (echL p (invF p) N (kerL p N R2 N)) ∧ Below v.heap.size v w') := Lib.hid fun v a9 d9 c9 h9 => reducedRows_any p a9 d9 c9 N _ v h9 HP.out (by have := h9.len; omega) hbN1 (by omega) hkv
      clear hrd hkv hv hl3
      go_wp2_with fail
      refine HRR.out.mono ?_
      rintro e w8 ⟨a9, d9, c9, vs9, rfl, ho9, hb8⟩
      go_wp2_with fail
      refine (HKR.out _ _ _ _ ho9.tbl).mono ?_
      rintro e w9 ⟨a10, d10, c10, vs10, rfl, ho10, hb9⟩
      go_wp2_with fail
      refine (HR9.out _ _ _ _ ho10.tbl).mono ?_
      rintro e w10 ⟨a11, d11, c11, vs11, rfl, ho11, hb10⟩
      rw [← HWL.out] at ho11
      have hBW := below_th hBX hq
      have hB8 := below_th (below_th (below_th hBW hb8) hb9) hb10
      have hs9 := (below_th (below_th hBW hb8) hb9).size
      go_wp2
      go_ret2
      exact ⟨a11, d11, c11, vs11, by rw [HQ.out]; rfl, by rw [HQ.out]; exact ho11.mono hs9, hB8⟩
end Go.Proofs.YtnlgmhckjpifiaaGreat
