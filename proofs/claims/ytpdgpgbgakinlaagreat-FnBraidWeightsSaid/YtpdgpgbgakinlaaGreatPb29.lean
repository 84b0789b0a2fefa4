/-
  Walks and plain laws of this seat, some texts in one.
  No condition but bounds on lengths.
-/
import Derived.Test.YtpdgpgbgakinlaaGreatPb27
import Derived.Test.YtpdgpgbgakinlaaGreatPb28
import Derived.Test.YtpdgpgbgakinlaaGreatPb18
import Derived.Test.YtpdgpgbgakinlaaGreatPb13
import Derived.Deep.DeepCutAuto
namespace Go.Proofs.YtpdgpgbgakinlaaGreat
set_option maxRecDepth 100000
set_option linter.unusedVariables false
set_option linter.unusedSimpArgs false
open Go.RowKit
/-! ### the words 0 1 0 and 1 0 1 -/
def kS (sd : Nat) : List Nat := if sd = 0 then [0, 1, 0] else [1, 0, 1]
def tS (p : Int) (sd : Nat) : Int := 1 + (sd : Int) * (p - 2)
def sdF (f g : List (List Int)) (n : Nat) (p : Int) (m : Nat) : Nat → List Int
  | 0 => List.replicate (n * n) 0
  | sd + 1 => (cpF f g n p (tS p sd) (kS sd) (digL n 3 m, sdF f g n p m sd)).2
theorem sdF_two (f g : List (List Int)) (n : Nat) (p : Int) (m : Nat) : sdF f g n p m 2 = rowW f g n p m := by
  have e0 : tS p 0 = 1 := by simp [tS]
  have e1 : tS p 1 = p - 1 := by simp [tS]; omega
  show (cpF f g n p (tS p 1) (kS 1) (digL n 3 m, (cpF f g n p (tS p 0) (kS 0) (digL n 3 m, List.replicate (n * n) 0)).2)).2 = _
  rw [e0, e1]; rfl
theorem kS_lt {sd i : Nat} (h : i < (kS sd).length) : (kS sd)[i] ≤ 1 := by
  have : ∀ x, x ∈ kS sd → x ≤ 1 := by
    intro x hx
    unfold kS at hx
    split at hx <;> simp at hx <;> omega
  exact this _ (List.getElem_mem h)
theorem kS_len (sd : Nat) : (kS sd).length = 3 := by unfold kS; split <;> rfl
theorem kS_mem {sd k : Nat} (h : k ∈ kS sd) : k + 1 < 3 := by
  obtain ⟨i, hi, rfl⟩ := List.mem_iff_getElem.1 h
  have := kS_lt hi; omega
theorem sdF_inv {f g : List (List Int)} {n : Nat} {p : Int} (hn : 1 ≤ n) (hf : Sq n f) (hg : Sq n g) (hp : 0 < p) (m : Nat) : ∀ sd, CpI n p 3 (digL n 3 m, sdF f g n p m sd) := by
  intro sd
  induction sd with
  | zero => exact ⟨digL_len n 3 m, digL_less n 3 m hn, rep_vecW hp⟩
  | succ sd ih => exact ⟨digL_len n 3 m, digL_less n 3 m hn, (ih.fold hf hg hp fun k hk => kS_mem hk).vec⟩
structure Wds (w : World) (s : Nat) : Prop where
  one : Loc w (s + 1) #[.int .i64 0, .int .i64 1, .int .i64 0] 2
  two : Loc w (s + 1 + 1) #[.int .i64 1, .int .i64 0, .int .i64 1] 2
  hdr : Loc w (s + 1 + 1 + 1) #[.slice (some ⟨s + 1, 0, none⟩) 3 3, .slice (some ⟨s + 1 + 1, 0, none⟩) 3 3] 27
theorem Wds.below {w w' : World} {s : Nat} (h : Wds w s) (hb : Below w.heap.size w w') : Wds w' s := ⟨h.one.below hb h.one.lt, h.two.below hb h.two.lt, h.hdr.below hb h.hdr.lt⟩
theorem Wds.at {w : World} {s : Nat} (h : Wds w s) {sd i : Nat} (hs : sd < 2) (hi : i < (kS sd).length) :
    ∃ b, w.cell? ⟨s + 1 + 1 + 1, sd, none⟩ = some (.slice (some ⟨b, 0, none⟩) 3 3) ∧ w.cell? ⟨b, i, none⟩ = some (.int .i64 (((kS sd)[i] : Nat) : Int)) := by
  have hs2 : sd = 0 ∨ sd = 1 := by omega
  have hi3 : i = 0 ∨ i = 1 ∨ i = 2 := by rw [kS_len] at hi; omega
  rcases hs2 with rfl | rfl
  · refine ⟨s + 1, h.hdr.cell 0 rfl, ?_⟩
    rcases hi3 with rfl | rfl | rfl
    · exact h.one.cell 0 rfl
    · exact h.one.cell 1 rfl
    · exact h.one.cell 2 rfl
  · refine ⟨s + 1 + 1, h.hdr.cell 1 rfl, ?_⟩
    rcases hi3 with rfl | rfl | rfl
    · exact h.two.cell 0 rfl
    · exact h.two.cell 1 rfl
    · exact h.two.cell 2 rfl
theorem OwnT.blk_ne {w : World} {lo : Nat} {a : Option Addr} {n c : Nat} {vs : List SV} {xss : List (List Int)} (h : OwnT w lo a n c vs xss) {k : Nat} (hk : ∀ g, a = some ⟨g, 0, none⟩ → g ≠ k) : some k ≠ (Value.slice a n c).ownBlock := by
  rcases h.block with ⟨rfl, rfl, rfl⟩ | ⟨g, cur, rfl, _⟩
  · simp [Value.ownBlock]
  · have := hk g rfl
    simp [Value.ownBlock]; omega
theorem OwnT.ne_loc {w : World} {lo g n c : Nat} {vs : List SV} {xss : List (List Int)} (h : OwnT w lo (some ⟨g, 0, none⟩) n c vs xss) {b : Nat} {cs : Array Value} {t : TypeId} (hL : Loc w b cs t) (ht : t ≠ 27) : g ≠ b := by
  rcases h.block with ⟨h1, _⟩ | ⟨g', cur, e, h2, h3, _⟩
  · cases h1
  · cases e
    intro e; subst e
    unfold Loc at h3 hL
    rw [h3] at hL
    cases hL; exact ht rfl
theorem own_neS {w : World} {lo G : Nat} {a : Option Addr} {n c : Nat} {xs : List Int} (h : Own w lo a n c xs) (hg : w.heap.size ≤ G ∨ G < lo) : ∀ o, a ≠ some ⟨G, o, none⟩ := fun o e => by
  rcases h.block with ⟨h', _⟩ | ⟨q, cur, h', _⟩
  · rw [h'] at e; cases e
  · have h1 := h.hi q h'; have h2 := h.lo q h'; rw [h'] at e; cases e; omega
theorem ownT_empty {w : World} {lo g : Nat} (h : Loc w g #[] 27) (hl : lo ≤ g) : OwnT w lo (some ⟨g, 0, none⟩) 0 0 [] [] :=
  ⟨rfl, rfl, ownsRow_mk rfl hl h (Nat.le_refl _) (by unfold maxLen; omega) rfl rfl, fun i h => absurd h (by omega), fun i h => absurd h (by omega), fun i j h => absurd h (by omega)⟩
def pivL (R : List (List Int)) : List Int := R.map fun r => ((ldN r : Nat) : Int)
theorem pivL_take {R : List (List Int)} {i : Nat} (h : i < R.length) : (pivL R).take (i + 1) = (pivL R).take i ++ [((ldN (R.getD i []) : Nat) : Int)] := by
  have hx : i < (pivL R).length := by simpa [pivL] using h
  rw [List.take_succ_eq_append_getElem hx]
  simp [pivL, List.getD_eq_getElem?_getD, List.getElem?_eq_getElem h]
theorem pivL_get {R : List (List Int)} {i : Nat} (h : i < R.length) : (pivL R).getD i 0 = ((ldN (R.getD i []) : Nat) : Int) := by
  simp [pivL, List.getD_eq_getElem?_getD, List.getElem?_eq_getElem h]
theorem pivL_has (R : List (List Int)) (pl : Nat) : decide (((pl : Nat) : Int) ∈ pivL R) = pvK R R.length pl := by
  rw [Bool.eq_iff_iff]
  unfold pvK pivL
  rw [decide_eq_true_iff, List.mem_map, List.any_eq_true]
  constructor
  · rintro ⟨r, hr, e⟩
    obtain ⟨i, hi, rfl⟩ := List.mem_iff_getElem.1 hr
    exact ⟨i, List.mem_range.2 hi, by rw [List.getD_eq_getElem?_getD, List.getElem?_eq_getElem hi, Option.getD_some]; simp; omega⟩
  · rintro ⟨i, hi, e⟩
    have hi := List.mem_range.1 hi
    rw [List.getD_eq_getElem?_getD, List.getElem?_eq_getElem hi, Option.getD_some] at e
    exact ⟨R[i], List.getElem_mem hi, by simp at e; omega⟩
set_option maxHeartbeats 16000000 in
theorem spec_Wb_l (a : Option Addr) (n c : Nat) (f : List (List Int)) (a' : Option Addr) (n' c' : Nat) (g : List (List Int)) (p : Int) (w : World) (h1 : Sol w a n f a' n' g) (hm : n ≤ 9223372036854775807 ∧ n' ≤ 9223372036854775807) (hp64 : I64 p) :
    Calls Tryz.prog 129 #[sAgg a n c a' n' c', .int .i64 p] w (RetT w (wbF f g p).1 (wbF f g p).2) := by
  obtain ⟨hm1, hm2⟩ := hm
  have HFL := Lib.hid h1.f.len
  have hA := Loc.new w rfl #[.slice a n c, .slice a' n' c'] 26
  have hB := below_al (Below.refl w.heap.size w) (.cells #[.slice a n c, .slice a' n' c'] 26)
  go_enter Tryz.func129, Tryz.ntmps129
  go_wp2_with fail
  generalize w.alloc (.cells #[.slice a n c, .slice a' n' c'] 26) = w0 at *
  have lA := hA.two
  refine (l02Is_any _ _ _ _ _ _ f g _ (h1.f.below hB) (h1.s.below hB) hm1 hm2).mono ?_
  rintro e w1 ⟨rfl, hb1⟩
  replace hB := below_th hB hb1; replace hA := hA.below hb1 hA.lt; replace lA := hA.two
  clear hb1
  cases q0 : isSol f g with
  | false =>
    have HQ : Hid (wbF f g p = ([], 1)) := Lib.hid (wbF_1 q0)
    clear q0
    go_wp2
    go_ret2
    exact ⟨none, 0, 0, [], by rw [HQ.out]; rfl, by rw [HQ.out]; exact OwnT.nil _ _, hB⟩
  | true =>
  have HS := Lib.hid q0
  clear q0
  by_cases hpr : isPr p
  rotate_left
  · have HQ : Hid (wbF f g p = ([], 2)) := Lib.hid (wbF_2 HS.out hpr)
    have HPC := Lib.hid (fun w => l15Prime_ok p false (by simp [hpr]) w)
    clear hpr
    go_wp2_with fail
    refine (HPC.out _).mono ?_
    rintro e w' ⟨rfl, rfl⟩
    go_wp2
    go_ret2
    exact ⟨none, 0, 0, [], by rw [HQ.out]; rfl, by rw [HQ.out]; exact OwnT.nil _ _, hB⟩
  have HP := Lib.hid hpr
  have p2 : 2 ≤ p ∧ p ≤ 7 := by unfold isPr at hpr; omega
  have HPC := Lib.hid (fun w => l15Prime_ok p true (by simp [hpr]) w)
  clear hpr
  go_wp2_with fail
  refine (HPC.out _).mono ?_
  rintro e w' ⟨rfl, rfl⟩
  obtain ⟨hn1, hn12, sf, sg⟩ := isSol_sq HS.out
  obtain rfl : n' = n := by rw [h1.s.len, HFL.out]; have := sg.len; omega
  rw [← HFL.out] at hn1 hn12 sf sg
  have HSF := Lib.hid sf; have HSG := Lib.hid sg
  clear sf sg
  by_cases hn8 : n' ≤ 8
  rotate_left
  · have HQ : Hid (wbF f g p = ([], 3)) := Lib.hid (wbF_3 HS.out HP.out (by rw [← HFL.out]; exact hn8))
    have hn8' : (8 : Int) < (n' : Int) := by omega
    go_wp2
    go_ret2
    exact ⟨none, 0, 0, [], by rw [HQ.out]; rfl, by rw [HQ.out]; exact OwnT.nil _ _, hB⟩
  have HQ : Hid (wbF f g p = (wbL f g n' p, 0)) := Lib.hid (by rw [wbF_0 HS.out HP.out (by rw [← HFL.out]; exact hn8), ← HFL.out])
  have hn8' : ¬ (8 : Int) < (n' : Int) := by omega
  obtain ⟨N, hN⟩ : ∃ N, N = n' * n' := ⟨_, rfl⟩
  have hbN : N ≤ 64 := by rw [hN]; exact Nat.mul_le_mul hn8 hn8
  have hbN1 : 1 ≤ N := by rw [hN]; exact Nat.mul_le_mul hn1 hn1
  obtain ⟨N3, hN3⟩ : ∃ N3, N3 = n' * n' * n' := ⟨_, rfl⟩
  have hb3 : N3 ≤ 512 := by rw [hN3]; exact Nat.mul_le_mul (Nat.mul_le_mul hn8 hn8) hn8
  have e2 : (n' : Int) * (n' : Int) = (N : Int) := by rw [hN]; simp
  have e3 : (N : Int) * (n' : Int) = (N3 : Int) := by rw [hN3, hN]; simp
  have HN := Lib.hid hN; have HN3 := Lib.hid hN3
  clear hN hN3
  -- the empty list and the words
  obtain ⟨wC, hwC⟩ : ∃ wC, (((w1.alloc (.cells #[] 27)).alloc (.cells #[.int .i64 0, .int .i64 1, .int .i64 0] 2)).alloc (.cells #[.int .i64 1, .int .i64 0, .int .i64 1] 2)).alloc (.cells #[.slice (some ⟨w1.heap.size + 1, 0, none⟩) 3 3, .slice (some ⟨w1.heap.size + 1 + 1, 0, none⟩) 3 3] 27) = wC := ⟨_, rfl⟩
  have hO0 : OwnT wC w1.heap.size (some ⟨w1.heap.size, 0, none⟩) 0 0 [] [] := by rw [← hwC]; exact (((OwnT.fresh w1 rfl).alloc _).alloc _).alloc _
  have hWD : Wds wC w1.heap.size := by
    rw [← hwC]
    exact ⟨((Loc.new _ (by simp) _ _).alloc _).alloc _, (Loc.new _ (by simp) _ _).alloc _, Loc.new _ (by simp) _ _⟩
  have hBC : Below w1.heap.size w1 wC := by rw [← hwC]; exact below_al (below_al (below_al (below_al (Below.refl _ _) _) _) _) _
  have hAC := hA.below hBC hA.lt
  have hB0 := below_th hB hBC
  have HWC := Lib.hid hwC
  have hAlt := hA.lt
  clear hwC hA
  go_wp2
  rw [HWC.out]
  have T1 := h1.f.below hB
  have T2 := h1.s.below hB
  clear h1 lA
  go_loopw [7, 9] (fun s7 s9 wr => ∃ (m : Nat) (a7 : Option Addr) (c7 : Nat) (vs7 : List SV), m ≤ N3 ∧ s9 = .int .i64 m ∧ s7 = .slice a7 m c7 ∧ OwnT wr w1.heap.size a7 m c7 vs7 ((rowsW f g n' p).take m) ∧ Hid (∀ q, a7 = some ⟨q, 0, none⟩ → q ≠ w1.heap.size + 1 + 1 + 1) ∧ Wds wr w1.heap.size ∧ Loc wr w.heap.size #[.slice a n' c, .slice a' n' c'] 26 ∧ Below w1.heap.size w1 wr ∧ w1.heap.size + 1 + 1 + 1 < wr.heap.size) (fun _ s9 _ => N3 - (intOf s9).toNat)
  case atStart => exact ⟨0, _, 0, [], Nat.zero_le _, rfl, rfl, by simpa using hO0, Lib.hid (fun q e => by cases e; omega), hWD, hAC, hBC, hWD.hdr.lt⟩
  case round =>
    clear hO0 hWD hAC hBC hB0 HWC
    obtain ⟨m, a7, c7, vs7, hk, rfl, rfl, ho, hne7, hwd, hA, hq, hz⟩ := hrel
    obtain ⟨W, rfl⟩ : ∃ W : World, W = wr := ⟨_, rfl⟩
    by_cases hlt : m < N3
    · have HTK : Hid ((rowsW f g n' p).take (m + 1) = (rowsW f g n' p).take m ++ [rowW f g n' p m]) := Lib.hid (rowsW_take (by rw [← HN3.out]; exact hlt))
      have HSD : Hid (sdF f g n' p m 2 = rowW f g n' p m) := Lib.hid (sdF_two f g n' p m)
      have HS0 : Hid (sdF f g n' p m 0 = List.replicate N 0) := Lib.hid (by rw [HN.out]; rfl)
      go_wp2_with (at_make; refine make1 rfl rfl rfl rfl (by omega) ?_; intro w3 hor hs3 hb3)
      rw [← HS0.out] at hor
      go_loopw [11] (fun s11 w4 => ∃ sd : Nat, sd ≤ 2 ∧ s11 = .int .i64 sd ∧ Own w4 W.heap.size (some ⟨W.heap.size, 0, none⟩) N N (sdF f g n' p m sd) ∧ Below W.heap.size W w4) (fun s11 _ => 2 - (intOf s11).toNat)
      case atStart => exact ⟨0, by omega, rfl, hor, hb3⟩
      case round =>
        clear hor hs3 hb3
        obtain ⟨sd, hsd, rfl, hor, hb4⟩ := hrel
        by_cases hs2 : sd < 2
        · have hin := sdF_inv hn1 HSF.out HSG.out (p := p) (by omega) m sd
          have HSS : Hid (sdF f g n' p m (sd + 1) = (cpF f g n' p (tS p sd) (kS sd) (digL n' 3 m, sdF f g n' p m sd)).2) := Lib.hid rfl
          obtain ⟨R0, hR0⟩ : ∃ R0, sdF f g n' p m sd = R0 := ⟨_, rfl⟩
          rw [hR0] at hor hin HSS
          clear hR0
          have HCI : Hid (∀ i, CpI n' p 3 (cpF f g n' p (tS p sd) ((kS sd).take i) (digL n' 3 m, R0))) := Lib.hid fun i => hin.fold HSF.out HSG.out (by omega) fun k hk => kS_mem (List.mem_of_mem_take hk)
          clear hin
          have hGw := hor.hi _ rfl
          go_wp2_with fail
          refine (l15Tuple_any n' 3 m _ hn1 (by omega) (by omega) (by omega)).mono ?_
          rintro e w5 ⟨at3, c3, rfl, hot, hb5⟩
          have hr5 := hor.below hb5
          have b5 := below_th hb4 hb5
          go_wp2
          go_loopw [12, 13] (fun s12 s13 w6 => ∃ (i : Nat) (ao : Option Addr) (co : Nat), i ≤ 3 ∧ s13 = .int .i64 i ∧ s12 = .slice ao 3 co ∧ Row w6 ao 3 (cpF f g n' p (tS p sd) ((kS sd).take i) (digL n' 3 m, R0)).1 ∧ Hid (∀ o, ao ≠ some ⟨W.heap.size, o, none⟩) ∧ Own w6 W.heap.size (some ⟨W.heap.size, 0, none⟩) N N (cpF f g n' p (tS p sd) ((kS sd).take i) (digL n' 3 m, R0)).2 ∧ Below W.heap.size W w6) (fun _ s13 _ => 3 - (intOf s13).toNat)
          case atStart => exact ⟨0, at3, c3, by omega, rfl, rfl, by simpa [cpF] using hot.row, Lib.hid (own_neS hot (.inr hGw)), by simpa [cpF] using hr5, b5⟩
          case round =>
            clear hot hb5 hr5 b5 hor hGw
            obtain ⟨i, ao, co, hi, rfl, rfl, hl, hln, hor, hb6⟩ := hrel
            by_cases hi3 : i < 3
            · have hik : i < (kS sd).length := by rw [kS_len]; exact hi3
              have HST := Lib.hid (cpF_take (f := f) (g := g) (n := n') (p := p) (t := tS p sd) (st := (digL n' 3 m, R0)) hik)
              have hci := HCI.out i
              obtain ⟨⟨L, Q⟩, hst⟩ : ∃ st, cpF f g n' p (tS p sd) ((kS sd).take i) (digL n' 3 m, R0) = st := ⟨_, rfl⟩
              rw [hst] at hl hor hci HST
              clear hst
              simp only at hl hor
              obtain ⟨i1, i2, i3⟩ := hci
              simp only at i1 i2 i3
              have hK1 := kS_lt hik
              obtain ⟨bw, d1, d2⟩ := (hwd.below hb6).at hs2 hik
              generalize (kS sd)[i] = K at *
              obtain ⟨x, hx, ex⟩ := i2 K (by omega)
              obtain ⟨y, hy, ey⟩ := i2 (K + 1) (by omega)
              obtain ⟨bt, ot, rfl, d3⟩ := hl.at K (by omega)
              obtain ⟨bt', ot', e1, d4⟩ := hl.at (K + 1) (by omega)
              cases e1
              rw [ex] at d3
              rw [ey] at d4
              have hJ : numP n' L K = x * n' + y := by unfold numP; rw [ex, ey]; simp
              obtain ⟨J, hJ2⟩ : ∃ J, x * n' + y = J := ⟨_, rfl⟩
              rw [hJ2] at hJ
              have hJN : J < N := by rw [← hJ2, HN.out]; exact pair_lt hx hy
              obtain ⟨XN, hXN⟩ : ∃ XN, x * n' = XN := ⟨_, rfl⟩
              have e4 : (x : Int) * (n' : Int) = (XN : Int) := by rw [← hXN]; simp
              have e5 : (XN : Int) + (y : Int) = (J : Int) := by rw [← hJ2, hXN]; simp
              have hXNb : XN ≤ N := by rw [hXN] at hJ2; omega
              obtain ⟨_, hcs, hfz⟩ := hor.cells
              have q1' := hcs J hJN
              have q2 := hfz J
              have q1 : wr.cell? ⟨W.heap.size, J, none⟩ = some (.int .i64 (gv Q J)) := q1'
              clear q1' hcs hfz
              have hX := i3.2 J (by rw [← HN.out]; exact hJN)
              have HX9 : Hid (cpS f g n' p (tS p sd) (L, Q) K = (doF f g K L, Q.set J ((gv Q J + tS p sd) % p))) := Lib.hid (by unfold cpS; simp only [hJ])
              generalize gv Q J = X at *
              obtain ⟨D, hD⟩ : ∃ D, (sd : Int) * (p - 2) = D := ⟨_, rfl⟩
              have hDb : 0 ≤ D ∧ D ≤ 5 := by
                have : sd = 0 ∨ sd = 1 := by omega
                rcases this with rfl | rfl
                · simp at hD; omega
                · simp at hD; omega
              have hts : X + tS p sd = X + 1 + D := by unfold tS; rw [hD]; omega
              rw [hts] at HX9
              have w2' : IntKind.i64.wrap (p - 2) = p - 2 := IntWalk.i64_in _ (by omega)
              have w3' : IntKind.i64.wrap ((sd : Int) * (p - 2)) = D := by rw [hD]; exact IntWalk.i64_in _ (by omega)
              have w4' : IntKind.i64.wrap (X + 1) = X + 1 := IntWalk.i64_in _ (by omega)
              have w5' : IntKind.i64.wrap (X + 1 + D) = X + 1 + D := IntWalk.i64_in _ (by omega)
              obtain ⟨Z, hZ⟩ : ∃ Z, (X + 1 + D) % p = Z := ⟨_, rfl⟩
              have w6' : (X + 1 + D).tmod p = Z := by rw [← hZ]; exact IntWalk.rem_in _ _ (by omega)
              rw [hZ] at HX9
              have p0 : p ≠ 0 := by omega
              have hwk : IntKind.i64.wrap ((K : Int) + 1) = ((K + 1 : Nat) : Int) := (IntWalk.i64_in _ (by omega)).trans (by simp)
              have HLS := Lib.hid i2
              clear hJ hJ2 hXN hD hts hZ i1 i2 i3 hX ex ey
              go_wp2
              go_quiet (fail)
              go_upto_region 24 with fail
              obtain ⟨W6, hW6⟩ : ∃ W6, (wr.drewN nq).setCell ⟨W.heap.size, J, none⟩ (.int .i64 Z) = W6 := ⟨_, rfl⟩
              have hbQ : Below W.heap.size W (wr.drewN nq) := below_drewN hb6 nq
              have hoW : Own W6 W.heap.size (some ⟨W.heap.size, 0, none⟩) N N (Q.set J Z) := by rw [← hW6]; exact (hor.drewN nq).set J Z
              have hlW : Row W6 (some ⟨bt, ot, none⟩) 3 L := by rw [← hW6]; exact (hl.drewN nq).grw (grw_set (grw_refl (wr.drewN nq) (some W.heap.size)) (.inl rfl) _) (fun g' o _ e h => by cases h; exact hln.out o e)
              have hB6 : Below W.heap.size W W6 := by rw [← hW6]; exact below_setne (a := ⟨W.heap.size, J, none⟩) hbQ (Nat.le_refl _) _
              have hA6 := (hA.below hB6 hA.lt).two
              have hQ6 := below_th hq hB6
              have t1 := T1.below hQ6
              have t2 := T2.below hQ6
              have hG6 := hoW.hi _ rfl
              rw [hW6]
              clear hW6 hbQ d1 d2 d3 d4 q1 q2
              go_wp2_with fail
              refine (l02Do_any a n' c a' c' f g _ 3 co L K W6 t1 t2 hn1 HSF.out HSG.out hlW (by omega) (by omega) HLS.out).mono ?_
              rintro e w7 ⟨ao7, co7, rfl, ho7, hb7⟩
              go_wp2
              go_roundw
              case rel =>
                refine ⟨i + 1, ao7, co7, by omega, by go_num, rfl, ?_, Lib.hid (own_neS ho7 (.inr hG6)), ?_, below_th hB6 hb7⟩
                · rw [HST.out, HX9.out]; exact ho7.row
                · rw [HST.out, HX9.out]; exact hoW.below hb7
              case measure => simp [intOf]; omega
            · obtain rfl : i = 3 := by omega
              rw [List.take_of_length_le (by rw [kS_len]; exact Nat.le_refl _), ← HSS.out] at hor
              go_wp2
              go_roundw
              case rel => exact ⟨sd + 1, by omega, by go_num, hor, hb6⟩
              case measure => simp [intOf]; omega
        · obtain rfl : sd = 2 := by omega
          rw [HSD.out] at hor
          have hO4 := ho.below hb4
          have hw4 := hwd.below hb4
          have hA4 := hA.below hb4 hA.lt
          have hz4 := hb4.size
          have hqz := hq.size
          have hnb := hO4.blk_ne hne7.out
          have hv4 := hor.mono hqz
          go_wp2_with (at_builtin; refine appT1g rfl rfl hO4 rfl hv4 (fun q h1 h2 => by cases h2; have := ho.high _ h1; omega) (fun j' hj' q h1 h2 => by cases h1; have := (ho.row j' hj').hi _ h2; omega) rfl (by omega) (by omega) ?_; intro g7 c8 w8 hO8 hg8 hat8 hb8)
          go_roundw
          case rel =>
            have n1 : some (w1.heap.size + 1) ≠ (Value.slice a7 m c7).ownBlock := hO4.blk_ne fun q e => by subst e; exact hO4.ne_loc hw4.one (by decide)
            have n2 : some (w1.heap.size + 1 + 1) ≠ (Value.slice a7 m c7).ownBlock := hO4.blk_ne fun q e => by subst e; exact hO4.ne_loc hw4.two (by decide)
            refine ⟨m + 1, _, c8, vs7 ++ [(some ⟨W.heap.size, 0, none⟩, N, N)], by omega, by go_num, rfl, by rw [HTK.out]; exact hO8, Lib.hid fun q e => ?_, ⟨hw4.one.grown hg8 n1, hw4.two.grown hg8 n2, hw4.hdr.grown hg8 hnb⟩, hA4.below hb8 (by omega), (below_th hq hb4).trans hb8, by have := hg8.size; omega⟩
            cases e
            rcases hat8 with e8 | e8
            · intro e9; exact hnb (by rw [← e9]; exact e8.symm)
            · omega
          case measure => simp [intOf]; omega
    · obtain rfl : N3 = m := by omega
      rw [List.take_of_length_le (by rw [HN3.out]; simp [rowsW])] at ho
      have hv := rowsW_vec (p := p) hn1 HSF.out HSG.out (by omega)
      rw [← HN.out] at hv
      have HWL : Hid (wbL f g n' p = echL p (invF p) N (kerL p N (echL p (invF p) N (rowsW f g n' p)) N)) := Lib.hid (by rw [HN.out]; rfl)
      have hrd := ech_rdc HP.out hv
      have hkv := kerL_vec (p := p) (N := N) (R := echL p (invF p) N (rowsW f g n' p)) (by omega) N
      have HEC := Lib.hid (l15Echelon_any p a7 N3 c7 N _ W ho.tbl HP.out (by omega) (by omega) hv)
      have hl2 := ech_len p (invF p) N (rowsW f g n' p)
      generalize echL p (invF p) N (rowsW f g n' p) = R2 at *
      have hl3 := ker_len p N R2 N
      have HE9 : Hid (∀ (v : World) (a9 : Option Addr) (d9 c9 : Nat), Tbl v a9 d9 (kerL p N R2 N) → Calls Tryz.prog 166 #[.slice a9 d9 c9, .int .i64 p] v fun e w' => ∃ a' d c' vs, e = .returned (.slice a' d c') ∧ OwnT w' v.heap.size a' d c' vs (echL p (invF p) N (kerL p N R2 N)) ∧ Below v.heap.size v w') := Lib.hid fun v a9 d9 c9 h9 => l15Echelon_any p a9 d9 c9 N _ v h9 HP.out (by have := h9.len; omega) (by omega) hkv
      have HRD : Hid (∀ j, j < R2.length → Vec p N (R2.getD j []) ∧ ldN (R2.getD j []) < N) := Lib.hid fun j hj => hrd _ (by rw [List.getD_eq_getElem?_getD, List.getElem?_eq_getElem hj]; exact List.getElem_mem hj)
      have hBW := below_th hB hq
      clear hrd hkv hv hl3 hwd hA hne7 ho
      go_wp2_with fail
      refine HEC.out.mono ?_
      rintro e w8 ⟨a9, d9, c9, vs9, rfl, ho9, hb8⟩
      have hd9 : d9 ≤ N := by have := ho9.len; omega
      have HD9 := Lib.hid ho9.len
      have hT9 := ho9.tbl
      have hcap9 := ho9.cap
      have hB8 := below_th hBW hb8
      obtain ⟨wP, hwP⟩ : ∃ wP, (w8.alloc (.cells #[] 2)).alloc (.cells #[] 27) = wP := ⟨_, rfl⟩
      have hP0 : Own wP w8.heap.size (some ⟨w8.heap.size, 0, none⟩) 0 0 [] := by rw [← hwP]; exact (Own.fresh w8 rfl).alloc _
      have hL0 : Loc wP (w8.heap.size + 1) #[] 27 := by rw [← hwP]; exact Loc.new _ (by simp) _ _
      have hBP : Below w8.heap.size w8 wP := by rw [← hwP]; exact below_al (below_al (Below.refl _ _) _) _
      have HWP := Lib.hid hwP
      clear hwP ho9 hb8 hB hq hBW
      go_wp2
      rw [HWP.out]
      go_loopw [16, 18] (fun s16 s18 wr => ∃ (i : Nat) (a16 : Option Addr) (c16 : Nat), i ≤ d9 ∧ s18 = .int .i64 i ∧ s16 = .slice a16 i c16 ∧ Own wr w8.heap.size a16 i c16 ((pivL R2).take i) ∧ Loc wr (w8.heap.size + 1) #[] 27 ∧ Below w8.heap.size w8 wr) (fun _ s18 _ => d9 - (intOf s18).toNat)
      case atStart => exact ⟨0, _, 0, Nat.zero_le _, rfl, rfl, by simpa using hP0, hL0, hBP⟩
      case round =>
        clear hP0 hL0 hBP HWP
        obtain ⟨i, a16, c16, hi, rfl, rfl, hP, hL, hb⟩ := hrel
        have hLl := hL.lt
        by_cases hlt2 : i < d9
        · obtain ⟨hV, hlN⟩ := HRD.out i (by have := HD9.out; omega)
          have HPT := Lib.hid (pivL_take (R := R2) (show i < R2.length by have := HD9.out; omega))
          obtain ⟨bz, oz, ai, ni, ci, rfl, z1, hri, _⟩ := (hT9.below hb).at i hlt2
          obtain rfl : N = ni := by rw [hri.len]; exact hV.1.symm
          obtain ⟨K, hK⟩ : ∃ K, ldN (R2.getD i []) = K := ⟨_, rfl⟩
          have hld : ldI (R2.getD i []) = K := by unfold ldI; rw [if_neg (by have := hV.1; omega), hK]
          have HLF := Lib.hid (l15First_any ai N ci _ wr hri (by omega))
          rw [hld] at HLF
          rw [hK] at hlN HPT
          clear hld hK hV hri
          have hsz := hb.size
          go_wp2_with fail
          refine HLF.out.mono ?_
          rintro e w' ⟨rfl, rfl⟩
          go_wp2_with (at_builtin; refine app1 rfl rfl hP rfl rfl (by omega) hsz ?_; intro g' cc w9 hO hg9 hs9 hb9)
          go_roundw
          case rel =>
            refine ⟨i + 1, _, cc, by omega, by go_num, rfl, by rw [HPT.out]; exact hO, hL.grown hg9 (hP.blk_ne fun q e => by subst e; exact hP.ne_loc hL (by decide)), hb.trans hb9⟩
          case measure => simp [intOf]; omega
        · obtain rfl : d9 = i := by omega
          rw [List.take_of_length_le (by have := HD9.out; simp [pivL]; omega)] at hP
          have hO0 := ownT_empty (lo := w8.heap.size + 1) hL (Nat.le_refl _)
          go_wp2
          go_loopw [17, 19] (fun s17 s19 wr => ∃ (pl d : Nat) (a17 : Option Addr) (c17 : Nat) (vs : List SV), pl ≤ N ∧ d ≤ pl ∧ s19 = .int .i64 pl ∧ s17 = .slice a17 d c17 ∧ OwnT wr (w8.heap.size + 1) a17 d c17 vs (kerL p N R2 pl) ∧ Own wr w8.heap.size a16 d9 c16 (pivL R2) ∧ Below w8.heap.size w8 wr ∧ w8.heap.size + 1 < wr.heap.size) (fun _ s19 _ => N - (intOf s19).toNat)
          case atStart => exact ⟨0, 0, _, 0, [], Nat.zero_le _, Nat.zero_le _, rfl, rfl, hO0, hP, hb, hLl⟩
          case round =>
            clear hO0 hP hb hL hLl
            obtain ⟨pl, d, a17, c17, vs, hpl, hdp, rfl, rfl, ho, hP, hb, hz⟩ := hrel
            obtain ⟨W2, rfl⟩ : ∃ W2 : World, W2 = wr := ⟨_, rfl⟩
            by_cases hlt3 : pl < N
            · have HHAS := Lib.hid (l01Has_any a16 d9 c16 (pivL R2) (pl : Int) W2 hP.row (by omega))
              rw [pivL_has] at HHAS
              obtain ⟨cb, hcb⟩ : ∃ cb, pvK R2 R2.length pl = cb := ⟨_, rfl⟩
              rw [hcb] at HHAS
              have HCB := Lib.hid hcb
              clear hcb
              go_wp2_with fail
              refine HHAS.out.mono ?_
              rintro e w' ⟨rfl, rfl⟩
              cases cb
              · go_wp2_with (at_make; refine make1 rfl rfl rfl rfl (by omega) ?_; intro w3 hor hs3 hb3; obtain ⟨_, hc1, hf1⟩ := hor.cells; have q1 := hc1 pl hlt3; have q2 := hf1 pl; clear hc1 hf1)
                have hoS := hor.set pl 1
                have hbS := below_setne (a := ⟨W2.heap.size, pl, none⟩) hb3 (Nat.le_refl _) (.int .i64 1)
                clear q1 q2 hor hs3 hb3
                go_loopw [21] (fun s21 w4 => ∃ j : Nat, j ≤ d9 ∧ s21 = .int .i64 j ∧ Own w4 W2.heap.size (some ⟨W2.heap.size, 0, none⟩) N N (kerR p N R2 pl j) ∧ Below W2.heap.size W2 w4) (fun s21 _ => d9 - (intOf s21).toNat)
                case atStart => exact ⟨0, Nat.zero_le _, rfl, by simpa [kerR] using hoS, hbS⟩
                case round =>
                  clear hoS hbS
                  obtain ⟨j, hj, rfl, hor, hb4⟩ := hrel
                  by_cases hjn : j < d9
                  · have hjR : j < R2.length := by have := HD9.out; omega
                    obtain ⟨hV, hlN⟩ := HRD.out j hjR
                    have HKS := Lib.hid (kerR_succ (p := p) (N := N) (pl := pl) hjR)
                    obtain ⟨bz, oz, ai, ni, ci, rfl, z1, hri, _⟩ := hT9.at j hjn
                    obtain rfl : N = ni := by rw [hri.len]; exact hV.1.symm
                    obtain ⟨b6, o6, rfl, z2⟩ := hri.at pl hlt3
                    obtain ⟨bp, op, rfl, z3⟩ := hP.row.at j hjn
                    rw [pivL_get hjR] at z3
                    have e1 : bz < w8.heap.size := World.block_lt_of_cell? w8 _ z1
                    have e2' : b6 < w8.heap.size := World.block_lt_of_cell? w8 _ z2
                    have e3' : bp < W2.heap.size := World.block_lt_of_cell? W2 _ z3
                    have hB := below_th hb hb4
                    have hbz := hb.size
                    have z1 := (hB.cell (p := ⟨bz, oz + j, none⟩) e1).trans z1
                    have z2' := (hB.cell (p := ⟨b6, o6 + pl, none⟩) e2').trans z2
                    have z3 := (hb4.cell (p := ⟨bp, op + j, none⟩) e3').trans z3
                    clear hri z2
                    have z2 : wr.cell? ⟨b6, o6 + pl, none⟩ = some (.int .i64 (gv (R2.getD j []) pl)) := z2'
                    clear z2'
                    have hYv := hV.2 pl hlt3
                    obtain ⟨K, hK⟩ : ∃ K, ldN (R2.getD j []) = K := ⟨_, rfl⟩
                    rw [hK] at hlN HKS z3
                    clear hK hV
                    generalize gv (R2.getD j []) pl = Y at *
                    have hwY : IntKind.i64.wrap (p - Y) = p - Y := IntWalk.i64_in _ (by omega)
                    have hrY : (p - Y).tmod p = (p - Y) % p := IntWalk.rem_in _ _ (by omega)
                    obtain ⟨Z, hZ⟩ : ∃ Z, (p - Y) % p = Z := ⟨_, rfl⟩
                    rw [hZ] at hrY HKS
                    clear hZ
                    have p0 : p ≠ 0 := by omega
                    obtain ⟨_, hc1, hf1⟩ := hor.cells
                    have q1 := hc1 K hlN
                    have q2 := hf1 K
                    clear hc1 hf1
                    have n6 : b6 ≠ W2.heap.size := by omega
                    have n7 : bz ≠ W2.heap.size := by omega
                    have n8 : bp ≠ W2.heap.size := by omega
                    have zS : (wr.drewN 1).cell? ⟨bp, op + j, none⟩ = some (.int .i64 (K : Int)) ∧ (wr.drewN 1).cell? ⟨bz, oz + j, none⟩ = some (.slice (some ⟨b6, o6, none⟩) N ci) ∧ (wr.drewN 1).cell? ⟨b6, o6 + pl, none⟩ = some (.int .i64 Y) := ⟨z3, z1, z2⟩
                    have zT : ((wr.drewN 1).setCell ⟨W2.heap.size, K, none⟩ (.int .i64 Z)).cell? ⟨bp, op + j, none⟩ = some (.int .i64 (K : Int)) ∧ ((wr.drewN 1).setCell ⟨W2.heap.size, K, none⟩ (.int .i64 Z)).cell? ⟨bz, oz + j, none⟩ = some (.slice (some ⟨b6, o6, none⟩) N ci) ∧ ((wr.drewN 1).setCell ⟨W2.heap.size, K, none⟩ (.int .i64 Z)).cell? ⟨b6, o6 + pl, none⟩ = some (.int .i64 Y) := ⟨cell_setne zS.1 n8 _, cell_setne zS.2.1 n7 _, cell_setne zS.2.2 n6 _⟩
                    go_wp2
                    go_region_held3 (fun v => v.cell? ⟨bp, op + j, none⟩ = some (.int .i64 (K : Int)) ∧ v.cell? ⟨bz, oz + j, none⟩ = some (.slice (some ⟨b6, o6, none⟩) N ci) ∧ v.cell? ⟨b6, o6 + pl, none⟩ = some (.int .i64 Y))
                      (first | exact zT | exact zS | exact ⟨z3, z1, z2⟩ | go_keep)
                      (fail)
                    all_goals
                      go_wp2
                      go_roundw
                      case rel =>
                        refine ⟨j + 1, by omega, by go_num, by rw [HKS.out]; exact hor.set K Z, ?_⟩
                        first
                          | exact Below.drew (below_setne (a := ⟨W2.heap.size, K, none⟩) hb4 (Nat.le_refl _) _)
                          | exact below_setne (a := ⟨W2.heap.size, K, none⟩) hb4 (Nat.le_refl _) _
                          | exact below_setne (a := ⟨W2.heap.size, K, none⟩) (Below.drew hb4) (Nat.le_refl _) _
                      case measure => simp [intOf]; omega
                  · obtain rfl : d9 = j := by omega
                    have ho3 := ho.below hb4
                    have hP3 := hP.below hb4
                    have hsz := hb4.size
                    have hv3 : Own wr (w8.heap.size + 1) (some ⟨W2.heap.size, 0, none⟩) N N (kerR p N R2 pl d9) := hor.mono (by omega)
                    go_wp2_with (at_builtin; refine appT1g rfl rfl ho3 rfl hv3 (fun q h1 h2 => by cases h2; have := ho.high _ h1; omega) (fun j' hj' q h1 h2 => by cases h1; have := (ho.row j' hj').hi _ h2; omega) rfl (by omega) (by omega) ?_; intro g7 c7 w7 hO7 hg7 hat7 hb7)
                    go_roundw
                    case rel =>
                      refine ⟨pl + 1, d + 1, _, c7, vs ++ [(some ⟨W2.heap.size, 0, none⟩, N, N)], by omega, by omega, by go_num, rfl, by rw [kerL_do HCB.out, ← HD9.out]; exact hO7, hP3.grown hg7 (fun gp e => ?_), (below_th hb hb4).trans (hb7.mono (by omega)), by have := hg7.size; omega⟩
                      rcases hP3.block with ⟨h', _⟩ | ⟨gp', cur, h', _, hLp, _⟩
                      · rw [h'] at e; cases e
                      · rw [h'] at e; cases e
                        exact ho3.blk_ne fun q e2 => by subst e2; exact ho3.ne_loc hLp (by decide)
                    case measure => simp [intOf]; omega
              · go_wp2
                go_roundw
                case rel => exact ⟨pl + 1, d, a17, c17, vs, by omega, by omega, by go_num, rfl, by rw [kerL_skip HCB.out]; exact ho, hP, hb, hz⟩
                case measure => simp [intOf]; omega
            · obtain rfl : N = pl := by omega
              have HFIN := Lib.hid (HE9.out W2 a17 d c17 ho.tbl)
              have hB9 := below_th hB8 hb
              go_wp2_with fail
              refine HFIN.out.mono ?_
              rintro e w10 ⟨a11, d11, c11, vs11, rfl, ho11, hb10⟩
              rw [← HWL.out] at ho11
              have hB10 := below_th hB9 hb10
              have hs9 := hB9.size
              go_wp2
              go_ret2
              exact ⟨a11, d11, c11, vs11, by rw [HQ.out]; rfl, by rw [HQ.out]; exact ho11.mono hs9, hB10⟩
end Go.Proofs.YtpdgpgbgakinlaaGreat
