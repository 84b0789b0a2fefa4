/-
  The program's list of solutions.
  No condition but bounds.
-/
import Derived.Test.YthgafpeblpnolaaGreatSoS
import Derived.Test.YthgafpeblpnolaaGreatSls
namespace Go.Proofs.YthgafpeblpnolaaGreat
set_option maxRecDepth 100000
set_option linter.unusedVariables false
set_option linter.unusedSimpArgs false
open Go.RowKit

/-- a solution that is its own least form -/
def ownB (n : Nat) (s : T2) : Bool := decide (cmpS s (lesL n s) = 0)
/-- the places of those among the first k -/
def selN (n k : Nat) : List Nat := (List.range k).filter fun j => ownB n ((solL n).getD j t2O)
theorem selN_succ (n k : Nat) : selN n (k + 1) = if ownB n ((solL n).getD k t2O) then selN n k ++ [k] else selN n k := by
  unfold selN
  rw [List.range_succ, List.filter_append, List.filter_cons, List.filter_nil]
  split <;> simp
theorem selN_lt {n k j : Nat} (h : j ∈ selN n k) : j < k := List.mem_range.1 (List.mem_filter.1 h).1
theorem selN_all (n : Nat) : ((selN n (solL n).length).map fun j => (solL n).getD j t2O) = (solL n).filter (ownB n) := by
  have : ∀ (L : List T2), (((List.range L.length).filter fun j => ownB n (L.getD j t2O)).map fun j => L.getD j t2O) = L.filter (ownB n) := by
    intro L
    have e : L = (List.range L.length).map fun j => L.getD j t2O := by
      apply List.ext_getElem
      · simp
      intro i h1 h2
      simp [List.getD_eq_getElem?_getD, List.getElem?_eq_getElem h1]
    conv => rhs; rw [e]
    rw [List.filter_map]; rfl
  exact this _
/-- the list, in order -/
def lstSo (n : Nat) : List T2 := (solL n).filter (ownB n)
theorem flip_own : ∀ n : Fin 4, 1 ≤ n.1 → ((solL n.1).head?.map (ownB n.1)) = some true := by decide +kernel
theorem allT_sq {n : Nat} (h1 : 1 ≤ n) (h3 : n ≤ 3) : ∀ t ∈ allT (prmL n) n [], Sq n t := fun t ht => by
  rw [← rowL_any h1] at ht
  obtain ⟨i, hi, rfl⟩ := List.getElem_of_mem ht
  have := rowL_rwsP (fits := fun _ => true) h1 (show n ≤ 4 by omega) hi
  rw [List.getD_eq_getElem?_getD, List.getElem?_eq_getElem hi] at this
  exact this.sq
theorem solL_sq {n : Nat} (h1 : 1 ≤ n) (h3 : n ≤ 3) : ∀ s ∈ solL n, Sq n s.1 ∧ Sq n s.2 := fun s hs => by
  obtain ⟨f, hf, hs⟩ := List.mem_flatMap.1 hs
  obtain ⟨r, hr, rfl⟩ := List.mem_map.1 hs
  exact ⟨allT_sq h1 h3 f hf, trnL_sq (allT_sq h1 h3 r (List.mem_filter.1 hr).1)⟩
set_option maxHeartbeats 8000000 in
theorem allSolutions_any (n : Nat) (w : World) (h1 : 1 ≤ n) (h3 : n ≤ 3) :
    Calls Tryz.prog 49 #[.int .i64 n] w fun e w' => ∃ a k c us ts, e = .returned (.slice a k c) ∧ OwnSo w' w.heap.size a k c us ts ∧ ts.Perm (lstSo n) ∧ (ts.Pairwise fun x y => ¬ cmpS y x < 0) ∧ Below w.heap.size w w' := by
  have HBD := Lib.hid (slsL_bd h1 h3)
  have HSQ := Lib.hid (solL_sq h1 h3)
  go_enter Tryz.func49, Tryz.ntmps49
  go_wp2_with fail
  refine (solutionTables_any n w h1 h3).mono ?_
  rintro e w1 ⟨aA, KA, cA, usA, rfl, hA, hb1⟩
  have HKA := Lib.hid hA.len
  have hKA : KA ≤ 1000000 := by rw [HKA.out]; exact HBD.out
  go_wp2
  go_loopw [3, 5, 9] (fun l _ i' wr => ∃ (i : Nat) (aL : Option Addr) (kL cL : Nat) (usL : List PV) (tsL : List T2), i ≤ KA ∧ i' = .int .i64 i ∧ l = .slice aL kL cL ∧ OwnSo wr w.heap.size aA KA cA usA (solL n) ∧ OwnSo wr w.heap.size aL kL cL usL tsL ∧ Hid (usL = (selN n i).map fun j => usA.getD j pvO) ∧ Hid (tsL = (selN n i).map fun j => (solL n).getD j t2O) ∧
    Hid (∀ g, aL = some ⟨g, 0, none⟩ → ¬ SSS aA KA usA g) ∧ Below w.heap.size w wr ∧ kL ≤ i) (fun _ _ i' _ => KA - (intOf i').toNat)
  case atStart => exact ⟨0, none, 0, 0, [], [], Nat.zero_le _, rfl, rfl, hA, OwnSo.nil _ _, Lib.hid rfl, Lib.hid rfl, Lib.hid (fun g e => by cases e), hb1, Nat.le_refl _⟩
  case round =>
    clear hA hb1
    obtain ⟨i, aL, kL, cL, usL, tsL, hi, rfl, rfl, hA, hO, HU, HT, HN, hB, hkL⟩ := hrel
    obtain ⟨V, rfl⟩ : ∃ V : World, V = wr := ⟨_, rfl⟩
    by_cases hlt : i < KA
    · obtain ⟨g, rfl, hgl, hc, _⟩ := hA.cells (by omega)
      obtain ⟨c0, c1⟩ := hc i hlt
      have hv := hA.tab i hlt
      have hmem : (solL n).getD i t2O ∈ solL n := by
        have := HKA.out
        rw [List.getD_eq_getElem?_getD, List.getElem?_eq_getElem (by omega)]; exact List.getElem_mem _
      obtain ⟨sq1, sq2⟩ := HSQ.out _ hmem
      clear hmem hc
      obtain ⟨⟨⟨⟨va, vn, vc⟩, vv⟩, ⟨⟨vb, vm, vd⟩, vz⟩⟩, hu⟩ : ∃ u, u = usA.getD i pvO := ⟨_, rfl⟩
      obtain ⟨⟨t1, t2⟩, ht⟩ : ∃ t, t = (solL n).getD i t2O := ⟨_, rfl⟩
      rw [← hu] at c0 c1 hv
      rw [← ht] at hv sq1 sq2
      have hv' : OwnS V w.heap.size va vn vc vv t1 vb vm vd vz t2 := hv
      have q1 : t1.length = n := sq1.1
      have q2 : t2.length = n := sq2.1
      obtain rfl : n = vn := by have := hv'.f.tbl.len; omega
      obtain rfl : n = vm := by have := hv'.s.tbl.len; omega
      clear q1 q2
      change V.cell? ⟨g, i * 2, none⟩ = some (.slice va n vc) at c0
      change V.cell? ⟨g, i * 2 + 1, none⟩ = some (.slice vb n vd) at c1
      have HUU := Lib.hid hu; have HTT := Lib.hid ht
      have HS1 := Lib.hid sq1; have HS2 := Lib.hid sq2
      clear hu ht hv sq1 sq2
      obtain ⟨C, HC⟩ : ∃ C, Hid (cmpS (t1, t2) ((lesL n (t1, t2)).1, (lesL n (t1, t2)).2) = C) := ⟨_, Lib.hid rfl⟩
      have hBx := Loc.new V rfl #[.slice va n vc, .slice vb n vd] 28
      have lBx := hBx.two
      have i1 : (0 : Int) ≤ (i : Int) := by omega
      have i2 : (i : Int) < (KA : Int) := by omega
      go_wp2
      go_region_held3 (fun w' => w'.cell? ⟨V.heap.size, 0, none⟩ = some (.slice va n vc) ∧ w'.cell? ⟨V.heap.size, 1, none⟩ = some (.slice vb n vd))
        (first | exact ⟨lX6.1, lX6.2.1⟩ | exact ⟨lX5.1, lX5.2.1⟩ | exact ⟨lBx.1, lBx.2.1⟩ | go_keep)
        (first
        | (go_at_call 47; refine (leastSolution_any n va vb vc vd t1 t2 _ h1 (by omega) ((hv'.f.tbl.alloc _).drewN 1) ((hv'.s.tbl.alloc _).drewN 1) HS1.out HS2.out).mono ?_; rintro e w5 ⟨b, d, vs, b', d', vs', rfl, hO5, hb5⟩; have hb15 : Below V.heap.size V w5 := below_th (below_drewN (below_al (Below.refl V.heap.size V) (.cells #[.slice va n vc, .slice vb n vd] 28)) 1) hb5; have hX5 : Loc w5 V.heap.size _ _ := ((hBx.drewN 1).below hb5 hBx.lt); have lX5 := hX5.two)
        | (go_at_call 51; refine (compareSolutions_any va vb b b' n n n n vc vd d d' t1 t2 (lesL n (t1, t2)).1 (lesL n (t1, t2)).2 w5 (hv'.f.tbl.below hb15) (hv'.s.tbl.below hb15) hO5.f.tbl hO5.s.tbl (by omega) (by omega)).mono ?_; rintro e w6 ⟨rfl, qn, os', hw6⟩; rw [HC.out]; have hb6 : Below w5.heap.size w5 w6 := (by rw [hw6]; exact below_grow _ _ _); clear hw6; have hX6 := hX5.below hb6 hX5.lt; have lX6 := hX6.two))
      all_goals
        have hb16 : Below V.heap.size V w6 := below_th hb15 hb6
        have hA6 := hA.below hb16
        have hO6 := hO.below hb16
        have hB6 := below_th hB hb16
        have hv6 := hv'.below hb16
        have hz6 := hb16.size
        have hzw := hB6.size
        clear lX5
        by_cases hC0 : C = 0
        · have HSEL : Hid (selN n (i + 1) = selN n i ++ [i]) := Lib.hid (by
            rw [selN_succ, if_pos]
            rw [← HTT.out]; exact decide_eq_true (HC.out.trans hC0))
          subst hC0
          have hnin : ∀ q, SolS va n vv vb n vz q → ¬ SSS aL kL usL q := fun q hq hq2 => by
            have hqi : PvS (usA.getD i pvO) q := by rw [← HUU.out]; exact hq
            rcases hq2 with hq2 | ⟨j, hj, hq2⟩
            · exact HN.out q hq2 (.inr ⟨i, hlt, hqi⟩)
            · have hjl : j < (selN n i).length := by
                have := hO.ulen; rw [HU.out, List.length_map] at this; omega
              have e : usL.getD j pvO = usA.getD ((selN n i)[j]) pvO := by
                rw [HU.out]; simp [List.getD_eq_getElem?_getD, List.getElem?_eq_getElem hjl]
              rw [e] at hq2
              have hlt2 := selN_lt (List.getElem_mem hjl)
              exact hA.pw _ i (by omega) hlt (by omega) q hq2 hqi
          have HNI := Lib.hid hnin
          clear hnin
          go_wp2_with (at_builtin; refine appSo rfl rfl hO6 rfl hv6 HNI.out rfl (by omega) (by omega) ?_; intro g' cc w8 hO8 hg8 hat8 hb8; have HAT := Lib.hid hat8; clear hat8)
          go_roundw
          case rel =>
            refine ⟨i + 1, some ⟨g', 0, none⟩, kL + 1, cc, _, _, by omega, by go_num, rfl, ?_, hO8, Lib.hid ?_, Lib.hid ?_, Lib.hid ?_, hB6.trans hb8, by omega⟩
            · exact hA6.keep fun q hq hlt => hg8.block q hlt (fun e => HN.out q (hO6.ownBlk e.symm) hq)
            · rw [HU.out, HSEL.out, List.map_append, HUU.out]; rfl
            · rw [HT.out, HSEL.out, List.map_append, HTT.out]; rfl
            · intro q e hq
              obtain rfl : g' = q := by simpa using e
              rcases HAT.out with h | h
              · exact HN.out _ (hO6.ownBlk h) hq
              · have := hA6.uHi _ hq; omega
          case measure => simp [intOf]; omega
        · have HSEL : Hid (selN n (i + 1) = selN n i) := Lib.hid (by
            rw [selN_succ, if_neg]
            rw [← HTT.out]; exact fun h => hC0 (HC.out.symm.trans (of_decide_eq_true h)))
          have hC2 : (C == 0) = false := by simpa using hC0
          go_wp2
          go_roundw
          case rel => exact ⟨i + 1, aL, kL, cL, usL, tsL, by omega, by go_num, rfl, hA6, hO6, by rw [HSEL.out]; exact HU, by rw [HSEL.out]; exact HT, HN, hB6, by omega⟩
          case measure => simp [intOf]; omega
    · obtain rfl : KA = i := by omega
      have hts : tsL = lstSo n := by rw [HT.out, HKA.out]; exact selN_all n
      have hk0 : 0 < kL := by
        have hl := hO.len
        have hf := flip_own ⟨n, by omega⟩ h1
        rw [hl, hts]
        cases hs : solL n with
        | nil => simp [hs] at hf
        | cons s L =>
          simp [hs] at hf
          unfold lstSo; rw [hs, List.filter_cons, if_pos hf]; simp
      have HTS := Lib.hid hts
      clear hts
      go_wp2_with fail
      refine (sortSo_any kL cL w.heap.size aL usL tsL V hO hk0 (by omega)).mono ?_
      rintro e w9 ⟨rfl, us', ts', hO9, hp, hs, hkeep, hos, htp, hout, hsz⟩
      rw [HTS.out] at hp
      have HP := Lib.hid hp; have HSS := Lib.hid hs; have HK := Lib.hid hkeep
      have HOS := Lib.hid hos; have HTP := Lib.hid htp; have HOU := Lib.hid hout
      clear hp hs hkeep hos htp hout
      go_wp2
      go_ret
      refine ⟨aL, kL, cL, rfl, us', ts', hO9, HP.out, HSS.out.imp (fun h => by omega), ⟨HOS.out.trans hB.os, HTP.out.trans hB.tape, HOU.out.trans hB.output, Nat.le_trans hB.size hsz, fun q hq => (HK.out q (by have := hB.size; omega) (fun e => ?_)).trans (hB.block q hq)⟩⟩
      have := hO.low q e
      omega
end Go.Proofs.YthgafpeblpnolaaGreat
