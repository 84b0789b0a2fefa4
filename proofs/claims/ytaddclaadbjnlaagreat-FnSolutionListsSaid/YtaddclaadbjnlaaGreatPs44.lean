/-
  Walks and plain laws of this seat, some texts in one.
  No condition but bounds on lengths.
-/
import Derived.Test.YtaddclaadbjnlaaGreatPs41
import Derived.Test.YtaddclaadbjnlaaGreatPs43
import Derived.Test.YtaddclaadbjnlaaGreatPs40
namespace Go.Proofs.YtaddclaadbjnlaaGreat
set_option maxRecDepth 100000
set_option linter.unusedVariables false
set_option linter.unusedSimpArgs false
open Go.RowKit
def ownB (n : Nat) (s : T2) : Bool := decide (cmpS s (lesL n s) = 0)
def selN (n k : Nat) : List Nat := (List.range k).filter fun j => ownB n ((solL n).getD j t2O)
theorem selN_succ (n k : Nat) : selN n (k + 1) = if ownB n ((solL n).getD k t2O) then selN n k ++ [k] else selN n k := by
  unfold selN
  rw [List.range_succ, List.filter_append, List.filter_cons, List.filter_nil]
  split <;> simp
theorem selN_lt {n k j : Nat} (h : j ∈ selN n k) : j < k := List.mem_range.1 (List.mem_filter.1 h).1
theorem selN_all (n : Nat) : ((selN n (solL n).length).map fun j => (solL n).getD j t2O) = (solL n).filter (ownB n) := by
  have : ∀ (L : List T2), (((List.range L.length).filter fun j => ownB n (L.getD j t2O)).map fun j => L.getD j t2O) = L.filter (ownB n) := by
    intro L
    have e : L = (List.range L.length).map fun j => L.getD j t2O := by
      apply List.ext_getElem
      · simp
      intro i h1 h2
      simp [List.getD_eq_getElem?_getD, List.getElem?_eq_getElem h1]
    conv => rhs; rw [e]
    rw [List.filter_map]; rfl
  exact this _
def lstSo (n : Nat) : List T2 := (solL n).filter (ownB n)
theorem flip_own : ∀ n : Fin 4, 1 ≤ n.1 → ((solL n.1).head?.map (ownB n.1)) = some true := by decide +kernel
theorem allT_sq {n : Nat} (h1 : 1 ≤ n) (h3 : n ≤ 3) : ∀ t ∈ allT (prmL n) n [], Sq n t := fun t ht => by
  rw [← rowL_any h1] at ht
  obtain ⟨i, hi, rfl⟩ := List.getElem_of_mem ht
  have := rowL_rwsP (fits := fun _ => true) h1 (show n ≤ 4 by omega) hi
  rw [List.getD_eq_getElem?_getD, List.getElem?_eq_getElem hi] at this
  exact this.sq
theorem solL_sq {n : Nat} (h1 : 1 ≤ n) (h3 : n ≤ 3) : ∀ s ∈ solL n, Sq n s.1 ∧ Sq n s.2 := fun s hs => by
  obtain ⟨f, hf, hs⟩ := List.mem_flatMap.1 hs
  obtain ⟨r, hr, rfl⟩ := List.mem_map.1 hs
  exact ⟨allT_sq h1 h3 f hf, trnL_sq (allT_sq h1 h3 r (List.mem_filter.1 hr).1)⟩
set_option maxHeartbeats 8000000 in
theorem allSolutions_any (n : Nat) (w : World) (h1 : 1 ≤ n) (h3 : n ≤ 3) :
    Calls Tryz.prog 63 #[.int .i64 n] w fun e w' => ∃ a k c us ts, e = .returned (.slice a k c) ∧ OwnSo w' w.heap.size a k c us ts ∧ ts.Perm (lstSo n) ∧ (ts.Pairwise fun x y => ¬ cmpS y x < 0) ∧ Below w.heap.size w w' := by
  have HBD := Lib.hid (slsL_bd h1 h3)
  have HSQ := Lib.hid (solL_sq h1 h3)
  go_enter Tryz.func63, Tryz.ntmps63
  go_wp2_with fail
  refine (solutionTables_any n w h1 h3).mono ?_
  rintro e w1 ⟨aA, KA, cA, usA, rfl, hA, hb1⟩
  have HKA := Lib.hid hA.len
  have hKA : KA ≤ 1000000 := by rw [HKA.out]; exact HBD.out
  go_wp2
  go_loopw [3, 5, 9] (fun l _ i' wr => ∃ (i : Nat) (aL : Option Addr) (kL cL : Nat) (usL : List PV) (tsL : List T2), i ≤ KA ∧ i' = .int .i64 i ∧ l = .slice aL kL cL ∧ OwnSo wr w.heap.size aA KA cA usA (solL n) ∧ OwnSo wr w.heap.size aL kL cL usL tsL ∧ Hid (usL = (selN n i).map fun j => usA.getD j pvO) ∧ Hid (tsL = (selN n i).map fun j => (solL n).getD j t2O) ∧
    Hid (∀ g, aL = some ⟨g, 0, none⟩ → ¬ SSS aA KA usA g) ∧ Below w.heap.size w wr ∧ kL ≤ i) (fun _ _ i' _ => KA - (intOf i').toNat)
  case atStart => exact ⟨0, none, 0, 0, [], [], Nat.zero_le _, rfl, rfl, hA, OwnSo.nil _ _, Lib.hid rfl, Lib.hid rfl, Lib.hid (fun g e => by cases e), hb1, Nat.le_refl _⟩
  case round =>
    clear hA hb1
    obtain ⟨i, aL, kL, cL, usL, tsL, hi, rfl, rfl, hA, hO, HU, HT, HN, hB, hkL⟩ := hrel
    obtain ⟨V, rfl⟩ : ∃ V : World, V = wr := ⟨_, rfl⟩
    by_cases hlt : i < KA
    · obtain ⟨g, rfl, hgl, hc, _⟩ := hA.cells (by omega)
      obtain ⟨c0, c1⟩ := hc i hlt
      have hv := hA.tab i hlt
      have hmem : (solL n).getD i t2O ∈ solL n := by
        have := HKA.out
        rw [List.getD_eq_getElem?_getD, List.getElem?_eq_getElem (by omega)]; exact List.getElem_mem _
      obtain ⟨sq1, sq2⟩ := HSQ.out _ hmem
      clear hmem hc
      obtain ⟨⟨⟨⟨va, vn, vc⟩, vv⟩, ⟨⟨vb, vm, vd⟩, vz⟩⟩, hu⟩ : ∃ u, u = usA.getD i pvO := ⟨_, rfl⟩
      obtain ⟨⟨t1, t2⟩, ht⟩ : ∃ t, t = (solL n).getD i t2O := ⟨_, rfl⟩
      rw [← hu] at c0 c1 hv
      rw [← ht] at hv sq1 sq2
      have hv' : OwnS V w.heap.size va vn vc vv t1 vb vm vd vz t2 := hv
      have q1 : t1.length = n := sq1.1
      have q2 : t2.length = n := sq2.1
      obtain rfl : n = vn := by have := hv'.f.tbl.len; omega
      obtain rfl : n = vm := by have := hv'.s.tbl.len; omega
      clear q1 q2
      change V.cell? ⟨g, i * 2, none⟩ = some (.slice va n vc) at c0
      change V.cell? ⟨g, i * 2 + 1, none⟩ = some (.slice vb n vd) at c1
      have HUU := Lib.hid hu; have HTT := Lib.hid ht
      have HS1 := Lib.hid sq1; have HS2 := Lib.hid sq2
      clear hu ht hv sq1 sq2
      obtain ⟨C, HC⟩ : ∃ C, Hid (cmpS (t1, t2) ((lesL n (t1, t2)).1, (lesL n (t1, t2)).2) = C) := ⟨_, Lib.hid rfl⟩
      have hBx := Loc.new V rfl #[.slice va n vc, .slice vb n vd] 53
      have lBx := hBx.two
      have i1 : (0 : Int) ≤ (i : Int) := by omega
      have i2 : (i : Int) < (KA : Int) := by omega
      go_wp2
      go_region_held3 (fun w' => w'.cell? ⟨V.heap.size, 0, none⟩ = some (.slice va n vc) ∧ w'.cell? ⟨V.heap.size, 1, none⟩ = some (.slice vb n vd))
        (first | exact ⟨lX6.1, lX6.2.1⟩ | exact ⟨lX5.1, lX5.2.1⟩ | exact ⟨lBx.1, lBx.2.1⟩ | go_keep)
        (first
        | (go_at_call 75; refine (leastSolution_any n va vb vc vd t1 t2 _ h1 (by omega) ((hv'.f.tbl.alloc _).drewN 1) ((hv'.s.tbl.alloc _).drewN 1) HS1.out HS2.out).mono ?_; rintro e w5 ⟨b, d, vs, b', d', vs', rfl, hO5, hb5⟩; have hb15 : Below V.heap.size V w5 := below_th (below_drewN (below_al (Below.refl V.heap.size V) (.cells #[.slice va n vc, .slice vb n vd] 53)) 1) hb5; have hX5 : Loc w5 V.heap.size _ _ := ((hBx.drewN 1).below hb5 hBx.lt); have lX5 := hX5.two)
        | (go_at_call 78; refine (compareSolutions_any va vb b b' n n n n vc vd d d' t1 t2 (lesL n (t1, t2)).1 (lesL n (t1, t2)).2 w5 (hv'.f.tbl.below hb15) (hv'.s.tbl.below hb15) hO5.f.tbl hO5.s.tbl (by omega) (by omega)).mono ?_; rintro e w6 ⟨rfl, qn, os', hw6⟩; rw [HC.out]; have hb6 : Below w5.heap.size w5 w6 := (by rw [hw6]; exact below_grow _ _ _); clear hw6; have hX6 := hX5.below hb6 hX5.lt; have lX6 := hX6.two))
      all_goals
        have hb16 : Below V.heap.size V w6 := below_th hb15 hb6
        have hA6 := hA.below hb16
        have hO6 := hO.below hb16
        have hB6 := below_th hB hb16
        have hv6 := hv'.below hb16
        have hz6 := hb16.size
        have hzw := hB6.size
        clear lX5
        by_cases hC0 : C = 0
        · have HSEL : Hid (selN n (i + 1) = selN n i ++ [i]) := Lib.hid (by
            rw [selN_succ, if_pos]
            rw [← HTT.out]; exact decide_eq_true (HC.out.trans hC0))
          subst hC0
          have hnin : ∀ q, SolS va n vv vb n vz q → ¬ SSS aL kL usL q := fun q hq hq2 => by
            have hqi : PvS (usA.getD i pvO) q := by rw [← HUU.out]; exact hq
            rcases hq2 with hq2 | ⟨j, hj, hq2⟩
            · exact HN.out q hq2 (.inr ⟨i, hlt, hqi⟩)
            · have hjl : j < (selN n i).length := by
                have := hO.ulen; rw [HU.out, List.length_map] at this; omega
              have e : usL.getD j pvO = usA.getD ((selN n i)[j]) pvO := by
                rw [HU.out]; simp [List.getD_eq_getElem?_getD, List.getElem?_eq_getElem hjl]
              rw [e] at hq2
              have hlt2 := selN_lt (List.getElem_mem hjl)
              exact hA.pw _ i (by omega) hlt (by omega) q hq2 hqi
          have HNI := Lib.hid hnin
          clear hnin
          go_wp2_with (at_builtin; refine appSo rfl rfl hO6 rfl hv6 HNI.out rfl (by omega) (by omega) ?_; intro g' cc w8 hO8 hg8 hat8 hb8; have HAT := Lib.hid hat8; clear hat8)
          go_roundw
          case rel =>
            refine ⟨i + 1, some ⟨g', 0, none⟩, kL + 1, cc, _, _, by omega, by go_num, rfl, ?_, hO8, Lib.hid ?_, Lib.hid ?_, Lib.hid ?_, hB6.trans hb8, by omega⟩
            · exact hA6.keep fun q hq hlt => hg8.block q hlt (fun e => HN.out q (hO6.ownBlk e.symm) hq)
            · rw [HU.out, HSEL.out, List.map_append, HUU.out]; rfl
            · rw [HT.out, HSEL.out, List.map_append, HTT.out]; rfl
            · intro q e hq
              obtain rfl : g' = q := by simpa using e
              rcases HAT.out with h | h
              · exact HN.out _ (hO6.ownBlk h) hq
              · have := hA6.uHi _ hq; omega
          case measure => simp [intOf]; omega
        · have HSEL : Hid (selN n (i + 1) = selN n i) := Lib.hid (by
            rw [selN_succ, if_neg]
            rw [← HTT.out]; exact fun h => hC0 (HC.out.symm.trans (of_decide_eq_true h)))
          have hC2 : (C == 0) = false := by simpa using hC0
          go_wp2
          go_roundw
          case rel => exact ⟨i + 1, aL, kL, cL, usL, tsL, by omega, by go_num, rfl, hA6, hO6, by rw [HSEL.out]; exact HU, by rw [HSEL.out]; exact HT, HN, hB6, by omega⟩
          case measure => simp [intOf]; omega
    · obtain rfl : KA = i := by omega
      have hts : tsL = lstSo n := by rw [HT.out, HKA.out]; exact selN_all n
      have hk0 : 0 < kL := by
        have hl := hO.len
        have hf := flip_own ⟨n, by omega⟩ h1
        rw [hl, hts]
        cases hs : solL n with
        | nil => simp [hs] at hf
        | cons s L =>
          simp [hs] at hf
          unfold lstSo; rw [hs, List.filter_cons, if_pos hf]; simp
      have HTS := Lib.hid hts
      clear hts
      go_wp2_with fail
      refine (sortSo_any kL cL w.heap.size aL usL tsL V hO hk0 (by omega)).mono ?_
      rintro e w9 ⟨rfl, us', ts', hO9, hp, hs, hkeep, hos, htp, hout, hsz⟩
      rw [HTS.out] at hp
      have HP := Lib.hid hp; have HSS := Lib.hid hs; have HK := Lib.hid hkeep
      have HOS := Lib.hid hos; have HTP := Lib.hid htp; have HOU := Lib.hid hout
      clear hp hs hkeep hos htp hout
      go_wp2
      go_ret
      refine ⟨aL, kL, cL, rfl, us', ts', hO9, HP.out, HSS.out.imp (fun h => by omega), ⟨HOS.out.trans hB.os, HTP.out.trans hB.tape, HOU.out.trans hB.output, Nat.le_trans hB.size hsz, fun q hq => (HK.out q (by have := hB.size; omega) (fun e => ?_)).trans (hB.block q hq)⟩⟩
      have := hO.low q e
      omega
def prS (s : T2) : List (List (List Int)) := [s.1, s.2]
def slrF (n : Nat) (acc : List (List (List (List Int)))) (s : T2) : List (List (List (List Int))) := if onlL n (prmL n) (prS s) then insQ (prS s) acc else acc
def slrK (n : Nat) (L : List T2) (k : Nat) : List (List (List (List Int))) := (L.take k).foldl (slrF n) []
theorem slrK_succ (n : Nat) (L : List T2) {k : Nat} (h : k < L.length) : slrK n L (k + 1) = slrF n (slrK n L k) (L.getD k t2O) := by
  unfold slrK
  rw [List.take_succ_eq_append_getElem h, List.foldl_append]
  simp [List.getD_eq_getElem?_getD, List.getElem?_eq_getElem h]
theorem slrK_shp {n : Nat} {L : List T2} (hL : ∀ s ∈ L, s.1.length = n ∧ s.2.length = n) : ∀ k, k ≤ L.length → (slrK n L k).length ≤ k ∧ ∀ A ∈ slrK n L k, ∃ s ∈ L, A = prS s := by
  intro k
  induction k with
  | zero => intro _; exact ⟨by simp [slrK], by simp [slrK]⟩
  | succ k ih =>
    intro hk
    obtain ⟨h1, h2⟩ := ih (by omega)
    have hm : L.getD k t2O ∈ L := by
      rw [List.getD_eq_getElem?_getD, List.getElem?_eq_getElem (show k < L.length by omega)]; exact List.getElem_mem _
    rw [slrK_succ n L (by omega)]
    unfold slrF
    split
    · refine ⟨by rw [insQ_len]; omega, fun A hA => ?_⟩
      rcases insQ_mem hA with e | e
      · exact ⟨_, hm, e⟩
      · exact h2 A e
    · exact ⟨by omega, h2⟩
theorem prS_shp {n : Nat} {s : T2} (h : s.1.length = n ∧ s.2.length = n) : Shp 2 n (prS s) := ⟨rfl, fun k hk => by
  match k, hk with
  | 0, _ => exact h.1
  | 1, _ => exact h.2⟩
theorem befT_cmp (r : Bool) : ∀ (t s : List (List Int)), t.length = s.length → befT r t s = if cmpT t s = 0 then r else decide (cmpT t s < 0) := by
  intro t
  induction t with
  | nil => intro s hs; cases s with
           | nil => rfl
           | cons _ _ => simp at hs
  | cons a t ih =>
    intro s hs
    cases s with
    | nil => simp at hs
    | cons b s =>
      by_cases e : cmpL a b = 0
      · have e1 : cmpT (a :: t) (b :: s) = cmpT t s := by show (if _ then _ else _) = _; rw [if_pos e]; rfl
        have e2 : befT r (a :: t) (b :: s) = befT r t s := by show (if _ then _ else _) = _; rw [if_pos e]
        rw [e2, e1]; exact ih s (by simpa using hs)
      · have e1 : cmpT (a :: t) (b :: s) = cmpL a b := by show (if _ then _ else _) = _; rw [if_neg e]
        have e2 : befT r (a :: t) (b :: s) = decide (cmpL a b < 0) := by show (if _ then _ else _) = _; rw [if_neg e]
        rw [e2, e1, if_neg e]
theorem befS_two {x y : T2} (h1 : x.1.length = y.1.length) (h2 : x.2.length = y.2.length) : befS (prS x) (prS y) = decide (cmpS x y < 0) := by
  show befT (befT false x.2 y.2) x.1 y.1 = _
  rw [befT_cmp _ _ _ h1, befT_cmp _ _ _ h2]
  unfold cmpS orI
  show _ = decide ((if cmpT x.1 y.1 = 0 then cmpT x.2 y.2 else cmpT x.1 y.1) < 0)
  by_cases e : cmpT x.1 y.1 = 0
  · rw [if_pos e]
    by_cases e2 : cmpT x.2 y.2 = 0
    · rw [if_pos e2]
      symm; apply decide_eq_false; rw [if_pos e, e2]; omega
    · rw [if_neg e2]; exact decide_eq_decide.2 (by rw [if_pos e])
  · rw [if_neg e]; exact decide_eq_decide.2 (by rw [if_neg e])
theorem les_keep {n : Nat} {s : T2} : ∀ (ps : List (List Int)), (∀ p ∈ ps, ¬ cmpS (rnS n s p) s < 0) → ps.foldl (lesF n s) s = s := by
  intro ps
  induction ps with
  | nil => intro _; rfl
  | cons p ps ih =>
    intro h
    simp only [List.foldl_cons]
    have : lesF n s s p = s := by rw [lesF_cmp, if_neg (h p (by simp))]
    rw [this]
    exact ih fun q hq => h q (by simp [hq])
theorem les_less {n : Nat} {s : T2} : ∀ (ps : List (List Int)) (b : T2), (cmpS b s < 0 ∨ ∃ p ∈ ps, cmpS (rnS n s p) s < 0) → cmpS (ps.foldl (lesF n s) b) s < 0 := by
  intro ps
  induction ps with
  | nil => intro b h; rcases h with h | ⟨p, hp, _⟩
           · exact h
           · simp at hp
  | cons p ps ih =>
    intro b h
    simp only [List.foldl_cons]
    apply ih
    rw [lesF_cmp]
    split
    · rename_i hlt
      rcases h with h | ⟨q, hq, hl⟩
      · exact .inl (cmpS_cmp.trans _ _ _ hlt h)
      · rcases List.mem_cons.1 hq with e | e
        · subst e; exact .inl hl
        · exact .inr ⟨q, e, hl⟩
    · rename_i hge
      rcases h with h | ⟨q, hq, hl⟩
      · exact .inl h
      · rcases List.mem_cons.1 hq with e | e
        · subst e; exact .inl (cmpS_cmp.le_lt hge hl)
        · exact .inr ⟨q, e, hl⟩
theorem ownB_onl {n : Nat} {s : T2} (h1 : s.1.length = n) (h2 : s.2.length = n) : ownB n s = onlL n (prmL n) (prS s) := by
  have hb : ∀ p, befS (imgL n p (prS s)) (prS s) = decide (cmpS (rnS n s p) s < 0) := fun p => by
    have : imgL n p (prS s) = prS (rnS n s p) := rfl
    rw [this]
    exact befS_two (by show (rnL n s.1 p).length = _; rw [rnL_len, h1]) (by show (rnL n s.2 p).length = _; rw [rnL_len, h2])
  unfold ownB onlL
  rw [Bool.eq_iff_iff, decide_eq_true_iff, List.all_eq_true, cmpS_cmp.eq]
  constructor
  · intro e i hi
    unfold onlP
    rw [hb]
    have hi := List.mem_range.1 hi
    by_cases hc : cmpS (rnS n s ((prmL n).getD i [])) s < 0
    · exfalso
      have hm : (prmL n).getD i [] ∈ prmL n := by
        rw [List.getD_eq_getElem?_getD, List.getElem?_eq_getElem hi]; exact List.getElem_mem hi
      have := les_less (n := n) (s := s) (prmL n) s (.inr ⟨_, hm, hc⟩)
      unfold lesL at e
      rw [← e] at this
      have h0 := cmpS_cmp.refl s
      omega
    · rw [decide_eq_false hc]; rfl
  · intro h
    symm
    refine les_keep _ fun p hp hc => ?_
    obtain ⟨i, hi, e⟩ := List.getElem_of_mem hp
    have := h i (List.mem_range.2 hi)
    unfold onlP at this
    rw [hb, List.getD_eq_getElem?_getD, List.getElem?_eq_getElem hi, Option.getD_some, e] at this
    simp [hc] at this
def insS (s : T2) (L : List T2) : List T2 := L.takeWhile (fun t => decide (cmpS t s < 0)) ++ s :: L.dropWhile (fun t => decide (cmpS t s < 0))
theorem insS_perm (s : T2) (L : List T2) : (insS s L).Perm (s :: L) := by
  have := List.takeWhile_append_dropWhile (p := fun t => decide (cmpS t s < 0)) (l := L)
  unfold insS
  refine List.perm_middle.trans ?_
  rw [this]
theorem insS_sorted {s : T2} : ∀ {L : List T2}, L.Pairwise (fun x y => ¬ cmpS y x < 0) → (insS s L).Pairwise fun x y => ¬ cmpS y x < 0 := by
  intro L
  induction L with
  | nil => intro _; simp [insS]
  | cons t L ih =>
    intro h
    rw [List.pairwise_cons] at h
    by_cases e : cmpS t s < 0
    · have : insS s (t :: L) = t :: insS s L := by simp [insS, e]
      rw [this, List.pairwise_cons]
      refine ⟨fun y hy => ?_, ih h.2⟩
      rcases List.mem_cons.1 ((insS_perm s L).mem_iff.1 hy) with r | r
      · subst r; have := cmpS_cmp.anti y t; omega
      · exact h.1 y r
    · have : insS s (t :: L) = s :: t :: L := by simp [insS, e]
      rw [this, List.pairwise_cons]
      refine ⟨fun y hy => ?_, List.pairwise_cons.2 h⟩
      rcases List.mem_cons.1 hy with r | r
      · subst r; exact e
      · intro hlt
        exact h.1 y r (by
          have h2 : ¬ cmpS t s < 0 := e
          by_cases hq : cmpS s t < 0
          · exact cmpS_cmp.trans _ _ _ hlt hq
          · have : cmpS s t = 0 := by have := cmpS_cmp.anti s t; omega
            obtain rfl := (cmpS_cmp.eq s t).1 this
            exact hlt)
theorem insQ_insS {n : Nat} {s : T2} (hs : s.1.length = n ∧ s.2.length = n) : ∀ {L : List T2}, (∀ t ∈ L, t.1.length = n ∧ t.2.length = n) → insQ (prS s) (L.map prS) = (insS s L).map prS := by
  intro L
  induction L with
  | nil => intro _; rfl
  | cons t L ih =>
    intro h
    have ht := h t (by simp)
    have hb := befS_two (x := t) (y := s) (by rw [ht.1, hs.1]) (by rw [ht.2, hs.2])
    have ihl := ih fun u hu => h u (by simp [hu])
    by_cases e : cmpS t s < 0
    · have e1 : insS s (t :: L) = t :: insS s L := by simp [insS, e]
      have e2 : insQ (prS s) ((t :: L).map prS) = prS t :: insQ (prS s) (L.map prS) := by
        have : befS (prS t) (prS s) = true := by rw [hb]; simpa using e
        simp [insQ, this]
      rw [e1, e2, ihl]; rfl
    · have e1 : insS s (t :: L) = s :: t :: L := by simp [insS, e]
      have e2 : insQ (prS s) ((t :: L).map prS) = prS s :: prS t :: L.map prS := by
        have : befS (prS t) (prS s) = false := by rw [hb]; simpa using e
        simp [insQ, this]
      rw [e1, e2]; rfl
theorem slr_inv {n : Nat} : ∀ (L : List T2) (acc : List T2), (∀ s ∈ L, s.1.length = n ∧ s.2.length = n) → (∀ s ∈ acc, s.1.length = n ∧ s.2.length = n) → acc.Pairwise (fun x y => ¬ cmpS y x < 0) →
    ∃ out : List T2, L.foldl (slrF n) (acc.map prS) = out.map prS ∧ out.Perm (acc ++ L.filter (ownB n)) ∧ out.Pairwise fun x y => ¬ cmpS y x < 0 := by
  intro L
  induction L with
  | nil => intro acc _ _ hp; exact ⟨acc, rfl, by simp, hp⟩
  | cons s L ih =>
    intro acc hl ha hp
    have hs := hl s (by simp)
    have ho := ownB_onl hs.1 hs.2
    cases hc : ownB n s with
    | true =>
      have e : slrF n (acc.map prS) s = (insS s acc).map prS := by
        unfold slrF; rw [← ho, hc, if_pos rfl, insQ_insS hs ha]
      obtain ⟨out, h1, h2, h3⟩ := ih (insS s acc) (fun t ht => hl t (by simp [ht])) (fun t ht => by
        rcases List.mem_cons.1 ((insS_perm s acc).mem_iff.1 ht) with r | r
        · rw [r]; exact hs
        · exact ha t r) (insS_sorted hp)
      refine ⟨out, by simp only [List.foldl_cons]; rw [e, h1], h2.trans ?_, h3⟩
      rw [List.filter_cons, hc]
      simp only [if_true]
      refine ((insS_perm s acc).append_right _).trans ?_
      exact List.perm_middle.symm
    | false =>
      have e : slrF n (acc.map prS) s = acc.map prS := by
        unfold slrF; rw [← ho, hc]; rfl
      obtain ⟨out, h1, h2, h3⟩ := ih acc (fun t ht => hl t (by simp [ht])) ha hp
      refine ⟨out, by simp only [List.foldl_cons]; rw [e, h1], ?_, h3⟩
      rw [List.filter_cons, hc]; exact h2
theorem sorted_eq : ∀ {A B : List T2}, A.Perm B → A.Pairwise (fun x y => ¬ cmpS y x < 0) → B.Pairwise (fun x y => ¬ cmpS y x < 0) → A = B := by
  intro A
  induction A with
  | nil => intro B h _ _; exact (List.nil_perm.1 h).symm
  | cons a A ih =>
    intro B h ha hb
    cases B with
    | nil => exact absurd h.length_eq (by simp)
    | cons b B =>
      have e : a = b := by
        rw [List.pairwise_cons] at ha hb
        rcases List.mem_cons.1 (h.mem_iff.1 (List.mem_cons_self (a := a))) with r | r
        · exact r
        · rcases List.mem_cons.1 (h.mem_iff.2 (List.mem_cons_self (a := b))) with r2 | r2
          · exact r2.symm
          · have h1 := hb.1 a r
            have h2 := ha.1 b r2
            have h3 := cmpS_cmp.anti a b
            exact (cmpS_cmp.eq a b).1 (by omega)
      subst e
      rw [ih ((List.perm_cons a).1 h) (List.pairwise_cons.1 ha).2 (List.pairwise_cons.1 hb).2]
def slrL (n : Nat) : List T2 := ((solL n).foldl (slrF n) []).map fun A => (A.getD 0 [], A.getD 1 [])
theorem slrL_map {n : Nat} (hl : ∀ s ∈ solL n, s.1.length = n ∧ s.2.length = n) : (solL n).foldl (slrF n) [] = (slrL n).map prS ∧ (slrL n).Perm (lstSo n) ∧ (slrL n).Pairwise fun x y => ¬ cmpS y x < 0 := by
  obtain ⟨out, h1, h2, h3⟩ := slr_inv (n := n) (solL n) [] hl (by simp) (by simp)
  simp only [List.map_nil, List.nil_append] at h1 h2
  have e : slrL n = out := by
    unfold slrL
    rw [h1, List.map_map]
    exact List.map_id _
  rw [e]
  exact ⟨h1, h2, h3⟩
theorem slrL_eq {n : Nat} (hl : ∀ s ∈ solL n, s.1.length = n ∧ s.2.length = n) {ts : List T2} (hp : ts.Perm (lstSo n)) (hs : ts.Pairwise fun x y => ¬ cmpS y x < 0) : ts = slrL n :=
  sorted_eq (hp.trans (slrL_map hl).2.1.symm) hs (slrL_map hl).2.2
theorem solL_lens {n : Nat} (h1 : 1 ≤ n) (h3 : n ≤ 3) : ∀ s ∈ solL n, s.1.length = n ∧ s.2.length = n := fun s hs => ⟨(solL_sq h1 h3 s hs).1.1, (solL_sq h1 h3 s hs).2.1⟩
end Go.Proofs.YtaddclaadbjnlaaGreat
