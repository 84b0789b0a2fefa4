/-
  Walks and plain laws of this seat, some texts in one.
  No condition but bounds on lengths.
-/
import Derived.RangeFuncNested
import Derived.RangeFuncBound
import Derived.RangeFuncCalls
import Derived.RangeFuncLeaves
import Derived.OwnWalkIn
import Derived.TacticsInMore
import Derived.LoopNIn
import Derived.LoopIn
import Derived.Test.YtaddclaadbjnlaaGreatPs25
import Derived.Test.YtaddclaadbjnlaaGreatPs26
namespace Go.Proofs.YtaddclaadbjnlaaGreat
set_option maxRecDepth 100000
set_option linter.unusedVariables false
set_option linter.unusedSimpArgs false
open Go.RowKit
attribute [local go_sem] Oper.semAt_some
def JOk (J : (Nat → Prop) → List (List Int) → World → Prop) : Prop :=
  ∀ S S' ys A B, J S ys A → Marked S A B → (∀ g, S' g → S g ∨ A.heap.size ≤ g) → J S' ys B
def YOk (S0 : Nat → Prop) (w0 : World) (bi n : Nat) (ts us : List (List (List Int))) (l : Nat) (J Js : (Nat → Prop) → List (List Int) → World → Prop) : Prop :=
  ∀ (n' : Nat) (S : Nat → Prop) (ys : List (List Int)) (A : World) (im : List Int), J S ys A → Own A w0.heap.size (some ⟨bi, 0, none⟩) n n im → S bi → (IsoL n ts us im ∧ im ∉ ys) → Marked S0 w0 A → (∀ g, S g → w0.heap.size ≤ g ∧ g < A.heap.size) →
    YieldAt Fence.wide n' Tryz.prog l #[.slice (some ⟨bi, 0, none⟩) n n] A fun e B => ((e = .returned (.bool true) ∧ J S (ys ++ [im]) B) ∨ (e = .returned (.bool false) ∧ Js S (ys ++ [im]) B)) ∧ Marked (fun g => S0 g ∨ (w0.heap.size ≤ g ∧ ¬ S g)) A B
def ExmP (S0 : Nat → Prop) (w0 : World) (mb bi bu gf gt K kf kt n : Nat) (ts us : List (List (List Int))) (J Js : (Nat → Prop) → List (List Int) → World → Prop) (ys : List (List Int)) (sa : Option Addr) (ns : Nat) (im : List Int) (ud : List Bool) (st : List Int) (w : World) (e : Ending) (w' : World) : Prop :=
  ∃ (r : Bool) (as' : Option Addr) (cs' : Nat), e = .returned (.bool r) ∧ MapM S0 w0 mb bi bu gf gt K kf kt n w' as' ns cs' im ud st ∧ (as' = sa ∨ ∀ g, as' = some ⟨g, 0, none⟩ → w.heap.size ≤ g) ∧ w.heap.size ≤ w'.heap.size ∧
    (r = true → ∃ Y, YS n ts us im Y ∧ J (MapS mb bi bu as') (ys ++ Y) w') ∧ (r = false → ∃ Z, Js (MapS mb bi bu as') Z w')
section
variable {S0 : Nat → Prop} {w0 w : World} {mb bi bu gf gt K kf kt n : Nat} {ts us : List (List (List Int))} {sa : Option Addr} {ns cs : Nat} {im : List Int} {ud : List Bool} {st : List Int}
theorem MapM.own_ (h : MapM S0 w0 mb bi bu gf gt K kf kt n w sa ns cs im ud st) : ∀ g, MapS mb bi bu sa g → w0.heap.size ≤ g ∧ g < w.heap.size := fun g hg => by
  rcases hg with rfl | rfl | rfl | e
  · exact ⟨h.lo, h.box.lt⟩
  · exact ⟨h.im.lo _ rfl, h.im.hi _ rfl⟩
  · exact ⟨h.ud.lo _ rfl, h.ud.hi _ rfl⟩
  · exact ⟨h.st.lo _ e, h.st.hi _ e⟩
theorem MapM.yield {w' : World} (h : MapM S0 w0 mb bi bu gf gt K kf kt n w sa ns cs im ud st) (hk : Marked (fun g => S0 g ∨ (w0.heap.size ≤ g ∧ ¬ MapS mb bi bu sa g)) w w') (h0 : ∀ g, S0 g → g < w0.heap.size) : MapM S0 w0 mb bi bu gf gt K kf kt n w' sa ns cs im ud st := by
  have keep : ∀ g, MapS mb bi bu sa g → w'.heap[g]? = w.heap[g]? := fun g hg => hk.block g (h.own_ g hg).2 fun q => by
    rcases q with q | q
    · have := h0 g q; have := (h.own_ g hg).1; omega
    · exact q.2 hg
  exact ⟨(keep mb (.inl rfl)).trans h.box, h.im.keep fun g e _ => by cases e; exact keep _ (.inr (.inl rfl)), h.ud.keep fun g e _ => by cases e; exact keep _ (.inr (.inr (.inl rfl))), h.st.keep fun g e _ => keep _ (.inr (.inr (.inr e))), h.lo, h.d1, h.d2, h.d3, h.d4,
    h.bel.then hk fun g q => q.imp id fun q => q.1⟩
theorem mapS_new {w : World} {as' : Option Addr} (ha : as' = sa ∨ ∀ g, as' = some ⟨g, 0, none⟩ → w.heap.size ≤ g) : ∀ g, MapS mb bi bu as' g → MapS mb bi bu sa g ∨ w.heap.size ≤ g := fun g hg => by
  rcases hg with e | e | e | e
  · exact .inl (.inl e)
  · exact .inl (.inr (.inl e))
  · exact .inl (.inr (.inr (.inl e)))
  · rcases ha with rfl | ha
    · exact .inl (.inr (.inr (.inr e)))
    · exact .inr (ha g e)
theorem mapS_same : ∀ g, MapS mb bi bu sa g → MapS mb bi bu sa g ∨ w.heap.size ≤ g := fun g hg => .inl hg
set_option maxHeartbeats 16000000 in
theorem extendM_leaf (l : Nat) (J Js : (Nat → Prop) → List (List Int) → World → Prop) (ys : List (List Int)) (w : World) (hn1 : 1 ≤ n) (hn : n ≤ 12) (hTS : ∀ k, k < ts.length → Sq n (ts.getD k [])) (h0 : ∀ g, S0 g → g < w0.heap.size)
    (hY : YOk S0 w0 bi n ts us l J Js) (hM : MapM S0 w0 mb bi bu gf gt K kf kt n w sa ns cs im ud st) (hS : MapSt n im ud st) (hC : ClS n ts us im) (hf : n ≤ st.length) (hJ : J (MapS mb bi bu sa) ys w) (hNE : ∀ l ∈ ys, ¬ ExL n im l) :
    Calls Tryz.prog 95 #[.pointer (some ⟨mb, 0, none⟩), .func (.yield l) #[] #[]] w (ExmP S0 w0 mb bi bu gf gt K kf kt n ts us J Js ys sa ns im ud st w) := by
  obtain ⟨hI, hYS⟩ := ys_leaf hS hC (fun a ha => hS.full hf ha) hTS
  have HNO : Hid (∀ i, i < n → im.getD i 0 ≠ -1) := Lib.hid fun a ha => hS.full hf ha
  have HYS := Lib.hid hYS
  have HS := Lib.hid hS
  have lb := hM.box.five
  obtain ⟨fn, tmps, assign, body, hy, hR⟩ := hY 3 (MapS mb bi bu sa) ys w im hJ hM.im (.inr (.inl rfl)) ⟨hI, fun hm => hNE _ hm (fun a v _ q => q)⟩ hM.bel hM.own_
  have HR := Lib.hid hR
  have HM := Lib.hid hM
  clear hYS hI hY hJ hS hC hR
  have hdd : ∀ k : Nat, (Fence.wide.depth.isSome = true → 1 ≤ k) := fun k h => by cases h
  go_enter Tryz.func95, Tryz.ntmps95
  go_wp2_with fail
  refine (indexN_no _ n n im (-1) w HM.out.im.row (by omega) HNO.out).mono ?_
  rintro e w1 ⟨rfl, rfl⟩
  go_upto_region 3 with fail
  refine (wpIn_wide (n := 4)).1 ?_
  gi_wp2
  refine HR.out.mono ?_
  rintro e w2 ⟨he, hk2⟩
  have hM2 := HM.out.yield hk2 h0
  have hz2 := hk2.size
  rcases he with ⟨rfl, hJ2⟩ | ⟨rfl, hJ2⟩
  · dsimp only
    gi_wp2
    try go_wp2
    go_ret
    exact ⟨true, sa, cs, rfl, hM2, .inl rfl, hz2, fun _ => ⟨[im], HYS.out, hJ2⟩, fun e => by cases e⟩
  · dsimp only
    gi_wp2
    try go_wp2
    go_ret
    exact ⟨false, sa, cs, rfl, hM2, .inl rfl, hz2, (fun e => by cases e), fun _ => ⟨_, hJ2⟩⟩
theorem nodup_sub_len : ∀ (r c : List Nat), r.Nodup → (∀ x ∈ r, x ∈ c) → r.length ≤ c.length := by
  intro r
  induction r with
  | nil => intro c _ _; simp
  | cons a r ih =>
    intro c h1 h2
    rw [List.nodup_cons] at h1
    have ha : a ∈ c := h2 a (by simp)
    have := ih (c.erase a) h1.2 (fun x hx => by
      have hne : x ≠ a := by rintro rfl; exact h1.1 hx
      exact (List.mem_erase_of_ne hne).2 (h2 x (by simp [hx])))
    rw [List.length_erase_of_mem ha] at this
    have := List.length_pos_of_mem ha
    simp; omega
theorem first_un (hS : MapSt n im ud st) (hf : ¬ n ≤ st.length) : ∃ q, q < n ∧ im.getD q 0 = -1 ∧ ∀ i, i < q → im.getD i 0 ≠ -1 := by
  have hex : ∃ q, q < n ∧ im.getD q 0 = -1 := Classical.byContradiction fun hno => by
    have hall : ∀ a, a < n → ((a : Nat) : Int) ∈ st := fun a ha => by
      rcases hS.val a ha with q | ⟨v, _, q⟩
      · exact absurd ⟨a, ha, q⟩ hno
      · exact (hS.dom a ha).2 ⟨v, q⟩
    have hsub : (List.range n).map (fun a => ((a : Nat) : Int)) ⊆ st := fun x hx => by
      obtain ⟨a, ha, rfl⟩ := List.mem_map.1 hx
      exact hall a (List.mem_range.1 ha)
    have hnd : ((List.range n).map (fun a => ((a : Nat) : Int))).Nodup := by
      rw [List.nodup_iff_pairwise_ne, List.pairwise_map]
      exact (List.nodup_iff_pairwise_ne.1 List.nodup_range).imp fun h => by omega
    obtain ⟨c, e, c1, c2⟩ := hS.natL
    have h3 : (List.range n) ⊆ c := fun a ha => by
      have h1 := hall a (List.mem_range.1 ha)
      rw [e] at h1
      obtain ⟨b, hb, e2⟩ := List.mem_map.1 h1
      have : b = a := by have e3 : ((b : Nat) : Int) = ((a : Nat) : Int) := e2; omega
      rw [← this]; exact hb
    have h4 := nodup_sub_len _ _ List.nodup_range (fun x hx => h3 hx)
    rw [List.length_range] at h4
    rw [e, List.length_map] at hf
    omega
  obtain ⟨q, hq⟩ := hex
  induction q using Nat.strongRecOn with
  | _ q ih =>
    by_cases h : ∃ i, i < q ∧ im.getD i 0 = -1
    · obtain ⟨i, hi, e⟩ := h
      exact ih i hi ⟨by omega, e⟩
    · exact ⟨q, hq.1, hq.2, fun i hi e => h ⟨i, hi, e⟩⟩
set_option maxHeartbeats 64000000 in
theorem extendM_any (BB OO CC DB DO DC : Nat → Nat) (AA AO AC EA EO EC : Nat → Nat → Nat) (hT : TB S0 w0 gf K n BB OO CC AA AO AC ts) (hU : TB S0 w0 gt K n DB DO DC EA EO EC us) (hn1 : 1 ≤ n) (hn : n ≤ 12) (hK : K ≤ 2) (h0 : ∀ g, S0 g → g < w0.heap.size)
    (l : Nat) (J Js : (Nat → Prop) → List (List Int) → World → Prop) (hY : YOk S0 w0 bi n ts us l J Js) (hJo : JOk J) (hJs : JOk Js) :
    ∀ (m : Nat) (ys : List (List Int)) (w : World) (sa : Option Addr) (ns cs : Nat) (im : List Int) (ud : List Bool) (st : List Int), n ≤ st.length + m → MapM S0 w0 mb bi bu gf gt K kf kt n w sa ns cs im ud st → MapSt n im ud st → ClS n ts us im → J (MapS mb bi bu sa) ys w → (∀ l ∈ ys, ¬ ExL n im l) →
      Calls Tryz.prog 95 #[.pointer (some ⟨mb, 0, none⟩), .func (.yield l) #[] #[]] w (ExmP S0 w0 mb bi bu gf gt K kf kt n ts us J Js ys sa ns im ud st w) := by
  have hTS : ∀ k, k < ts.length → Sq n (ts.getD k []) := fun k hk => hT.sq k (by rw [← hT.len]; exact hk)
  have hUS : ∀ k, k < ts.length → Sq n (us.getD k []) := fun k hk => hU.sq k (by rw [← hT.len]; exact hk)
  have hOK := assF_ok (n := n) hTS hUS (fun S h => MapSt.le h) (fun S h hl x hx => MapSt.full h hl hx) n
  have HT := Lib.hid hT; have HU := Lib.hid hU; have HY := Lib.hid hY; have HJO := Lib.hid hJo; have HJS := Lib.hid hJs; have HTS := Lib.hid hTS; have HOK := Lib.hid hOK; have H0 := Lib.hid h0
  clear hT hU hY hJo hJs hTS hUS hOK h0
  intro m
  induction m with
  | zero =>
    intro ys w sa ns cs im ud st hl hM hS hC hJ hNE
    exact extendM_leaf l J Js ys w hn1 hn HTS.out H0.out HY.out hM hS hC (by omega) hJ hNE
  | succ m ih =>
    intro ys w sa ns cs im ud st hl hM hS hC hJ hNE
    by_cases hf : n ≤ st.length
    · exact extendM_leaf l J Js ys w hn1 hn HTS.out H0.out HY.out hM hS hC hf hJ hNE
    obtain ⟨q, hq, hq1, hqn⟩ := first_un hS hf
    have HQ1 := Lib.hid hq1; have HQN := Lib.hid hqn; have HS := Lib.hid hS; have HC := Lib.hid hC; have HL := Lib.hid hl; have IH := Lib.hid ih; have HNE := Lib.hid hNE
    have HNS : Hid (ns = st.length) := Lib.hid hM.st.len
    have HV0 := Lib.hid (yv_zero (ts := ts) (us := us) (im := im) q hq)
    have lb := hM.box.five
    have hns12 : ns ≤ 12 := by have h1 := hM.st.len; have h2 := hS.le; omega
    have hqb : ¬ (q : Int) < 0 := by omega
    clear hf hq1 hqn hS hC hl ih hNE
    go_enter Tryz.func95, Tryz.ntmps95
    go_wp2_with fail
    refine (indexN_any _ n n q im (-1) w hM.im.row (by omega) hq HQ1.out HQN.out).mono ?_
    rintro e w1 ⟨rfl, rfl⟩
    go_wp2
    go_loopw [32] (fun s32 wr => ∃ (v : Nat) (as' : Option Addr) (cs' : Nat) (Y : List (List Int)), s32 = .int .i64 v ∧ v ≤ n ∧ Hid (YV n ts us im q v Y) ∧ MapM S0 w0 mb bi bu gf gt K kf kt n wr as' ns cs' im ud st ∧ J (MapS mb bi bu as') (ys ++ Y) wr ∧ w.heap.size ≤ wr.heap.size ∧ (as' = sa ∨ ∀ g, as' = some ⟨g, 0, none⟩ → w.heap.size ≤ g)) (fun s32 _ => n - (intOf s32).toNat)
    case atStart => exact ⟨0, sa, cs, [], rfl, Nat.zero_le _, HV0, hM, by rw [List.append_nil]; exact hJ, Nat.le_refl _, .inl rfl⟩
    case round =>
      clear hM hJ lb HV0
      obtain ⟨v, as1, cs1, Y, rfl, hv, HV, hM, hJ, hz, ha⟩ := hrel
      obtain ⟨W, hW⟩ : ∃ W : World, W = wr := ⟨_, rfl⟩
      rw [← hW] at hM hJ hz ⊢
      clear hW
      have lb := hM.box.five
      by_cases hlt : v < n
      · have i1 : (0 : Int) ≤ (v : Int) := by omega
        have i2 : (v : Int) < (n : Int) := by omega
        have cu := (hM.ud.cells).2.1 v hlt
        cases hu : ud.getD v false with
        | true =>
          have HV1 := Lib.hid (yv_used HS.out hq hlt HQ1.out hu HV.out)
          rw [hu] at cu
          clear hu
          go_wp2
          go_roundw
          case rel => exact ⟨v + 1, as1, cs1, Y, by go_num, by omega, HV1, hM, hJ, hz, ha⟩
          case measure => simp [intOf]; omega
        | false =>
          rw [hu] at cu
          clear hu
          obtain ⟨R, hR⟩ : ∃ R, assF n ts us n q v (im, ud, st) = R := ⟨_, rfl⟩
          have hA := HOK.out q v (im, ud, st) (by show n ≤ st.length + n; omega) hq hlt HS.out
          rw [hR] at hA
          obtain ⟨r, S1⟩ := R
          obtain ⟨im1, ud1, st1⟩ := S1
          have hA1 : AssR n ts us q v im st r im1 ud1 st1 := hA
          have hcal := assign_any BB OO CC DB DO DC AA AO AC EA EO EC HT.out HU.out hn1 hn hK n q v W as1 ns cs1 im ud st (by omega) hq hlt hM HS.out
          rw [hR] at hcal
          dsimp only at hcal
          have HCAL := Lib.hid hcal
          have HA := Lib.hid hA1
          obtain ⟨more, hmore⟩ := hA1.ex.1
          subst hmore
          clear hR hA hA1 hcal
          cases r with
          | false =>
            have HV1 := Lib.hid (yv_no hq HA.out HV.out)
            go_wp2_with fail
            refine HCAL.out.mono ?_
            rintro e w2 ⟨as2, ns2, cs2, rfl, hM2, hk2, ha2⟩
            have hJ2 := HJO.out _ _ _ _ _ hJ hk2 (mapS_new ha2)
            have hz2 := hk2.size
            have hU2 := undo_any w2 as2 ns2 cs2 im im1 ud ud1 st more hn hM2 HS.out HA.out.ms HA.out.ex.2
            rw [← HNS.out] at hU2
            have HU2 := Lib.hid hU2
            clear hU2 lb hM hJ cu
            go_wp2_with fail
            refine HU2.out.mono ?_
            rintro e w3 ⟨⟨v3, rfl⟩, hM3, hk3⟩
            have hJ3 := HJO.out _ _ _ _ _ hJ2 hk3 mapS_same
            have hz3 := hk3.size
            go_wp2
            go_roundw
            case rel => exact ⟨v + 1, as2, cs2, Y, by go_num, by omega, HV1, hM3, hJ3, by omega, asl_chain hz ha ha2⟩
            case measure => simp [intOf]; omega
          | true =>
            go_wp2_with fail
            refine HCAL.out.mono ?_
            rintro e w2 ⟨as2, ns2, cs2, rfl, hM2, hk2, ha2⟩
            have hJ2 := HJO.out _ _ _ _ _ hJ hk2 (mapS_new ha2)
            have hz2 := hk2.size
            have HL2 : Hid (n ≤ (st ++ more).length + m) := Lib.hid (by
              have h1 := HL.out
              have h2 : ((q : Nat) : Int) ∈ st ++ more := (HA.out.ms.dom q hq).2 ⟨v, HA.out.at_ rfl⟩
              have h3 : ((q : Nat) : Int) ∉ st := fun h => by
                obtain ⟨u, hu⟩ := (HS.out.dom q hq).1 h
                have := HQ1.out
                unfold Mp at hu; omega
              have h4 : 1 ≤ more.length := by
                rcases List.mem_append.1 h2 with h | h
                · exact absurd h h3
                · exact List.length_pos_of_mem h
              rw [List.length_append]; omega)
            have HC2 := Lib.hid (HC.out.ass HTS.out HA.out)
            have HNE2 : Hid (∀ l ∈ ys ++ Y, ¬ ExL n im1 l) := Lib.hid fun l hl he => by
              rcases List.mem_append.1 hl with hl | hl
              · exact HNE.out l hl fun a u ha hm => he a u ha (HA.out.ex.2 a u ha hm)
              · have h1 := ((HV.out.2 l).1 hl).2.2
                have h2 := he q v hq (HA.out.at_ rfl)
                unfold Mp at h2; omega
            have hE := IH.out (ys ++ Y) w2 as2 ns2 cs2 im1 ud1 (st ++ more) HL2.out hM2 HA.out.ms HC2.out hJ2 HNE2.out
            have HE := Lib.hid hE
            clear hE lb hM hJ hM2 hJ2 cu HNE2
            go_wp2_with fail
            refine HE.out.mono ?_
            rintro e w3 ⟨r3, as3, cs3, rfl, hM3, ha3, hz3, hT3, hF3⟩
            have hU2 := undo_any w3 as3 ns2 cs3 im im1 ud ud1 st more hn hM3 HS.out HA.out.ms HA.out.ex.2
            rw [← HNS.out] at hU2
            have HU2 := Lib.hid hU2
            clear hU2
            cases r3 with
            | false =>
              obtain ⟨Z, hJ3⟩ := hF3 rfl
              clear hT3 hF3
              go_wp2_with fail
              refine HU2.out.mono ?_
              rintro e w4 ⟨⟨v4, rfl⟩, hM4, hk4⟩
              have hJ4 := HJS.out _ _ _ _ _ hJ3 hk4 mapS_same
              have hz4 := hk4.size
              go_wp2
              go_ret
              exact ⟨false, as3, cs3, rfl, hM4, asl_chain (by omega) (asl_chain hz ha ha2) ha3, by omega, (fun e => by cases e), fun _ => ⟨Z, hJ4⟩⟩
            | true =>
              obtain ⟨Y3, hY3, hJ3⟩ := hT3 rfl
              have HV1 := Lib.hid (yv_yes hq HA.out HV.out hY3)
              rw [List.append_assoc] at hJ3
              clear hT3 hF3 hY3
              go_wp2_with fail
              refine HU2.out.mono ?_
              rintro e w4 ⟨⟨v4, rfl⟩, hM4, hk4⟩
              have hJ4 := HJO.out _ _ _ _ _ hJ3 hk4 mapS_same
              have hz4 := hk4.size
              go_wp2
              go_roundw
              case rel => exact ⟨v + 1, as3, cs3, Y ++ Y3, by go_num, by omega, HV1, hM4, hJ4, by omega, asl_chain (by omega) (asl_chain hz ha ha2) ha3⟩
              case measure => simp [intOf]; omega
      · obtain rfl : v = n := by omega
        have HYS := Lib.hid (yv_done hq HV.out)
        go_wp2
        go_ret
        exact ⟨true, as1, cs1, rfl, hM, ha, hz, fun _ => ⟨Y, HYS.out, hJ⟩, fun e => by cases e⟩
end
end Go.Proofs.YtaddclaadbjnlaaGreat
