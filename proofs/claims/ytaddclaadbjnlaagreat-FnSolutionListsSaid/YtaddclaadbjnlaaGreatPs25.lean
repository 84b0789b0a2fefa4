/-
  Walks and plain laws of this seat, some texts in one.
  No condition but bounds on lengths.
-/
import Derived.Test.YtaddclaadbjnlaaGreatPs24
namespace Go.Proofs.YtaddclaadbjnlaaGreat
set_option maxRecDepth 100000
set_option linter.unusedVariables false
set_option linter.unusedSimpArgs false
open Go.RowKit
def AssP (S0 : Nat → Prop) (w0 : World) (mb bi bu gf gt K kf kt n : Nat) (r : Bool) (S : MS) (sa : Option Addr) (w : World) (e : Ending) (w' : World) : Prop :=
  ∃ (as' : Option Addr) (ns' cs' : Nat), e = .returned (.bool r) ∧ MapM S0 w0 mb bi bu gf gt K kf kt n w' as' ns' cs' S.1 S.2.1 S.2.2 ∧ Marked (MapS mb bi bu sa) w w' ∧ (as' = sa ∨ ∀ g, as' = some ⟨g, 0, none⟩ → w.heap.size ≤ g)
section
variable {S0 : Nat → Prop} {w0 : World} {mb bi bu gf gt K kf kt n : Nat} {ts us : List (List (List Int))}
set_option maxHeartbeats 2000000 in
theorem assign_early (x v u : Nat) (w : World) (sa : Option Addr) (ns cs : Nat) (im : List Int) (ud : List Bool) (st : List Int) (hx : x < n) (hv : v < n) (hn : n ≤ 12) (hM : MapM S0 w0 mb bi bu gf gt K kf kt n w sa ns cs im ud st) (hu : im.getD x 0 = (u : Int)) :
    Calls Tryz.prog 130 #[.pointer (some ⟨mb, 0, none⟩), .int .i64 x, .int .i64 v] w (AssP S0 w0 mb bi bu gf gt K kf kt n (decide (im.getD x 0 = (v : Int))) (im, ud, st) sa w) := by
  have lb := hM.box.five
  have c1 := (hM.im.cells).2.1 x hx
  rw [hu] at c1
  rw [hu]
  have i1 : (0 : Int) ≤ (x : Int) := by omega
  have i2 : (x : Int) < (n : Int) := by omega
  by_cases e : u = v
  · subst e
    have hb : ((u : Int) == (u : Int)) = true := by simp
    have HD : Hid (decide ((u : Int) = (u : Int)) = true) := Lib.hid (by simp)
    clear hu
    go_enter Tryz.func130, Tryz.ntmps130
    go_wp2
    go_ret
    exact ⟨sa, ns, cs, ret_bool HD.out.symm, hM, Marked.refl _ _, .inl rfl⟩
  · have hb : ((u : Int) == (v : Int)) = false := by simp; omega
    have HD : Hid (decide ((u : Int) = (v : Int)) = false) := Lib.hid (by simp; omega)
    clear hu e
    go_enter Tryz.func130, Tryz.ntmps130
    go_wp2
    go_ret
    exact ⟨sa, ns, cs, ret_bool HD.out.symm, hM, Marked.refl _ _, .inl rfl⟩
set_option maxHeartbeats 2000000 in
theorem assign_taken (x v : Nat) (w : World) (sa : Option Addr) (ns cs : Nat) (im : List Int) (ud : List Bool) (st : List Int) (hx : x < n) (hv : v < n) (hn : n ≤ 12) (hM : MapM S0 w0 mb bi bu gf gt K kf kt n w sa ns cs im ud st) (h1 : im.getD x 0 = -1) (h2 : ud.getD v false = true) :
    Calls Tryz.prog 130 #[.pointer (some ⟨mb, 0, none⟩), .int .i64 x, .int .i64 v] w (AssP S0 w0 mb bi bu gf gt K kf kt n false (im, ud, st) sa w) := by
  have lb := hM.box.five
  have c1 := (hM.im.cells).2.1 x hx
  have c2 := (hM.ud.cells).2.1 v hv
  rw [h1] at c1
  rw [h2] at c2
  have i1 : (0 : Int) ≤ (x : Int) := by omega
  have i2 : (x : Int) < (n : Int) := by omega
  have i3 : (0 : Int) ≤ (v : Int) := by omega
  have i4 : (v : Int) < (n : Int) := by omega
  clear h1 h2
  go_enter Tryz.func130, Tryz.ntmps130
  go_wp2
  go_ret
  exact ⟨sa, ns, cs, rfl, hM, Marked.refl _ _, .inl rfl⟩
theorem MapM.grow {w w8 : World} {sa : Option Addr} {ns cs : Nat} {im : List Int} {ud : List Bool} {st : List Int} {g cc : Nat} {y : Int} (h : MapM S0 w0 mb bi bu gf gt K kf kt n w sa ns cs im ud st)
    (ho : Own w8 w0.heap.size (some ⟨g, 0, none⟩) (ns + 1) cc (st ++ [y])) (hg : w.grownBy w8 (Value.slice sa ns cs).ownBlock) (hat : (Value.slice sa ns cs).ownBlock = some g ∨ w.heap.size ≤ g) :
    Loc w8 mb #[.slice (some ⟨gf, 0, none⟩) K kf, .slice (some ⟨gt, 0, none⟩) K kt, .slice (some ⟨bi, 0, none⟩) n n, .slice (some ⟨bu, 0, none⟩) n n, .slice sa ns cs] 106 ∧
    MapM S0 w0 mb bi bu gf gt K kf kt n (w8.setCell ⟨mb, 4, none⟩ (.slice (some ⟨g, 0, none⟩) (ns + 1) cc)) (some ⟨g, 0, none⟩) (ns + 1) cc im ud (st ++ [y]) ∧
    Marked (MapS mb bi bu sa) w (w8.setCell ⟨mb, 4, none⟩ (.slice (some ⟨g, 0, none⟩) (ns + 1) cc)) ∧ (some (⟨g, 0, none⟩ : Addr) = sa ∨ ∀ q, some (⟨g, 0, none⟩ : Addr) = some ⟨q, 0, none⟩ → w.heap.size ≤ q) := by
  have hob : ∀ q, some q = (Value.slice sa ns cs).ownBlock → sa = some ⟨q, 0, none⟩ := fun q e => by
    rcases h.st.block with ⟨rfl, rfl, rfl⟩ | ⟨g', cur, rfl, _⟩
    · simp [Value.ownBlock] at e
    · simp [Value.ownBlock] at e; rw [e]
  have hat' : sa = some ⟨g, 0, none⟩ ∨ w.heap.size ≤ g := hat.imp (fun e => hob g e.symm) id
  have hbx : Loc w8 mb #[.slice (some ⟨gf, 0, none⟩) K kf, .slice (some ⟨gt, 0, none⟩) K kt, .slice (some ⟨bi, 0, none⟩) n n, .slice (some ⟨bu, 0, none⟩) n n, .slice sa ns cs] 106 := h.box.grown hg (fun e => (h.d3 mb (hob mb e)).1 rfl)
  have him := h.im.grown hg (fun q e e2 => by cases e; exact (h.d3 bi (hob bi e2)).2.1 rfl)
  have hud := h.ud.grown hg (fun q e e2 => by cases e; exact (h.d3 bu (hob bu e2)).2.2 rfl)
  have hbl := h.box.lt
  have hil := h.im.hi bi rfl
  have hul := h.ud.hi bu rfl
  have hgn : g ≠ mb ∧ g ≠ bi ∧ g ≠ bu := by
    rcases hat' with e | e
    · exact h.d3 g e
    · exact ⟨by omega, by omega, by omega⟩
  have hB8 : Marked S0 w0 w8 := mk_grown h.bel hg (fun q e => h.st.lo q (hob q e.symm))
  refine ⟨hbx, ⟨hbx.set 4 _, him.setne (fun q e => by cases e; exact h.d1) _, hud.setne (fun q e => by cases e; exact h.d2) _, ho.setne (fun q e => by cases e; exact hgn.1) _, h.lo, h.d1, h.d2, fun q e => by cases e; exact hgn, h.d4, mk_setn hB8 h.lo _⟩, ⟨hg.os, hg.tape, hg.output, by rw [size_set]; exact hg.size, fun k hk hs => ?_⟩, ?_⟩
  · exact (Below.heap_setCell _ _ _ _ (fun e => hs (.inl e))).trans (hg.block k hk (fun e => hs (.inr (.inr (.inr (hob k e))))))
  · rcases hat' with e | e
    · exact .inl e.symm
    · exact .inr fun q e2 => by cases e2; exact e
theorem mapS_chain {w w' w'' : World} {sa sa' : Option Addr} (h : Marked (MapS mb bi bu sa) w w') (ha : sa' = sa ∨ ∀ g, sa' = some ⟨g, 0, none⟩ → w.heap.size ≤ g) (k : Marked (MapS mb bi bu sa') w' w'') : Marked (MapS mb bi bu sa) w w'' :=
  h.then k fun g hg => by
    rcases hg with e | e | e | e
    · exact .inl (.inl e)
    · exact .inl (.inr (.inl e))
    · exact .inl (.inr (.inr (.inl e)))
    · rcases ha with rfl | ha
      · exact .inl (.inr (.inr (.inr e)))
      · exact .inr (ha g e)
theorem asl_chain {w w' : World} {sa sa' sa'' : Option Addr} (hs : w.heap.size ≤ w'.heap.size) (ha : sa' = sa ∨ ∀ g, sa' = some ⟨g, 0, none⟩ → w.heap.size ≤ g) (hb : sa'' = sa' ∨ ∀ g, sa'' = some ⟨g, 0, none⟩ → w'.heap.size ≤ g) : sa'' = sa ∨ ∀ g, sa'' = some ⟨g, 0, none⟩ → w.heap.size ≤ g := by
  rcases hb with rfl | hb
  · exact ha
  · exact .inr fun g e => by have := hb g e; omega
theorem mk_drew {S : Nat → Prop} {w w' : World} {k : Nat} (h : Marked S (w.drewN k) w') : Marked S w w' := ⟨h.os, h.tape, h.output, h.size, h.block⟩
theorem ext_len {n : Nat} {a b c d : List Int} (h : Ext n a b c d) : b.length ≤ d.length := by obtain ⟨m, rfl⟩ := h.1; simp
set_option maxHeartbeats 64000000 in
theorem assign_any (BB OO CC DB DO DC : Nat → Nat) (AA AO AC EA EO EC : Nat → Nat → Nat) (hT : TB S0 w0 gf K n BB OO CC AA AO AC ts) (hU : TB S0 w0 gt K n DB DO DC EA EO EC us) (hn1 : 1 ≤ n) (hn : n ≤ 12) (hK : K ≤ 2) :
    ∀ (m x v : Nat) (w : World) (sa : Option Addr) (ns cs : Nat) (im : List Int) (ud : List Bool) (st : List Int), n ≤ st.length + m → x < n → v < n → MapM S0 w0 mb bi bu gf gt K kf kt n w sa ns cs im ud st → MapSt n im ud st →
      Calls Tryz.prog 130 #[.pointer (some ⟨mb, 0, none⟩), .int .i64 x, .int .i64 v] w (AssP S0 w0 mb bi bu gf gt K kf kt n (assF n ts us m x v (im, ud, st)).1 (assF n ts us m x v (im, ud, st)).2 sa w) := by
  have hTS : ∀ k, k < ts.length → Sq n (ts.getD k []) := fun k hk => hT.sq k (by rw [← hT.len]; exact hk)
  have hUS : ∀ k, k < ts.length → Sq n (us.getD k []) := fun k hk => hU.sq k (by rw [← hT.len]; exact hk)
  have hOK := assF_ok (n := n) hTS hUS (fun S h => MapSt.le h) (fun S h hl x hx => MapSt.full h hl hx)
  intro m
  induction m with
  | zero =>
    intro x v w sa ns cs im ud st hl hx hv hM hS
    rcases hS.val x hx with h1 | ⟨u, hu, hm⟩
    · exact absurd h1 (hS.full (by omega) hx)
    · have e : assF n ts us 0 x v (im, ud, st) = (decide (im.getD x 0 = (v : Int)), (im, ud, st)) := if_pos (by unfold Mp at hm; show 0 ≤ im.getD x 0; omega)
      rw [e]
      exact assign_early x v u w sa ns cs im ud st hx hv hn hM hm
  | succ m ih =>
    intro x v w sa ns cs im ud st hl hx hv hM hS
    rcases hS.val x hx with h1 | ⟨u, hu, hm⟩
    rotate_left
    · have e : assF n ts us (m + 1) x v (im, ud, st) = (decide (im.getD x 0 = (v : Int)), (im, ud, st)) := if_pos (by unfold Mp at hm; show 0 ≤ im.getD x 0; omega)
      rw [e]
      exact assign_early x v u w sa ns cs im ud st hx hv hn hM hm
    have e1 : assF n ts us (m + 1) x v (im, ud, st) = if ud.getD v false then (false, (im, ud, st)) else lpI (assF n ts us m) ts us x v (n + 1) 0 (putM x v (im, ud, st)) := if_neg (by show ¬ 0 ≤ im.getD x 0; omega)
    rw [e1]
    clear e1
    cases h2 : ud.getD v false with
    | true => rw [if_pos rfl]; exact assign_taken x v w sa ns cs im ud st hx hv hn hM h1 h2
    | false =>
    rw [if_neg (by simp)]
    have L0 : Hid (ALs n ts us x v (im, ud, st) 0 0 (putM x v (im, ud, st))) := Lib.hid (AssL.start (ts := ts) (us := us) hS hx hv h1 h2)
    obtain ⟨R, hR⟩ : ∃ R, lpI (assF n ts us m) ts us x v (n + 1) 0 (putM x v (im, ud, st)) = R := ⟨_, rfl⟩
    rw [hR]
    have HR0 : Hid (lpI (assF n ts us m) ts us x v (n + 1 - 0) 0 (putM x v (im, ud, st)) = R) := Lib.hid hR
    have HOK := Lib.hid (hOK m)
    have HTS := Lib.hid hTS; have HUS := Lib.hid hUS
    obtain ⟨F, hF⟩ : ∃ F, assF n ts us m = F := ⟨_, rfl⟩
    rw [hF] at HR0 HOK ih
    clear hR hF hOK hTS hUS
    have IH := Lib.hid ih
    have HL := Lib.hid hl
    have HT := Lib.hid hT; have HU := Lib.hid hU
    have lb := hM.box.five
    have c1 := (hM.im.cells).2.1 x hx
    have f1 := (hM.im.cells).2.2 x
    have c2 := (hM.ud.cells).2.1 v hv
    have f2 := (hM.ud.cells).2.2 v
    rw [h1] at c1
    rw [h2] at c2
    have i1 : (0 : Int) ≤ (x : Int) := by omega
    have i2 : (x : Int) < (n : Int) := by omega
    have i3 : (0 : Int) ≤ (v : Int) := by omega
    have i4 : (v : Int) < (n : Int) := by omega
    have HNS : Hid (ns = st.length) := Lib.hid hM.st.len
    have HSL := Lib.hid hS.le
    have H2 := Lib.hid h2
    clear h1 h2 hS ih hl hT hU
    go_enter Tryz.func130, Tryz.ntmps130
    go_upto_region 5 with fail
    go_cut [] (fun wx => MapM S0 w0 mb bi bu gf gt K kf kt n wx sa ns cs (im.set x v) (ud.set v true) st ∧ Marked (MapS mb bi bu sa) w wx)
    case first => as_aux_lemma =>
      have hudx := (hM.ud.setne (p := ⟨bi, x, none⟩) (fun g e => by cases e; exact Ne.symm hM.d4) (.int .i64 (v : Int)))
      have c3 := hudx.cells.2.1 v hv
      rw [H2.out] at c3
      have f3 := hudx.cells.2.2 v
      have hbx2 := fun u => ((hM.box.setne (a := ⟨bi, x, none⟩) (by show mb ≠ bi; exact Ne.symm hM.d1) (.int .i64 (v : Int))).setne (a := ⟨bu, v, none⟩) (by show mb ≠ bu; exact Ne.symm hM.d2) u).five
      have hbx := fun u => (hM.box.setne (a := ⟨bi, x, none⟩) (by show mb ≠ bi; exact Ne.symm hM.d1) u).five
      go_region_held3 (fun v' => v'.cell? ⟨mb, 2, none⟩ = some (.slice (some ⟨bi, 0, none⟩) n n) ∧ v'.cell? ⟨mb, 3, none⟩ = some (.slice (some ⟨bu, 0, none⟩) n n))
        (first | exact ⟨lb.2.2.1, lb.2.2.2.1⟩ | exact ⟨(hbx _).2.2.1, (hbx _).2.2.2.1⟩ | exact ⟨(hbx2 _).2.2.1, (hbx2 _).2.2.2.1⟩ | go_keep)
        (first | fail)
      all_goals
        go_wp2
        go_meet
      all_goals exact ⟨(hM.drewN _).put x v, mk_drew ((hM.drewN _).markPut x v _ _)⟩
    case rest =>
    obtain ⟨hM5, hK5⟩ := hcut
    obtain ⟨W5, hW5⟩ : ∃ W5 : World, W5 = wc := ⟨_, rfl⟩
    rw [← hW5] at hM5 hK5 ⊢
    clear hW5 lb c1 f1 c2 f2
    have lb5 := hM5.box.five
    have hlo5 := hM5.bel.size
    have hns : ns ≤ 12 := by have h1 := HNS.out; have h2 := HSL.out; omega
    go_wp2_with (at_builtin; refine app1h rfl rfl hM5.st rfl rfl (by omega) hlo5 ?_; intro g8 cc8 w8 hO8 hg8 hat8 _; obtain ⟨hbx8, hM8, hk8, ha8⟩ := hM5.grow hO8 hg8 hat8; have lb8 := hbx8.five; clear hO8 hg8 hat8)
    have hk9 := hK5.trans hk8
    have ha9 := asl_chain hK5.size (.inl rfl) ha8
    clear hbx8 lb8 hk8 ha8 lb5 hM5
    have hst1 : st.length + 1 ≤ (st ++ [((x : Nat) : Int)]).length := by simp
    go_loopw [7] (fun s7 wr => ∃ (i : Nat) (sa' : Option Addr) (ns' cs' : Nat) (im' : List Int) (ud' : List Bool) (st' : List Int), s7 = .int .i64 i ∧ Hid (ALs n ts us x v (im, ud, st) i 0 (im', ud', st')) ∧ Hid (lpI F ts us x v (n + 1 - i) i (im', ud', st') = R) ∧ MapM S0 w0 mb bi bu gf gt K kf kt n wr sa' ns' cs' im' ud' st' ∧ Marked (MapS mb bi bu sa) w wr ∧ (sa' = sa ∨ ∀ g, sa' = some ⟨g, 0, none⟩ → w.heap.size ≤ g) ∧ Hid (st.length + 1 ≤ st'.length)) (fun s7 _ => n - (intOf s7).toNat)
    case atStart => exact ⟨0, _, _, _, _, _, _, rfl, L0, HR0, hM8, hk9, ha9, Lib.hid hst1⟩
    case round =>
      clear hM8 hk9 ha9 hst1 L0 HR0
      obtain ⟨i, as1, ns1, cs1, im1, ud1, st1, rfl, HL1, HR1, hM1, hk1, ha1, HS1⟩ := hrel
      obtain ⟨W1, hW1⟩ : ∃ W1 : World, W1 = wr := ⟨_, rfl⟩
      rw [← hW1] at hM1 hk1 ⊢
      clear hW1
      have lb1 := hM1.box.five
      have HN1 := Lib.hid hM1.st.len
      have HSL1 : Hid (st1.length ≤ n) := Lib.hid HL1.out.ms.le
      have hns1 : ns1 ≤ 12 := by have h1 := HN1.out; have h2 := HSL1.out; omega
      have hil : i ≤ ns1 := by have h1 := HN1.out; have h2 : i ≤ st1.length := HL1.out.il; omega
      by_cases hlt : i < ns1
      · obtain ⟨y, hy, hyi, u, hu, hyu⟩ := MapSt.get (HL1.out.ms) (j := i) (by have h1 := HN1.out; show i < st1.length; omega)
        have hyi : st1.getD i 0 = (y : Int) := hyi
        have hyu : im1.getD y 0 = (u : Int) := hyu
        obtain ⟨gs, rfl⟩ : ∃ gs, as1 = some ⟨gs, 0, none⟩ := by
          rcases hM1.st.block with ⟨_, q, _⟩ | ⟨g, cur, q, _⟩
          · omega
          · exact ⟨g, q⟩
        have cy := hM1.st.cells.2.1 i hlt
        rw [hyi] at cy
        have HYI := Lib.hid hyi; have HYU : Hid (Mp im1 y u) := Lib.hid hyu
        obtain ⟨Q, hQ⟩ : ∃ Q, lpK F ts us x v y u ts.length 0 (im1, ud1, st1) = Q := ⟨_, rfl⟩
        have hR1 : (if Q.1 then lpI F ts us x v (n + 1 - (i + 1)) (i + 1) Q.2 else Q) = R := by
          have h1 := HR1.out
          have e : n + 1 - i = (n + 1 - (i + 1)) + 1 := by have h1 := HN1.out; have h2 := HSL1.out; omega
          rw [e] at h1
          unfold lpI at h1
          rw [if_pos (show i < st1.length by have h1 := HN1.out; omega)] at h1
          have e2 : (st1.getD i 0).toNat = y := by rw [hyi]; simp
          have e3 : (im1.getD y 0).toNat = u := by rw [hyu]; simp
          have h1' : (if (lpK F ts us x v (st1.getD i 0).toNat (im1.getD (st1.getD i 0).toNat 0).toNat ts.length 0 (im1, ud1, st1)).1 then lpI F ts us x v (n + 1 - (i + 1)) (i + 1) (lpK F ts us x v (st1.getD i 0).toNat (im1.getD (st1.getD i 0).toNat 0).toNat ts.length 0 (im1, ud1, st1)).2 else lpK F ts us x v (st1.getD i 0).toNat (im1.getD (st1.getD i 0).toNat 0).toNat ts.length 0 (im1, ud1, st1)) = R := h1
          rw [e2, e3, hQ] at h1'; exact h1'
        have HRQ := Lib.hid hR1
        have HQ0 : Hid (lpK F ts us x v y u (K - 0) 0 (im1, ud1, st1) = Q) := Lib.hid (by rw [Nat.sub_zero, ← HT.out.len]; exact hQ)
        clear hQ hR1
        have i5 : (0 : Int) ≤ (i : Int) := by omega
        have i6 : (i : Int) < (ns1 : Int) := by omega
        have HI1 : Hid (i < st1.length) := Lib.hid (by have h1 := HN1.out; omega)
        clear hyi hyu
        go_wp2
        go_loopw [79] (fun s79 wq => ∃ (k : Nat) (sa' : Option Addr) (ns' cs' : Nat) (im' : List Int) (ud' : List Bool) (st' : List Int), s79 = .int .i64 k ∧ k ≤ K ∧ Hid (ALs n ts us x v (im, ud, st) i k (im', ud', st')) ∧ Hid (lpK F ts us x v y u (K - k) k (im', ud', st') = Q) ∧ Hid (i < st'.length ∧ st'.getD i 0 = ((y : Nat) : Int) ∧ Mp im' y u ∧ st.length + 1 ≤ st'.length) ∧ MapM S0 w0 mb bi bu gf gt K kf kt n wq sa' ns' cs' im' ud' st' ∧ Marked (MapS mb bi bu sa) w wq ∧ (sa' = sa ∨ ∀ g, sa' = some ⟨g, 0, none⟩ → w.heap.size ≤ g)) (fun s79 _ => K - (intOf s79).toNat)
        case atStart => exact ⟨0, _, _, _, _, _, _, rfl, Nat.zero_le _, HL1, HQ0, Lib.hid ⟨HI1.out, HYI.out, HYU.out, HS1.out⟩, hM1, hk1, ha1⟩
        case round =>
          clear hM1 hk1 ha1 lb1 cy HL1 HN1 HSL1 HYI HYU HI1 HS1 hns1 hil hlt i5 i6 HQ0 HR1
          obtain ⟨k, as2, ns2, cs2, im2, ud2, st2, rfl, hkK, HL2, HQ2, HF2, hM2, hk2, ha2⟩ := hrel
          obtain ⟨W2, hW2⟩ : ∃ W2 : World, W2 = wr := ⟨_, rfl⟩
          rw [← hW2] at hM2 hk2 ⊢
          clear hW2
          by_cases hkt : k < K
          · have hBL := hM2.bel
            have ck := HT.out.cell W2 hBL k hkt
            have i5 : (0 : Int) ≤ (k : Int) := by omega
            have i6 : (k : Int) < (K : Int) := by omega
            have hGT := fun w' (q : Marked S0 w0 w') => HT.out.grid w' q k hkt
            have hGU := fun w' (q : Marked S0 w0 w') => HU.out.grid w' q k hkt
            have hCU := fun w' (q : Marked S0 w0 w') => HU.out.cell w' q k hkt
            generalize BB k = b1 at *
            generalize OO k = o1 at *
            generalize AA k = A1 at *
            generalize AO k = O1 at *
            generalize AC k = C1 at *
            generalize DB k = b2 at *
            generalize DO k = o2 at *
            generalize EA k = A2 at *
            generalize EO k = O2 at *
            generalize EC k = C2 at *
            have hP : ∀ (w' : World) (sa' : Option Addr) (ns' cs' : Nat) (im' : List Int) (ud' : List Bool) (st' : List Int), MapM S0 w0 mb bi bu gf gt K kf kt n w' sa' ns' cs' im' ud' st' → Mp im' y u →
                w'.cell? ⟨mb, 1, none⟩ = some (.slice (some ⟨gt, 0, none⟩) K kt) ∧ w'.cell? ⟨mb, 2, none⟩ = some (.slice (some ⟨bi, 0, none⟩) n n) ∧ w'.cell? ⟨bi, y, none⟩ = some (.int .i64 (u : Int)) ∧
                w'.cell? ⟨b1, o1 + x, none⟩ = some (.slice (some ⟨A1 x, O1 x, none⟩) n (C1 x)) ∧ w'.cell? ⟨A1 x, O1 x + y, none⟩ = some (.int .i64 ((tv (ts.getD k []) x y : Nat) : Int)) ∧ w'.cell? ⟨b1, o1 + y, none⟩ = some (.slice (some ⟨A1 y, O1 y, none⟩) n (C1 y)) ∧ w'.cell? ⟨A1 y, O1 y + x, none⟩ = some (.int .i64 ((tv (ts.getD k []) y x : Nat) : Int)) ∧
                w'.cell? ⟨gt, k, none⟩ = some (.slice (some ⟨b2, o2, none⟩) n (DC k)) ∧
                w'.cell? ⟨b2, o2 + v, none⟩ = some (.slice (some ⟨A2 v, O2 v, none⟩) n (C2 v)) ∧ w'.cell? ⟨A2 v, O2 v + u, none⟩ = some (.int .i64 ((tv (us.getD k []) v u : Nat) : Int)) ∧ w'.cell? ⟨b2, o2 + u, none⟩ = some (.slice (some ⟨A2 u, O2 u, none⟩) n (C2 u)) ∧ w'.cell? ⟨A2 u, O2 u + v, none⟩ = some (.int .i64 ((tv (us.getD k []) u v : Nat) : Int)) := fun w' sa' ns' cs' im' ud' st' q1 q2 => by
              have l := q1.box.five
              have cy := (q1.im.cells).2.1 y hy
              have q2' : im'.getD y 0 = (u : Int) := q2
              rw [q2'] at cy
              have r1 := (hGT w' q1.bel).look hx hy
              have r2 := (hGT w' q1.bel).look hy hx
              have r3 := (hGU w' q1.bel).look hv hu
              have r4 := (hGU w' q1.bel).look hu hv
              have r5 := hCU w' q1.bel
              exact ⟨l.2.1, l.2.2.1, cy, r1.1, r1.2, r2.1, r2.2, r5, r3.1, r3.2, r4.1, r4.2⟩
            have HSQ1 := Lib.hid (HT.out.sq k hkt)
            have HSQ2 := Lib.hid (HU.out.sq k hkt)
            have t1 := HSQ1.out.lt hx hy
            have t2 := HSQ1.out.lt hy hx
            have s1 := HSQ2.out.lt hv hu
            have s2 := HSQ2.out.lt hu hv
            have HKL : Hid (k < ts.length) := Lib.hid (by rw [HT.out.len]; exact hkt)
            have hq1 := hP W2 as2 ns2 cs2 im2 ud2 st2 hM2 HF2.out.2.2.1
            have HP := Lib.hid hP
            have HML := Lib.hid (show n ≤ st2.length + m by have h1 := HL.out; have h2 := HF2.out.2.2.2; omega)
            obtain ⟨X1, hX1⟩ : ∃ X1, tv (ts.getD k []) x y = X1 := ⟨_, rfl⟩
            obtain ⟨X2, hX2⟩ : ∃ X2, tv (ts.getD k []) y x = X2 := ⟨_, rfl⟩
            obtain ⟨V1, hV1⟩ : ∃ V1, tv (us.getD k []) v u = V1 := ⟨_, rfl⟩
            obtain ⟨V2, hV2⟩ : ∃ V2, tv (us.getD k []) u v = V2 := ⟨_, rfl⟩
            rw [hX1, hX2, hV1, hV2] at hq1 HP
            rw [hX1] at t1; rw [hX2] at t2; rw [hV1] at s1; rw [hV2] at s2
            have HE := Lib.hid (And.intro hX1 (And.intro hX2 (And.intro hV1 hV2)))
            have j1 : (0 : Int) ≤ (y : Int) := by omega
            have j2 : (y : Int) < (n : Int) := by omega
            have j3 : (0 : Int) ≤ (u : Int) := by omega
            have j4 : (u : Int) < (n : Int) := by omega
            clear hP hX1 hX2 hV1 hV2 hGT hGU hCU hBL
            obtain ⟨RA, hRA⟩ : ∃ RA, F X1 V1 (im2, ud2, st2) = RA := ⟨_, rfl⟩
            have hA : AssR n ts us X1 V1 im2 st2 RA.1 RA.2.1 RA.2.2.1 RA.2.2.2 := by have := HOK.out X1 V1 (im2, ud2, st2) HML.out t1 s1 HL2.out.ms; rw [hRA] at this; exact this
            obtain ⟨r6, S6⟩ := RA
            have HM6 : Hid (Mp S6.1 y u) := Lib.hid (hA.ex.2 y u hy HF2.out.2.2.1)
            have HML6 : Hid (n ≤ S6.2.2.length + m) := Lib.hid (by have h1 := HML.out; have h2 := ext_len hA.ex; have h3 : st2.length ≤ S6.2.2.length := h2; omega)
            have HS6 : Hid (MapSt n S6.1 S6.2.1 S6.2.2) := Lib.hid hA.ms
            have hQ2 := HQ2.out
            have eK : K - k = (K - (k + 1)) + 1 := by omega
            rw [eK] at hQ2
            have hQ3 : (if (F X1 V1 (im2, ud2, st2)).1 then (if (F X2 V2 (F X1 V1 (im2, ud2, st2)).2).1 then lpK F ts us x v y u (K - (k + 1)) (k + 1) (F X2 V2 (F X1 V1 (im2, ud2, st2)).2).2 else (false, (F X2 V2 (F X1 V1 (im2, ud2, st2)).2).2)) else (false, (F X1 V1 (im2, ud2, st2)).2)) = Q := by
              rw [← HE.out.1, ← HE.out.2.1, ← HE.out.2.2.1, ← HE.out.2.2.2]; exact hQ2
            rw [hRA] at hQ3
            clear hQ2 eK
            cases r6 with
            | false =>
              have hQe : (false, S6) = Q := hQ3
              have HRE : Hid (R = (false, S6)) := Lib.hid (by have := HRQ.out; rw [← hQe] at this; exact this.symm)
              have HRA := Lib.hid hRA
              clear hRA hA hQ3 hQe
              go_upto_region 14 with fail
              refine wp_region_held_drew (S := (fun w' => w'.cell? ⟨mb, 1, none⟩ = some (.slice (some ⟨gt, 0, none⟩) K kt) ∧ w'.cell? ⟨mb, 2, none⟩ = some (.slice (some ⟨bi, 0, none⟩) n n) ∧ w'.cell? ⟨bi, y, none⟩ = some (.int .i64 (u : Int)) ∧ w'.cell? ⟨b1, o1 + x, none⟩ = some (.slice (some ⟨A1 x, O1 x, none⟩) n (C1 x)) ∧ w'.cell? ⟨A1 x, O1 x + y, none⟩ = some (.int .i64 (X1 : Int)) ∧ w'.cell? ⟨b1, o1 + y, none⟩ = some (.slice (some ⟨A1 y, O1 y, none⟩) n (C1 y)) ∧ w'.cell? ⟨A1 y, O1 y + x, none⟩ = some (.int .i64 (X2 : Int)) ∧ w'.cell? ⟨gt, k, none⟩ = some (.slice (some ⟨b2, o2, none⟩) n (DC k)) ∧ w'.cell? ⟨b2, o2 + v, none⟩ = some (.slice (some ⟨A2 v, O2 v, none⟩) n (C2 v)) ∧ w'.cell? ⟨A2 v, O2 v + u, none⟩ = some (.int .i64 (V1 : Int)) ∧ w'.cell? ⟨b2, o2 + u, none⟩ = some (.slice (some ⟨A2 u, O2 u, none⟩) n (C2 u)) ∧ w'.cell? ⟨A2 u, O2 u + v, none⟩ = some (.int .i64 (V2 : Int)))) (by kernel_rfl) (by (try dsimp only); first | exact hq1 | go_keep) (fun hHeld1 => ?_)
              refine' wpAnyH_take (i := 0) (v := _) rfl (by kernel_rfl) (by kernel_rfl) (by kernel_rfl) (fun _ _ _ h => h) (Or.inl ⟨by rfl, ?hy0⟩) (by assumption) ?_
              case hy0 => (intro w' hSw; (try dsimp only at hSw); go_simp; (try with_reducible rfl))
              (try simp only [Act.put, List.getElem_toArray, List.getElem_cons_zero, List.getElem_cons_succ, List.setIfInBounds_toArray, List.set_cons_zero, List.set_cons_succ])
              refine' wpAnyH_take (i := 1) (v := _) rfl (by kernel_rfl) (by kernel_rfl) (by kernel_rfl) (fun _ _ _ h => h) (Or.inl ⟨by rfl, ?hy1⟩) (by assumption) ?_
              case hy1 => (intro w' hSw; (try dsimp only at hSw); go_simp; (try with_reducible rfl))
              (try simp only [Act.put, List.getElem_toArray, List.getElem_cons_zero, List.getElem_cons_succ, List.setIfInBounds_toArray, List.set_cons_zero, List.set_cons_succ])
              refine' wpAnyH_take (i := 2) (v := _) rfl (by kernel_rfl) (by kernel_rfl) (by kernel_rfl) (fun _ _ _ h => h) (Or.inl ⟨by rfl, ?hy2⟩) (by assumption) ?_
              case hy2 => (intro w' hSw; (try dsimp only at hSw); go_simp; (try with_reducible rfl))
              (try simp only [Act.put, List.getElem_toArray, List.getElem_cons_zero, List.getElem_cons_succ, List.setIfInBounds_toArray, List.set_cons_zero, List.set_cons_succ])
              refine' wpAnyH_take (i := 3) (v := _) rfl (by kernel_rfl) (by kernel_rfl) (by kernel_rfl) (fun _ _ _ h => h) (Or.inl ⟨by rfl, ?hy3⟩) (by assumption) ?_
              case hy3 => (intro w' hSw; (try dsimp only at hSw); go_simp; (try with_reducible rfl))
              (try simp only [Act.put, List.getElem_toArray, List.getElem_cons_zero, List.getElem_cons_succ, List.setIfInBounds_toArray, List.set_cons_zero, List.set_cons_succ])
              refine' wpAnyH_take (i := 4) (v := _) rfl (by kernel_rfl) (by kernel_rfl) (by kernel_rfl) (fun _ _ _ h => h) (Or.inl ⟨by rfl, ?hy4⟩) (by assumption) ?_
              case hy4 => (intro w' hSw; (try dsimp only at hSw); go_simp; (try with_reducible rfl))
              (try simp only [Act.put, List.getElem_toArray, List.getElem_cons_zero, List.getElem_cons_succ, List.setIfInBounds_toArray, List.set_cons_zero, List.set_cons_succ])
              refine' wpAnyH_take (i := 5) (v := _) rfl (by kernel_rfl) (by kernel_rfl) (by kernel_rfl) (fun _ _ _ h => h) (Or.inl ⟨by rfl, ?hy5⟩) (by assumption) ?_
              case hy5 => (intro w' hSw; (try dsimp only at hSw); go_simp; (try with_reducible rfl))
              (try simp only [Act.put, List.getElem_toArray, List.getElem_cons_zero, List.getElem_cons_succ, List.setIfInBounds_toArray, List.set_cons_zero, List.set_cons_succ])
              refine' wpAnyH_take (i := 6) (v := _) rfl (by kernel_rfl) (by kernel_rfl) (by kernel_rfl) (fun _ _ _ h => h) (Or.inl ⟨by rfl, ?hy6⟩) (by assumption) ?_
              case hy6 => (intro w' hSw; (try dsimp only at hSw); go_simp; (try with_reducible rfl))
              (try simp only [Act.put, List.getElem_toArray, List.getElem_cons_zero, List.getElem_cons_succ, List.setIfInBounds_toArray, List.set_cons_zero, List.set_cons_succ])
              refine' wpAnyH_take (i := 7) (v := _) rfl (by kernel_rfl) (by kernel_rfl) (by kernel_rfl) (fun _ _ _ h => h) (Or.inl ⟨by rfl, ?hy7⟩) (by assumption) ?_
              case hy7 => (intro w' hSw; (try dsimp only at hSw); go_simp; (try with_reducible rfl))
              (try simp only [Act.put, List.getElem_toArray, List.getElem_cons_zero, List.getElem_cons_succ, List.setIfInBounds_toArray, List.set_cons_zero, List.set_cons_succ])
              refine' wpAnyH_take (i := 8) (v := _) rfl (by kernel_rfl) (by kernel_rfl) (by kernel_rfl) (fun _ _ _ h => h) (Or.inl ⟨by rfl, ?hy8⟩) (by assumption) ?_
              case hy8 => (intro w' hSw; (try dsimp only at hSw); go_simp; (try with_reducible rfl))
              (try simp only [Act.put, List.getElem_toArray, List.getElem_cons_zero, List.getElem_cons_succ, List.setIfInBounds_toArray, List.set_cons_zero, List.set_cons_succ])
              refine' wpAnyH_take (i := 9) (v := _) rfl (by kernel_rfl) (by kernel_rfl) (by kernel_rfl) (fun _ _ _ h => h) (Or.inl ⟨by rfl, ?hy9⟩) (by assumption) ?_
              case hy9 => (intro w' hSw; (try dsimp only at hSw); go_simp; (try with_reducible rfl))
              (try simp only [Act.put, List.getElem_toArray, List.getElem_cons_zero, List.getElem_cons_succ, List.setIfInBounds_toArray, List.set_cons_zero, List.set_cons_succ])
              refine' wpAnyH_take (i := 10) (v := _) rfl (by kernel_rfl) (by kernel_rfl) (by kernel_rfl) (fun _ _ _ h => h) (Or.inl ⟨by rfl, ?hy10⟩) (by assumption) ?_
              case hy10 => (intro w' hSw; (try dsimp only at hSw); go_simp; (try with_reducible rfl))
              (try simp only [Act.put, List.getElem_toArray, List.getElem_cons_zero, List.getElem_cons_succ, List.setIfInBounds_toArray, List.set_cons_zero, List.set_cons_succ])
              refine' wpAnyH_take (i := 11) (v := _) rfl (by kernel_rfl) (by kernel_rfl) (by kernel_rfl) (fun _ _ _ h => h) (Or.inl ⟨by rfl, ?hy11⟩) (by assumption) ?_
              case hy11 => (intro w' hSw; (try dsimp only at hSw); go_simp; (try with_reducible rfl))
              (try simp only [Act.put, List.getElem_toArray, List.getElem_cons_zero, List.getElem_cons_succ, List.setIfInBounds_toArray, List.set_cons_zero, List.set_cons_succ])
              refine' wpAnyH_take (i := 12) (v := _) rfl (by kernel_rfl) (by kernel_rfl) (by kernel_rfl) (fun _ _ _ h => h) (Or.inl ⟨by rfl, ?hy12⟩) (by assumption) ?_
              case hy12 => (intro w' hSw; (try dsimp only at hSw); go_simp; (try with_reducible rfl))
              (try simp only [Act.put, List.getElem_toArray, List.getElem_cons_zero, List.getElem_cons_succ, List.setIfInBounds_toArray, List.set_cons_zero, List.set_cons_succ])
              refine' wpAnyH_take (i := 13) (v := _) rfl (by kernel_rfl) (by kernel_rfl) (by kernel_rfl) (fun _ _ _ h => h) (Or.inl ⟨by rfl, ?hy13⟩) (by assumption) ?_
              case hy13 => (intro w' hSw; (try dsimp only at hSw); go_simp; (try with_reducible rfl))
              (try simp only [Act.put, List.getElem_toArray, List.getElem_cons_zero, List.getElem_cons_succ, List.setIfInBounds_toArray, List.set_cons_zero, List.set_cons_succ])
              refine' wpAnyH_take (i := 14) (v := _) rfl (by kernel_rfl) (by kernel_rfl) (by kernel_rfl) (fun _ _ _ h => h) (Or.inl ⟨by rfl, ?hy14⟩) (by assumption) ?_
              case hy14 => (intro w' hSw; (try dsimp only at hSw); go_simp; (try with_reducible rfl))
              (try simp only [Act.put, List.getElem_toArray, List.getElem_cons_zero, List.getElem_cons_succ, List.setIfInBounds_toArray, List.set_cons_zero, List.set_cons_succ])
              refine' wpAnyH_take (i := 15) (v := _) rfl (by kernel_rfl) (by kernel_rfl) (by kernel_rfl) (fun _ _ _ h => h) (Or.inl ⟨by rfl, ?hy15⟩) (by assumption) ?_
              case hy15 => (intro w' hSw; (try dsimp only at hSw); go_simp; (try with_reducible rfl))
              (try simp only [Act.put, List.getElem_toArray, List.getElem_cons_zero, List.getElem_cons_succ, List.setIfInBounds_toArray, List.set_cons_zero, List.set_cons_succ])
              refine' wpAnyH_take (i := 16) (v := _) rfl (by kernel_rfl) (by kernel_rfl) (by kernel_rfl) (fun _ _ _ h => h) (Or.inl ⟨by rfl, ?hy16⟩) (by assumption) ?_
              case hy16 => (intro w' hSw; (try dsimp only at hSw); go_simp; (try with_reducible rfl))
              (try simp only [Act.put, List.getElem_toArray, List.getElem_cons_zero, List.getElem_cons_succ, List.setIfInBounds_toArray, List.set_cons_zero, List.set_cons_succ])
              refine' wpAnyH_take (i := 17) (v := _) rfl (by kernel_rfl) (by kernel_rfl) (by kernel_rfl) (fun _ _ _ h => h) (Or.inl ⟨by rfl, ?hy17⟩) (by assumption) ?_
              case hy17 => (intro w' hSw; (try dsimp only at hSw); go_simp; (try with_reducible rfl))
              (try simp only [Act.put, List.getElem_toArray, List.getElem_cons_zero, List.getElem_cons_succ, List.setIfInBounds_toArray, List.set_cons_zero, List.set_cons_succ])
              refine' wpAnyH_take (i := 18) (v := _) rfl (by kernel_rfl) (by kernel_rfl) (by kernel_rfl) (fun _ _ _ h => h) (Or.inl ⟨by rfl, ?hy18⟩) (by assumption) ?_
              case hy18 => (intro w' hSw; (try dsimp only at hSw); go_simp; (try with_reducible rfl))
              (try simp only [Act.put, List.getElem_toArray, List.getElem_cons_zero, List.getElem_cons_succ, List.setIfInBounds_toArray, List.set_cons_zero, List.set_cons_succ])
              refine' wpAnyH_take (i := 19) (v := _) rfl (by kernel_rfl) (by kernel_rfl) (by kernel_rfl) (fun _ _ _ h => h) (Or.inl ⟨by rfl, ?hy19⟩) (by assumption) ?_
              case hy19 => (intro w' hSw; (try dsimp only at hSw); go_simp; (try with_reducible rfl))
              (try simp only [Act.put, List.getElem_toArray, List.getElem_cons_zero, List.getElem_cons_succ, List.setIfInBounds_toArray, List.set_cons_zero, List.set_cons_succ])
              refine' wpAnyH_take (i := 20) (v := _) rfl (by kernel_rfl) (by kernel_rfl) (by kernel_rfl) (fun _ _ _ h => h) (Or.inl ⟨by rfl, ?hy20⟩) (by assumption) ?_
              case hy20 => (intro w' hSw; (try dsimp only at hSw); go_simp; (try with_reducible rfl))
              (try simp only [Act.put, List.getElem_toArray, List.getElem_cons_zero, List.getElem_cons_succ, List.setIfInBounds_toArray, List.set_cons_zero, List.set_cons_succ])
              refine' wpAnyH_take (i := 21) (v := _) rfl (by kernel_rfl) (by kernel_rfl) (by kernel_rfl) (fun _ _ _ h => h) (Or.inl ⟨by rfl, ?hy21⟩) (by assumption) ?_
              case hy21 => (intro w' hSw; (try dsimp only at hSw); go_simp; (try with_reducible rfl))
              (try simp only [Act.put, List.getElem_toArray, List.getElem_cons_zero, List.getElem_cons_succ, List.setIfInBounds_toArray, List.set_cons_zero, List.set_cons_succ])
              refine' wpAnyH_take (i := 22) (v := _) rfl (by kernel_rfl) (by kernel_rfl) (by kernel_rfl) (fun _ _ _ h => h) (Or.inl ⟨by rfl, ?hy22⟩) (by assumption) ?_
              case hy22 => (intro w' hSw; (try dsimp only at hSw); go_simp; (try with_reducible rfl))
              (try simp only [Act.put, List.getElem_toArray, List.getElem_cons_zero, List.getElem_cons_succ, List.setIfInBounds_toArray, List.set_cons_zero, List.set_cons_succ])
              refine' wpAnyH_take (i := 23) (v := _) rfl (by kernel_rfl) (by kernel_rfl) (by kernel_rfl) (fun _ _ _ h => h) (Or.inl ⟨by rfl, ?hy23⟩) (by assumption) ?_
              case hy23 => (intro w' hSw; (try dsimp only at hSw); go_simp; (try with_reducible rfl))
              (try simp only [Act.put, List.getElem_toArray, List.getElem_cons_zero, List.getElem_cons_succ, List.setIfInBounds_toArray, List.set_cons_zero, List.set_cons_succ])
              refine' wpAnyH_take (i := 24) (v := _) rfl (by kernel_rfl) (by kernel_rfl) (by kernel_rfl) (fun _ _ _ h => h) (Or.inl ⟨by rfl, ?hy24⟩) (by assumption) ?_
              case hy24 => (intro w' hSw; (try dsimp only at hSw); go_simp; (try with_reducible rfl))
              (try simp only [Act.put, List.getElem_toArray, List.getElem_cons_zero, List.getElem_cons_succ, List.setIfInBounds_toArray, List.set_cons_zero, List.set_cons_succ])
              refine' wpAnyH_take (i := 25) (v := _) rfl (by kernel_rfl) (by kernel_rfl) (by kernel_rfl) (fun _ _ _ h => h) (Or.inl ⟨by rfl, ?hy25⟩) (by assumption) ?_
              case hy25 => (intro w' hSw; (try dsimp only at hSw); go_simp; (try with_reducible rfl))
              (try simp only [Act.put, List.getElem_toArray, List.getElem_cons_zero, List.getElem_cons_succ, List.setIfInBounds_toArray, List.set_cons_zero, List.set_cons_succ])
              refine' wpAnyH_take (i := 26) (v := _) rfl (by kernel_rfl) (by kernel_rfl) (by kernel_rfl) (fun _ _ _ h => h) (Or.inl ⟨by rfl, ?hy26⟩) (by assumption) ?_
              case hy26 => (intro w' hSw; (try dsimp only at hSw); go_simp; (try with_reducible rfl))
              (try simp only [Act.put, List.getElem_toArray, List.getElem_cons_zero, List.getElem_cons_succ, List.setIfInBounds_toArray, List.set_cons_zero, List.set_cons_succ])
              refine wpAnyH_ready (rs := [27]) (by kernel_rfl) (by simp) ?_
              refine AllReadyH.cons rfl (fun K' hK' => ?_) AllReadyH.nil
              go_simp
              (go_at_call 130; have hia := IH.out X1 V1 _ as2 ns2 cs2 im2 ud2 st2 HML.out t1 s1 (hM2.drewN 1) HL2.out.ms; rw [HRA.out] at hia; dsimp only at hia; refine hia.mono ?_; rintro e w6 ⟨as6, ns6, cs6, rfl, hM6, hk6', ha6⟩; have hk6 := mk_drew hk6'; have hq6 := HP.out w6 as6 ns6 cs6 S6.1 S6.2.1 S6.2.2 hM6 HM6.out; clear hk6' hia)
              refine hK'.out _ _ (by (try dsimp only); exact hq6) (fun hHeld2 => ?_)
              clear hK' K' hHeld1
              (try simp only [Act.put, List.getElem_toArray, List.getElem_cons_zero, List.getElem_cons_succ, List.setIfInBounds_toArray, List.set_cons_zero, List.set_cons_succ])
              refine' wpAnyH_take (i := 28) (v := _) rfl (by kernel_rfl) (by kernel_rfl) (by kernel_rfl) (fun _ _ _ h => h) (Or.inl ⟨by rfl, ?hy28⟩) (by assumption) ?_
              case hy28 => (intro w' hSw; (try dsimp only at hSw); go_simp; (try with_reducible rfl))
              (try simp only [Act.put, List.getElem_toArray, List.getElem_cons_zero, List.getElem_cons_succ, List.setIfInBounds_toArray, List.set_cons_zero, List.set_cons_succ])
              refine' wpAnyH_take (i := 29) (v := _) rfl (by kernel_rfl) (by kernel_rfl) (by kernel_rfl) (fun _ _ _ h => h) (Or.inl ⟨by rfl, ?hy29⟩) (by assumption) ?_
              case hy29 => (intro w' hSw; (try dsimp only at hSw); go_simp; (try with_reducible rfl))
              (try simp only [Act.put, List.getElem_toArray, List.getElem_cons_zero, List.getElem_cons_succ, List.setIfInBounds_toArray, List.set_cons_zero, List.set_cons_succ])
              refine wpAnyH_take (i := 30) (v := undef) rfl (by kernel_rfl) (by kernel_rfl) (by kernel_rfl) (fun _ _ _ h => h) (Or.inr ⟨by rfl, rfl⟩) (by assumption) ?_
              (try simp only [Act.put, List.getElem_toArray, List.getElem_cons_zero, List.getElem_cons_succ, List.setIfInBounds_toArray, List.set_cons_zero, List.set_cons_succ])
              refine wpAnyH_take (i := 31) (v := undef) rfl (by kernel_rfl) (by kernel_rfl) (by kernel_rfl) (fun _ _ _ h => h) (Or.inr ⟨by rfl, rfl⟩) (by assumption) ?_
              (try simp only [Act.put, List.getElem_toArray, List.getElem_cons_zero, List.getElem_cons_succ, List.setIfInBounds_toArray, List.set_cons_zero, List.set_cons_succ])
              refine wpAnyH_take (i := 32) (v := undef) rfl (by kernel_rfl) (by kernel_rfl) (by kernel_rfl) (fun _ _ _ h => h) (Or.inr ⟨by rfl, rfl⟩) (by assumption) ?_
              (try simp only [Act.put, List.getElem_toArray, List.getElem_cons_zero, List.getElem_cons_succ, List.setIfInBounds_toArray, List.set_cons_zero, List.set_cons_succ])
              refine wpAnyH_take (i := 33) (v := undef) rfl (by kernel_rfl) (by kernel_rfl) (by kernel_rfl) (fun _ _ _ h => h) (Or.inr ⟨by rfl, rfl⟩) (by assumption) ?_
              (try simp only [Act.put, List.getElem_toArray, List.getElem_cons_zero, List.getElem_cons_succ, List.setIfInBounds_toArray, List.set_cons_zero, List.set_cons_succ])
              refine wpAnyH_take (i := 34) (v := undef) rfl (by kernel_rfl) (by kernel_rfl) (by kernel_rfl) (fun _ _ _ h => h) (Or.inr ⟨by rfl, rfl⟩) (by assumption) ?_
              (try simp only [Act.put, List.getElem_toArray, List.getElem_cons_zero, List.getElem_cons_succ, List.setIfInBounds_toArray, List.set_cons_zero, List.set_cons_succ])
              refine wpAnyH_take (i := 35) (v := undef) rfl (by kernel_rfl) (by kernel_rfl) (by kernel_rfl) (fun _ _ _ h => h) (Or.inr ⟨by rfl, rfl⟩) (by assumption) ?_
              (try simp only [Act.put, List.getElem_toArray, List.getElem_cons_zero, List.getElem_cons_succ, List.setIfInBounds_toArray, List.set_cons_zero, List.set_cons_succ])
              refine wpAnyH_take (i := 36) (v := undef) rfl (by kernel_rfl) (by kernel_rfl) (by kernel_rfl) (fun _ _ _ h => h) (Or.inr ⟨by rfl, rfl⟩) (by assumption) ?_
              (try simp only [Act.put, List.getElem_toArray, List.getElem_cons_zero, List.getElem_cons_succ, List.setIfInBounds_toArray, List.set_cons_zero, List.set_cons_succ])
              refine wpAnyH_take (i := 37) (v := undef) rfl (by kernel_rfl) (by kernel_rfl) (by kernel_rfl) (fun _ _ _ h => h) (Or.inr ⟨by rfl, rfl⟩) (by assumption) ?_
              (try simp only [Act.put, List.getElem_toArray, List.getElem_cons_zero, List.getElem_cons_succ, List.setIfInBounds_toArray, List.set_cons_zero, List.set_cons_succ])
              refine wpAnyH_take (i := 38) (v := undef) rfl (by kernel_rfl) (by kernel_rfl) (by kernel_rfl) (fun _ _ _ h => h) (Or.inr ⟨by rfl, rfl⟩) (by assumption) ?_
              (try simp only [Act.put, List.getElem_toArray, List.getElem_cons_zero, List.getElem_cons_succ, List.setIfInBounds_toArray, List.set_cons_zero, List.set_cons_succ])
              refine wpAnyH_take (i := 39) (v := undef) rfl (by kernel_rfl) (by kernel_rfl) (by kernel_rfl) (fun _ _ _ h => h) (Or.inr ⟨by rfl, rfl⟩) (by assumption) ?_
              (try simp only [Act.put, List.getElem_toArray, List.getElem_cons_zero, List.getElem_cons_succ, List.setIfInBounds_toArray, List.set_cons_zero, List.set_cons_succ])
              refine wpAnyH_take (i := 40) (v := undef) rfl (by kernel_rfl) (by kernel_rfl) (by kernel_rfl) (fun _ _ _ h => h) (Or.inr ⟨by rfl, rfl⟩) (by assumption) ?_
              (try simp only [Act.put, List.getElem_toArray, List.getElem_cons_zero, List.getElem_cons_succ, List.setIfInBounds_toArray, List.set_cons_zero, List.set_cons_succ])
              refine wpAnyH_take (i := 41) (v := undef) rfl (by kernel_rfl) (by kernel_rfl) (by kernel_rfl) (fun _ _ _ h => h) (Or.inr ⟨by rfl, rfl⟩) (by assumption) ?_
              (try simp only [Act.put, List.getElem_toArray, List.getElem_cons_zero, List.getElem_cons_succ, List.setIfInBounds_toArray, List.set_cons_zero, List.set_cons_succ])
              refine wpAnyH_take (i := 42) (v := undef) rfl (by kernel_rfl) (by kernel_rfl) (by kernel_rfl) (fun _ _ _ h => h) (Or.inr ⟨by rfl, rfl⟩) (by assumption) ?_
              (try simp only [Act.put, List.getElem_toArray, List.getElem_cons_zero, List.getElem_cons_succ, List.setIfInBounds_toArray, List.set_cons_zero, List.set_cons_succ])
              refine wpAnyH_take (i := 43) (v := undef) rfl (by kernel_rfl) (by kernel_rfl) (by kernel_rfl) (fun _ _ _ h => h) (Or.inr ⟨by rfl, rfl⟩) (by assumption) ?_
              (try simp only [Act.put, List.getElem_toArray, List.getElem_cons_zero, List.getElem_cons_succ, List.setIfInBounds_toArray, List.set_cons_zero, List.set_cons_succ])
              refine wpAnyH_take (i := 44) (v := undef) rfl (by kernel_rfl) (by kernel_rfl) (by kernel_rfl) (fun _ _ _ h => h) (Or.inr ⟨by rfl, rfl⟩) (by assumption) ?_
              (try simp only [Act.put, List.getElem_toArray, List.getElem_cons_zero, List.getElem_cons_succ, List.setIfInBounds_toArray, List.set_cons_zero, List.set_cons_succ])
              refine wpAnyH_take (i := 45) (v := undef) rfl (by kernel_rfl) (by kernel_rfl) (by kernel_rfl) (fun _ _ _ h => h) (Or.inr ⟨by rfl, rfl⟩) (by assumption) ?_
              (try simp only [Act.put, List.getElem_toArray, List.getElem_cons_zero, List.getElem_cons_succ, List.setIfInBounds_toArray, List.set_cons_zero, List.set_cons_succ])
              refine wpAnyH_take (i := 46) (v := undef) rfl (by kernel_rfl) (by kernel_rfl) (by kernel_rfl) (fun _ _ _ h => h) (Or.inr ⟨by rfl, rfl⟩) (by assumption) ?_
              (try simp only [Act.put, List.getElem_toArray, List.getElem_cons_zero, List.getElem_cons_succ, List.setIfInBounds_toArray, List.set_cons_zero, List.set_cons_succ])
              refine wpAnyH_take (i := 47) (v := undef) rfl (by kernel_rfl) (by kernel_rfl) (by kernel_rfl) (fun _ _ _ h => h) (Or.inr ⟨by rfl, rfl⟩) (by assumption) ?_
              (try simp only [Act.put, List.getElem_toArray, List.getElem_cons_zero, List.getElem_cons_succ, List.setIfInBounds_toArray, List.set_cons_zero, List.set_cons_succ])
              refine wpAnyH_take (i := 48) (v := undef) rfl (by kernel_rfl) (by kernel_rfl) (by kernel_rfl) (fun _ _ _ h => h) (Or.inr ⟨by rfl, rfl⟩) (by assumption) ?_
              (try simp only [Act.put, List.getElem_toArray, List.getElem_cons_zero, List.getElem_cons_succ, List.setIfInBounds_toArray, List.set_cons_zero, List.set_cons_succ])
              refine wpAnyH_take (i := 49) (v := undef) rfl (by kernel_rfl) (by kernel_rfl) (by kernel_rfl) (fun _ _ _ h => h) (Or.inr ⟨by rfl, rfl⟩) (by assumption) ?_
              (try simp only [Act.put, List.getElem_toArray, List.getElem_cons_zero, List.getElem_cons_succ, List.setIfInBounds_toArray, List.set_cons_zero, List.set_cons_succ])
              refine wpAnyH_take (i := 50) (v := undef) rfl (by kernel_rfl) (by kernel_rfl) (by kernel_rfl) (fun _ _ _ h => h) (Or.inr ⟨by rfl, rfl⟩) (by assumption) ?_
              (try simp only [Act.put, List.getElem_toArray, List.getElem_cons_zero, List.getElem_cons_succ, List.setIfInBounds_toArray, List.set_cons_zero, List.set_cons_succ])
              refine wpAnyH_take (i := 51) (v := undef) rfl (by kernel_rfl) (by kernel_rfl) (by kernel_rfl) (fun _ _ _ h => h) (Or.inr ⟨by rfl, rfl⟩) (by assumption) ?_
              (try simp only [Act.put, List.getElem_toArray, List.getElem_cons_zero, List.getElem_cons_succ, List.setIfInBounds_toArray, List.set_cons_zero, List.set_cons_succ])
              refine wpAnyH_take (i := 52) (v := undef) rfl (by kernel_rfl) (by kernel_rfl) (by kernel_rfl) (fun _ _ _ h => h) (Or.inr ⟨by rfl, rfl⟩) (by assumption) ?_
              (try simp only [Act.put, List.getElem_toArray, List.getElem_cons_zero, List.getElem_cons_succ, List.setIfInBounds_toArray, List.set_cons_zero, List.set_cons_succ])
              refine wpAnyH_take (i := 53) (v := undef) rfl (by kernel_rfl) (by kernel_rfl) (by kernel_rfl) (fun _ _ _ h => h) (Or.inr ⟨by rfl, rfl⟩) (by assumption) ?_
              (try simp only [Act.put, List.getElem_toArray, List.getElem_cons_zero, List.getElem_cons_succ, List.setIfInBounds_toArray, List.set_cons_zero, List.set_cons_succ])
              refine wpAnyH_take (i := 54) (v := undef) rfl (by kernel_rfl) (by kernel_rfl) (by kernel_rfl) (fun _ _ _ h => h) (Or.inr ⟨by rfl, rfl⟩) (by assumption) ?_
              (try simp only [Act.put, List.getElem_toArray, List.getElem_cons_zero, List.getElem_cons_succ, List.setIfInBounds_toArray, List.set_cons_zero, List.set_cons_succ])
              refine wpAnyH_take (i := 55) (v := undef) rfl (by kernel_rfl) (by kernel_rfl) (by kernel_rfl) (fun _ _ _ h => h) (Or.inr ⟨by rfl, rfl⟩) (by assumption) ?_
              (try simp only [Act.put, List.getElem_toArray, List.getElem_cons_zero, List.getElem_cons_succ, List.setIfInBounds_toArray, List.set_cons_zero, List.set_cons_succ])
              refine wpAnyH_take (i := 56) (v := undef) rfl (by kernel_rfl) (by kernel_rfl) (by kernel_rfl) (fun _ _ _ h => h) (Or.inr ⟨by rfl, rfl⟩) (by assumption) ?_
              (try simp only [Act.put, List.getElem_toArray, List.getElem_cons_zero, List.getElem_cons_succ, List.setIfInBounds_toArray, List.set_cons_zero, List.set_cons_succ])
              refine wpAnyH_take (i := 57) (v := undef) rfl (by kernel_rfl) (by kernel_rfl) (by kernel_rfl) (fun _ _ _ h => h) (Or.inr ⟨by rfl, rfl⟩) (by assumption) ?_
              (try simp only [Act.put, List.getElem_toArray, List.getElem_cons_zero, List.getElem_cons_succ, List.setIfInBounds_toArray, List.set_cons_zero, List.set_cons_succ])
              refine wpAnyH_take (i := 58) (v := undef) rfl (by kernel_rfl) (by kernel_rfl) (by kernel_rfl) (fun _ _ _ h => h) (Or.inr ⟨by rfl, rfl⟩) (by assumption) ?_
              (try simp only [Act.put, List.getElem_toArray, List.getElem_cons_zero, List.getElem_cons_succ, List.setIfInBounds_toArray, List.set_cons_zero, List.set_cons_succ])
              refine' wpAnyH_take (i := 59) (v := _) rfl (by kernel_rfl) (by kernel_rfl) (by kernel_rfl) (fun _ _ _ h => h) (Or.inl ⟨by rfl, ?hy59⟩) (by assumption) ?_
              case hy59 => (intro w' hSw; (try dsimp only at hSw); go_simp; (try with_reducible rfl))
              (try simp only [Act.put, List.getElem_toArray, List.getElem_cons_zero, List.getElem_cons_succ, List.setIfInBounds_toArray, List.set_cons_zero, List.set_cons_succ])
              refine wpAnyH_done (by kernel_rfl) ?_ _
              all_goals
                go_wp2
                go_ret
              all_goals exact ⟨as6, ns6, cs6, (by rw [HRE.out]; rfl), by rw [HRE.out]; exact hM6, mapS_chain hk2 ha2 hk6, asl_chain hk2.size ha2 ha6⟩
            | true =>
              obtain ⟨RB, hRB⟩ : ∃ RB, F X2 V2 S6 = RB := ⟨_, rfl⟩
              have hB : AssR n ts us X2 V2 S6.1 S6.2.2 RB.1 RB.2.1 RB.2.2.1 RB.2.2.2 := by have := HOK.out X2 V2 S6 HML6.out t2 s2 HS6.out; rw [hRB] at this; exact this
              obtain ⟨r7, S7⟩ := RB
              have HM7 : Hid (Mp S7.1 y u) := Lib.hid (hB.ex.2 y u hy HM6.out)
              have hQ4 : (if (F X2 V2 S6).1 then lpK F ts us x v y u (K - (k + 1)) (k + 1) (F X2 V2 S6).2 else (false, (F X2 V2 S6).2)) = Q := hQ3
              rw [hRB] at hQ4
              have HRA := Lib.hid hRA; have HRB := Lib.hid hRB
              have HAA := Lib.hid hA
              clear hRA hRB hQ3 hA
              cases r7 with
              | false =>
                have hQe : (false, S7) = Q := hQ4
                have HRE : Hid (R = (false, S7)) := Lib.hid (by have := HRQ.out; rw [← hQe] at this; exact this.symm)
                clear hB hQ4 hQe
                go_upto_region 14 with fail
                refine wp_region_held_drew (S := (fun w' => w'.cell? ⟨mb, 1, none⟩ = some (.slice (some ⟨gt, 0, none⟩) K kt) ∧ w'.cell? ⟨mb, 2, none⟩ = some (.slice (some ⟨bi, 0, none⟩) n n) ∧ w'.cell? ⟨bi, y, none⟩ = some (.int .i64 (u : Int)) ∧ w'.cell? ⟨b1, o1 + x, none⟩ = some (.slice (some ⟨A1 x, O1 x, none⟩) n (C1 x)) ∧ w'.cell? ⟨A1 x, O1 x + y, none⟩ = some (.int .i64 (X1 : Int)) ∧ w'.cell? ⟨b1, o1 + y, none⟩ = some (.slice (some ⟨A1 y, O1 y, none⟩) n (C1 y)) ∧ w'.cell? ⟨A1 y, O1 y + x, none⟩ = some (.int .i64 (X2 : Int)) ∧ w'.cell? ⟨gt, k, none⟩ = some (.slice (some ⟨b2, o2, none⟩) n (DC k)) ∧ w'.cell? ⟨b2, o2 + v, none⟩ = some (.slice (some ⟨A2 v, O2 v, none⟩) n (C2 v)) ∧ w'.cell? ⟨A2 v, O2 v + u, none⟩ = some (.int .i64 (V1 : Int)) ∧ w'.cell? ⟨b2, o2 + u, none⟩ = some (.slice (some ⟨A2 u, O2 u, none⟩) n (C2 u)) ∧ w'.cell? ⟨A2 u, O2 u + v, none⟩ = some (.int .i64 (V2 : Int)))) (by kernel_rfl) (by (try dsimp only); first | exact hq1 | go_keep) (fun hHeld1 => ?_)
                refine' wpAnyH_take (i := 0) (v := _) rfl (by kernel_rfl) (by kernel_rfl) (by kernel_rfl) (fun _ _ _ h => h) (Or.inl ⟨by rfl, ?hy0⟩) (by assumption) ?_
                case hy0 => (intro w' hSw; (try dsimp only at hSw); go_simp; (try with_reducible rfl))
                (try simp only [Act.put, List.getElem_toArray, List.getElem_cons_zero, List.getElem_cons_succ, List.setIfInBounds_toArray, List.set_cons_zero, List.set_cons_succ])
                refine' wpAnyH_take (i := 1) (v := _) rfl (by kernel_rfl) (by kernel_rfl) (by kernel_rfl) (fun _ _ _ h => h) (Or.inl ⟨by rfl, ?hy1⟩) (by assumption) ?_
                case hy1 => (intro w' hSw; (try dsimp only at hSw); go_simp; (try with_reducible rfl))
                (try simp only [Act.put, List.getElem_toArray, List.getElem_cons_zero, List.getElem_cons_succ, List.setIfInBounds_toArray, List.set_cons_zero, List.set_cons_succ])
                refine' wpAnyH_take (i := 2) (v := _) rfl (by kernel_rfl) (by kernel_rfl) (by kernel_rfl) (fun _ _ _ h => h) (Or.inl ⟨by rfl, ?hy2⟩) (by assumption) ?_
                case hy2 => (intro w' hSw; (try dsimp only at hSw); go_simp; (try with_reducible rfl))
                (try simp only [Act.put, List.getElem_toArray, List.getElem_cons_zero, List.getElem_cons_succ, List.setIfInBounds_toArray, List.set_cons_zero, List.set_cons_succ])
                refine' wpAnyH_take (i := 3) (v := _) rfl (by kernel_rfl) (by kernel_rfl) (by kernel_rfl) (fun _ _ _ h => h) (Or.inl ⟨by rfl, ?hy3⟩) (by assumption) ?_
                case hy3 => (intro w' hSw; (try dsimp only at hSw); go_simp; (try with_reducible rfl))
                (try simp only [Act.put, List.getElem_toArray, List.getElem_cons_zero, List.getElem_cons_succ, List.setIfInBounds_toArray, List.set_cons_zero, List.set_cons_succ])
                refine' wpAnyH_take (i := 4) (v := _) rfl (by kernel_rfl) (by kernel_rfl) (by kernel_rfl) (fun _ _ _ h => h) (Or.inl ⟨by rfl, ?hy4⟩) (by assumption) ?_
                case hy4 => (intro w' hSw; (try dsimp only at hSw); go_simp; (try with_reducible rfl))
                (try simp only [Act.put, List.getElem_toArray, List.getElem_cons_zero, List.getElem_cons_succ, List.setIfInBounds_toArray, List.set_cons_zero, List.set_cons_succ])
                refine' wpAnyH_take (i := 5) (v := _) rfl (by kernel_rfl) (by kernel_rfl) (by kernel_rfl) (fun _ _ _ h => h) (Or.inl ⟨by rfl, ?hy5⟩) (by assumption) ?_
                case hy5 => (intro w' hSw; (try dsimp only at hSw); go_simp; (try with_reducible rfl))
                (try simp only [Act.put, List.getElem_toArray, List.getElem_cons_zero, List.getElem_cons_succ, List.setIfInBounds_toArray, List.set_cons_zero, List.set_cons_succ])
                refine' wpAnyH_take (i := 6) (v := _) rfl (by kernel_rfl) (by kernel_rfl) (by kernel_rfl) (fun _ _ _ h => h) (Or.inl ⟨by rfl, ?hy6⟩) (by assumption) ?_
                case hy6 => (intro w' hSw; (try dsimp only at hSw); go_simp; (try with_reducible rfl))
                (try simp only [Act.put, List.getElem_toArray, List.getElem_cons_zero, List.getElem_cons_succ, List.setIfInBounds_toArray, List.set_cons_zero, List.set_cons_succ])
                refine' wpAnyH_take (i := 7) (v := _) rfl (by kernel_rfl) (by kernel_rfl) (by kernel_rfl) (fun _ _ _ h => h) (Or.inl ⟨by rfl, ?hy7⟩) (by assumption) ?_
                case hy7 => (intro w' hSw; (try dsimp only at hSw); go_simp; (try with_reducible rfl))
                (try simp only [Act.put, List.getElem_toArray, List.getElem_cons_zero, List.getElem_cons_succ, List.setIfInBounds_toArray, List.set_cons_zero, List.set_cons_succ])
                refine' wpAnyH_take (i := 8) (v := _) rfl (by kernel_rfl) (by kernel_rfl) (by kernel_rfl) (fun _ _ _ h => h) (Or.inl ⟨by rfl, ?hy8⟩) (by assumption) ?_
                case hy8 => (intro w' hSw; (try dsimp only at hSw); go_simp; (try with_reducible rfl))
                (try simp only [Act.put, List.getElem_toArray, List.getElem_cons_zero, List.getElem_cons_succ, List.setIfInBounds_toArray, List.set_cons_zero, List.set_cons_succ])
                refine' wpAnyH_take (i := 9) (v := _) rfl (by kernel_rfl) (by kernel_rfl) (by kernel_rfl) (fun _ _ _ h => h) (Or.inl ⟨by rfl, ?hy9⟩) (by assumption) ?_
                case hy9 => (intro w' hSw; (try dsimp only at hSw); go_simp; (try with_reducible rfl))
                (try simp only [Act.put, List.getElem_toArray, List.getElem_cons_zero, List.getElem_cons_succ, List.setIfInBounds_toArray, List.set_cons_zero, List.set_cons_succ])
                refine' wpAnyH_take (i := 10) (v := _) rfl (by kernel_rfl) (by kernel_rfl) (by kernel_rfl) (fun _ _ _ h => h) (Or.inl ⟨by rfl, ?hy10⟩) (by assumption) ?_
                case hy10 => (intro w' hSw; (try dsimp only at hSw); go_simp; (try with_reducible rfl))
                (try simp only [Act.put, List.getElem_toArray, List.getElem_cons_zero, List.getElem_cons_succ, List.setIfInBounds_toArray, List.set_cons_zero, List.set_cons_succ])
                refine' wpAnyH_take (i := 11) (v := _) rfl (by kernel_rfl) (by kernel_rfl) (by kernel_rfl) (fun _ _ _ h => h) (Or.inl ⟨by rfl, ?hy11⟩) (by assumption) ?_
                case hy11 => (intro w' hSw; (try dsimp only at hSw); go_simp; (try with_reducible rfl))
                (try simp only [Act.put, List.getElem_toArray, List.getElem_cons_zero, List.getElem_cons_succ, List.setIfInBounds_toArray, List.set_cons_zero, List.set_cons_succ])
                refine' wpAnyH_take (i := 12) (v := _) rfl (by kernel_rfl) (by kernel_rfl) (by kernel_rfl) (fun _ _ _ h => h) (Or.inl ⟨by rfl, ?hy12⟩) (by assumption) ?_
                case hy12 => (intro w' hSw; (try dsimp only at hSw); go_simp; (try with_reducible rfl))
                (try simp only [Act.put, List.getElem_toArray, List.getElem_cons_zero, List.getElem_cons_succ, List.setIfInBounds_toArray, List.set_cons_zero, List.set_cons_succ])
                refine' wpAnyH_take (i := 13) (v := _) rfl (by kernel_rfl) (by kernel_rfl) (by kernel_rfl) (fun _ _ _ h => h) (Or.inl ⟨by rfl, ?hy13⟩) (by assumption) ?_
                case hy13 => (intro w' hSw; (try dsimp only at hSw); go_simp; (try with_reducible rfl))
                (try simp only [Act.put, List.getElem_toArray, List.getElem_cons_zero, List.getElem_cons_succ, List.setIfInBounds_toArray, List.set_cons_zero, List.set_cons_succ])
                refine' wpAnyH_take (i := 14) (v := _) rfl (by kernel_rfl) (by kernel_rfl) (by kernel_rfl) (fun _ _ _ h => h) (Or.inl ⟨by rfl, ?hy14⟩) (by assumption) ?_
                case hy14 => (intro w' hSw; (try dsimp only at hSw); go_simp; (try with_reducible rfl))
                (try simp only [Act.put, List.getElem_toArray, List.getElem_cons_zero, List.getElem_cons_succ, List.setIfInBounds_toArray, List.set_cons_zero, List.set_cons_succ])
                refine' wpAnyH_take (i := 15) (v := _) rfl (by kernel_rfl) (by kernel_rfl) (by kernel_rfl) (fun _ _ _ h => h) (Or.inl ⟨by rfl, ?hy15⟩) (by assumption) ?_
                case hy15 => (intro w' hSw; (try dsimp only at hSw); go_simp; (try with_reducible rfl))
                (try simp only [Act.put, List.getElem_toArray, List.getElem_cons_zero, List.getElem_cons_succ, List.setIfInBounds_toArray, List.set_cons_zero, List.set_cons_succ])
                refine' wpAnyH_take (i := 16) (v := _) rfl (by kernel_rfl) (by kernel_rfl) (by kernel_rfl) (fun _ _ _ h => h) (Or.inl ⟨by rfl, ?hy16⟩) (by assumption) ?_
                case hy16 => (intro w' hSw; (try dsimp only at hSw); go_simp; (try with_reducible rfl))
                (try simp only [Act.put, List.getElem_toArray, List.getElem_cons_zero, List.getElem_cons_succ, List.setIfInBounds_toArray, List.set_cons_zero, List.set_cons_succ])
                refine' wpAnyH_take (i := 17) (v := _) rfl (by kernel_rfl) (by kernel_rfl) (by kernel_rfl) (fun _ _ _ h => h) (Or.inl ⟨by rfl, ?hy17⟩) (by assumption) ?_
                case hy17 => (intro w' hSw; (try dsimp only at hSw); go_simp; (try with_reducible rfl))
                (try simp only [Act.put, List.getElem_toArray, List.getElem_cons_zero, List.getElem_cons_succ, List.setIfInBounds_toArray, List.set_cons_zero, List.set_cons_succ])
                refine' wpAnyH_take (i := 18) (v := _) rfl (by kernel_rfl) (by kernel_rfl) (by kernel_rfl) (fun _ _ _ h => h) (Or.inl ⟨by rfl, ?hy18⟩) (by assumption) ?_
                case hy18 => (intro w' hSw; (try dsimp only at hSw); go_simp; (try with_reducible rfl))
                (try simp only [Act.put, List.getElem_toArray, List.getElem_cons_zero, List.getElem_cons_succ, List.setIfInBounds_toArray, List.set_cons_zero, List.set_cons_succ])
                refine' wpAnyH_take (i := 19) (v := _) rfl (by kernel_rfl) (by kernel_rfl) (by kernel_rfl) (fun _ _ _ h => h) (Or.inl ⟨by rfl, ?hy19⟩) (by assumption) ?_
                case hy19 => (intro w' hSw; (try dsimp only at hSw); go_simp; (try with_reducible rfl))
                (try simp only [Act.put, List.getElem_toArray, List.getElem_cons_zero, List.getElem_cons_succ, List.setIfInBounds_toArray, List.set_cons_zero, List.set_cons_succ])
                refine' wpAnyH_take (i := 20) (v := _) rfl (by kernel_rfl) (by kernel_rfl) (by kernel_rfl) (fun _ _ _ h => h) (Or.inl ⟨by rfl, ?hy20⟩) (by assumption) ?_
                case hy20 => (intro w' hSw; (try dsimp only at hSw); go_simp; (try with_reducible rfl))
                (try simp only [Act.put, List.getElem_toArray, List.getElem_cons_zero, List.getElem_cons_succ, List.setIfInBounds_toArray, List.set_cons_zero, List.set_cons_succ])
                refine' wpAnyH_take (i := 21) (v := _) rfl (by kernel_rfl) (by kernel_rfl) (by kernel_rfl) (fun _ _ _ h => h) (Or.inl ⟨by rfl, ?hy21⟩) (by assumption) ?_
                case hy21 => (intro w' hSw; (try dsimp only at hSw); go_simp; (try with_reducible rfl))
                (try simp only [Act.put, List.getElem_toArray, List.getElem_cons_zero, List.getElem_cons_succ, List.setIfInBounds_toArray, List.set_cons_zero, List.set_cons_succ])
                refine' wpAnyH_take (i := 22) (v := _) rfl (by kernel_rfl) (by kernel_rfl) (by kernel_rfl) (fun _ _ _ h => h) (Or.inl ⟨by rfl, ?hy22⟩) (by assumption) ?_
                case hy22 => (intro w' hSw; (try dsimp only at hSw); go_simp; (try with_reducible rfl))
                (try simp only [Act.put, List.getElem_toArray, List.getElem_cons_zero, List.getElem_cons_succ, List.setIfInBounds_toArray, List.set_cons_zero, List.set_cons_succ])
                refine' wpAnyH_take (i := 23) (v := _) rfl (by kernel_rfl) (by kernel_rfl) (by kernel_rfl) (fun _ _ _ h => h) (Or.inl ⟨by rfl, ?hy23⟩) (by assumption) ?_
                case hy23 => (intro w' hSw; (try dsimp only at hSw); go_simp; (try with_reducible rfl))
                (try simp only [Act.put, List.getElem_toArray, List.getElem_cons_zero, List.getElem_cons_succ, List.setIfInBounds_toArray, List.set_cons_zero, List.set_cons_succ])
                refine' wpAnyH_take (i := 24) (v := _) rfl (by kernel_rfl) (by kernel_rfl) (by kernel_rfl) (fun _ _ _ h => h) (Or.inl ⟨by rfl, ?hy24⟩) (by assumption) ?_
                case hy24 => (intro w' hSw; (try dsimp only at hSw); go_simp; (try with_reducible rfl))
                (try simp only [Act.put, List.getElem_toArray, List.getElem_cons_zero, List.getElem_cons_succ, List.setIfInBounds_toArray, List.set_cons_zero, List.set_cons_succ])
                refine' wpAnyH_take (i := 25) (v := _) rfl (by kernel_rfl) (by kernel_rfl) (by kernel_rfl) (fun _ _ _ h => h) (Or.inl ⟨by rfl, ?hy25⟩) (by assumption) ?_
                case hy25 => (intro w' hSw; (try dsimp only at hSw); go_simp; (try with_reducible rfl))
                (try simp only [Act.put, List.getElem_toArray, List.getElem_cons_zero, List.getElem_cons_succ, List.setIfInBounds_toArray, List.set_cons_zero, List.set_cons_succ])
                refine' wpAnyH_take (i := 26) (v := _) rfl (by kernel_rfl) (by kernel_rfl) (by kernel_rfl) (fun _ _ _ h => h) (Or.inl ⟨by rfl, ?hy26⟩) (by assumption) ?_
                case hy26 => (intro w' hSw; (try dsimp only at hSw); go_simp; (try with_reducible rfl))
                (try simp only [Act.put, List.getElem_toArray, List.getElem_cons_zero, List.getElem_cons_succ, List.setIfInBounds_toArray, List.set_cons_zero, List.set_cons_succ])
                refine wpAnyH_ready (rs := [27]) (by kernel_rfl) (by simp) ?_
                refine AllReadyH.cons rfl (fun K' hK' => ?_) AllReadyH.nil
                go_simp
                (go_at_call 130; have hia := IH.out X1 V1 _ as2 ns2 cs2 im2 ud2 st2 HML.out t1 s1 (hM2.drewN 1) HL2.out.ms; rw [HRA.out] at hia; dsimp only at hia; refine hia.mono ?_; rintro e w6 ⟨as6, ns6, cs6, rfl, hM6, hk6', ha6⟩; have hk6 := mk_drew hk6'; have hq6 := HP.out w6 as6 ns6 cs6 S6.1 S6.2.1 S6.2.2 hM6 HM6.out; clear hk6' hia)
                refine hK'.out _ _ (by (try dsimp only); exact hq6) (fun hHeld2 => ?_)
                clear hK' K' hHeld1
                (try simp only [Act.put, List.getElem_toArray, List.getElem_cons_zero, List.getElem_cons_succ, List.setIfInBounds_toArray, List.set_cons_zero, List.set_cons_succ])
                refine' wpAnyH_take (i := 28) (v := _) rfl (by kernel_rfl) (by kernel_rfl) (by kernel_rfl) (fun _ _ _ h => h) (Or.inl ⟨by rfl, ?hy28⟩) (by assumption) ?_
                case hy28 => (intro w' hSw; (try dsimp only at hSw); go_simp; (try with_reducible rfl))
                (try simp only [Act.put, List.getElem_toArray, List.getElem_cons_zero, List.getElem_cons_succ, List.setIfInBounds_toArray, List.set_cons_zero, List.set_cons_succ])
                refine' wpAnyH_take (i := 29) (v := _) rfl (by kernel_rfl) (by kernel_rfl) (by kernel_rfl) (fun _ _ _ h => h) (Or.inl ⟨by rfl, ?hy29⟩) (by assumption) ?_
                case hy29 => (intro w' hSw; (try dsimp only at hSw); go_simp; (try with_reducible rfl))
                (try simp only [Act.put, List.getElem_toArray, List.getElem_cons_zero, List.getElem_cons_succ, List.setIfInBounds_toArray, List.set_cons_zero, List.set_cons_succ])
                refine' wpAnyH_take (i := 30) (v := _) rfl (by kernel_rfl) (by kernel_rfl) (by kernel_rfl) (fun _ _ _ h => h) (Or.inl ⟨by rfl, ?hy30⟩) (by assumption) ?_
                case hy30 => (intro w' hSw; (try dsimp only at hSw); go_simp; (try with_reducible rfl))
                (try simp only [Act.put, List.getElem_toArray, List.getElem_cons_zero, List.getElem_cons_succ, List.setIfInBounds_toArray, List.set_cons_zero, List.set_cons_succ])
                refine' wpAnyH_take (i := 31) (v := _) rfl (by kernel_rfl) (by kernel_rfl) (by kernel_rfl) (fun _ _ _ h => h) (Or.inl ⟨by rfl, ?hy31⟩) (by assumption) ?_
                case hy31 => (intro w' hSw; (try dsimp only at hSw); go_simp; (try with_reducible rfl))
                (try simp only [Act.put, List.getElem_toArray, List.getElem_cons_zero, List.getElem_cons_succ, List.setIfInBounds_toArray, List.set_cons_zero, List.set_cons_succ])
                refine' wpAnyH_take (i := 32) (v := _) rfl (by kernel_rfl) (by kernel_rfl) (by kernel_rfl) (fun _ _ _ h => h) (Or.inl ⟨by rfl, ?hy32⟩) (by assumption) ?_
                case hy32 => (intro w' hSw; (try dsimp only at hSw); go_simp; (try with_reducible rfl))
                (try simp only [Act.put, List.getElem_toArray, List.getElem_cons_zero, List.getElem_cons_succ, List.setIfInBounds_toArray, List.set_cons_zero, List.set_cons_succ])
                refine' wpAnyH_take (i := 33) (v := _) rfl (by kernel_rfl) (by kernel_rfl) (by kernel_rfl) (fun _ _ _ h => h) (Or.inl ⟨by rfl, ?hy33⟩) (by assumption) ?_
                case hy33 => (intro w' hSw; (try dsimp only at hSw); go_simp; (try with_reducible rfl))
                (try simp only [Act.put, List.getElem_toArray, List.getElem_cons_zero, List.getElem_cons_succ, List.setIfInBounds_toArray, List.set_cons_zero, List.set_cons_succ])
                refine' wpAnyH_take (i := 34) (v := _) rfl (by kernel_rfl) (by kernel_rfl) (by kernel_rfl) (fun _ _ _ h => h) (Or.inl ⟨by rfl, ?hy34⟩) (by assumption) ?_
                case hy34 => (intro w' hSw; (try dsimp only at hSw); go_simp; (try with_reducible rfl))
                (try simp only [Act.put, List.getElem_toArray, List.getElem_cons_zero, List.getElem_cons_succ, List.setIfInBounds_toArray, List.set_cons_zero, List.set_cons_succ])
                refine' wpAnyH_take (i := 35) (v := _) rfl (by kernel_rfl) (by kernel_rfl) (by kernel_rfl) (fun _ _ _ h => h) (Or.inl ⟨by rfl, ?hy35⟩) (by assumption) ?_
                case hy35 => (intro w' hSw; (try dsimp only at hSw); go_simp; (try with_reducible rfl))
                (try simp only [Act.put, List.getElem_toArray, List.getElem_cons_zero, List.getElem_cons_succ, List.setIfInBounds_toArray, List.set_cons_zero, List.set_cons_succ])
                refine' wpAnyH_take (i := 36) (v := _) rfl (by kernel_rfl) (by kernel_rfl) (by kernel_rfl) (fun _ _ _ h => h) (Or.inl ⟨by rfl, ?hy36⟩) (by assumption) ?_
                case hy36 => (intro w' hSw; (try dsimp only at hSw); go_simp; (try with_reducible rfl))
                (try simp only [Act.put, List.getElem_toArray, List.getElem_cons_zero, List.getElem_cons_succ, List.setIfInBounds_toArray, List.set_cons_zero, List.set_cons_succ])
                refine' wpAnyH_take (i := 37) (v := _) rfl (by kernel_rfl) (by kernel_rfl) (by kernel_rfl) (fun _ _ _ h => h) (Or.inl ⟨by rfl, ?hy37⟩) (by assumption) ?_
                case hy37 => (intro w' hSw; (try dsimp only at hSw); go_simp; (try with_reducible rfl))
                (try simp only [Act.put, List.getElem_toArray, List.getElem_cons_zero, List.getElem_cons_succ, List.setIfInBounds_toArray, List.set_cons_zero, List.set_cons_succ])
                refine' wpAnyH_take (i := 38) (v := _) rfl (by kernel_rfl) (by kernel_rfl) (by kernel_rfl) (fun _ _ _ h => h) (Or.inl ⟨by rfl, ?hy38⟩) (by assumption) ?_
                case hy38 => (intro w' hSw; (try dsimp only at hSw); go_simp; (try with_reducible rfl))
                (try simp only [Act.put, List.getElem_toArray, List.getElem_cons_zero, List.getElem_cons_succ, List.setIfInBounds_toArray, List.set_cons_zero, List.set_cons_succ])
                refine' wpAnyH_take (i := 39) (v := _) rfl (by kernel_rfl) (by kernel_rfl) (by kernel_rfl) (fun _ _ _ h => h) (Or.inl ⟨by rfl, ?hy39⟩) (by assumption) ?_
                case hy39 => (intro w' hSw; (try dsimp only at hSw); go_simp; (try with_reducible rfl))
                (try simp only [Act.put, List.getElem_toArray, List.getElem_cons_zero, List.getElem_cons_succ, List.setIfInBounds_toArray, List.set_cons_zero, List.set_cons_succ])
                refine' wpAnyH_take (i := 40) (v := _) rfl (by kernel_rfl) (by kernel_rfl) (by kernel_rfl) (fun _ _ _ h => h) (Or.inl ⟨by rfl, ?hy40⟩) (by assumption) ?_
                case hy40 => (intro w' hSw; (try dsimp only at hSw); go_simp; (try with_reducible rfl))
                (try simp only [Act.put, List.getElem_toArray, List.getElem_cons_zero, List.getElem_cons_succ, List.setIfInBounds_toArray, List.set_cons_zero, List.set_cons_succ])
                refine' wpAnyH_take (i := 41) (v := _) rfl (by kernel_rfl) (by kernel_rfl) (by kernel_rfl) (fun _ _ _ h => h) (Or.inl ⟨by rfl, ?hy41⟩) (by assumption) ?_
                case hy41 => (intro w' hSw; (try dsimp only at hSw); go_simp; (try with_reducible rfl))
                (try simp only [Act.put, List.getElem_toArray, List.getElem_cons_zero, List.getElem_cons_succ, List.setIfInBounds_toArray, List.set_cons_zero, List.set_cons_succ])
                refine' wpAnyH_take (i := 42) (v := _) rfl (by kernel_rfl) (by kernel_rfl) (by kernel_rfl) (fun _ _ _ h => h) (Or.inl ⟨by rfl, ?hy42⟩) (by assumption) ?_
                case hy42 => (intro w' hSw; (try dsimp only at hSw); go_simp; (try with_reducible rfl))
                (try simp only [Act.put, List.getElem_toArray, List.getElem_cons_zero, List.getElem_cons_succ, List.setIfInBounds_toArray, List.set_cons_zero, List.set_cons_succ])
                refine' wpAnyH_take (i := 43) (v := _) rfl (by kernel_rfl) (by kernel_rfl) (by kernel_rfl) (fun _ _ _ h => h) (Or.inl ⟨by rfl, ?hy43⟩) (by assumption) ?_
                case hy43 => (intro w' hSw; (try dsimp only at hSw); go_simp; (try with_reducible rfl))
                (try simp only [Act.put, List.getElem_toArray, List.getElem_cons_zero, List.getElem_cons_succ, List.setIfInBounds_toArray, List.set_cons_zero, List.set_cons_succ])
                refine' wpAnyH_take (i := 44) (v := _) rfl (by kernel_rfl) (by kernel_rfl) (by kernel_rfl) (fun _ _ _ h => h) (Or.inl ⟨by rfl, ?hy44⟩) (by assumption) ?_
                case hy44 => (intro w' hSw; (try dsimp only at hSw); go_simp; (try with_reducible rfl))
                (try simp only [Act.put, List.getElem_toArray, List.getElem_cons_zero, List.getElem_cons_succ, List.setIfInBounds_toArray, List.set_cons_zero, List.set_cons_succ])
                refine' wpAnyH_take (i := 45) (v := _) rfl (by kernel_rfl) (by kernel_rfl) (by kernel_rfl) (fun _ _ _ h => h) (Or.inl ⟨by rfl, ?hy45⟩) (by assumption) ?_
                case hy45 => (intro w' hSw; (try dsimp only at hSw); go_simp; (try with_reducible rfl))
                (try simp only [Act.put, List.getElem_toArray, List.getElem_cons_zero, List.getElem_cons_succ, List.setIfInBounds_toArray, List.set_cons_zero, List.set_cons_succ])
                refine' wpAnyH_take (i := 46) (v := _) rfl (by kernel_rfl) (by kernel_rfl) (by kernel_rfl) (fun _ _ _ h => h) (Or.inl ⟨by rfl, ?hy46⟩) (by assumption) ?_
                case hy46 => (intro w' hSw; (try dsimp only at hSw); go_simp; (try with_reducible rfl))
                (try simp only [Act.put, List.getElem_toArray, List.getElem_cons_zero, List.getElem_cons_succ, List.setIfInBounds_toArray, List.set_cons_zero, List.set_cons_succ])
                refine' wpAnyH_take (i := 47) (v := _) rfl (by kernel_rfl) (by kernel_rfl) (by kernel_rfl) (fun _ _ _ h => h) (Or.inl ⟨by rfl, ?hy47⟩) (by assumption) ?_
                case hy47 => (intro w' hSw; (try dsimp only at hSw); go_simp; (try with_reducible rfl))
                (try simp only [Act.put, List.getElem_toArray, List.getElem_cons_zero, List.getElem_cons_succ, List.setIfInBounds_toArray, List.set_cons_zero, List.set_cons_succ])
                refine' wpAnyH_take (i := 48) (v := _) rfl (by kernel_rfl) (by kernel_rfl) (by kernel_rfl) (fun _ _ _ h => h) (Or.inl ⟨by rfl, ?hy48⟩) (by assumption) ?_
                case hy48 => (intro w' hSw; (try dsimp only at hSw); go_simp; (try with_reducible rfl))
                (try simp only [Act.put, List.getElem_toArray, List.getElem_cons_zero, List.getElem_cons_succ, List.setIfInBounds_toArray, List.set_cons_zero, List.set_cons_succ])
                refine' wpAnyH_take (i := 49) (v := _) rfl (by kernel_rfl) (by kernel_rfl) (by kernel_rfl) (fun _ _ _ h => h) (Or.inl ⟨by rfl, ?hy49⟩) (by assumption) ?_
                case hy49 => (intro w' hSw; (try dsimp only at hSw); go_simp; (try with_reducible rfl))
                (try simp only [Act.put, List.getElem_toArray, List.getElem_cons_zero, List.getElem_cons_succ, List.setIfInBounds_toArray, List.set_cons_zero, List.set_cons_succ])
                refine' wpAnyH_take (i := 50) (v := _) rfl (by kernel_rfl) (by kernel_rfl) (by kernel_rfl) (fun _ _ _ h => h) (Or.inl ⟨by rfl, ?hy50⟩) (by assumption) ?_
                case hy50 => (intro w' hSw; (try dsimp only at hSw); go_simp; (try with_reducible rfl))
                (try simp only [Act.put, List.getElem_toArray, List.getElem_cons_zero, List.getElem_cons_succ, List.setIfInBounds_toArray, List.set_cons_zero, List.set_cons_succ])
                refine' wpAnyH_take (i := 51) (v := _) rfl (by kernel_rfl) (by kernel_rfl) (by kernel_rfl) (fun _ _ _ h => h) (Or.inl ⟨by rfl, ?hy51⟩) (by assumption) ?_
                case hy51 => (intro w' hSw; (try dsimp only at hSw); go_simp; (try with_reducible rfl))
                (try simp only [Act.put, List.getElem_toArray, List.getElem_cons_zero, List.getElem_cons_succ, List.setIfInBounds_toArray, List.set_cons_zero, List.set_cons_succ])
                refine' wpAnyH_take (i := 52) (v := _) rfl (by kernel_rfl) (by kernel_rfl) (by kernel_rfl) (fun _ _ _ h => h) (Or.inl ⟨by rfl, ?hy52⟩) (by assumption) ?_
                case hy52 => (intro w' hSw; (try dsimp only at hSw); go_simp; (try with_reducible rfl))
                (try simp only [Act.put, List.getElem_toArray, List.getElem_cons_zero, List.getElem_cons_succ, List.setIfInBounds_toArray, List.set_cons_zero, List.set_cons_succ])
                refine' wpAnyH_take (i := 53) (v := _) rfl (by kernel_rfl) (by kernel_rfl) (by kernel_rfl) (fun _ _ _ h => h) (Or.inl ⟨by rfl, ?hy53⟩) (by assumption) ?_
                case hy53 => (intro w' hSw; (try dsimp only at hSw); go_simp; (try with_reducible rfl))
                (try simp only [Act.put, List.getElem_toArray, List.getElem_cons_zero, List.getElem_cons_succ, List.setIfInBounds_toArray, List.set_cons_zero, List.set_cons_succ])
                refine' wpAnyH_take (i := 54) (v := _) rfl (by kernel_rfl) (by kernel_rfl) (by kernel_rfl) (fun _ _ _ h => h) (Or.inl ⟨by rfl, ?hy54⟩) (by assumption) ?_
                case hy54 => (intro w' hSw; (try dsimp only at hSw); go_simp; (try with_reducible rfl))
                (try simp only [Act.put, List.getElem_toArray, List.getElem_cons_zero, List.getElem_cons_succ, List.setIfInBounds_toArray, List.set_cons_zero, List.set_cons_succ])
                refine' wpAnyH_take (i := 55) (v := _) rfl (by kernel_rfl) (by kernel_rfl) (by kernel_rfl) (fun _ _ _ h => h) (Or.inl ⟨by rfl, ?hy55⟩) (by assumption) ?_
                case hy55 => (intro w' hSw; (try dsimp only at hSw); go_simp; (try with_reducible rfl))
                (try simp only [Act.put, List.getElem_toArray, List.getElem_cons_zero, List.getElem_cons_succ, List.setIfInBounds_toArray, List.set_cons_zero, List.set_cons_succ])
                refine' wpAnyH_take (i := 56) (v := _) rfl (by kernel_rfl) (by kernel_rfl) (by kernel_rfl) (fun _ _ _ h => h) (Or.inl ⟨by rfl, ?hy56⟩) (by assumption) ?_
                case hy56 => (intro w' hSw; (try dsimp only at hSw); go_simp; (try with_reducible rfl))
                (try simp only [Act.put, List.getElem_toArray, List.getElem_cons_zero, List.getElem_cons_succ, List.setIfInBounds_toArray, List.set_cons_zero, List.set_cons_succ])
                refine wpAnyH_ready (rs := [57]) (by kernel_rfl) (by simp) ?_
                refine AllReadyH.cons rfl (fun K' hK' => ?_) AllReadyH.nil
                go_simp
                (go_at_call 130; have hib := IH.out X2 V2 w6 as6 ns6 cs6 S6.1 S6.2.1 S6.2.2 HML6.out t2 s2 hM6 HS6.out; rw [HRB.out] at hib; dsimp only at hib; refine hib.mono ?_; rintro e w7 ⟨as7, ns7, cs7, rfl, hM7, hk7, ha7⟩; have hq7 := HP.out w7 as7 ns7 cs7 S7.1 S7.2.1 S7.2.2 hM7 HM7.out; clear hib)
                refine hK'.out _ _ (by (try dsimp only); exact hq7) (fun hHeld3 => ?_)
                clear hK' K' hHeld2
                (try simp only [Act.put, List.getElem_toArray, List.getElem_cons_zero, List.getElem_cons_succ, List.setIfInBounds_toArray, List.set_cons_zero, List.set_cons_succ])
                refine' wpAnyH_take (i := 58) (v := _) rfl (by kernel_rfl) (by kernel_rfl) (by kernel_rfl) (fun _ _ _ h => h) (Or.inl ⟨by rfl, ?hy58⟩) (by assumption) ?_
                case hy58 => (intro w' hSw; (try dsimp only at hSw); go_simp; (try with_reducible rfl))
                (try simp only [Act.put, List.getElem_toArray, List.getElem_cons_zero, List.getElem_cons_succ, List.setIfInBounds_toArray, List.set_cons_zero, List.set_cons_succ])
                refine' wpAnyH_take (i := 59) (v := _) rfl (by kernel_rfl) (by kernel_rfl) (by kernel_rfl) (fun _ _ _ h => h) (Or.inl ⟨by rfl, ?hy59⟩) (by assumption) ?_
                case hy59 => (intro w' hSw; (try dsimp only at hSw); go_simp; (try with_reducible rfl))
                (try simp only [Act.put, List.getElem_toArray, List.getElem_cons_zero, List.getElem_cons_succ, List.setIfInBounds_toArray, List.set_cons_zero, List.set_cons_succ])
                refine wpAnyH_done (by kernel_rfl) ?_ _
                all_goals
                  go_wp2
                  go_ret
                all_goals exact ⟨as7, ns7, cs7, (by rw [HRE.out]; rfl), by rw [HRE.out]; exact hM7, mapS_chain (mapS_chain hk2 ha2 hk6) (asl_chain hk2.size ha2 ha6) hk7, asl_chain (Nat.le_trans hk2.size hk6.size) (asl_chain hk2.size ha2 ha6) ha7⟩
              | true =>
                have hQe : lpK F ts us x v y u (K - (k + 1)) (k + 1) S7 = Q := hQ4
                have HQ7 := Lib.hid hQe
                have HF7 : Hid (i < S7.2.2.length ∧ S7.2.2.getD i 0 = ((y : Nat) : Int) ∧ Mp S7.1 y u ∧ st.length + 1 ≤ S7.2.2.length) := Lib.hid (by
                  have h1 := HAA.out.ex.trans hB.ex
                  have h2 := HF2.out
                  have h3 : st2.length ≤ S7.2.2.length := ext_len h1
                  refine ⟨by omega, ?_, HM7.out, by omega⟩
                  have h4 : S7.2.2.getD i 0 = st2.getD i 0 := ext_getD h1 h2.1
                  rw [h4]; exact h2.2.1)
                have HL7 : Hid (ALs n ts us x v (im, ud, st) i (k + 1) S7) := Lib.hid (by
                  have h1 := HL2.out
                  have hE := HE.out
                  have hA' := HAA.out
                  have hB' := hB
                  rw [← hE.1, ← hE.2.2.1] at hA'
                  rw [← hE.2.1, ← hE.2.2.2] at hB'
                  exact AssL.step HTS.out HKL.out hx hy HF2.out.1 HF2.out.2.1 h1 HF2.out.2.2.1 hA' hB')
                clear hB hQ4 hQe
                go_upto_region 14 with fail
                refine wp_region_held_drew (S := (fun w' => w'.cell? ⟨mb, 1, none⟩ = some (.slice (some ⟨gt, 0, none⟩) K kt) ∧ w'.cell? ⟨mb, 2, none⟩ = some (.slice (some ⟨bi, 0, none⟩) n n) ∧ w'.cell? ⟨bi, y, none⟩ = some (.int .i64 (u : Int)) ∧ w'.cell? ⟨b1, o1 + x, none⟩ = some (.slice (some ⟨A1 x, O1 x, none⟩) n (C1 x)) ∧ w'.cell? ⟨A1 x, O1 x + y, none⟩ = some (.int .i64 (X1 : Int)) ∧ w'.cell? ⟨b1, o1 + y, none⟩ = some (.slice (some ⟨A1 y, O1 y, none⟩) n (C1 y)) ∧ w'.cell? ⟨A1 y, O1 y + x, none⟩ = some (.int .i64 (X2 : Int)) ∧ w'.cell? ⟨gt, k, none⟩ = some (.slice (some ⟨b2, o2, none⟩) n (DC k)) ∧ w'.cell? ⟨b2, o2 + v, none⟩ = some (.slice (some ⟨A2 v, O2 v, none⟩) n (C2 v)) ∧ w'.cell? ⟨A2 v, O2 v + u, none⟩ = some (.int .i64 (V1 : Int)) ∧ w'.cell? ⟨b2, o2 + u, none⟩ = some (.slice (some ⟨A2 u, O2 u, none⟩) n (C2 u)) ∧ w'.cell? ⟨A2 u, O2 u + v, none⟩ = some (.int .i64 (V2 : Int)))) (by kernel_rfl) (by (try dsimp only); first | exact hq1 | go_keep) (fun hHeld1 => ?_)
                refine' wpAnyH_take (i := 0) (v := _) rfl (by kernel_rfl) (by kernel_rfl) (by kernel_rfl) (fun _ _ _ h => h) (Or.inl ⟨by rfl, ?hy0⟩) (by assumption) ?_
                case hy0 => (intro w' hSw; (try dsimp only at hSw); go_simp; (try with_reducible rfl))
                (try simp only [Act.put, List.getElem_toArray, List.getElem_cons_zero, List.getElem_cons_succ, List.setIfInBounds_toArray, List.set_cons_zero, List.set_cons_succ])
                refine' wpAnyH_take (i := 1) (v := _) rfl (by kernel_rfl) (by kernel_rfl) (by kernel_rfl) (fun _ _ _ h => h) (Or.inl ⟨by rfl, ?hy1⟩) (by assumption) ?_
                case hy1 => (intro w' hSw; (try dsimp only at hSw); go_simp; (try with_reducible rfl))
                (try simp only [Act.put, List.getElem_toArray, List.getElem_cons_zero, List.getElem_cons_succ, List.setIfInBounds_toArray, List.set_cons_zero, List.set_cons_succ])
                refine' wpAnyH_take (i := 2) (v := _) rfl (by kernel_rfl) (by kernel_rfl) (by kernel_rfl) (fun _ _ _ h => h) (Or.inl ⟨by rfl, ?hy2⟩) (by assumption) ?_
                case hy2 => (intro w' hSw; (try dsimp only at hSw); go_simp; (try with_reducible rfl))
                (try simp only [Act.put, List.getElem_toArray, List.getElem_cons_zero, List.getElem_cons_succ, List.setIfInBounds_toArray, List.set_cons_zero, List.set_cons_succ])
                refine' wpAnyH_take (i := 3) (v := _) rfl (by kernel_rfl) (by kernel_rfl) (by kernel_rfl) (fun _ _ _ h => h) (Or.inl ⟨by rfl, ?hy3⟩) (by assumption) ?_
                case hy3 => (intro w' hSw; (try dsimp only at hSw); go_simp; (try with_reducible rfl))
                (try simp only [Act.put, List.getElem_toArray, List.getElem_cons_zero, List.getElem_cons_succ, List.setIfInBounds_toArray, List.set_cons_zero, List.set_cons_succ])
                refine' wpAnyH_take (i := 4) (v := _) rfl (by kernel_rfl) (by kernel_rfl) (by kernel_rfl) (fun _ _ _ h => h) (Or.inl ⟨by rfl, ?hy4⟩) (by assumption) ?_
                case hy4 => (intro w' hSw; (try dsimp only at hSw); go_simp; (try with_reducible rfl))
                (try simp only [Act.put, List.getElem_toArray, List.getElem_cons_zero, List.getElem_cons_succ, List.setIfInBounds_toArray, List.set_cons_zero, List.set_cons_succ])
                refine' wpAnyH_take (i := 5) (v := _) rfl (by kernel_rfl) (by kernel_rfl) (by kernel_rfl) (fun _ _ _ h => h) (Or.inl ⟨by rfl, ?hy5⟩) (by assumption) ?_
                case hy5 => (intro w' hSw; (try dsimp only at hSw); go_simp; (try with_reducible rfl))
                (try simp only [Act.put, List.getElem_toArray, List.getElem_cons_zero, List.getElem_cons_succ, List.setIfInBounds_toArray, List.set_cons_zero, List.set_cons_succ])
                refine' wpAnyH_take (i := 6) (v := _) rfl (by kernel_rfl) (by kernel_rfl) (by kernel_rfl) (fun _ _ _ h => h) (Or.inl ⟨by rfl, ?hy6⟩) (by assumption) ?_
                case hy6 => (intro w' hSw; (try dsimp only at hSw); go_simp; (try with_reducible rfl))
                (try simp only [Act.put, List.getElem_toArray, List.getElem_cons_zero, List.getElem_cons_succ, List.setIfInBounds_toArray, List.set_cons_zero, List.set_cons_succ])
                refine' wpAnyH_take (i := 7) (v := _) rfl (by kernel_rfl) (by kernel_rfl) (by kernel_rfl) (fun _ _ _ h => h) (Or.inl ⟨by rfl, ?hy7⟩) (by assumption) ?_
                case hy7 => (intro w' hSw; (try dsimp only at hSw); go_simp; (try with_reducible rfl))
                (try simp only [Act.put, List.getElem_toArray, List.getElem_cons_zero, List.getElem_cons_succ, List.setIfInBounds_toArray, List.set_cons_zero, List.set_cons_succ])
                refine' wpAnyH_take (i := 8) (v := _) rfl (by kernel_rfl) (by kernel_rfl) (by kernel_rfl) (fun _ _ _ h => h) (Or.inl ⟨by rfl, ?hy8⟩) (by assumption) ?_
                case hy8 => (intro w' hSw; (try dsimp only at hSw); go_simp; (try with_reducible rfl))
                (try simp only [Act.put, List.getElem_toArray, List.getElem_cons_zero, List.getElem_cons_succ, List.setIfInBounds_toArray, List.set_cons_zero, List.set_cons_succ])
                refine' wpAnyH_take (i := 9) (v := _) rfl (by kernel_rfl) (by kernel_rfl) (by kernel_rfl) (fun _ _ _ h => h) (Or.inl ⟨by rfl, ?hy9⟩) (by assumption) ?_
                case hy9 => (intro w' hSw; (try dsimp only at hSw); go_simp; (try with_reducible rfl))
                (try simp only [Act.put, List.getElem_toArray, List.getElem_cons_zero, List.getElem_cons_succ, List.setIfInBounds_toArray, List.set_cons_zero, List.set_cons_succ])
                refine' wpAnyH_take (i := 10) (v := _) rfl (by kernel_rfl) (by kernel_rfl) (by kernel_rfl) (fun _ _ _ h => h) (Or.inl ⟨by rfl, ?hy10⟩) (by assumption) ?_
                case hy10 => (intro w' hSw; (try dsimp only at hSw); go_simp; (try with_reducible rfl))
                (try simp only [Act.put, List.getElem_toArray, List.getElem_cons_zero, List.getElem_cons_succ, List.setIfInBounds_toArray, List.set_cons_zero, List.set_cons_succ])
                refine' wpAnyH_take (i := 11) (v := _) rfl (by kernel_rfl) (by kernel_rfl) (by kernel_rfl) (fun _ _ _ h => h) (Or.inl ⟨by rfl, ?hy11⟩) (by assumption) ?_
                case hy11 => (intro w' hSw; (try dsimp only at hSw); go_simp; (try with_reducible rfl))
                (try simp only [Act.put, List.getElem_toArray, List.getElem_cons_zero, List.getElem_cons_succ, List.setIfInBounds_toArray, List.set_cons_zero, List.set_cons_succ])
                refine' wpAnyH_take (i := 12) (v := _) rfl (by kernel_rfl) (by kernel_rfl) (by kernel_rfl) (fun _ _ _ h => h) (Or.inl ⟨by rfl, ?hy12⟩) (by assumption) ?_
                case hy12 => (intro w' hSw; (try dsimp only at hSw); go_simp; (try with_reducible rfl))
                (try simp only [Act.put, List.getElem_toArray, List.getElem_cons_zero, List.getElem_cons_succ, List.setIfInBounds_toArray, List.set_cons_zero, List.set_cons_succ])
                refine' wpAnyH_take (i := 13) (v := _) rfl (by kernel_rfl) (by kernel_rfl) (by kernel_rfl) (fun _ _ _ h => h) (Or.inl ⟨by rfl, ?hy13⟩) (by assumption) ?_
                case hy13 => (intro w' hSw; (try dsimp only at hSw); go_simp; (try with_reducible rfl))
                (try simp only [Act.put, List.getElem_toArray, List.getElem_cons_zero, List.getElem_cons_succ, List.setIfInBounds_toArray, List.set_cons_zero, List.set_cons_succ])
                refine' wpAnyH_take (i := 14) (v := _) rfl (by kernel_rfl) (by kernel_rfl) (by kernel_rfl) (fun _ _ _ h => h) (Or.inl ⟨by rfl, ?hy14⟩) (by assumption) ?_
                case hy14 => (intro w' hSw; (try dsimp only at hSw); go_simp; (try with_reducible rfl))
                (try simp only [Act.put, List.getElem_toArray, List.getElem_cons_zero, List.getElem_cons_succ, List.setIfInBounds_toArray, List.set_cons_zero, List.set_cons_succ])
                refine' wpAnyH_take (i := 15) (v := _) rfl (by kernel_rfl) (by kernel_rfl) (by kernel_rfl) (fun _ _ _ h => h) (Or.inl ⟨by rfl, ?hy15⟩) (by assumption) ?_
                case hy15 => (intro w' hSw; (try dsimp only at hSw); go_simp; (try with_reducible rfl))
                (try simp only [Act.put, List.getElem_toArray, List.getElem_cons_zero, List.getElem_cons_succ, List.setIfInBounds_toArray, List.set_cons_zero, List.set_cons_succ])
                refine' wpAnyH_take (i := 16) (v := _) rfl (by kernel_rfl) (by kernel_rfl) (by kernel_rfl) (fun _ _ _ h => h) (Or.inl ⟨by rfl, ?hy16⟩) (by assumption) ?_
                case hy16 => (intro w' hSw; (try dsimp only at hSw); go_simp; (try with_reducible rfl))
                (try simp only [Act.put, List.getElem_toArray, List.getElem_cons_zero, List.getElem_cons_succ, List.setIfInBounds_toArray, List.set_cons_zero, List.set_cons_succ])
                refine' wpAnyH_take (i := 17) (v := _) rfl (by kernel_rfl) (by kernel_rfl) (by kernel_rfl) (fun _ _ _ h => h) (Or.inl ⟨by rfl, ?hy17⟩) (by assumption) ?_
                case hy17 => (intro w' hSw; (try dsimp only at hSw); go_simp; (try with_reducible rfl))
                (try simp only [Act.put, List.getElem_toArray, List.getElem_cons_zero, List.getElem_cons_succ, List.setIfInBounds_toArray, List.set_cons_zero, List.set_cons_succ])
                refine' wpAnyH_take (i := 18) (v := _) rfl (by kernel_rfl) (by kernel_rfl) (by kernel_rfl) (fun _ _ _ h => h) (Or.inl ⟨by rfl, ?hy18⟩) (by assumption) ?_
                case hy18 => (intro w' hSw; (try dsimp only at hSw); go_simp; (try with_reducible rfl))
                (try simp only [Act.put, List.getElem_toArray, List.getElem_cons_zero, List.getElem_cons_succ, List.setIfInBounds_toArray, List.set_cons_zero, List.set_cons_succ])
                refine' wpAnyH_take (i := 19) (v := _) rfl (by kernel_rfl) (by kernel_rfl) (by kernel_rfl) (fun _ _ _ h => h) (Or.inl ⟨by rfl, ?hy19⟩) (by assumption) ?_
                case hy19 => (intro w' hSw; (try dsimp only at hSw); go_simp; (try with_reducible rfl))
                (try simp only [Act.put, List.getElem_toArray, List.getElem_cons_zero, List.getElem_cons_succ, List.setIfInBounds_toArray, List.set_cons_zero, List.set_cons_succ])
                refine' wpAnyH_take (i := 20) (v := _) rfl (by kernel_rfl) (by kernel_rfl) (by kernel_rfl) (fun _ _ _ h => h) (Or.inl ⟨by rfl, ?hy20⟩) (by assumption) ?_
                case hy20 => (intro w' hSw; (try dsimp only at hSw); go_simp; (try with_reducible rfl))
                (try simp only [Act.put, List.getElem_toArray, List.getElem_cons_zero, List.getElem_cons_succ, List.setIfInBounds_toArray, List.set_cons_zero, List.set_cons_succ])
                refine' wpAnyH_take (i := 21) (v := _) rfl (by kernel_rfl) (by kernel_rfl) (by kernel_rfl) (fun _ _ _ h => h) (Or.inl ⟨by rfl, ?hy21⟩) (by assumption) ?_
                case hy21 => (intro w' hSw; (try dsimp only at hSw); go_simp; (try with_reducible rfl))
                (try simp only [Act.put, List.getElem_toArray, List.getElem_cons_zero, List.getElem_cons_succ, List.setIfInBounds_toArray, List.set_cons_zero, List.set_cons_succ])
                refine' wpAnyH_take (i := 22) (v := _) rfl (by kernel_rfl) (by kernel_rfl) (by kernel_rfl) (fun _ _ _ h => h) (Or.inl ⟨by rfl, ?hy22⟩) (by assumption) ?_
                case hy22 => (intro w' hSw; (try dsimp only at hSw); go_simp; (try with_reducible rfl))
                (try simp only [Act.put, List.getElem_toArray, List.getElem_cons_zero, List.getElem_cons_succ, List.setIfInBounds_toArray, List.set_cons_zero, List.set_cons_succ])
                refine' wpAnyH_take (i := 23) (v := _) rfl (by kernel_rfl) (by kernel_rfl) (by kernel_rfl) (fun _ _ _ h => h) (Or.inl ⟨by rfl, ?hy23⟩) (by assumption) ?_
                case hy23 => (intro w' hSw; (try dsimp only at hSw); go_simp; (try with_reducible rfl))
                (try simp only [Act.put, List.getElem_toArray, List.getElem_cons_zero, List.getElem_cons_succ, List.setIfInBounds_toArray, List.set_cons_zero, List.set_cons_succ])
                refine' wpAnyH_take (i := 24) (v := _) rfl (by kernel_rfl) (by kernel_rfl) (by kernel_rfl) (fun _ _ _ h => h) (Or.inl ⟨by rfl, ?hy24⟩) (by assumption) ?_
                case hy24 => (intro w' hSw; (try dsimp only at hSw); go_simp; (try with_reducible rfl))
                (try simp only [Act.put, List.getElem_toArray, List.getElem_cons_zero, List.getElem_cons_succ, List.setIfInBounds_toArray, List.set_cons_zero, List.set_cons_succ])
                refine' wpAnyH_take (i := 25) (v := _) rfl (by kernel_rfl) (by kernel_rfl) (by kernel_rfl) (fun _ _ _ h => h) (Or.inl ⟨by rfl, ?hy25⟩) (by assumption) ?_
                case hy25 => (intro w' hSw; (try dsimp only at hSw); go_simp; (try with_reducible rfl))
                (try simp only [Act.put, List.getElem_toArray, List.getElem_cons_zero, List.getElem_cons_succ, List.setIfInBounds_toArray, List.set_cons_zero, List.set_cons_succ])
                refine' wpAnyH_take (i := 26) (v := _) rfl (by kernel_rfl) (by kernel_rfl) (by kernel_rfl) (fun _ _ _ h => h) (Or.inl ⟨by rfl, ?hy26⟩) (by assumption) ?_
                case hy26 => (intro w' hSw; (try dsimp only at hSw); go_simp; (try with_reducible rfl))
                (try simp only [Act.put, List.getElem_toArray, List.getElem_cons_zero, List.getElem_cons_succ, List.setIfInBounds_toArray, List.set_cons_zero, List.set_cons_succ])
                refine wpAnyH_ready (rs := [27]) (by kernel_rfl) (by simp) ?_
                refine AllReadyH.cons rfl (fun K' hK' => ?_) AllReadyH.nil
                go_simp
                (go_at_call 130; have hia := IH.out X1 V1 _ as2 ns2 cs2 im2 ud2 st2 HML.out t1 s1 (hM2.drewN 1) HL2.out.ms; rw [HRA.out] at hia; dsimp only at hia; refine hia.mono ?_; rintro e w6 ⟨as6, ns6, cs6, rfl, hM6, hk6', ha6⟩; have hk6 := mk_drew hk6'; have hq6 := HP.out w6 as6 ns6 cs6 S6.1 S6.2.1 S6.2.2 hM6 HM6.out; clear hk6' hia)
                refine hK'.out _ _ (by (try dsimp only); exact hq6) (fun hHeld2 => ?_)
                clear hK' K' hHeld1
                (try simp only [Act.put, List.getElem_toArray, List.getElem_cons_zero, List.getElem_cons_succ, List.setIfInBounds_toArray, List.set_cons_zero, List.set_cons_succ])
                refine' wpAnyH_take (i := 28) (v := _) rfl (by kernel_rfl) (by kernel_rfl) (by kernel_rfl) (fun _ _ _ h => h) (Or.inl ⟨by rfl, ?hy28⟩) (by assumption) ?_
                case hy28 => (intro w' hSw; (try dsimp only at hSw); go_simp; (try with_reducible rfl))
                (try simp only [Act.put, List.getElem_toArray, List.getElem_cons_zero, List.getElem_cons_succ, List.setIfInBounds_toArray, List.set_cons_zero, List.set_cons_succ])
                refine' wpAnyH_take (i := 29) (v := _) rfl (by kernel_rfl) (by kernel_rfl) (by kernel_rfl) (fun _ _ _ h => h) (Or.inl ⟨by rfl, ?hy29⟩) (by assumption) ?_
                case hy29 => (intro w' hSw; (try dsimp only at hSw); go_simp; (try with_reducible rfl))
                (try simp only [Act.put, List.getElem_toArray, List.getElem_cons_zero, List.getElem_cons_succ, List.setIfInBounds_toArray, List.set_cons_zero, List.set_cons_succ])
                refine' wpAnyH_take (i := 30) (v := _) rfl (by kernel_rfl) (by kernel_rfl) (by kernel_rfl) (fun _ _ _ h => h) (Or.inl ⟨by rfl, ?hy30⟩) (by assumption) ?_
                case hy30 => (intro w' hSw; (try dsimp only at hSw); go_simp; (try with_reducible rfl))
                (try simp only [Act.put, List.getElem_toArray, List.getElem_cons_zero, List.getElem_cons_succ, List.setIfInBounds_toArray, List.set_cons_zero, List.set_cons_succ])
                refine' wpAnyH_take (i := 31) (v := _) rfl (by kernel_rfl) (by kernel_rfl) (by kernel_rfl) (fun _ _ _ h => h) (Or.inl ⟨by rfl, ?hy31⟩) (by assumption) ?_
                case hy31 => (intro w' hSw; (try dsimp only at hSw); go_simp; (try with_reducible rfl))
                (try simp only [Act.put, List.getElem_toArray, List.getElem_cons_zero, List.getElem_cons_succ, List.setIfInBounds_toArray, List.set_cons_zero, List.set_cons_succ])
                refine' wpAnyH_take (i := 32) (v := _) rfl (by kernel_rfl) (by kernel_rfl) (by kernel_rfl) (fun _ _ _ h => h) (Or.inl ⟨by rfl, ?hy32⟩) (by assumption) ?_
                case hy32 => (intro w' hSw; (try dsimp only at hSw); go_simp; (try with_reducible rfl))
                (try simp only [Act.put, List.getElem_toArray, List.getElem_cons_zero, List.getElem_cons_succ, List.setIfInBounds_toArray, List.set_cons_zero, List.set_cons_succ])
                refine' wpAnyH_take (i := 33) (v := _) rfl (by kernel_rfl) (by kernel_rfl) (by kernel_rfl) (fun _ _ _ h => h) (Or.inl ⟨by rfl, ?hy33⟩) (by assumption) ?_
                case hy33 => (intro w' hSw; (try dsimp only at hSw); go_simp; (try with_reducible rfl))
                (try simp only [Act.put, List.getElem_toArray, List.getElem_cons_zero, List.getElem_cons_succ, List.setIfInBounds_toArray, List.set_cons_zero, List.set_cons_succ])
                refine' wpAnyH_take (i := 34) (v := _) rfl (by kernel_rfl) (by kernel_rfl) (by kernel_rfl) (fun _ _ _ h => h) (Or.inl ⟨by rfl, ?hy34⟩) (by assumption) ?_
                case hy34 => (intro w' hSw; (try dsimp only at hSw); go_simp; (try with_reducible rfl))
                (try simp only [Act.put, List.getElem_toArray, List.getElem_cons_zero, List.getElem_cons_succ, List.setIfInBounds_toArray, List.set_cons_zero, List.set_cons_succ])
                refine' wpAnyH_take (i := 35) (v := _) rfl (by kernel_rfl) (by kernel_rfl) (by kernel_rfl) (fun _ _ _ h => h) (Or.inl ⟨by rfl, ?hy35⟩) (by assumption) ?_
                case hy35 => (intro w' hSw; (try dsimp only at hSw); go_simp; (try with_reducible rfl))
                (try simp only [Act.put, List.getElem_toArray, List.getElem_cons_zero, List.getElem_cons_succ, List.setIfInBounds_toArray, List.set_cons_zero, List.set_cons_succ])
                refine' wpAnyH_take (i := 36) (v := _) rfl (by kernel_rfl) (by kernel_rfl) (by kernel_rfl) (fun _ _ _ h => h) (Or.inl ⟨by rfl, ?hy36⟩) (by assumption) ?_
                case hy36 => (intro w' hSw; (try dsimp only at hSw); go_simp; (try with_reducible rfl))
                (try simp only [Act.put, List.getElem_toArray, List.getElem_cons_zero, List.getElem_cons_succ, List.setIfInBounds_toArray, List.set_cons_zero, List.set_cons_succ])
                refine' wpAnyH_take (i := 37) (v := _) rfl (by kernel_rfl) (by kernel_rfl) (by kernel_rfl) (fun _ _ _ h => h) (Or.inl ⟨by rfl, ?hy37⟩) (by assumption) ?_
                case hy37 => (intro w' hSw; (try dsimp only at hSw); go_simp; (try with_reducible rfl))
                (try simp only [Act.put, List.getElem_toArray, List.getElem_cons_zero, List.getElem_cons_succ, List.setIfInBounds_toArray, List.set_cons_zero, List.set_cons_succ])
                refine' wpAnyH_take (i := 38) (v := _) rfl (by kernel_rfl) (by kernel_rfl) (by kernel_rfl) (fun _ _ _ h => h) (Or.inl ⟨by rfl, ?hy38⟩) (by assumption) ?_
                case hy38 => (intro w' hSw; (try dsimp only at hSw); go_simp; (try with_reducible rfl))
                (try simp only [Act.put, List.getElem_toArray, List.getElem_cons_zero, List.getElem_cons_succ, List.setIfInBounds_toArray, List.set_cons_zero, List.set_cons_succ])
                refine' wpAnyH_take (i := 39) (v := _) rfl (by kernel_rfl) (by kernel_rfl) (by kernel_rfl) (fun _ _ _ h => h) (Or.inl ⟨by rfl, ?hy39⟩) (by assumption) ?_
                case hy39 => (intro w' hSw; (try dsimp only at hSw); go_simp; (try with_reducible rfl))
                (try simp only [Act.put, List.getElem_toArray, List.getElem_cons_zero, List.getElem_cons_succ, List.setIfInBounds_toArray, List.set_cons_zero, List.set_cons_succ])
                refine' wpAnyH_take (i := 40) (v := _) rfl (by kernel_rfl) (by kernel_rfl) (by kernel_rfl) (fun _ _ _ h => h) (Or.inl ⟨by rfl, ?hy40⟩) (by assumption) ?_
                case hy40 => (intro w' hSw; (try dsimp only at hSw); go_simp; (try with_reducible rfl))
                (try simp only [Act.put, List.getElem_toArray, List.getElem_cons_zero, List.getElem_cons_succ, List.setIfInBounds_toArray, List.set_cons_zero, List.set_cons_succ])
                refine' wpAnyH_take (i := 41) (v := _) rfl (by kernel_rfl) (by kernel_rfl) (by kernel_rfl) (fun _ _ _ h => h) (Or.inl ⟨by rfl, ?hy41⟩) (by assumption) ?_
                case hy41 => (intro w' hSw; (try dsimp only at hSw); go_simp; (try with_reducible rfl))
                (try simp only [Act.put, List.getElem_toArray, List.getElem_cons_zero, List.getElem_cons_succ, List.setIfInBounds_toArray, List.set_cons_zero, List.set_cons_succ])
                refine' wpAnyH_take (i := 42) (v := _) rfl (by kernel_rfl) (by kernel_rfl) (by kernel_rfl) (fun _ _ _ h => h) (Or.inl ⟨by rfl, ?hy42⟩) (by assumption) ?_
                case hy42 => (intro w' hSw; (try dsimp only at hSw); go_simp; (try with_reducible rfl))
                (try simp only [Act.put, List.getElem_toArray, List.getElem_cons_zero, List.getElem_cons_succ, List.setIfInBounds_toArray, List.set_cons_zero, List.set_cons_succ])
                refine' wpAnyH_take (i := 43) (v := _) rfl (by kernel_rfl) (by kernel_rfl) (by kernel_rfl) (fun _ _ _ h => h) (Or.inl ⟨by rfl, ?hy43⟩) (by assumption) ?_
                case hy43 => (intro w' hSw; (try dsimp only at hSw); go_simp; (try with_reducible rfl))
                (try simp only [Act.put, List.getElem_toArray, List.getElem_cons_zero, List.getElem_cons_succ, List.setIfInBounds_toArray, List.set_cons_zero, List.set_cons_succ])
                refine' wpAnyH_take (i := 44) (v := _) rfl (by kernel_rfl) (by kernel_rfl) (by kernel_rfl) (fun _ _ _ h => h) (Or.inl ⟨by rfl, ?hy44⟩) (by assumption) ?_
                case hy44 => (intro w' hSw; (try dsimp only at hSw); go_simp; (try with_reducible rfl))
                (try simp only [Act.put, List.getElem_toArray, List.getElem_cons_zero, List.getElem_cons_succ, List.setIfInBounds_toArray, List.set_cons_zero, List.set_cons_succ])
                refine' wpAnyH_take (i := 45) (v := _) rfl (by kernel_rfl) (by kernel_rfl) (by kernel_rfl) (fun _ _ _ h => h) (Or.inl ⟨by rfl, ?hy45⟩) (by assumption) ?_
                case hy45 => (intro w' hSw; (try dsimp only at hSw); go_simp; (try with_reducible rfl))
                (try simp only [Act.put, List.getElem_toArray, List.getElem_cons_zero, List.getElem_cons_succ, List.setIfInBounds_toArray, List.set_cons_zero, List.set_cons_succ])
                refine' wpAnyH_take (i := 46) (v := _) rfl (by kernel_rfl) (by kernel_rfl) (by kernel_rfl) (fun _ _ _ h => h) (Or.inl ⟨by rfl, ?hy46⟩) (by assumption) ?_
                case hy46 => (intro w' hSw; (try dsimp only at hSw); go_simp; (try with_reducible rfl))
                (try simp only [Act.put, List.getElem_toArray, List.getElem_cons_zero, List.getElem_cons_succ, List.setIfInBounds_toArray, List.set_cons_zero, List.set_cons_succ])
                refine' wpAnyH_take (i := 47) (v := _) rfl (by kernel_rfl) (by kernel_rfl) (by kernel_rfl) (fun _ _ _ h => h) (Or.inl ⟨by rfl, ?hy47⟩) (by assumption) ?_
                case hy47 => (intro w' hSw; (try dsimp only at hSw); go_simp; (try with_reducible rfl))
                (try simp only [Act.put, List.getElem_toArray, List.getElem_cons_zero, List.getElem_cons_succ, List.setIfInBounds_toArray, List.set_cons_zero, List.set_cons_succ])
                refine' wpAnyH_take (i := 48) (v := _) rfl (by kernel_rfl) (by kernel_rfl) (by kernel_rfl) (fun _ _ _ h => h) (Or.inl ⟨by rfl, ?hy48⟩) (by assumption) ?_
                case hy48 => (intro w' hSw; (try dsimp only at hSw); go_simp; (try with_reducible rfl))
                (try simp only [Act.put, List.getElem_toArray, List.getElem_cons_zero, List.getElem_cons_succ, List.setIfInBounds_toArray, List.set_cons_zero, List.set_cons_succ])
                refine' wpAnyH_take (i := 49) (v := _) rfl (by kernel_rfl) (by kernel_rfl) (by kernel_rfl) (fun _ _ _ h => h) (Or.inl ⟨by rfl, ?hy49⟩) (by assumption) ?_
                case hy49 => (intro w' hSw; (try dsimp only at hSw); go_simp; (try with_reducible rfl))
                (try simp only [Act.put, List.getElem_toArray, List.getElem_cons_zero, List.getElem_cons_succ, List.setIfInBounds_toArray, List.set_cons_zero, List.set_cons_succ])
                refine' wpAnyH_take (i := 50) (v := _) rfl (by kernel_rfl) (by kernel_rfl) (by kernel_rfl) (fun _ _ _ h => h) (Or.inl ⟨by rfl, ?hy50⟩) (by assumption) ?_
                case hy50 => (intro w' hSw; (try dsimp only at hSw); go_simp; (try with_reducible rfl))
                (try simp only [Act.put, List.getElem_toArray, List.getElem_cons_zero, List.getElem_cons_succ, List.setIfInBounds_toArray, List.set_cons_zero, List.set_cons_succ])
                refine' wpAnyH_take (i := 51) (v := _) rfl (by kernel_rfl) (by kernel_rfl) (by kernel_rfl) (fun _ _ _ h => h) (Or.inl ⟨by rfl, ?hy51⟩) (by assumption) ?_
                case hy51 => (intro w' hSw; (try dsimp only at hSw); go_simp; (try with_reducible rfl))
                (try simp only [Act.put, List.getElem_toArray, List.getElem_cons_zero, List.getElem_cons_succ, List.setIfInBounds_toArray, List.set_cons_zero, List.set_cons_succ])
                refine' wpAnyH_take (i := 52) (v := _) rfl (by kernel_rfl) (by kernel_rfl) (by kernel_rfl) (fun _ _ _ h => h) (Or.inl ⟨by rfl, ?hy52⟩) (by assumption) ?_
                case hy52 => (intro w' hSw; (try dsimp only at hSw); go_simp; (try with_reducible rfl))
                (try simp only [Act.put, List.getElem_toArray, List.getElem_cons_zero, List.getElem_cons_succ, List.setIfInBounds_toArray, List.set_cons_zero, List.set_cons_succ])
                refine' wpAnyH_take (i := 53) (v := _) rfl (by kernel_rfl) (by kernel_rfl) (by kernel_rfl) (fun _ _ _ h => h) (Or.inl ⟨by rfl, ?hy53⟩) (by assumption) ?_
                case hy53 => (intro w' hSw; (try dsimp only at hSw); go_simp; (try with_reducible rfl))
                (try simp only [Act.put, List.getElem_toArray, List.getElem_cons_zero, List.getElem_cons_succ, List.setIfInBounds_toArray, List.set_cons_zero, List.set_cons_succ])
                refine' wpAnyH_take (i := 54) (v := _) rfl (by kernel_rfl) (by kernel_rfl) (by kernel_rfl) (fun _ _ _ h => h) (Or.inl ⟨by rfl, ?hy54⟩) (by assumption) ?_
                case hy54 => (intro w' hSw; (try dsimp only at hSw); go_simp; (try with_reducible rfl))
                (try simp only [Act.put, List.getElem_toArray, List.getElem_cons_zero, List.getElem_cons_succ, List.setIfInBounds_toArray, List.set_cons_zero, List.set_cons_succ])
                refine' wpAnyH_take (i := 55) (v := _) rfl (by kernel_rfl) (by kernel_rfl) (by kernel_rfl) (fun _ _ _ h => h) (Or.inl ⟨by rfl, ?hy55⟩) (by assumption) ?_
                case hy55 => (intro w' hSw; (try dsimp only at hSw); go_simp; (try with_reducible rfl))
                (try simp only [Act.put, List.getElem_toArray, List.getElem_cons_zero, List.getElem_cons_succ, List.setIfInBounds_toArray, List.set_cons_zero, List.set_cons_succ])
                refine' wpAnyH_take (i := 56) (v := _) rfl (by kernel_rfl) (by kernel_rfl) (by kernel_rfl) (fun _ _ _ h => h) (Or.inl ⟨by rfl, ?hy56⟩) (by assumption) ?_
                case hy56 => (intro w' hSw; (try dsimp only at hSw); go_simp; (try with_reducible rfl))
                (try simp only [Act.put, List.getElem_toArray, List.getElem_cons_zero, List.getElem_cons_succ, List.setIfInBounds_toArray, List.set_cons_zero, List.set_cons_succ])
                refine wpAnyH_ready (rs := [57]) (by kernel_rfl) (by simp) ?_
                refine AllReadyH.cons rfl (fun K' hK' => ?_) AllReadyH.nil
                go_simp
                (go_at_call 130; have hib := IH.out X2 V2 w6 as6 ns6 cs6 S6.1 S6.2.1 S6.2.2 HML6.out t2 s2 hM6 HS6.out; rw [HRB.out] at hib; dsimp only at hib; refine hib.mono ?_; rintro e w7 ⟨as7, ns7, cs7, rfl, hM7, hk7, ha7⟩; have hq7 := HP.out w7 as7 ns7 cs7 S7.1 S7.2.1 S7.2.2 hM7 HM7.out; clear hib)
                refine hK'.out _ _ (by (try dsimp only); exact hq7) (fun hHeld3 => ?_)
                clear hK' K' hHeld2
                (try simp only [Act.put, List.getElem_toArray, List.getElem_cons_zero, List.getElem_cons_succ, List.setIfInBounds_toArray, List.set_cons_zero, List.set_cons_succ])
                refine' wpAnyH_take (i := 58) (v := _) rfl (by kernel_rfl) (by kernel_rfl) (by kernel_rfl) (fun _ _ _ h => h) (Or.inl ⟨by rfl, ?hy58⟩) (by assumption) ?_
                case hy58 => (intro w' hSw; (try dsimp only at hSw); go_simp; (try with_reducible rfl))
                (try simp only [Act.put, List.getElem_toArray, List.getElem_cons_zero, List.getElem_cons_succ, List.setIfInBounds_toArray, List.set_cons_zero, List.set_cons_succ])
                refine' wpAnyH_take (i := 59) (v := _) rfl (by kernel_rfl) (by kernel_rfl) (by kernel_rfl) (fun _ _ _ h => h) (Or.inl ⟨by rfl, ?hy59⟩) (by assumption) ?_
                case hy59 => (intro w' hSw; (try dsimp only at hSw); go_simp; (try with_reducible rfl))
                (try simp only [Act.put, List.getElem_toArray, List.getElem_cons_zero, List.getElem_cons_succ, List.setIfInBounds_toArray, List.set_cons_zero, List.set_cons_succ])
                refine wpAnyH_done (by kernel_rfl) ?_ _
                all_goals
                  go_wp2
                  go_roundw
                all_goals first
                  | exact ⟨k + 1, as7, ns7, cs7, S7.1, S7.2.1, S7.2.2, by go_num, by omega, HL7, HQ7, HF7, hM7, mapS_chain (mapS_chain hk2 ha2 hk6) (asl_chain hk2.size ha2 ha6) hk7, asl_chain (Nat.le_trans hk2.size hk6.size) (asl_chain hk2.size ha2 ha6) ha7⟩
                  | (simp [intOf]; omega)
          · obtain rfl : k = K := by omega
            have HN : Hid (ALs n ts us x v (im, ud, st) (i + 1) 0 (im2, ud2, st2)) := Lib.hid (AssL.next (by have := HL2.out; rw [← HT.out.len] at this; exact this) HF2.out.1)
            have hQ : (true, (im2, ud2, st2)) = Q := by have := HQ2.out; rw [Nat.sub_self] at this; exact this
            have HRN : Hid (lpI F ts us x v (n + 1 - (i + 1)) (i + 1) (im2, ud2, st2) = R) := Lib.hid (by have := HRQ.out; rw [← hQ] at this; exact this)
            clear hQ
            have HL12 : Hid (st2.length ≤ n) := Lib.hid HL2.out.ms.le
            have hi12 : i < 12 := by have h1 := HF2.out.1; have h2 := HL12.out; omega
            go_wp2
            go_roundw
            case rel => exact ⟨i + 1, as2, ns2, cs2, im2, ud2, st2, by go_num, HN, HRN, hM2, hk2, ha2, Lib.hid HF2.out.2.2.2⟩
            case measure => have h1 := HF2.out.1; have h2 := HL12.out; simp [intOf]; omega
      · obtain rfl : i = ns1 := by omega
        have HRE : Hid (R = (true, (im1, ud1, st1))) := Lib.hid (by
          have h1 := HR1.out
          have e : n + 1 - i = (n - i) + 1 := by have h1 := HN1.out; have h2 := HSL1.out; omega
          rw [e] at h1
          unfold lpI at h1
          rw [if_neg (show ¬ i < st1.length by have h1 := HN1.out; omega)] at h1
          exact h1.symm)
        go_wp2
        go_ret
        exact ⟨as1, _, cs1, (by rw [HRE.out]; rfl), by rw [HRE.out]; exact hM1, hk1, ha1⟩
end
end Go.Proofs.YtaddclaadbjnlaaGreat
