/-
  Walks and plain laws of this seat, some texts in one.
  No condition but bounds on lengths.
-/
import Derived.Test.YtaddclaadbjnlaaGreatPs2
import Derived.Test.YtaddclaadbjnlaaGreatPs24
import Derived.Test.YtaddclaadbjnlaaGreatPs5
namespace Go.Proofs.YtaddclaadbjnlaaGreat
set_option maxRecDepth 100000
set_option linter.unusedVariables false
set_option linter.unusedSimpArgs false
open Go.RowKit
theorem rowDropB {w : World} {g o n : Nat} {xs : List Int} (h : Row w (some ⟨g, o, none⟩) n xs) (q : Nat) (hq : q ≤ n) : Row w (some ⟨g, o + q, none⟩) (n - q) (xs.drop q) := by
  refine ⟨by rw [List.length_drop, h.len], fun i hi => ?_⟩
  obtain ⟨b, off, e1, e2, e3⟩ := h.2 (q + i) (by omega)
  cases e1
  refine ⟨g, o + q, rfl, e2, ?_⟩
  rw [show o + q + i = o + (q + i) by omega, e3]
  simp [List.getD_eq_getElem?_getD]
theorem slice_to (a : Option Addr) (n c q : Nat) (hq : q ≤ c) (v : World) : (Instr.slice 41 (.slice a n c) none (some (.int .i64 q)) none).run Tryz.prog v = .ok (.slice a q c) v := by
  have e1 : ((0 : Nat) : Int) ≤ (q : Int) := by omega
  have e2 : (q : Int) ≤ (c : Int) := by omega
  have e3 : q ≤ c := hq
  simp [go_sem, e2, e3]
theorem slice_from (a : Option Addr) (n c q : Nat) (hq : q ≤ n) : ∃ aT, (∀ v : World, (Instr.slice 41 (.slice a n c) (some (.int .i64 q)) none none).run Tryz.prog v = .ok (.slice aT (n - q) (c - q)) v) ∧ ∀ (w : World) (xs : List Int), n ≤ c → Row w a n xs → Row w aT (n - q) (xs.drop q) := by
  have e2 : (q : Int) ≤ (n : Int) := by omega
  refine ⟨if c = q then a else a.map (·.add q), fun v => ?_, fun w xs hc hr => ?_⟩
  · simp [go_sem, e2, hq]
  · by_cases h0 : n - q = 0
    · rw [h0, List.drop_eq_nil_of_le (by have := hr.len; omega)]
      exact Row.nil _ _
    · obtain ⟨g, o, rfl, _, _⟩ := hr.2 0 (by omega)
      rw [if_neg (by omega)]
      by_cases q0 : q = 0
      · subst q0; simpa [Addr.add] using hr
      · simpa [Addr.add, q0] using rowDropB hr q hq
structure UndS (n : Nat) (im' : List Int) (more : List Int) (j : Nat) (im : List Int) (ud : List Bool) : Prop where
  li : im.length = n
  lu : ud.length = n
  i1 : ∀ a, a < n → ((a : Nat) : Int) ∉ more.take j → im.getD a 0 = im'.getD a 0
  i2 : ∀ a, a < n → ((a : Nat) : Int) ∈ more.take j → im.getD a 0 = -1
  u : ∀ v, v < n → (ud.getD v false = true ↔ ∃ a, a < n ∧ Mp im a v)
section
variable {n : Nat} {im' : List Int} {ud' : List Bool} {st more : List Int} {j : Nat} {im : List Int} {ud : List Bool}
theorem UndS.start (h : MapSt n im' ud' (st ++ more)) : UndS n im' more 0 im' ud' :=
  ⟨h.li, h.lu, fun _ _ _ => rfl, fun a _ q => by simp at q, h.used⟩
theorem take_succM {l : List Int} {j : Nat} (h : j < l.length) : l.take (j + 1) = l.take j ++ [l.getD j 0] := by
  rw [List.take_succ_eq_append_getElem h, List.getD_eq_getElem?_getD, List.getElem?_eq_getElem h]; rfl
theorem UndS.get (h : MapSt n im' ud' (st ++ more)) (k : UndS n im' more j im ud) (hj : j < more.length) : ∃ a v, a < n ∧ v < n ∧ more.getD j 0 = ((a : Nat) : Int) ∧ im.getD a 0 = ((v : Nat) : Int) ∧ UndS n im' more (j + 1) (im.set a (-1)) (ud.set v false) := by
  have hm : more[j] ∈ st ++ more := List.mem_append_right _ (List.getElem_mem hj)
  obtain ⟨a, ha, e⟩ := h.mem _ hm
  have e1 : more.getD j 0 = ((a : Nat) : Int) := by rw [List.getD_eq_getElem?_getD, List.getElem?_eq_getElem hj, Option.getD_some, e]
  rw [e] at hm
  obtain ⟨u, hu⟩ := (h.dom a ha).1 hm
  obtain ⟨v, hv, hav⟩ : ∃ v, v < n ∧ Mp im' a v := by
    rcases h.val a ha with q | q
    · unfold Mp at hu; omega
    · exact q
  have hnd : more.Nodup := (List.nodup_append.1 h.nd).2.1
  have hna : ((a : Nat) : Int) ∉ more.take j := fun q => by
    have h2 : (more.take (j + 1)).Nodup := hnd.sublist (List.take_sublist _ _)
    rw [take_succM hj, e1] at h2
    exact (List.nodup_append.1 h2).2.2 _ q _ (by simp) rfl
  have hia : im.getD a 0 = ((v : Nat) : Int) := by rw [k.i1 a ha hna]; exact hav
  have hla : a < im.length := by rw [k.li]; exact ha
  have hlv : v < ud.length := by rw [k.lu]; exact hv
  have gi := fun b => getD_setI (l := im) (i := a) (j := b) (-1) hla
  have gu := fun b => getD_setB (l := ud) (i := v) (j := b) false hlv
  refine ⟨a, v, ha, hv, e1, hia, by rw [List.length_set]; exact k.li, by rw [List.length_set]; exact k.lu, fun b hb q => ?_, fun b hb q => ?_, fun x hx => ?_⟩
  · rw [take_succM hj, e1] at q
    have hne : a ≠ b := fun e => q (by rw [e]; simp)
    rw [gi, if_neg hne]
    exact k.i1 b hb (fun q2 => q (List.mem_append_left _ q2))
  · rw [take_succM hj, e1] at q
    rw [gi]
    by_cases hne : a = b
    · rw [if_pos hne]
    · rw [if_neg hne]
      refine k.i2 b hb ?_
      rcases List.mem_append.1 q with q | q
      · exact q
      · simp at q; omega
  · rw [gu]
    by_cases hne : v = x
    · subst hne
      rw [if_pos rfl]
      constructor
      · intro q; cases q
      · rintro ⟨b, hb, q⟩
        unfold Mp at q
        rw [gi] at q
        by_cases e2 : a = b
        · rw [if_pos e2] at q; omega
        · rw [if_neg e2] at q
          exfalso
          have h3 : ((b : Nat) : Int) ∉ more.take j := fun q2 => by have := k.i2 b hb q2; omega
          rw [k.i1 b hb h3] at q
          exact e2 (h.inj a b v ha hb hav q)
    · rw [if_neg hne, k.u x hx]
      constructor
      · rintro ⟨b, hb, q⟩
        refine ⟨b, hb, ?_⟩
        unfold Mp at q ⊢
        rw [gi]
        by_cases e2 : a = b
        · subst e2; omega
        · rw [if_neg e2]; exact q
      · rintro ⟨b, hb, q⟩
        refine ⟨b, hb, ?_⟩
        unfold Mp at q ⊢
        rw [gi] at q
        by_cases e2 : a = b
        · rw [if_pos e2] at q; omega
        · rw [if_neg e2] at q; exact q
theorem UndS.done {im0 : List Int} {ud0 : List Bool} (h0 : MapSt n im0 ud0 st) (he : ∀ a v, a < n → Mp im0 a v → Mp im' a v) (h : MapSt n im' ud' (st ++ more)) (k : UndS n im' more more.length im ud) : im = im0 ∧ ud = ud0 := by
  have e1 : ∀ a, a < n → im.getD a 0 = im0.getD a 0 := fun a ha => by
    by_cases q : ((a : Nat) : Int) ∈ more
    · rw [k.i2 a ha (by rw [List.take_length]; exact q)]
      rcases h0.val a ha with e | ⟨v, hv, e⟩
      · exact e.symm
      · have h1 := (h0.dom a ha).2 ⟨v, e⟩
        exact absurd rfl ((List.nodup_append.1 h.nd).2.2 _ h1 _ q)
    · rw [k.i1 a ha (by rw [List.take_length]; exact q)]
      rcases h0.val a ha with e | ⟨v, hv, e⟩
      · rcases h.val a ha with e2 | ⟨w, hw, e2⟩
        · rw [e, e2]
        · have h1 := (h.dom a ha).2 ⟨w, e2⟩
          rcases List.mem_append.1 h1 with h1 | h1
          · obtain ⟨u, hu⟩ := (h0.dom a ha).1 h1
            unfold Mp at hu; omega
          · exact absurd h1 q
      · have := he a v ha e
        unfold Mp at this e; rw [this, e]
  have e2 : im = im0 := by
    apply List.ext_getElem (by rw [k.li, h0.li])
    intro a h1 h2
    have := e1 a (by rw [← k.li]; exact h1)
    rw [List.getD_eq_getElem?_getD, List.getElem?_eq_getElem h1, List.getD_eq_getElem?_getD, List.getElem?_eq_getElem h2] at this
    exact this
  refine ⟨e2, ?_⟩
  subst e2
  apply List.ext_getElem (by rw [k.lu, h0.lu])
  intro a h1 h2
  have ha : a < n := by rw [← k.lu]; exact h1
  have := (k.u a ha).trans (h0.used a ha).symm
  rw [List.getD_eq_getElem?_getD, List.getElem?_eq_getElem h1, List.getD_eq_getElem?_getD, List.getElem?_eq_getElem h2] at this
  rw [Bool.eq_iff_iff]; exact this
end
section
variable {S0 : Nat → Prop} {w0 w : World} {mb bi bu gf gt K kf kt n : Nat} {sa : Option Addr} {ns cs : Nat} {im : List Int} {ud : List Bool} {st : List Int}
theorem MapM.setU (h : MapM S0 w0 mb bi bu gf gt K kf kt n w sa ns cs im ud st) (v : Nat) (b : Bool) : MapM S0 w0 mb bi bu gf gt K kf kt n (w.setCell ⟨bu, v, none⟩ (.bool b)) sa ns cs im (ud.set v b) st :=
  ⟨h.box.setne (by show mb ≠ bu; exact Ne.symm h.d2) _, h.im.setne (fun g e => by cases e; exact h.d4) _, h.ud.set v b, h.st.setne (fun g e => (h.d3 g e).2.2) _, h.lo, h.d1, h.d2, h.d3, h.d4, mk_setn h.bel (h.ud.lo bu rfl) _⟩
theorem MapM.setI (h : MapM S0 w0 mb bi bu gf gt K kf kt n w sa ns cs im ud st) (a : Nat) (z : Int) : MapM S0 w0 mb bi bu gf gt K kf kt n (w.setCell ⟨bi, a, none⟩ (.int .i64 z)) sa ns cs (im.set a z) ud st :=
  ⟨h.box.setne (by show mb ≠ bi; exact Ne.symm h.d1) _, h.im.set a z, h.ud.setne (fun g e => by cases e; exact Ne.symm h.d4) _, h.st.setne (fun g e => (h.d3 g e).2.1) _, h.lo, h.d1, h.d2, h.d3, h.d4, mk_setn h.bel (h.im.lo bi rfl) _⟩
theorem MapM.cut (h : MapM S0 w0 mb bi bu gf gt K kf kt n w sa ns cs im ud st) {m : Nat} (hm : m ≤ ns) : MapM S0 w0 mb bi bu gf gt K kf kt n (w.setCell ⟨mb, 4, none⟩ (.slice sa m cs)) sa m cs im ud (st.take m) :=
  ⟨h.box.set 4 _, h.im.setne (fun g e => by cases e; exact h.d1) _, h.ud.setne (fun g e => by cases e; exact h.d2) _, (h.st.cut hm).setne (fun g e => (h.d3 g e).1) _, h.lo, h.d1, h.d2, h.d3, h.d4, mk_setn h.bel h.lo _⟩
theorem mk_set {S : Nat → Prop} {a b : World} (h : Marked S a b) {p : Addr} (hp : S p.block) (u : Value) : Marked S a (b.setCell p u) :=
  ⟨h.os, h.tape, h.output, by rw [size_set]; exact h.size, fun k hk hs => (Below.heap_setCell _ _ _ _ (fun e => hs (by rw [e]; exact hp))).trans (h.block k hk hs)⟩
end
set_option maxHeartbeats 16000000 in
theorem undo_any {S0 : Nat → Prop} {w0 : World} {mb bi bu gf gt K kf kt n : Nat} (w : World) (sa : Option Addr) (ns cs : Nat) (im0 im' : List Int) (ud0 ud' : List Bool) (st more : List Int) (hn : n ≤ 12) (hM : MapM S0 w0 mb bi bu gf gt K kf kt n w sa ns cs im' ud' (st ++ more)) (hS0 : MapSt n im0 ud0 st) (hS : MapSt n im' ud' (st ++ more)) (he : ∀ a v, a < n → Mp im0 a v → Mp im' a v) :
    Calls Tryz.prog 131 #[.pointer (some ⟨mb, 0, none⟩), .int .i64 (st.length : Int)] w fun e w' => (∃ v, e = .returned v) ∧ MapM S0 w0 mb bi bu gf gt K kf kt n w' sa st.length cs im0 ud0 st ∧ Marked (MapS mb bi bu sa) w w' := by
  have lb := hM.box.five
  obtain ⟨N, hN⟩ : ∃ N, st.length = N := ⟨_, rfl⟩
  have hns : ns = N + more.length := by rw [hM.st.len, List.length_append, hN]
  have hcap := hM.st.cap
  have HSL : Hid (ns ≤ n) := Lib.hid (by have := hS.le; rw [← hM.st.len] at this; exact this)
  obtain ⟨M, hMm⟩ : ∃ M, more.length = M := ⟨_, rfl⟩
  rw [hMm] at hns
  have hns12 : ns ≤ 12 := by have := HSL.out; omega
  have eto := fun v => slice_to sa ns cs N (by omega) v
  obtain ⟨aT, efr, hfr⟩ := slice_from sa ns cs N (by omega)
  have hNs : ns - N = M := by omega
  rw [hNs] at efr
  have HFR : Hid (∀ (W : World) (im : List Int) (ud : List Bool), MapM S0 w0 mb bi bu gf gt K kf kt n W sa ns cs im ud (st ++ more) → Row W aT M more) := Lib.hid fun W im ud h => by
    have := hfr W (st ++ more) hcap.1 h.st.row
    rw [hNs, show (st ++ more).drop N = more by rw [← hN]; simp] at this; exact this
  rw [hN]
  have U0 := Lib.hid (UndS.start hS)
  have HS := Lib.hid hS; have HS0 := Lib.hid hS0; have HE := Lib.hid he
  have HN := Lib.hid hN; have HMm := Lib.hid hMm
  have HNS := Lib.hid hns
  have i1 : (0 : Int) ≤ (N : Int) := by omega
  have i2 : (N : Int) ≤ (ns : Int) := by omega
  have hM12 : M ≤ 12 := by omega
  have hMD : ∀ g, aT = some ⟨g, 0, none⟩ → True := fun _ _ => trivial
  clear hS hS0 he hN hMm hns hfr hNs hMD
  go_enter Tryz.func131, Tryz.ntmps131
  go_wp2
  go_loopw [13] (fun s13 wr => ∃ (j : Nat) (im : List Int) (ud : List Bool), j ≤ M ∧ s13 = .int .i64 j ∧ Hid (UndS n im' more j im ud) ∧ MapM S0 w0 mb bi bu gf gt K kf kt n wr sa ns cs im ud (st ++ more) ∧ Marked (MapS mb bi bu sa) w wr) (fun s13 _ => M - (intOf s13).toNat)
  case atStart => exact ⟨0, im', ud', Nat.zero_le _, rfl, U0, hM, Marked.refl _ _⟩
  case round =>
    clear hM lb U0
    obtain ⟨j, im, ud, hj, rfl, HU, hM, hk⟩ := hrel
    obtain ⟨W, hW⟩ : ∃ W : World, W = wr := ⟨_, rfl⟩
    rw [← hW] at hM hk ⊢
    clear hW
    have lb := hM.box.five
    by_cases hlt : j < M
    · obtain ⟨a, v, ha, hv, e1, e2, hU2⟩ := UndS.get HS.out HU.out (by rw [HMm.out]; exact hlt)
      obtain ⟨bT, oT, hT, cT⟩ := (HFR.out W im ud hM).at j hlt
      subst hT
      rw [e1] at cT
      have cI := (hM.im.cells).2.1 a ha
      have fI := (hM.im.cells).2.2 a
      rw [e2] at cI
      have cIe := e2
      obtain ⟨B, hB⟩ : ∃ B, ud.getD v false = B := ⟨_, rfl⟩
      have cU := (hM.ud.cells).2.1 v hv
      have fU := (hM.ud.cells).2.2 v
      rw [hB] at cU
      have HU2 := Lib.hid hU2
      have j1 : (0 : Int) ≤ (j : Int) := by omega
      have j2 : (j : Int) < (M : Int) := by omega
      have j3 : (0 : Int) ≤ (a : Int) := by omega
      have j4 : (a : Int) < (n : Int) := by omega
      have j5 : (0 : Int) ≤ (v : Int) := by omega
      have j6 : (v : Int) < (n : Int) := by omega
      clear e1 e2 hU2
      have hM1 := (hM.drewN 1).setU v false
      have lbx := hM1.box.five
      have cIx := (hM1.im.cells).2.1 a ha
      rw [cIe] at cIx
      have hk1 := mk_set (p := ⟨bu, v, none⟩) (Marked.refl (MapS mb bi bu sa) W) (.inr (.inr (.inl rfl))) (.bool false)
      go_upto_region 3 with fail
      go_cut [] (fun wx => MapM S0 w0 mb bi bu gf gt K kf kt n wx sa ns cs im (ud.set v false) (st ++ more) ∧ Marked (MapS mb bi bu sa) W wx)
      case first => as_aux_lemma =>
        go_region_held3 (fun v' => v'.cell? ⟨mb, 2, none⟩ = some (.slice (some ⟨bi, 0, none⟩) n n) ∧ v'.cell? ⟨mb, 3, none⟩ = some (.slice (some ⟨bu, 0, none⟩) n n) ∧ v'.cell? ⟨bi, a, none⟩ = some (.int .i64 (v : Int)))
          (first | exact ⟨lb.2.2.1, lb.2.2.2.1, cI⟩ | exact ⟨lbx.2.2.1, lbx.2.2.2.1, cIx⟩ | go_keep)
          (first | fail)
        all_goals
          go_wp2
          go_meet
        all_goals exact ⟨hM1, mk_drewO hk1⟩
      case rest =>
      obtain ⟨hM2, hk2⟩ := hcut
      have lb2 := hM2.box.five
      have cI2 := (hM2.im.cells).2.1 a ha
      have fI2 := (hM2.im.cells).2.2 a
      rw [cIe] at cI2
      have hM3 := hM2.setI a (-1)
      have hk3 := mk_set (p := ⟨bi, a, none⟩) (hk.trans hk2) (.inr (.inl rfl)) (.int .i64 (-1))
      clear hM hk hM1 hk1 lbx cIx lb cI fI cU fU hM2 hk2
      go_wp2
      go_roundw
      case rel => exact ⟨j + 1, _, _, by omega, by go_num, HU2, hM3, hk3⟩
      case measure => simp [intOf]; omega
    · obtain rfl : j = M := by omega
      have hU := HU.out
      rw [← HMm.out] at hU
      obtain ⟨rfl, rfl⟩ := UndS.done HS0.out HE.out HS.out hU
      have hM2 := hM.cut (m := N) (by omega)
      rw [show (st ++ more).take N = st by rw [← HN.out]; simp] at hM2
      have hk2 := mk_set (p := ⟨mb, 4, none⟩) hk (.inl rfl) (.slice sa N cs)
      have HX := Lib.hid (And.intro hM2 hk2)
      clear hM hk hM2 hk2 hU
      go_wp2
      go_end0
      exact ⟨⟨_, rfl⟩, HX.out.1, HX.out.2⟩
end Go.Proofs.YtaddclaadbjnlaaGreat
namespace Go.Proofs.YtaddclaadbjnlaaGreat
set_option linter.unusedVariables false
set_option linter.unusedSimpArgs false
def ClS (n : Nat) (ts us : List (List (List Int))) (im : List Int) : Prop := ∀ a b, a < n → b < n → (∃ u, Mp im a u) → (∃ u, Mp im b u) → good ts us im a b
def IsoL (n : Nat) (ts us : List (List (List Int))) (l : List Int) : Prop := l.length = n ∧ ∃ p, Iso n ts us p ∧ ∀ a, a < n → Mp l a (p a)
def ExL (n : Nat) (im l : List Int) : Prop := ∀ a v, a < n → Mp im a v → Mp l a v
def YS (n : Nat) (ts us : List (List (List Int))) (im : List Int) (Y : List (List Int)) : Prop := Y.Nodup ∧ ∀ l, l ∈ Y ↔ IsoL n ts us l ∧ ExL n im l
def YV (n : Nat) (ts us : List (List (List Int))) (im : List Int) (x v : Nat) (Y : List (List Int)) : Prop := Y.Nodup ∧ ∀ l, l ∈ Y ↔ IsoL n ts us l ∧ ExL n im l ∧ l.getD x 0 < (v : Int)
section
variable {n : Nat} {ts us : List (List (List Int))} {im st im' st' : List Int} {ud ud' : List Bool}
theorem exL_pex {l : List Int} {p : Nat → Nat} (h : ∀ a, a < n → Mp l a (p a)) : ExL n im l ↔ Pex n p im := by
  constructor
  · intro q a v ha hm
    exact (h a ha).one (q a v ha hm)
  · intro q a v ha hm
    have := q a v ha hm
    have h2 := h a ha
    rw [this] at h2; exact h2
theorem ClS.ass {x v : Nat} (hT : ∀ k, k < ts.length → Sq n (ts.getD k [])) (h : ClS n ts us im) (a : AssR n ts us x v im st true im' ud' st') : ClS n ts us im' := fun c d hc hd mc md => by
  by_cases c0 : ∃ u, Mp im c u
  · by_cases d0 : ∃ u, Mp im d u
    · intro k hk
      exact (h c d hc hd c0 d0 k hk).ext (hT k hk) a.ex hc hd c0 d0
    · exact (a.gd rfl d c hd hc d0 md mc).2
  · exact (a.gd rfl c d hc hd c0 mc md).1
theorem IsoL.ext {l l' : List Int} (h : l.length = n) (h' : l'.length = n) (e : ∀ a, a < n → ∃ v, Mp l a v ∧ Mp l' a v) : l = l' := by
  apply List.ext_getElem (by rw [h, h'])
  intro a h1 h2
  obtain ⟨v, q1, q2⟩ := e a (by omega)
  unfold Mp at q1 q2
  rw [List.getD_eq_getElem?_getD, List.getElem?_eq_getElem h1, Option.getD_some] at q1
  rw [List.getD_eq_getElem?_getD, List.getElem?_eq_getElem h2, Option.getD_some] at q2
  omega
theorem ys_leaf (h : MapSt n im ud st) (hc : ClS n ts us im) (hf : ∀ a, a < n → ¬ im.getD a 0 = -1) (hT : ∀ k, k < ts.length → Sq n (ts.getD k [])) : IsoL n ts us im ∧ YS n ts us im [im] := by
  have hv : ∀ a, a < n → ∃ v, v < n ∧ Mp im a v := fun a ha => by
    rcases h.val a ha with q | q
    · exact absurd q (hf a ha)
    · exact q
  have hp : ∀ a, a < n → Mp im a ((im.getD a 0).toNat) := fun a ha => by
    obtain ⟨v, _, q⟩ := hv a ha
    unfold Mp at q ⊢; rw [q]; simp
  have hI : IsoL n ts us im := by
    refine ⟨h.li, fun a => (im.getD a 0).toNat, ⟨fun a ha => ?_, fun a b ha hb e => ?_, fun k hk a b ha hb => ?_⟩, hp⟩
    · obtain ⟨v, hv, q⟩ := hv a ha
      unfold Mp at q; show (im.getD a 0).toNat < n; omega
    · have h1 := hp a ha
      have h2 := hp b hb
      have e' : (im.getD a 0).toNat = (im.getD b 0).toNat := e
      rw [← e'] at h2
      exact h.inj a b _ ha hb h1 h2
    · have h1 := hc a b ha hb ⟨_, hp a ha⟩ ⟨_, hp b hb⟩ k hk _ _ (hp a ha) (hp b hb)
      exact (hp _ ((hT k hk).lt ha hb)).one h1
  refine ⟨hI, by simp, fun l => ?_⟩
  rw [List.mem_singleton]
  constructor
  · rintro rfl; exact ⟨hI, fun _ _ _ q => q⟩
  · rintro ⟨⟨hl, p, hp2, hpl⟩, he⟩
    exact IsoL.ext hl h.li fun a ha => ⟨_, he a _ ha (hp a ha), hp a ha⟩
theorem yv_zero (x : Nat) (hx : x < n) : YV n ts us im x 0 [] := by
  refine ⟨by simp, fun l => ?_⟩
  constructor
  · intro q; cases q
  · rintro ⟨⟨_, p, _, hp⟩, _, h3⟩
    have := hp x hx
    unfold Mp at this
    have h4 : l.getD x 0 < ((0 : Nat) : Int) := h3
    omega
theorem yv_skip {x v : Nat} {Y : List (List Int)} (hx : x < n) (hno : ∀ p, Iso n ts us p → Pex n p im → p x ≠ v) (h : YV n ts us im x v Y) : YV n ts us im x (v + 1) Y := by
  refine ⟨h.1, fun l => ?_⟩
  rw [h.2 l]
  constructor
  · rintro ⟨q1, q2, q3⟩; exact ⟨q1, q2, by omega⟩
  · rintro ⟨q1, q2, q3⟩
    refine ⟨q1, q2, ?_⟩
    obtain ⟨_, p, hp, hpl⟩ := q1
    have h1 := hno p hp ((exL_pex hpl).1 q2)
    have h2 := hpl x hx
    unfold Mp at h2; omega
theorem yv_used {x v : Nat} {Y : List (List Int)} (hS : MapSt n im ud st) (hx : x < n) (hv : v < n) (h1 : im.getD x 0 = -1) (h2 : ud.getD v false = true) (h : YV n ts us im x v Y) : YV n ts us im x (v + 1) Y := by
  refine yv_skip hx (fun p hp hq e => ?_) h
  obtain ⟨a, ha, hm⟩ := (hS.used v hv).1 h2
  have := hp.inj a x ha hx (by rw [hq a v ha hm, e])
  subst this
  unfold Mp at hm; omega
theorem yv_no {x v : Nat} {Y : List (List Int)} (hx : x < n) (a : AssR n ts us x v im st false im' ud' st') (h : YV n ts us im x v Y) : YV n ts us im x (v + 1) Y :=
  yv_skip hx (fun p hp hq => a.no rfl p hp hq) h
theorem yv_yes {x v : Nat} {Y Y' : List (List Int)} (hx : x < n) (a : AssR n ts us x v im st true im' ud' st') (h : YV n ts us im x v Y) (k : YS n ts us im' Y') : YV n ts us im x (v + 1) (Y ++ Y') := by
  have hat : ∀ l, l ∈ Y' → l.getD x 0 = (v : Int) := fun l hl => ((k.2 l).1 hl).2 x v hx (a.at_ rfl)
  refine ⟨List.nodup_append.2 ⟨h.1, k.1, fun l hl l' hl' e => ?_⟩, fun l => ?_⟩
  · subst e
    have h1 := ((h.2 l).1 hl).2.2
    have h2 := hat l hl'
    omega
  · rw [List.mem_append, h.2 l, k.2 l]
    constructor
    · rintro (⟨q1, q2, q3⟩ | ⟨q1, q2⟩)
      · exact ⟨q1, q2, by omega⟩
      · refine ⟨q1, fun c u hc hm => q2 c u hc (a.ex.2 c u hc hm), ?_⟩
        have := q2 x v hx (a.at_ rfl)
        unfold Mp at this; omega
    · rintro ⟨q1, q2, q3⟩
      by_cases e : l.getD x 0 = (v : Int)
      · refine .inr ⟨q1, ?_⟩
        obtain ⟨hl, p, hp, hpl⟩ := q1
        have h2 : p x = v := by have := hpl x hx; unfold Mp at this; omega
        exact (exL_pex hpl).2 (a.px rfl p hp ((exL_pex hpl).1 q2) h2)
      · exact .inl ⟨q1, q2, by omega⟩
theorem yv_done {x : Nat} {Y : List (List Int)} (hx : x < n) (h : YV n ts us im x n Y) : YS n ts us im Y := by
  refine ⟨h.1, fun l => ?_⟩
  rw [h.2 l]
  constructor
  · rintro ⟨q1, q2, _⟩; exact ⟨q1, q2⟩
  · rintro ⟨q1, q2⟩
    refine ⟨q1, q2, ?_⟩
    obtain ⟨_, p, hp, hpl⟩ := q1
    have h1 := hpl x hx
    have h2 := hp.lt x hx
    unfold Mp at h1; omega
end
end Go.Proofs.YtaddclaadbjnlaaGreat
namespace Go.Proofs.YtaddclaadbjnlaaGreat
set_option maxRecDepth 100000
set_option linter.unusedVariables false
set_option linter.unusedSimpArgs false
open Go.RowKit
set_option maxHeartbeats 1000000 in
theorem indexN_any (a : Option Addr) (n c q : Nat) (xs : List Int) (y : Int) (w : World) (h1 : Row w a n xs) (hm : n ≤ 1000000000000) (hq : q < n) (he : xs.getD q 0 = y) (hno : ∀ i, i < q → xs.getD i 0 ≠ y) :
    Calls Tryz.prog 129 #[.slice a n c, .int .i64 y] w fun e w' => e = .returned (.int .i64 q) ∧ w = w' := by
  have HNO := Lib.hid hno; clear hno
  have HE := Lib.hid he; clear he
  go_enter Tryz.func129, Tryz.ntmps129
  go_wp2
  go_loop [8] (fun i => ∃ k : Nat, k ≤ q ∧ i = .int .i64 k) (fun i => q + 1 - (intOf i).toNat)
  case atStart => exact ⟨0, Nat.zero_le _, rfl⟩
  case round =>
    obtain ⟨k, hk, rfl⟩ := hrel
    have hlt : k < n := by omega
    obtain ⟨b, off, rfl, g1⟩ := h1.at k hlt
    have i1 : (0 : Int) ≤ (k : Int) := by omega
    have i2 : (k : Int) < (n : Int) := by omega
    obtain ⟨X, HX⟩ : ∃ X, Hid (xs.getD k 0 = X) := ⟨_, rfl⟩
    rw [HX.out] at g1
    by_cases e : k = q
    · subst e
      have e2 : y = X := by rw [← HE.out, HX.out]
      subst e2
      go_wp2
      go_ret
      exact ⟨rfl, rfl⟩
    · have hne : (y == X) = false := by
        have := HNO.out k (by omega)
        rw [HX.out] at this
        simpa using fun h => this h.symm
      go_wp2
      go_round
      case rel => exact ⟨k + 1, by omega, by go_num⟩
      case measure => simp [intOf]; omega
set_option maxHeartbeats 1000000 in
theorem indexN_no (a : Option Addr) (n c : Nat) (xs : List Int) (y : Int) (w : World) (h1 : Row w a n xs) (hm : n ≤ 1000000000000) (hno : ∀ i, i < n → xs.getD i 0 ≠ y) :
    Calls Tryz.prog 129 #[.slice a n c, .int .i64 y] w fun e w' => e = .returned (.int .i64 (-1)) ∧ w = w' := by
  have HNO := Lib.hid hno; clear hno
  go_enter Tryz.func129, Tryz.ntmps129
  go_wp2
  go_loop [8] (fun i => ∃ k : Nat, k ≤ n ∧ i = .int .i64 k) (fun i => n - (intOf i).toNat)
  case atStart => exact ⟨0, Nat.zero_le _, rfl⟩
  case round =>
    obtain ⟨k, hk, rfl⟩ := hrel
    by_cases hlt : k < n
    · obtain ⟨b, off, rfl, g1⟩ := h1.at k hlt
      have i1 : (0 : Int) ≤ (k : Int) := by omega
      have i2 : (k : Int) < (n : Int) := by omega
      obtain ⟨X, HX⟩ : ∃ X, Hid (xs.getD k 0 = X) := ⟨_, rfl⟩
      rw [HX.out] at g1
      have hne : (y == X) = false := by
        have := HNO.out k hlt
        rw [HX.out] at this
        simpa using fun h => this h.symm
      go_wp2
      go_round
      case rel => exact ⟨k + 1, by omega, by go_num⟩
      case measure => simp [intOf]; omega
    · obtain rfl : k = n := by omega
      go_wp2
      go_ret
      exact ⟨rfl, rfl⟩
end Go.Proofs.YtaddclaadbjnlaaGreat
