/-
  Walks and plain laws of this seat, some texts in one.
  No condition but bounds on lengths.
-/
import Derived.Test.YtaddclaadbjnlaaGreatPs22
import Derived.Test.YtaddclaadbjnlaaGreatPs12
import Derived.Test.YtaddclaadbjnlaaGreatPs5
import Derived.Test.YtaddclaadbjnlaaGreatPs3
import Derived.Test.YtaddclaadbjnlaaGreatPs4
import Derived.Test.YtaddclaadbjnlaaGreatPs23
import Derived.Test.YtaddclaadbjnlaaGreatPs6
import Derived.Deep.DeepCutAuto
namespace Go.Proofs.YtaddclaadbjnlaaGreat
set_option maxRecDepth 100000
set_option linter.unusedVariables false
set_option linter.unusedSimpArgs false
open Go.RowKit
theorem nodup_bdM : ∀ (n : Nat) (c : List Nat), c.Nodup → (∀ x ∈ c, x < n) → c.length ≤ n := by
  intro n
  induction n with
  | zero =>
    intro c _ h
    cases c with
    | nil => exact Nat.le_refl _
    | cons x c => exact absurd (h x List.mem_cons_self) (by omega)
  | succ n ih =>
    intro c hd h
    have h1 := ih (c.erase n) (hd.erase n) (fun x hx => by
      have h2 := (List.Nodup.mem_erase_iff hd).1 hx
      have := h x h2.2
      have := h2.1
      omega)
    by_cases hm : n ∈ c
    · rw [List.length_erase_of_mem hm] at h1; omega
    · rw [List.erase_of_not_mem hm] at h1; omega
theorem MapSt.natL {n : Nat} {im : List Int} {ud : List Bool} {st : List Int} (h : MapSt n im ud st) : ∃ c : List Nat, st = c.map (fun x => ((x : Nat) : Int)) ∧ c.Nodup ∧ ∀ x ∈ c, x < n := by
  refine ⟨st.map Int.toNat, ?_, ?_, ?_⟩
  · rw [List.map_map]
    conv => lhs; rw [← List.map_id st]
    apply List.map_congr_left
    intro x hx
    obtain ⟨a, _, rfl⟩ := h.mem x hx
    simp
  · rw [List.nodup_iff_pairwise_ne, List.pairwise_map]
    have hnd := h.nd
    rw [List.nodup_iff_pairwise_ne] at hnd
    refine List.Pairwise.imp_of_mem (fun {a b} ha hb hab => ?_) hnd
    obtain ⟨a', _, rfl⟩ := h.mem a ha
    obtain ⟨b', _, rfl⟩ := h.mem b hb
    simp; omega
  · intro x hx
    obtain ⟨y, hy, rfl⟩ := List.mem_map.1 hx
    obtain ⟨a, ha, rfl⟩ := h.mem y hy
    simpa using ha
theorem MapSt.le {n : Nat} {im : List Int} {ud : List Bool} {st : List Int} (h : MapSt n im ud st) : st.length ≤ n := by
  obtain ⟨c, rfl, h1, h2⟩ := h.natL
  rw [List.length_map]; exact nodup_bdM n c h1 h2
theorem MapSt.full {n : Nat} {im : List Int} {ud : List Bool} {st : List Int} (h : MapSt n im ud st) (hl : n ≤ st.length) {x : Nat} (hx : x < n) : ¬ im.getD x 0 = -1 := by
  intro q
  obtain ⟨c, e, h1, h2⟩ := h.natL
  have hn : x ∉ c := fun hm => by
    have : ((x : Nat) : Int) ∈ st := by rw [e]; exact List.mem_map.2 ⟨x, hm, rfl⟩
    obtain ⟨v, hv⟩ := (h.dom x hx).1 this
    unfold Mp at hv; omega
  have := nodup_bdM n (x :: c) (List.nodup_cons.2 ⟨hn, h1⟩) (fun y hy => by
    rcases List.mem_cons.1 hy with rfl | hy
    · exact hx
    · exact h2 y hy)
  rw [e, List.length_map] at hl
  simp at this; omega
/-! ### worlds that agree with another one but for some of its blocks -/
theorem mk_setn {S : Nat → Prop} {w0 w : World} (h : Marked S w0 w) {p : Addr} (hp : w0.heap.size ≤ p.block) (u : Value) : Marked S w0 (w.setCell p u) :=
  ⟨h.os, h.tape, h.output, by rw [size_set]; exact h.size, fun k hk hs => (Below.heap_setCell _ _ _ _ (by omega)).trans (h.block k hk hs)⟩
theorem mk_drewR {S : Nat → Prop} {w w' : World} (h : Marked S w w') (k : Nat) : Marked S w (w'.drewN k) := ⟨h.os, h.tape, h.output, h.size, h.block⟩
theorem mk_drewO {S : Nat → Prop} {w w' : World} (h : Marked S w w') : Marked S w w'.drew := ⟨h.os, h.tape, h.output, h.size, h.block⟩
theorem mk_grown {S : Nat → Prop} {w0 w w' : World} {row : Option Nat} (h : Marked S w0 w) (hg : w.grownBy w' row) (hr : ∀ g, row = some g → w0.heap.size ≤ g) : Marked S w0 w' :=
  ⟨hg.os.trans h.os, hg.tape.trans h.tape, hg.output.trans h.output, Nat.le_trans h.size hg.size, fun k hk hs => (hg.block k (Nat.lt_of_lt_of_le hk h.size) (fun e => by have := hr k e.symm; omega)).trans (h.block k hk hs)⟩
structure TB (S0 : Nat → Prop) (w0 : World) (g K n : Nat) (BB OO CC : Nat → Nat) (A O C : Nat → Nat → Nat) (ts : List (List (List Int))) : Prop where
  len : ts.length = K
  cell : ∀ w, Marked S0 w0 w → ∀ k, k < K → w.cell? ⟨g, k, none⟩ = some (.slice (some ⟨BB k, OO k, none⟩) n (CC k))
  grid : ∀ w, Marked S0 w0 w → ∀ k, k < K → Grid w (BB k) (OO k) (A k) (O k) (C k) n (ts.getD k [])
  sq : ∀ k, k < K → Sq n (ts.getD k [])
def MapS (mb bi bu : Nat) (sa : Option Addr) (g : Nat) : Prop := g = mb ∨ g = bi ∨ g = bu ∨ sa = some ⟨g, 0, none⟩
structure MapM (S0 : Nat → Prop) (w0 : World) (mb bi bu gf gt K kf kt n : Nat) (w : World) (sa : Option Addr) (ns cs : Nat) (im : List Int) (ud : List Bool) (st : List Int) : Prop where
  box : Loc w mb #[.slice (some ⟨gf, 0, none⟩) K kf, .slice (some ⟨gt, 0, none⟩) K kt, .slice (some ⟨bi, 0, none⟩) n n, .slice (some ⟨bu, 0, none⟩) n n, .slice sa ns cs] 106
  im : Own w w0.heap.size (some ⟨bi, 0, none⟩) n n im
  ud : OwnBo w w0.heap.size (some ⟨bu, 0, none⟩) n n ud
  st : Own w w0.heap.size sa ns cs st
  lo : w0.heap.size ≤ mb
  d1 : bi ≠ mb
  d2 : bu ≠ mb
  d3 : ∀ g, sa = some ⟨g, 0, none⟩ → g ≠ mb ∧ g ≠ bi ∧ g ≠ bu
  d4 : bi ≠ bu
  bel : Marked S0 w0 w
section
variable {S0 : Nat → Prop} {w0 w : World} {mb bi bu gf gt K kf kt n : Nat} {sa : Option Addr} {ns cs : Nat} {im : List Int} {ud : List Bool} {st : List Int}
theorem Loc.five {w : World} {b : Nat} {x y z u v : Value} {t : TypeId} (h : Loc w b #[x, y, z, u, v] t) : w.cell? ⟨b, 0, none⟩ = some x ∧ w.cell? ⟨b, 1, none⟩ = some y ∧ w.cell? ⟨b, 2, none⟩ = some z ∧ w.cell? ⟨b, 3, none⟩ = some u ∧ w.cell? ⟨b, 4, none⟩ = some v ∧ w.frozen? ⟨b, 4, none⟩ = false :=
  ⟨h.cell 0 rfl, h.cell 1 rfl, h.cell 2 rfl, h.cell 3 rfl, h.cell 4 rfl, h.free 4⟩
theorem MapM.drewN (h : MapM S0 w0 mb bi bu gf gt K kf kt n w sa ns cs im ud st) (k : Nat) : MapM S0 w0 mb bi bu gf gt K kf kt n (w.drewN k) sa ns cs im ud st :=
  ⟨h.box.drewN k, h.im.drewN k, h.ud.drewN k, h.st.drewN k, h.lo, h.d1, h.d2, h.d3, h.d4, mk_drewR h.bel k⟩
theorem MapM.put (h : MapM S0 w0 mb bi bu gf gt K kf kt n w sa ns cs im ud st) (x v : Nat) : MapM S0 w0 mb bi bu gf gt K kf kt n ((w.setCell ⟨bi, x, none⟩ (.int .i64 v)).setCell ⟨bu, v, none⟩ (.bool true)) sa ns cs (im.set x v) (ud.set v true) st := by
  have q3 := h.d3
  have hbi := h.im.lo bi rfl
  have hbu := h.ud.lo bu rfl
  exact ⟨(h.box.setne (by show mb ≠ bi; exact Ne.symm h.d1) _).setne (by show mb ≠ bu; exact Ne.symm h.d2) _, (h.im.set x v).setne (fun g e => by cases e; exact h.d4) _, (h.ud.setne (fun g e => by cases e; exact Ne.symm h.d4) _).set v true, (h.st.setne (fun g e => (q3 g e).2.1) _).setne (fun g e => (q3 g e).2.2) _, h.lo, h.d1, h.d2, h.d3, h.d4, mk_setn (mk_setn h.bel hbi _) hbu _⟩
theorem MapM.markPut (h : MapM S0 w0 mb bi bu gf gt K kf kt n w sa ns cs im ud st) (x v : Nat) (u u' : Value) : Marked (MapS mb bi bu sa) w ((w.setCell ⟨bi, x, none⟩ u).setCell ⟨bu, v, none⟩ u') := by
  refine ⟨rfl, rfl, rfl, by rw [size_set, size_set]; exact Nat.le_refl _, fun k hk hs => ?_⟩
  exact (Below.heap_setCell _ _ _ _ (fun e => hs (.inr (.inr (.inl e))))).trans (Below.heap_setCell _ _ _ _ (fun e => hs (.inr (.inl e))))
end
end Go.Proofs.YtaddclaadbjnlaaGreat
namespace Go.Proofs.YtaddclaadbjnlaaGreat
set_option linter.unusedVariables false
set_option linter.unusedSimpArgs false
abbrev MS := List Int × List Bool × List Int
abbrev AssT := Nat → Nat → MS → Bool × MS
def lpK (F : AssT) (ts us : List (List (List Int))) (x v y u : Nat) : Nat → Nat → MS → Bool × MS
  | 0, _, S => (true, S)
  | j + 1, k, S =>
    if (F (tv (ts.getD k []) x y) (tv (us.getD k []) v u) S).1 then
      if (F (tv (ts.getD k []) y x) (tv (us.getD k []) u v) (F (tv (ts.getD k []) x y) (tv (us.getD k []) v u) S).2).1 then lpK F ts us x v y u j (k + 1) (F (tv (ts.getD k []) y x) (tv (us.getD k []) u v) (F (tv (ts.getD k []) x y) (tv (us.getD k []) v u) S).2).2
      else (false, (F (tv (ts.getD k []) y x) (tv (us.getD k []) u v) (F (tv (ts.getD k []) x y) (tv (us.getD k []) v u) S).2).2)
    else (false, (F (tv (ts.getD k []) x y) (tv (us.getD k []) v u) S).2)
def lpI (F : AssT) (ts us : List (List (List Int))) (x v : Nat) : Nat → Nat → MS → Bool × MS
  | 0, _, S => (true, S)
  | f + 1, i, S =>
    if i < S.2.2.length then
      if (lpK F ts us x v (S.2.2.getD i 0).toNat (S.1.getD (S.2.2.getD i 0).toNat 0).toNat ts.length 0 S).1 then lpI F ts us x v f (i + 1) (lpK F ts us x v (S.2.2.getD i 0).toNat (S.1.getD (S.2.2.getD i 0).toNat 0).toNat ts.length 0 S).2
      else lpK F ts us x v (S.2.2.getD i 0).toNat (S.1.getD (S.2.2.getD i 0).toNat 0).toNat ts.length 0 S
    else (true, S)
def putM (x v : Nat) (S : MS) : MS := (S.1.set x v, S.2.1.set v true, S.2.2 ++ [((x : Nat) : Int)])
def assF (n : Nat) (ts us : List (List (List Int))) : Nat → AssT
  | 0, x, v, S => if 0 ≤ S.1.getD x 0 then (decide (S.1.getD x 0 = (v : Int)), S) else (false, S)
  | m + 1, x, v, S => if 0 ≤ S.1.getD x 0 then (decide (S.1.getD x 0 = (v : Int)), S) else if S.2.1.getD v false then (false, S) else lpI (assF n ts us m) ts us x v (n + 1) 0 (putM x v S)
def MSt (n : Nat) (S : MS) : Prop := MapSt n S.1 S.2.1 S.2.2
def ARs (n : Nat) (ts us : List (List (List Int))) (x v : Nat) (S : MS) (R : Bool × MS) : Prop := AssR n ts us x v S.1 S.2.2 R.1 R.2.1 R.2.2.1 R.2.2.2
def ALs (n : Nat) (ts us : List (List (List Int))) (x v : Nat) (S0 : MS) (i k : Nat) (S : MS) : Prop := AssL n ts us x v S0.1 S0.2.2 i k S.1 S.2.1 S.2.2
def AOk (n : Nat) (ts us : List (List (List Int))) (m : Nat) (F : AssT) : Prop := ∀ x v S, n ≤ S.2.2.length + m → x < n → v < n → MSt n S → ARs n ts us x v S (F x v S)
section
variable {n m : Nat} {ts us : List (List (List Int))} {F : AssT} {x v : Nat} {S0 : MS}
theorem lpK_ok (hF : AOk n ts us m F) (hT : ∀ k, k < ts.length → Sq n (ts.getD k [])) (hU : ∀ k, k < ts.length → Sq n (us.getD k [])) (hx : x < n) (hv : v < n) {i y u : Nat} (hy : y < n) (hu : u < n) :
    ∀ (j k : Nat) (S : MS), k + j = ts.length → n ≤ S.2.2.length + m → ALs n ts us x v S0 i k S → i < S.2.2.length → S.2.2.getD i 0 = ((y : Nat) : Int) → Mp S.1 y u →
      ((lpK F ts us x v y u j k S).1 = true → ALs n ts us x v S0 i ts.length (lpK F ts us x v y u j k S).2 ∧ i < (lpK F ts us x v y u j k S).2.2.2.length ∧ n ≤ (lpK F ts us x v y u j k S).2.2.2.length + m) ∧
      ((lpK F ts us x v y u j k S).1 = false → ARs n ts us x v S0 (lpK F ts us x v y u j k S)) := by
  intro j
  induction j with
  | zero =>
    intro k S hk hl h hi hiy hm
    obtain rfl : k = ts.length := by omega
    exact ⟨fun _ => ⟨h, hi, hl⟩, fun e => by cases e⟩
  | succ j ih =>
    intro k S hk hl h hi hiy hm
    have hkt : k < ts.length := by omega
    have a := hF (tv (ts.getD k []) x y) (tv (us.getD k []) v u) S hl ((hT k hkt).lt hx hy) ((hU k hkt).lt hv hu) h.ms
    unfold lpK
    cases q : (F (tv (ts.getD k []) x y) (tv (us.getD k []) v u) S).1 with
    | false =>
      rw [if_neg (by simp)]
      unfold ARs at a; rw [q] at a
      exact ⟨(fun e => by cases e), fun _ => h.no1 hT hU hkt hx hy hm a⟩
    | true =>
      rw [if_pos rfl]
      unfold ARs at a; rw [q] at a
      have hl1 : S.2.2.length ≤ (F (tv (ts.getD k []) x y) (tv (us.getD k []) v u) S).2.2.2.length := by obtain ⟨mm, e⟩ := a.ex.1; rw [e]; simp
      have b := hF (tv (ts.getD k []) y x) (tv (us.getD k []) u v) (F (tv (ts.getD k []) x y) (tv (us.getD k []) v u) S).2 (by omega) ((hT k hkt).lt hy hx) ((hU k hkt).lt hu hv) a.ms
      cases q2 : (F (tv (ts.getD k []) y x) (tv (us.getD k []) u v) (F (tv (ts.getD k []) x y) (tv (us.getD k []) v u) S).2).1 with
      | false =>
        rw [if_neg (by simp)]
        unfold ARs at b; rw [q2] at b
        exact ⟨(fun e => by cases e), fun _ => h.no2 hkt hx hy hm a b⟩
      | true =>
        rw [if_pos rfl]
        unfold ARs at b; rw [q2] at b
        have hl2 : (F (tv (ts.getD k []) x y) (tv (us.getD k []) v u) S).2.2.2.length ≤ (F (tv (ts.getD k []) y x) (tv (us.getD k []) u v) (F (tv (ts.getD k []) x y) (tv (us.getD k []) v u) S).2).2.2.2.length := by obtain ⟨mm, e⟩ := b.ex.1; rw [e]; simp
        have hex := a.ex.trans b.ex
        exact ih (k + 1) _ (by omega) (by omega) (h.step hT hkt hx hy hi hiy hm a b) (by omega) (by rw [ext_getD hex hi]; exact hiy) (hex.2 y u hy hm)
theorem lpI_ok (hF : AOk n ts us m F) (hT : ∀ k, k < ts.length → Sq n (ts.getD k [])) (hU : ∀ k, k < ts.length → Sq n (us.getD k [])) (hx : x < n) (hv : v < n) (hle : ∀ S, MSt n S → S.2.2.length ≤ n) :
    ∀ (f i : Nat) (S : MS), n + 1 ≤ i + f → n ≤ S.2.2.length + m → ALs n ts us x v S0 i 0 S → ARs n ts us x v S0 (lpI F ts us x v f i S) := by
  intro f
  induction f with
  | zero =>
    intro i S hf hl h
    have h1 := h.il
    have h2 := hle S h.ms
    omega
  | succ f ih =>
    intro i S hf hl h
    unfold lpI
    by_cases hi : i < S.2.2.length
    · rw [if_pos hi]
      obtain ⟨y, hy, e, u, hu, q⟩ := MapSt.get (h.ms) hi
      have e1 : (S.2.2.getD i 0).toNat = y := by rw [e]; simp
      have e2 : (S.1.getD y 0).toNat = u := by have q' : S.1.getD y 0 = (u : Int) := q; rw [q']; simp
      rw [e1, e2]
      obtain ⟨o1, o2⟩ := lpK_ok (S0 := S0) hF hT hU hx hv (i := i) hy hu ts.length 0 S (by omega) hl h hi e q
      cases q3 : (lpK F ts us x v y u ts.length 0 S).1 with
      | true =>
        rw [if_pos rfl]
        obtain ⟨p1, p2, p3⟩ := o1 q3
        exact ih (i + 1) _ (by omega) p3 (AssL.next p1 p2)
      | false =>
        rw [if_neg (by simp)]
        exact o2 q3
    · rw [if_neg hi]
      have h1 := h.il
      obtain rfl : i = S.2.2.length := by omega
      exact AssL.done hx h
theorem assF_ok (hT : ∀ k, k < ts.length → Sq n (ts.getD k [])) (hU : ∀ k, k < ts.length → Sq n (us.getD k [])) (hle : ∀ S, MSt n S → S.2.2.length ≤ n) (hfull : ∀ S, MSt n S → n ≤ S.2.2.length → ∀ x, x < n → ¬ S.1.getD x 0 = -1) : ∀ m, AOk n ts us m (assF n ts us m) := by
  have early : ∀ x v S, x < n → MSt n S → 0 ≤ S.1.getD x 0 → ARs n ts us x v S (decide (S.1.getD x 0 = (v : Int)), S) := fun x v S hx hS h0 => by
    rcases hS.val x hx with h1 | ⟨u, hu, hm⟩
    · omega
    · have := AssR.early (ts := ts) (us := us) (v := v) hS hx hm
      have e : S.1.getD x 0 = (u : Int) := hm
      unfold ARs
      rw [e]; exact this
  intro m
  induction m with
  | zero =>
    intro x v S hl hx hv hS
    show ARs n ts us x v S (if _ then _ else _)
    by_cases h0 : 0 ≤ S.1.getD x 0
    · rw [if_pos h0]; exact early x v S hx hS h0
    · rcases hS.val x hx with h1 | ⟨u, hu, hm⟩
      · exact absurd h1 (hfull S hS (by omega) x hx)
      · unfold Mp at hm; omega
  | succ m ih =>
    intro x v S hl hx hv hS
    show ARs n ts us x v S (if _ then _ else _)
    by_cases h0 : 0 ≤ S.1.getD x 0
    · rw [if_pos h0]; exact early x v S hx hS h0
    · rw [if_neg h0]
      have h1 : S.1.getD x 0 = -1 := by
        rcases hS.val x hx with h1 | ⟨u, hu, hm⟩
        · exact h1
        · unfold Mp at hm; omega
      cases h2 : S.2.1.getD v false with
      | true => rw [if_pos rfl]; exact AssR.taken hS hx hv h1 h2
      | false =>
        rw [if_neg (by simp)]
        exact lpI_ok (S0 := S) ih hT hU hx hv hle (n + 1) 0 _ (by omega) (by show n ≤ (S.2.2 ++ [((x : Nat) : Int)]).length + m; simp; omega) (AssL.start hS hx hv h1 h2)
end
end Go.Proofs.YtaddclaadbjnlaaGreat
