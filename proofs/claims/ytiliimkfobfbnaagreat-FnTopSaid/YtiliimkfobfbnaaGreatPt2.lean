/-
  Walks and plain laws of this seat, some texts in one.
  No condition but bounds on lengths.
-/
import Derived.Test.YtiliimkfobfbnaaGreatPt1
import Derived.Deep.Draws
namespace Go.Proofs.YtiliimkfobfbnaaGreat
set_option linter.unusedVariables false
set_option linter.unusedSimpArgs false
namespace Brc
variable {n : Nat} {A C : Nat → Nat → Nat} {ng iv : Nat → Nat}
def Ker (n : Nat) (A C : Nat → Nat → Nat) (ng iv : Nat → Nat) (s : Nat) : Prop := (∀ y, y < n → lamB A C ng s y = y) ∧ ∀ z, z < n → rhoB A C ng iv z s = z
theorem soc_ker (h : Brc n A C ng iv) {s : Nat} (hs : s < n) : Soc n A C s ↔ Ker n A C ng iv s := h.soc_iff hs
theorem ker_mul (h : Brc n A C ng iv) {s t : Nat} (hs : s < n) (ht : t < n) (h1 : Ker n A C ng iv s) (h2 : Ker n A C ng iv t) : Ker n A C ng iv (C s t) := by
  refine ⟨fun y hy => ?_, fun z hz => ?_⟩
  · rw [← h.lam_lam hs ht hy, h2.1 y hy, h1.1 y hy]
  · rw [← h.rho_rho hz hs ht, h1.2 z hz, h2.2 z hz]
theorem ker_cj (h : Brc n A C ng iv) {s z : Nat} (hs : s < n) (hz : z < n) (h1 : Ker n A C ng iv s) : Ker n A C ng iv (C (C z s) (iv z)) := by
  have hzs := h.c.lt z s hz hs
  have hzi := h.c.il z hz
  refine ⟨fun y hy => ?_, fun u hu => ?_⟩
  · rw [← h.lam_lam hzs hzi hy, ← h.lam_lam hz hs (h.lam_lt hzi hy), h1.1 _ (h.lam_lt hzi hy), h.lam_back hz hy]
  · rw [← h.rho_rho hu hzs hzi, ← h.rho_rho hu hz hs, h1.2 _ (h.rho_lt hu hz), h.rho_back hu hz]
theorem cj_lam (h : Brc n A C ng iv) {s z : Nat} (hs : s < n) (hz : z < n) (h1 : Ker n A C ng iv s) : C (C z s) (iv z) = lamB A C ng z s := by
  have hr := h1.2 z hz
  have hl := h.lam_lt hz hs
  have p := h.prod hz hs
  rw [hr] at p
  rw [← p, h.c.mul_inv hl hz]
theorem ker_lam (h : Brc n A C ng iv) {s z : Nat} (hs : s < n) (hz : z < n) (h1 : Ker n A C ng iv s) : Ker n A C ng iv (lamB A C ng z s) := by
  rw [← h.cj_lam hs hz h1]; exact h.ker_cj hs hz h1
theorem ker_zero (h : Brc n A C ng iv) (h0 : 0 < n) : Ker n A C ng iv 0 := ⟨fun y hy => h.zero_lam hy, fun z hz => h.rho_zero hz⟩
theorem ker_add (h : Brc n A C ng iv) {s t : Nat} (hs : s < n) (ht : t < n) (h1 : Ker n A C ng iv s) : C s t = A s t ∧ A s t = A t s :=
  ⟨((h.soc_ker hs).2 h1).1 t ht, ((h.soc_ker hs).2 h1).2 t ht⟩
def Al (n : Nat) (A C : Nat → Nat → Nat) (ng iv : Nat → Nat) (x y : Nat) : Prop := ∃ s, s < n ∧ Ker n A C ng iv s ∧ A x s = y
theorem al_circ (h : Brc n A C ng iv) {x y : Nat} (hx : x < n) (hy : y < n) : Al n A C ng iv x y ↔ ∃ s, s < n ∧ Ker n A C ng iv s ∧ C x s = y := by
  constructor
  · rintro ⟨s, hs, hk, e⟩
    refine ⟨lamB A C ng (iv x) s, h.lam_lt (h.c.il x hx) hs, h.ker_lam hs (h.c.il x hx) hk, ?_⟩
    rw [← h.circ hx (h.lam_lt (h.c.il x hx) hs), h.lam_back hx hs, e]
  · rintro ⟨s, hs, hk, e⟩
    exact ⟨lamB A C ng x s, h.lam_lt hx hs, h.ker_lam hs hx hk, by rw [h.circ hx hs, e]⟩
theorem al_iff (h : Brc n A C ng iv) {x y : Nat} (hx : x < n) (hy : y < n) : Al n A C ng iv x y ↔ (∀ z, z < n → lamB A C ng x z = lamB A C ng y z) ∧ ∀ z, z < n → rhoB A C ng iv z x = rhoB A C ng iv z y := by
  rw [h.al_circ hx hy]
  constructor
  · rintro ⟨s, hs, hk, rfl⟩
    refine ⟨fun z hz => ?_, fun z hz => ?_⟩
    · rw [← h.lam_lam hx hs hz, hk.1 z hz]
    · rw [← h.rho_rho hz hx hs, hk.2 _ (h.rho_lt hz hx)]
  · rintro ⟨h1, h2⟩
    have hxi := h.c.il x hx
    refine ⟨C (iv x) y, h.c.lt _ _ hxi hy, ⟨fun z hz => ?_, fun z hz => ?_⟩, h.c.mul_inv' hx hy⟩
    · rw [← h.lam_lam hxi hy hz, ← h1 z hz, h.back_lam hx hz]
    · rw [← h.rho_rho hz hxi hy, ← h2 _ (h.rho_lt hz hxi), h.back_rho hz hx]
theorem al_add (h : Brc n A C ng iv) {x x' y y' : Nat} (hx : x < n) (hx' : x' < n) (hy : y < n) (hy' : y' < n) (h1 : Al n A C ng iv x x') (h2 : Al n A C ng iv y y') : Al n A C ng iv (A x y) (A x' y') := by
  obtain ⟨s, hs, hk, rfl⟩ := h1
  obtain ⟨t, ht, hk2, rfl⟩ := h2
  have hst := h.a.lt s t hs ht
  refine ⟨A s t, hst, by rw [← (h.ker_add hs ht hk).1]; exact h.ker_mul hs ht hk hk2, ?_⟩
  rw [h.a.assoc _ _ _ hx hy hst, h.a.assoc _ _ _ hx hs (h.a.lt _ _ hy ht), ← h.a.assoc _ _ _ hs hy ht, (h.ker_add hs hy hk).2, h.a.assoc _ _ _ hy hs ht]
theorem al_mul (h : Brc n A C ng iv) {x x' y y' : Nat} (hx : x < n) (hx' : x' < n) (hy : y < n) (hy' : y' < n) (h1 : Al n A C ng iv x x') (h2 : Al n A C ng iv y y') : Al n A C ng iv (C x y) (C x' y') := by
  obtain ⟨s, hs, hk, rfl⟩ := (h.al_circ hx hx').1 h1
  obtain ⟨t, ht, hk2, rfl⟩ := (h.al_circ hy hy').1 h2
  have hxy := h.c.lt x y hx hy
  have hyi := h.c.il y hy
  have hu := h.c.lt _ _ (h.c.lt _ _ hyi hs) (h.c.il _ hyi)
  have hku := h.ker_cj hs hyi hk
  rw [h.c.inv_inv hy] at hu hku
  have hut := h.c.lt _ _ hu ht
  refine (h.al_circ hxy (h.c.lt _ _ hx' hy')).2 ⟨C (C (C (iv y) s) y) t, hut, h.ker_mul hu ht hku hk2, ?_⟩
  have hys := h.c.lt _ _ hyi hs
  have hsy := h.c.lt s y hs hy
  rw [h.c.assoc _ _ _ hx hy hut, h.c.assoc _ _ _ hys hy ht, h.c.assoc _ _ _ hyi hs (h.c.lt _ _ hy ht), h.c.mul_inv' hy (h.c.lt _ _ hs (h.c.lt _ _ hy ht)), h.c.assoc _ _ _ hx hs (h.c.lt _ _ hy ht)]
end Brc
theorem Brc.onto {n m : Nat} {A C A' C' : Nat → Nat → Nat} {ng iv : Nat → Nat} (h : Brc n A C ng iv) {cl fs : Nat → Nat} (hc : ∀ x, x < n → cl x < m) (hf : ∀ u, u < m → fs u < n) (hcf : ∀ u, u < m → cl (fs u) = u) (hA : ∀ x y, x < n → y < n → cl (A x y) = A' (cl x) (cl y)) (hC : ∀ x y, x < n → y < n → cl (C x y) = C' (cl x) (cl y)) (h0 : cl 0 = 0) :
    Brc m A' C' (fun u => cl (ng (fs u))) (fun u => cl (iv (fs u))) := by
  have a2 : ∀ u v, u < m → v < m → A' u v = cl (A (fs u) (fs v)) := fun u v hu hv => by rw [hA _ _ (hf u hu) (hf v hv), hcf u hu, hcf v hv]
  have c2 : ∀ u v, u < m → v < m → C' u v = cl (C (fs u) (fs v)) := fun u v hu hv => by rw [hC _ _ (hf u hu) (hf v hv), hcf u hu, hcf v hv]
  have grp : ∀ (M M' : Nat → Nat → Nat) (i : Nat → Nat), Grp n M i → (∀ x y, x < n → y < n → cl (M x y) = M' (cl x) (cl y)) → (∀ u v, u < m → v < m → M' u v = cl (M (fs u) (fs v))) → Grp m M' (fun u => cl (i (fs u))) := by
    intro M M' i g hM m2
    refine ⟨fun u v hu hv => by rw [m2 u v hu hv]; exact hc _ (g.lt _ _ (hf u hu) (hf v hv)), fun u hu => hc _ (g.il _ (hf u hu)), fun u hu => ?_, fun u hu => ?_, fun u v w hu hv hw => ?_, fun u hu => ?_⟩
    · have hn := hf u hu
      have := hM 0 (fs u) (by omega) hn
      rw [h0, hcf u hu, g.one_l _ hn, hcf u hu] at this; exact this.symm
    · have hn := hf u hu
      have := hM (fs u) 0 hn (by omega)
      rw [h0, hcf u hu, g.one_r _ hn, hcf u hu] at this; exact this.symm
    · have hu' := hf u hu; have hv' := hf v hv; have hw' := hf w hw
      have e1 : M' (M' u v) w = cl (M (M (fs u) (fs v)) (fs w)) := by rw [hM _ _ (g.lt _ _ hu' hv') hw', hM _ _ hu' hv', hcf u hu, hcf v hv, hcf w hw]
      have e2 : M' u (M' v w) = cl (M (fs u) (M (fs v) (fs w))) := by rw [hM _ _ hu' (g.lt _ _ hv' hw'), hM _ _ hv' hw', hcf u hu, hcf v hv, hcf w hw]
      rw [e1, e2, g.assoc _ _ _ hu' hv' hw']
    · have hn := hf u hu
      have := hM (fs u) (i (fs u)) hn (g.il _ hn)
      rw [g.inv_r _ hn, h0, hcf u hu] at this; exact this.symm
  refine ⟨grp A A' ng h.a hA a2, grp C C' iv h.c hC c2, fun u v w hu hv hw => ?_⟩
  have hu' := hf u hu; have hv' := hf v hv; have hw' := hf w hw
  have hA' := grp A A' ng h.a hA a2
  have e1 : C' u (A' v w) = cl (C (fs u) (A (fs v) (fs w))) := by rw [hC _ _ hu' (h.a.lt _ _ hv' hw'), hA _ _ hv' hw', hcf u hu, hcf v hv, hcf w hw]
  have hxy := h.c.lt _ _ hu' hv'
  have e2 : A' (A' (C' u v) (cl (ng (fs u)))) (C' u w) = cl (A (A (C (fs u) (fs v)) (ng (fs u))) (C (fs u) (fs w))) := by
    rw [hA _ _ (h.a.lt _ _ hxy (h.a.il _ hu')) (h.c.lt _ _ hu' hw'), hA _ _ hxy (h.a.il _ hu'), hC _ _ hu' hv', hC _ _ hu' hw', hcf u hu, hcf v hv, hcf w hw]
  show C' u (A' v w) = A' (A' (C' u v) (cl (ng (fs u)))) (C' u w)
  rw [e1, e2, h.br _ _ _ hu' hv' hw']
theorem Brc.onto_lam {n m : Nat} {A C A' C' : Nat → Nat → Nat} {ng iv ng' iv' : Nat → Nat} (h : Brc n A C ng iv) (h' : Brc m A' C' ng' iv') {cl : Nat → Nat} (hc : ∀ x, x < n → cl x < m) (hA : ∀ x y, x < n → y < n → cl (A x y) = A' (cl x) (cl y)) (hC : ∀ x y, x < n → y < n → cl (C x y) = C' (cl x) (cl y)) {x y : Nat} (hx : x < n) (hy : y < n) :
    lamB A' C' ng' (cl x) (cl y) = cl (lamB A C ng x y) ∧ rhoB A' C' ng' iv' (cl x) (cl y) = cl (rhoB A C ng iv x y) := by
  have e1 : lamB A' C' ng' (cl x) (cl y) = cl (lamB A C ng x y) := by
    refine h'.a.cancel_l (hc x hx) (h'.lam_lt (hc x hx) (hc y hy)) (hc _ (h.lam_lt hx hy)) ?_
    rw [h'.circ (hc x hx) (hc y hy), ← hA _ _ hx (h.lam_lt hx hy), h.circ hx hy, hC _ _ hx hy]
  refine ⟨e1, ?_⟩
  have hl := h.lam_lt hx hy
  refine h'.c.cancel_l (hc _ hl) (h'.rho_lt (hc x hx) (hc y hy)) (hc _ (h.rho_lt hx hy)) ?_
  have p := h'.prod (hc x hx) (hc y hy)
  rw [e1] at p
  rw [p, ← hC _ _ hl (h.rho_lt hx hy), h.prod hx hy, hC _ _ hx hy]
end Go.Proofs.YtiliimkfobfbnaaGreat
namespace Go.Proofs.YtiliimkfobfbnaaGreat
set_option maxRecDepth 100000
set_option linter.unusedVariables false
set_option linter.unusedSimpArgs false
open Go.RowKit
def Tbl (w : World) (a : Option Addr) (n : Nat) (xss : List (List Int)) : Prop :=
  n = xss.length ∧ ∀ i, i < n → ∃ b off ai ni ci, a = some ⟨b, off, none⟩ ∧ b < w.heap.size ∧ w.cell? ⟨b, off + i, none⟩ = some (.slice ai ni ci) ∧ Row w ai ni (xss.getD i []) ∧ ni ≤ 9223372036854775807
theorem Tbl.nil (w : World) (a : Option Addr) : Tbl w a 0 [] := ⟨rfl, fun i h => absurd h (by omega)⟩
theorem Tbl.len {w : World} {a : Option Addr} {n : Nat} {xss : List (List Int)} (h : Tbl w a n xss) : n = xss.length := h.1
theorem Tbl.at {w : World} {a : Option Addr} {n : Nat} {xss : List (List Int)} (h : Tbl w a n xss) (i : Nat) (hi : i < n) : ∃ b off ai ni ci, a = some ⟨b, off, none⟩ ∧ w.cell? ⟨b, off + i, none⟩ = some (.slice ai ni ci) ∧ Row w ai ni (xss.getD i []) ∧ ni ≤ 9223372036854775807 := by
  obtain ⟨b, off, ai, ni, ci, h1, _, h2⟩ := h.2 i hi; exact ⟨b, off, ai, ni, ci, h1, h2⟩
theorem Tbl.below {w w' : World} {a : Option Addr} {n : Nat} {xss : List (List Int)} (h : Tbl w a n xss) (hb : Below w.heap.size w w') : Tbl w' a n xss :=
  ⟨h.1, fun i hi => by obtain ⟨b, off, ai, ni, ci, h1, h3, h2, h4, h5⟩ := h.2 i hi; exact ⟨b, off, ai, ni, ci, h1, Nat.lt_of_lt_of_le h3 hb.size, (hb.cell (p := ⟨b, off + i, none⟩) h3).trans h2, h4.below hb, h5⟩⟩
theorem Tbl.drewN {w : World} {a : Option Addr} {n : Nat} {xss : List (List Int)} (h : Tbl w a n xss) (k : Nat) : Tbl (w.drewN k) a n xss := h
theorem Tbl.alloc {w : World} {a : Option Addr} {n : Nat} {xss : List (List Int)} (h : Tbl w a n xss) (o : Obj) : Tbl (w.alloc o) a n xss := h.below ((Below.refl _ _).alloc (Nat.le_refl _) o)
theorem Tbl.getD {xss : List (List Int)} {i : Nat} (h : i < xss.length) : xss.getD i [] = xss[i] := by simp [List.getD_eq_getElem?_getD, List.getElem?_eq_getElem h]
structure Touch (S : Nat → Prop) (w w' : World) : Prop where
  os : w'.os = w.os
  tape : w'.tape = w.tape
  output : w'.output = w.output
  size : w'.heap.size = w.heap.size
  block : ∀ k, ¬ S k → w'.heap[k]? = w.heap[k]?
theorem Touch.refl (S : Nat → Prop) (w : World) : Touch S w w := ⟨rfl, rfl, rfl, rfl, fun _ _ => rfl⟩
theorem Touch.trans {S : Nat → Prop} {a b c : World} (h : Touch S a b) (k : Touch S b c) : Touch S a c :=
  ⟨k.os.trans h.os, k.tape.trans h.tape, k.output.trans h.output, k.size.trans h.size, fun i hi => (k.block i hi).trans (h.block i hi)⟩
theorem Touch.set {S : Nat → Prop} {a b : World} (h : Touch S a b) {p : Addr} (hp : S p.block) (u : Value) : Touch S a (b.setCell p u) :=
  h.trans ⟨rfl, rfl, rfl, by simp [World.setCell], fun k hk => Below.heap_setCell _ _ _ _ (fun e => hk (e ▸ hp))⟩
theorem Touch.mono {S T : Nat → Prop} {a b : World} (h : Touch S a b) (hS : ∀ k, S k → T k) : Touch T a b := ⟨h.os, h.tape, h.output, h.size, fun k hk => h.block k (fun hs => hk (hS k hs))⟩
theorem Touch.drewN {S : Nat → Prop} {a b : World} (h : Touch S a b) (n : Nat) : Touch S a (b.drewN n) := ⟨h.os, h.tape, h.output, h.size, h.block⟩
theorem Touch.below {S : Nat → Prop} {B : Nat} {a b c : World} (h : Below B a b) (ht : Touch S b c) (hS : ∀ k, S k → B ≤ k) : Below B a c :=
  h.trans ⟨ht.os, ht.tape, ht.output, by rw [ht.size]; exact Nat.le_refl _, fun k hk => ht.block k (fun hs => by have := hS k hs; omega)⟩
theorem take_eq_succ {xs ys : List Int} {k : Nat} (hx : k < xs.length) (hy : k < ys.length) (h : xs.take k = ys.take k) (he : xs[k] = ys[k]) : xs.take (k + 1) = ys.take (k + 1) := by
  rw [List.take_succ_eq_append_getElem hx, List.take_succ_eq_append_getElem hy, h, he]
/-! ### sz -/
/-! ### eq -/
/-! ### held -/
/-! ### mark -/
/-! ### to -/
theorem info_rows : (Tryz.prog.info? 50).map (fun i => (i.zero, i.size, i.bytes)) = some (some (.slice none 0 0), 1, 24) := by kernel_rfl
theorem und_rows : Tryz.prog.underlying 24 = some (.slice 50) := by kernel_rfl
abbrev SV := Option Addr × Nat × Nat
def sl (v : SV) : Value := .slice v.1 v.2.1 v.2.2
abbrev svO : SV := (none, 0, 0)
def Apart (a b : Option Addr) : Prop := ∀ g, a = some ⟨g, 0, none⟩ → b ≠ some ⟨g, 0, none⟩
theorem Apart.symm {a b : Option Addr} (h : Apart a b) : Apart b a := fun g h1 h2 => h g h2 h1
structure OwnT (w : World) (lo : Nat) (a : Option Addr) (n c : Nat) (vs : List SV) (xss : List (List Int)) : Prop where
  len : n = xss.length
  vlen : vs.length = n
  hdr : w.ownsRow lo 50 1 (.slice a n c) n (vs.map sl)
  row : ∀ i, i < n → Own w lo (vs.getD i svO).1 (vs.getD i svO).2.1 (vs.getD i svO).2.2 (xss.getD i [])
  ap : ∀ i, i < n → Apart a (vs.getD i svO).1
  pw : ∀ i j, i < n → j < n → i ≠ j → Apart (vs.getD i svO).1 (vs.getD j svO).1
section
variable {w w' : World} {lo : Nat} {a : Option Addr} {n c : Nat} {vs : List SV} {xss : List (List Int)}
theorem OwnT.nil (w : World) (lo : Nat) : OwnT w lo none 0 0 [] [] :=
  ⟨rfl, rfl, World.ownsRow_nil w lo _ 1, fun i h => absurd h (by omega), fun i h => absurd h (by omega), fun i j h => absurd h (by omega)⟩
theorem OwnT.block (h : OwnT w lo a n c vs xss) : (a = none ∧ n = 0 ∧ c = 0) ∨ ∃ g cur, a = some ⟨g, 0, none⟩ ∧ lo ≤ g ∧ Loc w g cur 50 ∧ n ≤ c ∧ c ≤ maxLen ∧ cur.size = c ∧ cur.toList.take n = vs.map sl := by
  rcases h.hdr.2 with ⟨h1, h2⟩ | ⟨g, cap, cur, h1, h2, h3, h4, h5, h6, h7⟩
  · cases h1; exact .inl ⟨rfl, rfl, rfl⟩
  · cases h1; exact .inr ⟨g, cur, rfl, h2, h3, h4, h5, by simpa using h6, by simpa using h7⟩
theorem ownsRow_mk {w : World} {lo g n c : Nat} {vs : List SV} {cur : Array Value} (hn : vs.length = n) (h1 : lo ≤ g) (h2 : Loc w g cur 50) (h3 : n ≤ c) (h4 : c ≤ maxLen) (h5 : cur.size = c) (h6 : cur.toList.take n = vs.map sl) :
    w.ownsRow lo 50 1 (.slice (some ⟨g, 0, none⟩) n c) n (vs.map sl) :=
  ⟨by simp [hn], .inr ⟨g, c, cur, rfl, h1, h2, h3, h4, by simpa using h5, by simpa using h6⟩⟩
theorem OwnT.high (h : OwnT w lo a n c vs xss) : ∀ g, a = some ⟨g, 0, none⟩ → g < w.heap.size := by
  intro g hg
  rcases h.block with ⟨h1, _⟩ | ⟨g', cur, h1, h2, h3, _⟩
  · rw [h1] at hg; cases hg
  · rw [h1] at hg; cases hg; exact h3.lt
theorem OwnT.low (h : OwnT w lo a n c vs xss) : ∀ g, a = some ⟨g, 0, none⟩ → lo ≤ g := by
  intro g hg
  rcases h.block with ⟨h1, _⟩ | ⟨g', cur, h1, h2, h3, _⟩
  · rw [h1] at hg; cases hg
  · rw [h1] at hg; cases hg; exact h2
theorem OwnT.cap (h : OwnT w lo a n c vs xss) : n ≤ c ∧ c ≤ 9223372036854775807 := by
  rcases h.block with ⟨_, h1, h2⟩ | ⟨g', cur, h1, h2, h3, h4, h5, _⟩
  · omega
  · unfold maxLen at h5; omega
theorem OwnT.keep (h : OwnT w lo a n c vs xss) (hk : ∀ g, (a = some ⟨g, 0, none⟩ ∨ ∃ i, i < n ∧ (vs.getD i svO).1 = some ⟨g, 0, none⟩) → g < w.heap.size → w'.heap[g]? = w.heap[g]?) : OwnT w' lo a n c vs xss := by
  refine ⟨h.len, h.vlen, ?_, fun i hi => (h.row i hi).keep fun g hg hlt => hk g (.inr ⟨i, hi, hg⟩) hlt, h.ap, h.pw⟩
  rcases h.block with ⟨h1, h2, h3⟩ | ⟨g, cur, h1, h2, h3, h4, h5, h6, h7⟩
  · subst h1 h2 h3
    have : vs = [] := List.eq_nil_of_length_eq_zero h.vlen
    subst this; exact World.ownsRow_nil _ _ _ _
  · subst h1
    exact ownsRow_mk h.vlen h2 ((hk g (.inl rfl) h3.lt).trans h3) h4 h5 h6 h7
theorem OwnT.below (h : OwnT w lo a n c vs xss) (hb : Below w.heap.size w w') : OwnT w' lo a n c vs xss := h.keep fun g _ hlt => hb.block g hlt
theorem OwnT.alloc (h : OwnT w lo a n c vs xss) (o : Obj) : OwnT (w.alloc o) lo a n c vs xss := h.below ((Below.refl _ _).alloc (Nat.le_refl _) o)
theorem OwnT.drewN (h : OwnT w lo a n c vs xss) (k : Nat) : OwnT (w.drewN k) lo a n c vs xss := h.keep fun _ _ _ => rfl
theorem OwnT.mono {lo' : Nat} (h : OwnT w lo a n c vs xss) (hl : lo' ≤ lo) : OwnT w lo' a n c vs xss := by
  refine ⟨h.len, h.vlen, ?_, fun i hi => (h.row i hi).mono hl, h.ap, h.pw⟩
  rcases h.block with ⟨h1, h2, h3⟩ | ⟨g, cur, h1, h2, h3, h4, h5, h6, h7⟩
  · subst h1 h2 h3
    have : vs = [] := List.eq_nil_of_length_eq_zero h.vlen
    subst this; exact World.ownsRow_nil _ _ _ _
  · subst h1; exact ownsRow_mk h.vlen (Nat.le_trans hl h2) h3 h4 h5 h6 h7
theorem OwnT.setlo (h : OwnT w lo a n c vs xss) {p : Addr} (hp : p.block < lo) (u : Value) : OwnT (w.setCell p u) lo a n c vs xss := by
  refine h.keep fun g hg _ => Below.heap_setCell _ _ _ _ ?_
  rcases hg with hg | ⟨i, hi, hg⟩
  · have := h.low g hg; omega
  · have := (h.row i hi).lo g hg; omega
theorem OwnT.blo (h : OwnT w lo a n c vs xss) : ∀ g, (a = some ⟨g, 0, none⟩ ∨ ∃ i, i < n ∧ (vs.getD i svO).1 = some ⟨g, 0, none⟩) → lo ≤ g := fun g hg => by
  rcases hg with hg | ⟨i, hi, hg⟩
  · exact h.low g hg
  · exact (h.row i hi).lo g hg
theorem OwnT.bhi (h : OwnT w lo a n c vs xss) : ∀ g, (a = some ⟨g, 0, none⟩ ∨ ∃ i, i < n ∧ (vs.getD i svO).1 = some ⟨g, 0, none⟩) → g < w.heap.size := fun g hg => by
  rcases hg with hg | ⟨i, hi, hg⟩
  · exact h.high g hg
  · exact (h.row i hi).hi g hg
theorem OwnT.cells (h : OwnT w lo a n c vs xss) (hn : 0 < n) : ∃ g, a = some ⟨g, 0, none⟩ ∧ g < w.heap.size ∧ (∀ i, i < n → w.cell? ⟨g, i, none⟩ = some (.slice (vs.getD i svO).1 (vs.getD i svO).2.1 (vs.getD i svO).2.2)) ∧ ∀ i, w.frozen? ⟨g, i, none⟩ = false := by
  rcases h.block with ⟨h1, h2, h3⟩ | ⟨g, cur, h1, h2, h3, h4, h5, h6, h7⟩
  · omega
  · refine ⟨g, h1, h3.lt, fun i hi => h3.cell i ?_, fun i => h3.free i⟩
    have hx : (cur.toList.take n)[i]? = (vs.map sl)[i]? := by rw [h7]
    have hxi : i < vs.length := by have := h.vlen; omega
    rw [List.getElem?_take, if_pos hi] at hx
    simp [List.getElem?_eq_getElem hxi] at hx
    simp [List.getD_eq_getElem?_getD, List.getElem?_eq_getElem hxi, hx, sl]
theorem OwnT.tbl (h : OwnT w lo a n c vs xss) : Tbl w a n xss := by
  refine ⟨h.len, fun i hi => ?_⟩
  obtain ⟨g, h1, h2, h3, h4⟩ := h.cells (by omega)
  exact ⟨g, 0, _, _, _, h1, h2, by simpa using h3 i hi, (h.row i hi).row, by have := (h.row i hi).cap; omega⟩
theorem getD_set' {α : Type} (l : List α) (j i : Nat) (x d : α) (h : i < l.length) : (l.set j x).getD i d = if i = j then x else l.getD i d := by
  simp only [List.getD_eq_getElem?_getD, List.getElem?_set]
  by_cases e : i = j
  · subst e; simp [h]
  · rw [if_neg e, if_neg (fun h => e h.symm)]
theorem OwnT.put {g : Nat} (h : OwnT w lo (some ⟨g, 0, none⟩) n c vs xss) (i : Nat) (hi : i < n) {v : SV} {ys : List Int} (ho : Own w lo v.1 v.2.1 v.2.2 ys) (h1 : v.1 ≠ some ⟨g, 0, none⟩) (h2 : ∀ j, j < n → j ≠ i → Apart v.1 (vs.getD j svO).1) :
    OwnT (w.setCell ⟨g, i, none⟩ (.slice v.1 v.2.1 v.2.2)) lo (some ⟨g, 0, none⟩) n c (vs.set i v) (xss.set i ys) := by
  have hl := h.len
  have hv := h.vlen
  have hg : ∀ j, j < n → ∀ g', (vs.getD j svO).1 = some ⟨g', 0, none⟩ → g' ≠ g := fun j hj g' hg' e => by subst e; exact h.ap j hj g' rfl hg'
  refine ⟨by simp [hl], by simp [hv], ?_, fun j hj => ?_, fun j hj => ?_, fun j k hj hk hjk => ?_⟩
  · rcases h.block with ⟨h1, h2, h3⟩ | ⟨g', cur, e1, e2, e3, e4, e5, e6, e7⟩
    · cases h1
    · cases e1
      refine ownsRow_mk (by simp [hv]) e2 (e3.set i _) e4 e5 (by simpa using e6) ?_
      rw [Array.toList_setIfInBounds, List.take_set, e7, List.map_set]; rfl
  · rw [getD_set' _ _ _ _ _ (by omega), getD_set' _ _ _ _ _ (by omega)]
    by_cases e : j = i
    · rw [if_pos e, if_pos e]; exact ho.setne (fun g' hg' e => h1 (by rw [hg']; subst e; rfl)) _
    · rw [if_neg e, if_neg e]; exact (h.row j hj).setne (fun g' hg' => hg j hj g' hg') _
  · rw [getD_set' _ _ _ _ _ (by omega)]
    by_cases e : j = i
    · rw [if_pos e]; intro g' hg' hv'; cases hg'; exact h1 hv'
    · rw [if_neg e]; exact h.ap j hj
  · rw [getD_set' _ _ _ _ _ (by omega), getD_set' _ _ _ _ _ (by omega)]
    by_cases e : j = i
    · rw [if_pos e, if_neg (by omega)]; exact h2 k hk (by omega)
    · rw [if_neg e]
      by_cases e' : k = i
      · rw [if_pos e']; exact (h2 j hj e).symm
      · rw [if_neg e']; exact h.pw j k hj hk hjk
theorem OwnT.setrow (h : OwnT w lo a n c vs xss) (i : Nat) (hi : i < n) {g : Nat} (hg : (vs.getD i svO).1 = some ⟨g, 0, none⟩) (j : Nat) (x : Int) :
    OwnT (w.setCell ⟨g, j, none⟩ (.int .i64 x)) lo a n c vs (xss.set i ((xss.getD i []).set j x)) := by
  have hl := h.len
  refine ⟨by simp [hl], h.vlen, ?_, fun k hk => ?_, h.ap, h.pw⟩
  · rcases h.block with ⟨h1, h2, h3⟩ | ⟨g', cur, e1, e2, e3, e4, e5, e6, e7⟩
    · omega
    · subst e1
      exact ownsRow_mk h.vlen e2 (e3.setne (fun e => h.ap i hi g' rfl (by rw [hg, e])) _) e4 e5 e6 e7
  · rw [getD_set' _ _ _ _ _ (by omega)]
    by_cases e : k = i
    · subst e
      rw [if_pos rfl]
      have := h.row k hi
      rw [hg] at this ⊢
      exact this.set j x
    · rw [if_neg e]
      exact (h.row k hk).setne (fun g' hg' e' => h.pw k i hk hi e g' hg' (by rw [hg, e'])) _
end
theorem makeT {ops : Array Oper} {rest : List Oper} {o : Oper} {a : Act} {Q : Exit → Act → World → Prop} {w : World} (hgd : o.guard = none) {l c : Operand}
    (ho : o.op = Op.makeSlice 24 l c) {n : Nat} (hl : a.eval l = .int .i64 n) (hc : a.eval c = .int .i64 n) (hn : n ≤ 1000000000000)
    (h : ∀ w', OwnT w' w.heap.size (some ⟨w.heap.size, 0, none⟩) n n (List.replicate n svO) (List.replicate n []) → w.heap.size < w'.heap.size → Below w.heap.size w w' → wpList Tryz.prog ops Q rest (a.put o.dst (.slice (some ⟨w.heap.size, 0, none⟩) n n)) w') :
    wpList Tryz.prog ops Q (o :: rest) a w := by
  obtain ⟨i0, hi, hz0, hz1, hz2⟩ := info_parts info_rows
  refine wpList_make_full w hgd l c 24 ho w.heap.size 50 i0 (.slice none 0 0) 1 und_rows hi hz0 hz1 .i64 .i64 n n n hl hc rfl rfl (by rw [hz2]; omega) (by unfold maxLen; omega) (Nat.le_refl _) ?_
  intro w' ho' hg
  have e : (madeCells (Value.slice none 0 0).cells (n * 1)).toList = (List.replicate n svO).map sl := by
    rw [Nat.mul_one, List.map_replicate]; exact toList_madeCells_one _ _
  rw [e] at ho'
  have hrep : ∀ i, i < n → (List.replicate n svO).getD i svO = svO := fun i hi => by simp [List.getD_eq_getElem?_getD, hi]
  refine h w' ⟨by simp, by simp, ho', fun i hi => ?_, fun i hi => ?_, fun i j hi hj _ => ?_⟩ ?_ ((Below.refl _ _).grown hg (Nat.le_refl _) (by simp))
  · rw [hrep i hi]
    have : (List.replicate n ([] : List Int)).getD i [] = [] := by simp [List.getD_eq_getElem?_getD, hi]
    rw [this]; exact Own.nil _ _
  · rw [hrep i hi]; intro g _ h; cases h
  · rw [hrep i hi]; intro g h; cases h
  · rcases ho'.2 with ⟨h1, _⟩ | ⟨g, cap, cur, h1, h2, h3, _⟩
    · cases h1
    · cases h1; exact lt_of_block h3
abbrev bAgg (s : Int) (a : Option Addr) (n c : Nat) : Value := .agg #[.int .i64 s, .slice a n c]
theorem within_any (v lo hi : Int) (w : World) :
    Calls Tryz.prog 80 #[.int .i64 v, .int .i64 lo, .int .i64 hi] w fun e w' => e = .returned (.bool (decide (lo ≤ v) && decide (v ≤ hi))) ∧ w = w' := by
  by_cases h : lo ≤ v
  all_goals
    go_enter Tryz.func80, Tryz.ntmps80
    go_wp2
    go_ret
    exact ⟨by first | (simp [h]; done) | (simp; omega), rfl⟩
theorem l01In_any (v lo hi : Int) (w : World) :
    Calls Tryz.prog 126 #[.int .i64 v, .int .i64 lo, .int .i64 hi] w fun e w' => e = .returned (.bool (decide (lo ≤ v) && decide (v ≤ hi))) ∧ w = w' := by
  by_cases h : lo ≤ v
  all_goals
    go_enter Tryz.func126, Tryz.ntmps126
    go_wp2
    go_ret
    exact ⟨by first | (simp [h]; done) | (simp; omega), rfl⟩
structure Marked (S : Nat → Prop) (w w' : World) : Prop where
  os : w'.os = w.os
  tape : w'.tape = w.tape
  output : w'.output = w.output
  size : w.heap.size ≤ w'.heap.size
  block : ∀ k, k < w.heap.size → ¬ S k → w'.heap[k]? = w.heap[k]?
theorem Marked.below {S : Nat → Prop} {B : Nat} {w0 w w' : World} (h : Below B w0 w) (ht : Marked S w w') (hB : B ≤ w.heap.size) (hS : ∀ k, S k → B ≤ k) : Below B w0 w' :=
  h.trans ⟨ht.os, ht.tape, ht.output, ht.size, fun k hk => ht.block k (by omega) (fun hs => by have := hS k hs; omega)⟩
def Ent (f : FuncId) : Prop := ∀ (args : Array Value) (w : World), (callFunc f args).run Tryz.prog w = .ok (.enter f args) w
def rngB (lo hi x : Int) : Bool := decide (lo ≤ x) && decide (x ≤ hi)
def rowOk (n m : Int) (xs : List Int) : Bool := decide ((xs.length : Int) = n) && xs.all (rngB 0 (m - 1))
theorem all_get_succ {α : Type} {f : α → Bool} {xs : List α} {k : Nat} (hx : k < xs.length) (h1 : (xs.take k).all f = true) (h2 : f xs[k] = true) : (xs.take (k + 1)).all f = true := by
  rw [List.take_succ_eq_append_getElem hx, List.all_append, h1]; simp [h2]
theorem all_no {α : Type} {f : α → Bool} {xs : List α} {k : Nat} (hx : k < xs.length) (h : f xs[k] = false) : xs.all f = false := by
  rw [List.all_eq_false]; exact ⟨xs[k], List.getElem_mem hx, by simp [h]⟩
theorem within_b (v lo hi : Int) (b : Bool) (h : rngB lo hi v = b) (w : World) :
    Calls Tryz.prog 80 #[.int .i64 v, .int .i64 lo, .int .i64 hi] w fun e w' => e = .returned (.bool b) ∧ w = w' :=
  (within_any v lo hi w).mono fun e w' ⟨he, hw⟩ => ⟨he.trans (ret_bool h), hw⟩
theorem l01In_b (v lo hi : Int) (b : Bool) (h : rngB lo hi v = b) (w : World) :
    Calls Tryz.prog 126 #[.int .i64 v, .int .i64 lo, .int .i64 hi] w fun e w' => e = .returned (.bool b) ∧ w = w' :=
  (l01In_any v lo hi w).mono fun e w' ⟨he, hw⟩ => ⟨he.trans (ret_bool h), hw⟩
set_option maxHeartbeats 400000 in
theorem allWithin_any (a : Option Addr) (n c : Nat) (xs : List Int) (lo hi : Int) (w : World) (h1 : Row w a n xs) (hm : n ≤ 9223372036854775807) :
    Calls Tryz.prog 99 #[.slice a n c, .int .i64 lo, .int .i64 hi] w fun e w' => e = .returned (.bool (xs.all (rngB lo hi))) ∧ w = w' := by
  have hl := h1.len
  have HL := Lib.hid hl; clear hl
  go_enter Tryz.func99, Tryz.ntmps99
  go_wp2
  go_loop [11] (fun i => ∃ k : Nat, k ≤ n ∧ i = .int .i64 k ∧ Hid ((xs.take k).all (rngB lo hi) = true)) (fun i => n - (intOf i).toNat)
  case atStart => exact ⟨0, Nat.zero_le _, rfl, by simp [Hid]⟩
  case round =>
    obtain ⟨k, hk, rfl, hall⟩ := hrel
    by_cases hlt : k < n
    · obtain ⟨b, off, rfl, g1⟩ := h1.at k hlt
      have hx : k < xs.length := by have := HL.out; omega
      clear h1
      cases hp : rngB lo hi xs[k] with
      | true =>
        have HC := Lib.hid (fun w => within_b xs[k] lo hi true hp w)
        have HP := Lib.hid hp; clear hp
        go_wp2_with fail
        refine (HC.out _).mono ?_
        rintro e w' ⟨rfl, rfl⟩
        go_wp2
        go_round
        case rel => exact ⟨k + 1, by omega, by go_num, all_get_succ hx hall HP.out⟩
        case measure => simp [intOf]; omega
      | false =>
        have HC := Lib.hid (fun w => within_b xs[k] lo hi false hp w)
        have HP := Lib.hid hp; clear hp
        go_wp2_with fail
        refine (HC.out _).mono ?_
        rintro e w' ⟨rfl, rfl⟩
        go_wp2
        go_ret
        exact ⟨ret_bool (all_no hx HP.out).symm, rfl⟩
    · obtain rfl : k = n := by omega
      go_wp2
      go_ret
      have ha : (xs.take k).all (rngB lo hi) = true := hall
      rw [List.take_of_length_le (by have := HL.out; omega)] at ha
      exact ⟨ret_bool ha.symm, rfl⟩
/-! ### questions of rows at a function value that only reads -/
def idxT (p : List Int → Bool) (xs : List (List Int)) : Int := match xs.findIdx? p with | some i => (i : Int) | none => -1
theorem idxT_hit {p : List Int → Bool} {xs : List (List Int)} {k : Nat} (hk : k < xs.length) (h1 : (xs.take k).all (fun x => !p x) = true) (h2 : p xs[k] = true) : idxT p xs = k := by
  have : xs.findIdx? p = some k := by
    rw [List.findIdx?_eq_some_iff_getElem]
    refine ⟨hk, h2, fun j hj => ?_⟩
    have hj' : j < xs.length := by omega
    rw [List.all_eq_true] at h1
    have := h1 xs[j] (by rw [List.mem_take_iff_getElem]; exact ⟨j, by omega, rfl⟩)
    simpa using this
  simp [idxT, this]
theorem idxT_miss {p : List Int → Bool} {xs : List (List Int)} (h1 : xs.all (fun x => !p x) = true) : idxT p xs = -1 := by
  have : xs.findIdx? p = none := by
    rw [List.findIdx?_eq_none_iff]
    intro x hx
    rw [List.all_eq_true] at h1
    simpa using h1 x hx
  simp [idxT, this]
theorem idxT_any (p : List Int → Bool) (xs : List (List Int)) : decide (0 ≤ idxT p xs) = xs.any p := by
  unfold idxT
  cases h : xs.findIdx? p with
  | none => rw [List.findIdx?_eq_none_iff] at h; simp; intro x hx; simpa using h x hx
  | some i =>
    rw [List.findIdx?_eq_some_iff_getElem] at h
    obtain ⟨hi, hp, _⟩ := h
    have : xs.any p = true := List.any_eq_true.2 ⟨xs[i], List.getElem_mem hi, hp⟩
    simp [this]
set_option maxHeartbeats 1000000 in
theorem idxFunc_rows (Inv : World → Prop) (f : FuncId) (caps : Array Value) (p : List Int → Bool) (a : Option Addr) (n c : Nat) (xs : List (List Int)) (w : World) (hI : Inv w) (h1 : ∀ w1, Inv w1 → Tbl w1 a n xs) (hm : n ≤ 9223372036854775807)
    (hcf : Ent f) (hf : ∀ x ∈ xs, ∀ w1, Inv w1 → ∀ a' n' c', Row w1 a' n' x → n' ≤ 9223372036854775807 → Calls Tryz.prog f (#[.slice a' n' c'] ++ caps) w1 fun e w' => e = .returned (.bool (p x)) ∧ Inv w') :
    Calls Tryz.prog 128 #[.slice a n c, .func (.func f) #[] caps] w fun e w' => e = .returned (.int .i64 (idxT p xs)) ∧ Inv w' := by
  have hcf' : ∀ (args : Array Value) (w : World), (callFunc f args).run Tryz.prog w = .ok (.enter f args) w := hcf
  have HF := Lib.hid hf; clear hf
  have hl := (h1 w hI).len
  have HL := Lib.hid hl; clear hl
  have H1 := Lib.hid h1; clear h1
  have HI := Lib.hid hI; clear hI
  go_enter Tryz.func128, Tryz.ntmps128
  go_wp2
  go_loopw [8] (fun i wr => ∃ k : Nat, k ≤ n ∧ i = .int .i64 k ∧ Hid ((xs.take k).all (fun x => !p x) = true) ∧ Hid (Inv wr)) (fun i _ => n - (intOf i).toNat)
  case atStart => exact ⟨0, Nat.zero_le _, rfl, by simp [Hid], HI⟩
  case round =>
    obtain ⟨k, hk, rfl, hall, hi⟩ := hrel
    by_cases hlt : k < n
    · obtain ⟨b, off, ai, ni, ci, rfl, g1, hri, hni⟩ := (H1.out wr hi.out).at k hlt
      have hx : k < xs.length := by have := HL.out; omega
      rw [Tbl.getD hx] at hri
      have hc := HF.out xs[k] (List.getElem_mem hx) wr hi.out ai ni ci hri hni
      by_cases hp : p xs[k] = true
      · rw [hp] at hc
        have HC := Lib.hid hc; clear hc
        have HP := Lib.hid hp; clear hp
        go_wp2_with fail
        refine HC.out.mono ?_
        rintro e w' ⟨rfl, hi'⟩
        have HI' := Lib.hid hi'; clear hi'
        go_wp2
        go_ret
        exact ⟨ret_int (idxT_hit hx hall HP.out).symm, HI'.out⟩
      · have hp : p xs[k] = false := by simpa using hp
        rw [hp] at hc
        have HC := Lib.hid hc; clear hc
        have HP := Lib.hid hp; clear hp
        go_wp2_with fail
        refine HC.out.mono ?_
        rintro e w' ⟨rfl, hi'⟩
        have HI' := Lib.hid hi'; clear hi'
        go_wp2
        go_roundw
        case rel =>
          refine ⟨k + 1, by omega, by go_num, ?_, HI'⟩
          show ((xs.take (k + 1)).all (fun x => !p x)) = true
          have ha : (xs.take k).all (fun x => !p x) = true := hall
          rw [List.take_succ_eq_append_getElem hx, List.all_append, ha]; simp [HP.out]
        case measure => simp [intOf]; omega
    · obtain rfl : k = n := by omega
      go_wp2
      go_ret
      have ha : (xs.take k).all (fun x => !p x) = true := hall
      rw [List.take_of_length_le (by have := HL.out; omega)] at ha
      exact ⟨ret_int (idxT_miss ha).symm, hi.out⟩
set_option maxHeartbeats 400000 in
theorem containsFunc_rows (Inv : World → Prop) (f : FuncId) (caps : Array Value) (p : List Int → Bool) (a : Option Addr) (n c : Nat) (xs : List (List Int)) (w : World) (hI : Inv w) (h1 : ∀ w1, Inv w1 → Tbl w1 a n xs) (hm : n ≤ 9223372036854775807)
    (hcf : Ent f) (hf : ∀ x ∈ xs, ∀ w1, Inv w1 → ∀ a' n' c', Row w1 a' n' x → n' ≤ 9223372036854775807 → Calls Tryz.prog f (#[.slice a' n' c'] ++ caps) w1 fun e w' => e = .returned (.bool (p x)) ∧ Inv w') :
    Calls Tryz.prog 97 #[.slice a n c, .func (.func f) #[] caps] w fun e w' => e = .returned (.bool (xs.any p)) ∧ Inv w' := by
  have HF := Lib.hid hf; clear hf
  have H1 := Lib.hid h1; clear h1
  have HI := Lib.hid hI; clear hI
  go_enter Tryz.func97, Tryz.ntmps97
  go_wp2_with fail
  refine (idxFunc_rows Inv f caps p _ _ _ xs _ HI.out H1.out hm hcf HF.out).mono ?_
  rintro e w' ⟨rfl, hi'⟩
  have HI' := Lib.hid hi'; clear hi'
  go_wp2
  go_ret
  exact ⟨ret_bool (idxT_any p xs), HI'.out⟩
end Go.Proofs.YtiliimkfobfbnaaGreat
namespace Go.Proofs.YtiliimkfobfbnaaGreat
set_option linter.unusedVariables false
set_option linter.unusedSimpArgs false
def tv (t : List (List Int)) (x y : Nat) : Nat := ((t.getD x []).getD y 0).toNat
def isTab (t : List (List Int)) : Bool := rngB 1 12 (t.length : Int) && t.all (rowOk t.length t.length)
def Sq (n : Nat) (t : List (List Int)) : Prop := t.length = n ∧ ∀ x, x < n → (t.getD x []).length = n ∧ ∀ y, y < n → tv t x y < n ∧ (t.getD x []).getD y 0 = ((tv t x y : Nat) : Int)
theorem rowOk_get {n m : Int} {xs : List Int} (h : rowOk n m xs = true) : (xs.length : Int) = n ∧ ∀ y, y < xs.length → 0 ≤ xs.getD y 0 ∧ xs.getD y 0 < m := by
  unfold rowOk at h
  rw [Bool.and_eq_true] at h
  refine ⟨by simpa using h.1, fun y hy => ?_⟩
  have := List.all_eq_true.1 h.2 xs[y] (List.getElem_mem hy)
  unfold rngB at this
  have e : xs.getD y 0 = xs[y] := by simp [List.getD_eq_getElem?_getD, List.getElem?_eq_getElem hy]
  rw [e]
  simp at this
  omega
theorem isTab_sq {t : List (List Int)} (h : isTab t = true) : 1 ≤ t.length ∧ t.length ≤ 12 ∧ Sq t.length t := by
  unfold isTab at h
  rw [Bool.and_eq_true] at h
  have h1 : 1 ≤ t.length ∧ t.length ≤ 12 := by
    have := h.1; unfold rngB at this; simp at this; omega
  refine ⟨h1.1, h1.2, rfl, fun x hx => ?_⟩
  have hr := List.all_eq_true.1 h.2 t[x] (List.getElem_mem hx)
  have e : t.getD x [] = t[x] := by simp [List.getD_eq_getElem?_getD, List.getElem?_eq_getElem hx]
  obtain ⟨h2, h3⟩ := rowOk_get hr
  rw [e]
  refine ⟨by omega, fun y hy => ?_⟩
  have := h3 y (by omega)
  unfold tv
  rw [e]
  omega
theorem Sq.len {n : Nat} {t : List (List Int)} (h : Sq n t) : t.length = n := h.1
theorem Sq.lt {n : Nat} {t : List (List Int)} (h : Sq n t) {x y : Nat} (hx : x < n) (hy : y < n) : tv t x y < n := ((h.2 x hx).2 y hy).1
theorem Sq.row {n : Nat} {t : List (List Int)} (h : Sq n t) {x : Nat} (hx : x < n) : (t.getD x []).length = n := (h.2 x hx).1
theorem Sq.val {n : Nat} {t : List (List Int)} (h : Sq n t) {x y : Nat} (hx : x < n) (hy : y < n) : (t.getD x []).getD y 0 = ((tv t x y : Nat) : Int) := ((h.2 x hx).2 y hy).2
/-! ### all of the numbers less than n -/
def allN (n : Nat) (P : Nat → Bool) : Bool := (List.range n).all P
theorem allN_succ {n : Nat} {P : Nat → Bool} (h : allN n P = true) (h' : P n = true) : allN (n + 1) P = true := by
  unfold allN at *; rw [List.range_succ, List.all_append, h]; simp [h']
theorem allN_no {n k : Nat} {P : Nat → Bool} (hk : k < n) (h : P k = false) : allN n P = false := by
  unfold allN; rw [List.all_eq_false]; exact ⟨k, List.mem_range.2 hk, by simp [h]⟩
theorem allN_get {n k : Nat} {P : Nat → Bool} (h : allN n P = true) (hk : k < n) : P k = true := List.all_eq_true.1 h k (List.mem_range.2 hk)
/-! ### the equation, and pairs that are led to one pair -/
def eqAt (f g : List (List Int)) (x y z : Nat) : Bool :=
  let a1 := tv f x y; let b1 := tv g x y; let b2 := tv f b1 z; let c2 := tv g b1 z; let a3 := tv f a1 b2; let b3 := tv g a1 b2
  let e1 := tv f y z; let f1 := tv g y z; let d2 := tv f x e1; let e2 := tv g x e1; let e3 := tv f e2 f1; let f3 := tv g e2 f1
  (decide (a3 = d2) && decide (b3 = e3)) && decide (c2 = f3)
def eqOk (n : Nat) (f g : List (List Int)) : Bool := allN n fun x => allN n fun y => allN n fun z => eqAt f g x y z
def collAt (n : Nat) (f g : List (List Int)) (p q : Nat) : Bool := (!decide (p = q)) && (decide (tv f (p / n) (p % n) = tv f (q / n) (q % n)) && decide (tv g (p / n) (p % n) = tv g (q / n) (q % n)))
def collOk (n : Nat) (f g : List (List Int)) : Bool := allN (n * n) fun p => allN (n * n) fun q => !collAt n f g p q
def isPm (f g : List (List Int)) : Bool := isTab f && (isTab g && decide (f.length = g.length))
def isSol (f g : List (List Int)) : Bool := isPm f g && (collOk f.length f g && eqOk f.length f g)
theorem isPm_sq {f g : List (List Int)} (h : isPm f g = true) : 1 ≤ f.length ∧ f.length ≤ 12 ∧ Sq f.length f ∧ Sq f.length g := by
  unfold isPm at h
  rw [Bool.and_eq_true, Bool.and_eq_true] at h
  obtain ⟨h1, h2, h3⟩ := isTab_sq h.1
  obtain ⟨_, _, h4⟩ := isTab_sq h.2.1
  have e : f.length = g.length := by simpa using h.2.2
  exact ⟨h1, h2, h3, by rw [e]; exact h4⟩
theorem isSol_pm {f g : List (List Int)} (h : isSol f g = true) : isPm f g = true := by
  unfold isSol at h; rw [Bool.and_eq_true] at h; exact h.1
theorem isSol_sq {f g : List (List Int)} (h : isSol f g = true) : 1 ≤ f.length ∧ f.length ≤ 12 ∧ Sq f.length f ∧ Sq f.length g := isPm_sq (isSol_pm h)
end Go.Proofs.YtiliimkfobfbnaaGreat
