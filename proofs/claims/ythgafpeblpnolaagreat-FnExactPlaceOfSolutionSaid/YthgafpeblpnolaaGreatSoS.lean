/-
  The library's sort of solutions: what it leaves.
  No condition but bounds.
-/
import Derived.Test.YthgafpeblpnolaaGreatLayS
import Derived.Test.YthgafpeblpnolaaGreatLesI
import Derived.Test.YthgafpeblpnolaaGreatBase3
namespace Go.Proofs.YthgafpeblpnolaaGreat
set_option maxRecDepth 100000
set_option linter.unusedVariables false
set_option linter.unusedSimpArgs false
open Go.RowKit

theorem orI_cmp {α β : Type} {c : α → α → Int} {d : β → β → Int} (hc : Cmp c) (hd : Cmp d) : Cmp fun (x y : α × β) => orI (c x.1 y.1) (d x.2 y.2) := by
  refine ⟨fun x y => ?_, fun x y => ?_, fun x y z h1 h2 => ?_⟩
  · unfold orI
    have h1 := hc.eq x.1 y.1
    have h2 := hd.eq x.2 y.2
    constructor
    · intro h
      split at h
      · rename_i e; exact Prod.ext (h1.1 e) (h2.1 h)
      · rename_i e; exact absurd h e
    · intro h; subst h; rw [if_pos (hc.refl _)]; exact hd.refl _
  · unfold orI
    have h1 := hc.anti x.1 y.1
    have h2 := hd.anti x.2 y.2
    by_cases e : c x.1 y.1 = 0
    · rw [if_pos e, if_pos (by omega)]; exact h2
    · rw [if_neg e, if_neg (by omega)]; exact h1
  · unfold orI at *
    by_cases e1 : c x.1 y.1 = 0
    · rw [if_pos e1] at h1
      have hx := (hc.eq _ _).1 e1
      by_cases e2 : c y.1 z.1 = 0
      · rw [if_pos e2] at h2
        rw [if_pos (by rw [hx]; exact e2)]; exact hd.trans _ _ _ h1 h2
      · rw [if_neg e2] at h2
        rw [if_neg (by rw [hx]; exact e2), hx]; exact h2
    · rw [if_neg e1] at h1
      by_cases e2 : c y.1 z.1 = 0
      · have hy := (hc.eq _ _).1 e2
        rw [← hy, if_neg e1]; exact h1
      · rw [if_neg e2] at h2
        have := hc.trans _ _ _ h1 h2
        rw [if_neg (by omega)]; exact this
theorem cmpS_cmp : Cmp cmpS := orI_cmp cmpT_cmp cmpT_cmp

/-! ### the elements that the sort sees: places in the first list -/
def ixc (n i : Nat) : Nat := if i < n then i else 0
theorem ixc_lt {n i : Nat} (h : 0 < n) : ixc n i < n := by unfold ixc; split <;> omega
theorem ixc_in {n i : Nat} (h : i < n) : ixc n i = i := if_pos h
def encS (us : List PV) (n i : Nat) : List Value := [slT (us.getD (ixc n i) pvO).1, slT (us.getD (ixc n i) pvO).2]
def cfS (ts : List T2) (n i j : Nat) : Int := cmpS (ts.getD (ixc n i) t2O) (ts.getD (ixc n j) t2O)
theorem swoS (ts : List T2) (n : Nat) : Go.Sort.SWO (ltOf (cfS ts n)) where
  irrefl x := by unfold ltOf cfS; rw [cmpS_cmp.refl]; rfl
  trans x y z h1 h2 := by
    unfold ltOf cfS at *
    simp only [decide_eq_true_eq] at *
    exact cmpS_cmp.trans _ _ _ h1 h2
  ntrans x y z h1 h2 := by
    unfold ltOf cfS at *
    simp only [decide_eq_false_iff_not] at *
    intro h3
    by_cases e : cmpS (ts.getD (ixc n x) t2O) (ts.getD (ixc n y) t2O) = 0
    · have := (cmpS_cmp.eq _ _).1 e
      rw [this] at h3; exact h2 h3
    · have h4 : cmpS (ts.getD (ixc n y) t2O) (ts.getD (ixc n x) t2O) < 0 := by have := cmpS_cmp.anti (ts.getD (ixc n x) t2O) (ts.getD (ixc n y) t2O); omega
      exact h2 (cmpS_cmp.trans _ _ _ h4 h3)
theorem flatK_flS (us : List PV) (n : Nat) (d : Array Nat) : (Go.Sort.flatK (encS us n) 2 d).toList = flS (d.toList.map fun i => us.getD (ixc n i) pvO) := by
  apply List.ext_getElem
  · simp [flS_len]
  intro t h1 h2
  have ht : t < d.size * 2 := by simpa using h1
  have hi : t / 2 < d.size := by omega
  have hg := flS_get (d.toList.map fun i => us.getD (ixc n i) pvO) (t / 2) (by simpa using hi)
  have hd : (d.toList.map fun i => us.getD (ixc n i) pvO).getD (t / 2) pvO = us.getD (ixc n d[t / 2]!) pvO := by
    simp [List.getD_eq_getElem?_getD, hi, getElem!_pos d (t / 2) hi]
  rw [hd] at hg
  have e1 : (Go.Sort.flatK (encS us n) 2 d).toList[t] = (encS us n d[t / 2]!)[t % 2]! := by
    have := Go.Sort.get_flatK (encS us n) 2 d t ht
    rw [getElem!_pos _ t (by simpa using ht)] at this
    simpa using this
  rw [e1]
  have h01 : t % 2 = 0 ∨ t % 2 = 1 := by omega
  rcases h01 with h | h
  · have et : t = t / 2 * 2 := by omega
    have hg1 := hg.1
    rw [← et] at hg1
    rw [List.getElem?_eq_getElem h2] at hg1
    rw [Option.some.inj hg1, h]; rfl
  · have et : t = t / 2 * 2 + 1 := by omega
    have hg1 := hg.2
    rw [← et] at hg1
    rw [List.getElem?_eq_getElem h2] at hg1
    rw [Option.some.inj hg1, h]; rfl
/-- where the sort has put the cells -/
theorem put_loc {w : World} {g : Nat} {cur : Array Value} {t : TypeId} (h : Loc w g cur t) (F : Array Value) : Loc (Go.Sort.putRow id w g 0 F) g (Go.Sort.putCells id 0 F cur) t := by
  unfold Loc Go.Sort.putRow Go.Sort.mapBlock at *
  show (w.heap.modify g _)[g]? = _
  rw [Array.getElem?_modify, if_pos rfl, h]; rfl
theorem put_ne {w : World} {g q : Nat} (F : Array Value) (hq : q ≠ g) : (Go.Sort.putRow id w g 0 F).heap[q]? = w.heap[q]? := by
  unfold Go.Sort.putRow Go.Sort.mapBlock
  show (w.heap.modify g _)[q]? = _
  rw [Array.getElem?_modify, if_neg (fun e => hq e.symm)]
theorem putCells_take (F cur : Array Value) (h : F.size ≤ cur.size) : (Go.Sort.putCells id 0 F cur).toList.take F.size = F.toList := by
  apply List.ext_getElem
  · simp [Go.Sort.putCells]; omega
  intro i h1 h2
  have hi : i < F.size := by simpa using h2
  simp [Go.Sort.putCells, hi, getElem!_pos F i hi]
set_option maxHeartbeats 4000000 in
theorem sortSo_any (n c lo : Nat) (a : Option Addr) (us : List PV) (ts : List T2) (w : World) (h : OwnSo w lo a n c us ts) (h0 : 0 < n) (hn : n ≤ 1000000) :
    Calls Tryz.prog 108 #[.slice a n c, .func (.func 51) #[] #[]] w fun e w' =>
      e = .returned (.tuple #[]) ∧ ∃ us' ts', OwnSo w' lo a n c us' ts' ∧ ts'.Perm ts ∧ (ts'.Pairwise fun x y => ¬ cmpS y x < 0) ∧ (∀ q, q < w.heap.size → a ≠ some ⟨q, 0, none⟩ → w'.heap[q]? = w.heap[q]?) ∧ w'.os = w.os ∧ w'.tape = w.tape ∧ w'.output = w.output ∧ w.heap.size ≤ w'.heap.size := by
  rcases h.block with ⟨_, h1, _⟩ | ⟨g, cur, rfl, hlo, hL, hnc, hcm, hcs, hct⟩
  · omega
  have hul := h.ulen
  have htl := h.len
  have hcell := (h.cells h0).choose_spec
  have hdl : (List.range n).toArray.size = n := by simp
  have hH : Go.Sort.HoldsK (encS us n) 2 w g 0 (List.range n).toArray := by
    intro j hj
    have hj' : j < n * 2 := by simpa [Go.Sort.HoldsK] using hj
    have hF := flatK_flS us n (List.range n).toArray
    have hmap : ((List.range n).toArray.toList.map fun i => us.getD (ixc n i) pvO) = us := by
      apply List.ext_getElem
      · simp [hul]
      intro i q1 q2
      have hi : i < n := by omega
      simp [ixc_in hi, List.getD_eq_getElem?_getD, List.getElem?_eq_getElem q2]
    rw [hmap] at hF
    refine ⟨?_, by rw [Nat.zero_add]; exact hL.free j⟩
    rw [Nat.zero_add]
    refine hL.cell j ?_
    have e : cur.toList[j]? = (flS us)[j]? := by
      rw [← hct, List.getElem?_take, if_pos hj']
    rw [← Array.getElem?_toList, e, ← hF]
    have hjs : j < (Go.Sort.flatK (encS us n) 2 (List.range n).toArray).size := by simpa using hj'
    rw [Array.getElem?_toList, Array.getElem?_eq_getElem hjs]
    show _ = some (id _)
    rw [getElem!_pos _ j hjs]; rfl
  have hW : ∀ (m : Nat) (os : Array Obj) (dk : Array Nat) (q : Nat), q < w.heap.size → q ≠ g → (sortWorldK (encS us n) 2 w g 0 m dk os).heap[q]? = w.heap[q]? := by
    intro m os dk q hq hne
    have e : (sortWorldK (encS us n) 2 w g 0 m dk os).heap[q]? = (Go.Sort.putRow id (Go.Sort.ahead w m) g 0 (Go.Sort.flatK (encS us n) 2 dk)).heap[q]? := by
      show (_ ++ os)[q]? = _
      exact Array.getElem?_append_left (by show q < (Go.Sort.putRow id (Go.Sort.ahead w m) g 0 _).heap.size; rw [Go.Sort.size_putRow]; exact hq)
    rw [e, put_ne _ hne]; rfl
  have htab : ∀ (W : World) (i : Nat), i < n → (∀ q, q < w.heap.size → q ≠ g → W.heap[q]? = w.heap[q]?) → OwnPV W lo (us.getD i pvO) (ts.getD i t2O) := fun W i hi hW => OwnPV.keep (h.tab i hi) fun q hq hlt => hW q hlt fun e => h.ap i hi g rfl (by rw [← e]; exact hq)
  have hcmp : CmpLays Tryz.prog 51 #[] (encS us n) 2 (cfS ts n) g 0 (List.range n).toArray.size w := by
    intro m os dk hdk x y
    have hx := htab _ (ixc n x) (ixc_lt h0) (hW m os dk)
    have hy := htab _ (ixc n y) (ixc_lt h0) (hW m os dk)
    exact compareSolutions_any _ _ _ _ _ _ _ _ _ _ _ _ _ _ _ _ _ hx.f.tbl hx.s.tbl hy.f.tbl hy.s.tbl (by have := hx.f.cap; omega) (by have := hx.s.cap; omega)
  have eg : ∀ args w, (callFunc 51 args).run Tryz.prog w = .ok (.enter 51 args) w := enters_of Tryz.func51 (by kernel_rfl) rfl
  have hcon := AnyQ.slices_SortFunc sortSo 2 Tryz.isAgg28 Tryz.sizeOf28 (encS us n) (fun _ => rfl) (fun x v hv => by simp [encS] at hv; rcases hv with rfl | rfl <;> rfl) (cfS ts n) (swoS ts n) 51 #[] g 0 c (List.range n).toArray w eg hcmp hH hL.lt (by rw [hdl]; omega)
  rw [hdl] at hcon
  refine hcon.mono ?_
  rintro e w' ⟨rfl, d', m, os, hp, hs, rfl⟩
  obtain ⟨hp1, _, hp3⟩ := hp
  have hdn : d'.size = n := by rw [hp1]; exact hdl
  have hperm : d'.toList.Perm (List.range n) := by
    have e1 : d'.extract 0 n = d' := by rw [← hdn]; simp
    have e2 : (List.range n).toArray.extract 0 n = (List.range n).toArray := by simp
    rw [e1, e2] at hp3; simpa using hp3
  have hlt : ∀ x ∈ d'.toList, x < n := fun x hx => List.mem_range.1 (hperm.mem_iff.1 hx)
  have hnd : d'.toList.Nodup := hperm.nodup_iff.2 List.nodup_range
  have hgd : ∀ k, k < n → ∃ i, i < n ∧ d'.toList[k]? = some i := fun k hk => by
    have hk' : k < d'.toList.length := by simpa [hdn] using hk
    exact ⟨d'.toList[k], hlt _ (List.getElem_mem hk'), List.getElem?_eq_getElem hk'⟩
  have hug : ∀ k i, d'.toList[k]? = some i → i < n → (d'.toList.map fun i => us.getD (ixc n i) pvO).getD k pvO = us.getD i pvO := fun k i e hi => by
    rw [List.getD_eq_getElem?_getD, List.getElem?_map, e, Option.map_some, Option.getD_some, ixc_in hi]
  have htg : ∀ k i, d'.toList[k]? = some i → i < n → (d'.toList.map fun i => ts.getD (ixc n i) t2O).getD k t2O = ts.getD i t2O := fun k i e hi => by
    rw [List.getD_eq_getElem?_getD, List.getElem?_map, e, Option.map_some, Option.getD_some, ixc_in hi]
  have hts : (List.range n).map (fun i => ts.getD (ixc n i) t2O) = ts := by
    apply List.ext_getElem
    · simp [htl]
    intro i q1 q2
    have hi : i < n := by omega
    simp [ixc_in hi, List.getD_eq_getElem?_getD, List.getElem?_eq_getElem q2]
  refine ⟨rfl, d'.toList.map (fun i => us.getD (ixc n i) pvO), d'.toList.map (fun i => ts.getD (ixc n i) t2O), ⟨?_, ?_, ?_, ?_, ?_, ?_⟩, ?_, ?_, ?_, rfl, rfl, rfl, ?_⟩
  · simp [hdn]
  · simp [hdn]
  · have hL1 := put_loc (w := Go.Sort.ahead w m) (show Loc (Go.Sort.ahead w m) g cur _ from hL) (Go.Sort.flatK (encS us n) 2 d')
    have hL2 : Loc (sortWorldK (encS us n) 2 w g 0 m d' os) g (Go.Sort.putCells id 0 (Go.Sort.flatK (encS us n) 2 d') cur) 28 := by
      unfold Loc at *
      have hlt1 : g < (Go.Sort.putRow id (Go.Sort.ahead w m) g 0 (Go.Sort.flatK (encS us n) 2 d')).heap.size := lt_of_block hL1
      show ((Go.Sort.putRow id (Go.Sort.ahead w m) g 0 (Go.Sort.flatK (encS us n) 2 d')).heap ++ os)[g]? = _
      rw [Array.getElem?_append_left hlt1]; exact hL1
    have hsz : (Go.Sort.flatK (encS us n) 2 d').size = n * 2 := by rw [Go.Sort.size_flatK, hdn]
    refine ownsRowSo_mk (by simp [hdn]) hlo hL2 hnc hcm (by simp [Go.Sort.putCells, hcs]) ?_
    have := putCells_take (Go.Sort.flatK (encS us n) 2 d') cur (by rw [hsz, hcs]; omega)
    rw [hsz] at this
    rw [this]; exact flatK_flS us n d'
  · intro k hk
    obtain ⟨i, hi, e⟩ := hgd k hk
    rw [hug k i e hi, htg k i e hi]
    exact htab _ i hi (hW m os d')
  · intro k hk q hq
    obtain ⟨i, hi, e⟩ := hgd k hk
    rw [hug k i e hi]
    exact h.ap i hi q hq
  · intro k l hk hl hne q hq
    obtain ⟨i, hi, e⟩ := hgd k hk
    obtain ⟨j, hj, e'⟩ := hgd l hl
    rw [hug k i e hi] at hq
    rw [hug l j e' hj]
    refine h.pw i j hi hj (fun hij => hne ?_) q hq
    subst hij
    obtain ⟨k1, k2⟩ := List.getElem?_eq_some_iff.1 e
    obtain ⟨l1, l2⟩ := List.getElem?_eq_some_iff.1 e'
    exact (List.getElem_inj hnd).1 (k2.trans l2.symm)
  · have := hperm.map fun i => ts.getD (ixc n i) t2O
    rw [hts] at this; exact this
  · rw [List.pairwise_map, List.pairwise_iff_getElem]
    intro i j q1 q2 hij hlt'
    have h1 := hs i j (Nat.zero_le _) hij (by simpa [hdn] using q2)
    have e1 : d'[i]! = d'.toList[i] := by rw [getElem!_pos d' i (by simpa using q1)]; simp
    have e2 : d'[j]! = d'.toList[j] := by rw [getElem!_pos d' j (by simpa using q2)]; simp
    rw [e1, e2] at h1
    unfold ltOf cfS at h1
    simp only [decide_eq_false_iff_not] at h1
    exact h1 hlt'
  · intro q hq hne
    exact hW m os d' q hq (fun e => hne (by rw [e]))
  · show w.heap.size ≤ (_ ++ os).size
    rw [Array.size_append]
    have : (Go.Sort.putRow id (Go.Sort.ahead w m) g 0 (Go.Sort.flatK (encS us n) 2 d')).heap.size = w.heap.size := by rw [Go.Sort.size_putRow]; rfl
    show w.heap.size ≤ (Go.Sort.putRow id (Go.Sort.ahead w m) g 0 (Go.Sort.flatK (encS us n) 2 d')).heap.size + os.size
    omega
end Go.Proofs.YthgafpeblpnolaaGreat
