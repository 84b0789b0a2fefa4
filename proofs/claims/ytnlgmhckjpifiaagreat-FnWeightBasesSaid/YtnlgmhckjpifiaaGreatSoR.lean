/-
  The library's sort of rows: what it leaves.
  No condition but bounds.
-/
import Derived.Test.YtnlgmhckjpifiaaGreatLayR
import Derived.Test.YtnlgmhckjpifiaaGreatOrdL
import Derived.Test.YtnlgmhckjpifiaaGreatBase
import Derived.Test.YtnlgmhckjpifiaaGreatWbM
import Derived.Shelf.SlSortCmp.NoneTotal
namespace Go.Proofs.YtnlgmhckjpifiaaGreat
set_option maxRecDepth 100000
set_option linter.unusedVariables false
set_option linter.unusedSimpArgs false
open Go.RowKit

theorem cmpB_any (a1 a2 : Option Addr) (n1 n2 c1 c2 : Nat) (xs ys : List Int) (w : World) (h1 : Row w a1 n1 xs) (h2 : Row w a2 n2 ys) (hm : n2 ≤ 9223372036854775807) :
    Calls Tryz.prog 161 (#[.slice a1 n1 c1, .slice a2 n2 c2] ++ #[]) w fun e w' => e = .returned (.int .i64 (cmpL ys xs)) ∧ w = w' := by
  go_enter Tryz.func161, Tryz.ntmps161
  go_wp2_with fail
  refine (compareR_any _ _ _ _ _ _ ys xs _ h2 h1 hm).mono ?_
  rintro e w' ⟨rfl, rfl⟩
  go_wp2
  go_ret
  exact ⟨rfl, rfl⟩

/-! ### the elements that the sort sees: places in the first list -/
def ixr (n i : Nat) : Nat := if i < n then i else 0
theorem ixr_lt {n i : Nat} (h : 0 < n) : ixr n i < n := by unfold ixr; split <;> omega
theorem ixr_in {n i : Nat} (h : i < n) : ixr n i = i := if_pos h
def encR (vs : List SV) (n i : Nat) : Value := sl (vs.getD (ixr n i) svO)
def cfR (ts : List (List Int)) (n i j : Nat) : Int := cmpL (ts.getD (ixr n j) []) (ts.getD (ixr n i) [])
theorem swoR (ts : List (List Int)) (n : Nat) : Go.Sort.SWO (ltOf (cfR ts n)) where
  irrefl x := by unfold ltOf cfR; rw [cmpL_cmp.refl]; rfl
  trans x y z h1 h2 := by
    unfold ltOf cfR at *
    simp only [decide_eq_true_eq] at *
    exact cmpL_cmp.trans _ _ _ h2 h1
  ntrans x y z h1 h2 := by
    unfold ltOf cfR at *
    simp only [decide_eq_false_iff_not] at *
    intro h3
    by_cases e : cmpL (ts.getD (ixr n y) []) (ts.getD (ixr n x) []) = 0
    · have := (cmpL_cmp.eq _ _).1 e
      rw [← this] at h3; exact h2 h3
    · have h4 : cmpL (ts.getD (ixr n x) []) (ts.getD (ixr n y) []) < 0 := by have := cmpL_cmp.anti (ts.getD (ixr n x) []) (ts.getD (ixr n y) []); omega
      exact h2 (cmpL_cmp.trans _ _ _ h3 h4)
theorem put_locR {α : Type} [Inhabited α] {enc : α → Value} {w : World} {g : Nat} {cur : Array Value} {t : TypeId} (h : Loc w g cur t) (F : Array α) : Loc (Go.Sort.putRow enc w g 0 F) g (Go.Sort.putCells enc 0 F cur) t := by
  unfold Loc Go.Sort.putRow Go.Sort.mapBlock at *
  show (w.heap.modify g _)[g]? = _
  rw [Array.getElem?_modify, if_pos rfl, h]; rfl
theorem put_neR {α : Type} [Inhabited α] {enc : α → Value} {w : World} {g q : Nat} (F : Array α) (hq : q ≠ g) : (Go.Sort.putRow enc w g 0 F).heap[q]? = w.heap[q]? := by
  unfold Go.Sort.putRow Go.Sort.mapBlock
  show (w.heap.modify g _)[q]? = _
  rw [Array.getElem?_modify, if_neg (fun e => hq e.symm)]
theorem putCells_takeR (vs : List SV) (n : Nat) (d : Array Nat) (cur : Array Value) (h : d.size ≤ cur.size) : (Go.Sort.putCells (encR vs n) 0 d cur).toList.take d.size = (d.toList.map fun i => vs.getD (ixr n i) svO).map sl := by
  apply List.ext_getElem
  · simp [Go.Sort.putCells]; omega
  intro i h1 h2
  have hi : i < d.size := by simpa using h2
  simp [Go.Sort.putCells, hi, getElem!_pos d i hi, encR]
set_option maxHeartbeats 4000000 in
theorem sortR_any (n c lo : Nat) (a : Option Addr) (vs : List SV) (ts : List (List Int)) (w : World) (h : OwnT w lo a n c vs ts) (h0 : 0 < n) (hn : n ≤ 1000000) :
    Calls Tryz.prog 160 #[.slice a n c, .func (.func 161) #[] #[]] w fun e w' =>
      e = .returned (.tuple #[]) ∧ ∃ vs' ts', OwnT w' lo a n c vs' ts' ∧ ts'.Perm ts ∧ (ts'.Pairwise fun x y => ¬ cmpL x y < 0) ∧ (∀ q, q < w.heap.size → a ≠ some ⟨q, 0, none⟩ → w'.heap[q]? = w.heap[q]?) ∧ w'.os = w.os ∧ w'.tape = w.tape ∧ w'.output = w.output ∧ w.heap.size ≤ w'.heap.size := by
  rcases h.block with ⟨_, h1, _⟩ | ⟨g, cur, rfl, hlo, hL, hnc, hcm, hcs, hct⟩
  · omega
  have hvl := h.vlen
  have htl := h.len
  have hdl : (List.range n).toArray.size = n := by simp
  have hH : Go.Sort.Holds (encR vs n) w g 0 (List.range n).toArray := by
    intro j hj
    have hj' : j < n := by simpa using hj
    obtain ⟨_, hge, _, hc, hf⟩ := h.cells h0
    cases hge
    rw [Nat.zero_add]
    refine ⟨?_, hf j⟩
    rw [hc j hj', getElem!_pos _ j hj]
    simp [encR, ixr_in hj', sl]
  have hW : ∀ (m : Nat) (os : Array Obj) (dk : Array Nat) (q : Nat), q < w.heap.size → q ≠ g → (sortWorld (encR vs n) w g 0 m dk os).heap[q]? = w.heap[q]? := by
    intro m os dk q hq hne
    have e : (sortWorld (encR vs n) w g 0 m dk os).heap[q]? = (Go.Sort.putRow (encR vs n) (Go.Sort.ahead w m) g 0 dk).heap[q]? := by
      show (_ ++ os)[q]? = _
      exact Array.getElem?_append_left (by show q < (Go.Sort.putRow (encR vs n) (Go.Sort.ahead w m) g 0 _).heap.size; rw [Go.Sort.size_putRow]; exact hq)
    rw [e, put_neR _ hne]; rfl
  have htab : ∀ (W : World) (i : Nat), i < n → (∀ q, q < w.heap.size → q ≠ g → W.heap[q]? = w.heap[q]?) → Own W lo (vs.getD i svO).1 (vs.getD i svO).2.1 (vs.getD i svO).2.2 (ts.getD i []) := fun W i hi hW => Own.keep (h.row i hi) fun q hq hlt => hW q hlt fun e => h.ap i hi g rfl (by rw [← e]; exact hq)
  have hcmp : CmpLays1 Tryz.prog 161 #[] (encR vs n) (cfR ts n) g 0 (List.range n).toArray.size w := by
    intro m os dk hdk x y
    have hx := htab _ (ixr n x) (ixr_lt h0) (hW m os dk)
    have hy := htab _ (ixr n y) (ixr_lt h0) (hW m os dk)
    refine (cmpB_any _ _ _ _ _ _ _ _ _ hx.row hy.row (by have := hy.cap; omega)).mono ?_
    rintro e w' ⟨rfl, rfl⟩
    exact ⟨rfl, 0, #[], by simp [Go.Sort.grow]; rfl⟩
  have eg : ∀ args w, (callFunc 161 args).run Tryz.prog w = .ok (.enter 161 args) w := enters_of Tryz.func161 (by kernel_rfl) rfl
  have hcon := Any.slices_SortFunc sortR (encR vs n) (fun _ => rfl) (cfR ts n) (swoR ts n) 161 #[] g 0 c (List.range n).toArray w eg hcmp hH hL.lt (by rw [hdl]; omega)
  rw [hdl] at hcon
  refine hcon.mono ?_
  rintro e w' ⟨rfl, d', m, os, hp, hs, rfl⟩
  obtain ⟨hp1, _, hp3⟩ := hp
  have hdn : d'.size = n := by rw [hp1]; exact hdl
  have hperm : d'.toList.Perm (List.range n) := by
    have e1 : d'.extract 0 n = d' := by rw [← hdn]; simp
    have e2 : (List.range n).toArray.extract 0 n = (List.range n).toArray := by simp
    rw [e1, e2] at hp3; simpa using hp3
  have hlt : ∀ x ∈ d'.toList, x < n := fun x hx => List.mem_range.1 (hperm.mem_iff.1 hx)
  have hnd : d'.toList.Nodup := hperm.nodup_iff.2 List.nodup_range
  have hgd : ∀ k, k < n → ∃ i, i < n ∧ d'.toList[k]? = some i := fun k hk => by
    have hk' : k < d'.toList.length := by simpa [hdn] using hk
    exact ⟨d'.toList[k], hlt _ (List.getElem_mem hk'), List.getElem?_eq_getElem hk'⟩
  have hug : ∀ k i, d'.toList[k]? = some i → i < n → (d'.toList.map fun i => vs.getD (ixr n i) svO).getD k svO = vs.getD i svO := fun k i e hi => by
    rw [List.getD_eq_getElem?_getD, List.getElem?_map, e, Option.map_some, Option.getD_some, ixr_in hi]
  have htg : ∀ k i, d'.toList[k]? = some i → i < n → (d'.toList.map fun i => ts.getD (ixr n i) []).getD k [] = ts.getD i [] := fun k i e hi => by
    rw [List.getD_eq_getElem?_getD, List.getElem?_map, e, Option.map_some, Option.getD_some, ixr_in hi]
  have hts : (List.range n).map (fun i => ts.getD (ixr n i) []) = ts := by
    apply List.ext_getElem
    · simp [htl]
    intro i q1 q2
    have hi : i < n := by omega
    simp [ixr_in hi, List.getD_eq_getElem?_getD, List.getElem?_eq_getElem q2]
  refine ⟨rfl, d'.toList.map (fun i => vs.getD (ixr n i) svO), d'.toList.map (fun i => ts.getD (ixr n i) []), ⟨?_, ?_, ?_, ?_, ?_, ?_⟩, ?_, ?_, ?_, rfl, rfl, rfl, ?_⟩
  · simp [hdn]
  · simp [hdn]
  · have hL1 := put_locR (enc := encR vs n) (w := Go.Sort.ahead w m) (show Loc (Go.Sort.ahead w m) g cur _ from hL) d'
    have hL2 : Loc (sortWorld (encR vs n) w g 0 m d' os) g (Go.Sort.putCells (encR vs n) 0 d' cur) 30 := by
      unfold Loc at *
      have hlt1 : g < (Go.Sort.putRow (encR vs n) (Go.Sort.ahead w m) g 0 d').heap.size := lt_of_block hL1
      show ((Go.Sort.putRow (encR vs n) (Go.Sort.ahead w m) g 0 d').heap ++ os)[g]? = _
      rw [Array.getElem?_append_left hlt1]; exact hL1
    refine ownsRow_mk (by simp [hdn]) hlo hL2 hnc hcm (by simp [Go.Sort.putCells, hcs]) ?_
    have := putCells_takeR vs n d' cur (by rw [hdn, hcs]; omega)
    rw [hdn] at this
    exact this
  · intro k hk
    obtain ⟨i, hi, e⟩ := hgd k hk
    rw [hug k i e hi, htg k i e hi]
    exact htab _ i hi (hW m os d')
  · intro k hk q hq
    obtain ⟨i, hi, e⟩ := hgd k hk
    rw [hug k i e hi]
    exact h.ap i hi q hq
  · intro k l hk hl hne q hq
    obtain ⟨i, hi, e⟩ := hgd k hk
    obtain ⟨j, hj, e'⟩ := hgd l hl
    rw [hug k i e hi] at hq
    rw [hug l j e' hj]
    refine h.pw i j hi hj (fun hij => hne ?_) q hq
    subst hij
    obtain ⟨k1, k2⟩ := List.getElem?_eq_some_iff.1 e
    obtain ⟨l1, l2⟩ := List.getElem?_eq_some_iff.1 e'
    exact (List.getElem_inj hnd).1 (k2.trans l2.symm)
  · have := hperm.map fun i => ts.getD (ixr n i) []
    rw [hts] at this; exact this
  · rw [List.pairwise_map, List.pairwise_iff_getElem]
    intro i j q1 q2 hij hlt'
    have h1 := hs i j (Nat.zero_le _) hij (by simpa [hdn] using q2)
    have e1 : d'[i]! = d'.toList[i] := by rw [getElem!_pos d' i (by simpa using q1)]; simp
    have e2 : d'[j]! = d'.toList[j] := by rw [getElem!_pos d' j (by simpa using q2)]; simp
    rw [e1, e2] at h1
    unfold ltOf cfR at h1
    simp only [decide_eq_false_iff_not] at h1
    exact h1 hlt'
  · intro q hq hne
    exact hW m os d' q hq (fun e => hne (by rw [e]))
  · show w.heap.size ≤ (_ ++ os).size
    rw [Array.size_append]
    have : (Go.Sort.putRow (encR vs n) (Go.Sort.ahead w m) g 0 d').heap.size = w.heap.size := by rw [Go.Sort.size_putRow]; rfl
    show w.heap.size ≤ (Go.Sort.putRow (encR vs n) (Go.Sort.ahead w m) g 0 d').heap.size + os.size
    omega
theorem sortR_none (p : Option Addr) (cap : Nat) (w : World) : Calls Tryz.prog 160 #[.slice p 0 cap, .func (.func 161) #[] #[]] w fun e w' => e = .returned (.tuple #[]) ∧ w' = w :=
  AnyF.slices_SortFunc_none { sortR with } p cap _ w
end Go.Proofs.YtnlgmhckjpifiaaGreat
