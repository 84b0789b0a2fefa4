/-
  The library's deletion from a slice of racks that the call owns.
  No condition but bounds.
-/
import Derived.Test.YtehomfbehhlhmaaIdxI
import Derived.Lib.SliceRun
namespace Go.Proofs.Ytehomfbehhlhmaa
set_option maxRecDepth 100000
set_option linter.unusedVariables false
set_option linter.unusedSimpArgs false
open Go.RowKit

theorem run_clear_cells {P : Program} (w : World) (t e ty : TypeId) (z z0 : Value) (ht : P.underlying t = some (.slice e)) (hv : ∀ w, (zeroValue e).run P w = .ok z w) (hz : z.cells = #[z0]) (h1 : z0.oneCell' = true) (b o n c : Nat) (hn : 0 < n)
    (hc : ∀ j, j < n → (w.cell? ⟨b, o + j, none⟩).isSome = true) (hf : ∀ j, j < n → w.frozen? ⟨b, o + j, none⟩ = false) :
    (Builtin.clear_ #[t] ty #[.slice (some ⟨b, o, none⟩) n c]).run P w = .ok (.tuple #[]) (w.setCells b o (List.replicate n z0)) := by
  have hzc : (Builtin.zeroCells z.cells n).toList = List.replicate n z0 := by
    rw [hz]
    simp [Builtin.zeroCells]
    apply List.ext_getElem
    · simp
    · intro i h1 h2
      simp [Nat.mod_one]
  have hst := run_storeCells_cells (P := P) b o (List.replicate n z0) 0 w (by simpa using hc) (by simpa using hf) (by intro v hv'; rw [List.eq_of_mem_replicate hv']; exact h1)
  simp only [Nat.add_zero] at hst
  obtain ⟨m, rfl⟩ : ∃ m, n = m + 1 := ⟨n - 1, by omega⟩
  simp [Builtin.clear_, run_underlying ht, hv, hzc, hst]

/-- a test that needs the table alone -/
def TstA (F : FuncId) (lb : Array Value) (p : List (List Int) → Bool) (ts : List (List (List Int))) : Prop :=
  (∀ (args : Array Value) (w : World), (callFunc F args).run Try.prog w = .ok (.enter F args) w) ∧ ∀ i, i < ts.length → ∀ w' va vn vc, Tbl w' va vn (ts.getD i []) → Calls Try.prog F (#[.agg #[.slice va vn vc]] ++ lb) w' fun e w'' => e = .returned (.bool (p (ts.getD i []))) ∧ Below w'.heap.size w' w''
theorem TstA.tstR {F : FuncId} {lb : Array Value} {p : List (List Int) → Bool} {ts : List (List (List Int))} (h : TstA F lb p ts) (w : World) : TstR w F lb p ts := ⟨h.1, fun i hi w' _ va vn vc ht => h.2 i hi w' va vn vc ht⟩

/-- the header's cells -/
def HkR (w : World) (g n c : Nat) (hs : Nat → TV) : Prop := ∃ cur : Array Value, Loc w g cur 65 ∧ cur.size = c ∧ n ≤ c ∧ c ≤ maxLen ∧ ∀ x, x < n → cur[x]? = some (slT (hs x))
theorem HkR.below {w w' : World} {g n c : Nat} {hs : Nat → TV} (h : HkR w g n c hs) (hb : Below w.heap.size w w') : HkR w' g n c hs := by
  obtain ⟨cur, h1, h2⟩ := h; exact ⟨cur, h1.below hb h1.lt, h2⟩
theorem HkR.cell {w : World} {g n c : Nat} {hs : Nat → TV} (h : HkR w g n c hs) {x : Nat} (hx : x < n) : w.cell? ⟨g, x, none⟩ = some (slT (hs x)) := by
  obtain ⟨cur, h1, h2, h3, h4, h5⟩ := h; exact h1.cell x (h5 x hx)
theorem HkR.free {w : World} {g n c : Nat} {hs : Nat → TV} (h : HkR w g n c hs) (x : Nat) : w.frozen? ⟨g, x, none⟩ = false := by
  obtain ⟨cur, h1, h2⟩ := h; exact h1.free x
theorem HkR.set {w : World} {g n c : Nat} {hs : Nat → TV} (h : HkR w g n c hs) {i : Nat} (hi : i < n) (u : TV) : HkR (w.setCell ⟨g, i, none⟩ (slT u)) g n c (fun x => if x = i then u else hs x) := by
  obtain ⟨cur, h1, h2, h3, h4, h5⟩ := h
  refine ⟨cur.setIfInBounds i (slT u), h1.set i _, by simpa using h2, h3, h4, fun x hx => ?_⟩
  by_cases e : x = i
  · subst e
    show _ = some (slT (if x = x then u else hs x))
    rw [if_pos rfl, Array.getElem?_setIfInBounds_self_of_lt (by omega)]
  · show _ = some (slT (if x = i then u else hs x))
    rw [if_neg e, Array.getElem?_setIfInBounds_ne (fun h => e h.symm)]
    exact h5 x hx
theorem HkR.setCells {n c g : Nat} : ∀ (vs : List Value) (o : Nat) (w : World) (hs : Nat → TV), o ≤ n → HkR w g o c hs → HkR (w.setCells g o vs) g o c hs := by
  intro vs
  induction vs with
  | nil => intro o w hs _ h; exact h
  | cons v vs ih =>
    intro o w hs ho h
    have key : ∀ (vs : List Value) (q : Nat) (w : World), o ≤ q → HkR w g o c hs → HkR (w.setCells g q vs) g o c hs := by
      intro vs
      induction vs with
      | nil => intro q w _ h; exact h
      | cons v vs ih2 =>
        intro q w hq h
        refine ih2 (q + 1) _ (by omega) ?_
        obtain ⟨cur, h1, h2, h3, h4, h5⟩ := h
        refine ⟨cur.setIfInBounds q v, h1.set q _, by simpa using h2, h3, h4, fun x hx => ?_⟩
        rw [Array.getElem?_setIfInBounds_ne (by omega)]
        exact h5 x hx
    exact key (v :: vs) o w (Nat.le_refl _) h
theorem OwnRk.hk {w : World} {lo g n c : Nat} {us : List TV} {ts : List (List (List Int))} (h : OwnRk w lo (some ⟨g, 0, none⟩) n c us ts) : HkR w g n c (fun x => us.getD x tvO) := by
  rcases h.block with ⟨h1, _⟩ | ⟨g', cur, h1, h2, h3, h4, h5, h6, h7⟩
  · cases h1
  · cases h1
    refine ⟨cur, h3, h6, h4, h5, fun x hx => ?_⟩
    have hq : (cur.toList.take n)[x]? = (us.map slT)[x]? := by rw [h7]
    have hxi : x < us.length := by have := h.ulen; omega
    rw [List.getElem?_take, if_pos hx] at hq
    simp [List.getElem?_eq_getElem hxi] at hq
    simp [List.getD_eq_getElem?_getD, List.getElem?_eq_getElem hxi, hq]
/-- the kept ones, as a slice that is owned -/
theorem OwnRk.kept {w w' : World} {lo g n c i : Nat} {us : List TV} {ts : List (List (List Int))} (h : OwnRk w lo (some ⟨g, 0, none⟩) n c us ts) (js : List Nat) (hi : js.length = i) (hlt : js.Pairwise (· < ·)) (hn : ∀ x ∈ js, x < n) (hk : HkR w' g i c (fun x => us.getD (js.getD x 0) tvO)) (hv : ∀ x, x < n → OwnV w' lo (us.getD x tvO) (ts.getD x [])) :
    OwnRk w' lo (some ⟨g, 0, none⟩) i c (js.map fun x => us.getD x tvO) (js.map fun x => ts.getD x []) := by
  subst hi
  have hg : ∀ x, x < js.length → js.getD x 0 ∈ js := fun x hx => by
    rw [List.getD_eq_getElem?_getD, List.getElem?_eq_getElem hx]; exact List.getElem_mem hx
  have eu : ∀ x, x < js.length → (js.map fun x => us.getD x tvO).getD x tvO = us.getD (js.getD x 0) tvO := fun x hx => by
    simp [List.getD_eq_getElem?_getD, List.getElem?_eq_getElem hx]
  have et : ∀ x, x < js.length → (js.map fun x => ts.getD x []).getD x [] = ts.getD (js.getD x 0) [] := fun x hx => by
    simp [List.getD_eq_getElem?_getD, List.getElem?_eq_getElem hx]
  have hlo := h.low g rfl
  obtain ⟨cur, h1, h2, h3, h4, h5⟩ := hk
  refine ⟨by simp, by simp, ?_, fun x hx => ?_, fun x hx q hq => ?_, fun x y hx hy hxy q h6 => ?_⟩
  · refine ownsRowRk_mk (by simp) hlo h1 h3 h4 h2 ?_
    apply List.ext_getElem?
    intro x
    by_cases hx : x < js.length
    · rw [List.getElem?_take, if_pos hx, Array.getElem?_toList, h5 x hx]
      simp [List.getElem?_eq_getElem hx, List.getD_eq_getElem?_getD]
    · rw [List.getElem?_take, if_neg hx]
      exact (List.getElem?_eq_none (by simp; omega)).symm
  · rw [eu x hx, et x hx]; exact hv _ (hn _ (hg x hx))
  · cases hq; rw [eu x hx]; exact h.ap _ (hn _ (hg x hx)) _ rfl
  · rw [eu x hx] at h6
    rw [eu y hy]
    have hne : js.getD x 0 ≠ js.getD y 0 := by
      have hp := List.pairwise_iff_getElem.1 hlt
      rw [List.getD_eq_getElem?_getD, List.getElem?_eq_getElem hx, List.getD_eq_getElem?_getD, List.getElem?_eq_getElem hy]
      simp only [Option.getD_some]
      rcases Nat.lt_or_ge x y with e | e
      · have := hp x y hx hy e; omega
      · have := hp y x hy hx (by omega); omega
    exact h.pw _ _ (hn _ (hg x hx)) (hn _ (hg y hy)) hne q h6
end Go.Proofs.Ytehomfbehhlhmaa
