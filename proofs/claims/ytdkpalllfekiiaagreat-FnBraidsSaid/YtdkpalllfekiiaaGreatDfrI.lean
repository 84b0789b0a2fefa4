/-
  Rows are left out of a list of rows from the first one on that a test takes, if it takes all behind it.
  No condition but bounds.
-/
import Derived.Test.YtdkpalllfekiiaaGreatFac
import Derived.Test.YtdkpalllfekiiaaGreatKnkI
import Derived.Laws.IdiomCopy
import Derived.Lib.SliceRun
namespace Go.Proofs.YtdkpalllfekiiaaGreat
set_option maxRecDepth 100000
set_option linter.unusedVariables false
set_option linter.unusedSimpArgs false
open Go.RowKit

theorem heap_setCells (g : Nat) : ∀ (vs : List Value) (o : Nat) (w : World) (b : Nat), b ≠ g → (w.setCells g o vs).heap[b]? = w.heap[b]? := by
  intro vs
  induction vs with
  | nil => intro o w b h; rfl
  | cons v vs ih => intro o w b h; exact (ih (o + 1) _ b h).trans (Below.heap_setCell _ _ _ _ h)
theorem marked_set (w : World) (g i : Nat) (v : Value) : Marked (fun b => b = g) w (w.setCell ⟨g, i, none⟩ v) := ⟨rfl, rfl, rfl, by rw [size_set]; exact Nat.le_refl _, fun k hk hs => Below.heap_setCell _ _ _ _ hs⟩
theorem marked_setCells (g : Nat) : ∀ (vs : List Value) (o : Nat) (w : World), Marked (fun b => b = g) w (w.setCells g o vs) := by
  intro vs
  induction vs with
  | nil => intro o w; exact Marked.refl _ _
  | cons v vs ih => intro o w; exact (marked_set w g o v).trans (ih (o + 1) _)
/-- what a test of rows does -/
def TstW (F : FuncId) (p : List Int → Bool) : Prop :=
  (∀ (args : Array Value) (w : World), (callFunc F args).run Tryz.prog w = .ok (.enter F args) w) ∧ ∀ w a n c xs, Row w a n xs → n ≤ 1000000 → Calls Tryz.prog F #[.slice a n c] w fun e w' => e = .returned (.bool (p xs)) ∧ Below w.heap.size w w'

set_option maxHeartbeats 4000000 in
theorem indexRows_any (F : FuncId) (p : List Int → Bool) (a : Option Addr) (n c : Nat) (ts : List (List Int)) (w : World) (h : Tbl w a n ts) (hn : n ≤ 1000000) (hx : ∀ i, i < n → (ts.getD i []).length ≤ 1000000) (hf : TstW F p) :
    Calls Tryz.prog 86 #[.slice a n c, .func (.func F) #[] #[]] w fun e w' => (∃ r, e = .returned (.int .i64 r) ∧ ((∃ k, k < n ∧ r = (k : Int) ∧ p (ts.getD k []) = true ∧ ∀ j, j < k → p (ts.getD j []) = false) ∨ (r = -1 ∧ ∀ j, j < n → p (ts.getD j []) = false))) ∧ Below w.heap.size w w' := by
  have HL := Lib.hid h.len
  have HX := Lib.hid hx
  have EG := hf.1
  have HF := Lib.hid hf.2
  clear hf hx
  go_enter Tryz.func86, Tryz.ntmps86
  go_wp2
  go_loopw [5, 8] (fun _ i wr => ∃ k : Nat, k ≤ n ∧ i = .int .i64 k ∧ Below w.heap.size w wr ∧ Hid (∀ j, j < k → p (ts.getD j []) = false)) (fun _ i _ => n - (intOf i).toNat)
  case atStart => exact ⟨0, Nat.zero_le _, rfl, Below.refl _ _, Lib.hid fun j hj => absurd hj (by omega)⟩
  case round =>
    obtain ⟨k, hk, rfl, hq, HK⟩ := hrel
    by_cases hlt : k < n
    · obtain ⟨b, off, va, vn, vc, rfl, ck, tk, lk⟩ := (h.below hq).at k hlt
      have i1 : (0 : Int) ≤ (k : Int) := by omega
      have i2 : (k : Int) < (n : Int) := by omega
      obtain ⟨B, HB⟩ : ∃ B, Hid (p (ts.getD k []) = B) := ⟨_, rfl⟩
      have HC := Lib.hid (HF.out wr va vn vc _ tk (by have := tk.len; have := HX.out k hlt; omega))
      cases B with
      | true =>
        go_wp2_with fail
        refine HC.out.mono ?_
        rintro e w3 ⟨rfl, hb3⟩
        rw [HB.out]
        go_wp2
        go_ret
        exact ⟨⟨_, rfl, .inl ⟨k, hlt, rfl, HB.out, HK.out⟩⟩, below_th hq hb3⟩
      | false =>
        go_wp2_with fail
        refine HC.out.mono ?_
        rintro e w3 ⟨rfl, hb3⟩
        rw [HB.out]
        go_wp2
        go_roundw
        case rel => exact ⟨k + 1, by omega, by go_num, below_th hq hb3, Lib.hid fun j hj => by
          by_cases e : j = k
          · subst e; exact HB.out
          · exact HK.out j (by omega)⟩
        case measure => simp [intOf]; omega
    · obtain rfl : n = k := by omega
      go_wp2
      go_ret
      exact ⟨⟨_, rfl, .inr ⟨rfl, HK.out⟩⟩, hq⟩

/-- rows whose blocks are not the list's own -/
def RwAp (w : World) (g o k : Nat) (F : List (List Int)) : Prop := ∀ i, i < k → ∃ v : SV, w.cell? ⟨g, o + i, none⟩ = some (sl v) ∧ Own w 0 v.1 v.2.1 v.2.2 (F.getD i []) ∧ v.1 ≠ some ⟨g, 0, none⟩
set_option maxHeartbeats 8000000 in
theorem deleteRows_any (F : FuncId) (p : List Int → Bool) (g o n c j : Nat) (cur : Array Value) (ts : List (List Int)) (w : World) (hL : Loc w g cur 24) (hn : n ≤ 1000000) (hl : n = ts.length) (hc : n ≤ c) (hcur : o + n ≤ cur.size) (hr : RwAp w g o n ts) (hx : ∀ i, i < n → (ts.getD i []).length ≤ 1000000) (hf : TstW F p)
    (hj : j ≤ n) (h1 : ∀ i, i < j → p (ts.getD i []) = false) (h2 : ∀ i, j ≤ i → i < n → p (ts.getD i []) = true) :
    Calls Tryz.prog 62 #[.slice (some ⟨g, o, none⟩) n c, .func (.func F) #[] #[]] w fun e w' => ∃ c', e = .returned (.slice (some ⟨g, o, none⟩) j c') ∧ Tbl w' (some ⟨g, o, none⟩) j (ts.take j) ∧ Marked (fun b => b = g) w w' := by
  have hT : Tbl w (some ⟨g, o, none⟩) n ts := ⟨hl, fun i hi => by
    obtain ⟨v, e1, e2, e3⟩ := hr i hi
    exact ⟨g, o, v.1, v.2.1, v.2.2, rfl, hL.lt, e1, e2.row, by have := e2.len; have := hx i hi; omega⟩⟩
  have HLL := Lib.hid hl
  have HCU := Lib.hid hcur
  have EG := hf.1
  have HC := Lib.hid hf.2
  have H1 := Lib.hid h1
  have H2 := Lib.hid h2
  have HX := Lib.hid hx
  have HR := Lib.hid hr
  have HI := Lib.hid (indexRows_any F p (some ⟨g, o, none⟩) n c ts w hT hn hx hf)
  clear hf hx hr h1 h2 hl hcur
  go_enter Tryz.func62, Tryz.ntmps62
  go_wp2_with fail
  refine HI.out.mono ?_
  rintro e w1 ⟨⟨r, rfl, hr⟩, hb1⟩
  rcases hr with ⟨k, hk, rfl, hk1, hk2⟩ | ⟨rfl, hall⟩
  · have hkj : k = j := by
      rcases Nat.lt_trichotomy k j with h | h | h
      · rw [H1.out k h] at hk1; cases hk1
      · exact h
      · have := hk2 j h; rw [H2.out j (Nat.le_refl _) (by omega)] at this; cases this
    subst hkj
    clear hk1 hk2
    have hm1 : ((k : Int) == -1) = false := by simp
    have hb1' : Below w.heap.size w w1 := hb1
    go_wp2
    go_loopw [5, 6, 7] (fun s5 i _ wr => ∃ t : Nat, k + 1 ≤ t ∧ t ≤ n ∧ i = .int .i64 t ∧ s5 = .int .i64 k ∧ Below w.heap.size w wr) (fun _ i _ _ => n - (intOf i).toNat)
    case atStart => exact ⟨k + 1, Nat.le_refl _, by omega, by go_num, rfl, hb1⟩
    case round =>
      clear hb1
      obtain ⟨t, ht1, ht, rfl, rfl, hq⟩ := hrel
      by_cases hlt : t < n
      · obtain ⟨b, off, va, vn, vc, e9, ck, tk, lk⟩ := (hT.below hq).at t hlt
        cases e9
        have i1 : (0 : Int) ≤ (t : Int) := by omega
        have i2 : (t : Int) < (n : Int) := by omega
        have HCC := Lib.hid (HC.out wr va vn vc _ tk (by have := tk.len; have := HX.out t hlt; omega))
        have HPT := Lib.hid (H2.out t (by omega) hlt)
        go_wp2_with fail
        refine HCC.out.mono ?_
        rintro e w3 ⟨rfl, hb3⟩
        rw [HPT.out]
        go_wp2
        go_roundw
        case rel => exact ⟨t + 1, by omega, by omega, by go_num, rfl, below_th hq hb3⟩
        case measure => simp [intOf]; omega
      · obtain rfl : n = t := by omega
        have hLr := hL.below hq hL.lt
        have hcc : ∀ x, x < cur.size → (wr.cell? ⟨g, x, none⟩).isSome = true := fun x hx => by
          rw [hLr.cell x (v := cur[x]) (by simp [hx])]; rfl
        have hcl : ∀ ty, (Builtin.clear_ #[36] ty #[.slice (some ⟨g, o + k, none⟩) (n - k) (c - k)]).run Tryz.prog wr = .ok (.tuple #[]) (wr.setCells g (o + k) (List.replicate (n - k) (.slice none 0 0))) :=
          fun ty => Lib.run_clear_slice wr _ _ ty _ (by rfl) (by intro w; rfl) rfl rfl g (o + k) _ _ (by omega) (fun x hx => hcc _ (by have := HCU.out; omega)) (fun x hx => hLr.free _)
        have q0 : (0 : Int) ≤ (k : Int) := by omega
        have q1 : (k : Int) ≤ (n : Int) := by omega
        have q2 : (k : Int) ≤ (c : Int) := by omega
        have q3 : (n : Int) ≤ (c : Int) := by omega
        go_wp2
        go_ret
        have hmr : Marked (fun b => b = g) w wr := Marked.ofB hq
        refine ⟨c, rfl, ⟨by rw [List.length_take]; have := HLL.out; omega, fun i hi => ?_⟩, hmr.trans (marked_setCells g _ _ _)⟩
        obtain ⟨v, e1, e2, e3⟩ := HR.out i (by omega)
        have e4 : (ts.take k).getD i [] = ts.getD i [] := by simp [List.getD_eq_getElem?_getD, List.getElem?_take, hi]
        rw [e4]
        refine ⟨g, o, v.1, v.2.1, v.2.2, rfl, ?_, ?_, ?_, ?_⟩
        · have := (marked_setCells g (List.replicate (n - k) (.slice none 0 0)) (o + k) wr).size
          exact Nat.lt_of_lt_of_le hLr.lt this
        · rw [World.cell?_setCells_out g _ _ _ _ (fun _ _ => .inl (by show o + i < o + k; omega))]
          exact (hq.cell (p := ⟨g, o + i, none⟩) hL.lt).trans e1
        · exact ((e2.below hq).keep fun b hb hlt => heap_setCells g _ _ _ b (fun e => e3 (by rw [hb, e]))).row
        · have := e2.len; have := HX.out i (by omega); omega
  · have hjn : j = n := by
      rcases Nat.lt_or_ge j n with h | h
      · have := hall j h; rw [H2.out j (Nat.le_refl _) h] at this; cases this
      · omega
    subst hjn
    go_wp2
    go_ret
    exact ⟨c, rfl, by rw [List.take_of_length_le (by have := HLL.out; omega)]; exact hT.below hb1, Marked.ofB hb1⟩
end Go.Proofs.YtdkpalllfekiiaaGreat
