/-
  Walks and plain laws of this seat, some texts in one.
  No condition but bounds on lengths.
-/
import Derived.Test.YtaddclaadbjnlaaGreatPr15
import Derived.Test.YtaddclaadbjnlaaGreatPr31
import Derived.Test.YtaddclaadbjnlaaGreatPr13
import Derived.Test.YtaddclaadbjnlaaGreatPr32
import Derived.Test.YtaddclaadbjnlaaGreatPr16
import Derived.Test.YtaddclaadbjnlaaGreatPr7
namespace Go.Proofs.YtaddclaadbjnlaaGreat
set_option maxRecDepth 100000
set_option linter.unusedVariables false
set_option linter.unusedSimpArgs false
open Go.RowKit
structure KeptQ (p : List (List Int) → Bool) (ts : List (List (List Int))) (j : Nat) (js : List Nat) : Prop where
  lt : js.length < j
  le : ∀ x, x < js.length → js.getD x 0 < j
  up : js.Pairwise (· < ·)
  mem : ∀ x ∈ js, x < j
  eq : (ts.take j).filter (fun t => !p t) = js.map fun x => ts.getD x []
theorem KeptQ.start {p : List (List Int) → Bool} {ts : List (List (List Int))} {k : Nat} (hk : k < ts.length) (h1 : p (ts.getD k []) = true) (h2 : ∀ j, j < k → p (ts.getD j []) = false) : KeptQ p ts (k + 1) (List.range k) := by
  refine ⟨by simp, fun x hx => ?_, List.pairwise_lt_range, fun x hx => by have := List.mem_range.1 hx; omega, ?_⟩
  · simp at hx
    simp [List.getD_eq_getElem?_getD, List.getElem?_range hx]; omega
  · rw [filter_take_succ _ _ [] hk, h1]
    simp only [Bool.not_true, Bool.false_eq_true, if_false, List.append_nil]
    rw [List.filter_eq_self.2]
    · apply List.ext_getElem
      · simp; omega
      · intro i h3 h4
        simp at h4
        simp [List.getD_eq_getElem?_getD, List.getElem?_eq_getElem (show i < ts.length by omega)]
    · intro t ht
      obtain ⟨i, hi, rfl⟩ := List.mem_iff_getElem.1 ht
      have hi' : i < k := by simp at hi; omega
      have := h2 i hi'
      rw [List.getD_eq_getElem?_getD, List.getElem?_eq_getElem (show i < ts.length by omega)] at this
      simp only [Option.getD_some] at this
      simp [this]
theorem KeptQ.drop {p : List (List Int) → Bool} {ts : List (List (List Int))} {j : Nat} {js : List Nat} (h : KeptQ p ts j js) (hj : j < ts.length) (h1 : p (ts.getD j []) = true) : KeptQ p ts (j + 1) js :=
  ⟨by have := h.lt; omega, fun x hx => by have := h.le x hx; omega, h.up, fun x hx => by have := h.mem x hx; omega, by rw [filter_take_succ _ _ [] hj, h1, h.eq]; simp⟩
theorem KeptQ.keep {p : List (List Int) → Bool} {ts : List (List (List Int))} {j : Nat} {js : List Nat} (h : KeptQ p ts j js) (hj : j < ts.length) (h1 : p (ts.getD j []) = false) : KeptQ p ts (j + 1) (js ++ [j]) := by
  refine ⟨by have := h.lt; simp; omega, fun x hx => ?_, ?_, fun x hx => ?_, ?_⟩
  · have hm : (js ++ [j]).getD x 0 ∈ js ++ [j] := by
      rw [List.getD_eq_getElem?_getD, List.getElem?_eq_getElem hx]; exact List.getElem_mem hx
    rcases List.mem_append.1 hm with e | e
    · have := h.mem _ e; omega
    · simp at e; simp [e]
  · rw [List.pairwise_append]
    exact ⟨h.up, by simp, fun x hx y hy => by simp at hy; subst hy; exact h.mem x hx⟩
  · rcases List.mem_append.1 hx with e | e
    · have := h.mem _ e; omega
    · simp at e; omega
  · rw [filter_take_succ _ _ [] hj, h1, h.eq]; simp
def packQ (us : List TV) (js : List Nat) : Nat → TV := fun x => if x < js.length then us.getD (js.getD x 0) tvO else us.getD x tvO
theorem packQ_hi {us : List TV} {js : List Nat} {x : Nat} (h : js.length ≤ x) : packQ us js x = us.getD x tvO := by unfold packQ; rw [if_neg (by omega)]
theorem packQ_snoc (us : List TV) (js : List Nat) (j : Nat) : (fun x => if x = js.length then us.getD j tvO else packQ us js x) = packQ us (js ++ [j]) := by
  funext x
  show (if x = js.length then _ else _) = _
  unfold packQ
  by_cases e : x = js.length
  · subst e; rw [if_pos rfl, if_pos (by simp)]; simp [List.getD_eq_getElem?_getD]
  · rw [if_neg e]
    by_cases h : x < js.length
    · rw [if_pos h, if_pos (by simp; omega)]; simp [List.getD_eq_getElem?_getD, List.getElem?_append_left h]
    · rw [if_neg h, if_neg (by simp; omega)]
theorem packQ_range (us : List TV) (k : Nat) : packQ us (List.range k) = fun x => us.getD x tvO := by
  funext x
  unfold packQ
  by_cases h : x < k
  · rw [if_pos (by simpa using h)]; simp [List.getD_eq_getElem?_getD, List.getElem?_range h]
  · rw [if_neg (by simpa using h)]
theorem HkR.congr {w : World} {g n c : Nat} {hs hs' : Nat → TV} (h : HkR w g n c hs) (e : ∀ x, x < n → hs x = hs' x) : HkR w g n c hs' := by
  obtain ⟨cur, h1, h2, h3, h4, h5⟩ := h; exact ⟨cur, h1, h2, h3, h4, fun x hx => by rw [← e x hx]; exact h5 x hx⟩
theorem HkR.mono {w : World} {g n m c : Nat} {hs : Nat → TV} (h : HkR w g n c hs) (e : m ≤ n) : HkR w g m c hs := by
  obtain ⟨cur, h1, h2, h3, h4, h5⟩ := h; exact ⟨cur, h1, h2, by omega, h4, fun x hx => h5 x (by omega)⟩
theorem setCells_heap {g : Nat} : ∀ (vs : List Value) (o : Nat) (w : World) (q : Nat), q ≠ g → (w.setCells g o vs).heap[q]? = w.heap[q]? := by
  intro vs
  induction vs with
  | nil => intro o w q _; rfl
  | cons v vs ih => intro o w q hq; exact (ih (o + 1) _ q hq).trans (Below.heap_setCell w ⟨g, o, none⟩ v q hq)
theorem below_setCells {g lo : Nat} {w : World} (hg : lo ≤ g) : ∀ (vs : List Value) (o : Nat) (w' : World), Below lo w w' → Below lo w (w'.setCells g o vs) := by
  intro vs
  induction vs with
  | nil => intro o w' h; exact h
  | cons v vs ih => intro o w' h; exact ih (o + 1) _ (below_setne h hg v)
set_option maxHeartbeats 8000000 in
theorem deleteRk_any (F : FuncId) (lb : Array Value) (p : List (List Int) → Bool) (lo : Nat) (a : Option Addr) (n c : Nat) (us : List TV) (ts : List (List (List Int))) (w : World) (h : OwnRk w lo a n c us ts) (hlo : lo ≤ w.heap.size) (hn : n ≤ 1000000000) (hf : TstA F lb p ts) :
    Calls Tryz.prog 41 #[.slice a n c, .func (.func F) #[] lb] w fun e w' => ∃ a' k' c' us', e = .returned (.slice a' k' c') ∧ OwnRk w' lo a' k' c' us' (ts.filter fun t => !p t) ∧ Below lo w w' := by
  have HL := Lib.hid h.len
  have HUL := Lib.hid h.ulen
  have HC0 := Lib.hid h.cap
  have EG := hf.1
  have HF := Lib.hid hf.2
  have HR := Lib.hid (fun w' => hf.tstR w')
  clear hf
  obtain ⟨R, HRS⟩ : ∃ R, Hid (ts.filter (fun t => !p t) = R) := ⟨_, rfl⟩
  rw [HRS.out]
  have HB0 := (Below.refl w.heap.size w).mono hlo
  go_enter Tryz.func41, Tryz.ntmps41
  go_wp2_with fail
  refine (indexRk_any F lb p a n c ts w h.tbS hn (HR.out w)).mono ?_
  rintro e w1 ⟨⟨r, rfl, hr⟩, hb1⟩
  have h1 := h.below hb1
  have hB1 : Below lo w w1 := hb1.mono hlo
  clear h
  rcases hr with ⟨k, hk, rfl, hpk, hpl⟩ | ⟨rfl, hall⟩
  rotate_left
  · have HALL := Lib.hid hall
    clear hall
    go_wp2
    go_ret
    refine ⟨a, n, c, us, rfl, ?_, hB1⟩
    rw [← HRS.out, List.filter_eq_self.2]
    · exact h1
    · intro t ht
      obtain ⟨i, hi, rfl⟩ := List.mem_iff_getElem.1 ht
      have := HALL.out i hi
      rw [List.getD_eq_getElem?_getD, List.getElem?_eq_getElem hi] at this
      simp only [Option.getD_some] at this
      simp [this]
  · have HK := Lib.hid (KeptQ.start hk hpk hpl)
    have hkn : k < n := by have := HL.out; omega
    clear hpk hpl hk
    obtain ⟨g, rfl, hgs, hcell0, hfrz0⟩ := h1.cells (by omega)
    clear hcell0 hfrz0
    have i1 : ((k : Int) == -1) = false := by simp
    have hk0 : HkR w1 g n c (packQ us (List.range k)) := by rw [packQ_range]; exact h1.hk
    have HO1 := Lib.hid h1
    have htab : ∀ x, x < n → OwnV w1 lo (us.getD x tvO) (ts.getD x []) := h1.tab
    have hlog := h1.low g rfl
    have HAP := Lib.hid fun x hx => h1.ap x hx g rfl
    clear h1
    go_wp2
    go_loopw [5, 6] (fun vi vj wr => ∃ (j : Nat) (js : List Nat), j ≤ n ∧ vi = .int .i64 js.length ∧ vj = .int .i64 j ∧ HkR wr g n c (packQ us js) ∧ (∀ x, x < n → OwnV wr lo (us.getD x tvO) (ts.getD x [])) ∧ Hid (KeptQ p ts j js) ∧ Below lo w wr) (fun _ vj _ => n - (intOf vj).toNat)
    case atStart => exact ⟨k + 1, List.range k, by omega, by simp, by go_num, hk0, htab, HK, hB1⟩
    case round =>
      obtain ⟨j, js, hj, rfl, rfl, hh, ht, HKQ, hBr⟩ := hrel
      have hlt0 := HKQ.out.lt
      by_cases hlt : j < n
      · have ck := hh.cell hlt
        rw [packQ_hi (by omega)] at ck
        have tj := OwnT.tbl (ht j hlt)
        obtain ⟨⟨⟨va, vn, vc⟩, vs⟩, HU⟩ : ∃ u, Hid (us.getD j tvO = u) := ⟨_, rfl⟩
        rw [HU.out] at ck tj
        change wr.cell? _ = some (.slice va vn vc) at ck
        change Tbl wr va vn _ at tj
        obtain ⟨B, HB⟩ : ∃ B, Hid (p (ts.getD j []) = B) := ⟨_, rfl⟩
        have HC := Lib.hid fun (wx : World) (hx : Tbl wx va vn _) => HF.out j (by have := HL.out; omega) wx va vn vc hx
        have j1 : (0 : Int) ≤ (j : Int) := by omega
        have j2 : (j : Int) < (n : Int) := by omega
        have hA := Loc.new wr rfl #[.slice va vn vc] 34
        have lA := hA.one
        go_wp2_with fail
        refine (HC.out _ (tj.alloc _)).mono ?_
        rintro e w2 ⟨rfl, hb2⟩
        rw [HB.out]
        have hB2 : Below wr.heap.size wr w2 := below_th (below_al (Below.refl _ _) _) hb2
        have hh2 := hh.below hB2
        have ht2 : ∀ x, x < n → OwnV w2 lo (us.getD x tvO) (ts.getD x []) := fun x hx => OwnT.below (ht x hx) hB2
        have hBr2 : Below lo w w2 := hBr.trans (hB2.mono (by have := hBr.size; omega))
        have lA2 := (hA.below hb2 (by simp)).one
        clear hh ht ck tj hA lA HC
        cases B with
        | true =>
          go_wp2
          go_roundw
          case rel => exact ⟨j + 1, js, by omega, rfl, by go_num, hh2, ht2, Lib.hid (HKQ.out.drop (by have := HL.out; omega) HB.out), hBr2⟩
          case measure => simp [intOf]; omega
        | false =>
          have hjs : js.length < n := by omega
          have hset := hh2.set (i := js.length) (by omega) (us.getD j tvO)
          have hfz := hh2.free js.length
          have hcl := hh2.cell (x := js.length) (by omega)
          obtain ⟨⟨⟨oa, on, oc⟩, ov⟩, HOU⟩ : ∃ u, Hid (packQ us js js.length = u) := ⟨_, rfl⟩
          rw [HOU.out] at hcl
          change w2.cell? _ = some (.slice oa on oc) at hcl
          rw [HU.out] at hset
          have hpk : (fun x => if x = js.length then (((va, vn, vc), vs) : TV) else packQ us js x) = packQ us (js ++ [j]) := by rw [← packQ_snoc, HU.out]
          rw [hpk] at hset
          change HkR (w2.setCell _ (.slice va vn vc)) g n c _ at hset
          have HS := Lib.hid hset
          clear hset hpk
          have q1 : (0 : Int) ≤ (js.length : Int) := by omega
          have q2 : (js.length : Int) < (n : Int) := by omega
          have ht3 : Hid (∀ x, x < n → OwnV (w2.setCell ⟨g, js.length, none⟩ (.slice va vn vc)) lo (us.getD x tvO) (ts.getD x [])) := Lib.hid fun x hx => OwnT.asetQ (ht2 x hx) (fun y hy e => HAP.out x hx (by subst e; exact hy)) _
          clear ht2
          go_wp2
          go_roundw
          case rel => exact ⟨j + 1, js ++ [j], by omega, by simp, by go_num, HS.out, ht3.out, Lib.hid (HKQ.out.keep (by have := HL.out; omega) HB.out), below_setne hBr2 (by show lo ≤ g; omega) _⟩
          case measure => simp [intOf]; omega
      · obtain rfl : n = j := by omega
        have hcl : ∀ ty, (Builtin.clear_ #[25] ty #[.slice (some ⟨g, js.length, none⟩) (n - js.length) (c - js.length)]).run Tryz.prog wr = .ok (.tuple #[]) (wr.setCells g js.length (List.replicate (n - js.length) (.slice none 0 0))) :=
          fun ty => run_clear_cells wr _ _ ty _ _ (by rfl) (by intro w; rfl) rfl rfl g js.length _ _ (by omega) (fun x hx => by rw [hh.cell (by omega)]; rfl) (fun x hx => hh.free _)
        have q0 : (0 : Int) ≤ (js.length : Int) := by omega
        have q1 : (js.length : Int) ≤ (n : Int) := by omega
        have q2 : (js.length : Int) ≤ (c : Int) := by have := HC0.out; omega
        have q3 : (n : Int) ≤ (c : Int) := by have := HC0.out; omega
        go_wp2
        go_ret
        have hd : HkR (wr.setCells g js.length (List.replicate (n - js.length) (.slice none 0 0))) g js.length c (fun x => us.getD (js.getD x 0) tvO) :=
          (((hh.mono (Nat.le_of_lt hlt0)).setCells _ _ _ _ (Nat.le_refl _))).congr (fun x hx => by unfold packQ; rw [if_pos hx])
        refine ⟨some ⟨g, 0, none⟩, js.length, c, js.map (fun x => us.getD x tvO), rfl, ?_, below_setCells (by omega) _ _ _ hBr⟩
        rw [← HRS.out]
        have he := HKQ.out.eq
        rw [List.take_of_length_le (by have := HL.out; omega)] at he
        rw [he]
        exact HO1.out.kept js rfl HKQ.out.up HKQ.out.mem hd fun x hx => OwnT.keep (ht x hx) fun q hq _ => setCells_heap _ _ _ _ (fun e => HAP.out x hx (by rw [← e]; exact hq))
end Go.Proofs.YtaddclaadbjnlaaGreat

namespace Go.Proofs.YtaddclaadbjnlaaGreat
set_option maxRecDepth 100000
set_option linter.unusedVariables false
set_option linter.unusedSimpArgs false
open Go.RowKit
def aqdF (x : Int) : List (List (List Int)) × Int := if 1 ≤ x ∧ x ≤ 4 then (((rowL x.toNat chkR).filter (lstB x.toNat)).filter (fun t => !!qdI x.toNat t), 0) else ([], 2)
theorem tstA_qd (n : Nat) (h1 : 1 ≤ n) (h4 : n ≤ 4) : TstA 42 #[] (fun t => !qdI n t) ((rowL n chkR).filter (lstB n)) := by
  refine ⟨fun args w => rfl, fun i hi w' va vn vc ht => ?_⟩
  have hm : ((rowL n chkR).filter (lstB n)).getD i [] ∈ rowL n chkR := by
    rw [List.getD_eq_getElem?_getD, List.getElem?_eq_getElem hi]
    exact (List.mem_filter.1 (List.getElem_mem hi)).1
  obtain ⟨j, hj, e⟩ := List.mem_iff_getElem.1 hm
  have hq := (rowL_rwsP h1 h4 hj).sq
  rw [List.getD_eq_getElem?_getD, List.getElem?_eq_getElem hj] at hq
  simp only [Option.getD_some] at hq
  rw [e] at hq
  obtain rfl : vn = n := by rw [ht.len, hq.1]
  exact allQuandles1_any va vn vc _ w' ht hq h1 (by omega)
set_option maxHeartbeats 4000000 in
theorem impl_Aqd_l (x : Int) (w : World) (hx : I64 x) :
    Calls Tryz.prog 9 #[.int .i64 x] w (RetLRk w (aqdF x).1 (aqdF x).2) := by
  have hin := fun w => within_any x 1 4 w
  by_cases h : 1 ≤ x ∧ x ≤ 4
  · obtain ⟨n, rfl⟩ : ∃ n : Nat, x = n := ⟨x.toNat, by omega⟩
    have h1 : 1 ≤ n := by omega
    have h4 : n ≤ 4 := by omega
    obtain ⟨K, HK⟩ : ∃ K, Hid (((rowL n chkR).filter (lstB n)).filter (fun t => !!qdI n t) = K) := ⟨_, rfl⟩
    have hq : aqdF n = (K, 0) := by unfold aqdF; rw [if_pos h, Int.toNat_natCast, HK.out]
    rw [hq]
    have hd : (decide ((1 : Int) ≤ n) && decide ((n : Int) ≤ 4)) = true := by simp; omega
    rw [hd] at hin
    have HIN := Lib.hid hin
    clear hin hd h hq
    go_enter Tryz.func9, Tryz.ntmps9
    go_wp2_with fail
    refine (HIN.out _).mono ?_
    rintro e w1 ⟨rfl, rfl⟩
    go_wp2_with fail
    refine (allRacks_any n _ h1 h4).mono ?_
    rintro e w2 ⟨a, k, c, us, rfl, ho, hb⟩
    have hkb : k ≤ 1000000000 := by
      have := ho.len
      have := (lists_bd h1 h4 chkR (lstB n)).1
      omega
    have HT := Lib.hid (tstA_qd n h1 h4)
    go_wp2_with fail
    refine (deleteRk_any _ #[] _ w.heap.size a k c us _ w2 ho hb.size hkb HT.out).mono ?_
    rintro e w3 ⟨a3, k3, c3, us3, rfl, ho3, hb3⟩
    rw [HK.out] at ho3
    have hb := hb.trans hb3
    have ho := ho3
    go_wp2
    go_ret2
    exact ⟨a3, k3, c3, us3, rfl, ho, hb⟩
  · have hq : aqdF x = ([], 2) := by unfold aqdF; rw [if_neg h]
    rw [hq]
    have hd : (decide ((1 : Int) ≤ x) && decide (x ≤ 4)) = false := by simp; omega
    rw [hd] at hin
    have HIN := Lib.hid hin
    clear hin hd hq
    go_enter Tryz.func9, Tryz.ntmps9
    go_wp2_with fail
    refine (HIN.out _).mono ?_
    rintro e w1 ⟨rfl, rfl⟩
    go_wp2
    go_ret2
    exact ⟨none, 0, 0, [], rfl, OwnRk.nil _ _, Below.refl _ _⟩
end Go.Proofs.YtaddclaadbjnlaaGreat
