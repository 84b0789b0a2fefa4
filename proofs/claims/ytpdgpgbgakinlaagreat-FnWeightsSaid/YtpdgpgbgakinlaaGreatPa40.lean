/-
  Walks and plain laws of this seat, some texts in one.
  No condition but bounds on lengths.
-/
import Derived.Test.YtpdgpgbgakinlaaGreatPa39
import Derived.Test.YtpdgpgbgakinlaaGreatPa4
import Derived.Test.YtpdgpgbgakinlaaGreatPa17
namespace Go.Proofs.YtpdgpgbgakinlaaGreat
set_option maxRecDepth 100000
set_option linter.unusedVariables false
set_option linter.unusedSimpArgs false
open Go.RowKit
set_option maxHeartbeats 4000000 in
theorem l02Good_any (n : Nat) (a a' : Option Addr) (c c' : Nat) (f g : List (List Int)) (w : World) (h1 : Tbl w a n f) (h2 : Tbl w a' n g) (sg : Sq n g) (n1 : 1 ≤ n) (hn : n ≤ 12) :
    Calls Tryz.prog 126 #[sAgg a n c a' n c'] w fun e w' => ∃ B, e = .returned (.bool B) ∧ Below w.heap.size w w' := by
  have hA := Loc.new w rfl #[.slice a n c, .slice a' n c'] 26
  have hB := below_al (Below.refl w.heap.size w) (.cells #[.slice a n c, .slice a' n c'] 26)
  have SG := Lib.hid sg
  clear sg
  go_enter Tryz.func126, Tryz.ntmps126
  have lA := hA.two
  obtain ⟨B1, hB1⟩ := l01RowsG_any n a c f (w.alloc (.cells #[.slice a n c, .slice a' n c'] 26)) (h1.alloc _) (by omega)
  have t2 := h2.below hB
  have HB1 := Lib.hid hB1
  clear hB1 h1 h2
  go_wp2_with fail
  refine HB1.out.mono ?_
  rintro e w1 ⟨rfl, rfl⟩
  cases B1 with
  | false =>
    go_wp2
    go_ret
    exact ⟨_, rfl, hB⟩
  | true =>
    go_wp2_with fail
    refine (l01Turn_any n a' c' g _ t2 SG.out n1 hn).mono ?_
    rintro e w2 ⟨a2, c2, vs2, rfl, ho2, hb2⟩
    obtain ⟨B2, hB2⟩ := l01RowsG_any n a2 c2 _ w2 ho2.tbl (by omega)
    have HB2 := Lib.hid hB2
    have hq2 := below_th hB hb2
    clear hB2
    go_wp2_with fail
    refine HB2.out.mono ?_
    rintro e w3 ⟨rfl, rfl⟩
    go_wp2
    go_ret
    exact ⟨_, rfl, hq2⟩
theorem step_appH {ops : Array Oper} {o : Oper} {a : Act} {K : Act → World → Prop} {Q : Exit → Act → World → Prop} {E : Prop} {w : World} (hgd : o.guard = none) {s x : Operand}
    (ho : o.op = .call { callee := .builtin .append, args := #[s, x], argTypes := #[24, 24] }) {lo : Nat} {ad : Option Addr} {n c : Nat} {vs : List SV} (hown : Hd w lo ad n c vs) (hs : a.eval s = .slice ad n c)
    {ad2 : Option Addr} {m c2 : Nat} {us : List SV} (hr : HdR w ad2 m us) (hx : a.eval x = .slice ad2 m c2) (hlen : n + m ≤ 1000000000000) (hlo : lo ≤ w.heap.size)
    (h : ∀ ad' c' w', Hd w' lo ad' (n + m) c' (vs ++ us) → w.grownBy w' (Value.slice ad n c).ownBlock → Below lo w w' → K (a.put o.dst (.slice ad' (n + m) c')) w') :
    if Region.wanted o (yielded ops a.tmps) = true then Oper.wp Tryz.prog o a w K Q else E := by
  have hw : Region.wanted o (yielded ops a.tmps) = true := by simp [Region.wanted, hgd]
  rw [if_pos hw]
  exact wp_appH ho hown hs hr hx hlen hlo h
theorem getD_appl {β : Type} {l r : List β} {i : Nat} (d : β) (h : i < l.length) : (l ++ r).getD i d = l.getD i d := by
  rw [List.getD_eq_getElem?_getD, List.getElem?_append_left h, ← List.getD_eq_getElem?_getD]
theorem getD_appr {β : Type} {l r : List β} {i : Nat} (d : β) (h : l.length ≤ i) : (l ++ r).getD i d = r.getD (i - l.length) d := by
  rw [List.getD_eq_getElem?_getD, List.getElem?_append_right h, ← List.getD_eq_getElem?_getD]
set_option maxHeartbeats 4000000 in
theorem l07Both_any (n : Nat) (a a' : Option Addr) (c c' : Nat) (f g : List (List Int)) (w : World) (h1 : Tbl w a n f) (h2 : Tbl w a' n g) (sf : Sq n f) (sg : Sq n g) (n1 : 1 ≤ n) (hn : n ≤ 12) :
    Calls Tryz.prog 164 #[sAgg a n c a' n c'] w fun e w' => ∃ b d, e = .returned (.slice b (n + n) d) ∧ Tbl w' b (n + n) (f ++ trnL n g) ∧ Below w.heap.size w w' := by
  have hA := Loc.new w rfl #[.slice a n c, .slice a' n c'] 26
  have hB := below_al (Below.refl w.heap.size w) (.cells #[.slice a n c, .slice a' n c'] 26)
  have SG := Lib.hid sg
  have SF : Hid (∀ x ∈ f, x.length ≤ 1000000) := Lib.hid fun x hx => by
    obtain ⟨i, hi, rfl⟩ := List.getElem_of_mem hx
    have := sf.row (x := i) (by rw [← sf.len]; exact hi)
    rw [List.getD_eq_getElem?_getD, List.getElem?_eq_getElem hi, Option.getD_some] at this
    omega
  have HFL := Lib.hid sf.len
  clear sg sf
  have t1 := h1.below hB
  have t2 := h2.below hB
  clear h1 h2
  obtain ⟨w0, hw0⟩ : ∃ w0, w.alloc (.cells #[.slice a n c, .slice a' n c'] 26) = w0 := ⟨_, rfl⟩
  rw [hw0] at hA hB t1 t2
  have HW := Lib.hid hw0
  clear hw0
  have lA := hA.two
  have hz := hA.lt
  go_enter Tryz.func164, Tryz.ntmps164
  go_wp2
  rw [HW.out]
  go_region_held3 (fun v => v.cell? ⟨w.heap.size, 0, none⟩ = some (.slice a n c) ∧ v.cell? ⟨w.heap.size, 1, none⟩ = some (.slice a' n c'))
    (first | exact k9 | exact k8 | exact k7 | exact ⟨lA.1, lA.2.1⟩ | go_keep)
    (first
      | (refine step_appH rfl rfl (Hd.below (w := w2) ⟨ho2.vlen, ho2.hdr⟩ hb3) rfl (Hd.read (lo := w2.heap.size) ⟨ho3.vlen, ho3.hdr⟩) rfl ?_ ?_ ?_; (omega); (omega); intro ad' d' w9 hO9 hg9 hb9; have k9 : w9.cell? ⟨w.heap.size, 0, none⟩ = some (.slice a n c) ∧ w9.cell? ⟨w.heap.size, 1, none⟩ = some (.slice a' n c') := ⟨(hb9.cell (p := ⟨w.heap.size, 0, none⟩) (by show w.heap.size < w0.heap.size; omega)).trans k8.1, (hb9.cell (p := ⟨w.heap.size, 1, none⟩) (by show w.heap.size < w0.heap.size; omega)).trans k8.2⟩)
      | (go_at_call 115; refine (l01Own2_any a n c f _ (t1.drewN 1) (by omega) SF.out).mono ?_; rintro e w2 ⟨a2, c2, vs2, rfl, ho2', hb2'⟩; have hb2 : Below w0.heap.size w0 w2 := (below_drewN (Below.refl w0.heap.size w0) 1).trans hb2'; have ho2 : OwnT w2 w0.heap.size a2 n c2 vs2 f := ho2'; have k7 : w2.cell? ⟨w.heap.size, 0, none⟩ = some (.slice a n c) ∧ w2.cell? ⟨w.heap.size, 1, none⟩ = some (.slice a' n c') := ⟨(hb2.cell (p := ⟨w.heap.size, 0, none⟩) hz).trans lA.1, (hb2.cell (p := ⟨w.heap.size, 1, none⟩) hz).trans lA.2.1⟩; have hz2 := hb2.size)
      | (go_at_call 162; refine (l01Turn_any n a' c' g _ (t2.below hb2) SG.out n1 hn).mono ?_; rintro e w3 ⟨a3, c3, vs3, rfl, ho3, hb3⟩; have k8 : w3.cell? ⟨w.heap.size, 0, none⟩ = some (.slice a n c) ∧ w3.cell? ⟨w.heap.size, 1, none⟩ = some (.slice a' n c') := ⟨(hb3.cell (p := ⟨w.heap.size, 0, none⟩) (by show w.heap.size < w2.heap.size; omega)).trans k7.1, (hb3.cell (p := ⟨w.heap.size, 1, none⟩) (by show w.heap.size < w2.heap.size; omega)).trans k7.2⟩; have hz3 := hb3.size))
  all_goals
    have hbf : Below w.heap.size w w9 := hB.trans ((hb2.trans ((hb3.mono (by omega)).trans hb9)).mono (by omega))
    have h12 := ho2.below hb3
    have hT : Tbl w9 ad' (n + n) (f ++ trnL n g) := by
      refine hO9.read.tbl ?_ fun i hi => ?_
      · rw [List.length_append, HFL.out]; have := ho3.len; omega
      · by_cases e : i < n
        · rw [getD_appl _ (by rw [ho2.vlen]; exact e), getD_appl _ (by rw [HFL.out]; exact e)]
          have hr := (h12.row i e).grown hg9 fun q hq hq2 => by
            have := h12.ownBlk hq2.symm
            rcases this with h5 | ⟨j, hj, h5⟩
            · exact h12.ap i e q h5 hq
            · rcases h12.block with ⟨r1, _⟩ | ⟨g2, cur, r1, _⟩
              · subst r1; simp [Value.ownBlock] at hq2
              · subst r1; simp [Value.ownBlock] at hq2; subst hq2; exact h12.ap i e _ rfl hq
          exact ⟨hr.row, by have := hr.cap; omega⟩
        · rw [getD_appr _ (by rw [ho2.vlen]; omega), getD_appr _ (by rw [HFL.out]; omega), ho2.vlen, HFL.out]
          have hr := (ho3.row (i - n) (by omega)).grown hg9 fun q hq hq2 => by
            have h5 := (ho3.row (i - n) (by omega)).lo q hq
            have h6 := ho2.uHi q (by
              rcases h12.block with ⟨r1, _⟩ | ⟨g2, cur, r1, _⟩
              · subst r1; simp [Value.ownBlock] at hq2
              · subst r1; simp [Value.ownBlock] at hq2; subst hq2; exact .inl rfl)
            omega
          exact ⟨hr.row, by have := hr.cap; omega⟩
    go_wp2
    go_ret
    exact ⟨_, _, rfl, hT, hbf⟩
set_option maxHeartbeats 4000000 in
theorem l07Orbits_any (n : Nat) (a a' : Option Addr) (c c' : Nat) (f g : List (List Int)) (w : World) (h1 : Tbl w a n f) (h2 : Tbl w a' n g) (sf : Sq n f) (sg : Sq n g) (n1 : 1 ≤ n) (hn : n ≤ 12) :
    Calls Tryz.prog 127 #[sAgg a n c a' n c'] w fun e w' => ∃ b d L, e = .returned (.slice b n d) ∧ LabG n n L ∧ Own w' w.heap.size b n d L ∧ Below w.heap.size w w' := by
  have hA := Loc.new w rfl #[.slice a n c, .slice a' n c'] 26
  have hB := below_al (Below.refl w.heap.size w) (.cells #[.slice a n c, .slice a' n c'] 26)
  have SG := Lib.hid sg
  have SF := Lib.hid sf
  have HR : Hid (RwsN n (n + n) (f ++ trnL n g)) := Lib.hid fun k hk => by
    have key : ∀ (t : List (List Int)), Sq n t → ∀ i, i < n → LsN n (t.getD i []) := fun t st i hi => ⟨st.row hi, fun j hj => by rw [st.row hi] at hj; exact ⟨_, st.lt hi hj, st.val hi hj⟩⟩
    by_cases e : k < n
    · rw [getD_appl _ (by rw [sf.len]; exact e)]; exact key f sf k e
    · rw [getD_appr _ (by rw [sf.len]; omega), sf.len]; exact key _ (trnL_sq sg) _ (by omega)
  clear sg sf
  have t1 := h1.below hB
  have t2 := h2.below hB
  clear h1 h2
  obtain ⟨w0, hw0⟩ : ∃ w0, w.alloc (.cells #[.slice a n c, .slice a' n c'] 26) = w0 := ⟨_, rfl⟩
  rw [hw0] at hA hB t1 t2
  have HW := Lib.hid hw0
  clear hw0
  have lA := hA.two
  have hz := hA.lt
  go_enter Tryz.func127, Tryz.ntmps127
  go_wp2
  rw [HW.out]
  go_region_held3 (fun v => v.cell? ⟨w.heap.size, 0, none⟩ = some (.slice a n c) ∧ v.cell? ⟨w.heap.size, 1, none⟩ = some (.slice a' n c'))
    (first | exact k8 | exact k7 | exact ⟨lA.1, lA.2.1⟩ | go_keep)
    (first
      | (go_at_call 164; refine (l07Both_any n a a' c c' f g _ (t1.drewN 1) (t2.drewN 1) SF.out SG.out n1 hn).mono ?_; rintro e w2 ⟨b2, d2, rfl, ht2, hb2'⟩; have hb2 : Below w0.heap.size w0 w2 := (below_drewN (Below.refl w0.heap.size w0) 1).trans hb2'; have k7 : w2.cell? ⟨w.heap.size, 0, none⟩ = some (.slice a n c) ∧ w2.cell? ⟨w.heap.size, 1, none⟩ = some (.slice a' n c') := ⟨(hb2.cell (p := ⟨w.heap.size, 0, none⟩) hz).trans lA.1, (hb2.cell (p := ⟨w.heap.size, 1, none⟩) hz).trans lA.2.1⟩; have hz2 := hb2.size)
      | (go_at_call 163; refine (l01OrbitsG_any n (n + n) _ b2 d2 _ ht2 HR.out (by omega) (by omega)).mono ?_; rintro e w3 ⟨b3, d3, L, rfl, hL, ho3, hb3⟩; have k8 : w3.cell? ⟨w.heap.size, 0, none⟩ = some (.slice a n c) ∧ w3.cell? ⟨w.heap.size, 1, none⟩ = some (.slice a' n c') := ⟨(hb3.cell (p := ⟨w.heap.size, 0, none⟩) (by show w.heap.size < w2.heap.size; omega)).trans k7.1, (hb3.cell (p := ⟨w.heap.size, 1, none⟩) (by show w.heap.size < w2.heap.size; omega)).trans k7.2⟩))
  all_goals
    go_wp2
    go_ret
    exact ⟨b3, d3, L, rfl, hL, ho3.mono (by omega), hB.trans ((hb2.trans (hb3.mono (by omega))).mono (by omega))⟩
end Go.Proofs.YtpdgpgbgakinlaaGreat
