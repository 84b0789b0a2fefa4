/-
  Walks and plain laws of this seat, some texts in one.
  No condition but bounds on lengths.
-/
import Derived.Test.YtiliimkfobfbnaaGreatPt13
import Derived.Test.YtiliimkfobfbnaaGreatPt14
import Derived.Test.YtiliimkfobfbnaaGreatPt2
namespace Go.Proofs.YtiliimkfobfbnaaGreat
set_option maxRecDepth 100000
set_option linter.unusedVariables false
set_option linter.unusedSimpArgs false
open Go.RowKit
def elN (k s : Nat) : List Nat := (List.range k).filter fun x => s.testBit x
theorem elL_elN (k s : Nat) : elL k s = (elN k s).map fun x : Nat => (x : Int) := rfl
def csF (t : List (List Int)) (x : Nat) (l : List Nat) : Nat := l.foldl (fun acc y => min acc (tv t x y)) x
def ldC (t : List (List Int)) (s x : Nat) : Nat := csF t x (elN 12 s)
theorem csF_succ (t : List (List Int)) (x : Nat) {l : List Nat} {j : Nat} (h : j < l.length) : csF t x (l.take (j + 1)) = min (csF t x (l.take j)) (tv t x (l.getD j 0)) := by
  unfold csF
  rw [List.take_succ_eq_append_getElem h, List.foldl_append]
  simp [List.getD_eq_getElem?_getD, List.getElem?_eq_getElem h]
theorem csF_le (t : List (List Int)) (x : Nat) : ∀ (l : List Nat), csF t x l ≤ x ∧ (∀ y ∈ l, csF t x l ≤ tv t x y) ∧ (csF t x l = x ∨ ∃ y ∈ l, csF t x l = tv t x y) := by
  intro l
  unfold csF
  have gen : ∀ (l : List Nat) (a : Nat), l.foldl (fun acc y => min acc (tv t x y)) a ≤ a ∧ (∀ y ∈ l, l.foldl (fun acc y => min acc (tv t x y)) a ≤ tv t x y) ∧ (l.foldl (fun acc y => min acc (tv t x y)) a = a ∨ ∃ y ∈ l, l.foldl (fun acc y => min acc (tv t x y)) a = tv t x y) := by
    intro l
    induction l with
    | nil => intro a; exact ⟨Nat.le_refl _, fun y hy => absurd hy (by simp), .inl rfl⟩
    | cons z l ih =>
      intro a
      obtain ⟨h1, h2, h3⟩ := ih (min a (tv t x z))
      rw [List.foldl_cons]
      refine ⟨by omega, fun y hy => ?_, ?_⟩
      · rcases List.mem_cons.1 hy with rfl | hy
        · omega
        · exact h2 y hy
      · rcases h3 with h3 | ⟨y, hy, h3⟩
        · by_cases c : a ≤ tv t x z
          · left; omega
          · right; exact ⟨z, by simp, by omega⟩
        · right; exact ⟨y, by simp [hy], h3⟩
  exact gen l x
theorem elN_get {s j : Nat} : (elL 12 s).getD j 0 = (((elN 12 s).getD j 0 : Nat) : Int) := by
  rw [elL_elN, List.getD_eq_getElem?_getD, List.getD_eq_getElem?_getD, List.getElem?_map]
  cases (elN 12 s)[j]? <;> rfl
theorem lbL_succ (n : Nat) (L : Nat → Nat) : lbL (n + 1) L = lbL n L ++ [((L n : Nat) : Int)] := by simp [lbL, List.range_succ]
theorem lbL_step (n j : Nat) (L : Nat → Nat) (h : j < n) : (lbL j L ++ List.replicate (n - j) 0).set j ((L j : Nat) : Int) = lbL (j + 1) L ++ List.replicate (n - (j + 1)) 0 := by
  rw [List.set_append_right _ _ (by rw [lbL_len]; omega), lbL_len, Nat.sub_self, lbL_succ, List.append_assoc]
  congr 1
  obtain ⟨m, hm⟩ : ∃ m, n - j = m + 1 := ⟨n - j - 1, by omega⟩
  have hm' : n - (j + 1) = m := by omega
  rw [hm, hm', List.replicate_succ]
  simp
set_option maxHeartbeats 8000000 in
theorem cosets_any (n s : Nat) (a : Option Addr) (c : Nat) (t : List (List Int)) (w : World) (h1 : Tbl w a n t) (ht : Sq n t) (hn1 : 1 ≤ n) (hn : n ≤ 12) (hs : s < 2 ^ n) (hL : Ldr n (ldC t s)) :
    Calls Tryz.prog 84 #[.slice a n c, .int .i64 s] w fun e w' => ∃ a' c', e = .returned (.slice a' n c') ∧ Own w' w.heap.size a' n c' (clsL n (ldC t s)) ∧ Below w.heap.size w w' := by
  have hs4 : s < 4096 := Nat.lt_of_lt_of_le hs (by have := Nat.pow_le_pow_right (n := 2) (by decide) hn; simpa using this)
  have HT := Lib.hid ht; have HSS := Lib.hid hs; have HLD := Lib.hid hL
  clear hs hL
  obtain ⟨ba, oa, A, O, C, rfl, G⟩ := h1.grid ht hn1
  clear h1 ht
  go_enter Tryz.func84, Tryz.ntmps84
  go_wp2_with (at_make; refine make1 rfl rfl rfl rfl (by omega) ?_; intro w1 ho hsz hb)
  go_loopw [14] (fun i wr => ∃ (k : Nat), k ≤ n ∧ i = .int .i64 k ∧ Own wr w.heap.size (some ⟨w.heap.size, 0, none⟩) n n (lbL k (ldC t s) ++ List.replicate (n - k) 0) ∧ Below w.heap.size w wr) (fun i _ => n - (intOf i).toNat)
  case atStart => exact ⟨0, Nat.zero_le _, rfl, by simpa [lbL] using ho, hb⟩
  case round =>
    clear ho hb
    obtain ⟨x, hx, rfl, ho, hb⟩ := hrel
    by_cases hlt : x < n
    · have ho1 := ho.set x ((x : Nat) : Int)
      have hcf := ho.cells.2.2 x
      have hcc := ho.cells.2.1 x hlt
      obtain ⟨B, HBB⟩ : ∃ B, Hid (lbL x (ldC t s) ++ List.replicate (n - x) 0 = B) := ⟨_, Lib.hid rfl⟩
      rw [HBB.out] at ho1
      have hb1 : Below w.heap.size w (wr.setCell ⟨w.heap.size, x, none⟩ (.int .i64 x)) := hb.setCell (by simp) _
      obtain ⟨V, hV⟩ : ∃ V, wr.setCell ⟨w.heap.size, x, none⟩ (.int .i64 x) = V := ⟨_, rfl⟩
      have HBl : Hid (B.length = n) := Lib.hid (by rw [← HBB.out, List.length_append, lbL_len, List.length_replicate]; omega)
      rw [hV] at ho1 hb1
      go_wp2_with fail
      try rw [hV]
      refine (elementsOf_any s _ hs4).mono ?_
      rintro e w2 ⟨ae, m, ce, rfl, hol, hb2⟩
      have hoV := ho1.below hb2
      have hB2 := below_th hb1 hb2
      have hml : m ≤ 12 := by have := hol.len; have := elL_len_le 12 s; omega
      have HML := Lib.hid hol.len
      have hre := hol.row
      have hz1 := hb1.size
      have hVs : w.heap.size < V.heap.size := ho1.hi _ rfl
      have hs0 : csF t x ((elN 12 s).take 0) = x := rfl
      rw [← hs0] at hoV
      clear hV ho ho1 hcf hcc hre hs0
      go_wp2
      go_loopw [24] (fun i wq => ∃ j : Nat, j ≤ m ∧ i = .int .i64 j ∧ Own wq w.heap.size (some ⟨w.heap.size, 0, none⟩) n n (B.set x ((csF t x ((elN 12 s).take j) : Nat) : Int)) ∧ Own wq V.heap.size ae m ce (elL 12 s) ∧ Below w.heap.size w wq) (fun i _ => m - (intOf i).toNat)
      case atStart => exact ⟨0, Nat.zero_le _, rfl, hoV, hol, hB2⟩
      case round =>
        clear hoV hol hB2
        obtain ⟨j, hj, rfl, hoV, hol, hB2⟩ := hrel
        by_cases hlj : j < m
        · have hjl : j < (elL 12 s).length := by have := HML.out; omega
          have hjl2 : j < (elN 12 s).length := by rw [elL_elN, List.length_map] at hjl; exact hjl
          obtain ⟨y, ey, hy, hby⟩ := elL_mem HSS.out hjl
          obtain ⟨b2, o2, rfl, g2⟩ := hol.row.at j hlj
          rw [ey] at g2
          have ey2 : (elN 12 s).getD j 0 = y := by have := (elN_get (s := s) (j := j)).symm.trans ey; omega
          have HSU := Lib.hid (csF_succ t x hjl2)
          have hsu := HSU.out
          rw [ey2] at hsu
          have l1 := HT.out.lt hlt hy
          obtain ⟨r1, k1⟩ := (G.below hB2).look hlt hy
          have hcc := hoV.cells.2.1 x hlt
          have hcf := hoV.cells.2.2 x
          have hgx : (B.set x ((csF t x ((elN 12 s).take j) : Nat) : Int)).getD x 0 = ((csF t x ((elN 12 s).take j) : Nat) : Int) := by
            have hx : x < B.length := by rw [HBl.out]; exact hlt
            rw [List.getD_eq_getElem?_getD, List.getElem?_set_self hx]; rfl
          rw [hgx] at hcc
          have hst := hoV.set x ((csF t x ((elN 12 s).take (j + 1)) : Nat) : Int)
          rw [List.set_set] at hst
          have HSTT := Lib.hid hst
          obtain ⟨P, HP⟩ : ∃ P, Hid (csF t x ((elN 12 s).take j) = P) := ⟨_, Lib.hid rfl⟩
          obtain ⟨Q, HQ⟩ : ∃ Q, Hid (tv t x y = Q) := ⟨_, Lib.hid rfl⟩
          rw [HP.out, HQ.out] at hsu
          rw [HP.out] at hcc
          rw [HQ.out] at k1
          have HMN : Hid ((if Q < P then (Q : Int) else (P : Int)) = ((csF t x ((elN 12 s).take (j + 1)) : Nat) : Int)) := Lib.hid (by rw [hsu]; split <;> omega)
          have i1 : (0 : Int) ≤ (x : Int) := by omega
          have i2 : (x : Int) < (n : Int) := by omega
          have i3 : (0 : Int) ≤ (y : Int) := by omega
          have i4 : (y : Int) < (n : Int) := by omega
          clear ey ey2 hby hgx hst hsu HSU
          go_wp2
          go_region_law (fail)
          all_goals
            go_wp2
            go_roundw
            case rel =>
              refine ⟨j + 1, by omega, by go_num, ?_, ?_, ?_⟩
              · rw [HMN.out]; exact HSTT.out.drew
              · exact (hol.setlo (by show w.heap.size < V.heap.size; exact hVs) _).drew
              · exact (hB2.setCell (by simp) _).drew
            case measure => simp [intOf]; omega
        · obtain rfl : j = m := by omega
          have hee : (elN 12 s).take j = elN 12 s := List.take_of_length_le (by have := HML.out; rw [elL_elN, List.length_map] at this; omega)
          rw [hee] at hoV
          have HBS : Hid (B.set x ((csF t x (elN 12 s) : Nat) : Int) = lbL (x + 1) (ldC t s) ++ List.replicate (n - (x + 1)) 0) := Lib.hid (by rw [← HBB.out]; exact lbL_step n x (ldC t s) hlt)
          go_wp2
          go_roundw
          case rel => exact ⟨x + 1, by omega, by go_num, by rw [← HBS.out]; exact hoV, hB2⟩
          case measure => simp [intOf]; omega
    · obtain rfl : x = n := by omega
      rw [Nat.sub_self, List.replicate_zero, List.append_nil] at ho
      have hrow := ho.row
      go_wp2_with fail
      refine (numbered_any x (ldC t s) _ _ _ hrow HLD.out hn).mono ?_
      rintro e w3 ⟨a3, c3, rfl, ho3, hb3⟩
      have hqs := hb.size
      go_wp2
      go_ret
      exact ⟨a3, c3, rfl, ho3.mono hqs, below_th hb hb3⟩
set_option maxHeartbeats 4000000 in
theorem quotientTable1_any (n bc bt bf : Nat) (tc tt tf : TypeId) (ac a af : Option Addr) (cc c cf : Nat) (t : List (List Int)) (L : Nat → Nat) (w : World) (hCls : Loc w bc #[.slice ac n cc] tc) (hTab : Loc w bt #[.slice a n c] tt) (hFst : Loc w bf #[.slice af (rkL L n) cf] tf) (h1 : Tbl w a n t) (hrf : Row w af (rkL L n) (ldsL n L)) (hrc : Row w ac n (clsL n L)) (hL : Ldr n L) (ht : Sq n t) (hn1 : 1 ≤ n) (hn : n ≤ 12) (x y : Nat) (hx : x < rkL L n) (hy : y < rkL L n) :
    Calls Tryz.prog 110 #[.int .i64 x, .int .i64 y, .pointer (some ⟨bc, 0, none⟩), .pointer (some ⟨bt, 0, none⟩), .pointer (some ⟨bf, 0, none⟩)] w fun e w' => e = .returned (.int .i64 ((quV n L t x y : Nat) : Int)) ∧ ∃ m, w' = w.drewN m := by
  obtain ⟨b1, o1, A, O, C, rfl, G⟩ := h1.grid ht hn1
  have hm := rkL_bd L n
  obtain ⟨b3, o3, rfl, e1⟩ := hrf.at x hx
  obtain ⟨b3', o3', e0, e2⟩ := hrf.at y hy
  cases e0
  rw [ldsL_get hx] at e1
  rw [ldsL_get hy] at e2
  have hX := hL.fs_lt hx
  have hY := hL.fs_lt hy
  have q1 := ht.lt hX hY
  obtain ⟨b4, o4, rfl, e3⟩ := hrc.at _ q1
  rw [clsL_get L q1] at e3
  have d1 : quV n L t x y = clN L (tv t (fsN n L x) (fsN n L y)) := rfl
  rw [d1]
  have k1 := G.look hX hY
  generalize rkL L n = M at *
  generalize fsN n L x = X at *
  generalize fsN n L y = Y at *
  generalize tv t X Y = P at *
  generalize clN L P = P2 at *
  have l1 := hFst.one
  have l2 := hCls.one
  have l3 := hTab.one
  clear hL d1
  have i1 : (0 : Int) ≤ (x : Int) := by omega
  have i2 : (x : Int) < (M : Int) := by omega
  have i3 : (0 : Int) ≤ (y : Int) := by omega
  have i4 : (y : Int) < (M : Int) := by omega
  have i5 : (0 : Int) ≤ (X : Int) := by omega
  have i6 : (X : Int) < (n : Int) := by omega
  have i7 : (0 : Int) ≤ (Y : Int) := by omega
  have i8 : (Y : Int) < (n : Int) := by omega
  have i9 : (0 : Int) ≤ (P : Int) := by omega
  have i10 : (P : Int) < (n : Int) := by omega
  go_enter Tryz.func110, Tryz.ntmps110
  go_wp2
  go_quiet (fail)
  go_wp2
  go_ret
  exact ⟨rfl, _, rfl⟩
theorem ent_quo1 : Ent 110 := fun _ _ => rfl
set_option maxHeartbeats 4000000 in
theorem quotientTable_any (n : Nat) (L : Nat → Nat) (a ac : Option Addr) (c cc : Nat) (t : List (List Int)) (w : World) (h1 : Tbl w a n t) (h2 : Row w ac n (clsL n L)) (hL : Ldr n L) (ht : Sq n t) (hn1 : 1 ≤ n) (hn : n ≤ 12) :
    Calls Tryz.prog 85 #[.slice a n c, .slice ac n cc] w fun e w' => ∃ a1 c1 vs, e = .returned (.slice a1 (rkL L n) c1) ∧ OwnT w' w.heap.size a1 (rkL L n) c1 vs (quT n L t) ∧ Below w.heap.size w w' := by
  have HT := Lib.hid ht; have HLD := Lib.hid hL
  have hmb := rkL_bd L n
  clear ht hL
  have hfo := fun (aa : Option Addr) (cc : Nat) (w : World) (hr : Row w aa n (clsL n L)) => firstOf_any n L aa cc w hr HLD.out hn
  obtain ⟨M, HM⟩ : ∃ M, Hid (rkL L n = M) := ⟨_, Lib.hid rfl⟩
  rw [HM.out] at hmb hfo ⊢
  have HFO := Lib.hid hfo
  clear hfo
  obtain ⟨w0, hw0⟩ : ∃ w0, (w.alloc (.cells #[.slice a n c] 24)).alloc (.cells #[.slice ac n cc] 50) = w0 := ⟨_, rfl⟩
  have hz0 : w0.heap.size = w.heap.size + 2 := by rw [← hw0]; simp
  have hB : Below w.heap.size w w0 := by rw [← hw0]; exact below_al (below_al (Below.refl _ _) _) _
  have hA : Loc w0 w.heap.size #[.slice a n c] 24 := by rw [← hw0]; exact (Loc.new w rfl _ _).alloc _
  have hC : Loc w0 (w.heap.size + 1) #[.slice ac n cc] 50 := by rw [← hw0]; exact Loc.new _ (by simp) _ _
  have lC := hC.one
  go_enter Tryz.func85, Tryz.ntmps85
  go_wp2_with fail
  try rw [hw0]
  refine (HFO.out _ _ _ (h2.below hB)).mono ?_
  rintro e w1 ⟨al, cl, rfl, hol, hb1⟩
  have hz1 := hb1.size
  have hB1 := below_th hB hb1
  have hA1 := hA.below hb1 hA.lt
  have hC1 := hC.below hb1 hC.lt
  obtain ⟨w2, hw2⟩ : ∃ w2, (w1.alloc (.cells #[.slice none 0 0] 50)).setCell ⟨w1.heap.size, 0, none⟩ (.slice al M cl) = w2 := ⟨_, rfl⟩
  have hL2 : Loc w2 w1.heap.size #[.slice al M cl] 50 := by rw [← hw2]; exact (Loc.new w1 rfl _ _).set 0 _
  have hb2 : Below w1.heap.size w1 w2 := by rw [← hw2]; exact (below_al (Below.refl _ _) _).setCell (Nat.le_refl _) _
  have hz2 := hb2.size
  have hB2 := below_th hB1 hb2
  have hA2 := hA1.below hb2 hA1.lt
  have hC2 := hC1.below hb2 hC1.lt
  have hrl := (hol.below hb2).row
  have lL2 := hL2.one
  have hc1 : Hid (∀ x y, x < M → y < M → ∀ w3, Below w2.heap.size w2 w3 → Calls Tryz.prog 110 (#[.int .i64 x, .int .i64 y] ++ #[.pointer (some ⟨w.heap.size + 1, 0, none⟩), .pointer (some ⟨w.heap.size, 0, none⟩), .pointer (some ⟨w1.heap.size, 0, none⟩)]) w3 fun e w' => e = .returned (.int .i64 ((quV n L t x y : Nat) : Int)) ∧ Below w3.heap.size w3 w') := Lib.hid fun x y hx hy w3 hb3 => by
    have := HM.out
    subst this
    exact (quotientTable1_any n _ _ _ _ _ _ ac a al cc c cl t L w3 (hC2.below hb3 hC2.lt) (hA2.below hb3 hA2.lt) (hL2.below hb3 hL2.lt) (h1.below (below_th hB2 hb3)) (hrl.below hb3) (h2.below (below_th hB2 hb3)) HLD.out HT.out hn1 hn x y hx hy).mono fun e w' ⟨he, k, hk⟩ => ⟨he, by rw [hk]; exact below_drewN (Below.refl _ _) k⟩
  have HQ1 : Hid (tabF M (fun x y => ((quV n L t x y : Nat) : Int)) = quT n L t) := Lib.hid (by unfold quT; rw [HM.out])
  go_wp2_with fail
  try rw [hw2]
  refine (tableBy_any _ _ (fun x y => ((quV n L t x y : Nat) : Int)) M _ (by omega) ent_quo1 hc1.out).mono ?_
  rintro e w3 ⟨a1, c1, vs, rfl, ho1, hb3⟩
  rw [HQ1.out] at ho1
  have hB3 := below_th hB2 hb3
  go_wp2
  go_ret
  exact ⟨a1, c1, vs, rfl, ho1.mono (by omega), hB3⟩
set_option maxHeartbeats 4000000 in
theorem isIdeal_yes (n s : Nat) (a a' al : Option Addr) (c c' cl : Nat) (f g lam : List (List Int)) (w : World) (h1 : Tbl w a n f) (h2 : Tbl w a' n g) (h3 : Tbl w al n lam) (hT : BrT n f g) (hl : Sq n lam) (hs : s < 2 ^ n) (h0 : s.testBit 0 = true) (hcl : ∀ x y, x < n → y < n → s.testBit x = true → s.testBit y = true → s.testBit (tv f x y) = true) (hlm : ∀ x z, x < n → z < n → s.testBit x = true → s.testBit (tv lam z x) = true) (hna : ∀ x y, x < n → y < n → s.testBit y = true → s.testBit (tv f (tv f x y) (ivN f x)) = true) (hnc : ∀ x y, x < n → y < n → s.testBit y = true → s.testBit (tv g (tv g x y) (ivN g x)) = true) :
    Calls Tryz.prog 45 #[sAgg a n c a' n c', .slice al n cl, .int .i64 s] w fun e w' => e = .returned (.bool true) ∧ Below w.heap.size w w' := by
  have HLI := Lib.hid (fun (w : World) (h1 : Tbl w a n f) (h3 : Tbl w al n lam) => isLeftIdeal_yes n s a a' al c c' cl f g lam w h1 h3 hT.sf hl hT.n1 hT.n12 hs h0 hcl hlm)
  have HNA := Lib.hid (fun (w : World) (h1 : Tbl w a n f) => isNormal_yes n s a c f w h1 hT.sf hT.rf hT.n1 hT.n12 hs hna)
  have HNC := Lib.hid (fun (w : World) (h2 : Tbl w a' n g) => isNormal_yes n s a' c' g w h2 hT.sg hT.rg hT.n1 hT.n12 hs hnc)
  clear hl hs h0 hcl hlm hna hnc hT
  have hA := Loc.new w rfl #[.slice a n c, .slice a' n c'] 26
  have hB := below_al (Below.refl w.heap.size w) (.cells #[.slice a n c, .slice a' n c'] 26)
  have lA := hA.two
  go_enter Tryz.func45, Tryz.ntmps45
  go_wp2_with fail
  refine (HLI.out _ (h1.below hB) (h3.below hB)).mono ?_
  rintro e w1 ⟨rfl, hb1⟩
  have hA1 := hA.below hb1 hA.lt
  have lA1 := hA1.two
  have hB1 := below_th hB hb1
  go_wp2_with fail
  refine (HNA.out _ (h1.below hB1)).mono ?_
  rintro e w2 ⟨rfl, hb2⟩
  have hA2 := hA1.below hb2 hA1.lt
  have lA2 := hA2.two
  have hB2 := below_th hB1 hb2
  go_wp2_with fail
  refine (HNC.out _ (h2.below hB2)).mono ?_
  rintro e w3 ⟨rfl, hb3⟩
  go_wp2
  go_ret
  exact ⟨rfl, below_th hB2 hb3⟩
set_option maxHeartbeats 2000000 in
theorem checkBraceSet_yes (n s : Nat) (a a' : Option Addr) (c c' : Nat) (f g : List (List Int)) (w : World) (h1 : Tbl w a n f) (h2 : Tbl w a' n g) (hT : BrT n f g) (hs : s < 2 ^ n) :
    Calls Tryz.prog 44 #[sAgg a n c a' n c', .int .i64 s] w fun e w' => e = .returned (.int .i64 0) ∧ Below w.heap.size w w' := by
  have HI := Lib.hid hT.is
  have hn := hT.n12
  clear hT
  have hA := Loc.new w rfl #[.slice a n c, .slice a' n c'] 26
  have hB := below_al (Below.refl w.heap.size w) (.cells #[.slice a n c, .slice a' n c'] 26)
  have lA := hA.two
  have h2n : 2 ^ n ≤ 4096 := by
    have := Nat.pow_le_pow_right (n := 2) (by decide) hn
    simpa using this
  obtain ⟨T, HTT⟩ : ∃ T, Hid (2 ^ n = T) := ⟨_, Lib.hid rfl⟩
  have ht : ((2 : Int) ^ n) = (T : Int) := by rw [← HTT.out]; exact (Int.natCast_pow 2 n).symm
  rw [HTT.out] at h2n hs
  have hwT : IntKind.i64.wrap (T : Int) = T := IntWalk.i64_in _ (by omega)
  have hwT1 : IntKind.i64.wrap ((T : Int) - 1) = (T : Int) - 1 := IntWalk.i64_in _ (by omega)
  have hwT2 : wrap64 ((T : Int) - 1) = (T : Int) - 1 := IntWalk.wrap64_in _ (by omega)
  have HW := Lib.hid (fun w => within_b (s : Int) 0 ((T : Int) - 1) true (by unfold rngB; simp; omega) w)
  go_enter Tryz.func44, Tryz.ntmps44
  go_wp2_with fail
  refine (IsBrace_any _ _ _ _ _ _ f g _ (h1.below hB) (h2.below hB) (by omega) (by omega)).mono ?_
  rintro e w1 ⟨rfl, hb1⟩
  rw [HI.out]
  have lA1 := (hA.below hb1 hA.lt).two
  have hB1 := below_th hB hb1
  go_wp2_with fail
  refine (HW.out _).mono ?_
  rintro e w2 ⟨rfl, rfl⟩
  go_wp2
  go_ret
  exact ⟨rfl, hB1⟩
end Go.Proofs.YtiliimkfobfbnaaGreat
namespace Go.Proofs.YtiliimkfobfbnaaGreat
set_option maxRecDepth 100000
set_option linter.unusedVariables false
set_option linter.unusedSimpArgs false
theorem row_ext {n : Nat} {t t' : List (List Int)} (hs : Sq n t) (hs' : Sq n t') {x x' : Nat} (hx : x < n) (hx' : x' < n) : t.getD x [] = t'.getD x' [] ↔ ∀ y, y < n → tv t x y = tv t' x' y := by
  constructor
  · intro e y hy; unfold tv; rw [e]
  · intro h
    apply List.ext_getElem
    · rw [hs.row hx, hs'.row hx']
    · intro i h1 h2
      have hi : i < n := by rw [hs.row hx] at h1; exact h1
      have a := hs.val hx hi
      have b := hs'.val hx' hi
      rw [List.getD_eq_getElem?_getD, List.getElem?_eq_getElem h1, Option.getD_some] at a
      rw [List.getD_eq_getElem?_getD, List.getElem?_eq_getElem h2, Option.getD_some] at b
      rw [a, b, h i hi]
section
variable {n : Nat} {f g : List (List Int)}
abbrev KB (n : Nat) (f g : List (List Int)) (s : Nat) : Prop := Brc.Ker n (tv f) (tv g) (ivN f) (ivN g) s
abbrev AB (n : Nat) (f g : List (List Int)) (x y : Nat) : Prop := Brc.Al n (tv f) (tv g) (ivN f) (ivN g) x y
theorem soc_bit (hT : BrT n f g) {x : Nat} (hx : x < n) : socB n f g x = true ↔ KB n f g x := by
  refine Iff.trans ?_ (hT.b.soc_ker hx)
  have sT : Sq n (trnL n f) := Sq.tab fun x y hx hy => hT.sf.lt hy hx
  unfold socB Brc.Soc
  simp only [Bool.and_eq_true, decide_eq_true_eq]
  rw [row_ext hT.sf hT.sg hx hx, row_ext hT.sf sT hx hx]
  constructor
  · rintro ⟨h1, h2⟩
    exact ⟨fun y hy => (h1 y hy).symm, fun y hy => by rw [h2 y hy, trnL_tv hx hy]⟩
  · rintro ⟨h1, h2⟩
    exact ⟨fun y hy => (h1 y hy).symm, fun y hy => by rw [trnL_tv hx hy]; exact h2 y hy⟩
def socN (n : Nat) (f g : List (List Int)) : Nat := setN (socB n f g) n
theorem socN_lt (n : Nat) (f g : List (List Int)) : socN n f g < 2 ^ n := setN_lt _ n
theorem soc_tb (hT : BrT n f g) {x : Nat} (hx : x < n) : (socN n f g).testBit x = true ↔ KB n f g x := by
  unfold socN
  rw [setN_bit, decide_eq_true hx, Bool.true_and, soc_bit hT hx]
theorem soc_0 (hT : BrT n f g) : (socN n f g).testBit 0 = true := (soc_tb hT hT.n1).2 (hT.b.ker_zero hT.n1)
theorem soc_cl (hT : BrT n f g) : ∀ x y, x < n → y < n → (socN n f g).testBit x = true → (socN n f g).testBit y = true → (socN n f g).testBit (tv f x y) = true := fun x y hx hy h1 h2 => by
  have k1 := (soc_tb hT hx).1 h1
  have k2 := (soc_tb hT hy).1 h2
  refine (soc_tb hT (hT.sf.lt hx hy)).2 ?_
  have e := (hT.b.ker_add hx hy k1).1
  show KB n f g (tv f x y)
  rw [← e]; exact hT.b.ker_mul hx hy k1 k2
theorem soc_lm (hT : BrT n f g) : ∀ x z, x < n → z < n → (socN n f g).testBit x = true → (socN n f g).testBit (lamN f g z x) = true := fun x z hx hz h1 =>
  (soc_tb hT (hT.b.lam_lt hz hx)).2 (hT.b.ker_lam hx hz ((soc_tb hT hx).1 h1))
theorem soc_na (hT : BrT n f g) : ∀ x y, x < n → y < n → (socN n f g).testBit y = true → (socN n f g).testBit (tv f (tv f x y) (ivN f x)) = true := fun x y hx hy h1 => by
  have k := (soc_tb hT hy).1 h1
  rw [← (hT.b.ker_add hy hx k).2, hT.b.a.mul_inv hy hx]; exact h1
theorem soc_nc (hT : BrT n f g) : ∀ x y, x < n → y < n → (socN n f g).testBit y = true → (socN n f g).testBit (tv g (tv g x y) (ivN g x)) = true := fun x y hx hy h1 =>
  (soc_tb hT (hT.sg.lt (hT.sg.lt hx hy) (hT.b.c.il x hx))).2 (hT.b.ker_cj hy hx ((soc_tb hT hy).1 h1))
theorem alB_al (hT : BrT n f g) {x y : Nat} (hx : x < n) (hy : y < n) : alB n (lamT f g) (rhoT f g) x y = true ↔ AB n f g x y := by
  have hl := hT.sf.len
  have sF : Sq n (lamT f g) := by have := brc_sqF (a := f) (c := g) (by rw [hl]; exact hT.b); rwa [hl] at this
  have sG : Sq n (rhoT f g) := by have := brc_sqG (a := f) (c := g) (by rw [hl]; exact hT.b); rwa [hl] at this
  have sT : Sq n (trnL n (rhoT f g)) := Sq.tab fun x y hx hy => sG.lt hy hx
  rw [alB_iff, row_ext sF sF hx hy, row_ext sT sT hx hy]
  show _ ↔ Brc.Al n (tv f) (tv g) (ivN f) (ivN g) x y
  rw [hT.b.al_iff hx hy]
  constructor
  · rintro ⟨h1, h2⟩
    refine ⟨fun z hz => ?_, fun z hz => ?_⟩
    · have := h1 z hz
      rw [lamT_tv (by omega) (by omega), lamT_tv (by omega) (by omega)] at this; exact this
    · have := h2 z hz
      rw [trnL_tv hx hz, trnL_tv hy hz, rhoT_tv (by omega) (by omega), rhoT_tv (by omega) (by omega)] at this; exact this
  · rintro ⟨h1, h2⟩
    refine ⟨fun z hz => ?_, fun z hz => ?_⟩
    · rw [lamT_tv (by omega) (by omega), lamT_tv (by omega) (by omega)]; exact h1 z hz
    · rw [trnL_tv hx hz, trnL_tv hy hz, rhoT_tv (by omega) (by omega), rhoT_tv (by omega) (by omega)]; exact h2 z hz
theorem ab_eqv (hT : BrT n f g) : Eqv n (AB n f g) := by
  have e := alB_eqv n (lamT f g) (rhoT f g)
  exact ⟨fun x hx => (alB_al hT hx hx).1 (e.refl x hx), fun x y hx hy h => (alB_al hT hy hx).1 (e.symm x y hx hy ((alB_al hT hx hy).2 h)), fun x y z hx hy hz h h' => (alB_al hT hx hz).1 (e.trans x y z hx hy hz ((alB_al hT hx hy).2 h) ((alB_al hT hy hz).2 h'))⟩
theorem elN_mem {s x : Nat} {n : Nat} (hn : n ≤ 12) (hs : s < 2 ^ n) : x ∈ elN 12 s ↔ x < n ∧ s.testBit x = true := by
  unfold elN
  rw [List.mem_filter, List.mem_range]
  constructor
  · rintro ⟨h1, h2⟩
    refine ⟨?_, h2⟩
    by_cases c : x < n
    · exact c
    · have := Nat.testBit_lt_two_pow (Nat.lt_of_lt_of_le hs (Nat.pow_le_pow_right (n := 2) (by decide) (show n ≤ x by omega)))
      rw [h2] at this; exact absurd this (by simp)
  · rintro ⟨h1, h2⟩; exact ⟨by omega, h2⟩
theorem ldC_of (hT : BrT n f g) : LdrOf n (AB n f g) (ldC f (socN n f g)) := by
  intro x hx
  obtain ⟨h1, h2, h3⟩ := csF_le f x (elN 12 (socN n f g))
  have hlt := socN_lt n f g
  have hL : ldC f (socN n f g) x = csF f x (elN 12 (socN n f g)) := rfl
  rw [hL]
  refine ⟨by omega, ?_, fun z hz hzz => ?_⟩
  · rcases h3 with e | ⟨y, hy, e⟩
    · rw [e]; exact ⟨0, hT.n1, hT.b.ker_zero hT.n1, hT.b.a.one_r x hx⟩
    · obtain ⟨hyn, hb⟩ := (elN_mem hT.n12 hlt).1 hy
      rw [e]; exact ⟨y, hyn, (soc_tb hT hyn).1 hb, rfl⟩
  · obtain ⟨s, hs, hk, rfl⟩ := hzz
    exact h2 s ((elN_mem hT.n12 hlt).2 ⟨hs, (soc_tb hT hs).2 hk⟩)
theorem ldC_ldr (hT : BrT n f g) : Ldr n (ldC f (socN n f g)) := (ldC_of hT).ldr (ab_eqv hT)
theorem ldAC (hT : BrT n f g) : ∀ x, x < n → ldA n (lamT f g) (rhoT f g) x = ldC f (socN n f g) x :=
  (ldA_of n (lamT f g) (rhoT f g)).same (ldC_of hT) fun x y hx hy => alB_al hT hx hy
theorem quT_cong {L M : Nat → Nat} {t : List (List Int)} (hL : Ldr n L) (e : ∀ x, x < n → L x = M x) (ht : Sq n t) : quT n L t = quT n M t ∧ rkL L n = rkL M n := by
  obtain ⟨e1, e2⟩ := rkL_cong e
  refine ⟨?_, e1⟩
  unfold quT
  rw [← e1]
  unfold tabF
  refine List.map_congr_left fun u hu => List.map_congr_left fun v hv => ?_
  have hu' := List.mem_range.1 hu; have hv' := List.mem_range.1 hv
  have a : fsN n M u = fsN n L u := by unfold fsN; rw [e2]
  have b : fsN n M v = fsN n L v := by unfold fsN; rw [e2]
  show ((clN L (tv t (fsN n L u) (fsN n L v)) : Nat) : Int) = ((clN M (tv t (fsN n M u) (fsN n M v)) : Nat) : Int)
  rw [a, b, clN_cong hL e (ht.lt (hL.fs_lt hu') (hL.fs_lt hv'))]
theorem quo_brc (hT : BrT n f g) : isBrc (quT n (ldC f (socN n f g)) f) (quT n (ldC f (socN n f g)) g) = true ∧ rkL (ldC f (socN n f g)) n = (quT n (ldC f (socN n f g)) f).length ∧
    lamT (quT n (ldC f (socN n f g)) f) (quT n (ldC f (socN n f g)) g) = quT n (ldC f (socN n f g)) (lamT f g) ∧ rhoT (quT n (ldC f (socN n f g)) f) (quT n (ldC f (socN n f g)) g) = quT n (ldC f (socN n f g)) (rhoT f g) := by
  have hL := ldC_ldr hT
  have hO := ldC_of hT
  have hE := ab_eqv hT
  generalize ldC f (socN n f g) = L at *
  have hLn : ∀ x, x < n → L x < n := fun x hx => by have := hL.le x hx; omega
  have hcx : ∀ x, x < n → clN L x < rkL L n := fun x hx => hL.cl_lt hx
  have hal : ∀ x, x < n → AB n f g x (L x) := fun x hx => (hO x hx).2.1
  have cle : ∀ x y, x < n → y < n → AB n f g x y → clN L x = clN L y := fun x y hx hy h => (hL.cl_eq hx hy).2 ((hO.eq_iff hE hx hy).2 h)
  have tvq : ∀ t u v, u < rkL L n → v < rkL L n → tv (quT n L t) u v = quV n L t u v := fun t u v hu hv => tv_tab (V := fun u v => quV n L t u v) hu hv
  have hA : ∀ x y, x < n → y < n → clN L (tv f x y) = tv (quT n L f) (clN L x) (clN L y) := fun x y hx hy => by
    rw [tvq f _ _ (hcx x hx) (hcx y hy)]
    unfold quV
    rw [hL.fs_cl hx, hL.fs_cl hy]
    exact cle _ _ (hT.sf.lt hx hy) (hT.sf.lt (hLn x hx) (hLn y hy)) (hT.b.al_add hx (hLn x hx) hy (hLn y hy) (hal x hx) (hal y hy))
  have hC : ∀ x y, x < n → y < n → clN L (tv g x y) = tv (quT n L g) (clN L x) (clN L y) := fun x y hx hy => by
    rw [tvq g _ _ (hcx x hx) (hcx y hy)]
    unfold quV
    rw [hL.fs_cl hx, hL.fs_cl hy]
    exact cle _ _ (hT.sg.lt hx hy) (hT.sg.lt (hLn x hx) (hLn y hy)) (hT.b.al_mul hx (hLn x hx) hy (hLn y hy) (hal x hx) (hal y hy))
  have hL0 : L 0 = 0 := by have := hL.le 0 hT.n1; omega
  have h0 : clN L 0 = 0 := by unfold clN; rw [hL0]; rfl
  have hm1 : 1 ≤ rkL L n := by have := hcx 0 hT.n1; omega
  have hm12 : rkL L n ≤ 12 := by have := rkL_bd L n; have := hT.n12; omega
  have hB := hT.b.onto (m := rkL L n) (A' := tv (quT n L f)) (C' := tv (quT n L g)) (cl := clN L) (fs := fsN n L) hcx (fun u hu => hL.fs_lt hu) (fun u hu => hL.cl_fs hu) hA hC h0
  have sqq : ∀ t, Sq n t → Sq (rkL L n) (quT n L t) := fun t ht => Sq.tab fun u v hu hv => hcx _ (ht.lt (hL.fs_lt hu) (hL.fs_lt hv))
  have sF := sqq f hT.sf
  have sG := sqq g hT.sg
  have hI := isBrc_of hm1 hm12 sF sG hB
  have hl := sF.len
  have hB2 : Brc (rkL L n) (tv (quT n L f)) (tv (quT n L g)) (ivN (quT n L f)) (ivN (quT n L g)) := by have := brc_of hI; rwa [hl] at this
  have key : ∀ u v, u < rkL L n → v < rkL L n → lamN (quT n L f) (quT n L g) u v = clN L (lamN f g (fsN n L u) (fsN n L v)) ∧ rhoN (quT n L f) (quT n L g) u v = clN L (rhoN f g (fsN n L u) (fsN n L v)) := fun u v hu hv => by
    have := hT.b.onto_lam hB2 hcx hA hC (hL.fs_lt hu) (hL.fs_lt hv)
    rw [hL.cl_fs hu, hL.cl_fs hv] at this
    exact this
  refine ⟨hI, hl.symm, ?_, ?_⟩
  · unfold lamT
    rw [hl]
    show tabF (rkL L n) _ = tabF (rkL L n) _
    unfold tabF
    refine List.map_congr_left fun u hu => List.map_congr_left fun v hv => ?_
    have hu' := List.mem_range.1 hu; have hv' := List.mem_range.1 hv
    show ((lamN (quT n L f) (quT n L g) u v : Nat) : Int) = ((clN L (tv (lamT f g) (fsN n L u) (fsN n L v)) : Nat) : Int)
    rw [(key u v hu' hv').1, lamT_tv (by rw [hT.sf.len]; exact hL.fs_lt hu') (by rw [hT.sf.len]; exact hL.fs_lt hv')]
  · unfold rhoT
    rw [hl]
    show tabF (rkL L n) _ = tabF (rkL L n) _
    unfold tabF
    refine List.map_congr_left fun u hu => List.map_congr_left fun v hv => ?_
    have hu' := List.mem_range.1 hu; have hv' := List.mem_range.1 hv
    show ((rhoN (quT n L f) (quT n L g) u v : Nat) : Int) = ((clN L (tv (rhoT f g) (fsN n L u) (fsN n L v)) : Nat) : Int)
    rw [(key u v hu' hv').2, rhoT_tv (by rw [hT.sf.len]; exact hL.fs_lt hu') (by rw [hT.sf.len]; exact hL.fs_lt hv')]
end
end Go.Proofs.YtiliimkfobfbnaaGreat
