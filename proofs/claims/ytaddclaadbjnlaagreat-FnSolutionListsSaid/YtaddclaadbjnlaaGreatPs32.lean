/-
  Walks and plain laws of this seat, some texts in one.
  No condition but bounds on lengths.
-/
import Derived.Test.YtaddclaadbjnlaaGreatPs31
import Derived.Test.YtaddclaadbjnlaaGreatPs6
import Derived.Test.YtaddclaadbjnlaaGreatPs19
import Derived.Test.YtaddclaadbjnlaaGreatPs2
namespace Go.Proofs.YtaddclaadbjnlaaGreat
set_option maxRecDepth 100000
set_option linter.unusedVariables false
set_option linter.unusedSimpArgs false
open Go.RowKit
abbrev bxP (b : Nat) : Value := .pointer (some ⟨b, 0, none⟩)
structure ExtB (w : World) (bn bt ba bf be N P pc : Nat) (pa : Option Addr) (gf : Nat) (lb : Array Value) : Prop where
  n : Loc w bn #[.int .i64 N] 3
  al : Loc w ba #[.slice pa P pc] 32
  f : Loc w bf #[.func (.func gf) #[] lb] 72
  e : Loc w be #[.func (.func 89) #[] #[bxP bn, bxP bt, bxP ba, bxP bf, bxP be]] 102
  dn : bn ≠ bt
  da : ba ≠ bt
  df : bf ≠ bt
  de : be ≠ bt
theorem ExtB.keep {w w' : World} {bn bt ba bf be N P pc : Nat} {pa : Option Addr} {gf : Nat} {lb : Array Value} (h : ExtB w bn bt ba bf be N P pc pa gf lb) (hk : ∀ g, g ≠ bt → (g = bn ∨ g = ba ∨ g = bf ∨ g = be) → g < w.heap.size → w'.heap[g]? = w.heap[g]?) : ExtB w' bn bt ba bf be N P pc pa gf lb :=
  ⟨(hk bn h.dn (by simp) h.n.lt).trans h.n, (hk ba h.da (by simp) h.al.lt).trans h.al, (hk bf h.df (by simp) h.f.lt).trans h.f, (hk be h.de (by simp) h.e.lt).trans h.e, h.dn, h.da, h.df, h.de⟩
theorem ExtB.below {w w' : World} {bn bt ba bf be N P pc : Nat} {pa : Option Addr} {gf : Nat} {lb : Array Value} (h : ExtB w bn bt ba bf be N P pc pa gf lb) (hb : Below w.heap.size w w') : ExtB w' bn bt ba bf be N P pc pa gf lb := h.keep fun g _ _ hlt => hb.block g hlt
theorem ExtB.marked {w w' : World} {bn bt ba bf be N P pc lo : Nat} {pa : Option Addr} {gf : Nat} {lb : Array Value} (h : ExtB w bn bt ba bf be N P pc pa gf lb) {S : Nat → Prop} (hm : Marked S w w') (hS : ∀ g, S g → g = bt ∨ lo ≤ g) (h1 : bn < lo) (h2 : ba < lo) (h3 : bf < lo) (h4 : be < lo) : ExtB w' bn bt ba bf be N P pc pa gf lb :=
  h.keep fun g hne hg hlt => hm.block g hlt fun hs => by
    rcases hS g hs with e | e
    · exact hne e
    · rcases hg with rfl | rfl | rfl | rfl <;> omega
def RowsOf (P : Nat) (pvs : List SV) (perms : List (List Int)) (vs : List SV) (rows : List (List Int)) : Prop := vs.length = rows.length ∧ ∀ i, i < rows.length → ∃ j, j < P ∧ vs.getD i svO = pvs.getD j svO ∧ rows.getD i [] = perms.getD j []
theorem RowsOf.nil (P : Nat) (pvs : List SV) (perms : List (List Int)) : RowsOf P pvs perms [] [] := ⟨rfl, fun i h => absurd h (by simp)⟩
theorem RowsOf.snoc {P : Nat} {pvs : List SV} {perms : List (List Int)} {vs : List SV} {rows : List (List Int)} (h : RowsOf P pvs perms vs rows) {j : Nat} (hj : j < P) : RowsOf P pvs perms (vs ++ [pvs.getD j svO]) (rows ++ [perms.getD j []]) := by
  refine ⟨by simp [h.1], fun i hi => ?_⟩
  simp only [List.length_append, List.length_cons, List.length_nil] at hi
  by_cases e : i < rows.length
  · obtain ⟨j', h1, h2, h3⟩ := h.2 i e
    exact ⟨j', h1, by rw [← h2]; simp [List.getD_eq_getElem?_getD, List.getElem?_append_left (show i < vs.length by have := h.1; omega)], by rw [← h3]; simp [List.getD_eq_getElem?_getD, List.getElem?_append_left e]⟩
  · obtain rfl : i = rows.length := by omega
    refine ⟨j, hj, ?_, ?_⟩
    · rw [← h.1]; simp [List.getD_eq_getElem?_getD]
    · simp [List.getD_eq_getElem?_getD]
theorem RowsOf.tbl {w : World} {lo : Nat} {pa a : Option Addr} {P pc n : Nat} {pvs vs : List SV} {perms rows : List (List Int)} (h : RowsOf P pvs perms vs rows) (hp : OwnT w lo pa P pc pvs perms) (hh : HdR w a n vs) : Tbl w a n rows :=
  hh.tbl (by have := hh.1; have := h.1; omega) fun i hi => by
    obtain ⟨j, h1, h2, h3⟩ := h.2 i (by have := hh.1; have := h.1; omega)
    rw [h2, h3]
    exact ⟨(hp.row j h1).row, by have := (hp.row j h1).cap; omega⟩
def FitH (gf : Nat) (lb : Array Value) (fits : List (List Int) → Bool) (N : Nat) : Prop :=
  (∀ (args : Array Value) (w : World), (callFunc gf args).run Tryz.prog w = .ok (.enter gf args) w) ∧ ∀ (w : World) (a : Option Addr) (k c : Nat) (rows : List (List Int)), Tbl w a k rows → k ≤ N → (∀ i, i < k → IsP N (rows.getD i [])) → Calls Tryz.prog gf (#[.int .i64 N, .slice a k c] ++ lb) w fun e w' => e = .returned (.bool (fits rows)) ∧ Below w.heap.size w w'
theorem Marked.setc {S : Nat → Prop} {a b : World} (h : Marked S a b) {p : Addr} (hp : S p.block) (u : Value) : Marked S a (b.setCell p u) :=
  ⟨h.os, h.tape, h.output, by rw [size_set]; exact h.size, fun k hk hs => (Below.heap_setCell _ _ _ _ (fun e => hs (by rw [e]; exact hp))).trans (h.block k hk hs)⟩
def ExtP (lo bt : Nat) (ta : Option Addr) (tk : Nat) (tus : List TV) (ts : List (List (List Int))) (w : World) (e : Ending) (w' : World) : Prop :=
  (∃ v, e = .returned v) ∧ ∃ ta' tk' tc' tus', Loc w' bt #[.slice ta' tk' tc'] 70 ∧ OwnTT w' lo ta' tk' tc' tus' ts ∧ Marked (fun g => g = bt ∨ TTS ta tk tus g) w w' ∧ ∀ g, TTS ta' tk' tus' g → TTS ta tk tus g ∨ w.heap.size ≤ g
set_option maxHeartbeats 16000000 in
theorem extend_any (N P lo loA bn bt ba bf be gf : Nat) (lb : Array Value) (fits : List (List Int) → Bool) (perms : List (List Int)) (pa : Option Addr) (pc : Nat) (pvs : List SV)
    (hN0 : 1 ≤ N) (hN : N ≤ 12) (hps : ∀ i, i < P → IsP N (perms.getD i [])) (hfit : FitH gf lb fits N) (b1 : bn < lo) (b2 : bt < lo) (b3 : ba < lo) (b4 : bf < lo) (b5 : be < lo) (hab : ∀ g, TblS pa P pvs g → g ≠ bt) :
    ∀ (m k : Nat) (rows : List (List Int)) (a : Option Addr) (c : Nat) (vs : List SV) (ta : Option Addr) (tk tc : Nat) (tus : List TV) (ts : List (List (List Int))) (w : World),
      k + m = N → Hd w lo a k c vs → RowsOf P pvs perms vs rows → ExtB w bn bt ba bf be N P pc pa gf lb → OwnT w loA pa P pc pvs perms → Loc w bt #[.slice ta tk tc] 70 → OwnTT w lo ta tk tc tus ts →
      (∀ g, TblS pa P pvs g → ¬ TTS ta tk tus g) → (∀ g, a = some ⟨g, 0, none⟩ → ¬ TTS ta tk tus g) → lo ≤ w.heap.size → tk + P ^ m ≤ 1000000000 →
      Calls Tryz.prog 89 #[.slice a k c, bxP bn, bxP bt, bxP ba, bxP bf, bxP be] w (ExtP lo bt ta tk tus (ts ++ rowG perms fits m rows) w) := by
  have HAB := Lib.hid hab
  clear hab
  intro m
  induction m with
  | zero =>
    intro k rows a c vs ta tk tc tus ts w hk hh hro hE hp hL ht hap hah hlo hb
    have hkl : k = rows.length := by have := hh.1; have := hro.1; omega
    have HRO := Lib.hid hro; have HAP := Lib.hid hap; have HAH := Lib.hid hah; have HB := Lib.hid hb; have HKL := Lib.hid hkl
    have hlo2 := hlo
    clear hro hap hah hb hkl
    obtain rfl : k = N := by omega
    have lN := hE.n.one
    have lT := hL.one
    have hq1 : ((k : Int) == (k : Int)) = true := by simp
    go_enter Tryz.func89, Tryz.ntmps89
    go_wp2
    have hTB : Tbl (w.drewN 1) a k rows := (RowsOf.tbl HRO.out hp hh.read).drewN 1
    have hRL : ∀ i, i < k → (rows.getD i []).length ≤ 1000000 := fun i hi => by
      obtain ⟨j, hj, _, h3⟩ := HRO.out.2 i (by have := HKL.out; omega)
      rw [h3, (hps j hj).len]; omega
    have HRL := Lib.hid hRL
    have HG : Hid (rowG perms fits 0 rows = [rows]) := Lib.hid rfl
    clear hRL hps hfit
    have HTU := Lib.hid ht.uHi
    go_region_law (first
      | (refine step_appTTn rfl rfl ht3 rfl ho5 HQ4.out rfl ?_ ?_ ?_; (have := HB.out; simp at this; omega); (omega); intro g' cc w8 hO hg8 hat8 hb8; have hL8 := hL3.grown hg8 (fun e => by have := ht.low bt (ht.ownBlk e.symm); omega); have lL8 := hL8.one)
      | (go_simp; go_at_call 90; refine (cloneTable_any _ _ _ _ _ hTB (by omega) HRL.out).mono ?_; rintro e w3 ⟨a3, c3, vs3, rfl, ho3, hb3⟩; have ho4 : OwnT w3 w.heap.size a3 k c3 vs3 rows := ho3; have hz4 : w.heap.size ≤ w3.heap.size := hb3.size; have HQ4 : Hid (∀ q, TblS a3 k vs3 q → ¬ TTS ta tk tus q) := Lib.hid (fun q h1 h2 => by have := ho4.uLo q h1; have := HTU.out q h2; omega); have ho5 := ho4.mono hlo2; have ht3 := (ht.drewN 1).below hb3; have hL3 := (hL.drewN 1).below hb3 hL.lt; have lL3 := hL3.one; have lL4 := (hL3.alloc (.cells #[.slice a3 k c3] 32)).one))
    all_goals
      go_wp2
      refine bodyPost_ret (results_none rfl _ _ _) rfl ⟨⟨_, rfl⟩, _, _, _, _, hL8.set 0 _, (by rw [HG.out]; exact hO.setlo b2 _), ?_, ?_⟩
      · refine Marked.setc ?_ (.inl rfl) _
        refine Marked.then (S := fun g => g = bt ∨ TTS ta tk tus g) (Marked.ofB (w' := w3) ((show Below w.heap.size w (w.drewN 1) from ⟨rfl, rfl, rfl, Nat.le_refl _, fun _ _ => rfl⟩).trans hb3)) (Marked.grownTT ht3 hg8) (fun g hg => .inl (.inr hg))
      · intro q hq
        rcases TTS.snoc (a := ta) ht.ulen hq with rfl | h' | h'
        · rcases hat8 with h2 | h2
          · exact .inl (.inl (ht.ownBlk h2))
          · exact .inr (by omega)
        · exact .inr (ho4.uLo _ h')
        · exact .inl h'
  | succ m ih =>
    intro k rows a c vs ta tk tc tus ts w hk hh hro hE hp hL ht hap hah hlo hb
    have hkl : k = rows.length := by have := hh.1; have := hro.1; omega
    have IH := Lib.hid ih
    have HRO := Lib.hid hro; have HAP := Lib.hid hap; have HAH := Lib.hid hah; have HB := Lib.hid hb; have HKL := Lib.hid hkl; have HPS := Lib.hid hps; have HFIT := Lib.hid hfit
    have hlo2 := hlo
    clear hro hap hah hb hkl hps hfit ih
    have lN := hE.n.one
    have lA := hE.al.one
    have hPb : P ≤ 9223372036854775807 := by have := hp.cap; omega
    have hq1 : ((k : Int) == (N : Int)) = false := by simp; omega
    have HPL := Lib.hid hp.tbl.len
    have HE : Hid (rowP perms fits m rows P = rowG perms fits (m + 1) rows) := Lib.hid (by rw [HPL.out]; exact rowP_all _ _ _ _)
    have HRS := Lib.hid (fun j (h : j < perms.length) => rowP_succ perms fits m rows h)
    have HRB := Lib.hid (rowP_le perms fits m rows)
    have HN : Hid (∀ j, j < P → tk + j * P ^ m + P ^ m ≤ 1000000000) := Lib.hid fun j hj => by
      have h1 : (j + 1) * P ^ m ≤ P * P ^ m := Nat.mul_le_mul_right _ hj
      rw [Nat.add_mul, Nat.one_mul] at h1
      have h2 := HB.out
      rw [Nat.pow_succ, Nat.mul_comm] at h2
      omega
    have HKT := Lib.hid ht.len
    have HSL : Hid (∀ g, (g = bt ∨ TTS ta tk tus g) → g = bt ∨ lo ≤ g) := Lib.hid fun g hg => hg.imp id (ht.uLo g)
    go_enter Tryz.func89, Tryz.ntmps89
    go_wp2
    go_loopw [21] (fun i wr => ∃ (j : Nat) (ta' : Option Addr) (tk' tc' : Nat) (tus' : List TV), j ≤ P ∧ i = .int .i64 j ∧ Loc wr bt #[.slice ta' tk' tc'] 70 ∧ OwnTT wr lo ta' tk' tc' tus' (ts ++ rowP perms fits m rows j) ∧ Marked (fun g => g = bt ∨ TTS ta tk tus g) w wr ∧ Hid (∀ g, TTS ta' tk' tus' g → TTS ta tk tus g ∨ w.heap.size ≤ g)) (fun i _ => P - (intOf i).toNat)
    case atStart => exact ⟨0, ta, tk, tc, tus, Nat.zero_le _, rfl, hL, by simpa [rowP] using ht, Marked.refl _ _, Lib.hid fun g h => .inl h⟩
    case round =>
      obtain ⟨j, ta', tk', tc', tus', hj, rfl, hL', ht', hM, HSUB⟩ := hrel
      by_cases hjP : j < P
      · have hE' := hE.marked hM HSL.out b1 b3 b4 b5
        have hp' := hp.uKeep hM (fun g h1 h2 => by
          rcases h2 with rfl | h2
          · exact HAB.out _ h1 rfl
          · exact HAP.out g h1 h2)
        have hh' := hh.marked hM (fun g h1 h2 => by
          rcases h2 with rfl | h2
          · have := hh.low _ h1; omega
          · exact HAH.out g h1 h2)
        have hwr := hM.size
        obtain ⟨gp, rfl, hgp, hcp, _⟩ := hp'.cells (by omega)
        have cp := hcp j hjP
        obtain ⟨⟨va, vn, vc⟩, HV⟩ : ∃ v, Hid (pvs.getD j svO = v) := ⟨_, rfl⟩
        rw [HV.out] at cp
        have i1 : (0 : Int) ≤ (j : Int) := by omega
        have i2 : (j : Int) < (P : Int) := by omega
        clear hcp
        go_wp2_with fail
        refine (cloneRows_any _ _ _ _ _ hh'.read (by omega)).mono ?_
        rintro e w2 ⟨a2, c2, rfl, hd2, hb2⟩
        have hz2 := hb2.size
        go_wp2_with (at_builtin; refine appH1 rfl rfl hd2 rfl rfl (by omega) hz2 ?_; intro g' cc w8 hd8 hg8 hat8 hb8; have hB8 := hb2.trans hb8; have hE8 := hE'.below hB8; have lF8 := hE8.f.one; have lN8 := hE8.n.one)
        have hro2 : RowsOf P pvs perms (vs ++ [(va, vn, vc)]) (rows ++ [perms.getD j []]) := by rw [← HV.out]; exact HRO.out.snoc hjP
        have hTB := RowsOf.tbl hro2 (hp'.below hB8) hd8.read
        have hpm : ∀ i, i < k + 1 → IsP N ((rows ++ [perms.getD j []]).getD i []) := fun i hi => by
          obtain ⟨j', h1, _, h3⟩ := hro2.2 i (by simp; have := HKL.out; omega)
          rw [h3]; exact HPS.out j' h1
        have HPM := Lib.hid hpm
        have EG := HFIT.out.1
        have HRO2 := Lib.hid hro2
        have HT := Lib.hid (HRS.out j (by have := HPL.out; omega))
        clear hpm hro2
        go_wp2_with fail
        rw [EG]
        go_simp
        refine (HFIT.out.2 _ _ _ _ _ hTB (by omega) HPM.out).mono ?_
        rintro e w9 ⟨rfl, hb9⟩
        clear EG
        have hB9 : Below wr.heap.size wr w9 := hB8.trans (hb9.mono hB8.size)
        have hz9 := hB9.size
        cases hf : fits (rows ++ [perms.getD j []]) with
        | true =>
          have HT1 := HT.out
          rw [hf, if_pos rfl] at HT1
          have HT2 := Lib.hid HT1
          have lE9 := (hE'.below hB9).e.one
          have hk' : tk' + P ^ m ≤ 1000000000 := by
            have h1 := ht'.len
            rw [List.length_append] at h1
            have h3 := HRB.out j (by have := HPL.out; omega)
            have h2 := HN.out j hjP
            have h5 := HKT.out
            have h4 : perms.length ^ m = P ^ m := by rw [← HPL.out]
            rw [h4] at h3
            omega
          clear hf HT1
          go_wp2_with fail
          refine (IH.out (k + 1) _ _ _ _ ta' tk' tc' tus' _ w9 (by omega) ((hd8.mono (by omega)).below hb9) HRO2.out (hE'.below hB9) (hp'.below hB9) ((hL'.below hB9) hL'.lt) (ht'.below hB9) (fun g h1 h2 => ?_) (fun g h1 h2 => ?_) (by omega) hk').mono ?_
          · rcases HSUB.out g h2 with h3 | h3
            · exact HAP.out g h1 h3
            · have := hp.uHi g h1; omega
          · have := hd8.low g h1; have := ht'.uHi g h2; omega
          rintro e w10 ⟨⟨v10, rfl⟩, ta2, tk2, tc2, tus2, hL2, ht2, hM2, hsub2⟩
          go_wp2
          go_roundw
          case rel =>
            refine ⟨j + 1, ta2, tk2, tc2, tus2, by omega, by go_num, hL2, by rw [HT2.out, ← List.append_assoc]; exact ht2, (hM.then (Marked.ofB (S := fun _ => False) hB9) (fun _ h => h.elim)).then hM2 (fun g hg => ?_), Lib.hid fun g hg => ?_⟩
            · rcases hg with h | h
              · exact .inl (.inl h)
              · rcases HSUB.out g h with h | h
                · exact .inl (.inr h)
                · exact .inr h
            · rcases hsub2 g hg with h | h
              · exact HSUB.out g h
              · exact .inr (by omega)
          case measure => simp [intOf]; omega
        | false =>
          have HT1 := HT.out
          rw [hf] at HT1
          have HT2 : Hid (rowP perms fits m rows (j + 1) = rowP perms fits m rows j) := Lib.hid (by rw [HT1]; simp)
          clear hf HT1
          go_wp2
          go_roundw
          case rel => exact ⟨j + 1, ta', tk', tc', tus', by omega, by go_num, (hL'.below hB9) hL'.lt, by rw [HT2.out]; exact ht'.below hB9, hM.then (Marked.ofB (S := fun _ => False) hB9) (fun _ h => h.elim), HSUB⟩
          case measure => simp [intOf]; omega
      · obtain rfl : P = j := by omega
        go_wp2
        go_end0
        exact ⟨⟨_, rfl⟩, ta', tk', tc', tus', hL', by rw [← HE.out]; exact ht', hM, HSUB.out⟩
end Go.Proofs.YtaddclaadbjnlaaGreat
