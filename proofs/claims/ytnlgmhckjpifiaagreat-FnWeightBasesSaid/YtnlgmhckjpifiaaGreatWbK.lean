/-
  The program's kernelOf: the lists whose pairings with reduced rows are 0.
  No condition but bounds.
-/
import Derived.Test.YtnlgmhckjpifiaaGreatWbE
import Derived.Maps.OwnOps
import Derived.Maps.Views
namespace Go.Proofs.YtnlgmhckjpifiaaGreat
set_option maxRecDepth 100000
set_option linter.unusedVariables false
set_option linter.unusedSimpArgs false
open Go.RowKit

/-! ### plain -/
def pvK (R : List (List Int)) (k pl : Nat) : Bool := (List.range k).any fun j => decide (ldN (R.getD j []) = pl)
def kerR (p : Int) (N : Nat) (R : List (List Int)) (pl : Nat) (j : Nat) : List Int := (R.take j).foldl (fun l r => l.set (ldN r) ((p - gv r pl) % p)) ((List.replicate N 0).set pl 1)
def kerL (p : Int) (N : Nat) (R : List (List Int)) (k : Nat) : List (List Int) := (List.range k).flatMap fun pl => if pvK R R.length pl then [] else [kerR p N R pl R.length]
theorem kerR_succ {p : Int} {N : Nat} {R : List (List Int)} {pl j : Nat} (h : j < R.length) : kerR p N R pl (j + 1) = (kerR p N R pl j).set (ldN (R.getD j [])) ((p - gv (R.getD j []) pl) % p) := by
  unfold kerR
  rw [List.take_succ_eq_append_getElem h, List.foldl_append, List.foldl_cons, List.foldl_nil, List.getD_eq_getElem?_getD, List.getElem?_eq_getElem h, Option.getD_some]
theorem kerR_len (p : Int) (N : Nat) (R : List (List Int)) (pl j : Nat) : (kerR p N R pl j).length = N := by
  unfold kerR
  have : ∀ (S : List (List Int)) (l : List Int), (S.foldl (fun l r => l.set (ldN r) ((p - gv r pl) % p)) l).length = l.length := by
    intro S
    induction S with
    | nil => intro l; rfl
    | cons s S ih => intro l; rw [List.foldl_cons, ih, List.length_set]
  rw [this]; simp
theorem kerL_skip {p : Int} {N : Nat} {R : List (List Int)} {k : Nat} (h : pvK R R.length k = true) : kerL p N R (k + 1) = kerL p N R k := by
  unfold kerL; rw [List.range_succ, List.flatMap_append]; simp [h]
theorem kerL_do {p : Int} {N : Nat} {R : List (List Int)} {k : Nat} (h : pvK R R.length k = false) : kerL p N R (k + 1) = kerL p N R k ++ [kerR p N R k R.length] := by
  unfold kerL; rw [List.range_succ, List.flatMap_append]; simp [h]
theorem kerR_vec {p : Int} {N : Nat} {R : List (List Int)} {pl : Nat} (hp : 1 < p) : ∀ j, Vec p N (kerR p N R pl j) := by
  intro j
  have hmod : ∀ x : Int, 0 ≤ x % p ∧ x % p < p := fun x => ⟨Int.emod_nonneg _ (by omega), Int.emod_lt_of_pos _ (by omega)⟩
  have hset : ∀ (l : List Int) (i : Nat) (z : Int), Vec p N l → 0 ≤ z → z < p → Vec p N (l.set i z) := fun l i z h h0 h1 => by
    refine ⟨by rw [List.length_set]; exact h.1, fun q hq => ?_⟩
    rw [gv_set (by rw [h.1]; exact hq)]
    by_cases e : q = i
    · rw [if_pos e]; exact ⟨h0, h1⟩
    · rw [if_neg e]; exact h.2 q hq
  have hrep : Vec p N (List.replicate N 0) := ⟨by simp, fun i hi => by
    have : gv (List.replicate N 0) i = 0 := by unfold gv; simp [List.getD_eq_getElem?_getD, hi]
    rw [this]; omega⟩
  unfold kerR
  have : ∀ (S : List (List Int)) (l : List Int), Vec p N l → Vec p N (S.foldl (fun l r => l.set (ldN r) ((p - gv r pl) % p)) l) := by
    intro S
    induction S with
    | nil => intro l h; exact h
    | cons s S ih => intro l h; exact ih _ (hset _ _ _ h (hmod _).1 (hmod _).2)
  exact this _ _ (hset _ _ _ hrep (by omega) hp)
theorem kerL_vec {p : Int} {N : Nat} {R : List (List Int)} (hp : 1 < p) (k : Nat) : ∀ r, r ∈ kerL p N R k → Vec p N r := by
  intro r h
  unfold kerL at h
  obtain ⟨pl, _, h⟩ := List.mem_flatMap.1 h
  by_cases c : pvK R R.length pl = true
  · rw [if_pos c] at h; cases h
  · rw [if_neg c] at h
    rw [List.mem_singleton.1 h]; exact kerR_vec hp _

/-! ### the map of the first places -/
def pvD (R : List (List Int)) : Nat → DataW Unit
  | 0 => .map []
  | k + 1 => (pvD R k).put (.int .i64 ((ldN (R.getD k []) : Nat) : Int)) (.lit (.bool true))
theorem pvD_map (R : List (List Int)) : ∀ k, Maps.IsMap (pvD R k) := by
  intro k
  induction k with
  | zero => exact ⟨[], rfl⟩
  | succ k ih => obtain ⟨es, h⟩ := ih; unfold pvD; rw [h]; exact ⟨_, rfl⟩
theorem pvD_at (R : List (List Int)) (pl : Nat) : ∀ k, (pvD R k).atKey (.int .i64 (pl : Int)) (.lit (.bool false)) = .lit (.bool (pvK R k pl)) := by
  intro k
  induction k with
  | zero => rfl
  | succ k ih =>
    have e : pvK R (k + 1) pl = (pvK R k pl || decide (ldN (R.getD k []) = pl)) := by unfold pvK; rw [List.range_succ, List.any_append]; simp
    by_cases c : ldN (R.getD k []) = pl
    · rw [e, decide_eq_true c, Bool.or_true]
      unfold pvD
      rw [c]
      exact Maps.atKey_put_same (pvD_map R k) (by trivial) _ _
    · rw [e, decide_eq_false c, Bool.or_false, ← ih]
      show ((pvD R k).put _ _).atKey _ _ = _
      refine Maps.atKey_put_other (fun h => c ?_) _ _
      injection h with h1 h2
      omega

theorem plainElem_bool_inv {H : Type} {P : Program} {e : TypeId} (he : P.underlying e = some .bool) {v : Value} {c : Bool} {ps : List MemPlace} (h : plainElem (H := H) P e v = some (.lit (.bool c), ps)) : v = .bool c := by
  unfold plainElem at h
  rw [he] at h
  cases v <;> simp at h
  rw [h.1]
theorem wpList_lookup_own_bool {H : Type} {P : Program} (w : World) {ops : Array Oper} {rest : List Oper} {o : Oper} {a : Act} {Q : Exit → Act → World → Prop}
    (hg : o.guard = none) (m x : Operand) (t : TypeId) (hop : o.op = Op.lookup t m x false)
    (k e : TypeId) (K : Maps.Keyed P k) (ht : P.underlying t = some (.map k e)) (he : P.underlying e = some .bool) (hz : (zeroValue e).run P w = .ok (.bool false) w) (b n : Nat) (D : DataW H)
    (hm : a.eval m = .map (some b)) (hown : w.ownsMap P k (plainElem P e) b n D) (key : Value) (kl : Lit) (hx : a.eval x = key) (hkey : keyOf P k key = some kl) {c : Bool} (hat : D.atKey kl (.lit (.bool false)) = .lit (.bool c))
    (hK : wpList P ops Q rest (a.put o.dst (.bool c)) w) :
    wpList P ops Q (o :: rest) a w := by
  refine wpList_plain hg fun K' hK' => ?_
  obtain ⟨v, ps, hrun, hv⟩ := hown.lookup K ht hz (plainElem_bool he false) hkey
  rw [hat] at hv
  have := plainElem_bool_inv he hv
  subst this
  unfold Oper.wp
  simp [execOp, hop, hm, hx, hrun, Result.andThen]
  exact hK' _ _ hK
theorem keyI : Maps.Keyed Tryz.prog 3 := Maps.int_keyed Tryz.underlying3
theorem zeroB (w : World) : (zeroValue 4).run Tryz.prog w = .ok (.bool false) w := by kernel_rfl
theorem map_keep {w w' : World} {b n : Nat} {D : DataW Unit} (h : w.ownsMap Tryz.prog 3 (plainElem Tryz.prog 4) b n D) (e : w'.heap[b]? = w.heap[b]?) : w'.ownsMap Tryz.prog 3 (plainElem Tryz.prog 4) b n D := by
  obtain ⟨es, clock, hb, F, hs, hD⟩ := h
  exact ⟨es, clock, e.trans hb, F, hs, hD⟩

set_option maxHeartbeats 16000000 in
theorem kernelOf_any (p : Int) (N : Nat) (a : Option Addr) (n c : Nat) (R : List (List Int)) (w : World) (h : Tbl w a n R) (p2 : 2 ≤ p ∧ p ≤ 7) (hm : n ≤ 1000000) (hN : N ≤ 1000000) (hr : ∀ r, r ∈ R → Vec p N r ∧ ldN r < N) :
    Calls Tryz.prog 100 #[.int .i64 p, .int .i64 N, .slice a n c] w fun e w' => ∃ a' d c' vs, e = .returned (.slice a' d c') ∧ OwnT w' w.heap.size a' d c' vs (kerL p N R N) ∧ Below w.heap.size w w' := by
  have HR : Hid (∀ j, j < n → Vec p N (R.getD j []) ∧ ldN (R.getD j []) < N) := Lib.hid fun j hj => hr _ (by rw [List.getD_eq_getElem?_getD, List.getElem?_eq_getElem (by have := h.len; omega)]; exact List.getElem_mem _)
  have HLn := Lib.hid h.len
  have p0 : p ≠ 0 := by omega
  clear hr
  have hmm := @run_makeMap Tryz.prog
  go_enter Tryz.func100, Tryz.ntmps100
  go_wp2
  go_loopw [18] (fun s18 wr => ∃ i : Nat, i ≤ n ∧ s18 = .int .i64 i ∧ wr.ownsMap Tryz.prog 3 (plainElem Tryz.prog 4) w.heap.size i (pvD R i) ∧ Below w.heap.size w wr) (fun s18 _ => n - (intOf s18).toNat)
  case atStart => exact ⟨0, Nat.zero_le _, rfl, World.ownsMap_made _ _ _ _, (Below.refl _ _).alloc (Nat.le_refl _) _⟩
  case round =>
    obtain ⟨i, hi, rfl, hown, hb⟩ := hrel
    have hmb := hown.lt
    by_cases hlt : i < n
    · obtain ⟨bz, oz, ai, ni, ci, rfl, z1, hri, _⟩ := (h.below hb).at i hlt
      obtain ⟨hV, hlN⟩ := HR.out i hlt
      obtain rfl : N = ni := by rw [hri.len]; exact hV.1.symm
      obtain ⟨K, hK⟩ : ∃ K, ldN (R.getD i []) = K := ⟨_, rfl⟩
      have HD : Hid (pvD R (i + 1) = (pvD R i).put (.int .i64 (K : Int)) (.lit (.bool true))) := Lib.hid (by rw [← hK]; rfl)
      have hld : ldI (R.getD i []) = K := by unfold ldI; rw [if_neg (by have := hV.1; omega), hK]
      have HLD := Lib.hid (leading_any ai N ci _ wr hri (by omega))
      rw [hld] at HLD
      rw [hK] at hlN
      clear hld hK hV hri
      have hkey : keyOf Tryz.prog 3 (.int .i64 (K : Int)) = some (.int .i64 (K : Int)) := Maps.keyOf_int_mk Tryz.underlying3 (WalkArith.wf_i64 (by omega))
      go_wp2_with fail
      refine HLD.out.mono ?_
      rintro e w' ⟨rfl, rfl⟩
      go_wp2_with (at_mapUpdate; refine wpList_mapUpdate_own _ rfl _ _ _ 159 rfl 3 4 keyI Tryz.underlying159 _ w.heap.size i _ rfl hown (by unfold maxLen; omega) _ _ _ rfl rfl hkey _ [] (plainElem_bool Tryz.underlying4 true) ?_; intro w1 hown1 hgrow1)
      go_roundw
      case rel => exact ⟨i + 1, by omega, by go_num, by rw [HD.out]; exact hown1, hb.grown hgrow1 hb.size (fun j hj => by cases hj; exact Nat.le_refl _)⟩
      case measure => simp [intOf]; omega
    · obtain rfl : n = i := by omega
      have HAT : Hid (∀ pl : Nat, (pvD R n).atKey (.int .i64 (pl : Int)) (.lit (.bool false)) = .lit (.bool (pvK R n pl))) := Lib.hid fun pl => pvD_at R pl n
      have HPN : Hid (∀ pl, pvK R R.length pl = pvK R n pl) := Lib.hid fun pl => by rw [← HLn.out]
      go_wp2
      go_loopw [10, 27] (fun s10 s27 wr => ∃ (pl d : Nat) (a5 : Option Addr) (c5 : Nat) (vs : List SV), pl ≤ N ∧ d ≤ pl ∧ s27 = .int .i64 pl ∧ s10 = .slice a5 d c5 ∧ OwnT wr (w.heap.size + 1) a5 d c5 vs (kerL p N R pl) ∧ wr.ownsMap Tryz.prog 3 (plainElem Tryz.prog 4) w.heap.size n (pvD R n) ∧ Below w.heap.size w wr) (fun _ s27 _ => N - (intOf s27).toNat)
      case atStart => exact ⟨0, 0, none, 0, [], Nat.zero_le _, Nat.zero_le _, rfl, rfl, OwnT.nil _ _, hown, hb⟩
      case round =>
        clear hown hb hmb
        obtain ⟨pl, d, a5, c5, vs, hpl, hdp, rfl, rfl, ho, hown, hb⟩ := hrel
        obtain ⟨W, rfl⟩ : ∃ W : World, W = wr := ⟨_, rfl⟩
        have hmb := hown.lt
        by_cases hlt : pl < N
        · have hkey : keyOf Tryz.prog 3 (.int .i64 (pl : Int)) = some (.int .i64 (pl : Int)) := Maps.keyOf_int_mk Tryz.underlying3 (WalkArith.wf_i64 (by omega))
          have hat := HAT.out pl
          obtain ⟨cb, hcb⟩ : ∃ cb, pvK R n pl = cb := ⟨_, rfl⟩
          rw [hcb] at hat
          have HCB := Lib.hid hcb
          have HATC := Lib.hid hat
          clear hcb hat
          cases cb
          · go_wp2_with (first
              | (at_lookup; refine wpList_lookup_own_bool _ rfl _ _ 159 rfl 3 4 keyI Tryz.underlying159 Tryz.underlying4 (zeroB _) w.heap.size n _ rfl hown _ _ rfl hkey HATC.out ?_)
              | (at_make; refine make1 rfl rfl rfl rfl (by omega) ?_; intro w1 ho1 hs1 hb1; obtain ⟨_, hc1, hf1⟩ := ho1.cells; have q1 := hc1 pl hlt; have q2 := hf1 pl; clear hc1 hf1))
            have hoS := ho1.set pl 1
            have hbS := below_setne (a := ⟨W.heap.size, pl, none⟩) hb1 (Nat.le_refl _) (.int .i64 1)
            clear q1 q2 ho1
            go_loopw [40] (fun s40 w2 => ∃ j : Nat, j ≤ n ∧ s40 = .int .i64 j ∧ Own w2 W.heap.size (some ⟨W.heap.size, 0, none⟩) N N (kerR p N R pl j) ∧ Below W.heap.size W w2) (fun s40 _ => n - (intOf s40).toNat)
            case atStart => exact ⟨0, Nat.zero_le _, rfl, by simpa [kerR] using hoS, hbS⟩
            case round =>
              clear hoS hbS hs1 hb1
              obtain ⟨j, hj, rfl, ho2, hb2⟩ := hrel
              by_cases hjn : j < n
              · obtain ⟨hV, hlN⟩ := HR.out j hjn
                have HKS := Lib.hid (kerR_succ (p := p) (N := N) (pl := pl) (show j < R.length by have := HLn.out; omega))
                obtain ⟨bz, oz, ai, ni, ci, rfl, z1, hri, _⟩ := h.at j hjn
                obtain rfl : N = ni := by rw [hri.len]; exact hV.1.symm
                obtain ⟨b6, o6, rfl, z2⟩ := hri.at pl hlt
                have e1 : bz < w.heap.size := World.block_lt_of_cell? w _ z1
                have e2 : b6 < w.heap.size := World.block_lt_of_cell? w _ z2
                have hB := below_th hb hb2
                have z1 := (hB.cell (p := ⟨bz, oz + j, none⟩) e1).trans z1
                have z2' := (hB.cell (p := ⟨b6, o6 + pl, none⟩) e2).trans z2
                have hri2 := hri.below hB
                clear hri z2
                have z2 : wr.cell? ⟨b6, o6 + pl, none⟩ = some (.int .i64 (gv (R.getD j []) pl)) := z2'
                clear z2'
                have hYv := hV.2 pl hlt
                obtain ⟨K, hK⟩ : ∃ K, ldN (R.getD j []) = K := ⟨_, rfl⟩
                have hld : ldI (R.getD j []) = K := by unfold ldI; rw [if_neg (by have := hV.1; omega), hK]
                have HLD : Hid (∀ v, Row v (some ⟨b6, o6, none⟩) N (R.getD j []) → Calls Tryz.prog 156 #[.slice (some ⟨b6, o6, none⟩) N ci] v fun e v' => e = .returned (.int .i64 (K : Int)) ∧ v = v') := Lib.hid fun v hv => by have := leading_any _ N ci _ v hv (by omega); rw [hld] at this; exact this
                rw [hK] at hlN HKS
                clear hld hK hV
                generalize gv (R.getD j []) pl = Y at *
                have hwY : IntKind.i64.wrap (p - Y) = p - Y := IntWalk.i64_in _ (by omega)
                have hrY : (p - Y).tmod p = (p - Y) % p := IntWalk.rem_in _ _ (by omega)
                obtain ⟨Z, hZ⟩ : ∃ Z, (p - Y) % p = Z := ⟨_, rfl⟩
                rw [hZ] at hrY HKS
                clear hZ
                obtain ⟨_, hc1, hf1⟩ := ho2.cells
                have q1 := hc1 K hlN
                have q2 := hf1 K
                clear hc1 hf1
                have hne6 : b6 ≠ W.heap.size := by omega
                have zS : (wr.drewN 1).cell? ⟨b6, o6 + pl, none⟩ = some (.int .i64 Y) := z2
                have zT : ((wr.drewN 1).setCell ⟨W.heap.size, K, none⟩ (.int .i64 Z)).cell? ⟨b6, o6 + pl, none⟩ = some (.int .i64 Y) := cell_setne zS hne6 _
                go_wp2
                go_region_held3 (fun v => v.cell? ⟨b6, o6 + pl, none⟩ = some (.int .i64 Y))
                  (first | exact zT | exact zS | exact z2 | go_keep)
                  (first | (go_at_call 156; refine (HLD.out wr.drew (show Row wr.drew _ _ _ from hri2)).mono ?_; rintro e w' ⟨rfl, rfl⟩))
                all_goals
                  go_wp2
                  go_roundw
                  case rel => exact ⟨j + 1, by omega, by go_num, by rw [HKS.out]; exact ho2.set K Z, Below.drew (below_setne (a := ⟨W.heap.size, K, none⟩) hb2 (Nat.le_refl _) _)⟩
                  case measure => simp [intOf]; omega
              · obtain rfl : n = j := by omega
                have ho3 := ho.below hb2
                have hsz := hb2.size
                have hv3 : Own wr (w.heap.size + 1) (some ⟨W.heap.size, 0, none⟩) N N (kerR p N R pl n) := ho2.mono (by omega)
                go_wp2_with (at_builtin; refine appT1 rfl rfl ho3 rfl hv3 (fun q h1 h2 => by cases h2; have := ho.high _ h1; omega) (fun j' hj' q h1 h2 => by cases h1; have := (ho.row j' hj').hi _ h2; omega) rfl (by omega) (by omega) ?_; intro g7 c7 w7 hO7 hb7)
                go_roundw
                case rel =>
                  refine ⟨pl + 1, d + 1, _, _, vs ++ [(some ⟨W.heap.size, 0, none⟩, N, N)], by omega, by omega, by go_num, rfl, ?_, map_keep hown ((hb7.block _ (by omega)).trans (hb2.block _ hmb)), (below_th hb hb2).trans (hb7.mono (by omega))⟩
                  rw [kerL_do (by rw [HPN.out]; exact HCB.out), ← HLn.out]
                  exact hO7
                case measure => simp [intOf]; omega
          · go_wp2_with (at_lookup; refine wpList_lookup_own_bool _ rfl _ _ 159 rfl 3 4 keyI Tryz.underlying159 Tryz.underlying4 (zeroB _) w.heap.size n _ rfl hown _ _ rfl hkey HATC.out ?_)
            go_roundw
            case rel => exact ⟨pl + 1, d, a5, c5, vs, by omega, by omega, by go_num, rfl, by rw [kerL_skip (by rw [HPN.out]; exact HCB.out)]; exact ho, hown, hb⟩
            case measure => simp [intOf]; omega
        · obtain rfl : N = pl := by omega
          have hof := ho.mono (Nat.le_succ w.heap.size)
          go_wp2
          go_ret
          exact ⟨_, _, _, _, rfl, hof, hb⟩
end Go.Proofs.YtnlgmhckjpifiaaGreat
