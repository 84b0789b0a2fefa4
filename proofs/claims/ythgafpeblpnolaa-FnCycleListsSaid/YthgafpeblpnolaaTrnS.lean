/-
  The reference's tables of all cycle sets.
  No condition but bounds.
-/
import Derived.Test.YthgafpeblpnolaaBase2
import Derived.Test.YthgafpeblpnolaaBase3
namespace Go.Proofs.Ythgafpeblpnolaa
set_option maxRecDepth 100000
set_option linter.unusedVariables false
set_option linter.unusedSimpArgs false
open Go.RowKit

/-- all cycle sets that go on with the rows -/
def trnG (n : Nat) (ps : List (List Int)) : Nat → List (List Int) → List (List (List Int))
  | 0, o => if isCyc n o then [o] else []
  | m + 1, o => if frs o = o.length then (if isCyc n o then [o] else []) else ps.flatMap fun p => if hfL n (o.set (frs o) p) then trnG n ps m (o.set (frs o) p) else []
def trnN (n : Nat) : List (List (List Int)) := trnG n (prmL n) n (List.replicate n [])
def trnP (n : Nat) (ps : List (List Int)) (m : Nat) (o : List (List Int)) (k : Nat) : List (List (List Int)) := (ps.take k).flatMap fun p => if hfL n (o.set (frs o) p) then trnG n ps m (o.set (frs o) p) else []
theorem trnP_succ (n : Nat) (ps : List (List Int)) (m : Nat) (o : List (List Int)) {k : Nat} (h : k < ps.length) : trnP n ps m o (k + 1) = trnP n ps m o k ++ if hfL n (o.set (frs o) (ps.getD k [])) then trnG n ps m (o.set (frs o) (ps.getD k [])) else [] := by
  unfold trnP
  rw [List.take_succ_eq_append_getElem h, List.flatMap_append]
  simp [List.getD_eq_getElem?_getD, List.getElem?_eq_getElem h]
theorem trnG_bd (n : Nat) (ps : List (List Int)) (hp : 0 < ps.length) : ∀ (m : Nat) (o : List (List Int)), (trnG n ps m o).length ≤ ps.length ^ m := by
  intro m
  induction m with
  | zero => intro o; unfold trnG; split <;> simp
  | succ m ih =>
    intro o
    unfold trnG
    have hpos : 0 < ps.length ^ m := Nat.pow_pos hp
    split
    · rw [Nat.pow_succ]
      have : 1 ≤ ps.length ^ m * ps.length := Nat.mul_pos hpos hp
      split
      · simpa using this
      · simp
    · have : ∀ k, k ≤ ps.length → (trnP n ps m o k).length ≤ k * ps.length ^ m := by
        intro k
        induction k with
        | zero => intro _; simp [trnP]
        | succ k ihk =>
          intro hk
          rw [trnP_succ n ps m o (by omega), List.length_append, Nat.add_mul, Nat.one_mul]
          have := ihk (by omega)
          split
          · have := ih (o.set (frs o) (ps.getD k [])); omega
          · simp; omega
      have h := this ps.length (Nat.le_refl _)
      unfold trnP at h
      rw [List.take_length] at h
      rw [Nat.pow_succ, Nat.mul_comm]
      exact h
theorem trnP_le (n : Nat) (ps : List (List Int)) (hp : 0 < ps.length) (m : Nat) (o : List (List Int)) : ∀ k, k ≤ ps.length → (trnP n ps m o k).length ≤ k * ps.length ^ m := by
  intro k
  induction k with
  | zero => intro _; simp [trnP]
  | succ k ihk =>
    intro hk
    rw [trnP_succ n ps m o (by omega), List.length_append, Nat.add_mul, Nat.one_mul]
    have := ihk (by omega)
    split
    · have := trnG_bd n ps hp m (o.set (frs o) (ps.getD k [])); omega
    · simp; omega
theorem RwsOk.full {n : Nat} {o : List (List Int)} (h : RwsOk n o) (hx : ∀ i, i < n → o.getD i [] ≠ []) : RwsP n o := ⟨h.1, fun i hi => (h.2 i hi).resolve_left (hx i hi)⟩
theorem GrTT.from {E : Nat → Prop} {w w1 : World} {lo : Nat} {a : Option Addr} {n : Nat} {us : List TV} {ts : List (List (List Int))} {e : Ending} {w' : World} (h : GrTT E w1 lo a n us ts e w') (hb : Below w.heap.size w w1) : GrTT E w lo a n us ts e w' := by
  obtain ⟨a', n', c', us', h1, h2, h3, h4⟩ := h
  refine ⟨a', n', c', us', h1, h2, (Marked.ofB (S := TTS a n us) hb).then h3 (fun g hg => .inl hg), fun g hg => ?_⟩
  rcases h4 g hg with h | h | h
  · exact .inl h
  · exact .inr (.inl h)
  · exact .inr (.inr (Nat.le_trans hb.size h))

set_option maxHeartbeats 16000000 in
theorem l19Turns_any (n lo P : Nat) (ps : List (List Int)) (hn0 : 0 < n) (hn : n ≤ 12) (hP : 0 < P) (hPb : P ≤ 1000000) (hps : ∀ i, i < P → IsP n (ps.getD i [])) : ∀ (m : Nat) (o : List (List Int)) (pa : Option Addr) (pc : Nat) (pvs : List SV) (ra : Option Addr) (rc : Nat) (rvs : List SV) (a : Option Addr) (k c : Nat) (us : List TV) (ts : List (List (List Int))) (w : World),
    OwnT w lo pa P pc pvs ps → OwnT w lo ra n rc rvs o → RwsOk n o → empC o ≤ m → OwnTT w lo a k c us ts → (∀ g, TblS pa P pvs g → ¬ TTS a k us g) → (∀ g, TblS ra n rvs g → ¬ TTS a k us g) → lo ≤ w.heap.size → k + P ^ m ≤ 1000000000 →
    Calls Try.prog 60 #[.slice pa P pc, .slice ra n rc, .slice a k c] w (GrTT (TblS ra n rvs) w lo a k us (ts ++ trnG n ps m o)) := by
  intro m
  induction m with
  | zero =>
    intro o pa pc pvs ra rc rvs a k c us ts w hp hr hok hem ht hap har hlo hk
    have HAP := Lib.hid hap; have HAR := Lib.hid har; have HOK := Lib.hid hok; have HEM := Lib.hid hem; have HK := Lib.hid hk; have HPS := Lib.hid hps
    have hlo2 := hlo
    clear hap har hok hem hk
    go_enter Try.func60, Try.ntmps60
    go_wp2
    go_loop [7] (fun i => ∃ x : Nat, x ≤ n ∧ i = .int .i64 x ∧ Hid (∀ i, i < x → o.getD i [] ≠ [])) (fun i => n - (intOf i).toNat)
    case atStart => exact ⟨0, Nat.zero_le _, rfl, Lib.hid fun i hi => absurd hi (by omega)⟩
    case round =>
      obtain ⟨x, hx, rfl, HX⟩ := hrel
      by_cases hlt : x < n
      · obtain ⟨b, off, ax, nx, cx, rfl, g1, r1, l1⟩ := hr.tbl.at x hlt
        rcases HOK.out.2 x hlt with he | hpx
        · obtain rfl : 0 = nx := by have := r1.len; rw [he] at this; simpa using this.symm
          exact absurd (empC_pos (by have := HOK.out.1; omega) he) (by have := HEM.out; omega)
        · obtain rfl : n = nx := by have := r1.len; rw [hpx.len] at this; exact this.symm
          have HX1 : Hid (∀ i, i < x + 1 → o.getD i [] ≠ []) := Lib.hid fun i hi => by
            by_cases e : i = x
            · subst e; exact IsP.ne hn0 hpx
            · exact HX.out i (by omega)
          clear hpx
          go_wp2
          go_round
          case rel => exact ⟨x + 1, by omega, by go_num, HX1⟩
          case measure => simp [intOf]; omega
      · obtain rfl : n = x := by omega
        have HF : Hid (frs o = n) := Lib.hid (frs_eq o n HX.out (by have := HOK.out.1; omega) (.inl HOK.out.1.symm))
        have hq1 : ((n : Int) == (n : Int)) = true := by simp
        have HRP : Hid (RwsP n o) := Lib.hid (RwsOk.full HOK.out HX.out)
        cases hic : isCyc n o with
        | true =>
          have HG : Hid (trnG n ps 0 o = [o]) := Lib.hid (by unfold trnG; rw [hic]; rfl)
          have HIC := Lib.hid hic
          clear hic
          go_wp2_with fail
          refine (l05IsP_any n _ _ o _ hr.tbl (by omega) hn HRP.out).mono ?_
          rintro e w3 ⟨rfl, hb3⟩
          rw [HIC.out]
          have ht3 := ht.below hb3
          have hr3 := hr.below hb3
          have hz3 := hb3.size
          go_wp2_with (at_builtin; refine appTT rfl rfl ht3 rfl hr3 HAR.out rfl (by have := HK.out; omega) (show lo ≤ w3.heap.size by omega) ?_; intro g' cc w8 hO hg8 hat8 hb8)
          go_ret
          rw [HG.out]
          exact (GrTT.one ht3 hg8 hat8 hO fun q hq => hq).from hb3
        | false =>
          have HG : Hid (trnG n ps 0 o = []) := Lib.hid (by unfold trnG; rw [hic]; rfl)
          have HIC := Lib.hid hic
          clear hic
          go_wp2_with fail
          refine (l05IsP_any n _ _ o _ hr.tbl (by omega) hn HRP.out).mono ?_
          rintro e w3 ⟨rfl, hb3⟩
          rw [HIC.out]
          go_wp2
          go_ret
          rw [HG.out, List.append_nil]
          exact ⟨a, k, c, us, rfl, ht.below hb3, Marked.ofB hb3, fun g hg => .inl hg⟩
  | succ m ih =>
    intro o pa pc pvs ra rc rvs a k c us ts w hp hr hok hem ht hap har hlo hk
    have IH := Lib.hid ih
    have HAP := Lib.hid hap; have HAR := Lib.hid har; have HOK := Lib.hid hok; have HEM := Lib.hid hem; have HK := Lib.hid hk; have HPS := Lib.hid hps
    have hlo2 := hlo
    clear ih hap har hok hem hk
    go_enter Try.func60, Try.ntmps60
    go_wp2
    go_loop [7] (fun i => ∃ x : Nat, x ≤ n ∧ i = .int .i64 x ∧ Hid (∀ i, i < x → o.getD i [] ≠ [])) (fun i => n - (intOf i).toNat)
    case atStart => exact ⟨0, Nat.zero_le _, rfl, Lib.hid fun i hi => absurd hi (by omega)⟩
    case round =>
      obtain ⟨x, hx, rfl, HX⟩ := hrel
      by_cases hlt : x < n
      · obtain ⟨b, off, ax, nx, cx, rfl, g1, r1, l1⟩ := hr.tbl.at x hlt
        rcases HOK.out.2 x hlt with he | hpx
        · obtain rfl : 0 = nx := by have := r1.len; rw [he] at this; simpa using this.symm
          have HF : Hid (frs o = x) := Lib.hid (frs_eq o x HX.out (by have := HOK.out.1; omega) (.inr he))
          have hq1 : ((x : Int) == (n : Int)) = false := by simp; omega
          have hem1 := empC_pos (by have := HOK.out.1; omega) he
          have hset := fun p (hp : IsP n p) => empC_set (o := o) (z := x) (r := p) (by have := HOK.out.1; omega) he (IsP.ne hn0 hp)
          have HST := Lib.hid hset
          have HE : Hid (trnP n ps m o P = trnG n ps (m + 1) o) := Lib.hid (by
            unfold trnG trnP
            rw [if_neg (by rw [HF.out]; have := HOK.out.1; omega), hp.tbl.len, List.take_length])
          have HPL := Lib.hid hp.tbl.len
          have HRS := Lib.hid (fun j (h : j < ps.length) => trnP_succ n ps m o h)
          have HRB := Lib.hid (trnP_le n ps (by have := hp.tbl.len; omega) m o)
          have HN : Hid (∀ j, j < P → k + j * P ^ m + P ^ m ≤ 1000000000) := Lib.hid fun j hj => by
            have h1 : (j + 1) * P ^ m ≤ P * P ^ m := Nat.mul_le_mul_right _ hj
            rw [Nat.add_mul, Nat.one_mul] at h1
            have h2 := HK.out
            rw [Nat.pow_succ, Nat.mul_comm] at h2
            omega
          have HKL := Lib.hid ht.len
          clear he hset hem1
          go_wp2
          go_loopw [2, 8, 9] (fun s2 i _ wr => ∃ (j : Nat) (a' : Option Addr) (k' c' : Nat) (us' : List TV), j ≤ P ∧ i = .int .i64 j ∧ s2 = .slice a' k' c' ∧ OwnTT wr lo a' k' c' us' (ts ++ trnP n ps m o j) ∧ Marked (TTS a k us) w wr ∧ Hid (∀ g, TTS a' k' us' g → TTS a k us g ∨ w.heap.size ≤ g)) (fun _ i _ _ => P - (intOf i).toNat)
          case atStart => exact ⟨0, a, k, c, us, Nat.zero_le _, rfl, rfl, by simpa [trnP] using ht, Marked.refl _ _, Lib.hid fun g h => .inl h⟩
          case round =>
            obtain ⟨j, a', k', c', us', hj, rfl, rfl, ht', hM, HSUB⟩ := hrel
            by_cases hjP : j < P
            · have hp' := hp.uKeep hM HAP.out
              have hr' := hr.uKeep hM HAR.out
              have hwr := hM.size
              have hk' : k' + P ^ m ≤ 1000000000 := by
                have h1 := ht'.len
                rw [List.length_append] at h1
                have h3 := HRB.out j (by have := HPL.out; omega)
                have h2 := HN.out j hjP
                have h5 := HKL.out
                have h4 : ps.length ^ m = P ^ m := by rw [← HPL.out]
                rw [h4] at h3
                omega
              have hlen : ∀ r ∈ o, r.length ≤ 1000000 := fun r hr => by
                obtain ⟨i, hi, rfl⟩ := List.getElem_of_mem hr
                have := HOK.out.2 i (by have := HOK.out.1; omega)
                rw [List.getD_eq_getElem?_getD, List.getElem?_eq_getElem hi] at this
                rcases this with h | h
                · simp at h; rw [h]; simp
                · have := h.len; simp at this; omega
              have HT := HRS.out j (by have := HPL.out; omega)
              rw [HF.out] at HT
              have HTT := Lib.hid HT
              clear HT
              go_wp2_with fail
              refine (l01Own2_any _ n _ o _ hr'.tbl (by omega) hlen).mono ?_
              rintro e w3 ⟨a3, c3, vs3, rfl, ho3, hb3⟩
              obtain ⟨g3, rfl, hg3, hcell3, hfree3⟩ := ho3.cells hn0
              have hgl3 := ho3.low g3 rfl
              have c3x := hcell3 x hlt
              have f3x := hfree3 x
              obtain ⟨bp, op, ap, np, cp, rfl, gp, rp, lp⟩ := (hp'.below hb3).tbl.at j hjP
              have hpp := HPS.out j hjP
              obtain rfl : n = np := by have := rp.len; rw [hpp.len] at this; exact this.symm
              obtain ⟨p, HPP⟩ : ∃ p, Hid (ps.getD j [] = p) := ⟨_, rfl⟩
              rw [HPP.out] at rp hpp HTT
              clear hcell3 hfree3
              go_wp2_with fail
              refine (l01Own_any _ n cp p _ rp (by omega)).mono ?_
              rintro e w4 ⟨a4, c4, rfl, ho4, hb4⟩
              have c4x := (hb4.cell (p := ⟨g3, x, none⟩) hg3).trans c3x
              have f4x := (hb4.frozen (p := ⟨g3, x, none⟩) hg3).trans f3x
              have hPut := (ho3.below hb4).put x hlt (v := (a4, n, c4)) (ho4.mono hb3.size) (fun e => by have := ho4.lo g3 e; omega) (fun i hi _ g' h1 h2 => by have := ho4.lo g' h1; have := ho3.uHi g' (.inr ⟨i, hi, h2⟩); omega)
              have hok2 := HOK.out.set x (.inr hpp)
              have hb34 := hb3.trans (hb4.mono hb3.size)
              have hb5 := below_setne (a := ⟨g3, x, none⟩) hb34 (by show wr.heap.size ≤ g3; exact hgl3) (.slice a4 n c4)
              have hz34 := hb34.size
              have hs2 := HST.out p hpp
              have hs3 := HEM.out
              cases hhf : hfL n (o.set x p) with
              | true =>
                have HHF := Lib.hid hhf
                rw [hhf, if_pos rfl] at HTT
                clear hhf
                go_wp2_with fail
                refine (l19Half_any n _ _ (o.set x p) _ hPut.tbl hn0 hn hok2).mono ?_
                rintro e w6 ⟨rfl, hb6⟩
                rw [HHF.out]
                have hb56 : Below wr.heap.size wr w6 := hb5.trans (hb6.mono (by rw [size_set]; exact hz34))
                have hz6 := hb56.size
                have hz7 : wr.heap.size ≤ (w4.setCell ⟨g3, x, none⟩ (.slice a4 n c4)).heap.size := by rw [size_set]; exact hz34
                have ho6 := hPut.below hb6
                go_wp2_with fail
                refine (IH.out (o.set x p) _ pc pvs _ c3 _ a' k' c' us' _ w6 (hp'.below hb56) (ho6.mono (by omega)) hok2 (by omega) (ht'.below hb56) (fun g h1 h2 => ?_) (fun g h1 h2 => by have := ho6.uLo g h1; have := ht'.uHi g h2; omega) (by omega) hk').mono ?_
                · rcases HSUB.out g h2 with h3 | h3
                  · exact HAP.out g h1 h3
                  · have := hp.uHi g h1; omega
                rintro e w9 ⟨a9, k9, c9, us9, rfl, ht9, hM9, hsub9⟩
                go_wp2
                go_roundw
                case rel =>
                  refine ⟨j + 1, a9, k9, c9, us9, by omega, by go_num, rfl, by rw [HTT.out, ← List.append_assoc]; exact ht9, (hM.then (Marked.ofB (S := fun _ => False) hb56) (fun _ h => h.elim)).then hM9 HSUB.out, Lib.hid fun g hg => ?_⟩
                  rcases hsub9 g hg with h | h | h
                  · exact HSUB.out g h
                  · exact .inr (by have := ho6.uLo g h; omega)
                  · exact .inr (by omega)
                case measure => simp [intOf]; omega
              | false =>
                have HHF := Lib.hid hhf
                rw [hhf] at HTT
                have HTN : Hid (trnP n ps m o (j + 1) = trnP n ps m o j) := Lib.hid (by rw [HTT.out]; simp)
                clear hhf
                go_wp2_with fail
                refine (l19Half_any n _ _ (o.set x p) _ hPut.tbl hn0 hn hok2).mono ?_
                rintro e w6 ⟨rfl, hb6⟩
                rw [HHF.out]
                have hb56 : Below wr.heap.size wr w6 := hb5.trans (hb6.mono (by rw [size_set]; exact hz34))
                go_wp2
                go_roundw
                case rel => exact ⟨j + 1, a', k', c', us', by omega, by go_num, rfl, by rw [HTN.out]; exact ht'.below hb56, hM.then (Marked.ofB (S := fun _ => False) hb56) (fun _ h => h.elim), HSUB⟩
                case measure => simp [intOf]; omega
            · obtain rfl : P = j := by omega
              go_wp2
              go_ret
              exact ⟨a', k', c', us', rfl, by rw [← HE.out]; exact ht', hM, fun g hg => (HSUB.out g hg).elim .inl (fun h => .inr (.inr h))⟩
        · obtain rfl : n = nx := by have := r1.len; rw [hpx.len] at this; exact this.symm
          have HX1 : Hid (∀ i, i < x + 1 → o.getD i [] ≠ []) := Lib.hid fun i hi => by
            by_cases e : i = x
            · subst e; exact IsP.ne hn0 hpx
            · exact HX.out i (by omega)
          clear hpx
          go_wp2
          go_round
          case rel => exact ⟨x + 1, by omega, by go_num, HX1⟩
          case measure => simp [intOf]; omega
      · obtain rfl : n = x := by omega
        have HF : Hid (frs o = n) := Lib.hid (frs_eq o n HX.out (by have := HOK.out.1; omega) (.inl HOK.out.1.symm))
        have hq1 : ((n : Int) == (n : Int)) = true := by simp
        have HRP : Hid (RwsP n o) := Lib.hid (RwsOk.full HOK.out HX.out)
        cases hic : isCyc n o with
        | true =>
          have HG : Hid (trnG n ps (m + 1) o = [o]) := Lib.hid (by unfold trnG; rw [HF.out, if_pos HOK.out.1.symm, hic]; rfl)
          have HIC := Lib.hid hic
          clear hic
          go_wp2_with fail
          refine (l05IsP_any n _ _ o _ hr.tbl (by omega) hn HRP.out).mono ?_
          rintro e w3 ⟨rfl, hb3⟩
          rw [HIC.out]
          have ht3 := ht.below hb3
          have hr3 := hr.below hb3
          have hz3 := hb3.size
          go_wp2_with (at_builtin; refine appTT rfl rfl ht3 rfl hr3 HAR.out rfl (by have := HK.out; omega) (show lo ≤ w3.heap.size by omega) ?_; intro g' cc w8 hO hg8 hat8 hb8)
          go_ret
          rw [HG.out]
          exact (GrTT.one ht3 hg8 hat8 hO fun q hq => hq).from hb3
        | false =>
          have HG : Hid (trnG n ps (m + 1) o = []) := Lib.hid (by unfold trnG; rw [HF.out, if_pos HOK.out.1.symm, hic]; rfl)
          have HIC := Lib.hid hic
          clear hic
          go_wp2_with fail
          refine (l05IsP_any n _ _ o _ hr.tbl (by omega) hn HRP.out).mono ?_
          rintro e w3 ⟨rfl, hb3⟩
          rw [HIC.out]
          go_wp2
          go_ret
          rw [HG.out, List.append_nil]
          exact ⟨a, k, c, us, rfl, ht.below hb3, Marked.ofB hb3, fun g hg => .inl hg⟩

end Go.Proofs.Ythgafpeblpnolaa
