/-
  CountRackTables: what the reference's computes.
  No condition but bounds.
-/
import Derived.Test.YtehomfbehhlhmaaRckS
import Derived.Test.YtehomfbehhlhmaaBase
namespace Go.Proofs.Ytehomfbehhlhmaa
set_option maxRecDepth 100000
set_option linter.unusedVariables false
set_option linter.unusedSimpArgs false
open Go.RowKit

def isPb (n : Nat) (p : List Int) : Bool := decide (p.length = n) && (List.range n).all fun i => decide (0 ≤ p.getD i 0) && decide ((p.getD i 0).toNat < n) && decide (((backF p).getD i 0).toNat < n) && decide ((p.getD ((backF p).getD i 0).toNat 0).toNat = i) && decide (((backF p).getD (p.getD i 0).toNat 0).toNat = i)
theorem isPb_ok {n : Nat} {p : List Int} (h : isPb n p = true) : IsP n p := by
  simp only [isPb, Bool.and_eq_true, decide_eq_true_eq, List.all_eq_true, List.mem_range] at h
  refine ⟨fun i => (p.getD i 0).toNat, fun i => ((backF p).getD i 0).toNat, h.1, fun i hi => ?_, fun i hi => ?_⟩
  · have := h.2 i hi
    exact ⟨this.1.1.1.2, this.1.1.2, this.1.2, this.2⟩
  · have := h.2 i hi
    have h0 := this.1.1.1.1
    show p.getD i 0 = (((p.getD i 0).toNat : Nat) : Int)
    omega
theorem prm_finP : ∀ n : Fin 5, 1 ≤ n.1 → (prmL n.1).all (isPb n.1) = true := by decide +kernel
theorem prm_isP {n : Nat} (h1 : 1 ≤ n) (h4 : n ≤ 4) : ∀ i, i < (prmL n).length → IsP n ((prmL n).getD i []) := fun i hi => by
  have := List.all_eq_true.1 (prm_finP ⟨n, by omega⟩ h1) _ (List.getElem_mem hi)
  rw [List.getD_eq_getElem?_getD, List.getElem?_eq_getElem hi]
  exact isPb_ok this
theorem prm_bd {n : Nat} (h1 : 1 ≤ n) (h4 : n ≤ 4) : (prmL n).length ≤ 24 ∧ 0 < (prmL n).length := by
  have := prm_fin ⟨n, by omega⟩ h1
  exact ⟨this.1, this.2.1⟩

/-- append of one row, where the literal's place is spelled otherwise -/
theorem appT1h {ops : Array Oper} {rest : List Oper} {o : Oper} {a : Act} {Q : Exit → Act → World → Prop} {w : World} (hgd : o.guard = none) {s x : Operand}
    (ho : o.op = .call { callee := .builtin .append, args := #[s, x], argTypes := #[43, 43] }) {lo : Nat} {ad : Option Addr} {n c : Nat} {vs : List SV} {xss : List (List Int)} (hown : OwnT w lo ad n c vs xss) (hs : a.eval s = .slice ad n c)
    {va : Option Addr} {vn vc : Nat} {ys : List Int} {t : TypeId} (hv : Own w lo va vn vc ys) (h1 : Apart ad va) (h2 : ∀ j, j < n → Apart va (vs.getD j svO).1) {H : Nat} (hx : a.eval x = .slice (some ⟨H, 0, none⟩) 1 1) (hH : w.heap.size = H) (hlen : n + 1 ≤ 1000000000000) (hlo : lo ≤ w.heap.size)
    (h : ∀ g c' w', OwnT w' lo (some ⟨g, 0, none⟩) (n + 1) c' (vs ++ [(va, vn, vc)]) (xss ++ [ys]) → w.grownBy w' (Value.slice ad n c).ownBlock → ((Value.slice ad n c).ownBlock = some g ∨ w.heap.size ≤ g) → Below lo w w' → wpList Try.prog ops Q rest (a.put o.dst (.slice (some ⟨g, 0, none⟩) (n + 1) c')) w') :
    wpList Try.prog ops Q (o :: rest) a (w.alloc (.cells #[.slice va vn vc] t)) := by
  subst hH
  exact appT1g hgd ho hown hs hv h1 h2 hx hlen hlo h

set_option maxHeartbeats 4000000 in
theorem l19Racks_any (n : Nat) (w : World) (h1 : 1 ≤ n) (h4 : n ≤ 4) :
    Calls Try.prog 88 #[.int .i64 n] w fun e w' => ∃ a k c us, e = .returned (.slice a k c) ∧ OwnTT w' w.heap.size a k c us (rckN n) ∧ Below w.heap.size w w' := by
  obtain ⟨hb1, hb2⟩ := prm_bd h1 h4
  have HPP := Lib.hid (prm_isP h1 h4)
  go_enter Try.func88, Try.ntmps88
  go_wp2
  go_loopw [3, 4] (fun s i wr => ∃ (k : Nat) (a : Option Addr) (c : Nat) (vs : List SV), k ≤ n ∧ i = .int .i64 k ∧ s = .slice a k c ∧ OwnT wr w.heap.size a k c vs (List.replicate k []) ∧ Below w.heap.size w wr) (fun _ i _ => n - (intOf i).toNat)
  case atStart => exact ⟨0, _, _, [], Nat.zero_le _, rfl, rfl, OwnT.fresh w rfl, below_al (Below.refl _ _) _⟩
  case round =>
    obtain ⟨k, a, c, vs, hk, rfl, rfl, ho, hq⟩ := hrel
    have hwq := hq.size
    by_cases hlt : k < n
    · have hO0 : Own (wr.alloc (.cells #[] 2)) w.heap.size (some ⟨wr.heap.size, 0, none⟩) 0 0 [] := (Own.fresh wr rfl).mono hwq
      have hT0 := ho.alloc (.cells #[] 2)
      have ha1 : Apart a (some ⟨wr.heap.size, 0, none⟩) := fun g h e => by have := ho.high g h; cases e; omega
      have ha2 : ∀ j, j < k → Apart (some ⟨wr.heap.size, 0, none⟩) (vs.getD j svO).1 := fun j hj g h e => by have := ho.uHi g (.inr ⟨j, hj, e⟩); cases h; omega
      go_wp2_with (at_builtin; refine appT1h rfl rfl hT0 rfl hO0 ha1 ha2 rfl (size_alloc _ _) (by omega) (by simp; omega) ?_; intro g' cc w8 hO hg8 hat8 hb8)
      go_roundw
      case rel => exact ⟨k + 1, _, cc, _, by omega, by go_num, rfl, by rw [List.replicate_succ']; exact hO, (below_al hq _).trans hb8⟩
      case measure => simp [intOf]; omega
    · obtain rfl : n = k := by omega
      go_wp2_with fail
      refine (l01Perms_any n _ (by omega)).mono ?_
      rintro e w2 ⟨pa, P, pc, pvs, rfl, hp, hb2'⟩
      have hB2 := below_th hq hb2'
      have hz2 := hb2'.size
      have HPL := Lib.hid hp.tbl.len
      have hP0 : 0 < P := by have := HPL.out; omega
      have hP24 : P ≤ 24 := by have := HPL.out; omega
      have HPI : Hid (∀ i, i < P → IsP n ((prmL n).getD i [])) := Lib.hid fun i hi => HPP.out i (by have := HPL.out; omega)
      have hpw : P ^ n ≤ 1000000 := by
        have e1 : P ^ n ≤ 24 ^ n := Nat.pow_le_pow_left hP24 n
        have e2 : (24 : Nat) ^ n ≤ 24 ^ 4 := Nat.pow_le_pow_right (by omega) h4
        have e3 : (24 : Nat) ^ 4 ≤ 1000000 := by decide
        omega
      have HPW : Hid (0 + P ^ n ≤ 1000000000) := Lib.hid (by omega)
      clear hpw hb1 hb2
      go_wp2_with fail
      refine (l19Grow_any n w.heap.size P (prmL n) (by omega) (by omega) hP0 (by omega) HPI.out n (List.replicate n []) pa pc pvs a c vs none 0 0 [] [] w2 (hp.mono hwq) (ho.below hb2') (repl_ok n) (by rw [repl_emp]; exact Nat.le_refl _) (OwnTT.nil _ _) (fun g _ h => TTS.nil h) (fun g _ h => TTS.nil h) (by omega) HPW.out).mono ?_
      rintro e w3 ⟨a3, k3, c3, us3, rfl, ht3, hM3, hsub3⟩
      go_wp2
      go_ret
      exact ⟨a3, k3, c3, us3, rfl, ht3, hB2.trans (Marked.lowb hM3 (fun g hg => absurd hg TTS.nil) (by omega))⟩

/-- what CountRackTables answers -/
def crkF (x : Int) : Int × Int := if 1 ≤ x ∧ x ≤ 4 then (((rckN x.toNat).length : Int), 0) else (0, 2)
set_option maxHeartbeats 4000000 in
theorem spec_Crk_l (x : Int) (w : World) (hx : I64 x) :
    Calls Try.prog 28 #[.int .i64 x] w (RetI w (crkF x).1 (crkF x).2) := by
  have hin := fun w => l01In_any x 1 4 w
  by_cases h : 1 ≤ x ∧ x ≤ 4
  · obtain ⟨n, rfl⟩ : ∃ n : Nat, x = n := ⟨x.toNat, by omega⟩
    obtain ⟨K, HK⟩ : ∃ K : Nat, Hid ((rckN n).length = K) := ⟨_, rfl⟩
    have hq : crkF n = ((K : Int), 0) := by unfold crkF; rw [if_pos h, Int.toNat_natCast, HK.out]
    rw [hq]
    clear hq
    have hd : (decide ((1 : Int) ≤ n) && decide ((n : Int) ≤ 4)) = true := by simp; omega
    rw [hd] at hin
    have HIN := Lib.hid hin
    clear hin hd
    have h1 : 1 ≤ n := by omega
    have h4 : n ≤ 4 := by omega
    clear h
    go_enter Try.func28, Try.ntmps28
    go_wp2_with fail
    refine (HIN.out _).mono ?_
    rintro e w1 ⟨rfl, rfl⟩
    go_wp2_with fail
    refine (l19Racks_any n _ h1 h4).mono ?_
    rintro e w2 ⟨a, k, c, us, rfl, ht, hb⟩
    obtain rfl : K = k := by rw [← HK.out]; exact ht.len.symm
    go_wp2
    go_ret2
    exact ⟨rfl, hb⟩
  · have hq : crkF x = (0, 2) := by unfold crkF; rw [if_neg h]
    rw [hq]
    clear hq
    have hd : (decide ((1 : Int) ≤ x) && decide (x ≤ 4)) = false := by simp; omega
    rw [hd] at hin
    have HIN := Lib.hid hin
    clear hin hd
    go_enter Try.func28, Try.ntmps28
    go_wp2_with fail
    refine (HIN.out _).mono ?_
    rintro e w1 ⟨rfl, rfl⟩
    go_wp2
    go_ret2
    exact ⟨rfl, Below.refl _ _⟩
end Go.Proofs.Ytehomfbehhlhmaa
