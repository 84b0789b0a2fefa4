/-
  What tableBy computes, at any function value that writes nothing that is there.
  No condition but bounds on lengths.
-/
import Derived.Test.YtehomfbehhlhmaaTabO
import Derived.Test.YtehomfbehhlhmaaEnt
import Derived.Deep.RegionHeld3
namespace Go.Proofs.Ytehomfbehhlhmaa
set_option maxRecDepth 100000
set_option linter.unusedVariables false
set_option linter.unusedSimpArgs false
open Go.RowKit

/-- the table of n elements with the values v -/
def tabF (n : Nat) (v : Nat → Nat → Int) : List (List Int) := (List.range n).map fun x => (List.range n).map fun y => v x y
theorem tabF_len (n : Nat) (v : Nat → Nat → Int) : (tabF n v).length = n := by simp [tabF]
theorem tabF_get (n : Nat) (v : Nat → Nat → Int) (x : Nat) (h : x < n) : (tabF n v).getD x [] = (List.range n).map fun y => v x y := by
  simp [tabF, List.getD_eq_getElem?_getD, List.getElem?_map, h]
/-- k rows, then k' numbers of the next -/
def tabP (n : Nat) (v : Nat → Nat → Int) (k : Nat) (r : List (List Int)) : List (List Int) := (tabF n v).take k ++ r
theorem rowP_step (n : Nat) (f : Nat → Int) (j : Nat) (h : j < n) : (((List.range n).map f).take j ++ List.replicate (n - j) 0).set j (f j) = ((List.range n).map f).take (j + 1) ++ List.replicate (n - (j + 1)) 0 := by
  have hx : j < ((List.range n).map f).length := by simpa using h
  have e : (((List.range n).map f).take j).length = j := by rw [List.length_take]; omega
  rw [List.set_append_right _ _ (by omega), e, Nat.sub_self, List.take_succ_eq_append_getElem hx, List.append_assoc]
  congr 1
  obtain ⟨m, hm⟩ : ∃ m, n - j = m + 1 := ⟨n - j - 1, by omega⟩
  have hm' : n - (j + 1) = m := by omega
  rw [hm, hm', List.replicate_succ]
  simp
theorem tabP_get (n : Nat) (v : Nat → Nat → Int) (k : Nat) (hk : k < n) (y : List Int) (r : List (List Int)) : ((tabF n v).take k ++ y :: r).getD k [] = y := by
  have e : ((tabF n v).take k).length = k := by rw [List.length_take, tabF_len]; omega
  rw [List.getD_eq_getElem?_getD, List.getElem?_append_right (by omega), e, Nat.sub_self]; rfl
theorem tabP_set (n : Nat) (v : Nat → Nat → Int) (k : Nat) (hk : k < n) (y z : List Int) (r : List (List Int)) : ((tabF n v).take k ++ y :: r).set k z = (tabF n v).take k ++ z :: r := by
  have e : ((tabF n v).take k).length = k := by rw [List.length_take, tabF_len]; omega
  rw [List.set_append_right _ _ (by omega), e, Nat.sub_self]; rfl
theorem tabP_next (n : Nat) (v : Nat → Nat → Int) (k : Nat) (hk : k < n) (r : List (List Int)) : (tabF n v).take k ++ ((List.range n).map fun y => v k y) :: r = (tabF n v).take (k + 1) ++ r := by
  have hx : k < (tabF n v).length := by rw [tabF_len]; exact hk
  have hg := tabF_get n v k hk
  rw [Tbl.getD hx] at hg
  rw [List.take_succ_eq_append_getElem hx, hg, List.append_assoc]; rfl
theorem rep_cons (n k : Nat) (hk : k < n) : List.replicate (n - k) ([] : List Int) = [] :: List.replicate (n - (k + 1)) [] := by
  have : n - k = (n - (k + 1)) + 1 := by omega
  rw [this, List.replicate_succ]

set_option maxHeartbeats 2000000 in
theorem tableBy_any (f : FuncId) (caps : Array Value) (v : Nat → Nat → Int) (n : Nat) (w : World) (hn : n ≤ 1000000) (hcf : Ent f)
    (hf : ∀ x y, x < n → y < n → ∀ w1, Below w.heap.size w w1 → Calls Try.prog f (#[.int .i64 x, .int .i64 y] ++ caps) w1 fun e w' => e = .returned (.int .i64 (v x y)) ∧ Below w1.heap.size w1 w') :
    Calls Try.prog 96 #[.int .i64 n, .func (.func f) #[] caps] w fun e w' => ∃ a c vs, e = .returned (.slice a n c) ∧ OwnT w' w.heap.size a n c vs (tabF n v) ∧ Below w.heap.size w w' := by
  have hcf' : ∀ (args : Array Value) (w : World), (callFunc f args).run Try.prog w = .ok (.enter f args) w := hcf
  have HF := Lib.hid hf; clear hf
  go_enter Try.func96, Try.ntmps96
  go_wp2_with (at_make; refine makeT rfl rfl rfl rfl (by omega) ?_; intro w1 ho hs hb)
  go_loopw [12] (fun i wr => ∃ (k : Nat) (vs : List SV), k ≤ n ∧ i = .int .i64 k ∧ OwnT wr w.heap.size (some ⟨w.heap.size, 0, none⟩) n n vs ((tabF n v).take k ++ List.replicate (n - k) []) ∧ Below w.heap.size w wr) (fun i _ => n - (intOf i).toNat)
  case atStart => exact ⟨0, _, Nat.zero_le _, rfl, by simpa using ho, hb⟩
  case round =>
    clear ho hb
    obtain ⟨k, vs, hk, rfl, ho, hb⟩ := hrel
    by_cases hlt : k < n
    · have hszw : w.heap.size < wr.heap.size := ho.high _ rfl
      go_wp2_with (at_make; refine make1 rfl rfl rfl rfl (by omega) ?_; intro w2 ho2 hs2 hb2; have hot := ho.below hb2; obtain ⟨g', hg', hgl', hc', hf'⟩ := hot.cells (by omega); cases hg'; have hc1 := hc' k hlt; have hf1 := hf' k; clear hc' hf')
      have hp := hot.put k hlt (v := (some ⟨wr.heap.size, 0, none⟩, n, n)) (ho2.mono (Nat.le_of_lt hszw)) (fun e => by have h1 := ho.high _ rfl; simp only [Option.some.injEq, Addr.mk.injEq] at e; omega) (fun j hj _ g1 h1 h2 => by have h3 := ho2.lo _ h1; have h4 := (ho.row j hj).hi _ h2; omega)
      rw [rep_cons n k hlt, tabP_set n v k hlt] at hp
      have hb3 : Below w.heap.size w (w2.setCell ⟨w.heap.size, k, none⟩ (.slice (some ⟨wr.heap.size, 0, none⟩) n n)) := (hb.trans (hb2.mono (Nat.le_of_lt hszw))).setCell (Nat.le_refl _) _
      generalize hW3 : w2.setCell ⟨w.heap.size, k, none⟩ (.slice (some ⟨wr.heap.size, 0, none⟩) n n) = w3 at hp hb3 ⊢
      clear hW3 hc1 hf1 hot ho2 hb2 hs2
      obtain ⟨g', hg', hgl', hc', hf'⟩ := hp.cells (by omega)
      cases hg'
      have hc1 := hc' k hlt
      have hvs : (vs.set k (some ⟨wr.heap.size, 0, none⟩, n, n)).getD k svO = (some ⟨wr.heap.size, 0, none⟩, n, n) := by
        rw [getD_set' _ _ _ _ _ (by have := ho.vlen; omega), if_pos rfl]
      rw [hvs] at hc1
      have HVS := Lib.hid hvs
      clear hc' hf' hvs ho hb
      generalize hV : vs.set k (some ⟨wr.heap.size, 0, none⟩, n, n) = vs' at hp HVS
      clear hV
      go_wp2
      have hszw3 : wr.heap.size < w3.heap.size := by
        have := (hp.row k hlt).hi wr.heap.size (by rw [HVS.out])
        exact this
      generalize wr.heap.size = rb at *
      go_loopw [25] (fun i w4 => ∃ j : Nat, j ≤ n ∧ i = .int .i64 j ∧ OwnT w4 w.heap.size (some ⟨w.heap.size, 0, none⟩) n n vs' ((tabF n v).take k ++ (((List.range n).map fun y => v k y).take j ++ List.replicate (n - j) 0) :: List.replicate (n - (k + 1)) []) ∧ Below w.heap.size w w4) (fun i _ => n - (intOf i).toNat)
      case atStart => exact ⟨0, Nat.zero_le _, rfl, by simpa using hp, hb3⟩
      case round =>
        clear hp hb3 hc1 hszw3
        obtain ⟨j, hj, rfl, ho, hb⟩ := hrel
        obtain ⟨g', hg', hgl', hc', hf'⟩ := ho.cells (by omega)
        cases hg'
        have hc1 := hc' k hlt
        rw [HVS.out] at hc1
        clear hc' hf'
        have hne5 : (⟨w.heap.size, k, none⟩ : Addr).block ≠ (⟨rb, j, none⟩ : Addr).block := by show w.heap.size ≠ rb; omega
        by_cases hjt : j < n
        · go_wp2
          go_region_held3 (fun w' => w'.cell? ⟨w.heap.size, k, none⟩ = some (.slice (some ⟨rb, 0, none⟩) n n))
            (first | exact hc5 | exact cell_setne hc5 hne5 _ | exact hc1 | go_keep)
            (first
            | (refine (HF.out k j hlt hjt _ (below_drewN hb 1)).mono ?_; rintro e w5 ⟨rfl, hb5⟩; have ho5 := (ho.drewN 1).below hb5; have hB5 := below_th (below_drewN hb 1) hb5; have hc5 := (ho5.cells (by omega)).elim (fun g' h => by obtain ⟨h1, h2, h3, h4⟩ := h; have h5 := h3 k hlt; rw [HVS.out] at h5; cases h1; exact h5); have hr5 := ho5.row k hlt; rw [HVS.out, tabP_get n v k hlt] at hr5; have hcr := hr5.cells.2.1 j hjt; have hfr := hr5.cells.2.2 j; clear hr5))
          all_goals
            go_wp2
            go_roundw
            case rel =>
              refine ⟨j + 1, by omega, by go_num, ?_, hB5.setCell (by show _ ≤ rb; omega) _⟩
              have hq := ho5.setrow k hlt (g := rb) (by rw [HVS.out]) j (v k j)
              rw [tabP_get n v k hlt, tabP_set n v k hlt, rowP_step n (fun y => v k y) j hjt] at hq
              exact hq
            case measure => simp [intOf]; omega
        · obtain rfl : j = n := by omega
          go_wp2
          go_roundw
          case rel =>
            refine ⟨k + 1, vs', by omega, by go_num, ?_, hb⟩
            rw [List.take_of_length_le (l := (List.range j).map fun y => v k y) (by simp), Nat.sub_self, List.replicate_zero, List.append_nil, tabP_next _ v k hlt] at ho
            exact ho
          case measure => simp [intOf]; omega
    · obtain rfl : k = n := by omega
      go_wp2
      go_ret
      have e1 : (tabF k v).take k ++ List.replicate (k - k) [] = tabF k v := by
        rw [List.take_of_length_le (by rw [tabF_len]; omega), Nat.sub_self, List.replicate_zero, List.append_nil]
      rw [e1] at ho
      exact ⟨_, _, _, rfl, ho, hb⟩

end Go.Proofs.Ytehomfbehhlhmaa
