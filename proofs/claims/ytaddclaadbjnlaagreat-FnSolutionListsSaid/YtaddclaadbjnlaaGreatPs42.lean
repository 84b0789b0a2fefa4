/-
  Walks and plain laws of this seat, some texts in one.
  No condition but bounds on lengths.
-/
import Derived.Test.YtaddclaadbjnlaaGreatPs36
import Derived.Test.YtaddclaadbjnlaaGreatPs35
import Derived.Test.YtaddclaadbjnlaaGreatPs12
import Derived.Test.YtaddclaadbjnlaaGreatPs13
import Derived.Test.YtaddclaadbjnlaaGreatPs30
import Derived.Test.YtaddclaadbjnlaaGreatPs32
import Derived.Test.YtaddclaadbjnlaaGreatPs41
import Derived.Test.YtaddclaadbjnlaaGreatPs37
namespace Go.Proofs.YtaddclaadbjnlaaGreat
set_option maxRecDepth 100000
set_option linter.unusedVariables false
set_option linter.unusedSimpArgs false
open Go.RowKit
theorem all1_any (n k : Nat) (a : Option Addr) (c : Nat) (w : World) :
    Calls Tryz.prog 113 #[.int .i64 n, .slice a k c] w fun e w' => e = .returned (.bool true) ∧ Below w.heap.size w w' := by
  go_enter Tryz.func113, Tryz.ntmps113
  go_wp2
  go_ret
  exact ⟨rfl, Below.refl _ _⟩
theorem all_fit (N : Nat) : FitH 113 #[] (fun _ => true) N :=
  ⟨enters_of Tryz.func113 (by kernel_rfl) rfl, fun w a k c rows h hk hp => all1_any N k a c w⟩
set_option maxHeartbeats 16000000 in
theorem solutionTables_any (n : Nat) (w : World) (h1 : 1 ≤ n) (h3 : n ≤ 3) :
    Calls Tryz.prog 65 #[.int .i64 n] w fun e w' => ∃ a k c us, e = .returned (.slice a k c) ∧ OwnSo w' w.heap.size a k c us (solL n) ∧ Below w.heap.size w w' := by
  have hal := allT_len ⟨n, by omega⟩ h1
  simp only at hal
  have hrw : ∀ i, i < (rowL n (fun _ => true)).length → RwsP n ((rowL n (fun _ => true)).getD i []) := fun i hi => rowL_rwsP h1 (by omega) hi
  have hrl := rowL_any h1
  obtain ⟨L, HL⟩ : ∃ L, Hid (rowL n (fun _ => true) = L) := ⟨_, rfl⟩
  rw [HL.out] at hrw hrl
  rw [← hrl] at hal
  have HSL : Hid (solL n = solK n L L.length 0) := Lib.hid (by rw [solK_all]; unfold solL; rw [← hrl])
  rw [HSL.out]
  have HRP := Lib.hid hrw
  have HLB := Lib.hid (show L.length ≤ 216 by omega)
  have HY := Lib.hid (fun i j hj => solK_yes (n := n) (L := L) (i := i) (j := j) hj)
  have HNO := Lib.hid (fun i j hj => solK_no (n := n) (L := L) (i := i) (j := j) hj)
  have HNX := Lib.hid (fun i hi => solK_next (n := n) (L := L) (i := i) hi)
  have HKL := Lib.hid (fun i j => Nat.le_trans (solK_len n L i j) (show L.length * L.length + L.length ≤ 1000000 by
    have := Nat.mul_le_mul (show L.length ≤ 216 by omega) (show L.length ≤ 216 by omega); omega))
  have hf := all_fit n
  clear hal hrw hrl
  go_enter Tryz.func65, Tryz.ntmps65
  go_wp2_with fail
  refine (rowTables_any n _ _ (fun _ => true) w h1 (by omega) hf).mono ?_
  rintro e w1 ⟨a1, K, c1, us, rfl, ht1, hb1⟩
  rw [HL.out] at ht1
  have HKK := Lib.hid ht1.len
  have hK6 : K ≤ 216 := by have := HLB.out; have := HKK.out; omega
  go_wp2
  go_loopw [4, 6, 8, 9, 14] (fun s4 _ _ _ i wr => ∃ (j : Nat) (a' : Option Addr) (m c' : Nat) (us' : List PV), j ≤ K ∧ i = .int .i64 j ∧ s4 = .slice a' m c' ∧ OwnSo wr w1.heap.size a' m c' us' (solK n L j 0) ∧ Below w1.heap.size w1 wr) (fun _ _ _ _ i _ => K - (intOf i).toNat)
  case atStart => exact ⟨0, none, 0, 0, [], Nat.zero_le _, rfl, rfl, by rw [solK_zero]; exact OwnSo.nil _ _, Below.refl _ _⟩
  case round =>
    obtain ⟨j, a', m, c', us', hj, rfl, rfl, hO, hq⟩ := hrel
    obtain ⟨W, rfl⟩ : ∃ W : World, W = wr := ⟨_, rfl⟩
    by_cases hlt : j < K
    · have i1 : (0 : Int) ≤ (j : Int) := by omega
      have i2 : (j : Int) < (K : Int) := by omega
      obtain ⟨b1, o1, af, nf, cf, rfl, g1, tf, lf⟩ := ht1.tbS.at j hlt
      replace g1 := (hq.cell (p := ⟨b1, o1 + j, none⟩) (by
        obtain ⟨gg, eg, hg1, _⟩ := ht1.cells (by omega)
        cases eg; exact hg1)).trans g1
      have hrp := HRP.out j (by have := HKK.out; omega)
      obtain ⟨f, HF⟩ : ∃ f, Hid (L.getD j [] = f) := ⟨_, rfl⟩
      rw [HF.out] at tf hrp
      obtain rfl : n = nf := by have := tf.len; rw [hrp.1] at this; exact this.symm
      have HSQ := Lib.hid hrp.sq
      clear hrp
      go_wp2_with fail
      refine (rowTables_any n _ _ (fun _ => true) W h1 (by omega) hf).mono ?_
      rintro e w2 ⟨a2, K2, c2, us2, rfl, ht2, hb2⟩
      rw [HL.out] at ht2
      obtain rfl : K = K2 := by have := ht2.len; have := HKK.out; omega
      have hz0 := hq.size
      have hz2 := hb2.size
      have hO2 := hO.below hb2
      have hq2 := below_th hq hb2
      have hHI := Lib.hid hO.uHi
      go_wp2
      go_loopw [4, 8, 9, 22] (fun s4 _ _ i wr2 => ∃ (k : Nat) (a'' : Option Addr) (m' c'' : Nat) (us'' : List PV), k ≤ K ∧ i = .int .i64 k ∧ s4 = .slice a'' m' c'' ∧ OwnSo wr2 w1.heap.size a'' m' c'' us'' (solK n L j k) ∧ Below w1.heap.size w1 wr2 ∧ Marked (fun g => g < W.heap.size) w2 wr2 ∧ Hid (∀ g, a'' = some ⟨g, 0, none⟩ → g < W.heap.size ∨ w2.heap.size ≤ g)) (fun _ _ _ i _ => K - (intOf i).toNat)
      case atStart => exact ⟨0, a', m, c', us', Nat.zero_le _, rfl, rfl, hO2, hq2, Marked.refl _ _, Lib.hid fun g hg => .inl (hHI.out g (.inl hg))⟩
      case round =>
        clear hO2 hO
        obtain ⟨k, a'', m', c'', us'', hk, rfl, rfl, hO, hqk, hM, HAP⟩ := hrel
        by_cases hlk : k < K
        · have j1 : (0 : Int) ≤ (k : Int) := by omega
          have j2 : (k : Int) < (K : Int) := by omega
          have t2 := (ht2.marked hM (fun g hg => by have := ht2.uLo g hg; omega)).tbS
          obtain ⟨b2, o2, ar, nr, cr, rfl, g2, tr, lr⟩ := t2.at k hlk
          have hrp := HRP.out k (by have := HKK.out; omega)
          obtain ⟨V, rfl⟩ : ∃ V : World, V = wr := ⟨_, rfl⟩
          have tf2 : Tbl V af n f := tf.below hqk
          obtain ⟨r, HR⟩ : ∃ r, Hid (L.getD k [] = r) := ⟨_, rfl⟩
          rw [HR.out] at tr hrp
          obtain rfl : n = nr := by have := tr.len; rw [hrp.1] at this; exact this.symm
          have HSR := Lib.hid hrp.sq
          have HT := Lib.hid (trnL_sq hrp.sq)
          have HYK : Hid (solF n f r = true → solK n L j (k + 1) = solK n L j k ++ [(f, trnL n r)]) := Lib.hid (by rw [← HF.out, ← HR.out]; exact HY.out j k (by have := HKK.out; omega))
          have HNK : Hid (solF n f r = false → solK n L j (k + 1) = solK n L j k) := Lib.hid (by rw [← HF.out, ← HR.out]; exact HNO.out j k (by have := HKK.out; omega))
          have HSF : Hid (solF n f r = (eqOk n f (trnL n r) && collOk n f (trnL n r))) := Lib.hid rfl
          clear hrp
          go_wp2_with fail
          refine (transposed_any n ar cr r V tr HSR.out (by omega)).mono ?_
          rintro e w3 ⟨a3, c3, vs3, rfl, ho3, hb3⟩
          go_wp2_with fail
          obtain ⟨w4, hw4⟩ : ∃ w4, w3.alloc (.cells #[.slice af n cf, .slice a3 n c3] 53) = w4 := ⟨_, rfl⟩
          have hS4 : Loc w4 w3.heap.size #[.slice af n cf, .slice a3 n c3] 53 := by rw [← hw4]; exact Loc.new w3 rfl _ _
          have hb4 : Below V.heap.size V w4 := by rw [← hw4]; exact below_al hb3 _
          have tf4 := tf2.below hb4
          have ho4 : OwnT w4 V.heap.size a3 n c3 vs3 (trnL n r) := by rw [← hw4]; exact ho3.alloc _
          have HHI4 := Lib.hid ho4.uHi
          have HLO4 := Lib.hid ho4.uLo
          have HUV := Lib.hid hO.uHi
          have HRW : Hid (∀ i, i < n → (f.getD i []).length ≤ 1000000) := Lib.hid fun i hi => by rw [HSQ.out.row hi]; omega
          have lS4 := hS4.two
          have hqz := hqk.size
          have hz4 := hb4.size
          have hMz := hM.size
          rw [hw4]
          refine (equationFault_any af n cf a3 c3 f (trnL n r) w4 tf4 ho4.tbl h1 (by omega) HSQ.out HT.out).mono ?_
          rintro e w5 ⟨h5, hb5⟩
          have hS5 := hS4.below hb5 hS4.lt
          have lS5 := hS5.two
          have hV5 := below_th hb4 hb5
          have hno : ∀ w', Below V.heap.size V w' → solF n f r = false → ∃ (k_1 : Nat) (a_1 : Option Addr) (m_1 c_1 : Nat) (us_1 : List PV), k_1 ≤ K ∧ Value.int .i64 ((k + 1 : Nat) : Int) = .int .i64 k_1 ∧ Value.slice a'' m' c'' = .slice a_1 m_1 c_1 ∧ OwnSo w' w1.heap.size a_1 m_1 c_1 us_1 (solK n L j k_1) ∧ Below w1.heap.size w1 w' ∧ Marked (fun g => g < W.heap.size) w2 w' ∧ Hid (∀ g, a_1 = some ⟨g, 0, none⟩ → g < W.heap.size ∨ w2.heap.size ≤ g) := fun w' hb hs =>
            ⟨k + 1, a'', m', c'', us'', by omega, rfl, rfl, by rw [HNK.out hs]; exact hO.below hb, below_th hqk hb, hM.then (Marked.ofB (S := fun _ => False) hb) (fun g hg => hg.elim), HAP⟩
          have HNN := Lib.hid hno
          clear hno
          have nn := fun (w : World) (a : Option Addr) (n c : Nat) => Lib.run_eql_slice_nil (P := Tryz.prog) w 41 2 a n c 0 0 und_ints
          rcases h5 with ⟨he, rfl⟩ | ⟨he, b, nb, cc, rfl⟩
          · have HE := Lib.hid he
            clear he
            go_wp2_with fail
            refine (collisionOf_any af n cf a3 c3 f (trnL n r) w5 (tf4.below hb5) (ho4.below hb5).tbl h1 (by omega) HSQ.out HT.out).mono ?_
            rintro e w6 ⟨h6, hb6⟩
            have hS6 := hS5.below hb6 hS5.lt
            have lS6 := hS6.two
            have hV6 := below_th hV5 hb6
            rcases h6 with ⟨hc, rfl⟩ | ⟨hc, b, nb, cc, rfl⟩
            · have HSY : Hid (solF n f r = true) := Lib.hid (by rw [HSF.out, HE.out, hc]; rfl)
              have hO6 := hO.below hV6
              have ho6 := (ho4.below hb5).below hb6
              have tf6 := (tf4.below hb5).below hb6
              have hz5 := hb5.size
              have hz6 := hb6.size
              have hm6 : m' ≤ 1000000 := by have := hO.len; have := HKL.out j k; omega
              clear hc
              go_wp2
              go_region_law (first
                | (refine step_appSon rfl rfl hO7 rfl hOS HQ7.out rfl ?_ ?_ ?_; (omega); (omega); intro g' cc w8 hO8 hg8 hat8 hb8)
                | (go_simp; go_at_call 90; refine (cloneTable_any af n cf f _ (tf6.drewN 1) (by omega) HRW.out).mono ?_; rintro e w7 ⟨a7, c7, vs7, rfl, ho7, hb7⟩; have hq7 : Below w6.heap.size w6 w7 := below_th (below_drewN (Below.refl _ _) 1) hb7; have hz7 := hq7.size; have lS7 := (hS6.below hq7 hS6.lt).two; have hO7 := hO6.below hq7; have hOS : OwnS w7 w1.heap.size a7 n c7 vs7 f a3 n c3 vs3 (trnL n r) := ⟨ho7.mono (by show w1.heap.size ≤ w6.heap.size; omega), (ho6.below hq7).mono hqz, fun q h1 h2 => by have x1 : w6.heap.size ≤ q := ho7.uLo q h1; have := HHI4.out q h2; omega⟩; have HQ7 : Hid (∀ q, SolS a7 n vs7 a3 n vs3 q → ¬ SSS a'' m' us'' q) := Lib.hid (fun q h1 h2 => by have x2 := HUV.out q h2; exact h1.elim (fun h1 => by have x1 : w6.heap.size ≤ q := ho7.uLo q h1; omega) (fun h1 => by have x1 := HLO4.out q h1; omega))))
              all_goals
                go_wp2
                go_roundw
                case rel =>
                  have hoB : ∀ q, (Value.slice a'' m' c'').ownBlock = some q → a'' = some ⟨q, 0, none⟩ := fun q hq => hO7.ownBlk hq
                  have hV7 : Below V.heap.size V w7 := below_th hV6 hq7
                  have hM7 : Marked (fun g => g < W.heap.size) w2 w7 := hM.then (Marked.ofB (S := fun _ => False) hV7) (fun g hg => hg.elim)
                  have hM8 : Marked (fun g => a'' = some ⟨g, 0, none⟩) w7 w8 := ⟨hg8.os, hg8.tape, hg8.output, hg8.size, fun q hq hs => hg8.block q hq (fun e => hs (hoB q e.symm))⟩
                  refine ⟨k + 1, _, m' + 1, cc, _, by omega, by go_num, rfl, by rw [HYK.out HSY.out]; exact hO8, (below_th hqk hV7).trans hb8, hM7.then hM8 (fun g hg => HAP.out g hg), Lib.hid fun q hq => ?_⟩
                  cases hq
                  rcases hat8 with h2 | h2
                  · exact HAP.out _ (hoB _ h2)
                  · have := hM7.size; omega
                case measure => simp [intOf]; omega
            · have HSN : Hid (solF n f r = false) := Lib.hid (by rw [HSF.out, hc, Bool.and_false])
              clear hc
              go_wp2
              go_roundw
              case rel => exact HNN.out _ hV6 HSN.out
              case measure => simp [intOf]; omega
          · have HSN : Hid (solF n f r = false) := Lib.hid (by rw [HSF.out, he, Bool.false_and])
            clear he
            go_wp2
            go_roundw
            case rel => exact HNN.out _ hV5 HSN.out
            case measure => simp [intOf]; omega
        · obtain rfl : K = k := by omega
          go_wp2
          go_roundw
          case rel => exact ⟨j + 1, a'', m', c'', us'', by omega, by go_num, rfl, by rw [← HNX.out j (by have := HKK.out; omega), ← HKK.out]; exact hO, hqk⟩
          case measure => simp [intOf]; omega
    · obtain rfl : K = j := by omega
      go_wp2
      go_ret
      exact ⟨a', m, c', us', rfl, by rw [HKK.out] at hO; exact hO.mono hb1.size, hb1.trans (hq.mono hb1.size)⟩
theorem brd_reads (n : Nat) (f r : List (List Int)) (hf : Sq n f) (hr : Sq n r) {x y z : Nat} (hx : x < n) (hy : y < n) (hz : z < n) :
    ∃ a b c d u1 u2 u3 v2 v3 v4 w1 w3 : Nat, (a < n ∧ b < n ∧ c < n ∧ d < n ∧ u2 < n ∧ v3 < n) ∧ (tv f x y = a ∧ tv r y x = b ∧ tv f y z = c ∧ tv r z y = d ∧ tv f x c = u1 ∧ tv f b z = u2) ∧
      (tv f a u2 = u3 ∧ tv r z b = v2 ∧ tv r c x = v3 ∧ tv r d v3 = v4 ∧ tv f v3 d = w1 ∧ tv r u2 a = w3) ∧
      eqAt f (trnL n r) x y z = ((decide (u3 = u1) && decide (w3 = w1)) && decide (v2 = v4)) := by
  have h1 := hf.lt hx hy
  have h2 := hr.lt hy hx
  have h3 := hf.lt hy hz
  have h4 := hr.lt hz hy
  have h5 := hf.lt h2 hz
  have h6 := hr.lt h3 hx
  refine ⟨_, _, _, _, _, _, _, _, _, _, _, _, ⟨h1, h2, h3, h4, h5, h6⟩, ⟨rfl, rfl, rfl, rfl, rfl, rfl⟩, ⟨rfl, rfl, rfl, rfl, rfl, rfl⟩, ?_⟩
  unfold eqAt
  dsimp only
  rw [trnL_tv hx hy, trnL_tv h2 hz, trnL_tv hy hz, trnL_tv h1 h5, trnL_tv hx h3, trnL_tv h6 h4]
set_option maxHeartbeats 16000000 in
theorem l19Braids_any (n : Nat) (a1 a2 : Option Addr) (c1 c2 : Nat) (f r : List (List Int)) (w : World) (h1 : Tbl w a1 n f) (h2 : Tbl w a2 n r) (hf : Sq n f) (hr : Sq n r) (hn1 : 1 ≤ n) (hn : n ≤ 12) :
    Calls Tryz.prog 145 #[.slice a1 n c1, .slice a2 n c2] w fun e w' => e = .returned (.bool (solF n f r)) ∧ Below w.heap.size w w' := by
  have hE : Hid (isSol f (trnL n r) = (collOk n f (trnL n r) && eqOk n f (trnL n r))) := Lib.hid (by
    have e1 := sq_isTab hf hn1 (by omega)
    have e2 := sq_isTab (trnL_sq hr) hn1 (by omega)
    unfold isSol isPm
    rw [e1, e2, hf.1, (trnL_sq hr).1]; simp)
  have HFN : Hid (eqOk n f (trnL n r) = false → solF n f r = false) := Lib.hid fun h => by unfold solF; rw [h]; rfl
  have HFY : Hid (eqOk n f (trnL n r) = true → isSol f (trnL n r) = solF n f r) := Lib.hid fun h => by rw [hE.out]; unfold solF; rw [h, Bool.and_comm]
  have HR := Lib.hid hr
  have t1 := h1; have t2 := h2
  obtain ⟨bf, of, A, O, C, rfl, Gf⟩ := h1.grid hf hn1
  obtain ⟨bg, og, A', O', C', rfl, Gg⟩ := h2.grid hr hn1
  clear h1 h2
  go_enter Tryz.func145, Tryz.ntmps145
  go_wp2
  go_loopw [6, 7, 8, 9, 10, 11, 12] (fun i _ _ _ _ _ _ wr => ∃ k : Nat, k ≤ n ∧ i = .int .i64 k ∧ Hid (allN k (fun x => allN n fun y => allN n fun z => eqAt f (trnL n r) x y z) = true) ∧ ∃ m, wr = w.drewN m) (fun i _ _ _ _ _ _ _ => n - (intOf i).toNat)
  case atStart => exact ⟨0, Nat.zero_le _, rfl, Lib.hid rfl, 0, rfl⟩
  case round =>
    obtain ⟨x, hx, rfl, hx1, m1, rfl⟩ := hrel
    by_cases hlt : x < n
    · go_wp2
      go_loopw [7, 8, 9, 10, 11, 12] (fun i _ _ _ _ _ wr => ∃ k : Nat, k ≤ n ∧ i = .int .i64 k ∧ Hid (allN k (fun y => allN n fun z => eqAt f (trnL n r) x y z) = true) ∧ ∃ m, wr = w.drewN m) (fun i _ _ _ _ _ _ => n - (intOf i).toNat)
      case atStart => exact ⟨0, Nat.zero_le _, rfl, Lib.hid rfl, m1, rfl⟩
      case round =>
        obtain ⟨y, hy, rfl, hy1, m2, rfl⟩ := hrel
        by_cases hlty : y < n
        · obtain ⟨av, ha⟩ : ∃ av, tv f x y = av := ⟨_, rfl⟩
          obtain ⟨bv, hbv⟩ : ∃ bv, tv r y x = bv := ⟨_, rfl⟩
          obtain ⟨r1, k1⟩ := Gf.look hlt hlty
          obtain ⟨r2, k2⟩ := Gg.look hlty hlt
          rw [ha] at k1
          rw [hbv] at k2
          have HAB := Lib.hid (And.intro ha hbv)
          have i1 : (0 : Int) ≤ (x : Int) := by omega
          have i2 : (x : Int) < (n : Int) := by omega
          have i3 : (0 : Int) ≤ (y : Int) := by omega
          have i4 : (y : Int) < (n : Int) := by omega
          clear ha hbv
          go_wp2
          go_quiet (fail)
          go_wp2
          go_loopw [10, 11, 12] (fun i _ _ wr => ∃ k : Nat, k ≤ n ∧ i = .int .i64 k ∧ Hid (allN k (fun z => eqAt f (trnL n r) x y z) = true) ∧ ∃ m, wr = w.drewN m) (fun i _ _ _ => n - (intOf i).toNat)
          case atStart => exact ⟨0, Nat.zero_le _, rfl, Lib.hid rfl, m2 + nq, by rw [World.drewN_drewN]⟩
          case round =>
            obtain ⟨z, hz, rfl, hz1, m3, rfl⟩ := hrel
            by_cases hltz : z < n
            · obtain ⟨a, b, c, d, u1, u2, u3, v2, v3, v4, w1, w3, ⟨l1, l2, l3, l4, l5, l6⟩, ⟨q1, q2, q3, q4, q5, q6⟩, ⟨q7, q8, q9, q10, q11, q12⟩, hE3⟩ := brd_reads n f r hf HR.out hlt hlty hltz
              obtain rfl : av = a := by rw [← q1]; exact HAB.out.1.symm
              obtain rfl : bv = b := by rw [← q2]; exact HAB.out.2.symm
              obtain ⟨r3, k3⟩ := Gf.look hlty hltz
              obtain ⟨r4, k4⟩ := Gg.look hltz hlty
              obtain ⟨r5, k5⟩ := Gf.look hlt l3
              obtain ⟨r6, k6⟩ := Gf.look l2 hltz
              obtain ⟨r7, k7⟩ := Gf.look l1 l5
              obtain ⟨r8, k8⟩ := Gg.look hltz l2
              obtain ⟨r9, k9⟩ := Gg.look l3 hlt
              obtain ⟨r10, k10⟩ := Gg.look l4 l6
              obtain ⟨r11, k11⟩ := Gf.look l6 l4
              obtain ⟨r12, k12⟩ := Gg.look l5 l1
              rw [q3] at k3; rw [q4] at k4; rw [q5] at k5; rw [q6] at k6; rw [q7] at k7; rw [q8] at k8; rw [q9] at k9; rw [q10] at k10; rw [q11] at k11; rw [q12] at k12
              have HE := Lib.hid hE3
              have j1 : (0 : Int) ≤ (z : Int) := by omega
              have j2 : (z : Int) < (n : Int) := by omega
              have j3 : (0 : Int) ≤ (av : Int) := by omega
              have j4 : (av : Int) < (n : Int) := by omega
              have j5 : (0 : Int) ≤ (bv : Int) := by omega
              have j6 : (bv : Int) < (n : Int) := by omega
              have j7 : (0 : Int) ≤ (c : Int) := by omega
              have j8 : (c : Int) < (n : Int) := by omega
              have j9 : (0 : Int) ≤ (d : Int) := by omega
              have j10 : (d : Int) < (n : Int) := by omega
              have j11 : (0 : Int) ≤ (u2 : Int) := by omega
              have j12 : (u2 : Int) < (n : Int) := by omega
              have j13 : (0 : Int) ≤ (v3 : Int) := by omega
              have j14 : (v3 : Int) < (n : Int) := by omega
              clear q1 q2 q3 q4 q5 q6 q7 q8 q9 q10 q11 q12 hE3 l1 l2 l3 l4 l5 l6
              by_cases p1 : u3 = u1
              · by_cases p2 : v2 = v4
                · by_cases p3 : w3 = w1
                  · have o1 : ((u1 : Int) != (u3 : Int)) = false := by simp [p1]
                    have o2 : ((v2 : Int) != (v4 : Int)) = false := by simp [p2]
                    have o3 : ((w1 : Int) != (w3 : Int)) = false := by simp [p3]
                    have HE2 : Hid (eqAt f (trnL n r) x y z = true) := Lib.hid (by rw [HE.out]; simp [p1, p2, p3])
                    clear p1 p2 p3
                    go_wp2
                    go_quiet (fail)
                    go_wp2
                    simp only [List.append_eq, List.cons_append, List.nil_append]
                    go_big_quiet (fail)
                    go_wp2
                    go_roundw
                    case rel => exact ⟨z + 1, by omega, by go_num, Lib.hid (allN_succ hz1.out HE2.out), _, rfl⟩
                    case measure => simp [intOf]; omega
                  · have o1 : ((u1 : Int) != (u3 : Int)) = false := by simp [p1]
                    have o2 : ((v2 : Int) != (v4 : Int)) = false := by simp [p2]
                    have o3 : ((w1 : Int) != (w3 : Int)) = true := by simp; omega
                    have HE2 : Hid (eqAt f (trnL n r) x y z = false) := Lib.hid (by rw [HE.out]; simp [p3])
                    clear p1 p2 p3
                    go_wp2
                    go_quiet (fail)
                    go_wp2
                    simp only [List.append_eq, List.cons_append, List.nil_append]
                    go_big_quiet (fail)
                    go_wp2
                    go_ret
                    exact ⟨ret_bool (HFN.out (allN_no hlt (allN_no hlty (allN_no hltz HE2.out)))).symm, below_drewN (below_drewN (below_drewN (Below.refl _ _) _) _) _⟩
                · have o1 : ((u1 : Int) != (u3 : Int)) = false := by simp [p1]
                  have o2 : ((v2 : Int) != (v4 : Int)) = true := by simp; omega
                  have HE2 : Hid (eqAt f (trnL n r) x y z = false) := Lib.hid (by rw [HE.out]; simp [p2])
                  clear p1 p2
                  go_wp2
                  go_quiet (fail)
                  go_wp2
                  simp only [List.append_eq, List.cons_append, List.nil_append]
                  go_big_quiet (fail)
                  go_wp2
                  go_ret
                  exact ⟨ret_bool (HFN.out (allN_no hlt (allN_no hlty (allN_no hltz HE2.out)))).symm, below_drewN (below_drewN (below_drewN (Below.refl _ _) _) _) _⟩
              · have o1 : ((u1 : Int) != (u3 : Int)) = true := by simp; omega
                have HE2 : Hid (eqAt f (trnL n r) x y z = false) := Lib.hid (by rw [HE.out]; simp [p1])
                clear p1
                go_wp2
                go_quiet (fail)
                go_wp2
                simp only [List.append_eq, List.cons_append, List.nil_append]
                go_big_quiet (fail)
                go_wp2
                go_ret
                exact ⟨ret_bool (HFN.out (allN_no hlt (allN_no hlty (allN_no hltz HE2.out)))).symm, below_drewN (below_drewN (below_drewN (Below.refl _ _) _) _) _⟩
            · obtain rfl : z = n := by omega
              go_wp2
              go_roundw
              case rel => exact ⟨y + 1, by omega, by go_num, Lib.hid (allN_succ hy1.out hz1.out), _, rfl⟩
              case measure => simp [intOf]; omega
        · obtain rfl : y = n := by omega
          go_wp2
          go_roundw
          case rel => exact ⟨x + 1, by omega, by go_num, Lib.hid (allN_succ hx1.out hy1.out), _, rfl⟩
          case measure => simp [intOf]; omega
    · obtain rfl : x = n := by omega
      have HEO : Hid (isSol f (trnL x r) = solF x f r) := Lib.hid (HFY.out hx1.out)
      go_wp2_with fail
      refine (l01Turn_any x _ _ r _ (t2.drewN _) HR.out hn1 hn).mono ?_
      rintro e w3 ⟨a3, c3, vs3, rfl, ho3, hb3⟩
      have hb0 : Below w.heap.size w w3 := below_th (below_drewN (Below.refl _ _) _) hb3
      go_wp2_with fail
      refine (l02Is_any _ _ _ _ _ _ f (trnL x r) _ ((t1.below hb0).alloc _) (ho3.tbl.alloc _) (by omega) (by omega)).mono ?_
      rintro e w4 ⟨rfl, hb4⟩
      go_wp2
      go_ret
      exact ⟨ret_bool HEO.out, below_alth hb0 hb4⟩
end Go.Proofs.YtaddclaadbjnlaaGreat
