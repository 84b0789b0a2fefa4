/-
  The reference's normal form of a braid.
  No condition but bounds.
-/
import Derived.Test.YtdkpalllfekiiaaGreatGrS
import Derived.Test.YtdkpalllfekiiaaGreatNfI
import Derived.Test.YtdkpalllfekiiaaGreatBase
import Derived.Deep.RegionHeld3
import Derived.Deep.DeepCutAuto
namespace Go.Proofs.YtdkpalllfekiiaaGreat
set_option maxRecDepth 100000
set_option linter.unusedVariables false
set_option linter.unusedSimpArgs false
open Go.RowKit

/-- a list of permutations, and the half twist beside it -/
structure FacT (n : Nat) (w : World) (lo : Nat) (a : Option Addr) (m c : Nat) (vs : List SV) (Y : List Pm) (at_ : Option Addr) (ct : Nat) : Prop where
  f : Fac n w lo a m c vs Y
  t : Own w 0 at_ n ct (toL n (Pm.tw n))
  ap : ∀ g, a = some ⟨g, 0, none⟩ → at_ ≠ some ⟨g, 0, none⟩
section
variable {n : Nat} {w w' : World} {lo : Nat} {a : Option Addr} {m c : Nat} {vs : List SV} {Y : List Pm} {at_ : Option Addr} {ct : Nat} {v : SV} {p : Pm}
theorem FacT.below (h : FacT n w lo a m c vs Y at_ ct) (hb : Below w.heap.size w w') : FacT n w' lo a m c vs Y at_ ct := ⟨h.f.below hb, h.t.below hb, h.ap⟩
theorem FacT.snoc {g cap : Nat} (h : FacT n w lo a m c vs Y at_ ct) (hv : FRow n w v p) (hne : ∀ q, a = some ⟨q, 0, none⟩ → v.1 ≠ some ⟨q, 0, none⟩)
    (ho : Hd w' lo (some ⟨g, 0, none⟩) (m + 1) cap (vs ++ [v])) (hg : w.grownBy w' (Value.slice a m c).ownBlock) (hat : (Value.slice a m c).ownBlock = some g ∨ w.heap.size ≤ g) : FacT n w' lo (some ⟨g, 0, none⟩) (m + 1) cap (vs ++ [v]) (Y ++ [p]) at_ ct := by
  have hob : ∀ q, (Value.slice a m c).ownBlock = some q → a = some ⟨q, 0, none⟩ := fun q hq => by
    rcases h.f.hd.block with ⟨h1, h2, h3⟩ | ⟨g', cur, h1, _⟩
    · rw [h1] at hq; cases hq
    · rw [h1] at hq; simp [Value.ownBlock] at hq; subst hq; exact h1
  refine ⟨h.f.snoc hv hne ho hg hat, h.t.grown hg (fun b hb e => h.ap b (hob b e.symm) hb), fun b hb e => ?_⟩
  cases hb
  rcases hat with hat | hat
  · exact h.ap _ (hob _ hat) e
  · have := h.t.hi _ e; omega
theorem FacT.set {g i : Nat} (h : FacT n w lo (some ⟨g, 0, none⟩) m c vs Y at_ ct) (hi : i < m) (hv : FRow n w v p) (hne : v.1 ≠ some ⟨g, 0, none⟩) : FacT n (w.setCell ⟨g, i, none⟩ (sl v)) lo (some ⟨g, 0, none⟩) m c (vs.set i v) (Y.set i p) at_ ct :=
  ⟨h.f.set hi hv hne, h.t.keep fun b hb hlt => Below.heap_setCell _ _ _ _ (fun e => h.ap g rfl (by rw [hb, e])), h.ap⟩
end

set_option maxHeartbeats 16000000 in
theorem l16Normal_any (n : Nat) (a : Option Addr) (N c : Nat) (xs : List Int) (w : World) (h1 : Row w a N xs) (hb : isBr n xs = true) :
    Calls Tryz.prog 32 #[bAgg n a N c] w (NfR n xs w) := by
  obtain ⟨h26, h30, hlet⟩ := isBr_let hb
  have hn2 : 2 ≤ n := by omega
  have hn6 : n ≤ 6 := by omega
  have hN30 : N ≤ 30 := by have := h1.len; omega
  have HLT : Hid (∀ x ∈ xs, Ltr n x) := Lib.hid fun x hx => ltr_of rfl (hlet x hx)
  have HLB : Hid (∀ x ∈ xs, -1000 ≤ x ∧ x ≤ 1000) := Lib.hid fun x hx => by have := hlet x hx; omega
  have HL := Lib.hid h1.len
  have HTW := Lib.hid (toL_mem (tw_fx n))
  clear hlet hb
  obtain ⟨w0, hw0⟩ : ∃ w0, w.alloc (.cells #[.int .i64 n, .slice a N c] 26) = w0 := ⟨_, rfl⟩
  have hA : Loc w0 w.heap.size #[.int .i64 n, .slice a N c] 26 := by rw [← hw0]; exact Loc.new w rfl _ _
  have hB0 : Below w.heap.size w w0 := by rw [← hw0]; exact below_al (Below.refl _ _) _
  have lA := hA.two
  have r0 := h1.below hB0
  obtain ⟨w1, hw1⟩ : ∃ w1, w0.alloc (.cells #[] 24) = w1 := ⟨_, rfl⟩
  have hF1 : Fac n w1 w0.heap.size (some ⟨w0.heap.size, 0, none⟩) 0 0 [] [] := by rw [← hw1]; exact Fac.fresh n w0 rfl
  have hb1 : Below w0.heap.size w0 w1 := by rw [← hw1]; exact below_al (Below.refl _ _) _
  have hz1 : w1.heap.size = w0.heap.size + 1 := by rw [← hw1]; simp
  go_enter Tryz.func32, Tryz.ntmps32
  go_wp2_with fail
  refine (l16Turned_any n _ (by omega) hn6).mono ?_
  rintro e w2 ⟨at_, ct, rfl, htw, hb2⟩
  have hF2 : FacT n w2 w0.heap.size (some ⟨w0.heap.size, 0, none⟩) 0 0 [] [] at_ ct := ⟨hF1.below hb2, htw.mono (Nat.zero_le _), fun g e h => by cases e; have := htw.lo _ h; omega⟩
  have hq2 := below_th hb1 hb2
  have hA2 := hA.below hq2 hA.lt
  have lA2 := hA2.two
  clear hw0 hw1 lA hF1 hb1 hb2 htw
  go_wp2
  go_loopw [5, 6, 8, 9, 10] (fun s5 s6 i _ _ wr => ∃ (k : Nat) (ax : Option Addr) (m cx : Nat) (vs : List SV) (L : List Pm) (e : Int), k ≤ N ∧ i = .int .i64 k ∧ s5 = .int .i64 e ∧ s6 = .slice ax m cx ∧ FacT n wr w0.heap.size ax m cx vs L at_ ct ∧ Hid ((e, L) = begS n (0, []) (xs.take k)) ∧ Below w0.heap.size w0 wr ∧ m ≤ k ∧ -(k : Int) ≤ e ∧ e ≤ 0 ∧ Hid (∃ g, ax = some ⟨g, 0, none⟩)) (fun _ _ i _ _ _ => N - (intOf i).toNat)
  case atStart => exact ⟨0, _, 0, 0, [], [], 0, Nat.zero_le _, rfl, rfl, rfl, hF2, Lib.hid rfl, hq2, by omega, by omega, by omega, Lib.hid ⟨_, rfl⟩⟩
  case round =>
    clear hF2 hq2 hA2 lA2
    obtain ⟨k, ax, m, cx, vs, L, e, hk, rfl, rfl, rfl, hF, HS, hq, hmk, he1, he2, HAX⟩ := hrel
    obtain ⟨W, rfl⟩ : ∃ W : World, W = wr := ⟨_, rfl⟩
    have hAW := hA.below hq hA.lt
    have lAW := hAW.two
    by_cases hlt : k < N
    · have hx : k < xs.length := by have := HL.out; omega
      obtain ⟨b, off, rfl, g1⟩ := (r0.below hq).at k hlt
      rw [getD_at hx] at g1
      have hle := HLT.out xs[k] (List.getElem_mem hx)
      have hlb := HLB.out xs[k] (List.getElem_mem hx)
      have hbs := beg_succ (n := n) (s := (0, [])) hx
      rw [← HS.out] at hbs
      obtain ⟨X, HX⟩ : ∃ X : Int, Hid (xs[k] = X) := ⟨xs[k], Lib.hid rfl⟩
      rw [HX.out] at g1 hle hlb hbs
      have HBS := Lib.hid hbs
      have HPL := Lib.hid (plc_nat hle)
      have hkn := hle.2
      have hb1 := hlb.1
      have hb2 := hlb.2
      have i1 : (0 : Int) ≤ (k : Int) := by omega
      have i2 : (k : Int) < (N : Int) := by omega
      have HFS := Lib.hid (Fx.s hkn)
      clear hle hlb hbs
      go_wp2_with fail
      refine (l16Place_any X _ hb1 hb2).mono ?_
      rintro e2 w2 ⟨rfl, hw2⟩
      obtain rfl : W = w2 := hw2.symm
      rw [HPL.out]
      obtain ⟨d, hdd⟩ : ∃ d, plN X = d := ⟨_, rfl⟩
      have HD := Lib.hid hdd
      rw [hdd] at hkn ⊢
      clear hdd
      have hz0 := hq.size
      have HHI := Lib.hid hF.f.hd.hi
      by_cases hpos : 0 < X
      · have HAP : Hid ((e, L ++ [Pm.s d]) = begS n (0, []) (xs.take (k + 1))) := Lib.hid (by rw [HBS.out, act_pos hpos, HD.out])
        go_wp2_with fail
        refine (l16Step_any n d _ hn6 hkn).mono ?_
        rintro e2 w2 ⟨a2, c2, rfl, ho2, hb2'⟩
        have hF2 := hF.below hb2'
        have hq2 := below_th hq hb2'
        have hz2 := hb2'.size
        have hne : ∀ q, ax = some ⟨q, 0, none⟩ → a2 ≠ some ⟨q, 0, none⟩ := fun q h1 h2 => by have := HHI.out q h1; have := ho2.lo q h2; omega
        have hrow : FRow n w2 (a2, n, c2) (Pm.s d) := ⟨ho2.mono (Nat.zero_le _), rfl, by rw [← HD.out]; exact HFS.out⟩
        go_wp2_with (at_builtin; refine appH1 rfl rfl hF2.f.hd rfl rfl (by omega) (by omega) ?_; intro g' cc w5 hH5 hg5 hat5 hb5)
        go_roundw
        case rel => exact ⟨k + 1, _, m + 1, cc, _, L ++ [Pm.s d], e, by omega, by go_num, rfl, rfl, hF2.snoc hrow hne hH5 hg5 hat5, HAP, hq2.trans hb5, by omega, by omega, he2, Lib.hid ⟨_, rfl⟩⟩
        case measure => simp [intOf]; omega
      · have HAP : Hid ((e - 1, L.map (tauP n) ++ [(Pm.tw n).m (Pm.s d)]) = begS n (0, []) (xs.take (k + 1))) := Lib.hid (by rw [HBS.out, act_neg hpos, HD.out])
        have hwe : IntKind.i64.wrap (e - 1) = e - 1 := IntWalk.i64_in _ (by omega)
        have HTL := Lib.hid hF.f.len
        go_wp2
        go_loopw [10] (fun i wr2 => ∃ (i' : Nat) (vs' : List SV), i' ≤ m ∧ i = .int .i64 i' ∧ FacT n wr2 w0.heap.size ax m cx vs' (turnK n L i') at_ ct ∧ Below w0.heap.size w0 wr2) (fun i _ => m - (intOf i).toNat)
        case atStart => exact ⟨0, vs, Nat.zero_le _, rfl, by simpa [turnK] using hF, hq⟩
        case round =>
          obtain ⟨i, vs', hi, rfl, hFi, hqi⟩ := hrel
          obtain ⟨V, rfl⟩ : ∃ V : World, V = wr := ⟨_, rfl⟩
          by_cases hli : i < m
          · obtain ⟨g, rfl, hgl, gc, gf⟩ := hFi.f.cell hli
            have hri := hFi.f.row i hli
            have hiL : i < L.length := by have := HTL.out; omega
            rw [turnK_get hiL] at hri
            obtain ⟨⟨va, vn, vc⟩, HV⟩ : ∃ v, Hid (vs'.getD i svO = v) := ⟨_, rfl⟩
            rw [HV.out] at gc hri
            obtain rfl : n = vn := hri.len.symm
            change V.cell? _ = some (.slice va n vc) at gc
            obtain ⟨P, HP⟩ : ∃ P, Hid (L.getD i Pm.one = P) := ⟨_, rfl⟩
            rw [HP.out] at hri
            have i3 : (0 : Int) ≤ (i : Int) := by omega
            have i4 : (i : Int) < (m : Int) := by omega
            have HFT := Lib.hid (tau_fx hri.fx)
            have HSE : Hid ((turnK n L i).set i (tauP n P) = turnK n L (i + 1)) := Lib.hid (by rw [← HP.out]; exact turnK_set hiL)
            go_wp2_with fail
            refine (l16Turn_any n va vc P V hri.row hri.fx (by omega) hn6).mono ?_
            rintro e3 w4 ⟨a4, c4, rfl, ho4, hb34⟩
            have gc4 := (hb34.cell (p := ⟨g, i, none⟩) hgl).trans gc
            have hF4 := hFi.below hb34
            obtain ⟨_, e5, _, _, gf4⟩ := hF4.f.cell hli
            cases e5
            have hz34 := hb34.size
            go_wp2
            go_roundw
            case rel =>
              have hv4 : FRow n w4 (a4, n, c4) (tauP n P) := ⟨ho4.mono (Nat.zero_le _), rfl, HFT.out⟩
              have hgz : w0.heap.size ≤ g := hF4.f.hd.low g rfl
              exact ⟨i + 1, _, by omega, by go_num, by rw [← HSE.out]; exact hF4.set hli hv4 (fun e => by have := ho4.lo g e; omega), (below_th hqi hb34).setCell (by show w0.heap.size ≤ g; exact hgz) _⟩
            case measure => simp [intOf]; omega
          · obtain rfl : m = i := by omega
            have hTA : turnK n L m = L.map (tauP n) := by rw [HTL.out]; exact turnK_all
            rw [hTA] at hFi
            clear hTA
            have HT3 : Hid (thL (toL n (Pm.tw n)) (toL n (Pm.s d)) = toL n ((Pm.tw n).m (Pm.s d))) := Lib.hid (th_toL (tw_fx n))
            have HF3 : Hid (Fx n ((Pm.tw n).m (Pm.s d))) := Lib.hid (by rw [← HD.out]; exact (tw_fx n).m HFS.out)
            have HHV := Lib.hid hFi.f.hd.hi
            go_wp2_with fail
            refine (l16Step_any n d _ hn6 hkn).mono ?_
            rintro e2 w2 ⟨a2, c2, rfl, ho2, hb2'⟩
            go_wp2_with fail
            refine (l01Then_any at_ a2 n n ct c2 (toL n (Pm.tw n)) (toL n (Pm.s d)) w2 (hFi.t.below hb2').row ho2.row (by omega) HTW.out).mono ?_
            rintro e3 w3 ⟨a3, c3, rfl, ho3, hb3'⟩
            rw [HT3.out] at ho3
            have hb3 := below_th hb2' hb3'
            have hz2 := hb2'.size
            have hz3 := hb3.size
            have hzq := hqi.size
            have hF3 := hFi.below hb3
            have hq3 := below_th hqi hb3
            have hrow : FRow n w3 (a3, n, c3) ((Pm.tw n).m (Pm.s d)) := ⟨ho3.mono (Nat.zero_le _), rfl, HF3.out⟩
            have hne3 : ∀ q, ax = some ⟨q, 0, none⟩ → a3 ≠ some ⟨q, 0, none⟩ := fun q h1 h2 => by have := HHV.out q h1; have := ho3.lo q h2; omega
            go_wp2_with (at_builtin; refine appH1 rfl rfl hF3.f.hd rfl rfl (by omega) (by omega) ?_; intro g' cc w5 hH5 hg5 hat5 hb5)
            go_roundw
            case rel => exact ⟨k + 1, _, m + 1, cc, _, _, e - 1, by omega, by go_num, rfl, rfl, hF3.snoc hrow hne3 hH5 hg5 hat5, HAP, hq3.trans hb5, by omega, by omega, by omega, Lib.hid ⟨_, rfl⟩⟩
            case measure => simp [intOf]; omega
    · obtain rfl : N = k := by omega
      have hxs : xs.take N = xs := List.take_of_length_le (by have := HL.out; omega)
      rw [hxs] at HS
      have HTL := Lib.hid hF.f.len
      clear hxs HLT HLB
      go_wp2
      go_loopg [11, 12, 13] (val n L + 1) (fun gm s11 _ _ wr => ∃ (b : Bool) (vs' : List SV) (Y : List Pm), s11 = .bool b ∧ FacT n wr w0.heap.size ax m cx vs' Y at_ ct ∧ Hid (Star L Y ∧ (b = false → NF Y)) ∧ Below w0.heap.size w0 wr ∧ gm = val n Y + (if b then 1 else 0))
      case atStart => exact ⟨true, vs, L, rfl, hF, Lib.hid ⟨.refl _, fun h => by cases h⟩, hq, by simp⟩
      case round =>
        clear hF hq
        obtain ⟨b, vs', Y, rfl, hF, HY, hq, hgm⟩ := hrel
        obtain ⟨W, rfl⟩ : ∃ W : World, W = wr := ⟨_, rfl⟩
        cases b with
        | false =>
          have hNF := HY.out.2 rfl
          have hstar := HY.out.1
          have hAY := hF.f.fx
          have HYN := Lib.hid hF.f.len
          have HCH := Lib.hid (nf_chn _ hNF)
          have HAY := Lib.hid hAY
          have HNY := Lib.hid (And.intro hstar hNF)
          clear hNF hstar hAY
          obtain ⟨g, rfl⟩ := HAX.out
          have hmc : m ≤ cx := by
            rcases hF.f.hd.block with ⟨ha, _⟩ | ⟨g', cur, ha, _, _, hmc, _⟩
            · cases ha
            · exact hmc
          have HGY : Hid (∀ i, i < m → (Y.map (toL n)).getD i [] = toL n (Y.getD i Pm.one)) := Lib.hid fun i hi => by
            have hi' : i < Y.length := by have := HYN.out; omega
            simp [List.getD_eq_getElem?_getD, List.getElem?_eq_getElem hi']
          have HRD : Hid (∀ (V : World), Below W.heap.size W V → ∀ i, i < m → ∃ va vc, V.cell? ⟨g, i, none⟩ = some (.slice va n vc) ∧ Row V va n (toL n (Y.getD i Pm.one))) := Lib.hid fun V hV i hi => by
            obtain ⟨_, e5, _, gc, _⟩ := (hF.f.below hV).cell hi
            cases e5
            have hr := (hF.f.below hV).row i hi
            refine ⟨(vs'.getD i svO).1, (vs'.getD i svO).2.2, ?_, hr.row⟩
            rw [gc]; unfold sl; rw [hr.len]
          go_wp2
          go_loopg [5, 6] m (fun gm s5 s6 wr => ∃ o oo : Nat, o ≤ m ∧ Hid (o < m → oo = o) ∧ Hid (oo ≤ cx) ∧ gm = m - o ∧ s5 = .int .i64 (e + (o : Nat)) ∧ s6 = .slice (some ⟨g, oo, none⟩) (m - o) (cx - o) ∧ Below W.heap.size W wr ∧ Hid (∀ i, i < o → (Y.map (toL n)).getD i [] = toL n (Pm.tw n)))
          case atStart => exact ⟨0, 0, Nat.zero_le _, Lib.hid fun _ => rfl, Lib.hid (Nat.zero_le _), by omega, by simp, by simp, Below.refl _ _, Lib.hid fun i h => absurd h (by omega)⟩
          case round =>
            obtain ⟨o, oo, ho, HOO, HOX, hgo, rfl, rfl, hV, HT⟩ := hrel
            obtain ⟨V, rfl⟩ : ∃ V : World, V = wr := ⟨_, rfl⟩
            have hlast : (o < m → (Y.map (toL n)).getD o [] ≠ toL n (Pm.tw n)) → Hid True := fun _ => Lib.hid trivial
            by_cases hlo : o < m
            · obtain rfl : o = oo := (HOO.out hlo).symm
              obtain ⟨va, vc, gc, hr⟩ := HRD.out V hV o hlo
              obtain ⟨B, HB⟩ : ∃ B, Hid (decide (toL n (Y.getD o Pm.one) = toL n (Pm.tw n)) = B) := ⟨_, rfl⟩
              have htV := (hF.t).below hV
              have hwo : IntKind.i64.wrap (e + (o : Int) + 1) = e + ((o + 1 : Nat) : Int) := (IntWalk.i64_in _ (by omega)).trans (by omega)
              have q1 : (0 : Int) < ((m - o : Nat) : Int) := by omega
              have q2 : (1 : Int) ≤ ((m - o : Nat) : Int) := by omega
              have q3 : ((m - o : Nat) : Int) ≤ ((cx - o : Nat) : Int) := by omega
              have q4 : (1 : Int) ≤ ((cx - o : Nat) : Int) := by omega
              cases B with
              | true =>
                go_wp2_with fail
                refine (l01Same_b va at_ n n vc ct (toL n (Y.getD o Pm.one)) (toL n (Pm.tw n)) V hr htV.row (by omega) true HB.out).mono ?_
                rintro e9 w9 ⟨rfl, hb9⟩
                have HT1 : Hid (∀ i, i < o + 1 → (Y.map (toL n)).getD i [] = toL n (Pm.tw n)) := Lib.hid fun i hi => by
                  by_cases e2 : i < o
                  · exact HT.out i e2
                  · rw [show i = o by omega, HGY.out o hlo]; exact of_decide_eq_true HB.out
                go_wp2
                · rename_i hc1
                  go_roundg (m - (o + 1))
                  case measure => omega
                  case rel =>
                    refine ⟨o + 1, o, by omega, Lib.hid (fun h => by omega), Lib.hid (by omega), rfl, rfl, ?_, below_th hV hb9, HT1⟩
                    rw [show m - o - 1 = m - (o + 1) by omega, show cx - (o + 1) = 0 by omega]
                · rename_i hc1
                  go_roundg (m - (o + 1))
                  case measure => omega
                  case rel =>
                    refine ⟨o + 1, o + 1, by omega, Lib.hid (fun h => rfl), Lib.hid (by omega), rfl, rfl, ?_, below_th hV hb9, HT1⟩
                    rw [show m - o - 1 = m - (o + 1) by omega, show cx - o - 1 = cx - (o + 1) by omega]
              | false =>
                go_wp2_with fail
                refine (l01Same_b va at_ n n vc ct (toL n (Y.getD o Pm.one)) (toL n (Pm.tw n)) V hr htV.row (by omega) false HB.out).mono ?_
                rintro e9 w9 ⟨rfl, hb9⟩
                have hU := below_th hV hb9
                have HNT : Hid ((Y.map (toL n)).getD o [] ≠ toL n (Pm.tw n)) := Lib.hid (by rw [HGY.out o hlo]; exact of_decide_eq_false HB.out)
                have hfin : ∀ (q : Nat) (X : World), q ≤ m - o → Below W.heap.size W X → (∀ i, q ≤ i → i < m - o → (Y.map (toL n)).getD (o + i) [] = toL n Pm.one) → (∀ t, q = t + 1 → toL n (Y.getD (o + t) Pm.one) ≠ toL n Pm.one) →
                    NfR n xs w (.returned (.tuple #[.int .i64 (e + (o : Nat)), .slice (some ⟨g, o, none⟩) q (cx - o)])) X := fun q X hqm hX h1 h2 => by
                  have hlen : (Y.map (toL n)).length = m := by rw [List.length_map]; exact HYN.out.symm
                  have hst := strip_eq (n := n) (Y := Y) (e := e) (o := o) (j := q) HAY.out HCH.out (by have := HYN.out; omega) HT.out (fun _ => HNT.out) (fun i hi h => by
                    obtain ⟨t, rfl⟩ : ∃ t, q = t + 1 := ⟨q - 1, by omega⟩
                    rw [HGY.out (o + i) (by omega)] at h
                    have hone : Y.getD (o + i) Pm.one = Pm.one := toL_inj ((hF.f.row (o + i) (by omega)).fx) (Fx.one n) h
                    have := chn_later HAY.out HCH.out hone (show o + i ≤ o + t by omega) (by have := HYN.out; omega)
                    exact h2 t rfl (by rw [this])) (fun h => h1 q (Nat.le_refl _) (by have := HYN.out; omega))
                  refine ⟨e + (o : Nat), _, q, _, _, rfl, ⟨Y, by rw [← HS.out]; exact HNY.out.1, HNY.out.2, by rw [← HS.out]; exact hst.symm⟩, ⟨by rw [List.length_take, List.length_drop, hlen]; omega, fun i hi => ?_⟩, hB0.trans ((below_th hq hX).mono hB0.size), by omega, by omega, by omega, fun y hy => ?_⟩
                  · obtain ⟨va, vc, gc, hr⟩ := HRD.out X hX (o + i) (by omega)
                    have e4 : (((Y.map (toL n)).drop o).take q).getD i [] = toL n (Y.getD (o + i) Pm.one) := by
                      rw [← HGY.out (o + i) (by omega)]
                      simp [List.getD_eq_getElem?_getD, List.getElem?_take, hi, List.getElem?_drop]
                    rw [e4]
                    have hgl : g < W.heap.size := by obtain ⟨_, e5, h6, _⟩ := hF.f.cell (i := o) hlo; cases e5; exact h6
                    exact ⟨g, o, va, n, vc, rfl, Nat.lt_of_lt_of_le hgl hX.size, gc, hr, by omega⟩
                  · obtain ⟨q5, _, rfl⟩ := List.mem_map.1 (List.mem_of_mem_drop (List.mem_of_mem_take hy)); exact toL_len n q5
                have HFIN := Lib.hid hfin
                have HUN := Lib.hid (unit_toL n)
                clear hfin
                go_wp2
                go_loopg [6] (m - o) (fun gm s6 wr => ∃ q, q ≤ m - o ∧ gm = q ∧ s6 = .slice (some ⟨g, o, none⟩) q (cx - o) ∧ Below W.heap.size W wr ∧ Hid (∀ i, q ≤ i → i < m - o → (Y.map (toL n)).getD (o + i) [] = toL n Pm.one))
                case atStart => exact ⟨m - o, Nat.le_refl _, rfl, rfl, hU, Lib.hid fun i h1 h2 => absurd h1 (by omega)⟩
                case round =>
                  obtain ⟨q, hqm, hgq, rfl, hX, HO⟩ := hrel
                  obtain ⟨X, rfl⟩ : ∃ X : World, X = wr := ⟨_, rfl⟩
                  by_cases hq0 : q = 0
                  · subst hq0
                    go_wp2
                    go_big_quiet (fail)
                    go_wp2
                    go_ret2
                    exact HFIN.out 0 _ (Nat.zero_le _) (below_drewN hX _) HO.out (fun t h => absurd h (by omega))
                  · obtain ⟨t, rfl⟩ : ∃ t, q = t + 1 := ⟨q - 1, by omega⟩
                    obtain ⟨va, vc, gc, hr⟩ := HRD.out X hX (o + t) (by omega)
                    have hgl : g < X.heap.size := by
                      obtain ⟨_, e5, h6, _⟩ := hF.f.cell (i := o) hlo
                      cases e5
                      exact Nat.lt_of_lt_of_le h6 hX.size
                    have t1 : decide ((0 : Int) < (t : Int) + 1) = true := decide_eq_true (by omega)
                    have t2 : (0 : Int) < (t : Int) + 1 := by omega
                    have t3 : IntKind.i64.wrap (t : Int) = (t : Int) := IntWalk.i64_in _ (by omega)
                    have t4 : (0 : Int) ≤ (t : Int) := by omega
                    have t5 : (t : Int) < (t : Int) + 1 := by omega
                    have t6 : (t : Int) ≤ ((cx - o : Nat) : Int) := by omega
                    obtain ⟨B2, HB2⟩ : ∃ B2, Hid (decide (toL n (Y.getD (o + t) Pm.one) = toL n Pm.one) = B2) := ⟨_, rfl⟩
                    cases B2 with
                    | true =>
                      go_wp2
                      go_region_held3 (fun w' => w'.cell? ⟨g, o + t, none⟩ = some (.slice va n vc))
                        (first | exact gc4 | exact gc3 | exact gc | go_keep)
                        (first
                        | (go_at_call 72; refine (l01Unit_any n _ (by omega)).mono ?_; rintro e3 X3 ⟨a3, c3, rfl, ho3, hb3⟩; have hb3' : Below X.heap.size X X3 := below_th (below_drewN (Below.refl _ _) 1) hb3; have gc3 := (hb3'.cell (p := ⟨g, o + t, none⟩) hgl).trans gc; rw [HUN.out] at ho3)
                        | (go_at_call 71; refine (l01Same_b va a3 n n vc c3 (toL n (Y.getD (o + t) Pm.one)) (toL n Pm.one) X3 (hr.below hb3') ho3.row (by omega) true HB2.out).mono ?_; rintro e4 X4 ⟨rfl, hb4⟩; have gc4 := (hb4.cell (p := ⟨g, o + t, none⟩) (Nat.lt_of_lt_of_le hgl hb3'.size)).trans gc3))
                      all_goals
                        have HO2 : Hid (∀ i, t ≤ i → i < m - o → (Y.map (toL n)).getD (o + i) [] = toL n Pm.one) := Lib.hid fun i h1 h2 => by
                          by_cases e2 : i = t
                          · subst e2; rw [HGY.out (o + i) (by omega)]; exact of_decide_eq_true HB2.out
                          · exact HO.out i (by omega) h2
                        go_wp2
                        go_roundg t
                        case measure => omega
                        case rel => exact ⟨t, by omega, rfl, rfl, below_th hX (below_th hb3' hb4), HO2⟩
                    | false =>
                      go_wp2
                      go_region_held3 (fun w' => w'.cell? ⟨g, o + t, none⟩ = some (.slice va n vc))
                        (first | exact gc4 | exact gc3 | exact gc | go_keep)
                        (first
                        | (go_at_call 72; refine (l01Unit_any n _ (by omega)).mono ?_; rintro e3 X3 ⟨a3, c3, rfl, ho3, hb3⟩; have hb3' : Below X.heap.size X X3 := below_th (below_drewN (Below.refl _ _) 1) hb3; have gc3 := (hb3'.cell (p := ⟨g, o + t, none⟩) hgl).trans gc; rw [HUN.out] at ho3)
                        | (go_at_call 71; refine (l01Same_b va a3 n n vc c3 (toL n (Y.getD (o + t) Pm.one)) (toL n Pm.one) X3 (hr.below hb3') ho3.row (by omega) false HB2.out).mono ?_; rintro e4 X4 ⟨rfl, hb4⟩; have gc4 := (hb4.cell (p := ⟨g, o + t, none⟩) (Nat.lt_of_lt_of_le hgl hb3'.size)).trans gc3))
                      all_goals
                        go_wp2
                        go_ret2
                        exact HFIN.out (t + 1) _ hqm (below_th hX (below_th hb3' hb4)) HO.out (fun t' ht => by cases ht; exact of_decide_eq_false HB2.out)
            · obtain rfl : m = o := by omega
              have hlen : (Y.map (toL n)).length = m := by rw [List.length_map]; exact HYN.out.symm
              have HST : Hid (stripL n e (Y.map (toL n)) = (e + (m : Nat), [])) := Lib.hid (by
                have := strip_eq (n := n) (Y := Y) (e := e) (o := m) (j := 0) HAY.out HCH.out (by have := HYN.out; omega) HT.out (fun h => absurd h (by have := HYN.out; omega)) (fun i h => absurd h (by omega)) (fun h => absurd h (by have := HYN.out; omega))
                rw [this]; simp)
              clear hlen
              rw [Nat.sub_self] at *
              go_wp2
              go_loopg [6] 0 (fun gm s6 wr => s6 = .slice (some ⟨g, oo, none⟩) 0 (cx - m) ∧ wr = V)
              case atStart => exact ⟨rfl, rfl⟩
              case round =>
                obtain ⟨rfl, rfl⟩ := hrel
                go_wp2
                go_big_quiet (fail)
                go_wp2
                go_ret2
                exact ⟨e + (m : Nat), _, 0, _, [], rfl, ⟨Y, by rw [← HS.out]; exact HNY.out.1, HNY.out.2, by rw [← HS.out]; exact HST.out.symm⟩, ⟨rfl, fun i h => absurd h (by omega)⟩, hB0.trans ((below_th hq (below_drewN hV _)).mono hB0.size), by omega, by omega, by omega, by simp⟩
        | true =>
          simp only [if_true] at hgm
          have HYL := Lib.hid hF.f.len
          go_wp2
          go_loopw [11, 12, 13] (fun s11 i _ wr2 => ∃ (j : Nat) (b' : Bool) (vs'' : List SV) (Y' : List Pm), i = .int .i64 j ∧ j ≤ m ∧ s11 = .bool b' ∧ FacT n wr2 w0.heap.size ax m cx vs'' Y' at_ ct ∧ Hid (Star Y Y' ∧ (b' = false → Y' = Y ∧ ∀ t, t < j → t + 1 < m → ∀ k, St (Y.getD (t + 1) Pm.one) k → En (Y.getD t Pm.one) k) ∧ (b' = true → val n Y' < val n Y)) ∧ Below w0.heap.size w0 wr2) (fun _ i _ _ => m + 1 - (intOf i).toNat)
          case atStart => exact ⟨0, false, vs', Y, rfl, Nat.zero_le _, rfl, hF, Lib.hid ⟨.refl _, fun _ => ⟨rfl, fun t h => absurd h (by omega)⟩, fun h => by cases h⟩, hq⟩
          case round =>
            clear hF hq
            obtain ⟨j, b', vs'', Y', rfl, hjm, rfl, hF, HS2, hq⟩ := hrel
            obtain ⟨V, rfl⟩ : ∃ V : World, V = wr := ⟨_, rfl⟩
            by_cases hlj : j + 1 < m
            · have i1 : (j : Int) + 1 < (m : Int) := by omega
              have i2 : (0 : Int) ≤ (j : Int) := by omega
              have i3 : (j : Int) < (m : Int) := by omega
              have i4 : (0 : Int) ≤ (j : Int) + 1 := by omega
              go_wp2
              go_loopw [11, 13] (fun s11 i wr3 => ∃ (k : Nat) (b3 : Bool) (vs3 : List SV) (Y3 : List Pm), i = .int .i64 k ∧ k + 1 ≤ n ∧ s11 = .bool b3 ∧ FacT n wr3 w0.heap.size ax m cx vs3 Y3 at_ ct ∧ Hid (Star Y Y3 ∧ (b3 = false → Y3 = Y ∧ (∀ t, t < j → t + 1 < m → ∀ k, St (Y.getD (t + 1) Pm.one) k → En (Y.getD t Pm.one) k) ∧ ∀ q, q < k → St (Y.getD (j + 1) Pm.one) q → En (Y.getD j Pm.one) q) ∧ (b3 = true → val n Y3 < val n Y)) ∧ Below w0.heap.size w0 wr3) (fun _ i _ => n - (intOf i).toNat)
              case atStart => exact ⟨0, b', vs'', Y', rfl, by omega, rfl, hF, Lib.hid ⟨HS2.out.1, fun h => ⟨(HS2.out.2.1 h).1, (HS2.out.2.1 h).2, fun q h => absurd h (by omega)⟩, HS2.out.2.2⟩, hq⟩
              case round =>
                clear hF hq
                obtain ⟨k, b3, vs3, Y3, rfl, hkn, rfl, hF, HS3, hq⟩ := hrel
                obtain ⟨U, rfl⟩ : ∃ U : World, U = wr := ⟨_, rfl⟩
                by_cases hlk : k + 1 < n
                · obtain ⟨g, rfl, hgl, gc1, gf1⟩ := hF.f.cell (i := j) (by omega)
                  obtain ⟨_, e5, _, gc2, gf2⟩ := hF.f.cell hlj
                  cases e5
                  have hr1 := hF.f.row j (by omega)
                  have hr2 := hF.f.row (j + 1) hlj
                  have ha1 := hF.f.ap j (by omega) g rfl
                  have ha2 := hF.f.ap (j + 1) hlj g rfl
                  obtain ⟨⟨v1, n1, d1⟩, HV1⟩ : ∃ v, Hid (vs3.getD j svO = v) := ⟨_, rfl⟩
                  obtain ⟨⟨v2, n2, d2⟩, HV2⟩ : ∃ v, Hid (vs3.getD (j + 1) svO = v) := ⟨_, rfl⟩
                  rw [HV1.out] at gc1 hr1 ha1
                  rw [HV2.out] at gc2 hr2 ha2
                  obtain rfl : n = n1 := hr1.len.symm
                  obtain rfl : n = n2 := hr2.len.symm
                  change U.cell? _ = some (.slice v1 n d1) at gc1
                  change U.cell? _ = some (.slice v2 n d2) at gc2
                  have HYL3 := Lib.hid hF.f.len
                  obtain ⟨P, HP⟩ : ∃ P, Hid (Y3.getD j Pm.one = P) := ⟨_, rfl⟩
                  obtain ⟨Q, HQ⟩ : ∃ Q, Hid (Y3.getD (j + 1) Pm.one = Q) := ⟨_, rfl⟩
                  rw [HP.out] at hr1
                  rw [HQ.out] at hr2
                  have k1 : (0 : Int) ≤ (k : Int) := by omega
                  have k2 : (k : Int) + 1 < (n : Int) := by omega
                  have hnext : ∀ w', Below U.heap.size U w' → ¬ (St Q k ∧ ¬ En P k) → ∃ (k_1 : Nat) (b3_1 : Bool) (vs3_1 : List SV) (Y3_1 : List Pm), Value.int .i64 ((k + 1 : Nat) : Int) = .int .i64 k_1 ∧ k_1 + 1 ≤ n ∧ Value.bool b3 = .bool b3_1 ∧ FacT n w' w0.heap.size (some ⟨g, 0, none⟩) m cx vs3_1 Y3_1 at_ ct ∧ Hid (Star Y Y3_1 ∧ (b3_1 = false → Y3_1 = Y ∧ (∀ t, t < j → t + 1 < m → ∀ k, St (Y.getD (t + 1) Pm.one) k → En (Y.getD t Pm.one) k) ∧ ∀ q, q < k_1 → St (Y.getD (j + 1) Pm.one) q → En (Y.getD j Pm.one) q) ∧ (b3_1 = true → val n Y3_1 < val n Y)) ∧ Below w0.heap.size w0 w' := fun w' hb hno =>
                    ⟨k + 1, b3, vs3, Y3, rfl, by omega, rfl, hF.below hb, Lib.hid ⟨HS3.out.1, fun h => ⟨(HS3.out.2.1 h).1, (HS3.out.2.1 h).2.1, fun q hq hst => by
                      by_cases e : q = k
                      · subst e
                        have hyy := (HS3.out.2.1 h).1
                        rw [← hyy] at hst ⊢
                        rw [HQ.out] at hst
                        rw [HP.out]
                        by_cases e2 : En P q
                        · exact e2
                        · exact absurd ⟨hst, e2⟩ hno
                      · exact (HS3.out.2.1 h).2.2 q (by omega) hst⟩, HS3.out.2.2⟩, below_th hq hb⟩
                  have HNX := Lib.hid hnext
                  clear hnext
                  go_wp2_with fail
                  refine (l16Begins_any n k v2 d2 Q U hr2.row hn6 hlk).mono ?_
                  rintro e6 U1 ⟨rfl, hu1⟩
                  have gc1' := (hu1.cell (p := ⟨g, j, none⟩) hgl).trans gc1
                  have gc2' := (hu1.cell (p := ⟨g, j + 1, none⟩) hgl).trans gc2
                  by_cases hst : St Q k
                  · rw [decide_eq_true hst]
                    go_wp2_with fail
                    refine (l16Ends_any n k v1 d1 P U1 (hr1.below hu1).row hr1.fx hn6 hlk).mono ?_
                    rintro e7 U2 ⟨rfl, hu2⟩
                    have hu12 := below_th hu1 hu2
                    by_cases hen : En P k
                    · rw [decide_eq_true hen]
                      go_wp2
                      go_roundw
                      case rel => exact HNX.out _ hu12 (fun h => h.2 hen)
                      case measure => simp [intOf]; omega
                    · rw [decide_eq_false hen]
                      have hF2 := hF.below hu12
                      obtain ⟨_, e8, hgl2, gd1, gf3⟩ := hF2.f.cell (i := j) (by omega)
                      cases e8
                      rw [HV1.out] at gd1
                      change U2.cell? _ = some (.slice v1 n d1) at gd1
                      have hr1' := hr1.below hu12
                      have hr2' := hr2.below hu12
                      have HPm := Lib.hid (toL_mem hr1.fx)
                      have hfs := Fx.s (n := n) hlk
                      have HSm := Lib.hid (toL_mem hfs)
                      have HA1 := Lib.hid (th_toL (q := Pm.s k) hr1.fx)
                      have HA2 := Lib.hid (th_toL (q := Q) hfs)
                      have HFA := Lib.hid (hr1.fx.m hfs)
                      have HFB := Lib.hid (hfs.m hr2.fx)
                      have HSE := Lib.hid (And.intro hst hen)
                      clear hfs hst hen gc1 gc2 gc1' gc2'
                      go_wp2
                      go_region_law (first
                        | (go_simp; go_at_call 66; refine (l16Step_any n k _ hn6 hlk).mono ?_; rintro e9 w3 ⟨a3, c3, rfl, ho3, hb3⟩; have hb3' : Below U2.heap.size U2 w3 := below_th (below_drewN (Below.refl _ _) 1) hb3; have gd3 := (hb3'.cell (p := ⟨g, j, none⟩) hgl2).trans gd1; have hr13 := hr1'.below hb3')
                        | (go_simp; go_at_call 68; refine (l01Then_any v1 a3 n n d1 c3 (toL n P) (toL n (Pm.s k)) w3 hr13.row ho3.row (by omega) HPm.out).mono ?_; rintro e10 w4 ⟨a4, c4, rfl, ho4, hb4⟩; have hb34 := below_th hb3' hb4; have gd4 := (hb34.cell (p := ⟨g, j, none⟩) hgl2).trans gd1; have hF4 := hF2.below hb34; have gf4 : w4.frozen? ⟨g, j, none⟩ = false := (by obtain ⟨_, x1, _, _, x2⟩ := hF4.f.cell (i := j) (by omega); cases x1; exact x2)))
                      all_goals
                        rw [HA1.out] at ho4
                        have hzU := hu12.size
                        have hz34 := hb34.size
                        have hz3 := hb3'.size
                        have hne4 : a4 ≠ some ⟨g, 0, none⟩ := fun e => by have := ho4.lo g e; omega
                        have hv4 : FRow n w4 (a4, n, c4) (P.m (Pm.s k)) := ⟨ho4.mono (Nat.zero_le _), rfl, HFA.out⟩
                        have hF5 := hF4.set (i := j) (by omega) hv4 hne4
                        have hgz : w0.heap.size ≤ g := hF4.f.hd.low g rfl
                        have hq5 : Below w0.heap.size w0 (w4.setCell ⟨g, j, none⟩ (.slice a4 n c4)) := (below_th (below_th hq hu12) hb34).setCell (by show w0.heap.size ≤ g; exact hgz) _
                        obtain ⟨w5, hw5⟩ : ∃ w5, w4.setCell ⟨g, j, none⟩ (.slice a4 n c4) = w5 := ⟨_, rfl⟩
                        change FacT n (w4.setCell ⟨g, j, none⟩ (.slice a4 n c4)) _ _ _ _ _ _ _ _ at hF5
                        rw [hw5] at hF5 hq5
                        go_wp2_with fail
                        rw [hw5]
                        clear hw5
                        obtain ⟨_, e11, hgl5, ge1, ge2⟩ := hF5.f.cell hlj
                        cases e11
                        have hr25 := hF5.f.row (j + 1) hlj
                        have ev : (vs3.set j (a4, n, c4)).getD (j + 1) svO = (v2, n, d2) := by rw [← HV2.out]; simp [List.getD_eq_getElem?_getD, List.getElem?_set_ne (show j ≠ j + 1 by omega)]
                        have ey : (Y3.set j (P.m (Pm.s k))).getD (j + 1) Pm.one = Q := by rw [← HQ.out]; simp [List.getD_eq_getElem?_getD, List.getElem?_set_ne (show j ≠ j + 1 by omega)]
                        rw [ev] at ge1 hr25
                        rw [ey] at hr25
                        change w5.cell? _ = some (.slice v2 n d2) at ge1
                        clear ev ey
                        have hwj : IntKind.i64.wrap ((j : Int) + 1) = ((j + 1 : Nat) : Int) := (IntWalk.i64_in _ (by omega)).trans (by simp)
                        go_region_law (first
                          | (go_simp; go_at_call 66; refine (l16Step_any n k _ hn6 hlk).mono ?_; rintro e12 w6 ⟨a6, c6, rfl, ho6, hb6⟩; have hb6' : Below w5.heap.size w5 w6 := below_th (below_drewN (Below.refl _ _) 1) hb6; have gd6 := (hb6'.cell (p := ⟨g, j + 1, none⟩) hgl5).trans ge1; have hr26 := hr25.below hb6')
                          | (go_simp; go_at_call 68; refine (l01Then_any a6 v2 n n c6 d2 (toL n (Pm.s k)) (toL n Q) w6 ho6.row hr26.row (by omega) HSm.out).mono ?_; rintro e13 w7 ⟨a7, c7, rfl, ho7, hb7⟩; have hb57 := below_th hb6' hb7; have gd7 := (hb57.cell (p := ⟨g, j + 1, none⟩) hgl5).trans ge1; have hF7 := hF5.below hb57; have gf7 : w7.frozen? ⟨g, j + 1, none⟩ = false := (by obtain ⟨_, x1, _, _, x2⟩ := hF7.f.cell (i := j + 1) hlj; cases x1; exact x2)))
                        all_goals
                          rw [HA2.out] at ho7
                          have hz57 := hb57.size
                          have hz6 := hb6'.size
                          have hne7 : a7 ≠ some ⟨g, 0, none⟩ := fun e => by have := ho7.lo g e; omega
                          have hv7 : FRow n w7 (a7, n, c7) ((Pm.s k).m Q) := ⟨ho7.mono (Nat.zero_le _), rfl, HFB.out⟩
                          have hF8 := hF7.set (i := j + 1) hlj hv7 hne7
                          have hq8 : Below w0.heap.size w0 (w7.setCell ⟨g, j + 1, none⟩ (.slice a7 n c7)) := (below_th hq5 hb57).setCell (by show w0.heap.size ≤ g; exact hgz) _
                          have HMV : Hid (Step [P, Q] [P.m (Pm.s k), (Pm.s k).m Q]) := Lib.hid (Step.mv [] [] P Q k HSE.out.1 HSE.out.2)
                          have HNEW : Hid (Star Y ((Y3.set j (P.m (Pm.s k))).set (j + 1) ((Pm.s k).m Q)) ∧ val n ((Y3.set j (P.m (Pm.s k))).set (j + 1) ((Pm.s k).m Q)) < val n Y) := Lib.hid (by
                            have hlen : j + 1 < Y3.length := by have := HYL3.out; omega
                            have hs := star_at hlen (p := P.m (Pm.s k)) (q := (Pm.s k).m Q) (by rw [HP.out, HQ.out]; exact .one HMV.out)
                            have hfp : Fx n P := hr1.fx
                            have hfq : Fx n Q := hr2.fx
                            have hv := val_at (n := n) hlen (p := P.m (Pm.s k)) (q := (Pm.s k).m Q) (by
                              rw [HP.out, HQ.out]
                              exact val_step (fun r hr => by
                                simp at hr; rcases hr with rfl | rfl
                                · exact hfp
                                · exact hfq) HMV.out)
                            refine ⟨HS3.out.1.trans hs, ?_⟩
                            cases b3 with
                            | true => have := HS3.out.2.2 rfl; omega
                            | false => rw [(HS3.out.2.1 rfl).1] at hv ⊢; exact hv)
                          go_wp2
                          go_roundw
                          case rel => exact ⟨k + 1, true, _, _, by go_num, by omega, rfl, hF8, Lib.hid ⟨HNEW.out.1, fun h => by (cases h), fun _ => HNEW.out.2⟩, hq8⟩
                          case measure => simp [intOf]; omega
                  · rw [decide_eq_false hst]
                    go_wp2
                    go_roundw
                    case rel => exact HNX.out _ hu1 (fun h => hst h.1)
                    case measure => simp [intOf]; omega
                · have hk' : ¬ (k : Int) + 1 < (n : Int) := by omega
                  obtain rfl : n = k + 1 := by omega
                  go_wp2
                  go_roundw
                  case rel =>
                    refine ⟨j + 1, b3, vs3, Y3, by go_num, by omega, rfl, hF, Lib.hid ⟨HS3.out.1, fun h => ⟨(HS3.out.2.1 h).1, fun t ht ht2 q hs => ?_⟩, HS3.out.2.2⟩, hq⟩
                    by_cases e : t = j
                    · subst e
                      have hfx := hF.f.fx
                      rw [(HS3.out.2.1 h).1] at hfx
                      have hlt2 : t + 1 < Y.length := by have := HYL.out; omega
                      have hq2 := (hfx _ (by rw [List.getD_eq_getElem?_getD (l := Y), List.getElem?_eq_getElem hlt2]; exact List.getElem_mem hlt2)).st hs
                      exact (HS3.out.2.1 h).2.2 q (by omega) hs
                    · exact (HS3.out.2.1 h).2.1 t (by omega) ht2 q hs
                  case measure => simp [intOf]; omega
            · have hj' : ¬ (j : Int) + 1 < (m : Int) := by omega
              go_wp2
              go_roundg (val n Y' + (if b' then 1 else 0))
              case measure =>
                cases b' with
                | true => have := HS2.out.2.2 rfl; simp; omega
                | false => rw [(HS2.out.2.1 rfl).1]; simp
              case rel =>
                refine ⟨b', vs'', Y', rfl, hF, Lib.hid ⟨HY.out.1.trans HS2.out.1, fun hb => ?_⟩, hq, rfl⟩
                obtain ⟨h3, h4⟩ := HS2.out.2.1 hb
                rw [h3]
                exact chn_nf (chn_of Y fun t ht k hk => h4 t (by have := HYL.out; omega) (by have := HYL.out; omega) k hk)
end Go.Proofs.YtdkpalllfekiiaaGreat
