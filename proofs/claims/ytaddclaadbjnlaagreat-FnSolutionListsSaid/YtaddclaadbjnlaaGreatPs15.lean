/-
  Walks and plain laws of this seat, some texts in one.
  No condition but bounds on lengths.
-/
import Derived.Test.YtaddclaadbjnlaaGreatPs8
import Derived.Test.YtaddclaadbjnlaaGreatPs7
import Derived.Test.YtaddclaadbjnlaaGreatPs14
import Derived.Deep.DeepCutAuto
import Derived.Deep.RegionHeld3
namespace Go.Proofs.YtaddclaadbjnlaaGreat
set_option linter.unusedVariables false
set_option linter.unusedSimpArgs false
set_option maxRecDepth 100000
open Go.RowKit
def SolDn (b : Nat) (w : World) (n : Nat) (e : Ending) (w' : World) : Prop :=
  ∃ (a : Option Addr) (c : Nat) (vs : List SV) (f : List (List Int)) (a' : Option Addr) (c' : Nat) (vs' : List SV) (g : List (List Int)), e = .returned (sAgg a n c a' n c') ∧ OwnS w' w.heap.size a n c vs f a' n c' vs' g ∧ Sq n f ∧ Sq n g ∧ Src w' b ∧ w.grownBy w' (some b)
def SolD (b : Nat) (w : World) (N : Nat) (e : Ending) (w' : World) : Prop := ∃ n, 1 ≤ n ∧ n ≤ N ∧ SolDn b w n e w'
theorem sq_of {n : Nat} {t : List (List Int)} (hl : t.length = n) (h : ∀ x, x < n → (t.getD x []).length = n ∧ ∀ y, y < n → ∃ z : Nat, z < n ∧ (t.getD x []).getD y 0 = (z : Int)) : Sq n t :=
  ⟨hl, fun x hx => ⟨(h x hx).1, fun y hy => by
    obtain ⟨z, hz, e⟩ := (h x hx).2 y hy
    have : tv t x y = z := by unfold tv; rw [e, Int.toNat_natCast]
    rw [this]; exact ⟨hz, e⟩⟩⟩
theorem rep_sq {n : Nat} {p : List Int} (hp : IsP n p) : Sq n (repT n p) := by
  refine sq_of (by simp [repT]) fun x hx => ?_
  have e : (repT n p).getD x [] = p := by simp [repT, List.getD_eq_getElem?_getD, hx]
  rw [e]
  exact ⟨hp.len, fun y hy => by obtain ⟨z, h1, h2⟩ := hp.at hy; exact ⟨z, h2, h1⟩⟩
theorem col_sq {n : Nat} {q : List Int} (hq : IsP n q) : Sq n (colT n q) := by
  refine sq_of (by simp [colT]) fun x hx => ?_
  have e : (colT n q).getD x [] = conR n (q.getD x 0) := by simp [colT, List.getD_eq_getElem?_getD, hx]
  rw [e]
  refine ⟨conR_len _ _, fun y hy => ?_⟩
  obtain ⟨z, h1, h2⟩ := hq.at hx
  exact ⟨z, h2, by simp [conR, List.getD_eq_getElem?_getD, hy]; simpa [List.getD_eq_getElem?_getD] using h1⟩
set_option maxHeartbeats 8000000 in
theorem l02Twisted_ok (b n : Nat) (w : World) (h : Src w b) (h1 : 1 ≤ n) (hn : n ≤ 100) :
    Calls Tryz.prog 173 #[.pointer (some ⟨b, 0, none⟩), .int .i64 n] w (SolDn b w n) := by
  have hlt := h.lt
  have hR := Loc.new w rfl #[.slice none 0 0, .slice none 0 0] 53
  go_enter Tryz.func173, Tryz.ntmps173
  go_wp2_with fail
  refine (l01Draw_ok b n _ (h.below (below_al (Below.refl _ _) _)) h1 (by omega)).mono ?_
  rintro e w1 ⟨a1, c1, p, rfl, hp, ho1, hs1, hg1⟩
  have HP := Lib.hid hp; clear hp
  have hR1 := hR.grown hg1 (by simp; omega)
  have hG1 := grown_trans (World.grownBy_alloc w (.cells #[.slice none 0 0, .slice none 0 0] 53) (some b)) hg1
  replace ho1 := ho1.mono (lo' := w.heap.size + 1) (by simp)
  clear hR
  go_wp2_with fail
  refine (l01Unit_any n _ (by omega)).mono ?_
  rintro e w2 ⟨a2, c2, rfl, ho2, hb2⟩
  have hs2 := hs1.below hb2
  have hR2 := hR1.below hb2 hR1.lt
  have hG2 := grown_trans hG1 (grown_of_below hb2 (some b))
  replace ho1 := ho1.below hb2
  replace ho2 := ho2.mono (lo' := w.heap.size + 1) hR1.lt
  go_wp2_with fail
  refine (l01Next_ok b 4 _ hs2 ⟨by omega, by omega⟩).mono ?_
  rintro e w3 ⟨x, rfl, _, hx, hs3, hg3⟩
  obtain ⟨hx1, hx2⟩ := hx (by omega)
  obtain ⟨j0, rfl⟩ : ∃ k : Nat, x = k := ⟨x.toNat, by omega⟩
  clear hx
  have hR3 := hR2.grown hg3 (by simp; omega)
  have hG3 := grown_trans hG2 hg3
  have ho13 := ho1.grown hg3 (fun g e => by have := ho1.lo g e; simp; omega)
  have ho23 := ho2.grown hg3 (fun g e => by have := ho2.lo g e; simp; omega)
  have hsz3 := hR3.lt
  clear ho1 ho2 hR1 hR2 hs1 hs2 hG1 hG2 hb2 hg3 hg1
  go_wp2
  go_loopw [6, 7] (fun q k wr => ∃ (j : Nat) (aq : Option Addr) (cq : Nat) (ql : List Int), j ≤ j0 ∧ k = .int .i64 j ∧ q = .slice aq n cq ∧ Hid (IsP n ql) ∧ Own wr (w.heap.size + 1) aq n cq ql ∧ Own wr (w.heap.size + 1) a1 n c1 p ∧ Src wr b ∧ Loc wr w.heap.size #[.slice none 0 0, .slice none 0 0] 53 ∧ w.grownBy wr (some b)) (fun _ k _ => (intOf k).toNat)
  case atStart => exact ⟨j0, a2, c2, _, Nat.le_refl _, rfl, rfl, Lib.hid (unit_isP n), ho23, ho13, hs3, hR3, hG3⟩
  case round =>
    clear ho23 ho13 hs3 hR3 hG3
    obtain ⟨j, aq, cq, ql, hj, rfl, rfl, HQ, hoq, hop, hs, hR, hG⟩ := hrel
    have hRl := hR.lt
    rcases j with _ | j
    · go_wp2_with fail
      refine (l01Next_ok b 2 _ hs ⟨by omega, by omega⟩).mono ?_
      rintro e w4 ⟨x, rfl, _, hx, hs4, hg4⟩
      clear hx
      have hR4 := hR.grown hg4 (by simp; omega)
      have hG4 := grown_trans hG hg4
      have hop4 := hop.grown hg4 (fun g e => by have := hop.lo g e; simp; omega)
      have hoq4 := hoq.grown hg4 (fun g e => by have := hoq.lo g e; simp; omega)
      have hz4 := hR4.lt
      by_cases hx0 : x = 0
      · subst hx0
        go_wp2_with fail
        refine (l02Twist_any _ n _ p _ _ ql _ hop4.row hoq4.row (by omega)).mono ?_
        rintro e w5 ⟨a5, c5, vs5, a5', c5', vs5', rfl, ho5, hb5⟩
        have hR5 := hR4.below hb5 hz4
        have lR := hR5.two
        have hs5 := hs4.below hb5
        have hG5 := grown_trans hG4 (grown_of_below hb5 (some b))
        go_wp2
        refine bodyPost_ret (v := sAgg a5 n c5 a5' n c5') (by simp [results, Tryz.results173, go_sem, lR]) rfl ⟨a5, c5, vs5, _, a5', c5', vs5', _, rfl, ⟨?_, ?_, ho5.ap⟩, rep_sq HP.out, col_sq HQ.out, ?_, ?_⟩
        · exact ((ho5.f.setlo (by show w.heap.size < w4.heap.size; omega) _).setlo (by show w.heap.size < w4.heap.size; omega) _).mono (by omega)
        · exact ((ho5.s.setlo (by show w.heap.size < w4.heap.size; omega) _).setlo (by show w.heap.size < w4.heap.size; omega) _).mono (by omega)
        · exact (hs5.setne (by show b < w.heap.size; omega) _).setne (by show b < w.heap.size; omega) _
        · exact grown_set (grown_set hG5 (.inr (by simp)) _) (.inr (by simp)) _
      · have hx1 : (x == 0) = false := by simpa using hx0
        go_wp2_with fail
        refine (l02Twist_any _ n _ ql _ _ p _ hoq4.row hop4.row (by omega)).mono ?_
        rintro e w5 ⟨a5, c5, vs5, a5', c5', vs5', rfl, ho5, hb5⟩
        have hR5 := hR4.below hb5 hz4
        have lR := hR5.two
        have hs5 := hs4.below hb5
        have hG5 := grown_trans hG4 (grown_of_below hb5 (some b))
        go_wp2
        refine bodyPost_ret (v := sAgg a5 n c5 a5' n c5') (by simp [results, Tryz.results173, go_sem, lR]) rfl ⟨a5, c5, vs5, _, a5', c5', vs5', _, rfl, ⟨?_, ?_, ho5.ap⟩, rep_sq HQ.out, col_sq HP.out, ?_, ?_⟩
        · exact ((ho5.f.setlo (by show w.heap.size < w4.heap.size; omega) _).setlo (by show w.heap.size < w4.heap.size; omega) _).mono (by omega)
        · exact ((ho5.s.setlo (by show w.heap.size < w4.heap.size; omega) _).setlo (by show w.heap.size < w4.heap.size; omega) _).mono (by omega)
        · exact (hs5.setne (by show b < w.heap.size; omega) _).setne (by show b < w.heap.size; omega) _
        · exact grown_set (grown_set hG5 (.inr (by simp)) _) (.inr (by simp)) _
    · have hql : Hid (∀ x ∈ ql, 0 ≤ x ∧ x < n) := Lib.hid HQ.out.mem
      go_wp2_with fail
      refine (l01Then_any _ _ n n _ _ ql p _ hoq.row hop.row (by omega) hql.out).mono ?_
      rintro e w4 ⟨a4, c4, rfl, ho4, hb4⟩
      have hz4 := hb4.size
      go_wp2
      go_roundw
      case rel => exact ⟨j, a4, c4, _, by omega, by go_num, rfl, Lib.hid (thL_isP HQ.out HP.out), ho4.mono hRl, hop.below hb4, hs.below hb4, hR.below hb4 hRl, grown_trans hG (grown_of_below hb4 _)⟩
      case measure => simp [intOf]
theorem zrow9 {N k : Nat} (h : k < N) : (tabF N fun _ _ => 0).take (k + 1) = (tabF N fun _ _ => 0).take k ++ [List.replicate N 0] := by
  have hl : k < (tabF N fun _ _ => 0).length := by rw [tabF_len]; exact h
  rw [List.take_succ_eq_append_getElem hl]
  congr 2
  simp only [tabF, List.getElem_map]
  apply List.ext_getElem
  · simp
  · intro i h1 h2; simp
def facN : Nat → Nat
  | 0 => 1
  | n + 1 => (n + 1) * facN n
theorem facN_bd : ∀ k : Fin 5, facN k.1 ≤ 24 := by decide
set_option maxHeartbeats 2000000 in
theorem fact9_any (n : Nat) (w : World) (h1 : 1 ≤ n) (h4 : n ≤ 4) :
    Calls Tryz.prog 15 #[.int .i64 n] w fun e w' => e = .returned (.int .i64 (facN n)) ∧ w' = w := by
  go_enter Tryz.func15, Tryz.ntmps15
  go_wp2
  go_loop [3, 4] (fun o k => ∃ j : Nat, 1 ≤ j ∧ j ≤ n ∧ k = .int .i64 ((j + 1 : Nat) : Int) ∧ o = .int .i64 ((facN j : Nat) : Int)) (fun _ k => n + 1 - (intOf k).toNat)
  case atStart => exact ⟨1, by omega, h1, rfl, rfl⟩
  case round =>
    obtain ⟨j, hj1, hj, rfl, rfl⟩ := hrel
    have hb := facN_bd ⟨j, by omega⟩
    have hb : facN j ≤ 24 := hb
    have HF : Hid (facN (j + 1) = (j + 1) * facN j) := Lib.hid rfl
    obtain ⟨F, hF⟩ : ∃ F, facN j = F := ⟨_, rfl⟩
    rw [hF] at HF hb ⊢
    by_cases hlt : j < n
    · have hmul : (j + 1) * F ≤ 5 * 24 := Nat.mul_le_mul (by omega) hb
      have hm2 : (F : Int) * ((j : Int) + 1) = (((j + 1) * F : Nat) : Int) := by push_cast; rw [Int.mul_comm]
      obtain ⟨M, hM⟩ : ∃ M, (j + 1) * F = M := ⟨_, rfl⟩
      rw [hM] at hm2 hmul HF
      have hwr : wrap64 ((F : Int) * ((j : Int) + 1)) = (M : Int) := by rw [hm2]; unfold wrap64; omega
      have i1 : ((j + 1 : Nat) : Int) ≤ (n : Int) := by omega
      clear hF hmul hm2 hM
      have HWR := Lib.hid hwr
      clear hwr
      go_wp2
      go_round
      case rel => exact ⟨j + 1, by omega, by omega, by go_num, by rw [HF.out, HWR.out]⟩
      case measure => simp [intOf]; omega
    · obtain rfl : j = n := by omega
      have i1 : ¬ ((j + 1 : Nat) : Int) ≤ (j : Int) := by omega
      go_wp2
      go_ret
      exact ⟨rfl, rfl⟩
theorem isPerm_any (a : Option Addr) (n c : Nat) (p : List Int) (w : World) (h1 : Row w a n p) (hm : n ≤ 9223372036854775807) :
    Calls Tryz.prog 62 #[.slice a n c] w fun e w' => e = .returned (.bool (rngB 1 12 n && permOk p)) ∧ w = w' := by
  go_enter Tryz.func62, Tryz.ntmps62
  go_wp2_with fail
  refine (l01Perm_any a n c p _ h1 hm).mono ?_
  rintro e w1 ⟨rfl, rfl⟩
  go_wp2
  go_ret
  exact ⟨rfl, rfl⟩
set_option maxHeartbeats 16000000 in
theorem image9_any (n : Nat) (at_ ap : Option Addr) (ct cp : Nat) (t : List (List Int)) (p : List Int) (w : World) (h1 : Tbl w at_ n t) (h2 : Row w ap n p) (hs : Sq n t) (hP : IsP n p) (hn0 : 1 ≤ n) (hn : n ≤ 12) :
    Calls Tryz.prog 20 #[.slice at_ n ct, .slice ap n cp] w fun e w' => ∃ a c vs, e = .returned (.slice a n c) ∧ OwnT w' w.heap.size a n c vs (rnL n t p) ∧ Below w.heap.size w w' := by
  have HP := Lib.hid hP
  have HS := Lib.hid hs
  have HPM : Hid ((rngB 1 12 n && permOk p) = true) := Lib.hid (by rw [isP_perm hP]; unfold rngB; simp; omega)
  clear hs hP
  have hO := OwnT.fresh w rfl
  have hQ := below_al (Below.refl w.heap.size w) (.cells #[] 41)
  have hnn : ((n : Int) != (n : Int)) = false := by simp
  go_enter Tryz.func20, Tryz.ntmps20
  go_wp2_with fail
  refine (isPerm_any ap n cp p _ h2 (by omega)).mono ?_
  rintro e w0 ⟨rfl, rfl⟩
  rw [HPM.out]
  clear hnn
  go_wp2
  go_loopw [5, 6] (fun z i wr => ∃ (k : Nat) (az : Option Addr) (cz : Nat) (vz : List SV), k ≤ n ∧ i = .int .i64 k ∧ z = .slice az k cz ∧ OwnT wr w.heap.size az k cz vz ((tabF n fun _ _ => 0).take k) ∧ Below w.heap.size w wr) (fun _ i _ => n - (intOf i).toNat)
  case atStart => exact ⟨0, _, 0, _, Nat.zero_le _, rfl, rfl, by simpa using hO, hQ⟩
  case round =>
    clear hO hQ
    obtain ⟨k, az, cz, vz, hk, rfl, rfl, ho, hq⟩ := hrel
    have hqs := hq.size
    by_cases hlt : k < n
    · have HZ := Lib.hid (zrow9 hlt)
      go_wp2_with (first | (at_make; refine make1 rfl rfl rfl rfl (by omega) ?_; intro w4 ho4 hs4 hb4; have hz4 := ho.below hb4) | (at_builtin; refine appT1 rfl rfl hz4 rfl (ho4.mono hqs) (fun g h1 h2 => by have h3 := ho.high _ h1; have h4 := ho4.lo _ h2; omega) (fun i hi g h1 h2 => by have h3 := ho4.lo _ h1; have h4 := (ho.row i hi).hi _ h2; omega) rfl (by omega) (by omega) ?_; intro g' cc w5 hO5 hb5))
      go_roundw
      case rel => exact ⟨k + 1, _, _, _, by omega, by go_num, rfl, by rw [HZ.out]; exact hO5, (hq.trans (hb4.mono hqs)).trans hb5⟩
      case measure => simp [intOf]; omega
    · obtain rfl : n = k := by omega
      rw [List.take_of_length_le (by rw [tabF_len]; exact Nat.le_refl _)] at ho
      obtain ⟨c1, rfl⟩ : ∃ c1, c1 = cz := ⟨_, rfl⟩
      obtain ⟨vs1, rfl⟩ : ∃ vs1, vs1 = vz := ⟨_, rfl⟩
      obtain ⟨gm, rfl, _⟩ := ho.cells (by omega)
      have HLO := Lib.hid ho.uLo
      obtain ⟨W1, rfl⟩ : ∃ W : World, W = wr := ⟨_, rfl⟩
      go_wp2
      go_loopw [7, 8] (fun i _ wr => ∃ (x : Nat) (V : Nat → Nat → Int), x ≤ n ∧ i = .int .i64 x ∧ OwnT wr w.heap.size (some ⟨gm, 0, none⟩) n c1 vs1 (tabF n V) ∧ Hid (ImgK n t p V x 0) ∧ Below w.heap.size w wr) (fun i _ _ => n - (intOf i).toNat)
      case atStart => exact ⟨0, _, Nat.zero_le _, rfl, ho, Lib.hid (fun x' y' _ _ h => by omega), hq⟩
      case round =>
        clear ho hq hqs
        obtain ⟨x, V, hx, rfl, ho, HV, hq⟩ := hrel
        by_cases hlt : x < n
        · go_wp2
          go_loopw [8] (fun j wr => ∃ (y : Nat) (V : Nat → Nat → Int), y ≤ n ∧ j = .int .i64 y ∧ OwnT wr w.heap.size (some ⟨gm, 0, none⟩) n c1 vs1 (tabF n V) ∧ Hid (ImgK n t p V x y) ∧ Below w.heap.size w wr) (fun j _ => n - (intOf j).toNat)
          case atStart => exact ⟨0, V, Nat.zero_le _, rfl, ho, HV, hq⟩
          case round =>
            clear ho hq
            obtain ⟨y, V, hy, rfl, ho, HV, hq⟩ := hrel
            obtain ⟨b, off, A, O, C, rfl, G0⟩ := h1.grid HS.out (by omega)
            have GR := (G0.below hq)
            have GX := GR.row x hlt
            have x1 : (0 : Int) ≤ (x : Int) := by omega
            have x2 : (x : Int) < (n : Int) := by omega
            by_cases hly : y < n
            · have G := GR.look hlt hly
              obtain ⟨u, hu, hun⟩ := HP.out.at hlt
              obtain ⟨v, hv, hvn⟩ := HP.out.at hly
              obtain ⟨bp, op, rfl, gu⟩ := (h2.below hq).at x hlt
              obtain ⟨bp', op', e', gv⟩ := (h2.below hq).at y hly
              cases e'
              have hz := HS.out.lt hlt hly
              obtain ⟨z, HZ⟩ : ∃ z, Hid (tv t x y = z) := ⟨_, rfl⟩
              rw [HZ.out] at G hz
              obtain ⟨bp'', op'', e'', gz⟩ := (h2.below hq).at z hz
              cases e''
              obtain ⟨Z, HZZ⟩ : ∃ Z, Hid (p.getD z 0 = Z) := ⟨_, rfl⟩
              rw [HZZ.out] at gz
              rw [hu] at gu
              rw [hv] at gv
              obtain ⟨gm', g1, cg, e3, ev, r1, hc1, ht1⟩ := ho.spotQ hun
              cases e3
              have k1 := (hc1 v hvn).1
              have f1 := (hc1 v hvn).2
              have hput := ho.putQ hun hvn ev Z
              have HST : Hid (ImgK n t p (updQ V u v Z) x (y + 1)) := Lib.hid (by
                have := ImgK.step HP.out HV.out hlt hly (u := u) (v := v) (by rw [hu, Int.toNat_natCast]) (by rw [hv, Int.toNat_natCast])
                rw [show imgI t p x y = Z by unfold imgI; rw [HZ.out, HZZ.out]] at this
                exact this)
              have hg1 : w.heap.size ≤ g1 := HLO.out g1 ht1
              have HPUT := Lib.hid hput
              have i1 : (0 : Int) ≤ (x : Int) := by omega
              have i2 : (x : Int) < (n : Int) := by omega
              have i3 : (0 : Int) ≤ (y : Int) := by omega
              have i4 : (y : Int) < (n : Int) := by omega
              have i5 : (0 : Int) ≤ (u : Int) := by omega
              have i6 : (u : Int) < (n : Int) := by omega
              have i7 : (0 : Int) ≤ (v : Int) := by omega
              have i8 : (v : Int) < (n : Int) := by omega
              have i9 : (0 : Int) ≤ (z : Int) := by omega
              have i10 : (z : Int) < (n : Int) := by omega
              obtain ⟨G1, G2⟩ := G
              have hq8 : Below w.heap.size w wr.drew := hq.drew
              have hput8 : Hid (OwnT (wr.drew.setCell ⟨g1, v, none⟩ (.int .i64 Z)) w.heap.size (some ⟨gm, 0, none⟩) n c1 vs1 (tabF n (updQ V u v Z))) := Lib.hid (hput.drewN 1)
              clear hu hv hc1 hput ho hq HPUT
              go_wp2
              refine wp_region_still_tail 22 (by kernel_rfl) (by kernel_rfl) ?_
              change wpStill _ _ wr.drew (fun a' => wpList _ _ _ _ a' wr.drew) _ _
              have G18 : wr.drew.cell? _ = _ := G1
              have G28 : wr.drew.cell? _ = _ := G2
              have gu8 : wr.drew.cell? _ = _ := gu
              have gv8 : wr.drew.cell? _ = _ := gv
              have gz8 : wr.drew.cell? _ = _ := gz
              have r18 : wr.drew.cell? _ = _ := r1
              have k18 : wr.drew.cell? _ = _ := k1
              have f18 : wr.drew.frozen? ⟨g1, v, none⟩ = false := f1
              clear G1 G2 gu gv gz r1 k1 f1
              generalize wr.drew = w8 at *
              simp only [List.take_succ_cons, List.take_zero, List.drop_succ_cons, List.drop_zero]
              repeat still_step
              refine wpStill_nil ?_
              go_wp2
              go_roundw
              case rel => exact ⟨y + 1, _, by omega, by go_num, hput8.out, HST, below_setne hq8 hg1 _⟩
              case measure => simp [intOf]; omega
            · obtain rfl : n = y := by omega
              go_wp2
              go_roundw
              case rel => exact ⟨x + 1, V, by omega, by go_num, ho, Lib.hid HV.out.next, hq⟩
              case measure => simp [intOf]; omega
        · obtain rfl : n = x := by omega
          go_wp2
          go_ret
          exact ⟨_, _, _, rfl, by rw [← ImgK.done HP.out HV.out]; exact ho, hq⟩
set_option maxHeartbeats 16000000 in
theorem l01Rename_any (n : Nat) (at_ ap : Option Addr) (ct cp : Nat) (t : List (List Int)) (p : List Int) (w : World) (h1 : Tbl w at_ n t) (h2 : Row w ap n p) (hs : Sq n t) (hP : IsP n p) (hn0 : 1 ≤ n) (hn : n ≤ 12) :
    Calls Tryz.prog 177 #[.slice at_ n ct, .slice ap n cp] w fun e w' => ∃ a c vs, e = .returned (.slice a n c) ∧ OwnT w' w.heap.size a n c vs (rnL n t p) ∧ Below w.heap.size w w' := by
  have HP := Lib.hid hP
  have HS := Lib.hid hs
  clear hs hP
  have hO := OwnT.fresh w rfl
  have hQ := below_al (Below.refl w.heap.size w) (.cells #[] 41)
  go_enter Tryz.func177, Tryz.ntmps177
  go_wp2
  go_loopw [5, 6] (fun z i wr => ∃ (k : Nat) (az : Option Addr) (cz : Nat) (vz : List SV), k ≤ n ∧ i = .int .i64 k ∧ z = .slice az k cz ∧ OwnT wr w.heap.size az k cz vz ((tabF n fun _ _ => 0).take k) ∧ Below w.heap.size w wr) (fun _ i _ => n - (intOf i).toNat)
  case atStart => exact ⟨0, _, 0, _, Nat.zero_le _, rfl, rfl, by simpa using hO, hQ⟩
  case round =>
    clear hO hQ
    obtain ⟨k, az, cz, vz, hk, rfl, rfl, ho, hq⟩ := hrel
    have hqs := hq.size
    by_cases hlt : k < n
    · have HZ := Lib.hid (zrow9 hlt)
      go_wp2_with (first | (at_make; refine make1 rfl rfl rfl rfl (by omega) ?_; intro w4 ho4 hs4 hb4; have hz4 := ho.below hb4) | (at_builtin; refine appT1 rfl rfl hz4 rfl (ho4.mono hqs) (fun g h1 h2 => by have h3 := ho.high _ h1; have h4 := ho4.lo _ h2; omega) (fun i hi g h1 h2 => by have h3 := ho4.lo _ h1; have h4 := (ho.row i hi).hi _ h2; omega) rfl (by omega) (by omega) ?_; intro g' cc w5 hO5 hb5))
      go_roundw
      case rel => exact ⟨k + 1, _, _, _, by omega, by go_num, rfl, by rw [HZ.out]; exact hO5, (hq.trans (hb4.mono hqs)).trans hb5⟩
      case measure => simp [intOf]; omega
    · obtain rfl : n = k := by omega
      rw [List.take_of_length_le (by rw [tabF_len]; exact Nat.le_refl _)] at ho
      obtain ⟨c1, rfl⟩ : ∃ c1, c1 = cz := ⟨_, rfl⟩
      obtain ⟨vs1, rfl⟩ : ∃ vs1, vs1 = vz := ⟨_, rfl⟩
      obtain ⟨gm, rfl, _⟩ := ho.cells (by omega)
      have HLO := Lib.hid ho.uLo
      obtain ⟨W1, rfl⟩ : ∃ W : World, W = wr := ⟨_, rfl⟩
      go_wp2
      go_loopw [7, 8, 9] (fun i _ _ wr => ∃ (x : Nat) (V : Nat → Nat → Int), x ≤ n ∧ i = .int .i64 x ∧ OwnT wr w.heap.size (some ⟨gm, 0, none⟩) n c1 vs1 (tabF n V) ∧ Hid (ImgK n t p V x 0) ∧ Below w.heap.size w wr) (fun i _ _ _ => n - (intOf i).toNat)
      case atStart => exact ⟨0, _, Nat.zero_le _, rfl, ho, Lib.hid (fun x' y' _ _ h => by omega), hq⟩
      case round =>
        clear ho hq hqs
        obtain ⟨x, V, hx, rfl, ho, HV, hq⟩ := hrel
        by_cases hlt : x < n
        · obtain ⟨u, hu, hun⟩ := HP.out.at hlt
          obtain ⟨bp, op, rfl, gu⟩ := (h2.below hq).at x hlt
          rw [hu] at gu
          obtain ⟨gm', g1, cg, e3, ev, r1, hc1, ht1⟩ := ho.spotQ hun
          cases e3
          have hg1 : w.heap.size ≤ g1 := HLO.out g1 ht1
          have HEV := Lib.hid ev
          have i1 : (0 : Int) ≤ (x : Int) := by omega
          have i2 : (x : Int) < (n : Int) := by omega
          have i5 : (0 : Int) ≤ (u : Int) := by omega
          have i6 : (u : Int) < (n : Int) := by omega
          clear ev hc1 ht1
          go_wp2
          go_loopw [9] (fun j wr => ∃ (y : Nat) (V : Nat → Nat → Int), y ≤ n ∧ j = .int .i64 y ∧ OwnT wr w.heap.size (some ⟨gm, 0, none⟩) n c1 vs1 (tabF n V) ∧ Hid (ImgK n t p V x y) ∧ Below w.heap.size w wr) (fun j _ => n - (intOf j).toNat)
          case atStart => exact ⟨0, V, Nat.zero_le _, rfl, ho, HV, hq⟩
          case round =>
            clear ho hq r1 gu
            obtain ⟨y, V, hy, rfl, ho, HV, hq⟩ := hrel
            obtain ⟨b, off, A, O, C, rfl, G0⟩ := h1.grid HS.out (by omega)
            have GR := (G0.below hq)
            by_cases hly : y < n
            · have G := GR.look hlt hly
              obtain ⟨v, hv, hvn⟩ := HP.out.at hly
              obtain ⟨bp', op', e', gv⟩ := (h2.below hq).at y hly
              cases e'
              have hz := HS.out.lt hlt hly
              obtain ⟨z, HZ⟩ : ∃ z, Hid (tv t x y = z) := ⟨_, rfl⟩
              rw [HZ.out] at G hz
              obtain ⟨bp'', op'', e'', gz⟩ := (h2.below hq).at z hz
              cases e''
              obtain ⟨Z, HZZ⟩ : ∃ Z, Hid (p.getD z 0 = Z) := ⟨_, rfl⟩
              rw [HZZ.out] at gz
              rw [hv] at gv
              obtain ⟨gm', g1', cg', e3, ev, r1, hc1, ht1⟩ := ho.spotQ hun
              cases e3
              have ev' := HEV.out.symm.trans ev
              cases ev'
              have ev := HEV.out
              have k1 := (hc1 v hvn).1
              have f1 := (hc1 v hvn).2
              have hput := ho.putQ hun hvn ev Z
              have HST : Hid (ImgK n t p (updQ V u v Z) x (y + 1)) := Lib.hid (by
                have := ImgK.step HP.out HV.out hlt hly (u := u) (v := v) (by rw [hu, Int.toNat_natCast]) (by rw [hv, Int.toNat_natCast])
                rw [show imgI t p x y = Z by unfold imgI; rw [HZ.out, HZZ.out]] at this
                exact this)
              have HPUT := Lib.hid hput
              have i3 : (0 : Int) ≤ (y : Int) := by omega
              have i4 : (y : Int) < (n : Int) := by omega
              have i7 : (0 : Int) ≤ (v : Int) := by omega
              have i8 : (v : Int) < (n : Int) := by omega
              have i9 : (0 : Int) ≤ (z : Int) := by omega
              have i10 : (z : Int) < (n : Int) := by omega
              obtain ⟨G1, G2⟩ := G
              have hq8 : Below w.heap.size w wr.drew := hq.drew
              have hput8 : Hid (OwnT (wr.drew.setCell ⟨g1, v, none⟩ (.int .i64 Z)) w.heap.size (some ⟨gm, 0, none⟩) n c1 vs1 (tabF n (updQ V u v Z))) := Lib.hid (hput.drewN 1)
              clear hv hc1 hput ho hq HPUT ht1 ev
              go_wp2
              refine wp_region_still_tail 16 (by kernel_rfl) (by kernel_rfl) ?_
              change wpStill _ _ wr.drew (fun a' => wpList _ _ _ _ a' wr.drew) _ _
              have G18 : wr.drew.cell? _ = _ := G1
              have G28 : wr.drew.cell? _ = _ := G2
              have gv8 : wr.drew.cell? _ = _ := gv
              have gz8 : wr.drew.cell? _ = _ := gz
              have k18 : wr.drew.cell? _ = _ := k1
              have f18 : wr.drew.frozen? ⟨g1, v, none⟩ = false := f1
              clear G1 G2 gv gz r1 k1 f1
              generalize wr.drew = w8 at *
              simp only [List.take_succ_cons, List.take_zero, List.drop_succ_cons, List.drop_zero]
              repeat still_step
              refine wpStill_nil ?_
              go_wp2
              go_roundw
              case rel => exact ⟨y + 1, _, by omega, by go_num, hput8.out, HST, below_setne hq8 hg1 _⟩
              case measure => simp [intOf]; omega
            · obtain rfl : n = y := by omega
              go_wp2
              go_roundw
              case rel => exact ⟨x + 1, V, by omega, by go_num, ho, Lib.hid HV.out.next, hq⟩
              case measure => simp [intOf]; omega
        · obtain rfl : n = x := by omega
          go_wp2
          go_ret
          exact ⟨_, _, _, rfl, by rw [← ImgK.done HP.out HV.out]; exact ho, hq⟩
set_option maxHeartbeats 8000000 in
theorem l02Rename_any (n : Nat) (a a' ap : Option Addr) (c c' cp : Nat) (f g : List (List Int)) (p : List Int) (w : World) (h1 : Tbl w a n f) (h2 : Tbl w a' n g) (h3 : Row w ap n p) (hf : Sq n f) (hg : Sq n g) (hP : IsP n p) (hn0 : 1 ≤ n) (hn : n ≤ 12) :
    Calls Tryz.prog 150 #[sAgg a n c a' n c', .slice ap n cp] w (SolB w n) := by
  obtain ⟨w0, hw0⟩ : ∃ w0, (w.alloc (.cells #[.slice a n c, .slice a' n c'] 53)).alloc (.cells #[.slice none 0 0, .slice none 0 0] 53) = w0 := ⟨_, rfl⟩
  have hA : Loc w0 w.heap.size #[.slice a n c, .slice a' n c'] 53 := by rw [← hw0]; exact (Loc.new w rfl _ _).alloc _
  have hR : Loc w0 (w.heap.size + 1) #[.slice none 0 0, .slice none 0 0] 53 := by rw [← hw0]; exact Loc.new _ (by simp) _ _
  have hB0 : Below w.heap.size w w0 := by rw [← hw0]; exact below_al (below_al (Below.refl _ _) _) _
  have HF := Lib.hid hf; have HG := Lib.hid hg; have HP := Lib.hid hP
  have HSF := Lib.hid (rnL_sq hP hf); have HSG := Lib.hid (rnL_sq hP hg)
  have HW0 := Lib.hid hw0
  clear hf hg hP hw0
  have lA := hA.two
  have hAl := hA.lt
  have hRl := hR.lt
  go_enter Tryz.func150, Tryz.ntmps150
  go_upto_region 1 with fail
  rw [HW0.out]
  have tok1 : True := trivial
  go_region_held3 (fun w' => w'.cell? ⟨w.heap.size, 0, none⟩ = some (.slice a n c) ∧ w'.cell? ⟨w.heap.size, 1, none⟩ = some (.slice a' n c'))
    (first | exact ⟨lM.1, lM.2.1⟩ | exact ⟨lC.1, lC.2.1⟩ | exact ⟨lB.1, lB.2.1⟩ | exact ⟨lA.1, lA.2.1⟩ | go_keep)
    (first
      | (go_at_call 177; have _t := tok1; refine (l01Rename_any n a ap c cp f p _ (h1.below (below_drewN hB0 1)) (h3.below (below_drewN hB0 1)) HF.out HP.out hn0 hn).mono ?_; rintro e w2 ⟨a2, c2, vs2, rfl, ho2, hb2⟩; clear _t tok1; have tok2 : True := trivial; have hq2 : Below w0.heap.size w0 w2 := below_th (below_drewN (Below.refl _ _) 1) hb2; have lB := (hA.below hq2 hAl).two)
      | (go_at_call 177; have _t := tok2; refine (l01Rename_any n a' ap c' cp g p _ (h2.below (below_th hB0 hq2)) (h3.below (below_th hB0 hq2)) HG.out HP.out hn0 hn).mono ?_; rintro e w3 ⟨a3, c3, vs3, rfl, ho3, hb3⟩; clear _t tok2; have hq3 : Below w0.heap.size w0 w3 := below_th hq2 hb3; have lC := (hA.below hq3 hAl).two; have lRr := (hR.below hq3 hRl).two; have lM := (((hA.below hq3 hAl).setne (a := ⟨w.heap.size + 1, 0, none⟩) (by show w.heap.size ≠ w.heap.size + 1; omega) (.slice a2 n c2)).setne (a := ⟨w.heap.size + 1, 1, none⟩) (by show w.heap.size ≠ w.heap.size + 1; omega) (.slice a3 n c3)).two))
  all_goals
    have hR3 := hR.below hq3 hRl
    have lR := hR3.two
    have hz2 := hq2.size
    have hz3 := hb3.size
    have ho23 := (ho2.mono (lo' := w0.heap.size) (Nat.le_refl _)).below hb3
    have hap : ∀ q, TblS a2 n vs2 q → ¬ TblS a3 n vs3 q := fun q e1 e2 => by have := ho2.uHi q e1; have := ho3.uLo q e2; omega
    have hB3 := below_th hB0 hq3
    go_wp2
    refine bodyPost_ret (v := sAgg a2 n c2 a3 n c3) (by simp [results, Tryz.results150, go_sem, lR]) rfl ⟨a2, c2, vs2, _, a3, c3, vs3, _, rfl, ⟨?_, ?_, hap⟩, HSF.out, HSG.out, ?_⟩
    · exact ((ho23.setlo (by show w.heap.size + 1 < w0.heap.size; omega) _).setlo (by show w.heap.size + 1 < w0.heap.size; omega) _).mono (by omega)
    · exact ((ho3.setlo (by show w.heap.size + 1 < w2.heap.size; omega) _).setlo (by show w.heap.size + 1 < w2.heap.size; omega) _).mono (by omega)
    · exact below_setne (below_setne hB3 (by show w.heap.size ≤ w.heap.size + 1; omega) _) (by show w.heap.size ≤ w.heap.size + 1; omega) _
end Go.Proofs.YtaddclaadbjnlaaGreat
