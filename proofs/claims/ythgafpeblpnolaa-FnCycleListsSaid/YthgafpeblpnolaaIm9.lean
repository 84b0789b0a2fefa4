/-
  What the laws' helpers make: factorials and images of tables.
  No condition but bounds.
-/
import Derived.Test.YthgafpeblpnolaaBase3
namespace Go.Proofs.Ythgafpeblpnolaa
set_option maxRecDepth 100000
set_option linter.unusedVariables false
set_option linter.unusedSimpArgs false
open Go.RowKit

theorem zrow9 {N k : Nat} (h : k < N) : (tabF N fun _ _ => 0).take (k + 1) = (tabF N fun _ _ => 0).take k ++ [List.replicate N 0] := by
  have hl : k < (tabF N fun _ _ => 0).length := by rw [tabF_len]; exact h
  rw [List.take_succ_eq_append_getElem hl]
  congr 2
  simp only [tabF, List.getElem_map]
  apply List.ext_getElem
  · simp
  · intro i h1 h2; simp
def facN : Nat → Nat
  | 0 => 1
  | n + 1 => (n + 1) * facN n
theorem facN_bd : ∀ k : Fin 5, facN k.1 ≤ 24 := by decide
set_option maxHeartbeats 2000000 in
theorem fact9_any (n : Nat) (w : World) (h1 : 1 ≤ n) (h4 : n ≤ 4) :
    Calls Try.prog 16 #[.int .i64 n] w fun e w' => e = .returned (.int .i64 (facN n)) ∧ w' = w := by
  go_enter Try.func16, Try.ntmps16
  go_wp2
  go_loop [3, 4] (fun o k => ∃ j : Nat, 1 ≤ j ∧ j ≤ n ∧ k = .int .i64 ((j + 1 : Nat) : Int) ∧ o = .int .i64 ((facN j : Nat) : Int)) (fun _ k => n + 1 - (intOf k).toNat)
  case atStart => exact ⟨1, by omega, h1, rfl, rfl⟩
  case round =>
    obtain ⟨j, hj1, hj, rfl, rfl⟩ := hrel
    have hb := facN_bd ⟨j, by omega⟩
    have hb : facN j ≤ 24 := hb
    have HF : Hid (facN (j + 1) = (j + 1) * facN j) := Lib.hid rfl
    obtain ⟨F, hF⟩ : ∃ F, facN j = F := ⟨_, rfl⟩
    rw [hF] at HF hb ⊢
    by_cases hlt : j < n
    · have hmul : (j + 1) * F ≤ 5 * 24 := Nat.mul_le_mul (by omega) hb
      have hm2 : (F : Int) * ((j : Int) + 1) = (((j + 1) * F : Nat) : Int) := by push_cast; rw [Int.mul_comm]
      obtain ⟨M, hM⟩ : ∃ M, (j + 1) * F = M := ⟨_, rfl⟩
      rw [hM] at hm2 hmul HF
      have hwr : wrap64 ((F : Int) * ((j : Int) + 1)) = (M : Int) := by rw [hm2]; unfold wrap64; omega
      have i1 : ((j + 1 : Nat) : Int) ≤ (n : Int) := by omega
      clear hF hmul hm2 hM
      have HWR := Lib.hid hwr
      clear hwr
      go_wp2
      go_round
      case rel => exact ⟨j + 1, by omega, by omega, by go_num, by rw [HF.out, HWR.out]⟩
      case measure => simp [intOf]; omega
    · obtain rfl : j = n := by omega
      have i1 : ¬ ((j + 1 : Nat) : Int) ≤ (j : Int) := by omega
      go_wp2
      go_ret
      exact ⟨rfl, rfl⟩

theorem isPerm_any (a : Option Addr) (n c : Nat) (p : List Int) (w : World) (h1 : Row w a n p) (hm : n ≤ 9223372036854775807) :
    Calls Try.prog 45 #[.slice a n c] w fun e w' => e = .returned (.bool (rngB 1 12 n && permOk p)) ∧ w = w' := by
  go_enter Try.func45, Try.ntmps45
  go_wp2_with fail
  refine (l01Perm_any a n c p _ h1 hm).mono ?_
  rintro e w1 ⟨rfl, rfl⟩
  go_wp2
  go_ret
  exact ⟨rfl, rfl⟩
set_option maxHeartbeats 16000000 in
theorem image9_any (n : Nat) (at_ ap : Option Addr) (ct cp : Nat) (t : List (List Int)) (p : List Int) (w : World) (h1 : Tbl w at_ n t) (h2 : Row w ap n p) (hs : Sq n t) (hP : IsP n p) (hn0 : 1 ≤ n) (hn : n ≤ 12) :
    Calls Try.prog 19 #[.slice at_ n ct, .slice ap n cp] w fun e w' => ∃ a c vs, e = .returned (.slice a n c) ∧ OwnT w' w.heap.size a n c vs (rnL n t p) ∧ Below w.heap.size w w' := by
  have HP := Lib.hid hP
  have HS := Lib.hid hs
  have HPM : Hid ((rngB 1 12 n && permOk p) = true) := Lib.hid (by rw [isP_perm hP]; unfold rngB; simp; omega)
  clear hs hP
  have hO := OwnT.fresh w rfl
  have hQ := below_al (Below.refl w.heap.size w) (.cells #[] 46)
  have hnn : ((n : Int) != (n : Int)) = false := by simp
  go_enter Try.func19, Try.ntmps19
  go_wp2_with fail
  refine (isPerm_any ap n cp p _ h2 (by omega)).mono ?_
  rintro e w0 ⟨rfl, rfl⟩
  rw [HPM.out]
  clear hnn
  go_wp2
  go_loopw [5, 6] (fun z i wr => ∃ (k : Nat) (az : Option Addr) (cz : Nat) (vz : List SV), k ≤ n ∧ i = .int .i64 k ∧ z = .slice az k cz ∧ OwnT wr w.heap.size az k cz vz ((tabF n fun _ _ => 0).take k) ∧ Below w.heap.size w wr) (fun _ i _ => n - (intOf i).toNat)
  case atStart => exact ⟨0, _, 0, _, Nat.zero_le _, rfl, rfl, by simpa using hO, hQ⟩
  case round =>
    clear hO hQ
    obtain ⟨k, az, cz, vz, hk, rfl, rfl, ho, hq⟩ := hrel
    have hqs := hq.size
    by_cases hlt : k < n
    · have HZ := Lib.hid (zrow9 hlt)
      go_wp2_with (first | (at_make; refine make1 rfl rfl rfl rfl (by omega) ?_; intro w4 ho4 hs4 hb4; have hz4 := ho.below hb4) | (at_builtin; refine appT1 rfl rfl hz4 rfl (ho4.mono hqs) (fun g h1 h2 => by have h3 := ho.high _ h1; have h4 := ho4.lo _ h2; omega) (fun i hi g h1 h2 => by have h3 := ho4.lo _ h1; have h4 := (ho.row i hi).hi _ h2; omega) rfl (by omega) (by omega) ?_; intro g' cc w5 hO5 hb5))
      go_roundw
      case rel => exact ⟨k + 1, _, _, _, by omega, by go_num, rfl, by rw [HZ.out]; exact hO5, (hq.trans (hb4.mono hqs)).trans hb5⟩
      case measure => simp [intOf]; omega
    · obtain rfl : n = k := by omega
      rw [List.take_of_length_le (by rw [tabF_len]; exact Nat.le_refl _)] at ho
      obtain ⟨c1, rfl⟩ : ∃ c1, c1 = cz := ⟨_, rfl⟩
      obtain ⟨vs1, rfl⟩ : ∃ vs1, vs1 = vz := ⟨_, rfl⟩
      obtain ⟨gm, rfl, _⟩ := ho.cells (by omega)
      have HLO := Lib.hid ho.uLo
      obtain ⟨W1, rfl⟩ : ∃ W : World, W = wr := ⟨_, rfl⟩
      go_wp2
      go_loopw [7, 8] (fun i _ wr => ∃ (x : Nat) (V : Nat → Nat → Int), x ≤ n ∧ i = .int .i64 x ∧ OwnT wr w.heap.size (some ⟨gm, 0, none⟩) n c1 vs1 (tabF n V) ∧ Hid (ImgK n t p V x 0) ∧ Below w.heap.size w wr) (fun i _ _ => n - (intOf i).toNat)
      case atStart => exact ⟨0, _, Nat.zero_le _, rfl, ho, Lib.hid (fun x' y' _ _ h => by omega), hq⟩
      case round =>
        clear ho hq hqs
        obtain ⟨x, V, hx, rfl, ho, HV, hq⟩ := hrel
        by_cases hlt : x < n
        · go_wp2
          go_loopw [8] (fun j wr => ∃ (y : Nat) (V : Nat → Nat → Int), y ≤ n ∧ j = .int .i64 y ∧ OwnT wr w.heap.size (some ⟨gm, 0, none⟩) n c1 vs1 (tabF n V) ∧ Hid (ImgK n t p V x y) ∧ Below w.heap.size w wr) (fun j _ => n - (intOf j).toNat)
          case atStart => exact ⟨0, V, Nat.zero_le _, rfl, ho, HV, hq⟩
          case round =>
            clear ho hq
            obtain ⟨y, V, hy, rfl, ho, HV, hq⟩ := hrel
            obtain ⟨b, off, A, O, C, rfl, G0⟩ := h1.grid HS.out (by omega)
            have GR := (G0.below hq)
            have GX := GR.row x hlt
            have x1 : (0 : Int) ≤ (x : Int) := by omega
            have x2 : (x : Int) < (n : Int) := by omega
            by_cases hly : y < n
            · have G := GR.look hlt hly
              obtain ⟨u, hu, hun⟩ := HP.out.at hlt
              obtain ⟨v, hv, hvn⟩ := HP.out.at hly
              obtain ⟨bp, op, rfl, gu⟩ := (h2.below hq).at x hlt
              obtain ⟨bp', op', e', gv⟩ := (h2.below hq).at y hly
              cases e'
              have hz := HS.out.lt hlt hly
              obtain ⟨z, HZ⟩ : ∃ z, Hid (tv t x y = z) := ⟨_, rfl⟩
              rw [HZ.out] at G hz
              obtain ⟨bp'', op'', e'', gz⟩ := (h2.below hq).at z hz
              cases e''
              obtain ⟨Z, HZZ⟩ : ∃ Z, Hid (p.getD z 0 = Z) := ⟨_, rfl⟩
              rw [HZZ.out] at gz
              rw [hu] at gu
              rw [hv] at gv
              obtain ⟨gm', g1, cg, e3, ev, r1, hc1, ht1⟩ := ho.spotQ hun
              cases e3
              have k1 := (hc1 v hvn).1
              have f1 := (hc1 v hvn).2
              have hput := ho.putQ hun hvn ev Z
              have HST : Hid (ImgK n t p (updQ V u v Z) x (y + 1)) := Lib.hid (by
                have := ImgK.step HP.out HV.out hlt hly (u := u) (v := v) (by rw [hu, Int.toNat_natCast]) (by rw [hv, Int.toNat_natCast])
                rw [show imgI t p x y = Z by unfold imgI; rw [HZ.out, HZZ.out]] at this
                exact this)
              have hg1 : w.heap.size ≤ g1 := HLO.out g1 ht1
              have HPUT := Lib.hid hput
              have i1 : (0 : Int) ≤ (x : Int) := by omega
              have i2 : (x : Int) < (n : Int) := by omega
              have i3 : (0 : Int) ≤ (y : Int) := by omega
              have i4 : (y : Int) < (n : Int) := by omega
              have i5 : (0 : Int) ≤ (u : Int) := by omega
              have i6 : (u : Int) < (n : Int) := by omega
              have i7 : (0 : Int) ≤ (v : Int) := by omega
              have i8 : (v : Int) < (n : Int) := by omega
              have i9 : (0 : Int) ≤ (z : Int) := by omega
              have i10 : (z : Int) < (n : Int) := by omega
              obtain ⟨G1, G2⟩ := G
              have hq8 : Below w.heap.size w wr.drew := hq.drew
              have hput8 : Hid (OwnT (wr.drew.setCell ⟨g1, v, none⟩ (.int .i64 Z)) w.heap.size (some ⟨gm, 0, none⟩) n c1 vs1 (tabF n (updQ V u v Z))) := Lib.hid (hput.drewN 1)
              clear hu hv hc1 hput ho hq HPUT
              go_wp2
              refine wp_region_still_tail 22 (by kernel_rfl) (by kernel_rfl) ?_
              change wpStill _ _ wr.drew (fun a' => wpList _ _ _ _ a' wr.drew) _ _
              have G18 : wr.drew.cell? _ = _ := G1
              have G28 : wr.drew.cell? _ = _ := G2
              have gu8 : wr.drew.cell? _ = _ := gu
              have gv8 : wr.drew.cell? _ = _ := gv
              have gz8 : wr.drew.cell? _ = _ := gz
              have r18 : wr.drew.cell? _ = _ := r1
              have k18 : wr.drew.cell? _ = _ := k1
              have f18 : wr.drew.frozen? ⟨g1, v, none⟩ = false := f1
              clear G1 G2 gu gv gz r1 k1 f1
              generalize wr.drew = w8 at *
              simp only [List.take_succ_cons, List.take_zero, List.drop_succ_cons, List.drop_zero]
              repeat still_step
              refine wpStill_nil ?_
              go_wp2
              go_roundw
              case rel => exact ⟨y + 1, _, by omega, by go_num, hput8.out, HST, below_setne hq8 hg1 _⟩
              case measure => simp [intOf]; omega
            · obtain rfl : n = y := by omega
              go_wp2
              go_roundw
              case rel => exact ⟨x + 1, V, by omega, by go_num, ho, Lib.hid HV.out.next, hq⟩
              case measure => simp [intOf]; omega
        · obtain rfl : n = x := by omega
          go_wp2
          go_ret
          exact ⟨_, _, _, rfl, by rw [← ImgK.done HP.out HV.out]; exact ho, hq⟩
end Go.Proofs.Ythgafpeblpnolaa
