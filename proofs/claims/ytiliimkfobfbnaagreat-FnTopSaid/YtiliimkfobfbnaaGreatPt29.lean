/-
  Walks and plain laws of this seat, some texts in one.
  No condition but bounds on lengths.
-/
import Derived.Test.YtiliimkfobfbnaaGreatPt28
namespace Go.Proofs.YtiliimkfobfbnaaGreat
set_option maxRecDepth 100000
set_option linter.unusedVariables false
set_option linter.unusedSimpArgs false
open Go.RowKit
def RefR (n : Nat) (R : Option (List Int × List Int)) (w : World) (e : Ending) (w' : World) : Prop :=
  Below w.heap.size w w' ∧ match R with
  | none => ∃ a b c1 c2 m1 m2, e = .returned (.tuple #[.slice a m1 c1, .slice b m2 c2, .bool false])
  | some r => ∃ a b c1 c2, e = .returned (.tuple #[.slice a n c1, .slice b n c2, .bool true]) ∧ RowN w.heap.size w' a n r.1 ∧ RowN w.heap.size w' b n r.2 ∧ Less 61 r.1 ∧ Less 61 r.2
theorem refF_some {T : List (List Int)} {n : Nat} : ∀ {k : Nat} {c d : List Int} {num : Nat} {R : Option (List Int × List Int)}, refF T n k c d num = some R → ∃ j, k = j + 1 ∧
    (balB n (nmkL (mrks T n c d)) (kndF [] (mrks T n c d)).length = true → ((kndF [] (mrks T n c d)).length = num → R = some ((nmkL (mrks T n c d)).take n, (nmkL (mrks T n c d)).drop n)) ∧ (¬ (kndF [] (mrks T n c d)).length = num → refF T n j ((nmkL (mrks T n c d)).take n) ((nmkL (mrks T n c d)).drop n) (kndF [] (mrks T n c d)).length = some R)) ∧
    (balB n (nmkL (mrks T n c d)) (kndF [] (mrks T n c d)).length = false → R = none) := by
  intro k c d num R h
  cases k with
  | zero => cases h
  | succ j =>
    refine ⟨j, rfl, fun hb => ⟨fun e => ?_, fun e => ?_⟩, fun hb => ?_⟩
    · unfold refF at h; rw [if_pos hb, if_pos e] at h; exact (Option.some.inj h).symm
    · unfold refF at h; rw [if_pos hb, if_neg e] at h; exact h
    · unfold refF at h; rw [hb] at h; exact (Option.some.inj h).symm
set_option maxHeartbeats 16000000 in
theorem l03Refine_any (n : Nat) (a b ac ad : Option Addr) (c1 c2 c3 c4 : Nat) (T : List (List Int)) (c d : List Int) (w : World) (k0 : Nat) (R : Option (List Int × List Int)) (ha : TbS w a 1 [T]) (hb : TbS w b 1 [T]) (hT : Sq n T) (hc : Row w ac n c) (hd : Row w ad n d) (hlc : Less 61 c) (hld : Less 61 d) (h1 : 1 ≤ n) (hn : n ≤ 12) (hR : refF T n k0 c d 0 = some R) :
    Calls Tryz.prog 158 #[.slice a 1 c1, .slice b 1 c2, .slice ac n c3, .slice ad n c4] w (RefR n R w) := by
  have HR := Lib.hid hR
  have HPOST : Hid (∀ e w', RefR n R w e w' → RefR n R w e w') := Lib.hid fun _ _ h => h
  clear hR
  generalize hPP : RefR n R w = PP at HPOST ⊢
  have HPP := Lib.hid hPP
  clear hPP HPOST
  go_enter Tryz.func158, Tryz.ntmps158
  go_wp2
  go_loopg [2, 3, 12] k0 (fun k s2 s3 i wr => ∃ (num : Nat) (c d : List Int) (a2 a3 : Option Addr) (c2 c3 : Nat), num ≤ 1000 ∧ i = .int .i64 num ∧ s2 = .slice a2 n c2 ∧ s3 = .slice a3 n c3 ∧ Row wr a2 n c ∧ Row wr a3 n d ∧ Hid (Less 61 c) ∧ Hid (Less 61 d) ∧ Hid (refF T n k c d num = some R) ∧ Below w.heap.size w wr)
  case atStart => exact ⟨0, c, d, ac, ad, c3, c4, by omega, rfl, rfl, rfl, hc, hd, Lib.hid hlc, Lib.hid hld, HR, Below.refl _ _⟩
  case round =>
    clear hc hd hlc hld HR
    obtain ⟨num, c, d, a2, a3, c2, c3, hnum, rfl, rfl, rfl, hc, hd, HLC, HLD, HR, hbU⟩ := hrel
    obtain ⟨U, rfl⟩ : ∃ U : World, U = wr := ⟨_, rfl⟩
    obtain ⟨gj, hgk, HYES, HNO⟩ := refF_some HR.out
    subst hgk
    have HYES := Lib.hid HYES; have HNO := Lib.hid HNO
    have hUs := hbU.size
    obtain ⟨L, HL⟩ : ∃ L, Hid (mrks T n c d = L) := ⟨_, Lib.hid rfl⟩
    have HLl : Hid (L.length = n + n) := Lib.hid (by rw [← HL.out]; exact mrks_len T n c d)
    have HLa : Hid (∀ x, x < n → L.take (x + 1) = L.take x ++ [mrkF T n c x]) := Lib.hid fun x hx => by rw [← HL.out]; exact mrks_a T n c d hx
    have HLb : Hid (∀ x, x < n → L.take (n + x + 1) = L.take (n + x) ++ [mrkF T n d x]) := Lib.hid fun x hx => by rw [← HL.out]; exact mrks_b T n c d hx
    rw [HL.out] at HYES HNO
    have HA := Lib.hid (ha.below hbU); have HB := Lib.hid (hb.below hbU)
    have hz0 := OwnT.fresh U rfl
    have hq0 := below_al (Below.refl U.heap.size U) (.cells #[] 50)
    go_wp2
    go_loopw [13, 14] (fun z i wq => ∃ (x : Nat) (az : Option Addr) (cz : Nat) (vz : List SV), x ≤ n ∧ i = .int .i64 x ∧ z = .slice az (x) cz ∧ OwnT wq U.heap.size az (x) cz vz (L.take (x)) ∧ Below U.heap.size U wq) (fun _ i _ => n - (intOf i).toNat)
    case atStart => exact ⟨0, _, _, _, Nat.zero_le _, rfl, rfl, by simpa using hz0, hq0⟩
    case round =>
      clear hz0 hq0
      obtain ⟨x, az, cz, vz, hx, rfl, rfl, hz, hq⟩ := hrel
      obtain ⟨V, rfl⟩ : ∃ V : World, V = wr := ⟨_, rfl⟩
      have hVs := hq.size
      have hzhi := hz.uHi
      by_cases hlt : x < n
      · have HST := Lib.hid (HLa.out x hlt)
        have TB := HA.out.below hq
        have RC := hc.below hq
        go_wp2_with fail
        refine (l03Mark_any n x _ _ _ _ T c _ TB hT RC HLC.out hlt hn).mono ?_
        rintro e w5 ⟨a5, c5, rfl, ho5, hb5⟩
        have ho5lo := ho5.lo
        have hz5 := hz.below hb5
        have hB5 := hq.trans (hb5.mono hVs)
        have hs5 := hb5.size
        clear TB RC
        go_wp2_with (at_builtin; refine appT1 rfl rfl hz5 rfl (ho5.mono hVs) (fun g h1 h2 => by have h3 := hzhi _ (.inl h1); have h4 := ho5lo _ h2; omega) (fun i hi g h1 h2 => by have h3 := ho5lo _ h1; have h4 := hzhi _ (.inr ⟨i, hi, h2⟩); omega) rfl (by omega) (by omega) ?_; intro g6 cc6 w6 hOT6 hb6)
        go_roundw
        case rel => exact ⟨x + 1, _, _, _, by omega, by go_num, rfl, by rw [HST.out]; exact hOT6, hB5.trans hb6⟩
        case measure => simp [intOf]; omega
      · obtain rfl : n = x := by omega
        clear HLa
        have hz0 := hz
        have hq0 := hq
        clear hz hq
        go_wp2
        go_loopw [13, 15] (fun z i wq => ∃ (x : Nat) (az : Option Addr) (cz : Nat) (vz : List SV), x ≤ n ∧ i = .int .i64 x ∧ z = .slice az (n + x) cz ∧ OwnT wq U.heap.size az (n + x) cz vz (L.take (n + x)) ∧ Below U.heap.size U wq) (fun _ i _ => n - (intOf i).toNat)
        case atStart => exact ⟨0, _, _, _, Nat.zero_le _, rfl, rfl, hz0, hq0⟩
        case round =>
          clear hz0 hq0
          obtain ⟨x, az, cz, vz, hx, rfl, rfl, hz, hq⟩ := hrel
          obtain ⟨V, rfl⟩ : ∃ V : World, V = wr := ⟨_, rfl⟩
          have hVs := hq.size
          have hzhi := hz.uHi
          by_cases hlt : x < n
          · have HST := Lib.hid (HLb.out x hlt)
            have TB := HB.out.below hq
            have RC := hd.below hq
            go_wp2_with fail
            refine (l03Mark_any n x _ _ _ _ T d _ TB hT RC HLD.out hlt hn).mono ?_
            rintro e w5 ⟨a5, c5, rfl, ho5, hb5⟩
            have ho5lo := ho5.lo
            have hz5 := hz.below hb5
            have hB5 := hq.trans (hb5.mono hVs)
            have hs5 := hb5.size
            clear TB RC
            go_wp2_with (at_builtin; refine appT1 rfl rfl hz5 rfl (ho5.mono hVs) (fun g h1 h2 => by have h3 := hzhi _ (.inl h1); have h4 := ho5lo _ h2; omega) (fun i hi g h1 h2 => by have h3 := ho5lo _ h1; have h4 := hzhi _ (.inr ⟨i, hi, h2⟩); omega) rfl (by omega) (by omega) ?_; intro g6 cc6 w6 hOT6 hb6)
            go_roundw
            case rel => exact ⟨x + 1, _, _, _, by omega, by go_num, rfl, by rw [show n + (x + 1) = n + x + 1 by omega, HST.out]; exact hOT6, hB5.trans hb6⟩
            case measure => simp [intOf]; omega
          · obtain rfl : n = x := by omega
            clear HLb
            have hz := hz.tbl
            rw [List.take_of_length_le (by have := HLl.out; omega)] at hz
            obtain ⟨K, hK⟩ : ∃ K, n + n = K := ⟨_, rfl⟩
            rw [hK] at hz HLl ⊢
            have HKn := Lib.hid hK
            have hK2 : 2 ≤ K := by omega
            have hK24 : K ≤ 24 := by omega
            clear hK
            obtain ⟨mb, mo, _, _, _, rfl, _⟩ := hz.at 0 (by omega)
            obtain ⟨M, rfl⟩ : ∃ M : World, M = V := ⟨_, rfl⟩
            have HZ := Lib.hid hz
            have hqM := hq
            clear hz hzhi
            have hqm := below_al (Below.refl M.heap.size M) (.cells #[] 50)
            go_wp2
            go_loopw [16, 17] (fun s i wq => ∃ (x N : Nat) (ak : Option Addr) (ck : Nat) (vk : List SV), x ≤ K ∧ i = .int .i64 x ∧ s = .slice ak N ck ∧ N ≤ ck ∧ ck ≤ 9223372036854775807 ∧ N ≤ x ∧ KnR wq ak N vk (kndF [] (L.take x)) ∧ Below M.heap.size M wq) (fun _ i _ => K - (intOf i).toNat)
            case atStart => exact ⟨0, 0, _, 0, [], Nat.zero_le _, rfl, rfl, Nat.le_refl _, by omega, Nat.le_refl _, ⟨HdR.nil _, by simp [kndF], fun i hi => by omega⟩, hqm⟩
            case round =>
              clear hqm
              obtain ⟨x, N, ak, ck, vk, hx, rfl, rfl, hNc, hcm, hNx, hk, hqm⟩ := hrel
              obtain ⟨W, rfl⟩ : ∃ W : World, W = wr := ⟨_, rfl⟩
              have hMs := hqm.size
              by_cases hltx : x < K
              · have hzW := HZ.out.below hqm
                obtain ⟨_, _, ra, rn, rc, e9, s1, hrow, hrn⟩ := hzW.at x hltx
                cases e9
                have hxl : x < L.length := by have := HLl.out; omega
                have HKS : Hid (kndF [] (L.take (x + 1)) = insK (L.getD x []) (kndF [] (L.take x))) := Lib.hid (by
                  rw [List.take_succ_eq_append_getElem hxl, kndF_snoc]
                  congr 1
                  simp [List.getD_eq_getElem?_getD, List.getElem?_eq_getElem hxl])
                obtain ⟨m, HM⟩ : ∃ m, Hid (L.getD x [] = m) := ⟨_, Lib.hid rfl⟩
                rw [HM.out] at hrow HKS
                obtain ⟨ks, Hks⟩ : ∃ ks, Hid (kndF [] (L.take x) = ks) := ⟨_, Lib.hid rfl⟩
                rw [Hks.out] at hk HKS
                have HLN := Lib.hid hk.len
                have x1 : (0 : Int) ≤ (x : Int) := by omega
                have x2 : (x : Int) < (K : Int) := by omega
                clear hzW hxl
                go_wp2
                go_loopw [18] (fun s wq => ∃ q : Nat, q ≤ N ∧ s = .int .i64 q ∧ Hid (∀ i, i < q → cmpL (ks.getD i []) m < 0) ∧ ∃ d, wq = W.drewN d) (fun s _ => N - (intOf s).toNat)
                case atStart => exact ⟨0, Nat.zero_le _, rfl, Lib.hid (fun i hi => by omega), 0, rfl⟩
                case round =>
                  obtain ⟨q, hq, rfl, HQ, dq, rfl⟩ := hrel
                  obtain ⟨Y, HY⟩ : ∃ Y : World, Hid (W.drewN dq = Y) := ⟨_, Lib.hid rfl⟩
                  have hkY : KnR Y ak N vk ks := by rw [← HY.out]; exact ⟨hk.hd, hk.len, hk.el⟩
                  have hrY : Row Y ra rn m := by rw [← HY.out]; exact hrow
                  have s1Y : Y.cell? ⟨mb, mo + x, none⟩ = some (.slice ra rn rc) := by rw [← HY.out]; exact s1
                  have hqY : Below M.heap.size M Y := by rw [← HY.out]; exact below_drewN hqm dq
                  have hYs : M.heap.size ≤ Y.heap.size := hqY.size
                  have hYW : Y.heap.size = W.heap.size := by rw [← HY.out]; rfl
                  rw [HY.out]
                  have q1 : (0 : Int) ≤ (q : Int) := by omega
                  have hEnd : Hid ((q = N ∨ (¬ cmpL (ks.getD q []) m < 0 ∧ ks.getD q [] ≠ m)) → insK m ks = ks.take q ++ m :: ks.drop q) := Lib.hid fun h2 => insK_at (by have := HLN.out; omega) HQ.out (by rcases h2 with h2 | h2; exact .inl (by have := HLN.out; omega); exact .inr h2)
                  by_cases hltq : q < N
                  · obtain ⟨kb, ko, rfl, kl, g1⟩ := hkY.hd.2 q hltq
                    obtain ⟨hel, hel2⟩ := hkY.el q hltq
                    obtain ⟨⟨va, vn, vc⟩, HV⟩ : ∃ v, Hid (vk.getD q svO = v) := ⟨_, rfl⟩
                    rw [HV.out] at g1 hel hel2
                    change Y.cell? _ = some (.slice va vn vc) at g1
                    obtain ⟨X, HX⟩ : ∃ X, Hid (ks.getD q [] = X) := ⟨_, rfl⟩
                    rw [HX.out] at hel
                    change Row Y va vn X at hel
                    change vn ≤ _ at hel2
                    have q2 : (q : Int) < (N : Int) := by omega
                    obtain ⟨B, HB1⟩ : ∃ B, Hid (decide (cmpL X m < 0) = B) := ⟨_, rfl⟩
                    have HS1 : Hid (∀ m', Calls Tryz.prog 155 #[.slice va vn vc, .slice ra rn rc] (Y.drewN m') fun e w'' => e = .returned (.bool B) ∧ ∃ k, w'' = Y.drewN k) := Lib.hid fun m' => (l01Less_any va ra vn rn vc rc X m (Y.drewN m') (hel.drewN m') (hrY.drewN m') hel2).mono fun e w'' ⟨he, k, hk⟩ => ⟨by rw [he, HB1.out], m' + k, by rw [hk, World.drewN_drewN]⟩
                    cases B with
                    | true =>
                      have HQN : Hid (∀ i, i < q + 1 → cmpL (ks.getD i []) m < 0) := Lib.hid fun i hi => by
                        rcases Nat.lt_or_ge i q with h | h
                        · exact HQ.out i h
                        · obtain rfl : i = q := by omega
                          rw [HX.out]; simpa using HB1.out
                      go_wp2
                      go_quiet ((go_at_call 155; exact HS1.out _))
                      go_wp2
                      go_roundw
                      case rel => exact ⟨q + 1, by omega, by go_num, HQN, dq + nq, by rw [← HY.out, World.drewN_drewN]⟩
                      case measure => simp [intOf]; omega
                    | false =>
                      have hnl : ¬ cmpL X m < 0 := by simpa using HB1.out
                      have HNL := Lib.hid hnl
                      clear hnl
                      obtain ⟨B2, HB2⟩ : ∃ B, Hid (decide (X = m) = B) := ⟨_, rfl⟩
                      go_wp2
                      go_quiet ((go_at_call 155; exact HS1.out _))
                      obtain ⟨Z, HZ2⟩ : ∃ Z : World, Hid (Y.drewN nq = Z) := ⟨_, Lib.hid rfl⟩
                      have hkZ : KnR Z (some ⟨kb, ko, none⟩) N vk ks := by rw [← HZ2.out]; exact ⟨hkY.hd, hkY.len, hkY.el⟩
                      have hrZ : Row Z ra rn m := by rw [← HZ2.out]; exact hrY
                      have s1Z : Z.cell? ⟨mb, mo + x, none⟩ = some (.slice ra rn rc) := by rw [← HZ2.out]; exact s1Y
                      have g1Z : Z.cell? ⟨kb, ko + q, none⟩ = some (.slice va vn vc) := by rw [← HZ2.out]; exact g1
                      have hqZ : Below M.heap.size M Z := by rw [← HZ2.out]; exact below_drewN hqY nq
                      have helZ : Row Z va vn X := by rw [← HZ2.out]; exact hel
                      rw [HZ2.out]
                      clear g1 s1Y hrY hkY hqY hel HS1 s1 hrow hk hqm hYs hMs
                      have HS2 : Hid (∀ m', Calls Tryz.prog 154 #[.slice va vn vc, .slice ra rn rc] (Z.drewN m') fun e w'' => e = .returned (.bool B2) ∧ ∃ k, w'' = Z.drewN k) := Lib.hid fun m' => (l01Same_any va ra vn rn vc rc X m (Z.drewN m') (helZ.drewN m') (hrZ.drewN m') hel2).mono fun e w'' ⟨he, k, hk⟩ => ⟨by rw [he, HB2.out], m' + k, by rw [hk, World.drewN_drewN]⟩
                      cases B2 with
                      | true =>
                        have HIN : Hid (insK m ks = ks) := Lib.hid (insK_in (by have := HLN.out; omega) HQ.out (by rw [HX.out]; have := HNL.out; omega) (by rw [HX.out]; simpa using HB2.out))
                        go_wp2
                        go_quiet ((go_at_call 154; exact HS2.out _))
                        go_wp2
                        go_roundw
                        case rel => exact ⟨x + 1, N, _, ck, vk, by omega, by go_num, rfl, hNc, hcm, by omega, KnR.cast ⟨hkZ.hd, hkZ.len, hkZ.el⟩ (by rw [HKS.out, HIN.out]), below_drewN hqZ _⟩
                        case measure => simp [intOf]; omega
                      | false =>
                        have hIN : insK m ks = ks.take q ++ m :: ks.drop q := hEnd.out (.inr ⟨by rw [HX.out]; have := HNL.out; omega, by rw [HX.out]; simpa using HB2.out⟩)
                        have HIN := Lib.hid hIN
                        clear hIN
                        go_wp2
                        go_quiet ((go_at_call 154; exact HS2.out _))
                        go_wp2
                        obtain ⟨G, HG⟩ : ∃ G : World, Hid (Z.drewN nq = G) := ⟨_, Lib.hid rfl⟩
                        have hkG : KnR G (some ⟨kb, ko, none⟩) N vk ks := by rw [← HG.out]; exact ⟨hkZ.hd, hkZ.len, hkZ.el⟩
                        have hrG : Row G ra rn m := by rw [← HG.out]; exact hrZ
                        have s1G : G.cell? ⟨mb, mo + x, none⟩ = some (.slice ra rn rc) := by rw [← HG.out]; exact s1Z
                        have hqG : Below M.heap.size M G := by rw [← HG.out]; exact below_drewN hqZ nq
                        rw [HG.out]
                        have hGs := hqG.size
                        obtain ⟨aT, efr, hfr⟩ := slice_fromR (some ⟨kb, ko, none⟩) N ck q hq
                        have eto := fun v => slice_toR (some ⟨kb, ko, none⟩) N ck q (by omega) v
                        have hdr := hfr G vk hNc hkG.hd
                        have hlit := (Hd.one G rfl (ra, rn, rc)).drewN 1
                        have hdrA : HdR (G.alloc (.cells #[.slice ra rn rc] 50)).drew aT (N - q) (vk.drop q) := hdr.alloc _
                        have hGz : G.heap.size ≤ ((G.alloc (.cells #[.slice ra rn rc] 50)).drew).heap.size := by rw [show ((G.alloc (.cells #[.slice ra rn rc] 50)).drew).heap.size = (G.alloc (.cells #[.slice ra rn rc] 50)).heap.size from rfl, size_alloc]; omega
                        have hln1 : 1 + (N - q) ≤ 1000000000000 := by omega
                        have HEX : Hid (q ≤ N ∧ N ≤ ck) := Lib.hid ⟨hq, hNc⟩
                        clear hdr hfr
                        go_region_law (refine step_appHw rfl rfl hlit rfl hdrA rfl hln1 hGz ?_; intro ad1 cc1 w6 hO1 hg1 hb1)
                        all_goals
                          have hb16 : Below G.heap.size G w6 := (below_drewN (below_al (Below.refl G.heap.size G) (.cells #[.slice ra rn rc] 50)) 1).trans hb1
                          have hd6 := ((hkG.hd.below hb16).take hq).alloc (.cells #[] 50)
                          have hz6 := hb16.size
                          clear hlit hdrA hGz
                          go_wp2_with (at_builtin; first
                            | (refine appH rfl rfl (Hd.fresh w6 rfl) rfl hd6 rfl (by omega) (by simp) ?_; intro ad2 cc2 w7 hO2 hg2 hb2; rw [Nat.zero_add] at hO2 ⊢; have hb26 : Below w6.heap.size w6 w7 := (below_al (Below.refl _ _) _).trans hb2; have hO17 := (hO1.below hb26).read; have hz7 := hb26.size)
                            | (refine appH rfl rfl hO2 rfl hO17 rfl (by omega) hz7 ?_; intro ad3 cc3 w8 hO3 hg3 hb3))
                          have hb58 : Below G.heap.size G w8 := hb16.trans ((hb26.mono hz6).trans (hb3.mono hz6))
                          have hfin := finH hkG hrG hb58 hO3 hq HIN.out (by rw [HIN.out]; simp; have := HLN.out; omega) hrn
                          obtain ⟨g8, rfl, hn8, hc8, hl8⟩ := hfin
                          go_roundw
                          case rel => exact ⟨x + 1, N + 1, _, cc3, _, by omega, by go_num, by rw [show q + (1 + (N - q)) = N + 1 by omega], hn8, hc8, by omega, hl8.cast HKS.out, hqG.trans (hb58.mono hGs)⟩
                          case measure => simp [intOf]; omega
                  · obtain rfl : N = q := by omega
                    have HIN : Hid (insK m ks = ks.take N ++ m :: ks.drop N) := Lib.hid (hEnd.out (.inl rfl))
                    go_wp2
                    go_quiet (fail)
                    obtain ⟨Z, HZ2⟩ : ∃ Z : World, Hid (Y.drewN nq = Z) := ⟨_, Lib.hid rfl⟩
                    have hkZ : KnR Z ak N vk ks := by rw [← HZ2.out]; exact ⟨hkY.hd, hkY.len, hkY.el⟩
                    have hrZ : Row Z ra rn m := by rw [← HZ2.out]; exact hrY
                    have s1Z : Z.cell? ⟨mb, mo + x, none⟩ = some (.slice ra rn rc) := by rw [← HZ2.out]; exact s1Y
                    have hqZ : Below M.heap.size M Z := by rw [← HZ2.out]; exact below_drewN hqY nq
                    rw [HZ2.out]
                    clear s1Y hrY hkY hqY s1 hrow hk hqm hYs hMs
                    go_wp2
                    go_quiet (fail)
                    go_wp2
                    obtain ⟨G, HG⟩ : ∃ G : World, Hid (Z.drewN nq = G) := ⟨_, Lib.hid rfl⟩
                    have hkG : KnR G ak N vk ks := by rw [← HG.out]; exact ⟨hkZ.hd, hkZ.len, hkZ.el⟩
                    have hrG : Row G ra rn m := by rw [← HG.out]; exact hrZ
                    have s1G : G.cell? ⟨mb, mo + x, none⟩ = some (.slice ra rn rc) := by rw [← HG.out]; exact s1Z
                    have hqG : Below M.heap.size M G := by rw [← HG.out]; exact below_drewN hqZ nq
                    rw [HG.out]
                    have hGs := hqG.size
                    obtain ⟨aT, efr, hfr⟩ := slice_fromR ak N ck N hq
                    have eto := fun v => slice_toR ak N ck N (by omega) v
                    have hdr := hfr G vk hNc hkG.hd
                    rw [Nat.sub_self] at efr hdr
                    have hlit := (Hd.one G rfl (ra, rn, rc)).drewN 1
                    have hdrA : HdR (G.alloc (.cells #[.slice ra rn rc] 50)).drew aT 0 (vk.drop N) := hdr.alloc _
                    have hGz : G.heap.size ≤ ((G.alloc (.cells #[.slice ra rn rc] 50)).drew).heap.size := by rw [show ((G.alloc (.cells #[.slice ra rn rc] 50)).drew).heap.size = (G.alloc (.cells #[.slice ra rn rc] 50)).heap.size from rfl, size_alloc]; omega
                    have hln1 : 1 + 0 ≤ 1000000000000 := by omega
                    have HEX : Hid (N ≤ N ∧ N ≤ ck) := Lib.hid ⟨hq, hNc⟩
                    clear hdr hfr
                    go_region_law (refine step_appHw rfl rfl hlit rfl hdrA rfl hln1 hGz ?_; intro ad1 cc1 w6 hO1 hg1 hb1)
                    all_goals
                      have hb16 : Below G.heap.size G w6 := (below_drewN (below_al (Below.refl G.heap.size G) (.cells #[.slice ra rn rc] 50)) 1).trans hb1
                      have hd6 := ((hkG.hd.below hb16).take hq).alloc (.cells #[] 50)
                      have hz6 := hb16.size
                      clear hlit hdrA hGz
                      go_wp2_with (at_builtin; first
                        | (refine appH rfl rfl (Hd.fresh w6 rfl) rfl hd6 rfl (by omega) (by simp) ?_; intro ad2 cc2 w7 hO2 hg2 hb2; rw [Nat.zero_add] at hO2 ⊢; have hb26 : Below w6.heap.size w6 w7 := (below_al (Below.refl _ _) _).trans hb2; have hO17 := (hO1.below hb26).read; have hz7 := hb26.size)
                        | (refine appH rfl rfl hO2 rfl hO17 rfl (by omega) hz7 ?_; intro ad3 cc3 w8 hO3 hg3 hb3))
                      have hb58 : Below G.heap.size G w8 := hb16.trans ((hb26.mono hz6).trans (hb3.mono hz6))
                      have hfin := finH hkG hrG hb58 hO3 hq HIN.out (by rw [HIN.out]; simp; have := HLN.out; omega) hrn
                      obtain ⟨g8, rfl, hn8, hc8, hl8⟩ := hfin
                      go_roundw
                      case rel => exact ⟨x + 1, N + 1, _, cc3, _, by omega, by go_num, by rw [show N + (1 + 0) = N + 1 by omega], hn8, hc8, by omega, hl8.cast HKS.out, hqG.trans (hb58.mono hGs)⟩
                      case measure => simp [intOf]; omega
              · obtain rfl : K = x := by omega
                rw [List.take_of_length_le (by have := HLl.out; omega)] at hk
                obtain ⟨ks, Hks⟩ : ∃ ks, Hid (kndF [] L = ks) := ⟨_, Lib.hid rfl⟩
                rw [Hks.out] at hk HYES HNO
                obtain ⟨cs, Hcs⟩ : ∃ cs, Hid (nmkL L = cs) := ⟨_, Lib.hid rfl⟩
                rw [Hcs.out] at HYES HNO
                have HCL : Hid (cs.length = K) := Lib.hid (by rw [← Hcs.out, ← HLl.out]; simp [nmkL])
                have HCA : Hid (∀ x, x < K → L.getD x [] ∈ ks ∧ cs.getD x 0 = ((idxF (L.getD x []) ks : Nat) : Int)) := Lib.hid fun x hx => by
                  have hxl : x < L.length := by have := HLl.out; omega
                  refine ⟨?_, ?_⟩
                  · rw [← Hks.out]; exact kndF_mem L [] (.inr (by simp [List.getD_eq_getElem?_getD, List.getElem?_eq_getElem hxl]))
                  · rw [← Hks.out, ← Hcs.out]; exact nmk_at hxl
                have HCLS : Hid (Less 61 cs) := Lib.hid (by rw [← Hcs.out]; exact nmk_less (by have := HLl.out; omega))
                have HBD : Hid (∀ i q, -24 ≤ balI n cs i q ∧ balI n cs i q ≤ 24) := Lib.hid fun i q => by have := balI_bd n cs i q; have := HCL.out; omega
                obtain ⟨F, HF⟩ : ∃ F : Nat → Nat → Int, Hid ((fun i q => balI n cs i q) = F) := ⟨_, Lib.hid rfl⟩
                have HF0 : Hid (((List.range N).map fun q => F 0 q) = List.replicate N 0) := Lib.hid (by
                  rw [← HF.out]
                  apply List.ext_getElem
                  · simp
                  · intro i h1 h2; simp [balI, cntI])
                have hNk : N ≤ K := hNx
                clear hNx
                go_wp2_with (at_make; refine make1 rfl rfl rfl rfl (by omega) ?_; intro w5 hoc hsc hbc)
                have hor := Own.fresh w5 rfl
                have hoc5 := hoc.alloc (.cells #[] 2)
                have hb5 : Below W.heap.size W (w5.alloc (.cells #[] 2)) := hbc.trans ((below_al (Below.refl w5.heap.size w5) _).mono hbc.size)
                have hW5 : W.heap.size < w5.heap.size := hoc.hi _ rfl
                go_loopw [21, 22] (fun s i wq => ∃ (x : Nat) (ar : Option Addr) (cr : Nat), x ≤ K ∧ i = .int .i64 x ∧ s = .slice ar x cr ∧ Own wq w5.heap.size ar x cr (cs.take x) ∧ Own wq W.heap.size (some ⟨W.heap.size, 0, none⟩) N N ((List.range N).map fun q => F x q) ∧ w5.heap.size ≤ wq.heap.size ∧ Below W.heap.size W wq) (fun _ i _ => K - (intOf i).toNat)
                case atStart => exact ⟨0, _, 0, Nat.zero_le _, rfl, rfl, by simpa using hor, by rw [HF0.out]; exact hoc5, by rw [size_alloc]; omega, hb5⟩
                case round =>
                  clear hor hoc5 hb5 hoc hbc hsc HF0
                  obtain ⟨x, ar, cr, hx, rfl, rfl, hor, hoc, h5q, hbq⟩ := hrel
                  obtain ⟨Y, rfl⟩ : ∃ Y : World, Y = wr := ⟨_, rfl⟩
                  by_cases hltx : x < K
                  · have hMY := hqm.trans (hbq.mono hMs)
                    have hzW := HZ.out.below hMY
                    obtain ⟨_, _, ra, rn, rc, e9, s1, hrow, hrn⟩ := hzW.at x hltx
                    cases e9
                    obtain ⟨hmem, hcsx⟩ := HCA.out x hltx
                    have HST : Hid (cs.take (x + 1) = cs.take x ++ [cs.getD x 0]) := Lib.hid (by
                      have hl : x < cs.length := by have := HCL.out; omega
                      rw [List.take_succ_eq_append_getElem hl]; simp [List.getD_eq_getElem?_getD, List.getElem?_eq_getElem hl])
                    obtain ⟨m, HM⟩ : ∃ m, Hid (L.getD x [] = m) := ⟨_, Lib.hid rfl⟩
                    rw [HM.out] at hrow hmem hcsx
                    obtain ⟨hJ1, hJ2⟩ := idxF_lt hmem
                    have hJ3 : ∀ i, i < idxF m ks → ks.getD i [] ≠ m := fun i hi => idxF_ne hi
                    generalize idxF m ks = J at hJ1 hJ2 hJ3 hcsx
                    have hJN : J < N := by have := hk.len; omega
                    have HJ2 := Lib.hid hJ2; have HJ3 := Lib.hid hJ3
                    rw [hcsx] at HST
                    have HCSX := Lib.hid hcsx
                    have hkY := hk.below hbq
                    have x1 : (0 : Int) ≤ (x : Int) := by omega
                    have x2 : (x : Int) < (K : Int) := by omega
                    clear hzW hmem hJ1 hJ2 hJ3 hcsx
                    go_wp2
                    go_loopw [23] (fun s wq => ∃ q : Nat, q ≤ J ∧ s = .int .i64 q ∧ ∃ d, wq = Y.drewN d) (fun s _ => J - (intOf s).toNat)
                    case atStart => exact ⟨0, Nat.zero_le _, rfl, 0, rfl⟩
                    case round =>
                      obtain ⟨q, hq, rfl, dq, rfl⟩ := hrel
                      obtain ⟨Z, HZ2⟩ : ∃ Z : World, Hid (Y.drewN dq = Z) := ⟨_, Lib.hid rfl⟩
                      have hkZ : KnR Z ak N vk ks := by rw [← HZ2.out]; exact ⟨hkY.hd, hkY.len, hkY.el⟩
                      have hrZ : Row Z ra rn m := by rw [← HZ2.out]; exact hrow
                      have s1Z : Z.cell? ⟨mb, mo + x, none⟩ = some (.slice ra rn rc) := by rw [← HZ2.out]; exact s1
                      rw [HZ2.out]
                      have hqN : q < N := by omega
                      have q1 : (0 : Int) ≤ (q : Int) := by omega
                      have q2 : (q : Int) < (N : Int) := by omega
                      obtain ⟨kb, ko, rfl, kl, g1⟩ := hkZ.hd.2 q hqN
                      obtain ⟨hel, hel2⟩ := hkZ.el q hqN
                      obtain ⟨⟨va, vn, vc⟩, HV⟩ : ∃ v, Hid (vk.getD q svO = v) := ⟨_, rfl⟩
                      rw [HV.out] at g1 hel hel2
                      change Z.cell? _ = some (.slice va vn vc) at g1
                      obtain ⟨X, HX⟩ : ∃ X, Hid (ks.getD q [] = X) := ⟨_, rfl⟩
                      rw [HX.out] at hel
                      change Row Z va vn X at hel
                      change vn ≤ _ at hel2
                      obtain ⟨B2, HB2⟩ : ∃ B, Hid (decide (X = m) = B) := ⟨_, rfl⟩
                      have HS2 : Hid (∀ m', Calls Tryz.prog 154 #[.slice va vn vc, .slice ra rn rc] (Z.drewN m') fun e w'' => e = .returned (.bool B2) ∧ ∃ k, w'' = Z.drewN k) := Lib.hid fun m' => (l01Same_any va ra vn rn vc rc X m (Z.drewN m') (hel.drewN m') (hrZ.drewN m') hel2).mono fun e w'' ⟨he, k, hk⟩ => ⟨by rw [he, HB2.out], m' + k, by rw [hk, World.drewN_drewN]⟩
                      cases B2 with
                      | false =>
                        have hqJ : q < J := by
                          rcases Nat.lt_or_ge q J with h | h
                          · exact h
                          · obtain rfl : q = J := by omega
                            have h1 := HB2.out
                            rw [← HX.out, HJ2.out] at h1
                            simp at h1
                        go_wp2
                        go_quiet ((go_at_call 154; exact HS2.out _))
                        go_wp2
                        go_roundw
                        case rel => exact ⟨q + 1, by omega, by go_num, dq + nq, by rw [← HZ2.out, World.drewN_drewN]⟩
                        case measure => simp [intOf]; omega
                      | true =>
                        have hqJ : q = J := by
                          rcases Nat.lt_or_ge q J with h | h
                          · have h1 := HB2.out
                            rw [← HX.out] at h1
                            exact absurd (by simpa using h1) (HJ3.out q h)
                          · omega
                        have HQJ := Lib.hid hqJ
                        clear hqJ
                        go_wp2
                        go_quiet ((go_at_call 154; exact HS2.out _))
                        obtain ⟨G, HG⟩ : ∃ G : World, Hid (Z.drewN nq = G) := ⟨_, Lib.hid rfl⟩
                        have horG : Own G w5.heap.size ar x cr (cs.take x) := by rw [← HG.out, ← HZ2.out]; exact hor
                        have hocG : Own G W.heap.size (some ⟨W.heap.size, 0, none⟩) N N ((List.range N).map fun q => F x q) := by rw [← HG.out, ← HZ2.out]; exact hoc
                        have hbG : Below W.heap.size W G := by rw [← HG.out, ← HZ2.out]; exact below_drewN (below_drewN hbq dq) nq
                        have h5G : w5.heap.size ≤ G.heap.size := by rw [← HG.out, ← HZ2.out]; exact h5q
                        rw [HG.out]
                        clear g1 hel hkZ hrZ s1Z s1 hrow hkY hor hoc hbq HS2
                        have hx12 : x + 1 ≤ 1000000000000 := by omega
                        have HQJ2 := HQJ.out
                        subst HQJ2
                        obtain ⟨v, hv⟩ : ∃ v, F x q = v := ⟨_, rfl⟩
                        have hvb : -24 ≤ v ∧ v ≤ 24 := by rw [← hv, ← HF.out]; exact HBD.out x q
                        have HGV : Hid (((List.range N).map fun q => F x q).getD q 0 = v) := Lib.hid (by rw [← hv]; simp [List.getD_eq_getElem?_getD, hqN])
                        have HV2 := Lib.hid hv
                        clear hv
                        by_cases hxn : x < n
                        · have HUP : Hid (((List.range N).map fun q => F x q).set q (v + 1) = (List.range N).map fun q => F (x + 1) q) := Lib.hid (by
                            rw [← HV2.out, ← HF.out]
                            exact balI_up hxn (by have := HCL.out; have := HKn.out; omega) hqN HCSX.out)
                          go_wp2_with (at_builtin; refine app1 rfl rfl horG rfl rfl hx12 h5G ?_; intro g' cc w8 hO8 hg8 hs8 hb8; have hoc8 := hocG.keep (w' := w8) (fun g hg hlt => hb8.block g (by cases hg; omega)); have f1 := hoc8.cells.2.1 q hqN; rw [HGV.out] at f1; have f2 := hoc8.cells.2.2 q)
                          have hb9 : Below W.heap.size W w8 := hbG.trans (hb8.mono (by omega))
                          have h58 : w5.heap.size ≤ w8.heap.size := by omega
                          go_roundw
                          case rel => exact ⟨x + 1, _, cc, by omega, by go_num, rfl, by rw [HST.out]; exact hO8.setlo (by show W.heap.size < w5.heap.size; omega) _, by rw [← HUP.out]; exact hoc8.set q (v + 1), by rw [size_set]; exact h58, below_setne hb9 (Nat.le_refl _) _⟩
                          case measure => simp [intOf]; omega
                        · have HUP : Hid (((List.range N).map fun q => F x q).set q (v - 1) = (List.range N).map fun q => F (x + 1) q) := Lib.hid (by
                            rw [← HV2.out, ← HF.out]
                            exact balI_dn (by omega) (by have := HCL.out; omega) hqN HCSX.out)
                          go_wp2_with (at_builtin; refine app1 rfl rfl horG rfl rfl hx12 h5G ?_; intro g' cc w8 hO8 hg8 hs8 hb8; have hoc8 := hocG.keep (w' := w8) (fun g hg hlt => hb8.block g (by cases hg; omega)); have f1 := hoc8.cells.2.1 q hqN; rw [HGV.out] at f1; have f2 := hoc8.cells.2.2 q)
                          have hb9 : Below W.heap.size W w8 := hbG.trans (hb8.mono (by omega))
                          have h58 : w5.heap.size ≤ w8.heap.size := by omega
                          go_roundw
                          case rel => exact ⟨x + 1, _, cc, by omega, by go_num, rfl, by rw [HST.out]; exact hO8.setlo (by show W.heap.size < w5.heap.size; omega) _, by rw [← HUP.out]; exact hoc8.set q (v - 1), by rw [size_set]; exact h58, below_setne hb9 (Nat.le_refl _) _⟩
                          case measure => simp [intOf]; omega
                  · obtain rfl : K = x := by omega
                    rw [List.take_of_length_le (by have := HCL.out; omega)] at hor
                    have hoc := hoc.cast (ys := (List.range N).map fun q : Nat => (cntI (q : Int) (cs.take n) - cntI (q : Int) (cs.drop n))) (by rw [← HF.out, ← HKn.out, balI_end (by rw [HCL.out, HKn.out])])
                    have HBB : Hid (∀ q, q < N → ((List.range N).map fun q : Nat => (cntI (q : Int) (cs.take n) - cntI (q : Int) (cs.drop n))).getD q 0 = cntI (q : Int) (cs.take n) - cntI (q : Int) (cs.drop n)) := Lib.hid fun q hq => by simp [List.getD_eq_getElem?_getD, hq]
                    have hNks := hk.len
                    have HNK := Lib.hid hNks
                    have hcapr := hor.cap
                    have hKn2 := HKn.out
                    have eto := fun v => slice_to ar K cr n (by omega) v
                    obtain ⟨aT, efr, hfr⟩ := slice_from ar K cr n (by omega)
                    have e0 : K - n = n := by omega
                    rw [e0] at efr
                    have hbs5 : w.heap.size ≤ w5.heap.size := by have := hqM.size; omega
                    have hrn1 : RowN w.heap.size Y ar n (cs.take n) := fun w'' hw => rowTakeB (hor.keep (w' := w'') fun g hg hlt => hw g (by have := hor.lo g hg; omega) hlt).row n (by omega)
                    have hrn2 : RowN w.heap.size Y aT n (cs.drop n) := fun w'' hw => by
                      have := hfr w'' cs hcapr.1 (hor.keep (w' := w'') fun g hg hlt => hw g (by have := hor.lo g hg; omega) hlt).row
                      rw [e0] at this; exact this
                    have hrow1 := hrn1.row
                    have hrow2 := hrn2.row
                    have hbY : Below w.heap.size w Y := hbU.trans ((hqM.mono hUs).trans ((hqm.mono (by omega)).trans (hbq.mono (by omega))))
                    clear hNks hfr hKn2 e0
                    go_wp2
                    go_loopw [24] (fun s wq => ∃ q : Nat, q ≤ N ∧ s = .int .i64 q ∧ Hid (balB n cs q = true) ∧ wq = Y) (fun s _ => N - (intOf s).toNat)
                    case atStart => exact ⟨0, Nat.zero_le _, rfl, Lib.hid rfl, rfl⟩
                    case round =>
                      obtain ⟨q, hq, rfl, HQB, hYe⟩ := hrel
                      subst hYe
                      by_cases hltq : q < N
                      · have f1 := hoc.cells.2.1 q hltq
                        rw [HBB.out q hltq] at f1
                        obtain ⟨v, HV⟩ : ∃ v, Hid (cntI (q : Int) (cs.take n) - cntI (q : Int) (cs.drop n) = v) := ⟨_, Lib.hid rfl⟩
                        rw [HV.out] at f1
                        have q1 : (0 : Int) ≤ (q : Int) := by omega
                        have q2 : (q : Int) < (N : Int) := by omega
                        by_cases hv0 : v = 0
                        · have u1 : (v != 0) = false := by simp [hv0]
                          have HQN : Hid (balB n cs (q + 1) = true) := Lib.hid (allN_succ HQB.out (by rw [HV.out]; simp [hv0]))
                          clear hv0
                          go_wp2
                          go_roundw
                          case rel => exact ⟨q + 1, by omega, by go_num, HQN, trivial⟩
                          case measure => simp [intOf]; omega
                        · have u1 : (v != 0) = true := by simp [hv0]
                          have hRn : R = none := HNO.out (by rw [← HNK.out]; exact allN_no hltq (by rw [HV.out]; simp [hv0]))
                          have HRN := Lib.hid hRn
                          clear hv0 hRn
                          go_wp2
                          go_ret3
                          rw [← HPP.out, HRN.out]
                          exact ⟨hbY, _, _, _, _, _, _, rfl⟩
                      · obtain rfl : N = q := by omega
                        have hyes := HYES.out (by rw [← HNK.out]; exact HQB.out)
                        rw [← HNK.out] at hyes
                        have HY2 := Lib.hid hyes
                        clear hyes
                        by_cases hnn : N = num
                        · have hRs := HY2.out.1 hnn
                          have HRS := Lib.hid hRs
                          have u1 : ((N : Int) == (num : Int)) = true := beq_iff_eq.2 (by omega)
                          clear hRs hnn
                          go_wp2
                          go_ret3
                          rw [← HPP.out, HRS.out]
                          exact ⟨hbY, _, _, _, _, rfl, hrn1, hrn2, HCLS.out.take n, HCLS.out.drop n⟩
                        · have HRF : Hid (refF T n gj (cs.take n) (cs.drop n) N = some R) := Lib.hid (HY2.out.2 hnn)
                          have u1 : ((N : Int) == (num : Int)) = false := by rw [beq_eq_false_iff_ne]; omega
                          clear hnn
                          go_wp2
                          go_roundg gj
                          case rel => exact ⟨N, _, _, ar, aT, cr, cr - n, by omega, rfl, rfl, rfl, hrow1, hrow2, Lib.hid (HCLS.out.take n), Lib.hid (HCLS.out.drop n), HRF, hbY⟩
                          case measure => omega
end Go.Proofs.YtiliimkfobfbnaaGreat
