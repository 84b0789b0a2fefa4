/-
  Walks and plain laws of this seat, some texts in one.
  No condition but bounds on lengths.
-/
import Derived.Test.YtiliimkfobfbnaaGreatPt30
namespace Go.Proofs.YtiliimkfobfbnaaGreat
set_option maxRecDepth 100000
set_option linter.unusedVariables false
set_option linter.unusedSimpArgs false
open Go.RowKit
def tpS (T A : List (List Int)) (x : Nat) (s : List Int × Bool) (y : Nat) : Option (List Int × Bool) :=
  if s.1.getD x 0 < 0 ∨ s.1.getD y 0 < 0 then some s
  else if s.1.getD (spZ T A s.1 x y) 0 < 0 then some (s.1.set (spZ T A s.1 x y) (spW T A s.1 x y), true)
  else if s.1.getD (spZ T A s.1 x y) 0 = spW T A s.1 x y then some s else none
def tpP (T A : List (List Int)) (n : Nat) (out : List Int) : Option (List Int × Bool) := foldO (fun s x => foldO (tpS T A x) n s) n (out, false)
def tpF (T A : List (List Int)) (n : Nat) : Nat → List Int → Option (Option (List Int))
  | 0, _ => none
  | k + 1, out => match tpP T A n out with
    | none => some none
    | some r => if r.2 = true then tpF T A n k r.1 else some (some r.1)
theorem fndF_bd (l : List Int) : ∀ A : List (List Int), -1 ≤ fndF l A ∧ fndF l A < A.length := by
  intro A; induction A with
  | nil => simp [fndF]
  | cons a A ih => unfold fndF; split <;> (try split) <;> simp <;> omega
theorem fndF_at {l : List Int} : ∀ {A : List (List Int)} {k : Nat}, k < A.length → (∀ j, j < k → A.getD j [] ≠ l) → A.getD k [] = l → fndF l A = (k : Int) := by
  intro A; induction A with
  | nil => intro k hk; simp at hk
  | cons a A ih =>
    intro k hk h1 h2
    cases k with
    | zero => have h2 : a = l := by simpa using h2
              simp [fndF, h2]
    | succ k =>
      have h0 : a ≠ l := by simpa using h1 0 (by omega)
      have := ih (k := k) (by simpa using hk) (fun j hj => by simpa using h1 (j + 1) (by omega)) (by simpa using h2)
      unfold fndF
      rw [if_neg h0, this, if_neg (by omega)]
      omega
theorem fndF_no {l : List Int} : ∀ {A : List (List Int)}, (∀ j, j < A.length → A.getD j [] ≠ l) → fndF l A = -1 := by
  intro A; induction A with
  | nil => intro _; rfl
  | cons a A ih =>
    intro h
    have h0 : a ≠ l := by simpa using h 0 (by simp)
    have := ih (fun j hj => by simpa using h (j + 1) (by simp; omega))
    unfold fndF
    rw [if_neg h0, this, if_pos (by omega)]
set_option maxHeartbeats 4000000 in
theorem l04Find_any (N n ca cl : Nat) (a al : Option Addr) (A : List (List Int)) (l : List Int) (w : World) (h : Tbl w a N A) (hl : Row w al n l) (hN : N ≤ 1000000) (hn : n ≤ 1000000) :
    Calls Tryz.prog 156 #[.slice a N ca, .slice al n cl] w fun e w' => e = .returned (.int .i64 (fndF l A)) ∧ ∃ m, w' = w.drewN m := by
  have HL := Lib.hid h.len
  have HA := Lib.hid h; have HR := Lib.hid hl
  obtain ⟨F, HF⟩ : ∃ F, Hid (fndF l A = F) := ⟨_, Lib.hid rfl⟩
  rw [HF.out]
  clear h hl
  go_enter Tryz.func156, Tryz.ntmps156
  go_wp2
  go_loopw [5] (fun i wr => ∃ k : Nat, k ≤ N ∧ i = .int .i64 k ∧ Hid (∀ j, j < k → A.getD j [] ≠ l) ∧ ∃ m, wr = w.drewN m) (fun i _ => N - (intOf i).toNat)
  case atStart => exact ⟨0, Nat.zero_le _, rfl, Lib.hid (fun j h => by omega), 0, rfl⟩
  case round =>
    obtain ⟨k, hk, rfl, HK, m, rfl⟩ := hrel
    by_cases hlt : k < N
    · obtain ⟨b, o, ai, ni, ci, rfl, s1, r1, l1⟩ := HA.out.at k hlt
      have s1 : (w.drewN m).cell? ⟨b, o + k, none⟩ = some (.slice ai ni ci) := s1
      have i1 : (0 : Int) ≤ (k : Int) := by omega
      have i2 : (k : Int) < (N : Int) := by omega
      obtain ⟨B, HB⟩ : ∃ B, Hid (decide (A.getD k [] = l) = B) := ⟨_, Lib.hid rfl⟩
      go_wp2_with fail
      refine (l01Same_any ai al ni n ci cl (A.getD k []) l _ (r1.drewN m) (HR.out.drewN m) l1).mono ?_
      rintro e w2 ⟨rfl, m2, rfl⟩
      rw [HB.out]
      cases B with
      | true =>
        have HE : Hid (F = (k : Int)) := Lib.hid (by rw [← HF.out]; exact fndF_at (by have := HL.out; omega) HK.out (by simpa using HB.out))
        go_wp2
        go_ret
        exact ⟨by rw [HE.out]; rfl, _, rfl⟩
      | false =>
        have HN : Hid (∀ j, j < k + 1 → A.getD j [] ≠ l) := Lib.hid fun j hj => by
          rcases Nat.lt_or_ge j k with h | h
          · exact HK.out j h
          · obtain rfl : j = k := by omega
            simpa using HB.out
        go_wp2
        go_roundw
        case rel => exact ⟨k + 1, by omega, by go_num, HN, _, rfl⟩
        case measure => simp [intOf]; omega
    · obtain rfl : N = k := by omega
      have HE : Hid (F = -1) := Lib.hid (by rw [← HF.out]; exact fndF_no fun j hj => HK.out j (by have := HL.out; omega))
      go_wp2
      go_ret
      exact ⟨by rw [HE.out]; rfl, _, rfl⟩
def LabN (n N : Nat) (L : List Int) : Prop := L.length = n ∧ ∀ i, i < n → -1 ≤ L.getD i 0 ∧ L.getD i 0 < N
theorem LabN.set {n N : Nat} {L : List Int} (h : LabN n N L) (i : Nat) {v : Int} (h1 : -1 ≤ v) (h2 : v < N) : LabN n N (L.set i v) := ⟨by rw [List.length_set]; exact h.1, fun j hj => by
  by_cases e : i = j
  · subst e; rw [show (L.set i v).getD i 0 = v from by simp [List.getD_eq_getElem?_getD, h.1, hj]]; exact ⟨h1, h2⟩
  · rw [show (L.set i v).getD j 0 = L.getD j 0 from by simp [List.getD_eq_getElem?_getD, List.getElem?_set_ne e]]; exact h.2 j hj⟩
def RwsL (n : Nat) (A : List (List Int)) : Prop := ∀ k, k < A.length → (A.getD k []).length = n ∧ ∀ i, i < n → ∃ v : Nat, v < n ∧ (A.getD k []).getD i 0 = (v : Int)
theorem tpP_none {T A : List (List Int)} {n k : Nat} {out : List Int} (h : foldO (fun s x => foldO (tpS T A x) n s) k (out, false) = none) (hk : k ≤ n) : tpP T A n out = none := foldO_none h hk
theorem tpF_some {T A : List (List Int)} {n : Nat} : ∀ {k : Nat} {out : List Int} {R : Option (List Int)}, tpF T A n k out = some R → ∃ j, k = j + 1 ∧ (tpP T A n out = none → R = none) ∧ ∀ r, tpP T A n out = some r → (r.2 = true → tpF T A n j r.1 = some R) ∧ (r.2 = false → R = some r.1) := by
  intro k out R h
  cases k with
  | zero => cases h
  | succ j =>
    refine ⟨j, rfl, fun e => ?_, fun r e => ⟨fun e2 => ?_, fun e2 => ?_⟩⟩
    · unfold tpF at h; rw [e] at h; exact (Option.some.inj h).symm
    · unfold tpF at h; rw [e] at h; simp only [e2, if_true] at h; exact h
    · unfold tpF at h; rw [e] at h; simp only [e2] at h; exact (Option.some.inj h).symm
def SpdR (n N : Nat) (R : Option (List Int)) (w : World) (e : Ending) (w' : World) : Prop :=
  Below w.heap.size w w' ∧ match R with
  | none => ∃ a m c, e = .returned (.tuple #[.slice a m c, .bool false])
  | some o => ∃ a c, e = .returned (.tuple #[.slice a n c, .bool true]) ∧ Own w' w.heap.size a n c o ∧ LabN n N o
set_option maxHeartbeats 16000000 in
theorem l13Spread_any (n N : Nat) (T A : List (List Int)) (hT : Sq n T) (hA : RwsL n A) (hn1 : 1 ≤ n) (hn : n ≤ 12) (hN : N ≤ 1000) (ta aa ka : Option Addr) (ct ca ck : Nat) (kn : List Int) (w : World) (k0 : Nat) (R : Option (List Int)) (h1 : Tbl w ta n T) (h2 : Tbl w aa N A) (h3 : Row w ka n kn) (hl : LabN n N kn) (hR : tpF T A n k0 kn = some R) :
    Calls Tryz.prog 151 #[.slice ta n ct, .slice aa N ca, .slice ka n ck] w (SpdR n N R w) := by
  obtain ⟨tb, tof, TA, TO, TC, rfl, GT⟩ := h1.grid hT hn1
  have HA := Lib.hid h2; have HAN := Lib.hid h2.len
  have HRW := Lib.hid hA
  have HR := Lib.hid hR
  have HL := Lib.hid hl
  generalize hPP : SpdR n N R w = PP
  have HPP := Lib.hid hPP
  clear h1 h2 hR hl hA hPP
  go_enter Tryz.func151, Tryz.ntmps151
  go_wp2_with fail
  refine (l01Own_any ka n ck kn _ h3 (by omega)).mono ?_
  rintro e w1 ⟨a1, c1, rfl, ho1, hb1⟩
  clear h3
  obtain ⟨g1, rfl⟩ : ∃ g, a1 = some ⟨g, 0, none⟩ := by
    rcases ho1.block with ⟨_, h, _⟩ | ⟨g, _, h, _⟩
    · omega
    · exact ⟨g, h⟩
  have hg1 := ho1.lt
  have hgw : w.heap.size ≤ g1 := hg1.1
  clear hg1
  go_wp2
  go_loopg [9] k0 (fun k s wr => ∃ (ag : Bool) (o : List Int), s = .bool ag ∧ Own wr w.heap.size (some ⟨g1, 0, none⟩) n c1 o ∧ Hid (LabN n N o) ∧ Hid ((ag = true → tpF T A n k o = some R) ∧ (ag = false → R = some o)) ∧ Below w.heap.size w wr)
  case atStart => exact ⟨true, kn, rfl, ho1, HL, Lib.hid ⟨fun _ => HR.out, fun h => by cases h⟩, hb1⟩
  case round =>
    clear ho1 hb1
    obtain ⟨ag, o, rfl, ho, HLo, HO, hb⟩ := hrel
    cases ag with
    | false =>
      have HE := Lib.hid (HO.out.2 rfl)
      go_wp2
      rw [← HPP.out, HE.out]
      exact ⟨hb, _, _, rfl, ho, HLo.out⟩
    | true =>
      obtain ⟨gj, hgk, HN0, HY0⟩ := tpF_some (HO.out.1 rfl)
      subst hgk
      have HN0 := Lib.hid HN0; have HY0 := Lib.hid HY0
      clear HO
      go_wp2
      go_loopw [9, 10] (fun s9 i wr => ∃ (x : Nat) (s : List Int × Bool), x ≤ n ∧ i = .int .i64 x ∧ s9 = .bool s.2 ∧ Hid (foldO (fun s x => foldO (tpS T A x) n s) x (o, false) = some s) ∧ Own wr w.heap.size (some ⟨g1, 0, none⟩) n c1 s.1 ∧ Hid (LabN n N s.1) ∧ Below w.heap.size w wr) (fun _ i _ => n - (intOf i).toNat)
      case atStart => exact ⟨0, (o, false), Nat.zero_le _, rfl, rfl, Lib.hid rfl, ho, HLo, hb⟩
      case round =>
        clear ho HLo hb
        obtain ⟨x, s, hx, rfl, rfl, HFX, ho, HLs, hb⟩ := hrel
        by_cases hltx : x < n
        · have HFXN : Hid (foldO (fun s x => foldO (tpS T A x) n s) (x + 1) (o, false) = foldO (tpS T A x) n s) := Lib.hid (foldO_succ HFX.out)
          go_wp2
          go_loopw [9, 11] (fun s9 i wr => ∃ (y : Nat) (q : List Int × Bool), y ≤ n ∧ i = .int .i64 y ∧ s9 = .bool q.2 ∧ Hid (foldO (tpS T A x) y s = some q) ∧ Own wr w.heap.size (some ⟨g1, 0, none⟩) n c1 q.1 ∧ Hid (LabN n N q.1) ∧ Below w.heap.size w wr) (fun _ i _ => n - (intOf i).toNat)
          case atStart => exact ⟨0, s, Nat.zero_le _, rfl, rfl, Lib.hid rfl, ho, HLs, hb⟩
          case round =>
            clear ho HLs hb
            obtain ⟨y, q, hy, rfl, rfl, HFY, ho, HLq, hb⟩ := hrel
            obtain ⟨W, rfl⟩ : ∃ W : World, W = wr := ⟨_, rfl⟩
            by_cases hlty : y < n
            · have HFYN : Hid (foldO (tpS T A x) (y + 1) s = tpS T A x q y) := Lib.hid (foldO_succ HFY.out)
              have f1 := ho.cells.2.1 x hltx
              have f2 := ho.cells.2.1 y hlty
              have bx := HLq.out.2 x hltx
              have by_ := HLq.out.2 y hlty
              obtain ⟨u, HU⟩ : ∃ u, Hid (q.1.getD x 0 = u) := ⟨_, Lib.hid rfl⟩
              obtain ⟨v, HV⟩ : ∃ v, Hid (q.1.getD y 0 = v) := ⟨_, Lib.hid rfl⟩
              rw [HU.out] at f1 bx; rw [HV.out] at f2 by_
              have x1 : (0 : Int) ≤ (x : Int) := by omega
              have x2 : (x : Int) < (n : Int) := by omega
              have x3 : (0 : Int) ≤ (y : Int) := by omega
              have x4 : (y : Int) < (n : Int) := by omega
              by_cases hu : u < 0
              · have HE : Hid (tpS T A x q y = some q) := Lib.hid (by unfold tpS; rw [if_pos (.inl (by rw [HU.out]; exact hu))])
                go_wp2
                go_roundw
                case rel => exact ⟨y + 1, q, by omega, by go_num, rfl, by rw [HFYN.out]; exact HE, ho, HLq, hb⟩
                case measure => simp [intOf]; omega
              · by_cases hv : v < 0
                · have HE : Hid (tpS T A x q y = some q) := Lib.hid (by unfold tpS; rw [if_pos (.inr (by rw [HV.out]; exact hv))])
                  go_wp2
                  go_roundw
                  case rel => exact ⟨y + 1, q, by omega, by go_num, rfl, by rw [HFYN.out]; exact HE, ho, HLq, hb⟩
                  case measure => simp [intOf]; omega
                · obtain ⟨U, rfl⟩ : ∃ U : Nat, u = (U : Int) := ⟨u.toNat, by omega⟩
                  obtain ⟨V, rfl⟩ : ∃ V : Nat, v = (V : Int) := ⟨v.toNat, by omega⟩
                  have hUN : U < N := by omega
                  have hVN : V < N := by omega
                  have hAl := HA.out.below hb
                  obtain ⟨ab, ao, pa, pn, pc, rfl, s1, r1, _⟩ := hAl.at U hUN
                  obtain ⟨_, _, qa, qn, qc, e9, s2, r2, _⟩ := hAl.at V hVN
                  cases e9
                  obtain ⟨l1, v1⟩ := HRW.out U (by have := HAN.out; omega)
                  obtain ⟨l2, v2⟩ := HRW.out V (by have := HAN.out; omega)
                  obtain rfl : n = pn := by rw [r1.len]; exact l1.symm
                  obtain rfl : n = qn := by rw [r2.len]; exact l2.symm
                  obtain ⟨z1, hz1, e1⟩ := v1 y hlty
                  obtain ⟨pb, po, rfl, s3⟩ := r1.at y hlty
                  rw [e1] at s3
                  have HTV : Hid (tv A U y = z1) := Lib.hid (by unfold tv; rw [e1]; simp)
                  have GW := GT.below hb
                  obtain ⟨s4, s5⟩ := GW.look hltx hz1
                  have hzn := hT.lt hltx hz1
                  have HZ : Hid (spZ T A q.1 x y = tv T x z1) := Lib.hid (by unfold spZ; rw [HU.out, Int.toNat_natCast, HTV.out])
                  have HW0 : Hid (spW T A q.1 x y = fndF (thL (A.getD V []) (A.getD U [])) A) := Lib.hid (by unfold spW; rw [HU.out, HV.out, Int.toNat_natCast, Int.toNat_natCast])
                  have HST : Hid (tpS T A x q y = (if q.1.getD (spZ T A q.1 x y) 0 < 0 then some (q.1.set (spZ T A q.1 x y) (spW T A q.1 x y), true) else if q.1.getD (spZ T A q.1 x y) 0 = spW T A q.1 x y then some q else none)) := Lib.hid (by
                    unfold tpS
                    rw [if_neg]
                    rw [HU.out, HV.out]; omega)
                  obtain ⟨Z, HZZ⟩ : ∃ Z, Hid (tv T x z1 = Z) := ⟨_, Lib.hid rfl⟩
                  rw [HZZ.out] at s5 hzn HZ
                  obtain ⟨X, HX⟩ : ∃ X, Hid (fndF (thL (A.getD V []) (A.getD U [])) A = X) := ⟨_, Lib.hid rfl⟩
                  have hXb := fndF_bd (thL (A.getD V []) (A.getD U [])) A
                  rw [HX.out, ← HAN.out] at hXb
                  rw [HX.out] at HW0
                  rw [HZ.out, HW0.out] at HST
                  have n1 : (0 : Int) ≤ (U : Int) := by omega
                  have n2 : (U : Int) < (N : Int) := by omega
                  have n3 : (0 : Int) ≤ (V : Int) := by omega
                  have n4 : (V : Int) < (N : Int) := by omega
                  have n5 : (0 : Int) ≤ (z1 : Int) := by omega
                  have n6 : (z1 : Int) < (n : Int) := by omega
                  have n7 : (0 : Int) ≤ (Z : Int) := by omega
                  have n8 : (Z : Int) < (n : Int) := by omega
                  have hu' : ¬ (U : Int) < 0 := by omega
                  have hv' : ¬ (V : Int) < 0 := by omega
                  clear hu hv bx by_ e1 l1 v1
                  go_wp2
                  go_quiet (fail)
                  obtain ⟨G, HG⟩ : ∃ G : World, Hid (W.drewN nq = G) := ⟨_, Lib.hid rfl⟩
                  have hoG : Own G w.heap.size (some ⟨g1, 0, none⟩) n c1 q.1 := by rw [← HG.out]; exact ho
                  have hbG : Below w.heap.size w G := by rw [← HG.out]; exact below_drewN hb nq
                  have hAG : Tbl G (some ⟨ab, ao, none⟩) N A := by rw [← HG.out]; exact hAl
                  have lS : (fun v => v.cell? ⟨g1, y, none⟩ = some (.int .i64 (V : Int)) ∧ v.cell? ⟨g1, x, none⟩ = some (.int .i64 (U : Int)) ∧ v.cell? ⟨ab, ao + V, none⟩ = some (.slice qa n qc) ∧ v.cell? ⟨ab, ao + U, none⟩ = some (.slice (some ⟨pb, po, none⟩) n pc)) G := by rw [← HG.out]; exact ⟨f2, f1, s2, s1⟩
                  have r1G : Row (G.drewN 1) (some ⟨pb, po, none⟩) n (A.getD U []) := by rw [← HG.out]; exact r1
                  have r2G : Row (G.drewN 1) qa n (A.getD V []) := by rw [← HG.out]; exact r2
                  have hpq : ∀ z ∈ A.getD V [], 0 ≤ z ∧ z < (n : Int) := fun z hz => by
                    obtain ⟨i, hi, rfl⟩ := List.getElem_of_mem hz
                    obtain ⟨t, ht, e⟩ := v2 i (by omega)
                    rw [getD_at hi] at e
                    omega
                  have HPQ := Lib.hid hpq
                  have HFD : Hid (∀ (w5 : World) (a5 : Option Addr) (c5 : Nat), Tbl w5 (some ⟨ab, ao, none⟩) N A → Row w5 a5 n (thL (A.getD V []) (A.getD U [])) → Calls Tryz.prog 156 #[.slice (some ⟨ab, ao, none⟩) N ca, .slice a5 n c5] w5 fun e w' => e = .returned (.int .i64 X) ∧ ∃ m, w' = w5.drewN m) := Lib.hid fun w5 a5 c5 h1 h2 => by
                    have := l04Find_any N n ca c5 _ a5 A (thL (A.getD V []) (A.getD U [])) w5 h1 h2 (by omega) (by omega)
                    rw [HX.out] at this; exact this
                  rw [HG.out]
                  clear f1 f2 s1 s2 s3 s4 s5 r1 r2 ho hb hAl GW hpq v2 l2
                  have hn12 : n ≤ 1000000 := by omega
                  have hN12 : N ≤ 1000000 := by omega
                  go_wp2
                  go_region_held3 (fun v => v.cell? ⟨g1, y, none⟩ = some (.int .i64 (V : Int)) ∧ v.cell? ⟨g1, x, none⟩ = some (.int .i64 (U : Int)) ∧ v.cell? ⟨ab, ao + V, none⟩ = some (.slice qa n qc) ∧ v.cell? ⟨ab, ao + U, none⟩ = some (.slice (some ⟨pb, po, none⟩) n pc)) (first | exact lS | exact lS5 | exact lS6 | go_keep) (first
                    | (go_at_call 149; refine (l01Then_any qa (some ⟨pb, po, none⟩) n n qc pc (A.getD V []) (A.getD U []) _ r2G r1G hn12 HPQ.out).mono ?_; rintro e w5 ⟨a5, c5, rfl, ho5, hb5⟩; have hb15 : Below G.heap.size G w5 := (below_drewN (Below.refl _ _) 1).trans hb5; have hb05 := hbG.trans (hb15.mono hbG.size); have hA5 := hAG.below hb15; have hoo5 := hoG.below hb15; have lS5 : (fun v => v.cell? ⟨g1, y, none⟩ = some (.int .i64 (V : Int)) ∧ v.cell? ⟨g1, x, none⟩ = some (.int .i64 (U : Int)) ∧ v.cell? ⟨ab, ao + V, none⟩ = some (.slice qa n qc) ∧ v.cell? ⟨ab, ao + U, none⟩ = some (.slice (some ⟨pb, po, none⟩) n pc)) w5 := ⟨(hb15.cell (p := ⟨g1, y, none⟩) hoG.lt.2).trans lS.1, (hb15.cell (p := ⟨g1, x, none⟩) hoG.lt.2).trans lS.2.1, by obtain ⟨_, _, _, _, _, e9, s9, _⟩ := hAG.2 V hVN; cases e9; exact (hb15.cell (p := ⟨ab, ao + V, none⟩) s9).trans lS.2.2.1, by obtain ⟨_, _, _, _, _, e9, s9, _⟩ := hAG.2 V hVN; cases e9; exact (hb15.cell (p := ⟨ab, ao + U, none⟩) s9).trans lS.2.2.2⟩)
                    | (go_at_call 156; refine (HFD.out _ a5 c5 hA5 ho5.row).mono ?_; rintro e w6 ⟨rfl, m6, rfl⟩; have hb06 := below_drewN hb05 m6; have ho6 := hoo5.drewN m6; have lS6 : (fun v => v.cell? ⟨g1, y, none⟩ = some (.int .i64 (V : Int)) ∧ v.cell? ⟨g1, x, none⟩ = some (.int .i64 (U : Int)) ∧ v.cell? ⟨ab, ao + V, none⟩ = some (.slice qa n qc) ∧ v.cell? ⟨ab, ao + U, none⟩ = some (.slice (some ⟨pb, po, none⟩) n pc)) (w5.drewN m6) := lS5))
                  all_goals
                    clear lS hoG hbG hAG hA5 hoo5 lS5 lS6 hb05 hb15 hb5 ho5 r1G r2G
                    generalize w5.drewN m6 = w6 at *
                    have f3 := ho6.cells.2.1 Z hzn
                    have f4 := ho6.cells.2.2 Z
                    obtain ⟨zz, HZV⟩ : ∃ zz, Hid (q.1.getD Z 0 = zz) := ⟨_, Lib.hid rfl⟩
                    rw [HZV.out] at f3 HST
                    by_cases hz0 : zz < 0
                    · rw [if_pos hz0] at HST
                      have hbe : (X != X) = false := by simp
                      go_wp2
                      go_roundw
                      case rel => exact ⟨y + 1, (q.1.set Z X, true), by omega, by go_num, rfl, by rw [HFYN.out]; exact HST, ho6.set Z X, Lib.hid (HLq.out.set Z hXb.1 hXb.2), below_setne hb06 hgw _⟩
                      case measure => simp [intOf]; omega
                    · rw [if_neg hz0] at HST
                      by_cases hze : zz = X
                      · rw [if_pos hze] at HST
                        have u1 : (zz != X) = false := by simp [hze]
                        clear hze
                        go_wp2
                        go_roundw
                        case rel => exact ⟨y + 1, q, by omega, by go_num, rfl, by rw [HFYN.out]; exact HST, ho6, HLq, hb06⟩
                        case measure => simp [intOf]; omega
                      · rw [if_neg hze] at HST
                        have u1 : (zz != X) = true := by simp [hze]
                        have hno : R = none := HN0.out (tpP_none (k := x + 1) (by rw [HFXN.out]; exact foldO_none (k := y + 1) (by rw [HFYN.out]; exact HST.out) (by omega)) (by omega))
                        have HNO := Lib.hid hno
                        clear hze hno
                        go_wp2
                        rw [← HPP.out, HNO.out]
                        exact ⟨hb06, _, _, _, rfl⟩
            · obtain rfl : n = y := by omega
              go_wp2
              go_roundw
              case rel => exact ⟨x + 1, q, by omega, by go_num, rfl, by rw [HFXN.out]; exact HFY, ho, HLq, hb⟩
              case measure => simp [intOf]; omega
        · obtain rfl : n = x := by omega
          obtain ⟨HYa, HYb⟩ := HY0.out s HFX.out
          go_wp2
          go_roundg gj
          case rel => exact ⟨s.2, s.1, rfl, ho, HLs, Lib.hid ⟨HYa, HYb⟩, hb⟩
          case measure => omega
end Go.Proofs.YtiliimkfobfbnaaGreat
