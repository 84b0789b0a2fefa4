/-
  Walks and plain laws of this seat, some texts in one.
  No condition but bounds on lengths.
-/
import Derived.Test.YtaddclaadbjnlaaGreatPr2
import Derived.Test.YtaddclaadbjnlaaGreatPr3
import Derived.Deep.RegionHeld3
import Derived.Deep.LoopGhost
namespace Go.Proofs.YtaddclaadbjnlaaGreat
set_option maxRecDepth 100000
set_option linter.unusedVariables false
set_option linter.unusedSimpArgs false
theorem thL_isP {n : Nat} {p q : List Int} (h : IsP n p) (k : IsP n q) : IsP n (thL p q) := by
  obtain ⟨f, g, hl, h1, h2⟩ := h
  obtain ⟨f', g', hl', h1', h2'⟩ := k
  refine ⟨fun i => f' (f i), fun i => g (g' i), by rw [thL_len]; exact hl, fun i hi => ?_, fun i hi => ?_⟩
  · have a1 := h1 i hi
    have a2 := h1' i hi
    have a3 := h1' (f i) a1.1
    have a4 := h1 (g' i) a2.2.1
    refine ⟨a3.1, a4.2.1, ?_, ?_⟩
    · show f' (f (g (g' i))) = i
      rw [a4.2.2.1, a2.2.2.1]
    · show g (g' (f' (f i))) = i
      rw [a3.2.2.2, a1.2.2.2]
  · have hp : i < p.length := by omega
    have e : (thL p q).getD i 0 = q.getD (p.getD i 0).toNat 0 := by
      simp [thL, List.getD_eq_getElem?_getD, List.getElem?_eq_getElem hp]
    rw [e, h2 i hi, Int.toNat_natCast, h2' (f i) (h1 i hi).1]
theorem cjL_isP {n : Nat} {p q : List Int} (h : IsP n p) (k : IsP n q) : IsP n (cjL p q) := thL_isP (thL_isP (back_isP h) k) h
def RwOk (n : Nat) (r : List Int) : Prop := r = [] ∨ IsP n r
def RwsOk (n : Nat) (o : List (List Int)) : Prop := o.length = n ∧ ∀ i, i < n → RwOk n (o.getD i [])
def sprT (o : List (List Int)) (x y : Nat) : Option (List (List Int) × Bool) :=
  if (o.getD x []) = [] ∨ (o.getD y []) = [] then some (o, false)
  else (fun (z : Nat) (want : List Int) => if o.getD z [] = [] then some (o.set z want, true) else if o.getD z [] = want then some (o, false) else none)
    ((o.getD x []).getD y 0).toNat (cjL (o.getD x []) (o.getD y []))
def sprR (x : Nat) : Nat → List (List Int) × Bool → Option (List (List Int) × Bool)
  | 0, s => some s
  | k + 1, s => (sprR x k s).bind fun s' => (sprT s'.1 x k).map fun t => (t.1, s'.2 || t.2)
def sprA (n : Nat) : Nat → List (List Int) × Bool → Option (List (List Int) × Bool)
  | 0, s => some s
  | k + 1, s => (sprA n k s).bind fun s' => sprR k n s'
def sprF (n : Nat) : Nat → List (List Int) → Option (List (List Int))
  | 0, o => none
  | f + 1, o => (sprA n n (o, false)).bind fun s => if s.2 then sprF n f s.1 else some s.1
def empC (o : List (List Int)) : Nat := o.countP fun r => r.isEmpty
def sprL (o : List (List Int)) : Option (List (List Int)) := sprF o.length (o.length + 1) o
theorem RwsOk.set {n : Nat} {o : List (List Int)} (h : RwsOk n o) (z : Nat) {r : List Int} (hr : RwOk n r) : RwsOk n (o.set z r) := by
  refine ⟨by rw [List.length_set]; exact h.1, fun i hi => ?_⟩
  rw [getD_set' o z i r [] (by rw [h.1]; exact hi)]
  split
  · exact hr
  · exact h.2 i hi
theorem empC_set {o : List (List Int)} {z : Nat} {r : List Int} (hz : z < o.length) (he : o.getD z [] = []) (hr : r ≠ []) : empC (o.set z r) + 1 = empC o := by
  induction o generalizing z with
  | nil => simp at hz
  | cons a o ih =>
    cases z with
    | zero =>
      have : a = [] := by simpa using he
      subst this
      have h2 : r.isEmpty = false := by cases r with
        | nil => exact absurd rfl hr
        | cons _ _ => rfl
      simp [empC, List.countP_cons, h2]
    | succ z =>
      have := ih (z := z) (by simpa using hz) (by simpa using he)
      unfold empC at *
      rw [List.set_cons_succ, List.countP_cons, List.countP_cons]
      omega
theorem IsP.ne {n : Nat} {r : List Int} (hn : 0 < n) (h : IsP n r) : r ≠ [] := fun e => by have := h.len; rw [e] at this; simp at this; omega
theorem IsP.at {n : Nat} {r : List Int} (h : IsP n r) {y : Nat} (hy : y < n) : ∃ z : Nat, r.getD y 0 = z ∧ z < n := by
  obtain ⟨f, g, hl, h1, h2⟩ := h
  exact ⟨f y, h2 y hy, (h1 y hy).1⟩
theorem sprT_ok {n : Nat} {o o' : List (List Int)} {b : Bool} {x y : Nat} (hn : 0 < n) (h : RwsOk n o) (hx : x < n) (hy : y < n) (e : sprT o x y = some (o', b)) : RwsOk n o' ∧ empC o' + (if b then 1 else 0) ≤ empC o := by
  unfold sprT at e
  split at e
  · cases e; exact ⟨h, by simp⟩
  · rename_i hne
    simp only at e
    have hpx := (h.2 x hx).resolve_left (fun h => hne (.inl h))
    have hpy := (h.2 y hy).resolve_left (fun h => hne (.inr h))
    have hc := cjL_isP hpx hpy
    obtain ⟨z, hz, hzn⟩ := hpx.at hy
    rw [hz, Int.toNat_natCast] at e
    split at e
    · rename_i hemp
      cases e
      refine ⟨h.set z (.inr hc), ?_⟩
      have := empC_set (o := o) (by rw [h.1]; exact hzn) hemp (IsP.ne hn hc)
      simp only [if_true]; omega
    · split at e
      · cases e; exact ⟨h, by simp⟩
      · cases e
theorem sprR_ok {n : Nat} {x : Nat} (hn : 0 < n) (hx : x < n) : ∀ (k : Nat) (s s' : List (List Int) × Bool), k ≤ n → RwsOk n s.1 → sprR x k s = some s' → RwsOk n s'.1 ∧ empC s'.1 + (if s'.2 then 1 else 0) ≤ empC s.1 + (if s.2 then 1 else 0) := by
  intro k
  induction k with
  | zero => intro s s' _ h e; cases e; exact ⟨h, Nat.le_refl _⟩
  | succ k ih =>
    intro s s' hk h e
    unfold sprR at e
    cases h1 : sprR x k s with
    | none => rw [h1] at e; cases e
    | some t =>
      rw [h1] at e
      have i1 := ih s t (by omega) h h1
      cases h2 : sprT t.1 x k with
      | none => simp [h2] at e
      | some u =>
        simp [h2] at e
        subst e
        have i2 := sprT_ok (b := u.2) hn i1.1 hx (by omega) h2
        refine ⟨i2.1, ?_⟩
        have a1 := i1.2
        have a2 := i2.2
        simp only
        cases ht : t.2 <;> cases hu : u.2 <;> simp [ht, hu] at * <;> omega
theorem sprA_ok {n : Nat} (hn : 0 < n) : ∀ (k : Nat) (s s' : List (List Int) × Bool), k ≤ n → RwsOk n s.1 → sprA n k s = some s' → RwsOk n s'.1 ∧ empC s'.1 + (if s'.2 then 1 else 0) ≤ empC s.1 + (if s.2 then 1 else 0) := by
  intro k
  induction k with
  | zero => intro s s' _ h e; cases e; exact ⟨h, Nat.le_refl _⟩
  | succ k ih =>
    intro s s' hk h e
    unfold sprA at e
    cases h1 : sprA n k s with
    | none => rw [h1] at e; cases e
    | some t =>
      rw [h1] at e
      have i1 := ih s t (by omega) h h1
      have i2 := sprR_ok hn (by omega) n t s' (Nat.le_refl _) i1.1 e
      exact ⟨i2.1, Nat.le_trans i2.2 i1.2⟩
theorem sprF_ok {n : Nat} (hn : 0 < n) : ∀ (f : Nat) (o o' : List (List Int)), RwsOk n o → sprF n f o = some o' → RwsOk n o' ∧ empC o' ≤ empC o := by
  intro f
  induction f with
  | zero => intro o o' _ h; cases h
  | succ f ih =>
    intro o o' h e
    unfold sprF at e
    cases h1 : sprA n n (o, false) with
    | none => rw [h1] at e; cases e
    | some s =>
      rw [h1] at e
      have i1 := sprA_ok hn n _ _ (Nat.le_refl _) h h1
      simp at i1 e
      cases hs : s.2 with
      | false => simp [hs] at e; subst e; exact ⟨i1.1, by omega⟩
      | true =>
        simp [hs] at e
        have i2 := ih _ _ i1.1 e
        exact ⟨i2.1, by omega⟩
end Go.Proofs.YtaddclaadbjnlaaGreat

namespace Go.Proofs.YtaddclaadbjnlaaGreat
set_option maxRecDepth 100000
set_option linter.unusedVariables false
set_option linter.unusedSimpArgs false
open Go.RowKit
set_option maxHeartbeats 2000000 in
theorem l01Own2_any (a : Option Addr) (n c : Nat) (xss : List (List Int)) (w : World) (h : Tbl w a n xss) (hm : n ≤ 1000000) (hx : ∀ x ∈ xss, x.length ≤ 1000000) :
    Calls Tryz.prog 86 #[.slice a n c] w fun e w' => ∃ a' c' vs, e = .returned (.slice a' n c') ∧ OwnT w' w.heap.size a' n c' vs xss ∧ Below w.heap.size w w' := by
  have HL := Lib.hid h.len
  have HX := Lib.hid hx; clear hx
  go_enter Tryz.func86, Tryz.ntmps86
  go_wp2
  have hO := OwnT.fresh w rfl
  have hB := below_al (Below.refl w.heap.size w) (.cells #[] 41)
  go_loopw [3, 4] (fun z i wr => ∃ (k : Nat) (az : Option Addr) (cz : Nat) (vz : List SV), k ≤ n ∧ i = .int .i64 k ∧ z = .slice az k cz ∧ OwnT wr w.heap.size az k cz vz (xss.take k) ∧ Below w.heap.size w wr) (fun _ i _ => n - (intOf i).toNat)
  case atStart => exact ⟨0, _, 0, _, Nat.zero_le _, rfl, rfl, by simpa using hO, hB⟩
  case round =>
    clear hO hB
    obtain ⟨k, az, cz, vz, hk, rfl, rfl, ho, hb⟩ := hrel
    by_cases hlt : k < n
    · obtain ⟨b, off, ai, ni, ci, rfl, g1, hr, hni⟩ := (h.below hb).at k hlt
      have hxk : k < xss.length := by have := HL.out; omega
      rw [Tbl.getD hxk] at hr
      have hni2 : ni ≤ 1000000 := by have := hr.len; have := HX.out _ (List.getElem_mem hxk); omega
      have HT : Hid (xss.take (k + 1) = xss.take k ++ [xss[k]]) := Lib.hid (List.take_succ_eq_append_getElem hxk)
      generalize xss[k] = X at *
      go_wp2_with fail
      refine (l01Own_any _ _ _ X _ hr (by omega)).mono ?_
      rintro e w1 ⟨a1, c1, rfl, ho1, hb1⟩
      have hbb := hb.size
      have hz1 := ho.below hb1
      have hq1 := below_th hb hb1
      have hs1 := hb1.size
      go_wp2_with (at_builtin; refine appT1 rfl rfl hz1 rfl (ho1.mono hbb) (fun g h1 h2 => by have h3 := ho.high _ h1; have h4 := ho1.lo _ h2; omega) (fun i hi g h1 h2 => by have h3 := ho1.lo _ h1; have h4 := (ho.row i hi).hi _ h2; omega) rfl (by omega) (by omega) ?_; intro g' cc w2 hO hb2)
      go_roundw
      case rel => exact ⟨k + 1, _, _, _, by omega, by go_num, rfl, by rw [HT.out]; exact hO, hq1.trans hb2⟩
      case measure => simp [intOf]; omega
    · obtain rfl : k = n := by omega
      go_wp2
      go_ret
      refine ⟨_, _, vz, rfl, ?_, hb⟩
      rw [List.take_of_length_le (by have := HL.out; omega)] at ho
      exact ho
end Go.Proofs.YtaddclaadbjnlaaGreat

namespace Go.Proofs.YtaddclaadbjnlaaGreat
set_option maxRecDepth 100000
set_option linter.unusedVariables false
set_option linter.unusedSimpArgs false
open Go.RowKit
theorem sprR_none {x : Nat} {s : List (List Int) × Bool} {k : Nat} (h : sprR x k s = none) : ∀ m, k ≤ m → sprR x m s = none := by
  intro m hm
  induction m with
  | zero => obtain rfl : k = 0 := by omega
            exact h
  | succ m ih =>
    by_cases e : k = m + 1
    · subst e; exact h
    · have := ih (by omega)
      unfold sprR; rw [this]; rfl
theorem sprA_none {n : Nat} {s : List (List Int) × Bool} {k : Nat} (h : sprA n k s = none) : ∀ m, k ≤ m → sprA n m s = none := by
  intro m hm
  induction m with
  | zero => obtain rfl : k = 0 := by omega
            exact h
  | succ m ih =>
    by_cases e : k = m + 1
    · subst e; exact h
    · have := ih (by omega)
      unfold sprA; rw [this]; rfl
theorem sprR_succ {x k : Nat} {s t : List (List Int) × Bool} (h : sprR x k s = some t) : sprR x (k + 1) s = (sprT t.1 x k).map fun u => (u.1, t.2 || u.2) := by
  show (sprR x k s).bind _ = _
  rw [h]; rfl
theorem sprA_succ {n k : Nat} {s t : List (List Int) × Bool} (h : sprA n k s = some t) : sprA n (k + 1) s = sprR k n t := by
  show (sprA n k s).bind _ = _
  rw [h]; rfl
def SprP (w : World) (n : Nat) (r : Option (List (List Int))) (e : Ending) (w' : World) : Prop :=
  (∃ o a c vs, r = some o ∧ e = .returned (.tuple #[.slice a n c, .bool true]) ∧ OwnT w' w.heap.size a n c vs o ∧ Below w.heap.size w w') ∨ (r = none ∧ e = .returned (.tuple #[.slice none 0 0, .bool false]) ∧ Below w.heap.size w w')
set_option maxHeartbeats 16000000 in
theorem l19Spread_any (n : Nat) (a : Option Addr) (c : Nat) (rows : List (List Int)) (w : World) (h : Tbl w a n rows) (hn0 : 0 < n) (hn : n ≤ 12) (hok : RwsOk n rows) :
    Calls Tryz.prog 153 #[.slice a n c] w (SprP w n (sprL rows)) := by
  have hlen : ∀ x ∈ rows, x.length ≤ 1000000 := fun x hx => by
    obtain ⟨i, hi, rfl⟩ := List.getElem_of_mem hx
    have := hok.2 i (by have := hok.1; omega)
    rw [List.getD_eq_getElem?_getD, List.getElem?_eq_getElem hi] at this
    rcases this with h | h
    · simp at h; rw [h]; simp
    · have := h.len; simp at this; omega
  go_enter Tryz.func153, Tryz.ntmps153
  go_wp2_with fail
  refine (l01Own2_any a n c rows _ h (by omega) hlen).mono ?_
  rintro e w1 ⟨a1, c1, vs1, rfl, ho1, hb1⟩
  obtain ⟨g, rfl, hgl, _, _⟩ := ho1.cells hn0
  have HR : Hid (sprF n (n + 1) rows = sprL rows) := Lib.hid (by unfold sprL; rw [hok.1])
  have hE : empC rows ≤ n := by
    have : empC rows ≤ rows.length := List.countP_le_length
    rw [hok.1] at this; exact this
  have hg0 : w.heap.size ≤ g := ho1.low g rfl
  go_wp2
  go_loopg [5, 6, 7, 8, 9] (2 * empC rows + 1) (fun k s5 s6 s7 s8 s9 wr => ∃ (o : List (List Int)) (b : Bool) (vs : List SV) (f : Nat), s5 = .bool b ∧ OwnT wr w.heap.size (some ⟨g, 0, none⟩) n c1 vs o ∧ RwsOk n o ∧ Below w.heap.size w wr ∧ k = 2 * empC o + (if b then 1 else 0) ∧ Hid ((if b then sprF n f o else some o) = sprL rows) ∧ (b = true → empC o < f))
  case atStart => exact ⟨rows, true, vs1, n + 1, rfl, ho1, hok, hb1, rfl, by simpa using HR, fun _ => by omega⟩
  case round =>
    obtain ⟨o, b, vs, f, rfl, ho, hok1, hq, hgk, HF, hf⟩ := hrel
    cases b with
    | false =>
      go_wp2
      go_ret2
      exact .inl ⟨o, _, _, _, HF.out.symm, rfl, ho, hq⟩
    | true =>
      have hf := hf rfl
      obtain ⟨f', rfl⟩ : ∃ f', f = f' + 1 := ⟨f - 1, by omega⟩
      have HF1 : Hid (sprF n (f' + 1) o = sprL rows) := HF
      clear HF
      have hok1' := hok1
      go_wp2
      go_loopw [5, 6, 7, 8, 9] (fun s5 i _ _ _ wr => ∃ (k : Nat) (o1 : List (List Int)) (b1 : Bool) (vs1 : List SV), k ≤ n ∧ i = .int .i64 k ∧ s5 = .bool b1 ∧ OwnT wr w.heap.size (some ⟨g, 0, none⟩) n c1 vs1 o1 ∧ RwsOk n o1 ∧ Below w.heap.size w wr ∧ Hid (sprA n k (o, false) = some (o1, b1))) (fun _ i _ _ _ _ => n - (intOf i).toNat)
      case atStart => exact ⟨0, o, false, vs, Nat.zero_le _, rfl, rfl, ho, hok1, hq, rfl⟩
      case round =>
        obtain ⟨k, o1, b1, vs1, hk, rfl, rfl, ho, hok1, hq, HA⟩ := hrel
        by_cases hkn : k < n
        · go_wp2
          go_loopw [5, 7, 8, 9] (fun s5 j _ _ wr => ∃ (m : Nat) (o2 : List (List Int)) (b2 : Bool) (vs2 : List SV), m ≤ n ∧ j = .int .i64 m ∧ s5 = .bool b2 ∧ OwnT wr w.heap.size (some ⟨g, 0, none⟩) n c1 vs2 o2 ∧ RwsOk n o2 ∧ Below w.heap.size w wr ∧ Hid (sprR k m (o1, b1) = some (o2, b2))) (fun _ j _ _ _ => n - (intOf j).toNat)
          case atStart => exact ⟨0, o1, b1, vs1, Nat.zero_le _, rfl, rfl, ho, hok1, hq, rfl⟩
          case round =>
            obtain ⟨m, o2, b2, vs2, hm, rfl, rfl, ho, hok2, hq, HB⟩ := hrel
            by_cases hmn : m < n
            · have HT := Lib.hid (sprR_succ HB.out)
              obtain ⟨g1, eg, hgs, hcell, hfree⟩ := ho.cells hn0
              cases eg
              obtain ⟨⟨ax, nx, cx⟩, ex⟩ : ∃ v, vs2.getD k svO = v := ⟨_, rfl⟩
              obtain ⟨⟨ay, ny, cy⟩, ey⟩ : ∃ v, vs2.getD m svO = v := ⟨_, rfl⟩
              have gx := hcell k hkn
              have gy := hcell m hmn
              have rx := ho.row k hkn
              have ry := ho.row m hmn
              rw [ex] at gx rx
              rw [ey] at gy ry
              have HX := Lib.hid ex; have HY := Lib.hid ey
              have HC := Lib.hid hcell
              clear ex ey hcell hfree
              have i1 : (0 : Int) ≤ (k : Int) := by omega
              have i2 : (k : Int) < (n : Int) := by omega
              have i3 : (0 : Int) ≤ (m : Int) := by omega
              have i4 : (m : Int) < (n : Int) := by omega
              have t0 : ((0 : Int) == 0) = true := rfl
              have tn : ((n : Int) == 0) = false := by simp; omega
              rcases hok2.2 k hkn with he | hpx
              · obtain rfl : nx = 0 := by have := rx.len; rw [he] at this; simpa using this
                have e : sprT o2 k m = some (o2, false) := by unfold sprT; rw [if_pos (.inl he)]
                have HT1 : Hid (sprR k (m + 1) (o1, b1) = some (o2, b2)) := Lib.hid (by rw [HT.out, e]; simp)
                clear he e
                go_wp2
                go_roundw
                case rel => exact ⟨m + 1, o2, b2, vs2, by omega, by go_num, rfl, ho, hok2, hq, HT1⟩
                case measure => simp [intOf]; omega
              · obtain rfl : n = nx := by have := rx.len; rw [hpx.len] at this; exact this.symm
                rcases hok2.2 m hmn with he | hpy
                · obtain rfl : ny = 0 := by have := ry.len; rw [he] at this; simpa using this
                  have e : sprT o2 k m = some (o2, false) := by unfold sprT; rw [if_pos (.inr he)]
                  have HT1 : Hid (sprR k (m + 1) (o1, b1) = some (o2, b2)) := Lib.hid (by rw [HT.out, e]; simp)
                  clear he e
                  go_wp2
                  go_roundw
                  case rel => exact ⟨m + 1, o2, b2, vs2, by omega, by go_num, rfl, ho, hok2, hq, HT1⟩
                  case measure => simp [intOf]; omega
                · obtain rfl : n = ny := by have := ry.len; rw [hpy.len] at this; exact this.symm
                  obtain ⟨z, hz, hzn⟩ := hpx.at hmn
                  obtain ⟨bx, ox, rfl, gz⟩ := rx.row.at m hmn
                  rw [hz] at gz
                  have hne : ¬ (o2.getD k [] = [] ∨ o2.getD m [] = []) := by rintro (h | h); exact IsP.ne hn0 hpx h; exact IsP.ne hn0 hpy h
                  have HTE : Hid (sprT o2 k m = if o2.getD z [] = [] then some (o2.set z (cjL (o2.getD k []) (o2.getD m [])), true) else if o2.getD z [] = cjL (o2.getD k []) (o2.getD m []) then some (o2, false) else none) := Lib.hid (by
                    unfold sprT; rw [if_neg hne]; simp only; rw [hz, Int.toNat_natCast])
                  have hpc := cjL_isP hpx hpy
                  have hbx : bx < wr.heap.size := by have := rx.lt; exact this.2
                  have hmx := hpx.mem; have hmy := hpy.mem; have hmb := (back_isP hpx).mem
                  clear hz hne
                  go_wp2
                  go_region_held3 (fun w' => w'.cell? ⟨g, k, none⟩ = some (.slice (some ⟨bx, ox, none⟩) n cx) ∧ w'.cell? ⟨g, m, none⟩ = some (.slice ay n cy) ∧ w'.cell? ⟨bx, ox + m, none⟩ = some (.int .i64 z))
                    (first | exact ⟨q1, q2, q3⟩ | exact ⟨gx, gy, gz⟩ | go_keep)
                    (first
                      | (go_at_call 179; refine (l04Conjugate_any _ _ n _ _ (o2.getD k []) (o2.getD m []) _ (rx.row.drewN 1) (ry.row.drewN 1) (by omega) hmx hmb hmy).mono ?_; rintro e w5 ⟨a5, c5, rfl, ho5, hb5⟩; have hb6 : Below wr.heap.size wr w5 := (Below.drew (Below.refl _ _)).trans hb5; have q1 := (hb6.cell (p := ⟨g, k, none⟩) hgs).trans gx; have q2 := (hb6.cell (p := ⟨g, m, none⟩) hgs).trans gy; have q3 := (hb6.cell (p := ⟨bx, ox + m, none⟩) hbx).trans gz))
                  all_goals
                    replace ho5 : Own w5 wr.heap.size a5 n c5 (cjL (o2.getD k []) (o2.getD m [])) := ho5
                    have ho6 := ho.below hb6
                    have hq6 : Below w.heap.size w w5 := below_th hq hb6
                    have hwq := hq.size
                    have hz6 := hb6.size
                    obtain ⟨W, HW⟩ : ∃ W, Hid (cjL (o2.getD k []) (o2.getD m []) = W) := ⟨_, rfl⟩
                    rw [HW.out] at ho5 hpc HTE
                    obtain ⟨⟨az, nz, cz⟩, ez⟩ : ∃ v, vs2.getD z svO = v := ⟨_, rfl⟩
                    obtain ⟨g2, eg2, _, hcell6, hfree6⟩ := ho6.cells hn0
                    cases eg2
                    have gz6 := hcell6 z hzn
                    have fz6 := hfree6 z
                    have rz := ho6.row z hzn
                    rw [ez] at gz6 rz
                    have HZ := Lib.hid ez
                    clear ez hcell6 hfree6
                    have i5 : (0 : Int) ≤ (z : Int) := by omega
                    have i6 : (z : Int) < (n : Int) := by omega
                    rcases hok2.2 z hzn with he | hpz
                    · obtain rfl : 0 = nz := by have := rz.len; rw [he] at this; simpa using this.symm
                      have hne5 : a5 ≠ some ⟨g, 0, none⟩ := fun e => by have := ho5.lo g e; omega
                      have hap5 : ∀ j, j < n → j ≠ z → Apart a5 (vs2.getD j svO).1 := fun j hj _ g' h1 h2 => by
                        have := ho5.lo g' h1
                        have := ho.uHi g' (.inr ⟨j, hj, h2⟩)
                        omega
                      have hPut := ho6.put z hzn (v := (a5, n, c5)) (ho5.mono (by omega)) hne5 hap5
                      have hRow := (ho5.setne (p := ⟨g, z, none⟩) (fun g' e => by have := ho5.lo g' e; simp; omega) (.slice a5 n c5)).row
                      have HT1 : Hid (sprR k (m + 1) (o1, b1) = some (o2.set z W, true)) := Lib.hid (by rw [HT.out, HTE.out, if_pos he]; simp)
                      have hokZ := hok2.set z (.inr hpc)
                      clear he
                      go_wp2_with fail
                      refine (l01Same_b _ _ _ _ _ _ W W _ hRow hRow (by omega) true (by simp)).mono ?_
                      rintro e w8 ⟨rfl, hb8⟩
                      go_wp2
                      go_roundw
                      case rel => exact ⟨m + 1, _, true, _, by omega, by go_num, rfl, hPut.below hb8, hokZ, below_th (below_setne (a := ⟨g, z, none⟩) hq6 (by show w.heap.size ≤ g; omega) _) hb8, HT1⟩
                      case measure => simp [intOf]; omega
                    · obtain rfl : n = nz := by have := rz.len; rw [hpz.len] at this; exact this.symm
                      have hne9 := IsP.ne hn0 hpz
                      cases hsw : decide (o2.getD z [] = W) with
                      | true =>
                        have he : o2.getD z [] = W := by simpa using hsw
                        have HT1 : Hid (sprR k (m + 1) (o1, b1) = some (o2, b2)) := Lib.hid (by rw [HT.out, HTE.out, if_neg hne9, if_pos he]; simp)
                        clear he hne9
                        go_wp2_with fail
                        refine (l01Same_b _ _ _ _ _ _ (o2.getD z []) W _ rz.row ho5.row (by omega) true hsw).mono ?_
                        rintro e w8 ⟨rfl, hb8⟩
                        go_wp2
                        go_roundw
                        case rel => exact ⟨m + 1, _, b2, _, by omega, by go_num, rfl, ho6.below hb8, hok2, below_th hq6 hb8, HT1⟩
                        case measure => simp [intOf]; omega
                      | false =>
                        have he : ¬ o2.getD z [] = W := by simpa using hsw
                        have h1 : sprR k (m + 1) (o1, b1) = none := by rw [HT.out, HTE.out, if_neg hne9, if_neg he]; rfl
                        have h2 := sprR_none h1 n (by omega)
                        have h3 : sprA n (k + 1) (o, false) = none := by rw [sprA_succ HA.out]; exact h2
                        have h4 := sprA_none h3 n (by omega)
                        have HN : Hid (sprL rows = none) := Lib.hid (by rw [← HF1.out]; show (sprA n n (o, false)).bind _ = _; rw [h4]; rfl)
                        clear he hne9 h1 h2 h3 h4
                        go_wp2_with fail
                        refine (l01Same_b _ _ _ _ _ _ (o2.getD z []) W _ rz.row ho5.row (by omega) false hsw).mono ?_
                        rintro e w8 ⟨rfl, hb8⟩
                        go_wp2
                        go_ret2
                        exact .inr ⟨HN.out, rfl, below_th hq6 hb8⟩
            · obtain rfl : n = m := by omega
              go_wp2
              go_roundw
              case rel => exact ⟨k + 1, o2, b2, vs2, by omega, by go_num, rfl, ho, hok2, hq, Lib.hid (by rw [sprA_succ HA.out]; exact HB.out)⟩
              case measure => simp [intOf]; omega
        · obtain rfl : n = k := by omega
          have hd := sprA_ok hn0 n _ _ (Nat.le_refl _) hok1' HA.out
          go_wp2
          go_roundg (2 * empC o1 + (if b1 then 1 else 0))
          case measure => simp at hd; omega
          case rel =>
            refine ⟨o1, b1, vs1, f', rfl, ho, hok1, hq, rfl, Lib.hid ?_, fun hb => ?_⟩
            · have h5 := HF1.out
              rw [← h5]
              show _ = (sprA n n (o, false)).bind _
              rw [HA.out]; rfl
            · subst hb; simp at hd; omega
end Go.Proofs.YtaddclaadbjnlaaGreat
