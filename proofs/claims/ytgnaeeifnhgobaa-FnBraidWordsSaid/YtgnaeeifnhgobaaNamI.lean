/-
  NamedBraid: what the program's functions compute.
  No condition but bounds.
-/
import Derived.Test.YtgnaeeifnhgobaaOwnSt
import Derived.Test.YtgnaeeifnhgobaaBase
import Derived.Deep.RegionHeld3
namespace Go.Proofs.Ytgnaeeifnhgobaa
set_option maxRecDepth 100000
set_option linter.unusedVariables false
set_option linter.unusedSimpArgs false
open Go.RowKit

/-- the letter of a byte, or 0 -/
def letW (c : UInt8) : Int := if 97 ≤ c.toNat ∧ c.toNat ≤ 101 then (c.toNat : Int) - 96 else if 65 ≤ c.toNat ∧ c.toNat ≤ 69 then 64 - (c.toNat : Int) else 0
/-- the first k letters of a text, behind its first two bytes -/
def wrdK (t : ByteArray) (k : Nat) : List Int := ((t.data.toList.drop 2).take k).map letW
theorem wrdK_succ (t : ByteArray) (k : Nat) (h : k + 2 < t.size) : wrdK t (k + 1) = wrdK t k ++ [letW t[k + 2]] := by
  unfold wrdK
  have hl : k < (t.data.toList.drop 2).length := by rw [List.length_drop]; have : t.data.toList.length = t.size := rfl
                                                    omega
  rw [List.take_succ_eq_append_getElem hl, List.map_append]
  congr 1
  simp only [List.map_cons, List.map_nil, List.getElem_drop, Array.getElem_toList]
  congr 2
  simp only [Nat.add_comm 2 k]; rfl
/-- a text of letters -/
def LetT (t : ByteArray) : Prop := ∀ i (h : i < t.size), 2 ≤ i → (97 ≤ t[i].toNat ∧ t[i].toNat ≤ 101) ∨ (65 ≤ t[i].toNat ∧ t[i].toNat ≤ 69)

set_option maxHeartbeats 8000000 in
theorem readBraid_ok (t : ByteArray) (w : World) (h2 : 2 ≤ t.size) (h3 : t.size ≤ 1000) (hc : t[1].toNat = 58) (hall : LetT t) (s : Int) (h0 : (t[0].toNat : Int) - 48 = s) (hs : I64 s) :
    Calls Try.prog 50 #[.string t] w fun e w' => ∃ a n c, e = .returned (.tuple #[bAgg s a n c, .bool (isBr s (wrdK t (t.size - 2)))]) ∧ Own w' w.heap.size a n c (wrdK t (t.size - 2)) ∧ Below w.heap.size w w' := by
  have HC := Lib.hid hc; have HALL := Lib.hid hall; have H0 := Lib.hid h0
  have hc2 : ((t[1].toNat : Int) != 58) = false := by simp; omega
  have hc3 : ((t[1].toNat : Int) == 58) = true := by simp; omega
  have i1 : ¬ ((t.size : Int) < 2) := by omega
  have i2 : (2 : Int) ≤ (t.size : Int) := by omega
  have hz1 : wrap64 (t[0].toNat : Int) = t[0].toNat := by have := t[0].toNat_lt; exact IntWalk.wrap64_in _ ⟨by omega, by omega⟩
  have hz2 : wrap64 (wrap64 (t[0].toNat : Int) - 48) = s := by rw [hz1, h0]; exact IntWalk.wrap64_in _ hs
  have HZ := Lib.hid hz2
  clear hc hall h0 hz1 hz2
  go_enter Try.func50, Try.ntmps50
  go_wp2
  go_loopw [5] (fun i wr => ∃ (k : Nat) (a' : Option Addr) (n' c' : Nat), k + 2 ≤ t.size ∧ i = .int .i64 ((k + 2 : Nat) : Int) ∧ Loc wr w.heap.size #[.int .i64 0, .slice none 0 0] 26 ∧
    Loc wr (w.heap.size + 1) #[.int .i64 s, .slice a' n' c'] 26 ∧ Own wr (w.heap.size + 2) a' n' c' (wrdK t k) ∧ Below w.heap.size w wr ∧ w.heap.size + 2 ≤ wr.heap.size) (fun i _ => t.size - (intOf i).toNat)
  case atStart =>
    rw [HZ.out]
    exact ⟨0, none, 0, 0, by omega, rfl, (Loc.new _ rfl _ _).alloc _, Loc.new _ (by simp) _ _, Own.nil _ _, below_al (below_al (Below.refl _ _) _) _, by simp⟩
  case round =>
    obtain ⟨k, a', n', c', hk, rfl, hR, hL, ho, hbl, hsz⟩ := hrel
    have lL := hL.two
    have hln : n' + 1 ≤ 1000000000000 := by
      have := ho.len
      simp [wrdK] at this; omega
    by_cases hlt : k + 2 < t.size
    · have HS := Lib.hid (wrdK_succ t k hlt)
      have hx := HALL.out (k + 2) hlt (by omega)
      have hwq : w.heap.size + 2 ≤ wr.heap.size := hsz
      rcases hx with hx | hx
      · have e1 : letW t[k + 2] = (t[k + 2].toNat : Int) - 97 + 1 := by unfold letW; rw [if_pos hx]; omega
        rw [e1] at HS
        obtain ⟨hx1, hx2⟩ := hx
        clear e1
        go_wp2_with (at_builtin; refine app1 rfl rfl ho rfl rfl (by omega) hwq ?_; intro g' cc w8 hO hg8 hs8 hb8; have hL8 := hL.below hb8 (by omega); have lL8 := hL8.two)
        go_roundw
        case rel =>
          refine ⟨k + 1, _, _, _, by omega, by go_num, (hR.below hb8 (by omega)).setne (by simp <;> omega) _, hL8.set 1 _, ?_, (hbl.trans (hb8.mono (by omega))).setCell (by simp) _, by rw [size_set]; omega⟩
          rw [HS.out]
          exact hO.setlo (by simp) _
        case measure => simp [intOf]; omega
      · have e1 : letW t[k + 2] = -((t[k + 2].toNat : Int) - 65) - 1 := by unfold letW; rw [if_neg (by omega), if_pos hx]; omega
        rw [e1] at HS
        obtain ⟨hx1, hx2⟩ := hx
        clear e1
        go_wp2_with (at_builtin; refine app1 rfl rfl ho rfl rfl (by omega) hwq ?_; intro g' cc w8 hO hg8 hs8 hb8; have hL8 := hL.below hb8 (by omega); have lL8 := hL8.two)
        go_roundw
        case rel =>
          refine ⟨k + 1, _, _, _, by omega, by go_num, (hR.below hb8 (by omega)).setne (by simp <;> omega) _, hL8.set 1 _, ?_, (hbl.trans (hb8.mono (by omega))).setCell (by simp) _, by rw [size_set]; omega⟩
          rw [HS.out]
          exact hO.setlo (by simp) _
        case measure => simp [intOf]; omega
    · have HK : Hid (t.size - 2 = k) := Lib.hid (by omega)
      have hwq : w.heap.size + 2 ≤ wr.heap.size := hsz
      have z0 : w.heap.size < wr.heap.size := by omega
      go_wp2
      go_region_held3 (fun w' => w'.cell? ⟨w.heap.size + 1, 0, none⟩ = some (.int .i64 s) ∧ w'.cell? ⟨w.heap.size + 1, 1, none⟩ = some (.slice a' n' c'))
        (first | exact ⟨lL2.1, lL2.2.1⟩ | exact ⟨lL.1, lL.2.1⟩ | go_keep)
        (first | (go_at_call 34; refine (isBraid_any s a' n' c' _ _ (ho.row.drewN 1) (by omega)).mono ?_; rintro e w2 ⟨rfl, hb2⟩; have hb3 : Below wr.heap.size wr w2 := (Below.drew (Below.refl _ _)).trans hb2; have hL2 := hL.below hb3 hL.lt; have lL2 := hL2.two; have hR2 := (hR.below hb3 hR.lt).two; have hO2 := ho.below hb3))
      all_goals
        go_wp2
        refine bodyPost_ret (v := .tuple #[bAgg s a' n' c', .bool (isBr s (wrdK t (t.size - 2)))]) (by simp [HK.out, results, Try.results50, go_sem, hR2]) rfl ⟨a', n', c', rfl, ?_, ?_⟩
        · rw [HK.out]; exact ((hO2.setlo (by simp <;> omega) _).setlo (by simp <;> omega) _).mono (by omega)
        · exact ((hbl.trans (hb3.mono (by omega))).setCell (by simp) _).setCell (by simp) _

/-- the text of the braid with a name, or none -/
def namB (t : ByteArray) : ByteArray :=
  if (t.toList == [117, 110, 107, 110, 111, 116]) = true then ⟨#[50, 58, 97]⟩ else
  if (t.toList == [117, 110, 108, 105, 110, 107]) = true then ⟨#[50, 58]⟩ else
  if (t.toList == [104, 111, 112, 102]) = true then ⟨#[50, 58, 97, 97]⟩ else
  if (t.toList == [116, 114, 101, 102, 111, 105, 108]) = true then ⟨#[50, 58, 97, 97, 97]⟩ else
  if (t.toList == [101, 105, 103, 104, 116]) = true then ⟨#[51, 58, 97, 66, 97, 66]⟩ else
  if (t.toList == [115, 111, 108, 111, 109, 111, 110]) = true then ⟨#[50, 58, 97, 97, 97, 97]⟩ else
  if (t.toList == [115, 116, 97, 114]) = true then ⟨#[50, 58, 97, 97, 97, 97, 97]⟩ else
  if (t.toList == [119, 104, 105, 116, 101, 104, 101, 97, 100]) = true then ⟨#[51, 58, 97, 66, 97, 66, 66]⟩ else
  if (t.toList == [114, 105, 110, 103, 115]) = true then ⟨#[51, 58, 97, 66, 97, 66, 97, 66]⟩ else
  if (t.toList == [99, 104, 97, 105, 110]) = true then ⟨#[51, 58, 97, 97, 98, 98]⟩ else
  ByteArray.empty
/-- a text that is read as a braid -/
def TxtOk (u : ByteArray) : Prop := ∃ h : 2 ≤ u.size, u.size ≤ 10 ∧ u[1].toNat = 58 ∧ (u[0].toNat = 50 ∨ u[0].toNat = 51) ∧ LetT u ∧ isBr ((u[0].toNat : Int) - 48) (wrdK u (u.size - 2)) = true ∧ u.toList.isEmpty = false
theorem namB_ok (t : ByteArray) : namB t = ByteArray.empty ∨ TxtOk (namB t) := by
  unfold namB
  repeat' split
  all_goals first | exact .inl rfl | (refine .inr ?_; unfold TxtOk LetT; exact ⟨by decide, by decide, by decide, by decide, by decide, by kernel_rfl, by kernel_rfl⟩)

/-- the number of strands that a text names -/
def namS (u : ByteArray) : Int := if h : 0 < u.size then (u[0].toNat : Int) - 48 else 0
/-- what NamedBraid answers -/
def nbF (t : ByteArray) : Int × List Int × Int := if (namB t).size = 0 then (0, [], 4) else (namS (namB t), wrdK (namB t) ((namB t).size - 2), 0)

end Go.Proofs.Ytgnaeeifnhgobaa
