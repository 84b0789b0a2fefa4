/-
  NamedBraid: what the reference's functions compute.
  No condition but bounds.
-/
import Derived.Test.YtmncpnpjhchliaaGreatNamI
import Derived.Laws.BytesArg
import Derived.Test.YtmncpnpjhchliaaGreatBase
namespace Go.Proofs.YtmncpnpjhchliaaGreat
set_option maxRecDepth 100000
set_option linter.unusedVariables false
set_option linter.unusedSimpArgs false
open Go.RowKit

/-- names and texts, one after the other -/
def txtL : List ByteArray := [⟨#[117, 110, 107, 110, 111, 116]⟩, ⟨#[50, 58, 97]⟩, ⟨#[117, 110, 108, 105, 110, 107]⟩, ⟨#[50, 58]⟩, ⟨#[104, 111, 112, 102]⟩, ⟨#[50, 58, 97, 97]⟩, ⟨#[116, 114, 101, 102, 111, 105, 108]⟩, ⟨#[50, 58, 97, 97, 97]⟩, ⟨#[101, 105, 103, 104, 116]⟩, ⟨#[51, 58, 97, 66, 97, 66]⟩, ⟨#[115, 111, 108, 111, 109, 111, 110]⟩, ⟨#[50, 58, 97, 97, 97, 97]⟩, ⟨#[115, 116, 97, 114]⟩, ⟨#[50, 58, 97, 97, 97, 97, 97]⟩, ⟨#[119, 104, 105, 116, 101, 104, 101, 97, 100]⟩, ⟨#[51, 58, 97, 66, 97, 66, 66]⟩, ⟨#[114, 105, 110, 103, 115]⟩, ⟨#[51, 58, 97, 66, 97, 66, 97, 66]⟩, ⟨#[99, 104, 97, 105, 110]⟩, ⟨#[51, 58, 97, 97, 98, 98]⟩]
set_option maxHeartbeats 4000000 in
theorem l17Texts_ok (w : World) :
    Calls Tryz.prog 78 #[] w fun e w' => ∃ a c, e = .returned (.slice a 20 c) ∧ OwnSt w' w.heap.size a 20 c txtL ∧ Below w.heap.size w w' := by
  go_enter Tryz.func78, Tryz.ntmps78
  go_wp2
  go_ret
  exact ⟨_, _, rfl, OwnSt.mk rfl (Nat.le_refl _) (Loc.new w rfl _ _) (by decide) (by unfold maxLen; omega) rfl rfl, below_al (Below.refl _ _) _⟩

theorem und_bytes : Tryz.prog.underlying 22 = some (.slice 5) := by kernel_rfl
theorem und_u8 : Tryz.prog.underlying 5 = some (.int .u8) := by kernel_rfl
theorem und_str : Tryz.prog.underlying 9 = some .string := by kernel_rfl
/-- a text of one byte out of a new row of one byte -/
@[go_sem] theorem conv_one (w : World) (x : Int) :
    (convert 22 9 (.slice (some ⟨w.heap.size, 0, none⟩) 1 1)).run Tryz.prog (w.alloc (.cells #[.int .u8 x] 5)) = .ok (.string ⟨#[UInt8.ofNat x.toNat]⟩) (w.alloc (.cells #[.int .u8 x] 5)) := by
  refine run_convert_bytes_arg _ _ _ und_bytes und_u8 _ 0 1 1 [x] rfl ?_ _ und_str
  intro i hi
  obtain rfl : i = 0 := by omega
  exact (Loc.new w rfl #[.int .u8 x] 5).cell 0 rfl

set_option maxHeartbeats 4000000 in
theorem l01Dec_ok (n : Nat) (w : World) (h1 : n < 10) :
    Calls Tryz.prog 151 #[.int .i64 n] w fun e w' => e = .returned (.string ⟨#[UInt8.ofNat (48 + n)]⟩) ∧ Below w.heap.size w w' := by
  have HN : Hid ((48 + (n : Int)).toNat = 48 + n) := Lib.hid (by omega)
  go_enter Tryz.func151, Tryz.ntmps151
  go_wp2
  go_ret
  exact ⟨rfl, below_al (Below.refl _ _) _⟩

set_option maxHeartbeats 4000000 in
theorem l01Value_ok (t : ByteArray) (w : World) (h1 : t.size = 1) (hd : t[0].toNat = 50 ∨ t[0].toNat = 51) :
    Calls Tryz.prog 124 #[.string t] w fun e w' => e = .returned (.int .i64 ((t[0].toNat : Int) - 48)) ∧ w = w' := by
  have HS : Hid ((t.size : Int) = 1) := Lib.hid (by omega)
  have HD : Hid ((0 : Int) * 10 + ((t[0].toNat : Int) - 48) = (t[0].toNat : Int) - 48) := Lib.hid (by omega)
  go_enter Tryz.func124, Tryz.ntmps124
  go_wp2
  go_loop [3, 4] (fun m i => (i = .int .i64 0 ∧ m = .int .i64 0) ∨ (i = .int .i64 1 ∧ m = .int .i64 ((t[0].toNat : Int) - 48))) (fun _ i => 1 - (intOf i).toNat)
  case atStart => exact .inl ⟨rfl, rfl⟩
  case round =>
    rcases hrel with ⟨rfl, rfl⟩ | ⟨rfl, rfl⟩
    · have b1 : 50 ≤ t[0].toNat ∧ t[0].toNat ≤ 51 := by omega
      go_wp2
      go_round
      case rel => exact .inr ⟨rfl, by rw [← HD.out]⟩
      case measure => simp [intOf]
    · go_wp2
      go_ret
      exact ⟨rfl, rfl⟩

/-- the byte of a letter -/
def chrB (x : Int) : UInt8 := if x < 0 then UInt8.ofNat (64 - x).toNat else UInt8.ofNat (96 + x).toNat
/-- the text of a braid of few strands -/
def txtB (s : Nat) (xs : List Int) : ByteArray := ⟨#[UInt8.ofNat (48 + s), 58] ++ (xs.map chrB).toArray⟩
theorem txtB_succ (s : Nat) (xs : List Int) (k : Nat) (h : k < xs.length) : txtB s (xs.take (k + 1)) = txtB s (xs.take k) ++ ⟨#[chrB xs[k]]⟩ := by
  unfold txtB
  rw [List.take_succ_eq_append_getElem h, List.map_append]
  apply ByteArray.ext
  simp
set_option maxHeartbeats 4000000 in
theorem l16Text_ok (s : Nat) (a : Option Addr) (n c : Nat) (xs : List Int) (w : World) (h1 : Row w a n xs) (hs : s ≤ 6) (hn : n ≤ 30) (hx : ∀ x ∈ xs, x ≠ 0 ∧ -5 ≤ x ∧ x ≤ 5) :
    Calls Tryz.prog 125 #[bAgg s a n c] w fun e w' => e = .returned (.string (txtB s xs)) ∧ Below w.heap.size w w' := by
  have hA := Loc.new w rfl #[.int .i64 s, .slice a n c] 29
  go_enter Tryz.func125, Tryz.ntmps125
  go_wp2_with fail
  refine (l01Dec_ok s _ (by omega)).mono ?_
  rintro e w1 ⟨rfl, hb1⟩
  have lA := (hA.below hb1 hA.lt).two
  go_wp2
  have HX := Lib.hid hx; have HL := Lib.hid h1.len
  have hr1 := (h1.alloc (.cells #[.int .i64 s, .slice a n c] 29)).below hb1
  have hB1 : Below w.heap.size w w1 := below_alth (Below.refl _ _) hb1
  clear hx
  go_loopw [3, 4] (fun m i wr => ∃ k : Nat, k ≤ n ∧ i = .int .i64 k ∧ m = .string (txtB s (xs.take k)) ∧ Below w1.heap.size w1 wr) (fun _ i _ => n - (intOf i).toNat)
  case atStart => exact ⟨0, Nat.zero_le _, rfl, by simp [txtB]; rfl, Below.refl _ _⟩
  case round =>
    obtain ⟨k, hk, rfl, rfl, hq⟩ := hrel
    have lE := (((hA.below hb1 hA.lt).below hq (hA.below hb1 hA.lt).lt)).two
    by_cases hlt : k < n
    · obtain ⟨b, off, rfl, g1⟩ := (hr1.below hq).at k hlt
      have hxl : k < xs.length := by have := HL.out; omega
      have HS := Lib.hid (txtB_succ s xs k hxl)
      have hv := HX.out xs[k] (List.getElem_mem hxl)
      have hz : (txtB s (xs.take k)).size = k + 2 := by
        show (#[UInt8.ofNat (48 + s), 58] ++ ((xs.take k).map chrB).toArray).size = k + 2
        simp; omega
      have i9 : ¬ 9223372036854775807 < (txtB s (xs.take k)).size + 1 := by omega
      clear hz
      by_cases hneg : xs[k] < 0
      · obtain ⟨p, hp0⟩ : ∃ p : Nat, xs[k] = -(p : Int) - 1 := ⟨(-xs[k] - 1).toNat, by omega⟩
        have hp5 : p ≤ 4 := by omega
        have hp : plc xs[k] = p := by unfold plc; rw [if_pos hneg]; omega
        have hc : chrB xs[k] = 65 + UInt8.ofNat p := by unfold chrB; rw [if_pos hneg, show (64 - xs[k]).toNat = 65 + p by omega, UInt8.ofNat_add]; rfl
        rw [hc] at HS
        clear hp0 hc
        go_wp2_with fail
        refine (l16Place_any xs[k] _ (by omega) (by omega)).mono ?_
        rintro e w3 ⟨rfl, rfl⟩
        rw [hp]
        clear hp
        go_wp2
        go_roundw
        case rel => exact ⟨k + 1, by omega, by go_num, by rw [HS.out], below_al hq _⟩
        case measure => simp [intOf]; omega
      · obtain ⟨p, hp0⟩ : ∃ p : Nat, xs[k] = (p : Int) + 1 := ⟨(xs[k] - 1).toNat, by omega⟩
        have hp5 : p ≤ 4 := by omega
        have hp : plc xs[k] = p := by unfold plc; rw [if_neg hneg]; omega
        have hc : chrB xs[k] = 97 + UInt8.ofNat p := by unfold chrB; rw [if_neg hneg, show (96 + xs[k]).toNat = 97 + p by omega, UInt8.ofNat_add]; rfl
        rw [hc] at HS
        clear hp0 hc
        go_wp2_with fail
        refine (l16Place_any xs[k] _ (by omega) (by omega)).mono ?_
        rintro e w3 ⟨rfl, rfl⟩
        rw [hp]
        clear hp
        go_wp2
        go_roundw
        case rel => exact ⟨k + 1, by omega, by go_num, by rw [HS.out], below_al hq _⟩
        case measure => simp [intOf]; omega
    · obtain rfl : k = n := by omega
      go_wp2
      go_ret
      exact ⟨by rw [List.take_of_length_le (by have := HL.out; omega)]; rfl, below_th hB1 hq⟩

set_option maxHeartbeats 8000000 in
theorem l01Split_ok (t : ByteArray) (w : World) (h2 : 2 ≤ t.size) (h3 : t.size ≤ 1000) (hc : t[1].toNat = 58) (h0 : t[0].toNat ≠ 58) (hall : LetT t) :
    Calls Tryz.prog 123 #[.string t, .int .u8 58] w fun e w' => ∃ a c, e = .returned (.slice a 2 c) ∧ OwnSt w' w.heap.size a 2 c [t.extract 0 1, t.extract 2 t.size] ∧ Below w.heap.size w w' := by
  have hF : OwnSt (w.alloc (.cells #[] 9)) w.heap.size (some ⟨w.heap.size, 0, none⟩) 0 0 [] := OwnSt.mk rfl (Nat.le_refl _) (Loc.new w rfl _ _) (Nat.le_refl _) (by unfold maxLen; omega) rfl rfl
  have HNE : Hid (∀ i (h : i < t.size), i ≠ 1 → t[i].toNat ≠ 58) := Lib.hid fun i h hi => by
    rcases Nat.lt_or_ge i 2 with h' | h'
    · obtain rfl : i = 0 := by omega
      exact h0
    · have := hall i h h'; omega
  have HC := Lib.hid hc
  clear hc h0 hall
  go_enter Tryz.func123, Tryz.ntmps123
  go_wp2
  go_loopw [5, 6, 7] (fun o m i wr => ∃ (k : Nat) (a : Option Addr) (n c : Nat) (xs : List ByteArray), k ≤ t.size ∧ i = .int .i64 k ∧ o = .slice a n c ∧ OwnSt wr w.heap.size a n c xs ∧ ((k ≤ 1 ∧ n = 0 ∧ xs = [] ∧ m = .int .i64 0) ∨ (2 ≤ k ∧ n = 1 ∧ xs = [t.extract 0 1] ∧ m = .int .i64 2)) ∧ Below w.heap.size w wr) (fun _ _ i _ => t.size - (intOf i).toNat)
  case atStart => exact ⟨0, _, 0, 0, [], by omega, rfl, rfl, hF, .inl ⟨by omega, rfl, rfl, rfl⟩, below_al (Below.refl _ _) _⟩
  case round =>
    obtain ⟨k, a, n, c, xs, hk, rfl, rfl, ho, hcase, hq⟩ := hrel
    have hwq : w.heap.size ≤ wr.heap.size := hq.size
    by_cases hlt : k < t.size
    · by_cases h1 : k = 1
      · subst h1
        rcases hcase with ⟨_, rfl, rfl, rfl⟩ | ⟨hk2, _⟩
        · have e58 : ((t[1].toNat : Int) == 58) = true := by simp; have := HC.out; omega
          go_wp2_with (at_builtin; refine app1St rfl rfl ho rfl rfl (by omega) hwq ?_; intro g' cc w8 hO hg8 hs8 hb8)
          go_roundw
          case rel => exact ⟨2, _, 1, cc, _, by omega, rfl, rfl, hO, .inr ⟨by omega, rfl, rfl, rfl⟩, hq.trans hb8⟩
          case measure => simp [intOf]; omega
        · omega
      · have hne := HNE.out k hlt h1
        have e58 : ((t[k].toNat : Int) == 58) = false := by simp; omega
        go_wp2
        go_roundw
        case rel =>
          refine ⟨k + 1, a, n, c, xs, by omega, by go_num, rfl, ho, ?_, hq⟩
          rcases hcase with ⟨h, h'⟩ | ⟨h, h'⟩
          · exact .inl ⟨by omega, h'⟩
          · exact .inr ⟨by omega, h'⟩
        case measure => simp [intOf]; omega
    · obtain ⟨hk2, rfl, rfl, rfl⟩ : 2 ≤ k ∧ n = 1 ∧ xs = [t.extract 0 1] ∧ _ := by
        rcases hcase with ⟨h, _⟩ | h
        · omega
        · exact h
      go_wp2_with (at_builtin; refine app1St rfl rfl ho rfl rfl (by omega) hwq ?_; intro g' cc w8 hO hg8 hs8 hb8)
      go_ret
      exact ⟨_, _, rfl, hO, hq.trans hb8⟩

set_option maxHeartbeats 8000000 in
theorem parseBraid_ok (t : ByteArray) (w : World) (h2 : 2 ≤ t.size) (h3 : t.size ≤ 10) (hc : t[1].toNat = 58) (h5 : t[0].toNat = 50 ∨ t[0].toNat = 51) (hall : LetT t) (s : Nat) (hs : (t[0].toNat : Int) - 48 = s)
    (hb : isBr s (wrdK t (t.size - 2)) = true) (ht : txtB s (wrdK t (t.size - 2)) = t) :
    Calls Tryz.prog 79 #[.string t] w (RetB w s (wrdK t (t.size - 2)) 0) := by
  have hv : (t.extract 0 1).size = 1 := by simp; omega
  go_enter Tryz.func79, Tryz.ntmps79
  go_wp2_with fail
  refine (l01Split_ok t _ h2 (by omega) hc (by omega) hall).mono ?_
  rintro e w1 ⟨a, c, rfl, ho, hb1⟩
  obtain ⟨b, off, rfl, hbl, hcell⟩ := ho.row.all (by omega)
  have g0 : w1.cell? ⟨b, off, none⟩ = some (.string (t.extract 0 1)) := hcell 0 (by omega)
  have g1 : w1.cell? ⟨b, off + 1, none⟩ = some (.string (t.extract 2 t.size)) := hcell 1 (by omega)
  go_wp2_with fail
  have hv0 : (t.extract 0 1)[0] = t[0] := by simp [ByteArray.getElem_extract]
  refine (l01Value_ok (t.extract 0 1) _ hv (by rw [hv0]; exact h5)).mono ?_
  rintro e w2 ⟨rfl, rfl⟩
  rw [hv0, hs]
  obtain ⟨u, HU⟩ : ∃ u, u = t.extract 2 t.size := ⟨_, rfl⟩
  have hus : u.size = t.size - 2 := by rw [HU]; simp
  have HUE : Hid (∀ k (h : k < u.size) (h' : k + 2 < t.size), u[k].toNat = t[k + 2].toNat) := Lib.hid fun k h h' => by
    subst HU; simp [ByteArray.getElem_extract, Nat.add_comm]
  rw [← HU] at g1
  clear HU
  have HC := Lib.hid hc; have HALL := Lib.hid hall; have HB := Lib.hid hb; have HT := Lib.hid ht; have H5 := Lib.hid h5; have HS0 := Lib.hid hs
  have hs6 : s ≤ 6 := by omega
  have hA1 := (Loc.new w rfl #[.int .i64 0, .slice none 0 0] 29).below hb1 (by simp)
  have hB1 : Below w.heap.size w w1 := below_alth (Below.refl _ _) hb1
  have y0 : w.heap.size < w1.heap.size := hA1.lt
  have HUS := Lib.hid hus
  clear hc hall hb ht h5 hs hcell hv hv0 hus
  go_wp2
  go_loopw [6] (fun i wr => ∃ (k : Nat) (a' : Option Addr) (n' c' : Nat), k + 2 ≤ t.size ∧ i = .int .i64 k ∧
    Loc wr w1.heap.size #[.int .i64 s, .slice a' n' c'] 29 ∧ Own wr (w1.heap.size + 1) a' n' c' (wrdK t k) ∧ Below w1.heap.size w1 wr ∧ w1.heap.size + 1 ≤ wr.heap.size) (fun i _ => t.size - (intOf i).toNat)
  case atStart => exact ⟨0, none, 0, 0, by omega, rfl, Loc.new _ rfl _ _, Own.nil _ _, below_al (Below.refl _ _) _, by simp⟩
  case round =>
    obtain ⟨k, a', n', c', hk, rfl, hL, ho', hbl', hsz⟩ := hrel
    have lL := hL.two
    have lR := (hA1.below hbl' y0).two
    obtain ⟨bc, bf⟩ := bcell hbl'
    have g1' : wr.cell? ⟨b, off + 1, none⟩ = some (.string u) := (bc _ _ hbl).trans g1
    clear bc bf
    have hln : n' + 1 ≤ 1000000000000 := by
      have := ho'.len
      simp [wrdK] at this; omega
    by_cases hlt : k + 2 < t.size
    · have HS := Lib.hid (wrdK_succ t k hlt)
      have hku : k < u.size := by have := HUS.out; omega
      have hx := HALL.out (k + 2) hlt (by omega)
      have he := HUE.out k hku hlt
      have hwq : w1.heap.size + 1 ≤ wr.heap.size := hsz
      rw [← he] at hx
      rcases hx with hx | hx
      · have e1 : letW t[k + 2] = (u[k].toNat : Int) - 97 + 1 := by unfold letW; rw [he] at hx ⊢; rw [if_pos hx]; omega
        rw [e1] at HS
        obtain ⟨hx1, hx2⟩ := hx
        clear e1 he
        go_wp2_with (at_builtin; refine app1 rfl rfl ho' rfl rfl (by omega) hwq ?_; intro g' cc w8 hO hg8 hs8 hb8; have hL8 := hL.below hb8 (by omega); have lL8 := hL8.two)
        go_roundw
        case rel =>
          refine ⟨k + 1, _, _, _, by omega, by go_num, hL8.set 1 _, ?_, (hbl'.trans (hb8.mono (by omega))).setCell (by simp) _, by rw [size_set]; omega⟩
          rw [HS.out]
          exact hO.setlo (by simp) _
        case measure => simp [intOf]; omega
      · have e1 : letW t[k + 2] = -((u[k].toNat : Int) - 65) - 1 := by unfold letW; rw [he] at hx ⊢; rw [if_neg (by omega), if_pos hx]; omega
        rw [e1] at HS
        obtain ⟨hx1, hx2⟩ := hx
        clear e1 he
        go_wp2_with (at_builtin; refine app1 rfl rfl ho' rfl rfl (by omega) hwq ?_; intro g' cc w8 hO hg8 hs8 hb8; have hL8 := hL.below hb8 (by omega); have lL8 := hL8.two)
        go_roundw
        case rel =>
          refine ⟨k + 1, _, _, _, by omega, by go_num, hL8.set 1 _, ?_, (hbl'.trans (hb8.mono (by omega))).setCell (by simp) _, by rw [size_set]; omega⟩
          rw [HS.out]
          exact hO.setlo (by simp) _
        case measure => simp [intOf]; omega
    · have HK : Hid (t.size - 2 = k) := Lib.hid (by omega)
      have hge : ¬ k < u.size := by have := HUS.out; omega
      have hr1 := ho'.row
      rw [HK.out] at HB HT
      have hbr := isBr_let HB.out
      have hx5 : ∀ x ∈ wrdK t k, x ≠ 0 ∧ -5 ≤ x ∧ x ≤ 5 := by
        intro x hx
        have := hbr.2.2 x hx
        omega
      have hAw := hL
      go_wp2_with fail
      refine (l16Is_any _ _ _ _ (wrdK t k) _ ho'.row (by omega) ⟨by omega, by omega⟩).mono ?_
      rintro e w5 ⟨rfl, hb5⟩
      rw [HB.out]
      have hL5 := hL.below hb5 hL.lt
      have lL5 := hL5.two
      go_wp2_with fail
      refine (l16Text_ok s _ _ _ (wrdK t k) _ (ho'.row.below hb5) hs6 (by have := hbr.2.1; have := ho'.len; omega) hx5).mono ?_
      rintro e w6 ⟨rfl, hb6⟩
      rw [HT.out]
      have hL6 := hL5.below hb6 hL5.lt
      have lL6 := hL6.two
      have hR6 := ((hA1.below hbl' y0).below hb5 (by omega)).below hb6 (by have := hb5.size; omega)
      have lR6 := hR6.two
      have hO6 := (ho'.below hb5).below hb6
      have hb16 : Below w1.heap.size w1 w6 := hbl'.trans ((hb5.trans (hb6.mono hb5.size)).mono (by omega))
      go_wp2
      refine bodyPost_ret (v := .tuple #[bAgg s a' n' c', .int .i64 0]) (by simp [results, Tryz.results79, go_sem, lR6]) rfl ⟨a', n', c', rfl, ?_, ?_⟩
      · rw [HK.out]; exact ((hO6.setlo (by simp <;> omega) _).setlo (by simp <;> omega) _).mono (by omega)
      · exact ((hB1.trans (hb16.mono (by omega))).setCell (by simp) _).setCell (by simp) _


/-- a text that both read -/
def TxtOk2 (u : ByteArray) : Prop := ∃ h : 2 ≤ u.size, u.size ≤ 10 ∧ u[1].toNat = 58 ∧ (u[0].toNat = 50 ∨ u[0].toNat = 51) ∧ LetT u ∧ ∃ s : Nat, (u[0].toNat : Int) - 48 = s ∧ isBr s (wrdK u (u.size - 2)) = true ∧ txtB s (wrdK u (u.size - 2)) = u
theorem txt_ok2 : ∀ k, k < 10 → TxtOk2 (txtL.getD (2 * k + 1) ByteArray.empty) := by
  intro k hk
  match k, hk with
  | 0, _ => unfold TxtOk2 LetT; exact ⟨by decide, by decide, by decide, by decide, by decide, 2, by decide, by kernel_rfl, by kernel_rfl⟩
  | 1, _ => unfold TxtOk2 LetT; exact ⟨by decide, by decide, by decide, by decide, by decide, 2, by decide, by kernel_rfl, by kernel_rfl⟩
  | 2, _ => unfold TxtOk2 LetT; exact ⟨by decide, by decide, by decide, by decide, by decide, 2, by decide, by kernel_rfl, by kernel_rfl⟩
  | 3, _ => unfold TxtOk2 LetT; exact ⟨by decide, by decide, by decide, by decide, by decide, 2, by decide, by kernel_rfl, by kernel_rfl⟩
  | 4, _ => unfold TxtOk2 LetT; exact ⟨by decide, by decide, by decide, by decide, by decide, 3, by decide, by kernel_rfl, by kernel_rfl⟩
  | 5, _ => unfold TxtOk2 LetT; exact ⟨by decide, by decide, by decide, by decide, by decide, 2, by decide, by kernel_rfl, by kernel_rfl⟩
  | 6, _ => unfold TxtOk2 LetT; exact ⟨by decide, by decide, by decide, by decide, by decide, 2, by decide, by kernel_rfl, by kernel_rfl⟩
  | 7, _ => unfold TxtOk2 LetT; exact ⟨by decide, by decide, by decide, by decide, by decide, 3, by decide, by kernel_rfl, by kernel_rfl⟩
  | 8, _ => unfold TxtOk2 LetT; exact ⟨by decide, by decide, by decide, by decide, by decide, 3, by decide, by kernel_rfl, by kernel_rfl⟩
  | 9, _ => unfold TxtOk2 LetT; exact ⟨by decide, by decide, by decide, by decide, by decide, 3, by decide, by kernel_rfl, by kernel_rfl⟩
theorem nb_find (t : ByteArray) : ∀ k, k < 10 → ((txtL.getD (2 * k) ByteArray.empty).toList == t.toList) = true → namB t = txtL.getD (2 * k + 1) ByteArray.empty := by
  intro k hk h
  have ht : t.toList = (txtL.getD (2 * k) ByteArray.empty).toList := ((beq_iff_eq).1 h).symm
  clear h
  unfold namB
  match k, hk, ht with
  | 0, _, ht =>
    rw [show (txtL.getD (2 * 0) ByteArray.empty).toList = [117, 110, 107, 110, 111, 116] from by kernel_rfl] at ht
    simp only [ht]
    rfl
  | 1, _, ht =>
    rw [show (txtL.getD (2 * 1) ByteArray.empty).toList = [117, 110, 108, 105, 110, 107] from by kernel_rfl] at ht
    simp only [ht]
    rfl
  | 2, _, ht =>
    rw [show (txtL.getD (2 * 2) ByteArray.empty).toList = [104, 111, 112, 102] from by kernel_rfl] at ht
    simp only [ht]
    rfl
  | 3, _, ht =>
    rw [show (txtL.getD (2 * 3) ByteArray.empty).toList = [116, 114, 101, 102, 111, 105, 108] from by kernel_rfl] at ht
    simp only [ht]
    rfl
  | 4, _, ht =>
    rw [show (txtL.getD (2 * 4) ByteArray.empty).toList = [101, 105, 103, 104, 116] from by kernel_rfl] at ht
    simp only [ht]
    rfl
  | 5, _, ht =>
    rw [show (txtL.getD (2 * 5) ByteArray.empty).toList = [115, 111, 108, 111, 109, 111, 110] from by kernel_rfl] at ht
    simp only [ht]
    rfl
  | 6, _, ht =>
    rw [show (txtL.getD (2 * 6) ByteArray.empty).toList = [115, 116, 97, 114] from by kernel_rfl] at ht
    simp only [ht]
    rfl
  | 7, _, ht =>
    rw [show (txtL.getD (2 * 7) ByteArray.empty).toList = [119, 104, 105, 116, 101, 104, 101, 97, 100] from by kernel_rfl] at ht
    simp only [ht]
    rfl
  | 8, _, ht =>
    rw [show (txtL.getD (2 * 8) ByteArray.empty).toList = [114, 105, 110, 103, 115] from by kernel_rfl] at ht
    simp only [ht]
    rfl
  | 9, _, ht =>
    rw [show (txtL.getD (2 * 9) ByteArray.empty).toList = [99, 104, 97, 105, 110] from by kernel_rfl] at ht
    simp only [ht]
    rfl
theorem beq_flip {l m : List UInt8} (h : (l == m) = false) : ¬ (m == l) = true := fun e => by
  rw [(beq_iff_eq).1 e] at h; simp at h
theorem nb_none (t : ByteArray) (h : ∀ j, j < 10 → ((txtL.getD (2 * j) ByteArray.empty).toList == t.toList) = false) : namB t = ByteArray.empty := by
  unfold namB
  have g : ∀ j, j < 10 → ¬ (t.toList == (txtL.getD (2 * j) ByteArray.empty).toList) = true := fun j hj => beq_flip (h j hj)
  have e0 : (txtL.getD (2 * 0) ByteArray.empty).toList = [117, 110, 107, 110, 111, 116] := by kernel_rfl
  have e1 : (txtL.getD (2 * 1) ByteArray.empty).toList = [117, 110, 108, 105, 110, 107] := by kernel_rfl
  have e2 : (txtL.getD (2 * 2) ByteArray.empty).toList = [104, 111, 112, 102] := by kernel_rfl
  have e3 : (txtL.getD (2 * 3) ByteArray.empty).toList = [116, 114, 101, 102, 111, 105, 108] := by kernel_rfl
  have e4 : (txtL.getD (2 * 4) ByteArray.empty).toList = [101, 105, 103, 104, 116] := by kernel_rfl
  have e5 : (txtL.getD (2 * 5) ByteArray.empty).toList = [115, 111, 108, 111, 109, 111, 110] := by kernel_rfl
  have e6 : (txtL.getD (2 * 6) ByteArray.empty).toList = [115, 116, 97, 114] := by kernel_rfl
  have e7 : (txtL.getD (2 * 7) ByteArray.empty).toList = [119, 104, 105, 116, 101, 104, 101, 97, 100] := by kernel_rfl
  have e8 : (txtL.getD (2 * 8) ByteArray.empty).toList = [114, 105, 110, 103, 115] := by kernel_rfl
  have e9 : (txtL.getD (2 * 9) ByteArray.empty).toList = [99, 104, 97, 105, 110] := by kernel_rfl
  have g0 := g 0 (by omega)
  rw [e0] at g0
  have g1 := g 1 (by omega)
  rw [e1] at g1
  have g2 := g 2 (by omega)
  rw [e2] at g2
  have g3 := g 3 (by omega)
  rw [e3] at g3
  have g4 := g 4 (by omega)
  rw [e4] at g4
  have g5 := g 5 (by omega)
  rw [e5] at g5
  have g6 := g 6 (by omega)
  rw [e6] at g6
  have g7 := g 7 (by omega)
  rw [e7] at g7
  have g8 := g 8 (by omega)
  rw [e8] at g8
  have g9 := g 9 (by omega)
  rw [e9] at g9
  rw [if_neg g0, if_neg g1, if_neg g2, if_neg g3, if_neg g4, if_neg g5, if_neg g6, if_neg g7, if_neg g8, if_neg g9]
theorem nb_data (t : ByteArray) : nbF t = (0, [], 4) ∨ ∃ s : Nat, nbF t = ((s : Int), (nbF t).2.1, 0) ∧ isBr s (nbF t).2.1 = true := by
  by_cases h : ∃ k, k < 10 ∧ ((txtL.getD (2 * k) ByteArray.empty).toList == t.toList) = true
  · obtain ⟨k, hk, h⟩ := h
    have HE := nb_find t k hk h
    obtain ⟨h2, h10, h58, h5, hL, s, hs, hbr, htx⟩ := (HE ▸ txt_ok2 k hk : TxtOk2 (namB t))
    have e : nbF t = ((s : Int), wrdK (namB t) ((namB t).size - 2), 0) := by unfold nbF; rw [if_neg (by omega)]; unfold namS; rw [dif_pos (by omega), hs]
    exact .inr ⟨s, by rw [e], by rw [e]; exact hbr⟩
  · have HE := nb_none t (fun j hj => by
      cases hq : ((txtL.getD (2 * j) ByteArray.empty).toList == t.toList) with
      | true => exact absurd ⟨j, hj, hq⟩ h
      | false => rfl)
    exact .inl (by unfold nbF; rw [HE]; rfl)
theorem Nb_len (t : ByteArray) : (nbF t).2.1.length ≤ 1000000 := by
  rcases nb_data t with h | ⟨s, h, hb⟩
  · rw [h]; simp
  · have := (isBr_let hb).2.1; omega

end Go.Proofs.YtmncpnpjhchliaaGreat
