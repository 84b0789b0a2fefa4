/-
  Walks and plain laws of this seat, some texts in one.
  No condition but bounds on lengths.
-/
import Derived.Test.YtpdgpgbgakinlaaGreatPb1
import Derived.Test.YtpdgpgbgakinlaaGreatPb8
import Derived.Test.YtpdgpgbgakinlaaGreatPb9
import Derived.Test.YtpdgpgbgakinlaaGreatPb16
import Derived.Test.YtpdgpgbgakinlaaGreatPb7
import Derived.Test.YtpdgpgbgakinlaaGreatPb10
import Derived.Test.YtpdgpgbgakinlaaGreatPb2
import Derived.Test.YtpdgpgbgakinlaaGreatPb13
import Derived.Deep.RegionHeld3
import Derived.Deep.LoopGhost
import Derived.Sort.LoopGhostIn
import Derived.RangeFuncNested
import Derived.RangeFuncBound
import Derived.RangeFuncCalls
import Derived.RangeFuncLeaves
import Derived.OwnWalkIn
import Derived.TacticsInMore
import Derived.LoopNIn
import Derived.LoopIn
import Derived.Test.YtpdgpgbgakinlaaGreatPb3
import Derived.ChangeMaps5
import Derived.StillTailTactics
import Derived.Laws.BitsLemmas
import Derived.Laws.Bits64
namespace Go.Proofs.YtpdgpgbgakinlaaGreat
set_option maxRecDepth 100000
set_option linter.unusedVariables false
set_option linter.unusedSimpArgs false
open Go.RowKit
def TbS (w : World) (a : Option Addr) (n : Nat) (ts : List (List (List Int))) : Prop :=
  n = ts.length ∧ ∀ i, i < n → ∃ b off ai ni ci, a = some ⟨b, off, none⟩ ∧ b < w.heap.size ∧ w.cell? ⟨b, off + i, none⟩ = some (.slice ai ni ci) ∧ Tbl w ai ni (ts.getD i []) ∧ ni ≤ 9223372036854775807
theorem TbS.len {w : World} {a : Option Addr} {n : Nat} {ts : List (List (List Int))} (h : TbS w a n ts) : n = ts.length := h.1
theorem TbS.at {w : World} {a : Option Addr} {n : Nat} {ts : List (List (List Int))} (h : TbS w a n ts) (i : Nat) (hi : i < n) : ∃ b off ai ni ci, a = some ⟨b, off, none⟩ ∧ w.cell? ⟨b, off + i, none⟩ = some (.slice ai ni ci) ∧ Tbl w ai ni (ts.getD i []) ∧ ni ≤ 9223372036854775807 := by
  obtain ⟨b, off, ai, ni, ci, h1, _, h2⟩ := h.2 i hi; exact ⟨b, off, ai, ni, ci, h1, h2⟩
theorem TbS.below {w w' : World} {a : Option Addr} {n : Nat} {ts : List (List (List Int))} (h : TbS w a n ts) (hb : Below w.heap.size w w') : TbS w' a n ts :=
  ⟨h.1, fun i hi => by obtain ⟨b, off, ai, ni, ci, h1, h3, h2, h4, h5⟩ := h.2 i hi; exact ⟨b, off, ai, ni, ci, h1, Nat.lt_of_lt_of_le h3 hb.size, (hb.cell (p := ⟨b, off + i, none⟩) h3).trans h2, h4.below hb, h5⟩⟩
theorem TbS.drewN {w : World} {a : Option Addr} {n : Nat} {ts : List (List (List Int))} (h : TbS w a n ts) (k : Nat) : TbS (w.drewN k) a n ts := h
theorem TbS.alloc {w : World} {a : Option Addr} {n : Nat} {ts : List (List (List Int))} (h : TbS w a n ts) (o : Obj) : TbS (w.alloc o) a n ts := h.below ((Below.refl _ _).alloc (Nat.le_refl _) o)
end Go.Proofs.YtpdgpgbgakinlaaGreat

namespace Go.Proofs.YtpdgpgbgakinlaaGreat
set_option maxRecDepth 100000
set_option linter.unusedVariables false
set_option linter.unusedSimpArgs false
open Go.RowKit
section
variable {w w' : World} {lo : Nat} {a : Option Addr} {n c : Nat} {vs : List SV}
end
theorem HdR.take {w : World} {a : Option Addr} {n k : Nat} {vs : List SV} (h : HdR w a n vs) (hk : k ≤ n) : HdR w a k (vs.take k) := by
  refine ⟨by rw [List.length_take]; have := h.1; omega, fun i hi => ?_⟩
  obtain ⟨b, off, h1, h2, h3⟩ := h.2 i (by omega)
  exact ⟨b, off, h1, h2, by rw [h3]; simp [List.getD_eq_getElem?_getD, List.getElem?_take, hi]⟩
theorem HdR.drop {w : World} {b off n k : Nat} {vs : List SV} (h : HdR w (some ⟨b, off, none⟩) n vs) (hk : k ≤ n) : HdR w (some ⟨b, off + k, none⟩) (n - k) (vs.drop k) := by
  refine ⟨by rw [List.length_drop]; have := h.1; omega, fun i hi => ?_⟩
  obtain ⟨b', off', h1, h2, h3⟩ := h.2 (k + i) (by omega)
  cases h1
  exact ⟨b, off + k, rfl, h2, by rw [Nat.add_assoc, h3]; simp [List.getD_eq_getElem?_getD, List.getElem?_drop]⟩
theorem HdR.nil {w : World} (a : Option Addr) : HdR w a 0 [] := ⟨rfl, fun i h => absurd h (by omega)⟩
structure LstQ (w : World) (a : Option Addr) (n : Nat) (vs : List SV) (L : List (List (List (List Int)))) : Prop where
  hd : HdR w a n vs
  len : n = L.length
  el : ∀ i, i < n → TbS w (vs.getD i svO).1 (vs.getD i svO).2.1 (L.getD i []) ∧ (vs.getD i svO).2.1 ≤ 9223372036854775807
theorem LstQ.below {w w' : World} {a : Option Addr} {n : Nat} {vs : List SV} {L : List (List (List (List Int)))} (h : LstQ w a n vs L) (hb : Below w.heap.size w w') : LstQ w' a n vs L :=
  ⟨h.hd.below hb, h.len, fun i hi => ⟨(h.el i hi).1.below hb, (h.el i hi).2⟩⟩
end Go.Proofs.YtpdgpgbgakinlaaGreat

namespace Go.Proofs.YtpdgpgbgakinlaaGreat
set_option maxRecDepth 100000
set_option linter.unusedVariables false
set_option linter.unusedSimpArgs false
open Go.RowKit
set_option maxHeartbeats 1000000 in
theorem l01Perm_any (a : Option Addr) (n c : Nat) (p : List Int) (w : World) (h1 : Row w a n p) (hm : n ≤ 9223372036854775807) :
    Calls Tryz.prog 111 #[.slice a n c] w fun e w' => e = .returned (.bool (rngB 1 12 n && permOk p)) ∧ w = w' := by
  have hl := h1.len
  cases hv : rngB 1 12 n with
  | false =>
    have HC := Lib.hid (fun w => l01In_b n 1 12 false hv w)
    clear hv hl
    go_enter Tryz.func111, Tryz.ntmps111
    go_wp2_with fail
    refine (HC.out _).mono ?_
    rintro e w2 ⟨rfl, rfl⟩
    go_wp2
    go_ret
    exact ⟨rfl, rfl⟩
  | true =>
    have HC := Lib.hid (fun w => l01In_b n 1 12 true hv w)
    have HQ : Hid (permOk p = allN n fun x : Nat => p.contains (x : Int)) := Lib.hid (by unfold permOk; rw [hl])
    have hn12 : 1 ≤ n ∧ n ≤ 12 := by unfold rngB at hv; simp at hv; omega
    clear hv hl
    go_enter Tryz.func111, Tryz.ntmps111
    go_wp2_with fail
    refine (HC.out _).mono ?_
    rintro e w2 ⟨rfl, rfl⟩
    go_wp2
    go_loop [4] (fun i => ∃ k : Nat, k ≤ n ∧ i = .int .i64 k ∧ Hid (allN k (fun x : Nat => p.contains (x : Int)) = true)) (fun i => n - (intOf i).toNat)
    case atStart => exact ⟨0, Nat.zero_le _, rfl, Lib.hid rfl⟩
    case round =>
      obtain ⟨k, hk, rfl, hI⟩ := hrel
      by_cases hlt : k < n
      · have hcd : decide ((k : Int) ∈ p) = p.contains (k : Int) := by rw [Bool.eq_iff_iff]; simp
        have HH := Lib.hid (l01Has_any a n c p (k : Int) w h1 (by omega))
        cases hc : p.contains (k : Int) with
        | true =>
          rw [hc] at hcd
          have HD := Lib.hid hcd; have HCC := Lib.hid hc
          clear hc hcd
          go_wp2_with fail
          refine HH.out.mono ?_
          rintro e w2 ⟨rfl, rfl⟩
          rw [HD.out]
          go_wp2
          go_round
          case rel => exact ⟨k + 1, by omega, by go_num, Lib.hid (allN_succ hI.out HCC.out)⟩
          case measure => simp [intOf]; omega
        | false =>
          rw [hc] at hcd
          have HD := Lib.hid hcd; have HCC := Lib.hid hc
          clear hc hcd
          go_wp2_with fail
          refine HH.out.mono ?_
          rintro e w2 ⟨rfl, rfl⟩
          rw [HD.out]
          go_wp2
          go_ret
          exact ⟨ret_bool (by rw [HQ.out, allN_no hlt HCC.out]; rfl), rfl⟩
      · obtain rfl : k = n := by omega
        go_wp2
        go_ret
        exact ⟨ret_bool ((congrArg (fun b => true && b) (HQ.out.trans hI.out)).symm), rfl⟩
end Go.Proofs.YtpdgpgbgakinlaaGreat

namespace Go.Proofs.YtpdgpgbgakinlaaGreat
set_option maxRecDepth 100000
set_option linter.unusedVariables false
set_option linter.unusedSimpArgs false
open Go.RowKit
def GrTT (E : Nat → Prop) (w : World) (lo : Nat) (a : Option Addr) (n : Nat) (us : List TV) (ts : List (List (List Int))) (e : Ending) (w' : World) : Prop :=
  ∃ a' n' c' us', e = .returned (.slice a' n' c') ∧ OwnTT w' lo a' n' c' us' ts ∧ Marked (TTS a n us) w w' ∧ ∀ g, TTS a' n' us' g → TTS a n us g ∨ E g ∨ w.heap.size ≤ g
theorem GrTT.one {w w' : World} {E : Nat → Prop} {lo : Nat} {a : Option Addr} {n c : Nat} {us : List TV} {ts : List (List (List Int))} {g c' : Nat} {u : TV} {t : List (List Int)} (h : OwnTT w lo a n c us ts) (hg : w.grownBy w' (Value.slice a n c).ownBlock) (hat : (Value.slice a n c).ownBlock = some g ∨ w.heap.size ≤ g)
    (hO : OwnTT w' lo (some ⟨g, 0, none⟩) (n + 1) c' (us ++ [u]) (ts ++ [t])) (hE : ∀ q, TvS u q → E q) : GrTT E w lo a n us (ts ++ [t]) (.returned (.slice (some ⟨g, 0, none⟩) (n + 1) c')) w' := by
  refine ⟨_, _, _, _, rfl, hO, Marked.grownTT h hg, fun q hq => ?_⟩
  rcases TTS.snoc (a := a) h.ulen hq with rfl | h' | h'
  · rcases hat with h2 | h2
    · exact .inl (.inl (h.ownBlk h2))
    · exact .inr (.inr h2)
  · exact .inr (.inl (hE q h'))
  · exact .inl h'
theorem TTS.nil {g : Nat} : ¬ TTS none 0 [] g := by
  rintro (h | ⟨i, hi, _⟩)
  · cases h
  · omega
end Go.Proofs.YtpdgpgbgakinlaaGreat

namespace Go.Proofs.YtpdgpgbgakinlaaGreat
set_option linter.unusedVariables false
set_option linter.unusedSimpArgs false
def isPb (n : Nat) (p : List Int) : Bool := decide (p.length = n) && (List.range n).all fun i => decide (0 ≤ p.getD i 0) && decide ((p.getD i 0).toNat < n) && decide (((backF p).getD i 0).toNat < n) && decide ((p.getD ((backF p).getD i 0).toNat 0).toNat = i) && decide (((backF p).getD (p.getD i 0).toNat 0).toNat = i)
theorem isPb_ok {n : Nat} {p : List Int} (h : isPb n p = true) : IsP n p := by
  simp only [isPb, Bool.and_eq_true, decide_eq_true_eq, List.all_eq_true, List.mem_range] at h
  refine ⟨fun i => (p.getD i 0).toNat, fun i => ((backF p).getD i 0).toNat, h.1, fun i hi => ?_, fun i hi => ?_⟩
  · have := h.2 i hi
    exact ⟨this.1.1.1.2, this.1.1.2, this.1.2, this.2⟩
  · have := h.2 i hi
    have h0 := this.1.1.1.1
    show p.getD i 0 = (((p.getD i 0).toNat : Nat) : Int)
    omega
end Go.Proofs.YtpdgpgbgakinlaaGreat

namespace Go.Proofs.YtpdgpgbgakinlaaGreat
set_option maxRecDepth 100000
set_option linter.unusedVariables false
set_option linter.unusedSimpArgs false
open Go.RowKit
attribute [local go_sem] Oper.semAt_some
theorem Touch.grownBy {w w' : World} {b : Nat} (h : Touch (fun q => q = b) w w') : w.grownBy w' (some b) :=
  ⟨h.os, h.tape, h.output, by rw [h.size]; exact Nat.le_refl _, fun k hk hne => h.block k (fun e => hne (by rw [e]))⟩
end Go.Proofs.YtpdgpgbgakinlaaGreat

namespace Go.Proofs.YtpdgpgbgakinlaaGreat
set_option maxRecDepth 100000
set_option linter.unusedVariables false
set_option linter.unusedSimpArgs false
open Go.RowKit
def RowsOf (P : Nat) (pvs : List SV) (perms : List (List Int)) (vs : List SV) (rows : List (List Int)) : Prop := vs.length = rows.length ∧ ∀ i, i < rows.length → ∃ j, j < P ∧ vs.getD i svO = pvs.getD j svO ∧ rows.getD i [] = perms.getD j []
theorem RowsOf.nil (P : Nat) (pvs : List SV) (perms : List (List Int)) : RowsOf P pvs perms [] [] := ⟨rfl, fun i h => absurd h (by simp)⟩
theorem RowsOf.snoc {P : Nat} {pvs : List SV} {perms : List (List Int)} {vs : List SV} {rows : List (List Int)} (h : RowsOf P pvs perms vs rows) {j : Nat} (hj : j < P) : RowsOf P pvs perms (vs ++ [pvs.getD j svO]) (rows ++ [perms.getD j []]) := by
  refine ⟨by simp [h.1], fun i hi => ?_⟩
  simp only [List.length_append, List.length_cons, List.length_nil] at hi
  by_cases e : i < rows.length
  · obtain ⟨j', h1, h2, h3⟩ := h.2 i e
    exact ⟨j', h1, by rw [← h2]; simp [List.getD_eq_getElem?_getD, List.getElem?_append_left (show i < vs.length by have := h.1; omega)], by rw [← h3]; simp [List.getD_eq_getElem?_getD, List.getElem?_append_left e]⟩
  · obtain rfl : i = rows.length := by omega
    refine ⟨j, hj, ?_, ?_⟩
    · rw [← h.1]; simp [List.getD_eq_getElem?_getD]
    · simp [List.getD_eq_getElem?_getD]
theorem RowsOf.tbl {w : World} {lo : Nat} {pa a : Option Addr} {P pc n : Nat} {pvs vs : List SV} {perms rows : List (List Int)} (h : RowsOf P pvs perms vs rows) (hp : OwnT w lo pa P pc pvs perms) (hh : HdR w a n vs) : Tbl w a n rows :=
  hh.tbl (by have := hh.1; have := h.1; omega) fun i hi => by
    obtain ⟨j, h1, h2, h3⟩ := h.2 i (by have := hh.1; have := h.1; omega)
    rw [h2, h3]
    exact ⟨(hp.row j h1).row, by have := (hp.row j h1).cap; omega⟩
end Go.Proofs.YtpdgpgbgakinlaaGreat

namespace Go.Proofs.YtpdgpgbgakinlaaGreat
set_option maxRecDepth 100000
set_option linter.unusedVariables false
set_option linter.unusedSimpArgs false
open Go.RowKit
theorem RwsOk.at {n : Nat} {rows : List (List Int)} (h : RwsOk n rows) {x nx : Nat} (hx : x < n) {w : World} {a : Option Addr} (hr : Row w a nx (rows.getD x [])) : (nx = 0 ∧ rows.getD x [] = []) ∨ (nx = n ∧ IsP n (rows.getD x [])) := by
  rcases h.2 x hx with e | e
  · exact .inl ⟨by have := hr.len; rw [e] at this; simpa using this, e⟩
  · exact .inr ⟨by have := hr.len; rw [e.len] at this; exact this, e⟩
end Go.Proofs.YtpdgpgbgakinlaaGreat

namespace Go.Proofs.YtpdgpgbgakinlaaGreat
set_option maxRecDepth 100000
set_option linter.unusedVariables false
set_option linter.unusedSimpArgs false
open Go.RowKit
def RwsP (n : Nat) (t : List (List Int)) : Prop := t.length = n ∧ ∀ i, i < n → IsP n (t.getD i [])
theorem RwsP.sq {n : Nat} {t : List (List Int)} (h : RwsP n t) : Sq n t := by
  refine ⟨h.1, fun x hx => ⟨(h.2 x hx).len, fun y hy => ?_⟩⟩
  obtain ⟨z, hz, hzn⟩ := (h.2 x hx).at hy
  have : tv t x y = z := by unfold tv; rw [hz, Int.toNat_natCast]
  rw [this]; exact ⟨hzn, hz⟩
end Go.Proofs.YtpdgpgbgakinlaaGreat

namespace Go.Proofs.YtpdgpgbgakinlaaGreat
set_option maxRecDepth 100000
set_option linter.unusedVariables false
set_option linter.unusedSimpArgs false
open Go.RowKit
structure OwnRk (w : World) (lo : Nat) (a : Option Addr) (n c : Nat) (us : List TV) (ts : List (List (List Int))) : Prop where
  len : n = ts.length
  ulen : us.length = n
  hdr : w.ownsRow lo 45 1 (.slice a n c) n (us.map slT)
  tab : ∀ i, i < n → OwnV w lo (us.getD i tvO) (ts.getD i [])
  ap : ∀ i, i < n → ∀ g, a = some ⟨g, 0, none⟩ → ¬ TvS (us.getD i tvO) g
  pw : ∀ i j, i < n → j < n → i ≠ j → ∀ g, TvS (us.getD i tvO) g → ¬ TvS (us.getD j tvO) g
section
variable {w w' : World} {lo : Nat} {a : Option Addr} {n c : Nat} {us : List TV} {ts : List (List (List Int))}
theorem OwnRk.nil (w : World) (lo : Nat) : OwnRk w lo none 0 0 [] [] :=
  ⟨rfl, rfl, World.ownsRow_nil w lo _ 1, fun i h => absurd h (by omega), fun i h => absurd h (by omega), fun i j h => absurd h (by omega)⟩
theorem OwnRk.block (h : OwnRk w lo a n c us ts) : (a = none ∧ n = 0 ∧ c = 0) ∨ ∃ g cur, a = some ⟨g, 0, none⟩ ∧ lo ≤ g ∧ Loc w g cur 45 ∧ n ≤ c ∧ c ≤ maxLen ∧ cur.size = c ∧ cur.toList.take n = us.map slT := by
  rcases h.hdr.2 with ⟨h1, h2⟩ | ⟨g, cap, cur, h1, h2, h3, h4, h5, h6, h7⟩
  · cases h1; exact .inl ⟨rfl, rfl, rfl⟩
  · cases h1; exact .inr ⟨g, cur, rfl, h2, h3, h4, h5, by simpa using h6, by simpa using h7⟩
theorem ownsRowRk_mk {w : World} {lo g n c : Nat} {us : List TV} {cur : Array Value} (hn : us.length = n) (h1 : lo ≤ g) (h2 : Loc w g cur 45) (h3 : n ≤ c) (h4 : c ≤ maxLen) (h5 : cur.size = c) (h6 : cur.toList.take n = us.map slT) :
    w.ownsRow lo 45 1 (.slice (some ⟨g, 0, none⟩) n c) n (us.map slT) :=
  ⟨by simp [hn], .inr ⟨g, c, cur, rfl, h1, h2, h3, h4, by simpa using h5, by simpa using h6⟩⟩
theorem OwnRk.high (h : OwnRk w lo a n c us ts) : ∀ g, a = some ⟨g, 0, none⟩ → g < w.heap.size := by
  intro g hg
  rcases h.block with ⟨h1, _⟩ | ⟨g', cur, h1, h2, h3, _⟩
  · rw [h1] at hg; cases hg
  · rw [h1] at hg; cases hg; exact h3.lt
theorem OwnRk.low (h : OwnRk w lo a n c us ts) : ∀ g, a = some ⟨g, 0, none⟩ → lo ≤ g := by
  intro g hg
  rcases h.block with ⟨h1, _⟩ | ⟨g', cur, h1, h2, h3, _⟩
  · rw [h1] at hg; cases hg
  · rw [h1] at hg; cases hg; exact h2
theorem OwnRk.uLo (h : OwnRk w lo a n c us ts) : ∀ g, TTS a n us g → lo ≤ g := fun g hg => by
  rcases hg with hg | ⟨i, hi, hg⟩
  · exact h.low g hg
  · exact (h.tab i hi).uLo g hg
theorem OwnRk.uHi (h : OwnRk w lo a n c us ts) : ∀ g, TTS a n us g → g < w.heap.size := fun g hg => by
  rcases hg with hg | ⟨i, hi, hg⟩
  · exact h.high g hg
  · exact (h.tab i hi).uHi g hg
theorem OwnRk.keep (h : OwnRk w lo a n c us ts) (hk : ∀ g, TTS a n us g → g < w.heap.size → w'.heap[g]? = w.heap[g]?) : OwnRk w' lo a n c us ts := by
  refine ⟨h.len, h.ulen, ?_, fun i hi => OwnT.keep (h.tab i hi) fun g hg hlt => hk g (.inr ⟨i, hi, hg⟩) hlt, h.ap, h.pw⟩
  rcases h.block with ⟨h1, h2, h3⟩ | ⟨g, cur, h1, h2, h3, h4, h5, h6, h7⟩
  · subst h1 h2 h3
    have : us = [] := List.eq_nil_of_length_eq_zero h.ulen
    subst this; exact World.ownsRow_nil _ _ _ _
  · subst h1
    exact ownsRowRk_mk h.ulen h2 ((hk g (.inl rfl) h3.lt).trans h3) h4 h5 h6 h7
theorem OwnRk.below (h : OwnRk w lo a n c us ts) (hb : Below w.heap.size w w') : OwnRk w' lo a n c us ts := h.keep fun g _ hlt => hb.block g hlt
theorem OwnRk.alloc (h : OwnRk w lo a n c us ts) (o : Obj) : OwnRk (w.alloc o) lo a n c us ts := h.below ((Below.refl _ _).alloc (Nat.le_refl _) o)
theorem OwnRk.drewN (h : OwnRk w lo a n c us ts) (k : Nat) : OwnRk (w.drewN k) lo a n c us ts := h.keep fun _ _ _ => rfl
theorem OwnRk.mono {lo' : Nat} (h : OwnRk w lo a n c us ts) (hl : lo' ≤ lo) : OwnRk w lo' a n c us ts := by
  refine ⟨h.len, h.ulen, ?_, fun i hi => (h.tab i hi).mono hl, h.ap, h.pw⟩
  rcases h.block with ⟨h1, h2, h3⟩ | ⟨g, cur, h1, h2, h3, h4, h5, h6, h7⟩
  · subst h1 h2 h3
    have : us = [] := List.eq_nil_of_length_eq_zero h.ulen
    subst this; exact World.ownsRow_nil _ _ _ _
  · subst h1; exact ownsRowRk_mk h.ulen (Nat.le_trans hl h2) h3 h4 h5 h6 h7
theorem OwnRk.setlo (h : OwnRk w lo a n c us ts) {p : Addr} (hp : p.block < lo) (u : Value) : OwnRk (w.setCell p u) lo a n c us ts :=
  h.keep fun g hg _ => Below.heap_setCell _ _ _ _ (by have := h.uLo g hg; omega)
theorem OwnRk.cap (h : OwnRk w lo a n c us ts) : n ≤ c ∧ c ≤ 9223372036854775807 := by
  rcases h.block with ⟨_, h1, h2⟩ | ⟨g', cur, h1, h2, h3, h4, h5, _⟩
  · omega
  · unfold maxLen at h5; omega
theorem OwnRk.cells (h : OwnRk w lo a n c us ts) (hn : 0 < n) : ∃ g, a = some ⟨g, 0, none⟩ ∧ g < w.heap.size ∧ (∀ i, i < n → w.cell? ⟨g, i, none⟩ = some (slT (us.getD i tvO))) ∧ ∀ i, w.frozen? ⟨g, i, none⟩ = false := by
  rcases h.block with ⟨h1, h2, h3⟩ | ⟨g, cur, h1, h2, h3, h4, h5, h6, h7⟩
  · omega
  · refine ⟨g, h1, h3.lt, fun i hi => h3.cell i ?_, fun i => h3.free i⟩
    have hx : (cur.toList.take n)[i]? = (us.map slT)[i]? := by rw [h7]
    have hxi : i < us.length := by have := h.ulen; omega
    rw [List.getElem?_take, if_pos hi] at hx
    simp [List.getElem?_eq_getElem hxi] at hx
    simp [List.getD_eq_getElem?_getD, List.getElem?_eq_getElem hxi, hx]
theorem OwnRk.ownBlk (h : OwnRk w lo a n c us ts) {g : Nat} (e : (Value.slice a n c).ownBlock = some g) : a = some ⟨g, 0, none⟩ := by
  rcases h.block with ⟨r1, _⟩ | ⟨g2, cur, r1, _⟩
  · subst r1; simp [Value.ownBlock] at e
  · subst r1; simp [Value.ownBlock] at e; subst e; rfl
theorem OwnRk.snoc {o : Obj} {g cap : Nat} {u : TV} {t : List (List Int)} (h : OwnRk w lo a n c us ts) (hv : OwnV w lo u t) (h1 : ∀ q, TvS u q → ¬ TTS a n us q)
    (ho : w'.ownsRow lo 45 1 (.slice (some ⟨g, 0, none⟩) (n + 1) cap) (n + 1) (us.map slT ++ [slT u]))
    (hg : w.grownBy w' (Value.slice a n c).ownBlock) (hat : (Value.slice a n c).ownBlock = some g ∨ w.heap.size ≤ g) : OwnRk w' lo (some ⟨g, 0, none⟩) (n + 1) cap (us ++ [u]) (ts ++ [t]) := by
  have hl := h.len
  have hul := h.ulen
  have gl : ∀ i, i < n → (us ++ [u]).getD i tvO = us.getD i tvO := fun i hi => by simp [List.getD_eq_getElem?_getD, List.getElem?_append_left (show i < us.length by omega)]
  have gn : (us ++ [u]).getD n tvO = u := by rw [← hul]; simp [List.getD_eq_getElem?_getD]
  have xl : ∀ i, i < n → (ts ++ [t]).getD i [] = ts.getD i [] := fun i hi => by simp [List.getD_eq_getElem?_getD, List.getElem?_append_left (show i < ts.length by omega)]
  have xn : (ts ++ [t]).getD n [] = t := by rw [hl]; simp [List.getD_eq_getElem?_getD]
  have keepR : ∀ i, i < n → OwnV w' lo (us.getD i tvO) (ts.getD i []) := fun i hi => OwnT.keep (h.tab i hi) fun q hq hlt => hg.block q hlt fun e => h.ap i hi q (h.ownBlk e.symm) hq
  have keepV : OwnV w' lo u t := OwnT.keep hv fun q hq hlt => hg.block q hlt fun e => h1 q hq (.inl (h.ownBlk e.symm))
  refine ⟨by simp [hl], by simp [hul], by simpa using ho, fun i hi => ?_, fun i hi q hq hs => ?_, fun i j hi hj hij q h3 h4 => ?_⟩
  · by_cases e : i < n
    · rw [gl i e, xl i e]; exact keepR i e
    · obtain rfl : i = n := by omega
      rw [gn, xn]; exact keepV
  · cases hq
    by_cases e : i < n
    · rw [gl i e] at hs
      rcases hat with hat | hat
      · exact h.ap i e g (h.ownBlk hat) hs
      · have := (h.tab i e).uHi g hs; omega
    · obtain rfl : i = n := by omega
      rw [gn] at hs
      rcases hat with hat | hat
      · exact h1 g hs (.inl (h.ownBlk hat))
      · have := OwnT.uHi hv g hs; omega
  · by_cases e : i < n
    · rw [gl i e] at h3
      by_cases e' : j < n
      · rw [gl j e'] at h4; exact h.pw i j e e' hij q h3 h4
      · obtain rfl : j = n := by omega
        rw [gn] at h4; exact h1 q h4 (.inr ⟨i, e, h3⟩)
    · obtain rfl : i = n := by omega
      rw [gn] at h3
      have e' : j < i := by omega
      rw [gl j e'] at h4; exact h1 q h3 (.inr ⟨j, e', h4⟩)
end
end Go.Proofs.YtpdgpgbgakinlaaGreat

namespace Go.Proofs.YtpdgpgbgakinlaaGreat
set_option maxRecDepth 100000
set_option linter.unusedVariables false
set_option linter.unusedSimpArgs false
structure Cmp {α : Type} (c : α → α → Int) : Prop where
  eq : ∀ x y, c x y = 0 ↔ x = y
  anti : ∀ x y, c y x = - c x y
  trans : ∀ x y z, c x y < 0 → c y z < 0 → c x z < 0
theorem Cmp.refl {α : Type} {c : α → α → Int} (h : Cmp c) (x : α) : c x x = 0 := (h.eq x x).2 rfl
end Go.Proofs.YtpdgpgbgakinlaaGreat

namespace Go.Proofs.YtpdgpgbgakinlaaGreat
set_option linter.unusedVariables false
set_option linter.unusedSimpArgs false
set_option maxRecDepth 100000
open Go.ChangeShapes Go.WideShapes Go.ChangeAt Go.RowKit Go.Joins
theorem und_bytesO : Tryz.prog.underlying 22 = some (.slice 5) := by kernel_rfl
theorem und_u8O : Tryz.prog.underlying 5 = some (.int .u8) := by kernel_rfl
theorem cells_u8 : Tryz.prog.cellsOf 5 = 1 := by kernel_rfl
def Bts (w : World) (a : Option Addr) (n : Nat) (xs : List Int) : Prop :=
  n = xs.length ∧ (∀ i, i < n → ∃ b off, a = some ⟨b, off, none⟩ ∧ b < w.heap.size ∧ w.cell? ⟨b, off + i, none⟩ = some (.int .u8 (xs.getD i 0))) ∧ ∀ i, 0 ≤ xs.getD i 0 ∧ xs.getD i 0 ≤ 255
theorem Bts.below {w w' : World} {a : Option Addr} {n : Nat} {xs : List Int} (h : Bts w a n xs) (hb : Below w.heap.size w w') : Bts w' a n xs :=
  ⟨h.1, fun i hi => by obtain ⟨b, off, h1, h3, h2⟩ := h.2.1 i hi; exact ⟨b, off, h1, Nat.lt_of_lt_of_le h3 hb.size, (hb.cell (p := ⟨b, off + i, none⟩) h3).trans h2⟩, h.2.2⟩
theorem Bts.len {w : World} {a : Option Addr} {n : Nat} {xs : List Int} (h : Bts w a n xs) : n = xs.length := h.1
theorem Bts.at {w : World} {a : Option Addr} {n : Nat} {xs : List Int} (h : Bts w a n xs) (i : Nat) (hi : i < n) : ∃ b off, a = some ⟨b, off, none⟩ ∧ w.cell? ⟨b, off + i, none⟩ = some (.int .u8 (xs.getD i 0)) := by
  obtain ⟨b, off, h1, _, h2⟩ := h.2.1 i hi; exact ⟨b, off, h1, h2⟩
theorem open_bytes {H : Type} {enc : TypeId × Value → H} {W : World} {b0 : Nat} {v : Value} {d : DataW H} {p : List MemPlace} {sp : Nat → Bool} (hsp : ∀ b, sp b = true) (hv : Value.okWide Tryz.prog W .any b0 22 v)
    (h : DataW.Trod enc Tryz.prog W 0 sp true 22 v d p) : ∃ a n c xs, v = .slice a n c ∧ Bts W a n xs ∧ n ≤ 9223372036854775807 := by
  obtain ⟨a, n, c, rfl⟩ := okWide_slice und_bytesO hv
  obtain ⟨fuel, hf⟩ := h
  rcases open_ints und_bytesO und_u8O cells_u8 hf with ⟨hcs, _⟩ | ⟨⟨b, off, spot⟩, l, c', zs, hcs, _, hl, hm, hz, _, hcell, hwz⟩
  · simp [Value.cells] at hcs
    obtain ⟨rfl, rfl, rfl⟩ := hcs
    exact ⟨_, _, _, [], rfl, ⟨rfl, fun i hi => absurd hi (by omega), fun i => by simp⟩, by omega⟩
  · simp [Value.cells] at hcs
    obtain ⟨rfl, rfl, rfl⟩ := hcs
    rw [if_pos (hsp _)] at hz
    refine ⟨_, _, _, zs.take n, rfl, ⟨by rw [List.length_take]; omega, fun i hi => ?_, fun i => ?_⟩, by unfold maxLen at hm; omega⟩
    · have h0 := hcell 0 (by omega)
      have hi' := hcell i (by omega)
      have hspot : spot = none := by simpa [Addr.add] using World.cell?_spot h0
      subst hspot
      have e : (⟨b, off, none⟩ : Addr).add i = ⟨b, off + i, none⟩ := by unfold Addr.add; split <;> simp_all
      rw [e] at hi'
      refine ⟨b, off, rfl, World.block_lt_of_cell? W ⟨b, off + i, none⟩ hi', hi'.trans ?_⟩
      simp [List.getD_eq_getElem?_getD, List.getElem?_take, hi]
    · have hb := range_u8 hwz i
      rw [List.getD_eq_getElem?_getD, List.getElem?_take]
      split
      · exact hb
      · simp
end Go.Proofs.YtpdgpgbgakinlaaGreat

namespace Go.Proofs.YtpdgpgbgakinlaaGreat
set_option linter.unusedVariables false
set_option linter.unusedSimpArgs false
set_option maxRecDepth 100000
open Go.RowKit
theorem grown_trans {a b c : World} {r : Option Nat} (h : a.grownBy b r) (k : b.grownBy c r) : a.grownBy c r :=
  ⟨k.os.trans h.os, k.tape.trans h.tape, k.output.trans h.output, Nat.le_trans h.size k.size, fun i hi hn => (k.block i (Nat.lt_of_lt_of_le hi h.size) hn).trans (h.block i hi hn)⟩
theorem grown_refl (w : World) (r : Option Nat) : w.grownBy w r := ⟨rfl, rfl, rfl, Nat.le_refl _, fun _ _ _ => rfl⟩
theorem grown_of_below {w w' : World} (h : Below w.heap.size w w') (r : Option Nat) : w.grownBy w' r := ⟨h.os, h.tape, h.output, h.size, fun k hk _ => h.block k hk⟩
theorem grown_drewN {a w : World} {r : Option Nat} (h : a.grownBy w r) (n : Nat) : a.grownBy (w.drewN n) r := ⟨h.os, h.tape, h.output, h.size, h.block⟩
theorem grown_set {a w : World} {b : Nat} (h : a.grownBy w (some b)) {p : Addr} (hp : p.block = b ∨ a.heap.size ≤ p.block) (u : Value) : a.grownBy (w.setCell p u) (some b) :=
  ⟨h.os, h.tape, h.output, by rw [size_set]; exact h.size, fun k hk hn => (Below.heap_setCell _ _ _ k (fun e => by rcases hp with hp | hp; exact hn (by rw [e, hp]); omega)).trans (h.block k hk hn)⟩
theorem grown_alloc {a w : World} {r : Option Nat} (h : a.grownBy w r) (o : Obj) : a.grownBy (w.alloc o) r := grown_trans h (World.grownBy_alloc w o r)
def Src (w : World) (b : Nat) : Prop := ∃ (a : Option Addr) (n c : Nat) (xs : List Int) (i : Nat) (h : Int), n ≤ 9223372036854775807 ∧ i ≤ n ∧ 0 ≤ h ∧ h < 18446744073709551616 ∧ Bts w a n xs ∧ (0 < n → ∀ g o, a = some ⟨g, o, none⟩ → g < b) ∧
  Loc w b #[.slice a n c, .int .i64 i, .int .u64 h] 103
theorem Src.lt {w : World} {b : Nat} (h : Src w b) : b < w.heap.size := by obtain ⟨a, n, c, xs, i, h, _, _, _, _, _, _, hL⟩ := h; exact hL.lt
theorem Src.below {w w' : World} {b : Nat} (h : Src w b) (hb : Below w.heap.size w w') : Src w' b := by
  obtain ⟨a, n, c, xs, i, h, h1, h2, h3, h4, hB, hg, hL⟩ := h
  exact ⟨a, n, c, xs, i, h, h1, h2, h3, h4, hB.below hb, hg, hL.below hb hL.lt⟩
theorem wrapsU (n : Int) (h₀ : 0 ≤ n) (h₁ : n < 2 ^ 63) : IntKind.u64.wrap n = n := by rw [IntKind.wrap_u64]; omega
theorem u64_rng (z : Int) : 0 ≤ IntKind.u64.wrap z ∧ IntKind.u64.wrap z < 18446744073709551616 := by rw [IntKind.wrap_u64]; omega
theorem mask24 (g : Int) (h1 : 0 ≤ g) (h2 : g < 18446744073709551616) : 0 ≤ wrap64 (bits BinOp.and IntKind.u64 (g / 8589934592) 16777215) ∧ wrap64 (bits BinOp.and IntKind.u64 (g / 8589934592) 16777215) ≤ 16777215 := by
  have h := bits_mask .u64 63 (by decide) wrapsU 24 (by decide) (g / 8589934592) (by omega) (by omega)
  have e : ((2 : Int) ^ 24 - 1) = 16777215 := by decide
  have e2 : ((2 : Int) ^ 24) = 16777216 := by decide
  rw [e, e2] at h
  rw [h, IntWalk.wrap64_in _ ⟨by omega, by omega⟩]
  omega
set_option maxHeartbeats 2000000 in
theorem l01Next_ok (b : Nat) (n : Int) (w : World) (h : Src w b) (hn : I64 n) :
    Calls Tryz.prog 36 #[.pointer (some ⟨b, 0, none⟩), .int .i64 n] w fun e w' => ∃ x, e = .returned (.int .i64 x) ∧ (n < 1 → x = 0) ∧ (1 ≤ n → 0 ≤ x ∧ x < n) ∧ Src w' b ∧ w.grownBy w' (some b) := by
  obtain ⟨a, m, c, xs, i, g, h1, h2, h3, h4, hB, hg, hL⟩ := h
  by_cases hn1 : n < 1
  · go_enter Tryz.func36, Tryz.ntmps36
    go_wp2
    go_ret
    exact ⟨_, rfl, fun _ => rfl, fun h => absurd h (by omega), ⟨a, m, c, xs, i, g, h1, h2, h3, h4, hB, hg, hL⟩, grown_refl _ _⟩
  · have lL := hL.three
    obtain ⟨hn2, hn3⟩ := hn
    have hn4 : 1 ≤ n := by omega
    clear hn1
    go_enter Tryz.func36, Tryz.ntmps36
    go_wp2
    obtain ⟨G, HG⟩ : ∃ G, Hid (IntKind.u64.wrap (IntKind.u64.wrap (g * 6364136223846793005) + 1442695040888963407) = G) := ⟨_, rfl⟩
    have hG := u64_rng (IntKind.u64.wrap (g * 6364136223846793005) + 1442695040888963407)
    rw [HG.out] at hG
    rw [HG.out]
    obtain ⟨hG1, hG2⟩ := hG
    obtain ⟨hX1, hX2⟩ := mask24 G hG1 hG2
    obtain ⟨X, HX⟩ : ∃ X, Hid (wrap64 (bits BinOp.and IntKind.u64 (G / 8589934592) 16777215) = X) := ⟨_, rfl⟩
    rw [HX.out] at hX1 hX2
    rw [HX.out]
    have hL2 := hL.set 2 (.int .u64 G)
    have lL2 := hL2.three
    have hg2 := grown_set (grown_refl w (some b)) (p := ⟨b, 2, none⟩) (.inl rfl) (.int .u64 G)
    have hB2 : Bts (w.setCell ⟨b, 2, none⟩ (.int .u64 G)) a m xs := ⟨hB.1, fun j hj => by
      obtain ⟨q, off, e1, e2, e3⟩ := hB.2.1 j hj
      exact ⟨q, off, e1, by rw [size_set]; exact e2, cell_setne e3 (by have := hg (by omega) q off e1; simp; omega) _⟩, hB.2.2⟩
    generalize w.setCell ⟨b, 2, none⟩ (.int .u64 G) = w2 at *
    by_cases hi : i < m
    · obtain ⟨q, off, rfl, hc⟩ := hB2.at i hi
      have hxr := hB2.2.2 i
      obtain ⟨V, HV⟩ : ∃ V, Hid (xs.getD i 0 = V) := ⟨_, rfl⟩
      rw [HV.out] at hc hxr
      obtain ⟨v1, v2⟩ := hxr
      have s1 : (0 : Int) ≤ (i : Int) := by omega
      have s2 : (i : Int) < (m : Int) := by omega
      go_quiet (fail)
      go_wp2
      have s3 : IntKind.i64.wrap (X + V) = X + V := IntWalk.i64_in _ ⟨by omega, by omega⟩
      have s4 : IntKind.i64.wrap V = V := IntWalk.i64_in _ ⟨by omega, by omega⟩
      go_quiet (fail)
      clear s3 s4
      go_wp2
      go_ret
      rename_i nq0
      have hL3 := (hL2.drewN (nq0 + nq)).set 1 (.int .i64 (i + 1))
      refine ⟨_, rfl, fun h => absurd h (by omega), fun _ => ⟨Int.emod_nonneg _ (by omega), Int.emod_lt_of_pos _ (by omega)⟩, ?_, grown_set (grown_drewN hg2 _) (.inl rfl) _⟩
      refine ⟨some ⟨q, off, none⟩, m, c, xs, i + 1, G, h1, by omega, hG1, hG2, ?_, hg, hL3⟩
      exact ⟨hB2.1, fun j hj => by
        obtain ⟨q', off', e1, e2, e3⟩ := hB2.2.1 j hj
        exact ⟨q', off', e1, by rw [size_set]; exact e2, cell_setne (w := w2.drewN _) e3 (by have := hg (by omega) q' off' e1; simp; omega) _⟩, hB2.2.2⟩
    · go_quiet (fail)
      go_wp2
      go_ret
      refine ⟨_, rfl, fun h => absurd h (by omega), fun _ => ⟨Int.emod_nonneg _ (by omega), Int.emod_lt_of_pos _ (by omega)⟩, ?_, grown_drewN hg2 _⟩
      exact ⟨a, m, c, xs, i, G, h1, h2, hG1, hG2, hB2.below (below_drewN (Below.refl _ _) _), hg, hL2.drewN _⟩
set_option maxHeartbeats 2000000 in
theorem l01From_ok (a : Option Addr) (n c : Nat) (xs : List Int) (w : World) (h : Bts w a n xs) (hn : n ≤ 9223372036854775807) :
    Calls Tryz.prog 33 #[.slice a n c] w fun e w' => ∃ b, e = .returned (.pointer (some ⟨b, 0, none⟩)) ∧ w.heap.size ≤ b ∧ Src w' b ∧ Below w.heap.size w w' := by
  go_enter Tryz.func33, Tryz.ntmps33
  go_wp2
  go_loopw [4] (fun i wr => ∃ (k : Nat) (g : Int), k ≤ 4096 ∧ i = .int .i64 k ∧ 0 ≤ g ∧ g < 18446744073709551616 ∧ Loc wr w.heap.size #[.slice a n c, .int .i64 0, .int .u64 g] 103 ∧ Below w.heap.size w wr) (fun i _ => 4096 - (intOf i).toNat)
  case atStart => exact ⟨0, _, by omega, rfl, by omega, by omega, Loc.new w rfl _ _, below_al (Below.refl _ _) _⟩
  case round =>
    obtain ⟨k, g, hk, rfl, hg1, hg2, hL, hq⟩ := hrel
    by_cases hlt : k < n
    · by_cases hlt2 : k < 4096
      · obtain ⟨q, off, rfl, hc⟩ := (h.below hq).at k hlt
        obtain ⟨V, HV⟩ : ∃ V, Hid (xs.getD k 0 = V) := ⟨_, rfl⟩
        have hxr := h.2.2 k
        rw [HV.out] at hc hxr
        obtain ⟨v1, v2⟩ := hxr
        have s1 : (0 : Int) ≤ (k : Int) := by omega
        have s2 : (k : Int) < (n : Int) := by omega
        have lL := hL.three
        go_wp2
        refine wp_region_still_tail 15 (by kernel_rfl) (by kernel_rfl) ?_
        change wpStill _ _ wr.drew (fun a' => wpList _ _ _ _ a' wr.drew) _ _
        replace hL := hL.drew
        replace lL := hL.three
        replace hc : wr.drew.cell? ⟨q, off + k, none⟩ = some (.int .u8 V) := hc
        replace hq : Below w.heap.size w wr.drew := hq.drew
        generalize wr.drew = w2 at *
        simp only [List.take_succ_cons, List.take_zero, List.drop_succ_cons, List.drop_zero]
        repeat still_step
        refine wpStill_nil ?_
        go_wp2
        go_roundw
        case rel =>
          have hu := u64_rng (IntKind.u64.wrap (IntKind.u64.wrap (g * 1099511628211) + V) + 11)
          exact ⟨k + 1, _, by omega, by go_num, hu.1, hu.2, hL.set 2 _, hq.setCell (Nat.le_refl _) _⟩
        case measure => simp [intOf]; omega
      · have hk2 : k = 4096 := by omega
        subst hk2
        go_wp2
        go_ret
        exact ⟨_, rfl, Nat.le_refl _, ⟨a, n, c, xs, 0, g, hn, by omega, hg1, hg2, h.below hq, fun hn q o e => by obtain ⟨b', o', e1, e2, _⟩ := h.2.1 0 hn; rw [e1] at e; cases e; exact e2, hL⟩, hq⟩
    · go_wp2
      go_ret
      exact ⟨_, rfl, Nat.le_refl _, ⟨a, n, c, xs, 0, g, hn, by omega, hg1, hg2, h.below hq, fun hn q o e => by obtain ⟨b', o', e1, e2, _⟩ := h.2.1 0 hn; rw [e1] at e; cases e; exact e2, hL⟩, hq⟩
theorem Row.grown {w w' : World} {a : Option Addr} {n : Nat} {xs : List Int} {r : Option Nat} (h : Row w a n xs) (hg : w.grownBy w' r) (hne : ∀ g o, 0 < n → a = some ⟨g, o, none⟩ → some g ≠ r) : Row w' a n xs :=
  ⟨h.1, fun i hi => by
    obtain ⟨b, off, h1, h3, h2⟩ := h.2 i hi
    exact ⟨b, off, h1, Nat.lt_of_lt_of_le h3 hg.size, hg.cell (a := ⟨b, off + i, none⟩) h2 (hne b off (by omega) h1)⟩⟩
set_option maxHeartbeats 2000000 in
theorem l01Pick_ok (b : Nat) (a : Option Addr) (n c : Nat) (xs : List Int) (w : World) (h : Src w b) (hr : Row w a n xs) (h1 : 1 ≤ n) (h2 : n ≤ 1000) (hne : ∀ g o, a = some ⟨g, o, none⟩ → g ≠ b) :
    Calls Tryz.prog 39 #[.pointer (some ⟨b, 0, none⟩), .slice a n c] w fun e w' => ∃ x, e = .returned (.int .i64 x) ∧ x ∈ xs ∧ Src w' b ∧ w.grownBy w' (some b) := by
  go_enter Tryz.func39, Tryz.ntmps39
  go_wp2_with fail
  refine (l01Next_ok b (n : Int) w h ⟨by omega, by omega⟩).mono ?_
  rintro e w1 ⟨x, rfl, _, hx, hs1, hg1⟩
  obtain ⟨hx1, hx2⟩ := hx (by omega)
  obtain ⟨k, rfl⟩ : ∃ k : Nat, x = k := ⟨x.toNat, by omega⟩
  have hk : k < n := by omega
  obtain ⟨q, off, rfl, hc⟩ := (hr.grown hg1 (fun g o _ e => by have := hne g o e; simp; omega)).at k hk
  have hm : xs.getD k 0 ∈ xs := by
    have := hr.len
    rw [List.getD_eq_getElem?_getD, List.getElem?_eq_getElem (by omega)]; exact List.getElem_mem _
  obtain ⟨V, HV⟩ : ∃ V, Hid (xs.getD k 0 = V) := ⟨_, rfl⟩
  rw [HV.out] at hc hm
  have hx3 : (k : Int) < (n : Int) := by omega
  go_wp2
  go_ret
  exact ⟨_, rfl, hm, hs1, hg1⟩
theorem row_lit (w : World) (cs : Array Value) (t : TypeId) (xs : List Int) (h : cs.toList = xs.map (Value.int .i64)) : Row (w.alloc (.cells cs t)) (some ⟨w.heap.size, 0, none⟩) xs.length xs := by
  refine ⟨rfl, fun i hi => ⟨w.heap.size, 0, rfl, by simp, (Loc.new w rfl cs t).cell _ ?_⟩⟩
  rw [Nat.zero_add, ← Array.getElem?_toList, h, List.getElem?_map, List.getElem?_eq_getElem hi]
  simp [List.getD_eq_getElem?_getD, List.getElem?_eq_getElem hi]
end Go.Proofs.YtpdgpgbgakinlaaGreat
