/-
  Walks and plain laws of this seat, some texts in one.
  No condition but bounds on lengths.
-/
import Derived.Test.YtpdgpgbgakinlaaGreatPb2
import Derived.Test.YtpdgpgbgakinlaaGreatPb8
import Derived.Test.YtpdgpgbgakinlaaGreatPb10
import Derived.Deep.RegionHeld3
import Derived.Deep.DeepCutAuto
import Derived.Test.YtpdgpgbgakinlaaGreatPb3
namespace Go.Proofs.YtpdgpgbgakinlaaGreat
set_option maxRecDepth 100000
set_option linter.unusedVariables false
set_option linter.unusedSimpArgs false
open Go.RowKit
set_option maxHeartbeats 1000000 in
theorem isPairMap_any (a : Option Addr) (n c : Nat) (a' : Option Addr) (n' c' : Nat) (f g : List (List Int)) (w : World) (h1 : Tbl w a n f) (h2 : Tbl w a' n' g) (hm1 : n ≤ 9223372036854775807) (hm2 : n' ≤ 9223372036854775807) :
    Calls Tryz.prog 81 #[sAgg a n c a' n' c'] w fun e w' => e = .returned (.bool (isPm f g)) ∧ Below w.heap.size w w' := by
  have hl1 := h1.len
  have hl2 := h2.len
  have HL : Hid (decide (f.length = g.length) = decide (n = n')) := Lib.hid (by rw [← hl1, ← hl2])
  clear hl1 hl2
  have hA := Loc.new w rfl #[.slice a n c, .slice a' n' c'] 26
  have lA := hA.two
  cases hf : isTab f with
  | false =>
    have HF := Lib.hid hf; clear hf
    go_enter Tryz.func81, Tryz.ntmps81
    go_wp2_with fail
    refine (isTable_any _ _ _ _ _ (h1.alloc _) hm1).mono ?_
    rintro e w1 ⟨rfl, hb1⟩
    rw [HF.out]
    go_wp2
    go_ret
    exact ⟨ret_bool (by unfold isPm; rw [HF.out]; rfl), below_alth (Below.refl _ _) hb1⟩
  | true =>
    have HF := Lib.hid hf; clear hf
    cases hg : isTab g with
    | false =>
      have HG := Lib.hid hg; clear hg
      go_enter Tryz.func81, Tryz.ntmps81
      go_wp2_with fail
      refine (isTable_any _ _ _ _ _ (h1.alloc _) hm1).mono ?_
      rintro e w1 ⟨rfl, hb1⟩
      rw [HF.out]
      have hA1 := hA.below hb1 (by simp)
      have lA1 := hA1.two
      have hg1 := (h2.alloc _).below hb1
      go_wp2_with fail
      refine (isTable_any _ _ _ _ _ hg1 hm2).mono ?_
      rintro e w2 ⟨rfl, hb2⟩
      rw [HG.out]
      go_wp2
      go_ret
      exact ⟨ret_bool (by unfold isPm; rw [HF.out, HG.out]; rfl), below_th (below_alth (Below.refl _ _) hb1) hb2⟩
    | true =>
      have HG := Lib.hid hg; clear hg
      have HQ : Hid (isPm f g = decide ((n : Int) = (n' : Int))) := Lib.hid (by unfold isPm; rw [HF.out, HG.out, HL.out]; simp [Int.ofNat_inj])
      go_enter Tryz.func81, Tryz.ntmps81
      go_wp2_with fail
      refine (isTable_any _ _ _ _ _ (h1.alloc _) hm1).mono ?_
      rintro e w1 ⟨rfl, hb1⟩
      rw [HF.out]
      have hA1 := hA.below hb1 (by simp)
      have lA1 := hA1.two
      have hg1 := (h2.alloc _).below hb1
      go_wp2_with fail
      refine (isTable_any _ _ _ _ _ hg1 hm2).mono ?_
      rintro e w2 ⟨rfl, hb2⟩
      rw [HG.out]
      have hA2 := hA1.below hb2 hA1.lt
      have lA2 := hA2.two
      go_wp2
      go_ret
      exact ⟨ret_bool (by rw [HQ.out]; rfl), below_th (below_alth (Below.refl _ _) hb1) hb2⟩
set_option maxHeartbeats 1000000 in
theorem isSolution_any (a : Option Addr) (n c : Nat) (a' : Option Addr) (n' c' : Nat) (f g : List (List Int)) (w : World) (h1 : Tbl w a n f) (h2 : Tbl w a' n' g) (hm1 : n ≤ 9223372036854775807) (hm2 : n' ≤ 9223372036854775807) :
    Calls Tryz.prog 40 #[sAgg a n c a' n' c'] w fun e w' => e = .returned (.bool (isSol f g)) ∧ Below w.heap.size w w' := by
  have hA := Loc.new w rfl #[.slice a n c, .slice a' n' c'] 26
  have lA := hA.two
  cases hf : isPm f g with
  | false =>
    have HF := Lib.hid hf; clear hf
    go_enter Tryz.func40, Tryz.ntmps40
    go_wp2_with fail
    refine (isPairMap_any _ _ _ _ _ _ _ _ _ (h1.alloc _) (h2.alloc _) hm1 hm2).mono ?_
    rintro e w1 ⟨rfl, hb1⟩
    rw [HF.out]
    go_wp2
    go_ret
    exact ⟨ret_bool (by unfold isSol; rw [HF.out]; rfl), below_alth (Below.refl _ _) hb1⟩
  | true =>
    obtain ⟨hn1, hn12, sf, sg⟩ := isPm_sq hf
    have hl1 := h1.len
    have hl2 : n' = n := by rw [h2.len, hl1]; have := sg.len; omega
    subst hl2
    rw [← hl1] at hn1 hn12 sf sg
    have HF := Lib.hid hf; clear hf
    have HS : Hid (isSol f g = (collOk n' f g && eqOk n' f g)) := Lib.hid (by unfold isSol; rw [HF.out, ← hl1]; rfl)
    clear hl1
    have HSF := Lib.hid sf; have HSG := Lib.hid sg; clear sf sg
    go_enter Tryz.func40, Tryz.ntmps40
    go_wp2_with fail
    refine (isPairMap_any _ _ _ _ _ _ _ _ _ (h1.alloc _) (h2.alloc _) hm1 hm2).mono ?_
    rintro e w1 ⟨rfl, hb1⟩
    rw [HF.out]
    have hA1 := hA.below hb1 (by simp)
    have lA1 := hA1.two
    have hf1 := (h1.alloc _).below hb1
    have hg1 := (h2.alloc _).below hb1
    have hB1 := below_alth (Below.refl _ _) hb1
    clear hb1 hA lA
    go_wp2_with fail
    refine (collisionOf_any _ _ _ _ _ _ _ _ hf1 hg1 hn1 hn12 HSF.out HSG.out).mono ?_
    rintro e w2 ⟨he, hb2⟩
    have hA2 := hA1.below hb2 hA1.lt
    have lA2 := hA2.two
    have hf2 := hf1.below hb2
    have hg2 := hg1.below hb2
    have hB2 := below_th hB1 hb2
    clear hb2 hA1 lA1 hB1
    have nn := fun (w : World) (a : Option Addr) (n c : Nat) => Lib.run_eql_slice_nil (P := Tryz.prog) w 27 2 a n c 0 0 und_ints
    rcases he with ⟨hc, rfl⟩ | ⟨hc, b, m, k, rfl⟩
    · have HC := Lib.hid hc; clear hc
      go_wp2_with fail
      refine (equationFault_any _ _ _ _ _ _ _ _ hf2 hg2 hn1 hn12 HSF.out HSG.out).mono ?_
      rintro e w3 ⟨he, hb3⟩
      have hB3 := below_th hB2 hb3
      rcases he with ⟨hc, rfl⟩ | ⟨hc, b, m, k, rfl⟩
      · have HD := Lib.hid hc; clear hc
        go_wp2
        go_ret
        exact ⟨ret_bool (by rw [HS.out, HC.out, HD.out]; rfl), hB3⟩
      · have HD := Lib.hid hc; clear hc
        go_wp2
        go_ret
        exact ⟨ret_bool (by rw [HS.out, HC.out, HD.out]; rfl), hB3⟩
    · have HC := Lib.hid hc; clear hc
      go_wp2
      go_ret
      exact ⟨ret_bool (by rw [HS.out, HC.out]; rfl), hB2⟩
end Go.Proofs.YtpdgpgbgakinlaaGreat

namespace Go.Proofs.YtpdgpgbgakinlaaGreat
set_option maxRecDepth 100000
set_option linter.unusedVariables false
set_option linter.unusedSimpArgs false
open Go.RowKit
structure Sol (w : World) (a : Option Addr) (n : Nat) (xss : List (List Int)) (a' : Option Addr) (n' : Nat) (yss : List (List Int)) : Prop where
  f : Tbl w a n xss
  s : Tbl w a' n' yss
def SolS (a : Option Addr) (n : Nat) (vs : List SV) (a' : Option Addr) (n' : Nat) (vs' : List SV) (g : Nat) : Prop := TblS a n vs g ∨ TblS a' n' vs' g
structure OwnS (w : World) (lo : Nat) (a : Option Addr) (n c : Nat) (vs : List SV) (xss : List (List Int)) (a' : Option Addr) (n' c' : Nat) (vs' : List SV) (yss : List (List Int)) : Prop where
  f : OwnT w lo a n c vs xss
  s : OwnT w lo a' n' c' vs' yss
  ap : ∀ g, TblS a n vs g → ¬ TblS a' n' vs' g
section
variable {w w' : World} {lo : Nat} {a a' a1 a1' a2 a2' : Option Addr} {n n' c c' n1 n1' n2 n2' c1 c1' c2 c2' : Nat} {vs vs' : List SV} {xss yss : List (List Int)}
theorem Sol.below (h : Sol w a n xss a' n' yss) (hb : Below w.heap.size w w') : Sol w' a n xss a' n' yss := ⟨h.f.below hb, h.s.below hb⟩
theorem Sol.alloc (h : Sol w a n xss a' n' yss) (o : Obj) : Sol (w.alloc o) a n xss a' n' yss := ⟨h.f.alloc o, h.s.alloc o⟩
theorem Sol.drewN (h : Sol w a n xss a' n' yss) (k : Nat) : Sol (w.drewN k) a n xss a' n' yss := ⟨h.f.drewN k, h.s.drewN k⟩
theorem OwnS.below (h : OwnS w lo a n c vs xss a' n' c' vs' yss) (hb : Below w.heap.size w w') : OwnS w' lo a n c vs xss a' n' c' vs' yss := ⟨h.f.below hb, h.s.below hb, h.ap⟩
theorem OwnS.alloc (h : OwnS w lo a n c vs xss a' n' c' vs' yss) (o : Obj) : OwnS (w.alloc o) lo a n c vs xss a' n' c' vs' yss := ⟨h.f.alloc o, h.s.alloc o, h.ap⟩
theorem OwnS.drewN (h : OwnS w lo a n c vs xss a' n' c' vs' yss) (k : Nat) : OwnS (w.drewN k) lo a n c vs xss a' n' c' vs' yss := ⟨h.f.drewN k, h.s.drewN k, h.ap⟩
theorem OwnS.mono {lo' : Nat} (h : OwnS w lo a n c vs xss a' n' c' vs' yss) (hl : lo' ≤ lo) : OwnS w lo' a n c vs xss a' n' c' vs' yss := ⟨h.f.mono hl, h.s.mono hl, h.ap⟩
theorem OwnS.cap (h : OwnS w lo a n c vs xss a' n' c' vs' yss) : (n ≤ c ∧ c ≤ 9223372036854775807) ∧ n' ≤ c' ∧ c' ≤ 9223372036854775807 := ⟨h.f.cap, h.s.cap⟩
theorem OwnS.uLo (h : OwnS w lo a n c vs xss a' n' c' vs' yss) : ∀ g, SolS a n vs a' n' vs' g → lo ≤ g := fun g hg => hg.elim (h.f.uLo g) (h.s.uLo g)
theorem OwnS.uHi (h : OwnS w lo a n c vs xss a' n' c' vs' yss) : ∀ g, SolS a n vs a' n' vs' g → g < w.heap.size := fun g hg => hg.elim (h.f.uHi g) (h.s.uHi g)
theorem OwnS.uKeep (h : OwnS w lo a n c vs xss a' n' c' vs' yss) {S : Nat → Prop} (hm : Marked S w w') (hS : ∀ g, SolS a n vs a' n' vs' g → ¬ S g) : OwnS w' lo a n c vs xss a' n' c' vs' yss :=
  ⟨h.f.uKeep hm fun g hg => hS g (.inl hg), h.s.uKeep hm fun g hg => hS g (.inr hg), h.ap⟩
end
end Go.Proofs.YtpdgpgbgakinlaaGreat

namespace Go.Proofs.YtpdgpgbgakinlaaGreat
set_option maxRecDepth 100000
set_option linter.unusedVariables false
set_option linter.unusedSimpArgs false
open Go.RowKit
theorem OwnT.uSet {w : World} {lo : Nat} {a : Option Addr} {n c : Nat} {vs : List SV} {xss : List (List Int)} (h : OwnT w lo a n c vs xss) {p : Addr} (hp : ∀ g, TblS a n vs g → g ≠ p.block) (u : Value) : OwnT (w.setCell p u) lo a n c vs xss :=
  h.keep fun g hg _ => Below.heap_setCell _ _ _ _ (hp g hg)
def InvMade (w1 : World) (n : Nat) (f g : List (List Int)) (s : Value) (wx : World) : Prop :=
  ∃ b4 b d vs b' d' vs', s = .pointer (some ⟨b4, 0, none⟩) ∧ w1.heap.size ≤ b4 ∧ Loc wx b4 #[.slice b n d, .slice b' n d'] 26 ∧ OwnS wx w1.heap.size b n d vs f b' n d' vs' g ∧ (∀ q, SolS b n vs b' n vs' q → q ≠ b4) ∧ Below w1.heap.size w1 wx
abbrev zBox : Obj := .cells #[.slice none 0 0, .slice none 0 0] 26
section
variable {w1 w2 w3 : World} {n : Nat} {f g : List (List Int)} {a2 a3 : Option Addr} {c2 c3 : Nat} {vs2 vs3 : List SV}
theorem made_end (ho2 : OwnT w2 w1.heap.size a2 n c2 vs2 f) (hq2 : Below w1.heap.size w1 w2) (ho3 : OwnT w3 w2.heap.size a3 n c3 vs3 g) (hb3 : Below w2.heap.size w2 w3) :
    InvMade w1 n f g (.pointer (some ⟨w3.heap.size, 0, none⟩)) (w3.alloc (.cells #[.slice a2 n c2, .slice a3 n c3] 26)) := by
  have s2 := hq2.size
  have s3 := hb3.size
  refine ⟨_, _, _, _, _, _, _, rfl, by omega, Loc.new _ rfl _ _, ⟨(ho2.below hb3).alloc _, (ho3.mono s2).alloc _, fun q h1 h2 => ?_⟩, fun q hq => ?_, below_al (below_th hq2 hb3) _⟩
  · have e1 := ho2.uHi q h1; have e2 := ho3.uLo q h2; omega
  · rcases hq with hq | hq
    · have := ho2.uHi q hq; omega
    · have := ho3.uHi q hq; omega
theorem made_mid (ho2 : OwnT w2 w1.heap.size a2 n c2 vs2 f) (hq2 : Below w1.heap.size w1 w2) (ho3 : OwnT w3 (w2.alloc zBox).heap.size a3 n c3 vs3 g) (hb3 : Below (w2.alloc zBox).heap.size (w2.alloc zBox) w3) :
    InvMade w1 n f g (.pointer (some ⟨w2.heap.size, 0, none⟩)) ((w3.setCell ⟨w2.heap.size, 0, none⟩ (.slice a2 n c2)).setCell ⟨w2.heap.size, 1, none⟩ (.slice a3 n c3)) := by
  have s2 := hq2.size
  have s3 := hb3.size
  rw [size_alloc] at s3
  have n2 : ∀ q, TblS a2 n vs2 q → q ≠ w2.heap.size := fun q hq => by have := ho2.uHi q hq; omega
  have n3 : ∀ q, TblS a3 n vs3 q → q ≠ w2.heap.size := fun q hq => by have := ho3.uLo q hq; rw [size_alloc] at this; omega
  have hO : Loc w3 w2.heap.size #[.slice none 0 0, .slice none 0 0] 26 := (Loc.new w2 rfl _ _).below hb3 (by simp)
  refine ⟨_, _, _, _, _, _, _, rfl, by omega, (hO.set 0 _).set 1 _, ⟨(((ho2.alloc _).below hb3).uSet n2 _).uSet n2 _, ((ho3.mono (by rw [size_alloc]; omega)).uSet n3 _).uSet n3 _, fun q h1 h2 => ?_⟩, fun q hq => ?_, ?_⟩
  · have e1 := ho2.uHi q h1; have e2 := ho3.uLo q h2; rw [size_alloc] at e2; omega
  · rcases hq with hq | hq
    · exact n2 q hq
    · exact n3 q hq
  · exact below_setne (below_setne (below_alth hq2 hb3) s2 _) s2 _
theorem made_first {w1' : World} (hw : Below w1.heap.size w1 w1') (hs1 : w1'.heap.size = w1.heap.size) (ho2 : OwnT w2 (w1'.alloc zBox).heap.size a2 n c2 vs2 f) (hb2 : Below (w1'.alloc zBox).heap.size (w1'.alloc zBox) w2) (ho3 : OwnT w3 w2.heap.size a3 n c3 vs3 g) (hb3 : Below w2.heap.size w2 w3) :
    InvMade w1 n f g (.pointer (some ⟨w1.heap.size, 0, none⟩)) ((w3.setCell ⟨w1.heap.size, 0, none⟩ (.slice a2 n c2)).setCell ⟨w1.heap.size, 1, none⟩ (.slice a3 n c3)) := by
  have s2 := hb2.size
  have s3 := hb3.size
  rw [size_alloc] at s2
  have n2 : ∀ q, TblS a2 n vs2 q → q ≠ w1.heap.size := fun q hq => by have := ho2.uLo q hq; rw [size_alloc] at this; omega
  have n3 : ∀ q, TblS a3 n vs3 q → q ≠ w1.heap.size := fun q hq => by have := ho3.uLo q hq; omega
  have hO : Loc w3 w1.heap.size #[.slice none 0 0, .slice none 0 0] 26 := ((Loc.new w1' hs1.symm _ _).below hb2 (by simp; omega)).below hb3 (by omega)
  refine ⟨_, _, _, _, _, _, _, rfl, Nat.le_refl _, (hO.set 0 _).set 1 _, ⟨(((ho2.mono (by rw [size_alloc]; omega)).below hb3).uSet n2 _).uSet n2 _, ((ho3.mono (by omega)).uSet n3 _).uSet n3 _, fun q h1 h2 => ?_⟩, fun q hq => ?_, ?_⟩
  · have e1 := ho2.uHi q h1; have e2 := ho3.uLo q h2; omega
  · rcases hq with hq | hq
    · exact n2 q hq
    · exact n3 q hq
  · exact below_setne (below_setne (below_th (below_alth hw hb2) hb3) (Nat.le_refl _) _) (Nat.le_refl _) _
end
theorem OwnS.put2 {w : World} {lo : Nat} {b b' : Option Addr} {n d d' : Nat} {vs vs' : List SV} {F G : List (List Int)} (h : OwnS w lo b n d vs F b' n d' vs' G) {u : Nat} (hu : u < n) {g1 g2 : Nat} (e1 : (vs.getD u svO).1 = some ⟨g1, 0, none⟩) (e2 : (vs'.getD u svO).1 = some ⟨g2, 0, none⟩) (v : Nat) (x y : Int) :
    OwnS ((w.setCell ⟨g1, v, none⟩ (.int .i64 x)).setCell ⟨g2, v, none⟩ (.int .i64 y)) lo b n d vs (F.set u ((F.getD u []).set v x)) b' n d' vs' (G.set u ((G.getD u []).set v y)) := by
  have m1 : TblS b n vs g1 := .inr ⟨u, hu, e1⟩
  have m2 : TblS b' n vs' g2 := .inr ⟨u, hu, e2⟩
  exact ⟨(h.f.setrow u hu e1 v x).uSet (fun q hq e => by subst e; exact h.ap _ hq m2) _, (h.s.uSet (p := ⟨g1, v, none⟩) (fun q hq e => by subst e; exact h.ap _ m1 hq) _).setrow u hu e2 v y, h.ap⟩
theorem OwnT.spot {w : World} {lo : Nat} {b : Option Addr} {n d : Nat} {vs : List SV} {F : List (List Int)} (h : OwnT w lo b n d vs F) {u v : Nat} (hu : u < n) (hv : v < (F.getD u []).length) :
    ∃ gb g1 k1 c1 z, b = some ⟨gb, 0, none⟩ ∧ (vs.getD u svO).1 = some ⟨g1, 0, none⟩ ∧ v < k1 ∧ w.cell? ⟨gb, u, none⟩ = some (.slice (some ⟨g1, 0, none⟩) k1 c1) ∧ w.cell? ⟨g1, v, none⟩ = some z ∧ w.frozen? ⟨g1, v, none⟩ = false := by
  obtain ⟨gb, hb, _, hc, _⟩ := h.cells (by omega)
  have hr := h.row u hu
  have hk : v < (vs.getD u svO).2.1 := by have := hr.len; omega
  obtain ⟨g1, o1, e1, _⟩ := hr.row.at v hk
  rw [e1] at hr
  obtain ⟨rfl, h2, h3⟩ := hr.cells
  have := hc u hu
  rw [e1] at this
  exact ⟨gb, g1, _, _, _, hb, e1, hk, this, h2 v hk, h3 v⟩
set_option maxHeartbeats 8000000 in
theorem inverseSolution_any (a : Option Addr) (n c : Nat) (a' : Option Addr) (c' : Nat) (f g : List (List Int)) (w : World) (h1 : Tbl w a n f) (h2 : Tbl w a' n g) (hs : isSol f g = true) (hm : n ≤ 12) :
    Calls Tryz.prog 92 #[sAgg a n c a' n c'] w fun e w' => ∃ b d vs b' d' vs', e = .returned (.tuple #[sAgg b n d b' n d', .int .i64 0]) ∧ OwnS w' w.heap.size b n d vs (bfT n f g) b' n d' vs' (bgT n f g) ∧ Below w.heap.size w w' := by
  obtain ⟨hn1, hn12, sf, sg⟩ := isSol_sq hs
  have hcc := isSol_coll hs
  have hl := h1.len
  rw [← hl] at hn1 hn12 sf sg hcc
  have HS := Lib.hid hs; have HSF := Lib.hid sf; have HSG := Lib.hid sg; have HC := Lib.hid hcc
  clear hs sf sg hcc hl
  have hA := (Loc.new w rfl #[.slice a n c, .slice a' n c'] 26).alloc (.cells #[.slice none 0 0, .slice none 0 0] 26)
  have hR := Loc.new (w.alloc (.cells #[.slice a n c, .slice a' n c'] 26)) rfl #[.slice none 0 0, .slice none 0 0] 26
  rw [size_alloc] at hR
  have hB := below_al (below_al (Below.refl w.heap.size w) (.cells #[.slice a n c, .slice a' n c'] 26)) (.cells #[.slice none 0 0, .slice none 0 0] 26)
  go_enter Tryz.func92, Tryz.ntmps92
  go_wp2_with fail
  generalize (w.alloc (.cells #[.slice a n c, .slice a' n c'] 26)).alloc (.cells #[.slice none 0 0, .slice none 0 0] 26) = w0 at *
  refine (isSolution_any _ _ _ _ _ _ _ _ _ (h1.below hB) (h2.below hB) (by omega) (by omega)).mono ?_
  rintro e w1 ⟨rfl, hb1⟩
  rw [HS.out]
  have hA1 := hA.below hb1 hA.lt
  have hR1 := hR.below hb1 hR.lt
  have hB1 := below_th hB hb1
  have hs1 := hA1.lt
  have hs2 := hR1.lt
  clear hA hR hB hb1
  have lA := hA1.two
  go_upto_region 3 with fail
  go_cut [4] (fun s4 wx => InvMade w1 n f g s4 wx)
  case first =>
    have tok1 : True := trivial
    go_region_held3 (fun w' => w'.cell? ⟨w.heap.size, 0, none⟩ = some (.slice a n c) ∧ w'.cell? ⟨w.heap.size, 1, none⟩ = some (.slice a' n c'))
      (first | exact ⟨lM.1, lM.2.1⟩ | exact ⟨lD.1, lD.2.1⟩ | exact ⟨lC.1, lC.2.1⟩ | exact ⟨lB'.1, lB'.2.1⟩ | exact ⟨lB.1, lB.2.1⟩ | exact ⟨lA'.1, lA'.2.1⟩ | exact ⟨lA.1, lA.2.1⟩ | go_keep)
      (first
        | (go_at_call 136; have _t := tok1; refine (cloneTable_any _ _ _ f _ (h1.below (below_drewN hB1 1)) (by omega) (fun i hi => by rw [HSF.out.row hi]; omega)).mono ?_; rintro e w2 ⟨a2, c2, vs2, rfl, ho2, hb2⟩; clear _t tok1; have tok2 : True := trivial; have hq2 : Below w1.heap.size w1 w2 := (Below.drew (Below.refl _ _)).trans hb2; have lB := (hA1.below hq2 hA1.lt).two; have lB' := ((hA1.below hq2 hA1.lt).alloc zBox).two)
        | (go_at_call 136; have _t := tok1; refine (cloneTable_any _ _ _ f _ ((h1.below (below_drewN hB1 1)).alloc _) (by omega) (fun i hi => by rw [HSF.out.row hi]; omega)).mono ?_; rintro e w2 ⟨a2, c2, vs2, rfl, ho2, hb2⟩; clear _t tok1; have tok3 : True := trivial; have hO2 : Loc w2 w1.heap.size _ _ := (Loc.new (w1.drewN 1) rfl #[.slice none 0 0, .slice none 0 0] 26).below hb2 (by simp); have hq2 : Below w1.heap.size w1 w2 := below_alth (below_drewN (Below.refl w1.heap.size w1) 1) hb2; have lB := (hA1.below hq2 hA1.lt).two)
        | (go_at_call 136; have _t := tok2; refine (cloneTable_any _ _ _ g _ (h2.below (below_th hB1 hq2)) (by omega) (fun i hi => by rw [HSG.out.row hi]; omega)).mono ?_; rintro e w3 ⟨a3, c3, vs3, rfl, ho3, hb3⟩; clear _t tok2; have hq3 : Below w1.heap.size w1 w3 := below_th hq2 hb3; have lC := (hA1.below hq3 hA1.lt).two; have lD := ((hA1.below hq3 hA1.lt).alloc zBox).two; have lM := ((hA1.below hq3 hA1.lt).alloc (.cells #[.slice a2 n c2, .slice a3 n c3] 26)).two)
        | (go_at_call 136; have _t := tok2; refine (cloneTable_any _ _ _ g _ ((h2.below (below_th hB1 hq2)).alloc _) (by omega) (fun i hi => by rw [HSG.out.row hi]; omega)).mono ?_; rintro e w3 ⟨a3, c3, vs3, rfl, ho3, hb3⟩; clear _t tok2; have lO := ((Loc.new w2 rfl #[.slice none 0 0, .slice none 0 0] 26).below hb3 (by simp)).two; have hq3 : Below w1.heap.size w1 w3 := below_alth hq2 hb3; have lC := (hA1.below hq3 hA1.lt).two; have lM := (((hA1.below hq3 hA1.lt).setne (a := ⟨w2.heap.size, 0, none⟩) (by have := hq2.size; show w.heap.size ≠ w2.heap.size; omega) (.slice a2 n c2)).setne (a := ⟨w2.heap.size, 1, none⟩) (by have := hq2.size; show w.heap.size ≠ w2.heap.size; omega) (.slice a3 n c3)).two)
        | (go_at_call 136; have _t := tok3; refine (cloneTable_any _ _ _ g _ (h2.below (below_th hB1 hq2)) (by omega) (fun i hi => by rw [HSG.out.row hi]; omega)).mono ?_; rintro e w3 ⟨a3, c3, vs3, rfl, ho3, hb3⟩; clear _t tok3; have lO := (hO2.below hb3 hO2.lt).two; have hq3 : Below w1.heap.size w1 w3 := below_th hq2 hb3; have lC := (hA1.below hq3 hA1.lt).two; have lM := (((hA1.below hq3 hA1.lt).setne (a := ⟨w1.heap.size, 0, none⟩) (by have := hq2.size; show w.heap.size ≠ w1.heap.size; omega) (.slice a2 n c2)).setne (a := ⟨w1.heap.size, 1, none⟩) (by have := hq2.size; show w.heap.size ≠ w1.heap.size; omega) (.slice a3 n c3)).two))
    all_goals (go_wp2_with fail; go_meet; first | exact made_end ho2 hq2 ho3 hb3 | exact made_mid ho2 hq2 ho3 hb3 | exact made_first (below_drewN (Below.refl _ _) 1) rfl ho2 hb2 ho3 hb3)
  case rest =>
    obtain ⟨b4, b, d, vs, b', d', vs', rfl, hb4, hO, ho, hap, hq⟩ := hcut
    have hA2 := hA1.below hq hA1.lt
    have hR2 := hR1.below hq hR1.lt
    have hB2 := below_th hB1 hq
    have hlo : w.heap.size + 2 ≤ w1.heap.size := by omega
    have ho2 := ho.mono (lo' := w.heap.size + 2) hlo
    have hb42 : w.heap.size + 2 ≤ b4 := by omega
    clear hA1 hR1 hB1 hq ho hb4 lA
    obtain ⟨bf, of, A, O, C, rfl, gf⟩ := h1.grid HSF.out hn1
    obtain ⟨bg, og, A', O', C', rfl, gg⟩ := h2.grid HSG.out hn1
    have lA := hA2.two
    have hI : InvAt n f g (fun x _ => x < 0) f g := InvAt.start HSF.out.shape HSG.out.shape
    clear h1 h2
    go_wp2
    go_loopw [24] (fun i wr => ∃ (k : Nat) (F G : List (List Int)), k ≤ n ∧ i = .int .i64 k ∧ Hid (InvAt n f g (fun x _ => x < k) F G) ∧ OwnS wr (w.heap.size + 2) b n d vs F b' n d' vs' G ∧ Loc wr b4 #[.slice b n d, .slice b' n d'] 26 ∧ Loc wr w.heap.size #[.slice (some ⟨bf, of, none⟩) n c, .slice (some ⟨bg, og, none⟩) n c'] 26 ∧ Loc wr (w.heap.size + 1) #[.slice none 0 0, .slice none 0 0] 26 ∧ Below w.heap.size w wr) (fun i _ => n - (intOf i).toNat)
    case atStart => exact ⟨0, f, g, Nat.zero_le _, rfl, Lib.hid hI, ho2, hO, hA2, hR2, hB2⟩
    case round =>
      clear hI ho2 hO hA2 hR2 hB2 lA
      obtain ⟨k, F, G, hk, rfl, hI, ho, hO, hA, hR, hB⟩ := hrel
      have lA := hA.two
      have lO := hO.two
      by_cases hlt : k < n
      · have r1 := (gf.below hB).row k hlt
        clear lO
        go_wp2
        clear lA r1
        go_loopw [31] (fun i wr => ∃ (j : Nat) (F G : List (List Int)), j ≤ n ∧ i = .int .i64 j ∧ Hid (InvAt n f g (fun x y => x < k ∨ (x = k ∧ y < j)) F G) ∧ OwnS wr (w.heap.size + 2) b n d vs F b' n d' vs' G ∧ Loc wr b4 #[.slice b n d, .slice b' n d'] 26 ∧ Loc wr w.heap.size #[.slice (some ⟨bf, of, none⟩) n c, .slice (some ⟨bg, og, none⟩) n c'] 26 ∧ Loc wr (w.heap.size + 1) #[.slice none 0 0, .slice none 0 0] 26 ∧ Below w.heap.size w wr) (fun i _ => n - (intOf i).toNat)
        case atStart => exact ⟨0, F, G, Nat.zero_le _, rfl, Lib.hid hI.out.begin, ho, hO, hA, hR, hB⟩
        case round =>
          clear hI ho hO hA hR hB
          obtain ⟨j, F, G, hj, rfl, hI, ho, hO, hA, hR, hB⟩ := hrel
          have lA := hA.two
          have lO := hO.two
          by_cases hjt : j < n
          · have k1 := (gf.below hB).cell k j hlt hjt
            obtain ⟨r2, k2⟩ := (gg.below hB).look hlt hjt
            have hu := HSF.out.lt hlt hjt
            have hv := HSG.out.lt hlt hjt
            have hst := hI.out.step hn1 HSF.out HSG.out HC.out hlt hjt
            obtain ⟨gb, g1, m1, c1, z1, eb, e1, hm1, p1, p2, p3⟩ := ho.f.spot hu (v := tv g k j) (by rw [hI.out.1.2 _ hu]; exact hv)
            obtain ⟨gb', g2, m2, c2, z2, eb', e2, hm2, p4, p5, p6⟩ := ho.s.spot hu (v := tv g k j) (by rw [hI.out.2.1.2 _ hu]; exact hv)
            have hput := ho.put2 hu e1 e2 (tv g k j) (k : Int) (j : Int)
            have t1 : TblS b n vs g1 := .inr ⟨_, hu, e1⟩
            have t2 : TblS b' n vs' g2 := .inr ⟨_, hu, e2⟩
            have q1 : w.heap.size + 2 ≤ g1 := ho.f.uLo _ t1
            have q2 : w.heap.size + 2 ≤ g2 := ho.s.uLo _ t2
            have q3 : g1 ≠ b4 := hap _ (.inl t1)
            have q4 : g2 ≠ b4 := hap _ (.inr t2)
            have q5 : g1 ≠ g2 := fun e => by subst e; exact ho.ap _ t1 t2
            have HST := Lib.hid hst
            have HPUT := Lib.hid hput
            subst eb eb'
            clear hst hput t1 t2 e1 e2 ho
            generalize tv f k j = u at *
            generalize tv g k j = v at *
            have hne : (⟨g1, v, none⟩ : Addr) ≠ ⟨g2, v, none⟩ := fun e => by simp only [Addr.mk.injEq] at e; exact q5 e.1
            go_wp2
            go_region
            all_goals
              go_wp2
              go_roundw
              case rel =>
                refine ⟨j + 1, _, _, by omega, by go_num, HST, HPUT.out.drewN 1, ?_, ?_, ?_, ?_⟩
                · exact ((hO.setne (a := ⟨g1, v, none⟩) (fun e => q3 e.symm) _).setne (a := ⟨g2, v, none⟩) (fun e => q4 e.symm) _).drewN 1
                · exact ((hA.setne (a := ⟨g1, v, none⟩) (by show w.heap.size ≠ g1; omega) _).setne (a := ⟨g2, v, none⟩) (by show w.heap.size ≠ g2; omega) _).drewN 1
                · exact ((hR.setne (a := ⟨g1, v, none⟩) (by show w.heap.size + 1 ≠ g1; omega) _).setne (a := ⟨g2, v, none⟩) (by show w.heap.size + 1 ≠ g2; omega) _).drewN 1
                · exact below_drewN (below_setne (below_setne (a := ⟨g1, v, none⟩) hB (by show w.heap.size ≤ g1; omega) _) (a := ⟨g2, v, none⟩) (by show w.heap.size ≤ g2; omega) _) 1
              case measure => simp [intOf]; omega
          · obtain rfl : j = n := by omega
            go_wp2
            go_roundw
            case rel => exact ⟨k + 1, F, G, by omega, by go_num, Lib.hid hI.out.finish, ho, hO, hA, hR, hB⟩
            case measure => simp [intOf]; omega
      · obtain rfl : k = n := by omega
        obtain ⟨rfl, rfl⟩ := hI.out.done_ hn1 HSF.out HSG.out HC.out
        have lR := hR.two
        go_wp2
        refine bodyPost_ret (v := .tuple #[sAgg b k d b' k d', .int .i64 0]) (by simp [results, Tryz.results92, go_sem, lR]) rfl ⟨b, d, vs, b', d', vs', rfl, ?_, ?_⟩
        · have n1 : ∀ q, TblS b k vs q → q ≠ w.heap.size + 1 := fun q hq => by have := ho.f.uLo q hq; omega
          have n2 : ∀ q, TblS b' k vs' q → q ≠ w.heap.size + 1 := fun q hq => by have := ho.s.uLo q hq; omega
          exact ⟨((ho.f.uSet n1 _).uSet n1 _).mono (by omega), ((ho.s.uSet n2 _).uSet n2 _).mono (by omega), ho.ap⟩
        · exact below_setne (below_setne hB (by show w.heap.size ≤ w.heap.size + 1; omega) _) (by show w.heap.size ≤ w.heap.size + 1; omega) _
end Go.Proofs.YtpdgpgbgakinlaaGreat

namespace Go.Proofs.YtpdgpgbgakinlaaGreat
set_option maxRecDepth 100000
set_option linter.unusedVariables false
set_option linter.unusedSimpArgs false
open Go.RowKit
set_option maxHeartbeats 2000000 in
theorem moved_any (a : Option Addr) (n c : Nat) (a' : Option Addr) (c' : Nat) (f g : List (List Int)) (al : Option Addr) (m cl : Nat) (l : List Int) (i : Nat) (w : World) (h1 : Tbl w a n f) (h2 : Tbl w a' n g) (hn1 : 1 ≤ n) (hf : Sq n f) (hg : Sq n g)
    (hl : Row w al m l) (hm : m ≤ 1000000) (hi : i + 1 < m) (hle : Less n l) :
    Calls Tryz.prog 134 #[sAgg a n c a' n c', .slice al m cl, .int .i64 i] w fun e w' => ∃ ao co, e = .returned (.slice ao m co) ∧ Own w' w.heap.size ao m co (doF f g i l) ∧ Below w.heap.size w w' := by
  obtain ⟨bf, of, A, O, C, rfl, Gf⟩ := h1.grid hf hn1
  obtain ⟨bg, og, A', O', C', rfl, Gg⟩ := h2.grid hg hn1
  clear h1 h2
  have hll := hl.len
  obtain ⟨x, hx, ex⟩ := hle i (by omega)
  obtain ⟨y, hy, ey⟩ := hle (i + 1) (by omega)
  have HDO : Hid (doF f g i l = (l.set i ((tv f x y : Nat) : Int)).set (i + 1) ((tv g x y : Nat) : Int)) := Lib.hid (by unfold doF; rw [ex, ey]; simp)
  have HX := Lib.hid ex; have HY := Lib.hid ey
  clear ex ey hll hle
  have hA := Loc.new w rfl #[.slice (some ⟨bf, of, none⟩) n c, .slice (some ⟨bg, og, none⟩) n c'] 26
  have gf := Gf.alloc (.cells #[.slice (some ⟨bf, of, none⟩) n c, .slice (some ⟨bg, og, none⟩) n c'] 26)
  have gg := Gg.alloc (.cells #[.slice (some ⟨bf, of, none⟩) n c, .slice (some ⟨bg, og, none⟩) n c'] 26)
  have hl0 := hl.alloc (.cells #[.slice (some ⟨bf, of, none⟩) n c, .slice (some ⟨bg, og, none⟩) n c'] 26)
  have hB := below_al (Below.refl w.heap.size w) (.cells #[.slice (some ⟨bf, of, none⟩) n c, .slice (some ⟨bg, og, none⟩) n c'] 26)
  clear Gf Gg hl
  have hwi : IntKind.i64.wrap ((i : Int) + 1) = ((i + 1 : Nat) : Int) := (IntWalk.i64_in _ (by omega)).trans (by simp)
  go_enter Tryz.func134, Tryz.ntmps134
  go_wp2_with fail
  refine (clone_any _ _ _ l _ hl0 (by omega)).mono ?_
  rintro e w1 ⟨ao, co, rfl, ho, hb1⟩
  have ho1 : Own w1 (w.heap.size + 1) ao m co l := ho.mono (by simp)
  clear ho
  obtain ⟨go, oo, rfl, _⟩ := ho1.row.at i (by omega)
  obtain ⟨rfl, hc, hfr⟩ := ho1.cells
  have hgo := ho1.lt
  obtain ⟨bl, ol, e1, hbl, hall⟩ := hl0.all (by omega)
  subst e1
  have lA1 := (hA.below hb1 (by simp)).two
  obtain ⟨r1, k1⟩ := (gf.below hb1).look hx hy
  obtain ⟨r2, k2⟩ := (gg.below hb1).look hx hy
  have kx := (hb1.cell (p := ⟨bl, ol + i, none⟩) hbl).trans (hall i (by omega))
  have ky := (hb1.cell (p := ⟨bl, ol + (i + 1), none⟩) hbl).trans (hall (i + 1) (by omega))
  rw [HX.out] at kx; rw [HY.out] at ky
  have hci := hc i (by omega)
  have hfi := hfr i
  have hci1 := hc (i + 1) (by omega)
  have hfi1 := hfr (i + 1)
  have hB1 := below_th hB hb1
  generalize hF : tv f x y = F at *
  generalize hG : tv g x y = G at *
  have HF := Lib.hid hF; have HG := Lib.hid hG; clear hF hG
  clear hc hfr hall hb1 hB gf gg hA hl0
  go_wp2
  go_quiet (fail)
  go_wp2
  go_region
  all_goals
    go_wp2
    go_ret
    refine ⟨_, _, rfl, ?_, ?_⟩
    · rw [HDO.out]
      exact (((ho1.set i _).set (i + 1) _).drewN _).mono (by omega)
    · exact below_drewN (below_setne (below_setne (a := ⟨go, i, none⟩) hB1 (by have := hgo.1; show w.heap.size ≤ go; omega) _) (a := ⟨go, i + 1, none⟩) (by have := hgo.1; show w.heap.size ≤ go; omega) _) _
end Go.Proofs.YtpdgpgbgakinlaaGreat
