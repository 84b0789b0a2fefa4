/-
  Walks and plain laws of this seat, some texts in one.
  No condition but bounds on lengths.
-/
import Derived.Test.YtiliimkfobfbnaaGreatPt18
import Derived.Test.YtiliimkfobfbnaaGreatPt8
import Derived.Test.YtiliimkfobfbnaaGreatPt5
import Derived.Test.YtiliimkfobfbnaaGreatPt3
import Derived.Test.YtiliimkfobfbnaaGreatPt12
import Derived.Test.YtiliimkfobfbnaaGreatPt6
namespace Go.Proofs.YtiliimkfobfbnaaGreat
set_option maxRecDepth 100000
set_option linter.unusedVariables false
set_option linter.unusedSimpArgs false
open Go.RowKit
attribute [local go_sem] Oper.semAt_some
theorem TB.two {S0 : Nat → Prop} {w1 W : World} {g n c c' : Nat} {t t' : List (List Int)} {A O C A' O' C' : Nat → Nat} {b off b' off' : Nat} (hG : Grid w1 b off A O C n t) (hG' : Grid w1 b' off' A' O' C' n t') (hs : Sq n t) (hs' : Sq n t') (hL : Loc W g #[.slice (some ⟨b, off, none⟩) n c, .slice (some ⟨b', off', none⟩) n c'] 24) (hB : Below w1.heap.size w1 W) (hg : ¬ S0 g) (hS : ∀ q, S0 q → w1.heap.size ≤ q) :
    TB S0 W g 2 n (fun k => if k = 0 then b else b') (fun k => if k = 0 then off else off') (fun k => if k = 0 then c else c') (fun k => if k = 0 then A else A') (fun k => if k = 0 then O else O') (fun k => if k = 0 then C else C') [t, t'] := by
  refine ⟨rfl, fun w' hm k hk => ?_, fun w' hm k hk => ?_, fun k hk => ?_⟩
  · have : Loc w' g #[.slice (some ⟨b, off, none⟩) n c, .slice (some ⟨b', off', none⟩) n c'] 24 := (hm.block g hL.lt hg).trans hL
    rcases (show k = 0 ∨ k = 1 by omega) with rfl | rfl
    · exact this.two.1
    · exact this.two.2.1
  · rcases (show k = 0 ∨ k = 1 by omega) with rfl | rfl
    · exact hG.below (hB.trans (hm.lowb hS hB.size))
    · exact hG'.below (hB.trans (hm.lowb hS hB.size))
  · rcases (show k = 0 ∨ k = 1 by omega) with rfl | rfl
    · exact hs
    · exact hs'
theorem isPm_sqN {n : Nat} {t t' : List (List Int)} (h : isPm t t' = true) (hl : n = t.length) : 1 ≤ n ∧ n ≤ 12 ∧ Sq n t ∧ Sq n t' := by
  unfold isPm at h
  rw [Bool.and_eq_true, Bool.and_eq_true] at h
  obtain ⟨h1, h2, h3⟩ := h
  obtain ⟨q1, q2, q3⟩ := isTab_sq h1
  obtain ⟨_, _, q4⟩ := isTab_sq h2
  rw [← of_decide_eq_true h3, ← hl] at q4
  rw [← hl] at q1 q2 q3
  exact ⟨q1, q2, q3, q4⟩
def ivlAt (f g : List (List Int)) (x y : Nat) : Bool := decide (tv f (tv f x y) (tv g x y) = x) && decide (tv g (tv f x y) (tv g x y) = y)
def ivlB (n : Nat) (f g : List (List Int)) : Bool := allN n fun x => allN n fun y => ivlAt f g x y
set_option maxHeartbeats 8000000 in
theorem isInvolutive_any (n : Nat) (a a' : Option Addr) (c c' : Nat) (f g : List (List Int)) (w : World) (h1 : Tbl w a n f) (h2 : Tbl w a' n g) (hf : Sq n f) (hg : Sq n g) (hn1 : 1 ≤ n) (hn : n ≤ 12) :
    Calls Tryz.prog 31 #[sAgg a n c a' n c'] w fun e w' => e = .returned (.bool (ivlB n f g)) ∧ Below w.heap.size w w' := by
  have hA := Loc.new w rfl #[.slice a n c, .slice a' n c'] 29
  have hB := below_al (Below.refl w.heap.size w) (.cells #[.slice a n c, .slice a' n c'] 29)
  obtain ⟨bf, of, A, O, C, rfl, gf⟩ := h1.grid hf hn1
  obtain ⟨bg, og, A', O', C', rfl, gg⟩ := h2.grid hg hn1
  have HF := Lib.hid hf; have HG := Lib.hid hg
  clear hf hg h1 h2
  have lA := hA.two
  have gf := gf.below hB
  have gg := gg.below hB
  go_enter Tryz.func31, Tryz.ntmps31
  generalize hw0 : w.alloc (.cells #[.slice (some ⟨bf, of, none⟩) n c, .slice (some ⟨bg, og, none⟩) n c'] 29) = w0 at *
  go_wp2
  go_loopw [3, 4, 5, 6, 7, 11, 18] (fun _ _ _ _ _ s _ wr => ∃ x : Nat, x ≤ n ∧ s = .int .i64 x ∧ Hid (allN x (fun x => allN n fun y => ivlAt f g x y) = true) ∧ w0 = wr) (fun _ _ _ _ _ s _ _ => n - (intOf s).toNat)
  case atStart => exact ⟨0, Nat.zero_le _, rfl, Lib.hid rfl, rfl⟩
  case round =>
    obtain ⟨x, hx, rfl, HX, rfl⟩ := hrel
    by_cases hlt : x < n
    · have gr := gf.row x hlt
      go_wp2
      go_loopw [5, 6, 7, 18] (fun _ _ _ s wr => ∃ y : Nat, y ≤ n ∧ s = .int .i64 y ∧ Hid (allN y (fun y => ivlAt f g x y) = true) ∧ w0 = wr) (fun _ _ _ s _ => n - (intOf s).toNat)
      case atStart => exact ⟨0, Nat.zero_le _, rfl, Lib.hid rfl, rfl⟩
      case round =>
        obtain ⟨y, hy, rfl, HY, rfl⟩ := hrel
        by_cases hlty : y < n
        · obtain ⟨r1, k1⟩ := gf.look hlt hlty
          obtain ⟨r2, k2⟩ := gg.look hlt hlty
          have lu := HF.out.lt hlt hlty
          have lv := HG.out.lt hlt hlty
          have HAT : Hid (ivlAt f g x y = (decide (tv f (tv f x y) (tv g x y) = x) && decide (tv g (tv f x y) (tv g x y) = y))) := Lib.hid rfl
          generalize tv f x y = u at *
          generalize tv g x y = v at *
          obtain ⟨r3, k3⟩ := gf.look lu lv
          obtain ⟨r4, k4⟩ := gg.look lu lv
          generalize tv f u v = p at *
          generalize tv g u v = q at *
          by_cases e1 : p = x
          · subst e1
            by_cases e2 : q = y
            · subst e2
              have HT : Hid (ivlAt f g p q = true) := Lib.hid (by rw [HAT.out]; simp)
              have u1 : ((p : Int) != (p : Int)) = false := by simp
              have u2 : ((q : Int) != (q : Int)) = false := by simp
              go_wp2
              go_roundw
              case rel => exact ⟨q + 1, by omega, by go_num, Lib.hid (allN_succ HY.out HT.out), trivial⟩
              case measure => simp [intOf]; omega
            · have HT : Hid (ivlAt f g p y = false) := Lib.hid (by rw [HAT.out]; simp [e2])
              have e3 : ¬ (q : Int) = (y : Int) := by omega
              have e4 : ((q : Int) != (y : Int)) = true := by simpa using e3
              have u1 : ((p : Int) != (p : Int)) = false := by simp
              go_wp2
              go_ret
              exact ⟨by rw [show ivlB n f g = false from allN_no hlt (allN_no hlty HT.out)]; rfl, hB⟩
          · have HT : Hid (ivlAt f g x y = false) := Lib.hid (by rw [HAT.out]; simp [e1])
            have e3 : ¬ (p : Int) = (x : Int) := by omega
            have e4 : ((p : Int) != (x : Int)) = true := by simpa using e3
            go_wp2
            go_ret
            exact ⟨by rw [show ivlB n f g = false from allN_no hlt (allN_no hlty HT.out)]; rfl, hB⟩
        · obtain rfl : y = n := by omega
          go_wp2
          go_roundw
          case rel => exact ⟨x + 1, by omega, by go_num, Lib.hid (allN_succ HX.out HY.out), trivial⟩
          case measure => simp [intOf]; omega
    · obtain rfl : x = n := by omega
      go_wp2
      go_ret
      exact ⟨by rw [show ivlB x f g = true from HX.out]; rfl, hB⟩
set_option maxHeartbeats 2000000 in
theorem IsInvolutive_ok (n : Nat) (a a' : Option Addr) (c c' : Nat) (f g : List (List Int)) (w : World) (h1 : Tbl w a n f) (h2 : Tbl w a' n g) (hpm : isPm f g = true) :
    Calls Tryz.prog 10 #[sAgg a n c a' n c'] w fun e w' => e = .returned (.tuple #[.bool (ivlB n f g), .int .i64 0]) ∧ Below w.heap.size w w' := by
  obtain ⟨hn1, hn, hf, hg⟩ := isPm_sqN hpm h1.len
  have HF := Lib.hid hf; have HG := Lib.hid hg; have HP := Lib.hid hpm
  clear hf hg hpm
  have hA := Loc.new w rfl #[.slice a n c, .slice a' n c'] 29
  have hB := below_al (Below.refl w.heap.size w) (.cells #[.slice a n c, .slice a' n c'] 29)
  have lA := hA.two
  go_enter Tryz.func10, Tryz.ntmps10
  generalize hw0 : w.alloc (.cells #[.slice a n c, .slice a' n c'] 29) = w0 at *
  go_wp2_with fail
  refine (isPairMap_any a n c a' n c' f g _ (h1.below hB) (h2.below hB) (by omega) (by omega)).mono ?_
  rintro e w1 ⟨rfl, hb1⟩
  rw [HP.out]
  have lA1 := (hA.below hb1 hA.lt).two
  have hB1 := below_th hB hb1
  go_wp2_with fail
  refine (isInvolutive_any n a a' c c' f g _ (h1.below hB1) (h2.below hB1) HF.out HG.out hn1 hn).mono ?_
  rintro e w2 ⟨rfl, hb2⟩
  go_wp2
  go_ret2
  exact ⟨rfl, below_th hB1 hb2⟩
structure Dsk (w : World) (a : Option Addr) (n : Nat) (xss : List (List Int)) (a' : Option Addr) (n' : Nat) (yss : List (List Int)) (p : Option Addr) (m : Nat) (zss : List (List Int)) (q : Option Addr) (l : Nat) (ws : List Int) : Prop where
  s : Sol w a n xss a' n' yss
  r : Tbl w p m zss
  b : Row w q l ws
section
variable {w w' : World} {lo : Nat} {s : Int} {a a' p q a1 a1' p1 q1 a2 a2' p2 q2 : Option Addr} {n n' m l c c' d e n1 n1' m1 l1 c1 c1' d1 e1 n2 n2' m2 l2 c2 c2' d2 e2 : Nat} {xss yss zss : List (List Int)} {ws : List Int}
theorem Dsk.below (h : Dsk w a n xss a' n' yss p m zss q l ws) (hb : Below w.heap.size w w') : Dsk w' a n xss a' n' yss p m zss q l ws := ⟨h.s.below hb, h.r.below hb, h.b.below hb⟩
theorem Dsk.alloc (h : Dsk w a n xss a' n' yss p m zss q l ws) (o : Obj) : Dsk (w.alloc o) a n xss a' n' yss p m zss q l ws := ⟨h.s.alloc o, h.r.alloc o, h.b.alloc o⟩
structure OwnD (w : World) (lo : Nat) (a : Option Addr) (n c : Nat) (vs : List SV) (xss : List (List Int)) (a' : Option Addr) (n' c' : Nat) (vs' : List SV) (yss : List (List Int)) (p : Option Addr) (m d : Nat) (ps : List SV) (zss : List (List Int)) (q : Option Addr) (l e : Nat) (ws : List Int) : Prop where
  s : OwnS w lo a n c vs xss a' n' c' vs' yss
  r : OwnT w lo p m d ps zss
  b : Own w lo q l e ws
theorem OwnS.setlo {vs vs' : List SV} (h : OwnS w lo a n c vs xss a' n' c' vs' yss) {x : Addr} (hp : x.block < lo) (u : Value) : OwnS (w.setCell x u) lo a n c vs xss a' n' c' vs' yss := ⟨h.f.setlo hp u, h.s.setlo hp u, h.ap⟩
theorem OwnD.below {vs vs' ps : List SV} (h : OwnD w lo a n c vs xss a' n' c' vs' yss p m d ps zss q l e ws) (hb : Below w.heap.size w w') : OwnD w' lo a n c vs xss a' n' c' vs' yss p m d ps zss q l e ws := ⟨h.s.below hb, h.r.below hb, h.b.below hb⟩
end
def DskS (a : Option Addr) (n : Nat) (vs : List SV) (a' : Option Addr) (n' : Nat) (vs' : List SV) (p : Option Addr) (m : Nat) (ps : List SV) (q : Option Addr) (g : Nat) : Prop := SolS a n vs a' n' vs' g ∨ TblS p m ps g ∨ RowS q g
structure OwnDD (w : World) (lo : Nat) (a : Option Addr) (n c : Nat) (vs : List SV) (xss : List (List Int)) (a' : Option Addr) (n' c' : Nat) (vs' : List SV) (yss : List (List Int)) (p : Option Addr) (m d : Nat) (ps : List SV) (zss : List (List Int)) (q : Option Addr) (l e : Nat) (ws : List Int) : Prop where
  o : OwnD w lo a n c vs xss a' n' c' vs' yss p m d ps zss q l e ws
  ap1 : ∀ g, SolS a n vs a' n' vs' g → ¬ TblS p m ps g
  ap2 : ∀ g, SolS a n vs a' n' vs' g → ¬ RowS q g
  ap3 : ∀ g, TblS p m ps g → ¬ RowS q g
section
variable {w w' : World} {lo : Nat} {s : Int} {a a' p q a1 a1' p1 q1 a2 a2' p2 q2 : Option Addr} {n n' m l c c' d e n1 n1' m1 l1 c1 c1' d1 e1 n2 n2' m2 l2 c2 c2' d2 e2 : Nat} {xss yss zss : List (List Int)} {ws : List Int} {vs vs' ps : List SV}
theorem Dsk.drewN (h : Dsk w a n xss a' n' yss p m zss q l ws) (k : Nat) : Dsk (w.drewN k) a n xss a' n' yss p m zss q l ws := ⟨h.s.drewN k, h.r.drewN k, h.b.drewN k⟩
theorem OwnD.alloc (h : OwnD w lo a n c vs xss a' n' c' vs' yss p m d ps zss q l e ws) (o : Obj) : OwnD (w.alloc o) lo a n c vs xss a' n' c' vs' yss p m d ps zss q l e ws := ⟨h.s.alloc o, h.r.alloc o, h.b.alloc o⟩
theorem OwnD.drewN (h : OwnD w lo a n c vs xss a' n' c' vs' yss p m d ps zss q l e ws) (k : Nat) : OwnD (w.drewN k) lo a n c vs xss a' n' c' vs' yss p m d ps zss q l e ws := ⟨h.s.drewN k, h.r.drewN k, h.b.drewN k⟩
theorem OwnD.mono {lo' : Nat} (h : OwnD w lo a n c vs xss a' n' c' vs' yss p m d ps zss q l e ws) (hl : lo' ≤ lo) : OwnD w lo' a n c vs xss a' n' c' vs' yss p m d ps zss q l e ws := ⟨h.s.mono hl, h.r.mono hl, h.b.mono hl⟩
theorem OwnD.cap (h : OwnD w lo a n c vs xss a' n' c' vs' yss p m d ps zss q l e ws) : ((n ≤ c ∧ c ≤ 9223372036854775807) ∧ n' ≤ c' ∧ c' ≤ 9223372036854775807) ∧ (m ≤ d ∧ d ≤ 9223372036854775807) ∧ l ≤ e ∧ e ≤ 9223372036854775807 := ⟨h.s.cap, h.r.cap, h.b.cap⟩
theorem OwnD.uLo (h : OwnD w lo a n c vs xss a' n' c' vs' yss p m d ps zss q l e ws) : ∀ g, DskS a n vs a' n' vs' p m ps q g → lo ≤ g := fun g hg => hg.elim (h.s.uLo g) fun hg => hg.elim (h.r.uLo g) (h.b.uLo g)
theorem OwnD.uHi (h : OwnD w lo a n c vs xss a' n' c' vs' yss p m d ps zss q l e ws) : ∀ g, DskS a n vs a' n' vs' p m ps q g → g < w.heap.size := fun g hg => hg.elim (h.s.uHi g) fun hg => hg.elim (h.r.uHi g) (h.b.uHi g)
theorem OwnD.uKeep (h : OwnD w lo a n c vs xss a' n' c' vs' yss p m d ps zss q l e ws) {S : Nat → Prop} (hm : Marked S w w') (hS : ∀ g, DskS a n vs a' n' vs' p m ps q g → ¬ S g) : OwnD w' lo a n c vs xss a' n' c' vs' yss p m d ps zss q l e ws :=
  ⟨h.s.uKeep hm fun g hg => hS g (.inl hg), h.r.uKeep hm fun g hg => hS g (.inr (.inl hg)), h.b.uKeep hm fun g hg => hS g (.inr (.inr hg))⟩
theorem OwnDD.below (h : OwnDD w lo a n c vs xss a' n' c' vs' yss p m d ps zss q l e ws) (hb : Below w.heap.size w w') : OwnDD w' lo a n c vs xss a' n' c' vs' yss p m d ps zss q l e ws := ⟨h.o.below hb, h.ap1, h.ap2, h.ap3⟩
theorem OwnDD.alloc (h : OwnDD w lo a n c vs xss a' n' c' vs' yss p m d ps zss q l e ws) (o : Obj) : OwnDD (w.alloc o) lo a n c vs xss a' n' c' vs' yss p m d ps zss q l e ws := ⟨h.o.alloc o, h.ap1, h.ap2, h.ap3⟩
theorem OwnDD.drewN (h : OwnDD w lo a n c vs xss a' n' c' vs' yss p m d ps zss q l e ws) (k : Nat) : OwnDD (w.drewN k) lo a n c vs xss a' n' c' vs' yss p m d ps zss q l e ws := ⟨h.o.drewN k, h.ap1, h.ap2, h.ap3⟩
theorem OwnDD.mono {lo' : Nat} (h : OwnDD w lo a n c vs xss a' n' c' vs' yss p m d ps zss q l e ws) (hl : lo' ≤ lo) : OwnDD w lo' a n c vs xss a' n' c' vs' yss p m d ps zss q l e ws := ⟨h.o.mono hl, h.ap1, h.ap2, h.ap3⟩
theorem OwnDD.cap (h : OwnDD w lo a n c vs xss a' n' c' vs' yss p m d ps zss q l e ws) : ((n ≤ c ∧ c ≤ 9223372036854775807) ∧ n' ≤ c' ∧ c' ≤ 9223372036854775807) ∧ (m ≤ d ∧ d ≤ 9223372036854775807) ∧ l ≤ e ∧ e ≤ 9223372036854775807 := h.o.cap
theorem OwnDD.uLo (h : OwnDD w lo a n c vs xss a' n' c' vs' yss p m d ps zss q l e ws) : ∀ g, DskS a n vs a' n' vs' p m ps q g → lo ≤ g := h.o.uLo
theorem OwnDD.uHi (h : OwnDD w lo a n c vs xss a' n' c' vs' yss p m d ps zss q l e ws) : ∀ g, DskS a n vs a' n' vs' p m ps q g → g < w.heap.size := h.o.uHi
theorem OwnDD.uKeep (h : OwnDD w lo a n c vs xss a' n' c' vs' yss p m d ps zss q l e ws) {S : Nat → Prop} (hm : Marked S w w') (hS : ∀ g, DskS a n vs a' n' vs' p m ps q g → ¬ S g) : OwnDD w' lo a n c vs xss a' n' c' vs' yss p m d ps zss q l e ws := ⟨h.o.uKeep hm hS, h.ap1, h.ap2, h.ap3⟩
end
/-! ### a rack by values -/
set_option maxHeartbeats 400000 in
theorem rackBy1_any (f : FuncId) (caps : Array Value) (V : Nat → Nat → Int) (b : Nat) (t : TypeId) (x y : Nat) (w : World) (hL : Loc w b #[.func (.func f) #[] caps] t) (hcf : Ent f) (hf : Calls Tryz.prog f (#[.int .i64 x, .int .i64 y] ++ caps) w fun e w' => e = .returned (.int .i64 (V x y)) ∧ Below w.heap.size w w') :
    Calls Tryz.prog 74 #[.int .i64 x, .int .i64 y, .pointer (some ⟨b, 0, none⟩)] w fun e w' => e = .returned (.int .i64 (V x y)) ∧ Below w.heap.size w w' := by
  have hcf' : ∀ (args : Array Value) (w : World), (callFunc f args).run Tryz.prog w = .ok (.enter f args) w := hcf
  have HF := Lib.hid hf
  have lL := hL.one
  clear hf
  go_enter Tryz.func74, Tryz.ntmps74
  go_wp2_with fail
  refine HF.out.mono ?_
  rintro e w1 ⟨rfl, hb⟩
  go_wp2
  go_ret
  exact ⟨rfl, hb⟩
theorem ent_rb1 : Ent 74 := fun _ _ => rfl
set_option maxHeartbeats 1000000 in
theorem rackBy_any (f : FuncId) (caps : Array Value) (V : Nat → Nat → Int) (n : Nat) (w : World) (hn : n ≤ 1000000) (hcf : Ent f)
    (hf : ∀ x y, x < n → y < n → ∀ w1, Below w.heap.size w w1 → Calls Tryz.prog f (#[.int .i64 x, .int .i64 y] ++ caps) w1 fun e w' => e = .returned (.int .i64 (V x y)) ∧ Below w1.heap.size w1 w') :
    Calls Tryz.prog 37 #[.int .i64 n, .func (.func f) #[] caps] w fun e w' => ∃ a c vs, e = .returned (rAgg a n c) ∧ OwnT w' w.heap.size a n c vs (tabF n V) ∧ Below w.heap.size w w' := by
  have hA := (Loc.new w rfl #[.func (.func f) #[] caps] 66).alloc (.cells #[.slice none 0 0] 37)
  have hR := Loc.new (w.alloc (.cells #[.func (.func f) #[] caps] 66)) rfl #[.slice none 0 0] 37
  rw [size_alloc] at hR
  have hB := below_al (below_al (Below.refl w.heap.size w) (.cells #[.func (.func f) #[] caps] 66)) (.cells #[.slice none 0 0] 37)
  have HF := Lib.hid hf; clear hf
  go_enter Tryz.func37, Tryz.ntmps37
  go_wp2_with fail
  generalize (w.alloc (.cells #[.func (.func f) #[] caps] 66)).alloc (.cells #[.slice none 0 0] 37) = w0 at *
  have hc1 : Hid (∀ x y, x < n → y < n → ∀ w1, Below w0.heap.size w0 w1 → Calls Tryz.prog 74 (#[.int .i64 x, .int .i64 y] ++ #[.pointer (some ⟨w.heap.size, 0, none⟩)]) w1 fun e w' => e = .returned (.int .i64 (V x y)) ∧ Below w1.heap.size w1 w') := Lib.hid fun x y hx hy w1 hb1 =>
    rackBy1_any f caps V _ _ x y w1 (hA.below hb1 hA.lt) hcf (HF.out x y hx hy w1 (below_th hB hb1))
  refine (tableBy_any _ _ V n _ hn ent_rb1 hc1.out).mono ?_
  rintro e w1 ⟨a, c, vs, rfl, ho1, hb1⟩
  have hB1 := below_th hB hb1
  have hR1 := hR.below hb1 hR.lt
  have lR := hR1.one
  have hz : w.heap.size + 1 < w0.heap.size := hR.lt
  go_wp2
  refine bodyPost_ret (v := rAgg a n c) (by simp [results, Tryz.results37, go_sem, lR]) rfl ⟨a, c, vs, rfl, ?_, ?_⟩
  · exact (ho1.setlo (by show w.heap.size + 1 < w0.heap.size; omega) _).mono (by have := hB.size; omega)
  · exact below_setne hB1 (by show w.heap.size ≤ w.heap.size + 1; omega) _
def cjV (t : List (List Int)) (x y : Nat) : Nat := tv t (tv t x y) (ivN t x)
set_option maxHeartbeats 4000000 in
theorem groupConj1_any (n bt bb : Nat) (tt tb : TypeId) (a ab : Option Addr) (c cb : Nat) (t : List (List Int)) (w : World) (hTab : Loc w bt #[.slice a n c] tt) (hBk : Loc w bb #[.slice ab n cb] tb) (h1 : Tbl w a n t) (hrb : Row w ab n (ivnL n t)) (ht : Sq n t) (hr : ∀ x, x < n → IsP n (t.getD x [])) (hn1 : 1 ≤ n) (hn : n ≤ 12) (x y : Nat) (hx : x < n) (hy : y < n) :
    Calls Tryz.prog 38 #[.int .i64 x, .int .i64 y, .pointer (some ⟨bt, 0, none⟩), .pointer (some ⟨bb, 0, none⟩)] w fun e w' => e = .returned (.int .i64 ((cjV t x y : Nat) : Int)) ∧ ∃ m, w' = w.drewN m := by
  obtain ⟨b1, o1, A, O, C, rfl, G⟩ := h1.grid ht hn1
  have hmx : ivN t x < n := (ivN_idx ht hx (hr x hx)).1
  obtain ⟨b2, o2, rfl, gm⟩ := hrb.at x hx
  rw [ivnL_get t hx] at gm
  have l1 := ht.lt hx hy
  have hd : cjV t x y = tv t (tv t x y) (ivN t x) := rfl
  rw [hd]
  have k1 := G.look hx hy
  generalize ivN t x = MX at *
  generalize tv t x y = q at *
  have k2 := G.look l1 hmx
  have hu := ht.lt l1 hmx
  generalize tv t q MX = u at *
  have lT := hTab.one
  have lB := hBk.one
  clear hd hr
  have hwu : IntKind.i64.wrap (u : Int) = u := IntWalk.i64_in _ (by omega)
  have i1 : (0 : Int) ≤ (x : Int) := by omega
  have i2 : (x : Int) < (n : Int) := by omega
  have i3 : (0 : Int) ≤ (y : Int) := by omega
  have i4 : (y : Int) < (n : Int) := by omega
  have i5 : (0 : Int) ≤ (MX : Int) := by omega
  have i6 : (MX : Int) < (n : Int) := by omega
  have i7 : (0 : Int) ≤ (q : Int) := by omega
  have i8 : (q : Int) < (n : Int) := by omega
  go_enter Tryz.func38, Tryz.ntmps38
  go_wp2
  go_quiet (fail)
  go_wp2
  go_ret
  exact ⟨rfl, _, rfl⟩
theorem ent_gcj1 : Ent 38 := fun _ _ => rfl
theorem gcj_pair {n p4 p5 : Nat} {tt tb : TypeId} {a am : Option Addr} {c cm : Nat} {t : List (List Int)} {X : World} (h4 : Loc X p4 #[.slice a n c] tt) (h5 : Loc X p5 #[.slice am n cm] tb) (h1 : Tbl X a n t) (hrb : Row X am n (ivnL n t)) (ht : Sq n t) (hr : ∀ x, x < n → IsP n (t.getD x [])) (hn1 : 1 ≤ n) (hn : n ≤ 12) :
    ∀ x y, x < n → y < n → ∀ w1, Below X.heap.size X w1 → Calls Tryz.prog 38 (#[.int .i64 x, .int .i64 y] ++ #[.pointer (some ⟨p4, 0, none⟩), .pointer (some ⟨p5, 0, none⟩)]) w1 fun e w' => e = .returned (.int .i64 ((cjV t x y : Nat) : Int)) ∧ Below w1.heap.size w1 w' := fun x y hx hy w1 hb1 =>
  (groupConj1_any n p4 p5 tt tb a am c cm t w1 (h4.below hb1 h4.lt) (h5.below hb1 h5.lt) (h1.below hb1) (hrb.below hb1) ht hr hn1 hn x y hx hy).mono fun e w' ⟨he, k, hk⟩ => ⟨he, by rw [hk]; exact below_drewN (Below.refl _ _) k⟩
set_option maxHeartbeats 8000000 in
theorem GroupConjugation_yes (n : Nat) (a : Option Addr) (c : Nat) (t : List (List Int)) (w : World) (h1 : Tbl w a n t) (ht : Sq n t) (hr : ∀ x, x < n → IsP n (t.getD x [])) (hg : isGrp t = true) (hn1 : 1 ≤ n) (hn : n ≤ 12) :
    Calls Tryz.prog 13 #[rAgg a n c] w fun e w' => ∃ a1 c1 vs, e = .returned (.tuple #[rAgg a1 n c1, .int .i64 0]) ∧ OwnT w' w.heap.size a1 n c1 vs (tabF n fun x y => ((cjV t x y : Nat) : Int)) ∧ Below w.heap.size w w' := by
  have HT := Lib.hid ht; have HR := Lib.hid hr; have HG := Lib.hid hg
  clear ht hr hg
  obtain ⟨w0, hw0⟩ : ∃ w0, (w.alloc (.cells #[.slice a n c] 41)).alloc (.cells #[.slice none 0 0] 37) = w0 := ⟨_, rfl⟩
  have hz0 : w0.heap.size = w.heap.size + 2 := by rw [← hw0]; simp
  have hB : Below w.heap.size w w0 := by rw [← hw0]; exact below_al (below_al (Below.refl _ _) _) _
  have hA : Loc w0 w.heap.size #[.slice a n c] 41 := by rw [← hw0]; exact (Loc.new w rfl _ _).alloc _
  have hO : Loc w0 (w.heap.size + 1) #[.slice none 0 0] 37 := by rw [← hw0]; exact Loc.new _ (by simp) _ _
  have HZ0 := Lib.hid hz0
  have lA := hA.one
  go_enter Tryz.func13, Tryz.ntmps13
  go_wp2_with fail
  try rw [hw0]
  refine (IsGroup_any a n c t _ (h1.below hB) (by omega)).mono ?_
  rintro e w3 ⟨rfl, hb1⟩
  rw [HG.out]
  have hz3 := hb1.size
  have hB3 := below_th hB hb1
  have hA3 := hA.below hb1 hA.lt
  have hO3 := hO.below hb1 hO.lt
  have lA3 := hA3.one
  have t0 := h1.below hB3
  have t1 := t0.drewN 1
  have hAlt := hA3.lt
  have hOlt := hO3.lt
  clear hz0 hw0 lA
  have HAC := Lib.hid (fun (v : World) (hb : Below w3.heap.size w3 v) => hA3.below hb hAlt)
  go_wp2
  go_region_held3 (fun w' => w'.cell? ⟨w.heap.size, 0, none⟩ = some (.slice a n c))
    (first | exact l4 | exact l6x | exact l7x | exact l6y | exact l7y | exact lZA | exact lZB | exact lPA | exact lPB | exact lPC | exact lA3.1 | go_keep)
    (first
      | (go_at_call 36; refine (groupInverses_any a n c t w3.drew t1 (by omega) HT.out HR.out).mono ?_; rintro e w4 ⟨am, cm, rfl, hom, hb4'⟩; have hb4 : Below w3.heap.size w3 w4 := below_th (Below.drew (Below.refl _ _)) hb4'; have hA4 := HAC.out w4 hb4; have l4 : w4.cell? ⟨w.heap.size, 0, none⟩ = some (.slice a n c) := hA4.one.1; have hY4x : Loc ((w4.alloc (.cells #[.slice none 0 0] 24)).alloc (.cells #[.slice none 0 0] 50)) (w4.heap.size) #[.slice none 0 0] 24 := (Loc.new w4 rfl _ _).alloc _; have hY5x : Loc ((w4.alloc (.cells #[.slice none 0 0] 24)).alloc (.cells #[.slice none 0 0] 50)) (w4.heap.size + 1) #[.slice none 0 0] 50 := Loc.new (w4.alloc (.cells #[.slice none 0 0] 24)) (by simp) _ _; have f4x := hY4x.one; have f5x := hY5x.one; have hnex : (w4.heap.size) ≠ (w4.heap.size + 1) := (by have := hb4'.size; simp at this ⊢ <;> omega); have hS5x := hY5x.setne (a := ⟨w4.heap.size, 0, none⟩) (Ne.symm hnex) (.slice a n c); have g5x := hS5x.one; have hF5x := hS5x.set 0 (.slice am n cm); have hF4x := (hY4x.set 0 (.slice a n c)).setne (a := ⟨w4.heap.size + 1, 0, none⟩) hnex (.slice am n cm); have hK4x : Loc (((w4.alloc (.cells #[.slice none 0 0] 24)).alloc (.cells #[.slice none 0 0] 50)).setCell ⟨w4.heap.size, 0, none⟩ (.slice a n c)) w.heap.size #[.slice a n c] 41 := Loc.setne ((hA4.alloc _).alloc _) (by show w.heap.size ≠ w4.heap.size; have := hb4.size; omega) _; have l6x := hK4x.one.1; have l7x := (hK4x.setne (a := ⟨w4.heap.size + 1, 0, none⟩) (by show w.heap.size ≠ w4.heap.size + 1; have := hb4.size; omega) (.slice am n cm)).one.1; have hY4y : Loc ((w4.alloc (.cells #[.slice none 0 0] 50)).alloc (.cells #[.slice none 0 0] 24)) (w4.heap.size + 1) #[.slice none 0 0] 24 := Loc.new (w4.alloc (.cells #[.slice none 0 0] 50)) (by simp) _ _; have hY5y : Loc ((w4.alloc (.cells #[.slice none 0 0] 50)).alloc (.cells #[.slice none 0 0] 24)) (w4.heap.size) #[.slice none 0 0] 50 := (Loc.new w4 rfl _ _).alloc _; have f4y := hY4y.one; have f5y := hY5y.one; have hney : (w4.heap.size + 1) ≠ (w4.heap.size) := (by have := hb4'.size; simp at this ⊢ <;> omega); have hS5y := hY5y.setne (a := ⟨w4.heap.size + 1, 0, none⟩) (Ne.symm hney) (.slice a n c); have g5y := hS5y.one; have hF5y := hS5y.set 0 (.slice am n cm); have hF4y := (hY4y.set 0 (.slice a n c)).setne (a := ⟨w4.heap.size, 0, none⟩) hney (.slice am n cm); have hK4y : Loc (((w4.alloc (.cells #[.slice none 0 0] 50)).alloc (.cells #[.slice none 0 0] 24)).setCell ⟨w4.heap.size + 1, 0, none⟩ (.slice a n c)) w.heap.size #[.slice a n c] 41 := Loc.setne ((hA4.alloc _).alloc _) (by show w.heap.size ≠ w4.heap.size + 1; have := hb4.size; omega) _; have l6y := hK4y.one.1; have l7y := (hK4y.setne (a := ⟨w4.heap.size, 0, none⟩) (by show w.heap.size ≠ w4.heap.size; have := hb4.size; omega) (.slice am n cm)).one.1)
      | (go_at_call 36; refine (groupInverses_any a n c t (w3.alloc (.cells #[.slice none 0 0] 24)).drew ((t0.alloc _).drewN 1) (by omega) HT.out HR.out).mono ?_; rintro e w4 ⟨am, cm, rfl, hom, hb4'⟩; have hb4 : Below w3.heap.size w3 w4 := below_th (Below.drew (below_al (Below.refl _ _) _)) hb4'; have hA4 := HAC.out w4 hb4; have l4 : w4.cell? ⟨w.heap.size, 0, none⟩ = some (.slice a n c) := hA4.one.1; have hY4x : Loc (w4.alloc (.cells #[.slice none 0 0] 50)) (w3.heap.size) #[.slice none 0 0] 24 := (Loc.below (w := (w3.alloc (.cells #[.slice none 0 0] 24)).drew) (Loc.drewN (Loc.new w3 rfl _ _) 1) hb4' (by simp <;> omega)).alloc _; have hY5x : Loc (w4.alloc (.cells #[.slice none 0 0] 50)) (w4.heap.size) #[.slice none 0 0] 50 := Loc.new w4 rfl _ _; have f4x := hY4x.one; have f5x := hY5x.one; have hnex : (w3.heap.size) ≠ (w4.heap.size) := (by have := hb4'.size; simp at this ⊢ <;> omega); have hS5x := hY5x.setne (a := ⟨w3.heap.size, 0, none⟩) (Ne.symm hnex) (.slice a n c); have g5x := hS5x.one; have hF5x := hS5x.set 0 (.slice am n cm); have hF4x := (hY4x.set 0 (.slice a n c)).setne (a := ⟨w4.heap.size, 0, none⟩) hnex (.slice am n cm); have hK4x : Loc ((w4.alloc (.cells #[.slice none 0 0] 50)).setCell ⟨w3.heap.size, 0, none⟩ (.slice a n c)) w.heap.size #[.slice a n c] 41 := Loc.setne (hA4.alloc _) (by show w.heap.size ≠ w3.heap.size; have := hb4.size; omega) _; have l6x := hK4x.one.1; have l7x := (hK4x.setne (a := ⟨w4.heap.size, 0, none⟩) (by show w.heap.size ≠ w4.heap.size; have := hb4.size; omega) (.slice am n cm)).one.1; have hZ5 : Loc ((w4.setCell ⟨w3.heap.size, 0, none⟩ (.slice a n c)).alloc (.cells #[.slice none 0 0] 50)) w4.heap.size #[.slice none 0 0] 50 := Loc.new _ (by simp) _ _; have gZ5 := hZ5.one; have hZA : Loc ((w4.setCell ⟨w3.heap.size, 0, none⟩ (.slice a n c)).alloc (.cells #[.slice none 0 0] 50)) w.heap.size #[.slice a n c] 41 := (hA4.setne (a := ⟨w3.heap.size, 0, none⟩) (by show w.heap.size ≠ w3.heap.size; omega) _).alloc _; have lZA := hZA.one.1; have lZB := (hZA.setne (a := ⟨w4.heap.size, 0, none⟩) (by show w.heap.size ≠ w4.heap.size; have := hb4.size; omega) (.slice am n cm)).one.1; have hF4y : Loc (((w4.setCell ⟨w3.heap.size, 0, none⟩ (.slice a n c)).alloc (.cells #[.slice none 0 0] 50)).setCell ⟨w4.heap.size, 0, none⟩ (.slice am n cm)) w3.heap.size #[.slice a n c] 24 := (((Loc.below (w := (w3.alloc (.cells #[.slice none 0 0] 24)).drew) (Loc.drewN (Loc.new w3 rfl _ _) 1) hb4' (by simp <;> omega)).set 0 (.slice a n c)).alloc _).setne (by show w3.heap.size ≠ w4.heap.size; have := hb4'.size; simp at this; omega) _; have hF5y := hZ5.set 0 (.slice am n cm))
      | (go_at_call 36; refine (groupInverses_any a n c t (w3.alloc (.cells #[.slice none 0 0] 50)).drew ((t0.alloc _).drewN 1) (by omega) HT.out HR.out).mono ?_; rintro e w4 ⟨am, cm, rfl, hom, hb4'⟩; have hb4 : Below w3.heap.size w3 w4 := below_th (Below.drew (below_al (Below.refl _ _) _)) hb4'; have hA4 := HAC.out w4 hb4; have l4 : w4.cell? ⟨w.heap.size, 0, none⟩ = some (.slice a n c) := hA4.one.1; have hY4x : Loc (w4.alloc (.cells #[.slice none 0 0] 24)) (w4.heap.size) #[.slice none 0 0] 24 := Loc.new w4 rfl _ _; have hY5x : Loc (w4.alloc (.cells #[.slice none 0 0] 24)) (w3.heap.size) #[.slice none 0 0] 50 := (Loc.below (w := (w3.alloc (.cells #[.slice none 0 0] 50)).drew) (Loc.drewN (Loc.new w3 rfl _ _) 1) hb4' (by simp <;> omega)).alloc _; have f4x := hY4x.one; have f5x := hY5x.one; have hnex : (w4.heap.size) ≠ (w3.heap.size) := (by have := hb4'.size; simp at this ⊢ <;> omega); have hS5x := hY5x.setne (a := ⟨w4.heap.size, 0, none⟩) (Ne.symm hnex) (.slice a n c); have g5x := hS5x.one; have hF5x := hS5x.set 0 (.slice am n cm); have hF4x := (hY4x.set 0 (.slice a n c)).setne (a := ⟨w3.heap.size, 0, none⟩) hnex (.slice am n cm); have hK4x : Loc ((w4.alloc (.cells #[.slice none 0 0] 24)).setCell ⟨w4.heap.size, 0, none⟩ (.slice a n c)) w.heap.size #[.slice a n c] 41 := Loc.setne (hA4.alloc _) (by show w.heap.size ≠ w4.heap.size; have := hb4.size; omega) _; have l6x := hK4x.one.1; have l7x := (hK4x.setne (a := ⟨w3.heap.size, 0, none⟩) (by show w.heap.size ≠ w3.heap.size; have := hb4.size; omega) (.slice am n cm)).one.1; have hP5 : Loc (w4.alloc (.cells #[.slice a n c] 24)) w3.heap.size #[.slice none 0 0] 50 := (Loc.below (w := (w3.alloc (.cells #[.slice none 0 0] 50)).drew) (Loc.drewN (Loc.new w3 rfl _ _) 1) hb4' (by simp <;> omega)).alloc _; have gP5 := hP5.one; have hPA : Loc (w4.alloc (.cells #[.slice a n c] 24)) w.heap.size #[.slice a n c] 41 := hA4.alloc _; have lPA := hPA.one.1; have lPB := (hPA.setne (a := ⟨w3.heap.size, 0, none⟩) (by show w.heap.size ≠ w3.heap.size; omega) (.slice am n cm)).one.1; have hQA : Loc ((w4.setCell ⟨w3.heap.size, 0, none⟩ (.slice am n cm)).alloc (.cells #[.slice a n c] 24)) w.heap.size #[.slice a n c] 41 := (hA4.setne (a := ⟨w3.heap.size, 0, none⟩) (by show w.heap.size ≠ w3.heap.size; omega) _).alloc _; have lPC := hQA.one.1; have hF4y := (Loc.new w4 rfl #[.slice a n c] 24).setne (a := ⟨w3.heap.size, 0, none⟩) (by show w4.heap.size ≠ w3.heap.size; have := hb4'.size; simp at this; omega) (.slice am n cm); have hF5y := hP5.set 0 (.slice am n cm); have hF4z : Loc ((w4.setCell ⟨w3.heap.size, 0, none⟩ (.slice am n cm)).alloc (.cells #[.slice a n c] 24)) w4.heap.size #[.slice a n c] 24 := Loc.new _ (by simp) _ _; have hF5z : Loc ((w4.setCell ⟨w3.heap.size, 0, none⟩ (.slice am n cm)).alloc (.cells #[.slice a n c] 24)) w3.heap.size #[.slice am n cm] 50 := (Loc.set (Loc.below (w := (w3.alloc (.cells #[.slice none 0 0] 50)).drew) (Loc.drewN (Loc.new w3 rfl _ _) 1) hb4' (by simp <;> omega)) 0 (.slice am n cm)).alloc _)
      | (go_at_call 36; refine (groupInverses_any a n c t ((w3.alloc (.cells #[.slice none 0 0] 24)).alloc (.cells #[.slice none 0 0] 50)).drew (((t0.alloc _).alloc _).drewN 1) (by omega) HT.out HR.out).mono ?_; rintro e w4 ⟨am, cm, rfl, hom, hb4'⟩; have hb4 : Below w3.heap.size w3 w4 := below_th (Below.drew (below_al (below_al (Below.refl _ _) _) _)) hb4'; have hA4 := HAC.out w4 hb4; have l4 : w4.cell? ⟨w.heap.size, 0, none⟩ = some (.slice a n c) := hA4.one.1; have hY4x : Loc (w4) (w3.heap.size) #[.slice none 0 0] 24 := (Loc.below (w := ((w3.alloc (.cells #[.slice none 0 0] 24)).alloc (.cells #[.slice none 0 0] 50)).drew) (Loc.drewN ((Loc.new w3 rfl _ _).alloc _) 1) hb4' (by simp <;> omega)); have hY5x : Loc (w4) (w3.heap.size + 1) #[.slice none 0 0] 50 := (Loc.below (w := ((w3.alloc (.cells #[.slice none 0 0] 24)).alloc (.cells #[.slice none 0 0] 50)).drew) (Loc.drewN (Loc.new (w3.alloc (.cells #[.slice none 0 0] 24)) (by simp) _ _) 1) hb4' (by simp <;> omega)); have f4x := hY4x.one; have f5x := hY5x.one; have hnex : (w3.heap.size) ≠ (w3.heap.size + 1) := (by have := hb4'.size; simp at this ⊢ <;> omega); have hS5x := hY5x.setne (a := ⟨w3.heap.size, 0, none⟩) (Ne.symm hnex) (.slice a n c); have g5x := hS5x.one; have hF5x := hS5x.set 0 (.slice am n cm); have hF4x := (hY4x.set 0 (.slice a n c)).setne (a := ⟨w3.heap.size + 1, 0, none⟩) hnex (.slice am n cm); have hK4x : Loc ((w4).setCell ⟨w3.heap.size, 0, none⟩ (.slice a n c)) w.heap.size #[.slice a n c] 41 := Loc.setne (hA4) (by show w.heap.size ≠ w3.heap.size; have := hb4.size; omega) _; have l6x := hK4x.one.1; have l7x := (hK4x.setne (a := ⟨w3.heap.size + 1, 0, none⟩) (by show w.heap.size ≠ w3.heap.size + 1; have := hb4.size; omega) (.slice am n cm)).one.1)
      | (go_at_call 36; refine (groupInverses_any a n c t ((w3.alloc (.cells #[.slice none 0 0] 50)).alloc (.cells #[.slice none 0 0] 24)).drew (((t0.alloc _).alloc _).drewN 1) (by omega) HT.out HR.out).mono ?_; rintro e w4 ⟨am, cm, rfl, hom, hb4'⟩; have hb4 : Below w3.heap.size w3 w4 := below_th (Below.drew (below_al (below_al (Below.refl _ _) _) _)) hb4'; have hA4 := HAC.out w4 hb4; have l4 : w4.cell? ⟨w.heap.size, 0, none⟩ = some (.slice a n c) := hA4.one.1; have hY4x : Loc (w4) (w3.heap.size + 1) #[.slice none 0 0] 24 := (Loc.below (w := ((w3.alloc (.cells #[.slice none 0 0] 50)).alloc (.cells #[.slice none 0 0] 24)).drew) (Loc.drewN (Loc.new (w3.alloc (.cells #[.slice none 0 0] 50)) (by simp) _ _) 1) hb4' (by simp <;> omega)); have hY5x : Loc (w4) (w3.heap.size) #[.slice none 0 0] 50 := (Loc.below (w := ((w3.alloc (.cells #[.slice none 0 0] 50)).alloc (.cells #[.slice none 0 0] 24)).drew) (Loc.drewN ((Loc.new w3 rfl _ _).alloc _) 1) hb4' (by simp <;> omega)); have f4x := hY4x.one; have f5x := hY5x.one; have hnex : (w3.heap.size + 1) ≠ (w3.heap.size) := (by have := hb4'.size; simp at this ⊢ <;> omega); have hS5x := hY5x.setne (a := ⟨w3.heap.size + 1, 0, none⟩) (Ne.symm hnex) (.slice a n c); have g5x := hS5x.one; have hF5x := hS5x.set 0 (.slice am n cm); have hF4x := (hY4x.set 0 (.slice a n c)).setne (a := ⟨w3.heap.size, 0, none⟩) hnex (.slice am n cm); have hK4x : Loc ((w4).setCell ⟨w3.heap.size + 1, 0, none⟩ (.slice a n c)) w.heap.size #[.slice a n c] 41 := Loc.setne (hA4) (by show w.heap.size ≠ w3.heap.size + 1; have := hb4.size; omega) _; have l6x := hK4x.one.1; have l7x := (hK4x.setne (a := ⟨w3.heap.size, 0, none⟩) (by show w.heap.size ≠ w3.heap.size; have := hb4.size; omega) (.slice am n cm)).one.1))
  all_goals
    have hB4 := below_th hB3 hb4
    go_wp2_with fail
    refine (rackBy_any _ _ (fun x y => ((cjV t x y : Nat) : Int)) n _ (by omega) ent_gcj1 (gcj_pair (tt := 24) (tb := 50) (a := a) (c := c) (am := am) (cm := cm) ?_ ?_ ?_ ?_ HT.out HR.out hn1 hn)).mono ?_
    · first | exact hF4x | exact hF4y | exact (Loc.new w4 rfl _ _).alloc _ | exact Loc.new _ (by simp) _ _
    · first | exact hF5x | exact hF5y | exact (Loc.new w4 rfl _ _).alloc _ | exact Loc.new _ (by simp) _ _
    · refine t0.below ?_
      (repeat (first | exact hb4 | refine below_al ?_ _ | refine Below.setCell ?_ (by first | exact Nat.le_refl _ | (have := hb4.size; dsimp only; omega)) _))
    · first
        | (refine (hom.below ?_).row; (repeat (first | exact Below.refl _ _ | refine below_al ?_ _)); done)
        | (refine (Own.keep hom fun g hg hlt => ?_).row; have e1 := hom.lo g hg; simp at e1; (repeat (refine (Below.heap_setCell _ _ _ _ ?_).trans ?_; (intro hh; dsimp only at hh; omega))); first | done | rfl | exact (below_al (Below.refl w4.heap.size w4) _).block g hlt)
    · rintro e w6 ⟨a1, c1, vs, rfl, ho, hb6⟩
      have hBX := fun (X : World) (h : Below w3.heap.size w3 X) (hb : Below X.heap.size X w6) => And.intro ((hO3.below h hOlt).below hb (Nat.lt_of_lt_of_le hOlt h.size)) (And.intro (below_th (below_th hB3 h) hb) h.size)
      obtain ⟨hO6, hB6, hzX⟩ := hBX _ (by (repeat (first | exact hb4 | refine below_al ?_ _ | refine Below.setCell ?_ (by first | exact Nat.le_refl _ | (have := hb4.size; dsimp only; omega)) _))) hb6
      have lO := hO6.one
      clear hBX
      have hoz := ho.setlo (p := ⟨w.heap.size + 1, 0, none⟩) (by show w.heap.size + 1 < _; omega) (.slice a1 n c1)
      go_wp2
      refine bodyPost_ret (v := .tuple #[rAgg a1 n c1, .int .i64 0]) (by simp [results, Tryz.results13, go_sem, lO]) rfl ⟨a1, c1, vs, rfl, ?_, ?_⟩
      · exact hoz.mono (by omega)
      · exact below_setne hB6 (by show w.heap.size ≤ w.heap.size + 1; omega) _
end Go.Proofs.YtiliimkfobfbnaaGreat
