/-
  Walks and plain laws of this seat, some texts in one.
  No condition but bounds on lengths.
-/
import Derived.Test.YtiliimkfobfbnaaGreatPt8
import Derived.Deep.RegionHeld3
import Derived.Deep.DeepCutAuto
import Derived.Test.YtiliimkfobfbnaaGreatPt3
import Derived.Test.YtiliimkfobfbnaaGreatPt4
import Derived.Test.YtiliimkfobfbnaaGreatPt5
import Derived.Test.YtiliimkfobfbnaaGreatPt6
import Derived.Test.YtiliimkfobfbnaaGreatPt2
import Derived.Lib.AppendZeros
import Derived.IntWalk
namespace Go.Proofs.YtiliimkfobfbnaaGreat
set_option maxRecDepth 100000
set_option linter.unusedVariables false
set_option linter.unusedSimpArgs false
open Go.RowKit
theorem OwnT.uSet {w : World} {lo : Nat} {a : Option Addr} {n c : Nat} {vs : List SV} {xss : List (List Int)} (h : OwnT w lo a n c vs xss) {p : Addr} (hp : ∀ g, TblS a n vs g → g ≠ p.block) (u : Value) : OwnT (w.setCell p u) lo a n c vs xss :=
  h.keep fun g hg _ => Below.heap_setCell _ _ _ _ (hp g hg)
def InvMade (w1 : World) (n : Nat) (f g : List (List Int)) (s : Value) (wx : World) : Prop :=
  ∃ b4 b d vs b' d' vs', s = .pointer (some ⟨b4, 0, none⟩) ∧ w1.heap.size ≤ b4 ∧ Loc wx b4 #[.slice b n d, .slice b' n d'] 29 ∧ OwnS wx w1.heap.size b n d vs f b' n d' vs' g ∧ (∀ q, SolS b n vs b' n vs' q → q ≠ b4) ∧ Below w1.heap.size w1 wx
abbrev zBox : Obj := .cells #[.slice none 0 0, .slice none 0 0] 29
section
variable {w1 w2 w3 : World} {n : Nat} {f g : List (List Int)} {a2 a3 : Option Addr} {c2 c3 : Nat} {vs2 vs3 : List SV}
theorem made_end (ho2 : OwnT w2 w1.heap.size a2 n c2 vs2 f) (hq2 : Below w1.heap.size w1 w2) (ho3 : OwnT w3 w2.heap.size a3 n c3 vs3 g) (hb3 : Below w2.heap.size w2 w3) :
    InvMade w1 n f g (.pointer (some ⟨w3.heap.size, 0, none⟩)) (w3.alloc (.cells #[.slice a2 n c2, .slice a3 n c3] 29)) := by
  have s2 := hq2.size
  have s3 := hb3.size
  refine ⟨_, _, _, _, _, _, _, rfl, by omega, Loc.new _ rfl _ _, ⟨(ho2.below hb3).alloc _, (ho3.mono s2).alloc _, fun q h1 h2 => ?_⟩, fun q hq => ?_, below_al (below_th hq2 hb3) _⟩
  · have e1 := ho2.uHi q h1; have e2 := ho3.uLo q h2; omega
  · rcases hq with hq | hq
    · have := ho2.uHi q hq; omega
    · have := ho3.uHi q hq; omega
theorem made_mid (ho2 : OwnT w2 w1.heap.size a2 n c2 vs2 f) (hq2 : Below w1.heap.size w1 w2) (ho3 : OwnT w3 (w2.alloc zBox).heap.size a3 n c3 vs3 g) (hb3 : Below (w2.alloc zBox).heap.size (w2.alloc zBox) w3) :
    InvMade w1 n f g (.pointer (some ⟨w2.heap.size, 0, none⟩)) ((w3.setCell ⟨w2.heap.size, 0, none⟩ (.slice a2 n c2)).setCell ⟨w2.heap.size, 1, none⟩ (.slice a3 n c3)) := by
  have s2 := hq2.size
  have s3 := hb3.size
  rw [size_alloc] at s3
  have n2 : ∀ q, TblS a2 n vs2 q → q ≠ w2.heap.size := fun q hq => by have := ho2.uHi q hq; omega
  have n3 : ∀ q, TblS a3 n vs3 q → q ≠ w2.heap.size := fun q hq => by have := ho3.uLo q hq; rw [size_alloc] at this; omega
  have hO : Loc w3 w2.heap.size #[.slice none 0 0, .slice none 0 0] 29 := (Loc.new w2 rfl _ _).below hb3 (by simp)
  refine ⟨_, _, _, _, _, _, _, rfl, by omega, (hO.set 0 _).set 1 _, ⟨(((ho2.alloc _).below hb3).uSet n2 _).uSet n2 _, ((ho3.mono (by rw [size_alloc]; omega)).uSet n3 _).uSet n3 _, fun q h1 h2 => ?_⟩, fun q hq => ?_, ?_⟩
  · have e1 := ho2.uHi q h1; have e2 := ho3.uLo q h2; rw [size_alloc] at e2; omega
  · rcases hq with hq | hq
    · exact n2 q hq
    · exact n3 q hq
  · exact below_setne (below_setne (below_alth hq2 hb3) s2 _) s2 _
theorem made_first {w1' : World} (hw : Below w1.heap.size w1 w1') (hs1 : w1'.heap.size = w1.heap.size) (ho2 : OwnT w2 (w1'.alloc zBox).heap.size a2 n c2 vs2 f) (hb2 : Below (w1'.alloc zBox).heap.size (w1'.alloc zBox) w2) (ho3 : OwnT w3 w2.heap.size a3 n c3 vs3 g) (hb3 : Below w2.heap.size w2 w3) :
    InvMade w1 n f g (.pointer (some ⟨w1.heap.size, 0, none⟩)) ((w3.setCell ⟨w1.heap.size, 0, none⟩ (.slice a2 n c2)).setCell ⟨w1.heap.size, 1, none⟩ (.slice a3 n c3)) := by
  have s2 := hb2.size
  have s3 := hb3.size
  rw [size_alloc] at s2
  have n2 : ∀ q, TblS a2 n vs2 q → q ≠ w1.heap.size := fun q hq => by have := ho2.uLo q hq; rw [size_alloc] at this; omega
  have n3 : ∀ q, TblS a3 n vs3 q → q ≠ w1.heap.size := fun q hq => by have := ho3.uLo q hq; omega
  have hO : Loc w3 w1.heap.size #[.slice none 0 0, .slice none 0 0] 29 := ((Loc.new w1' hs1.symm _ _).below hb2 (by simp; omega)).below hb3 (by omega)
  refine ⟨_, _, _, _, _, _, _, rfl, Nat.le_refl _, (hO.set 0 _).set 1 _, ⟨(((ho2.mono (by rw [size_alloc]; omega)).below hb3).uSet n2 _).uSet n2 _, ((ho3.mono (by omega)).uSet n3 _).uSet n3 _, fun q h1 h2 => ?_⟩, fun q hq => ?_, ?_⟩
  · have e1 := ho2.uHi q h1; have e2 := ho3.uLo q h2; omega
  · rcases hq with hq | hq
    · exact n2 q hq
    · exact n3 q hq
  · exact below_setne (below_setne (below_th (below_alth hw hb2) hb3) (Nat.le_refl _) _) (Nat.le_refl _) _
end
theorem OwnS.put2 {w : World} {lo : Nat} {b b' : Option Addr} {n d d' : Nat} {vs vs' : List SV} {F G : List (List Int)} (h : OwnS w lo b n d vs F b' n d' vs' G) {u : Nat} (hu : u < n) {g1 g2 : Nat} (e1 : (vs.getD u svO).1 = some ⟨g1, 0, none⟩) (e2 : (vs'.getD u svO).1 = some ⟨g2, 0, none⟩) (v : Nat) (x y : Int) :
    OwnS ((w.setCell ⟨g1, v, none⟩ (.int .i64 x)).setCell ⟨g2, v, none⟩ (.int .i64 y)) lo b n d vs (F.set u ((F.getD u []).set v x)) b' n d' vs' (G.set u ((G.getD u []).set v y)) := by
  have m1 : TblS b n vs g1 := .inr ⟨u, hu, e1⟩
  have m2 : TblS b' n vs' g2 := .inr ⟨u, hu, e2⟩
  exact ⟨(h.f.setrow u hu e1 v x).uSet (fun q hq e => by subst e; exact h.ap _ hq m2) _, (h.s.uSet (p := ⟨g1, v, none⟩) (fun q hq e => by subst e; exact h.ap _ m1 hq) _).setrow u hu e2 v y, h.ap⟩
theorem OwnT.spot {w : World} {lo : Nat} {b : Option Addr} {n d : Nat} {vs : List SV} {F : List (List Int)} (h : OwnT w lo b n d vs F) {u v : Nat} (hu : u < n) (hv : v < (F.getD u []).length) :
    ∃ gb g1 k1 c1 z, b = some ⟨gb, 0, none⟩ ∧ (vs.getD u svO).1 = some ⟨g1, 0, none⟩ ∧ v < k1 ∧ w.cell? ⟨gb, u, none⟩ = some (.slice (some ⟨g1, 0, none⟩) k1 c1) ∧ w.cell? ⟨g1, v, none⟩ = some z ∧ w.frozen? ⟨g1, v, none⟩ = false := by
  obtain ⟨gb, hb, _, hc, _⟩ := h.cells (by omega)
  have hr := h.row u hu
  have hk : v < (vs.getD u svO).2.1 := by have := hr.len; omega
  obtain ⟨g1, o1, e1, _⟩ := hr.row.at v hk
  rw [e1] at hr
  obtain ⟨rfl, h2, h3⟩ := hr.cells
  have := hc u hu
  rw [e1] at this
  exact ⟨gb, g1, _, _, _, hb, e1, hk, this, h2 v hk, h3 v⟩
set_option maxHeartbeats 8000000 in
theorem inverseSolution_any (a : Option Addr) (n c : Nat) (a' : Option Addr) (c' : Nat) (f g : List (List Int)) (w : World) (h1 : Tbl w a n f) (h2 : Tbl w a' n g) (hs : isSol f g = true) (hm : n ≤ 12) :
    Calls Tryz.prog 131 #[sAgg a n c a' n c'] w fun e w' => ∃ b d vs b' d' vs', e = .returned (.tuple #[sAgg b n d b' n d', .int .i64 0]) ∧ OwnS w' w.heap.size b n d vs (bfT n f g) b' n d' vs' (bgT n f g) ∧ Below w.heap.size w w' := by
  obtain ⟨hn1, hn12, sf, sg⟩ := isSol_sq hs
  have hcc := isSol_coll hs
  have hl := h1.len
  rw [← hl] at hn1 hn12 sf sg hcc
  have HS := Lib.hid hs; have HSF := Lib.hid sf; have HSG := Lib.hid sg; have HC := Lib.hid hcc
  clear hs sf sg hcc hl
  have hA := (Loc.new w rfl #[.slice a n c, .slice a' n c'] 29).alloc (.cells #[.slice none 0 0, .slice none 0 0] 29)
  have hR := Loc.new (w.alloc (.cells #[.slice a n c, .slice a' n c'] 29)) rfl #[.slice none 0 0, .slice none 0 0] 29
  rw [size_alloc] at hR
  have hB := below_al (below_al (Below.refl w.heap.size w) (.cells #[.slice a n c, .slice a' n c'] 29)) (.cells #[.slice none 0 0, .slice none 0 0] 29)
  go_enter Tryz.func131, Tryz.ntmps131
  go_wp2_with fail
  generalize (w.alloc (.cells #[.slice a n c, .slice a' n c'] 29)).alloc (.cells #[.slice none 0 0, .slice none 0 0] 29) = w0 at *
  refine (isSolution_any _ _ _ _ _ _ _ _ _ (h1.below hB) (h2.below hB) (by omega) (by omega)).mono ?_
  rintro e w1 ⟨rfl, hb1⟩
  rw [HS.out]
  have hA1 := hA.below hb1 hA.lt
  have hR1 := hR.below hb1 hR.lt
  have hB1 := below_th hB hb1
  have hs1 := hA1.lt
  have hs2 := hR1.lt
  clear hA hR hB hb1
  have lA := hA1.two
  go_upto_region 3 with fail
  go_cut [4] (fun s4 wx => InvMade w1 n f g s4 wx)
  case first =>
    have tok1 : True := trivial
    go_region_held3 (fun w' => w'.cell? ⟨w.heap.size, 0, none⟩ = some (.slice a n c) ∧ w'.cell? ⟨w.heap.size, 1, none⟩ = some (.slice a' n c'))
      (first | exact ⟨lM.1, lM.2.1⟩ | exact ⟨lD.1, lD.2.1⟩ | exact ⟨lC.1, lC.2.1⟩ | exact ⟨lB'.1, lB'.2.1⟩ | exact ⟨lB.1, lB.2.1⟩ | exact ⟨lA'.1, lA'.2.1⟩ | exact ⟨lA.1, lA.2.1⟩ | go_keep)
      (first
        | (go_at_call 142; have _t := tok1; refine (cloneTable_any _ _ _ f _ (h1.below (below_drewN hB1 1)) (by omega) (fun i hi => by rw [HSF.out.row hi]; omega)).mono ?_; rintro e w2 ⟨a2, c2, vs2, rfl, ho2, hb2⟩; clear _t tok1; have tok2 : True := trivial; have hq2 : Below w1.heap.size w1 w2 := (Below.drew (Below.refl _ _)).trans hb2; have lB := (hA1.below hq2 hA1.lt).two; have lB' := ((hA1.below hq2 hA1.lt).alloc zBox).two)
        | (go_at_call 142; have _t := tok1; refine (cloneTable_any _ _ _ f _ ((h1.below (below_drewN hB1 1)).alloc _) (by omega) (fun i hi => by rw [HSF.out.row hi]; omega)).mono ?_; rintro e w2 ⟨a2, c2, vs2, rfl, ho2, hb2⟩; clear _t tok1; have tok3 : True := trivial; have hO2 : Loc w2 w1.heap.size _ _ := (Loc.new (w1.drewN 1) rfl #[.slice none 0 0, .slice none 0 0] 29).below hb2 (by simp); have hq2 : Below w1.heap.size w1 w2 := below_alth (below_drewN (Below.refl w1.heap.size w1) 1) hb2; have lB := (hA1.below hq2 hA1.lt).two)
        | (go_at_call 142; have _t := tok2; refine (cloneTable_any _ _ _ g _ (h2.below (below_th hB1 hq2)) (by omega) (fun i hi => by rw [HSG.out.row hi]; omega)).mono ?_; rintro e w3 ⟨a3, c3, vs3, rfl, ho3, hb3⟩; clear _t tok2; have hq3 : Below w1.heap.size w1 w3 := below_th hq2 hb3; have lC := (hA1.below hq3 hA1.lt).two; have lD := ((hA1.below hq3 hA1.lt).alloc zBox).two; have lM := ((hA1.below hq3 hA1.lt).alloc (.cells #[.slice a2 n c2, .slice a3 n c3] 29)).two)
        | (go_at_call 142; have _t := tok2; refine (cloneTable_any _ _ _ g _ ((h2.below (below_th hB1 hq2)).alloc _) (by omega) (fun i hi => by rw [HSG.out.row hi]; omega)).mono ?_; rintro e w3 ⟨a3, c3, vs3, rfl, ho3, hb3⟩; clear _t tok2; have lO := ((Loc.new w2 rfl #[.slice none 0 0, .slice none 0 0] 29).below hb3 (by simp)).two; have hq3 : Below w1.heap.size w1 w3 := below_alth hq2 hb3; have lC := (hA1.below hq3 hA1.lt).two; have lM := (((hA1.below hq3 hA1.lt).setne (a := ⟨w2.heap.size, 0, none⟩) (by have := hq2.size; show w.heap.size ≠ w2.heap.size; omega) (.slice a2 n c2)).setne (a := ⟨w2.heap.size, 1, none⟩) (by have := hq2.size; show w.heap.size ≠ w2.heap.size; omega) (.slice a3 n c3)).two)
        | (go_at_call 142; have _t := tok3; refine (cloneTable_any _ _ _ g _ (h2.below (below_th hB1 hq2)) (by omega) (fun i hi => by rw [HSG.out.row hi]; omega)).mono ?_; rintro e w3 ⟨a3, c3, vs3, rfl, ho3, hb3⟩; clear _t tok3; have lO := (hO2.below hb3 hO2.lt).two; have hq3 : Below w1.heap.size w1 w3 := below_th hq2 hb3; have lC := (hA1.below hq3 hA1.lt).two; have lM := (((hA1.below hq3 hA1.lt).setne (a := ⟨w1.heap.size, 0, none⟩) (by have := hq2.size; show w.heap.size ≠ w1.heap.size; omega) (.slice a2 n c2)).setne (a := ⟨w1.heap.size, 1, none⟩) (by have := hq2.size; show w.heap.size ≠ w1.heap.size; omega) (.slice a3 n c3)).two))
    all_goals (go_wp2_with fail; go_meet; first | exact made_end ho2 hq2 ho3 hb3 | exact made_mid ho2 hq2 ho3 hb3 | exact made_first (below_drewN (Below.refl _ _) 1) rfl ho2 hb2 ho3 hb3)
  case rest =>
    obtain ⟨b4, b, d, vs, b', d', vs', rfl, hb4, hO, ho, hap, hq⟩ := hcut
    have hA2 := hA1.below hq hA1.lt
    have hR2 := hR1.below hq hR1.lt
    have hB2 := below_th hB1 hq
    have hlo : w.heap.size + 2 ≤ w1.heap.size := by omega
    have ho2 := ho.mono (lo' := w.heap.size + 2) hlo
    have hb42 : w.heap.size + 2 ≤ b4 := by omega
    clear hA1 hR1 hB1 hq ho hb4 lA
    obtain ⟨bf, of, A, O, C, rfl, gf⟩ := h1.grid HSF.out hn1
    obtain ⟨bg, og, A', O', C', rfl, gg⟩ := h2.grid HSG.out hn1
    have lA := hA2.two
    have hI : InvAt n f g (fun x _ => x < 0) f g := InvAt.start HSF.out.shape HSG.out.shape
    clear h1 h2
    go_wp2
    go_loopw [24] (fun i wr => ∃ (k : Nat) (F G : List (List Int)), k ≤ n ∧ i = .int .i64 k ∧ Hid (InvAt n f g (fun x _ => x < k) F G) ∧ OwnS wr (w.heap.size + 2) b n d vs F b' n d' vs' G ∧ Loc wr b4 #[.slice b n d, .slice b' n d'] 29 ∧ Loc wr w.heap.size #[.slice (some ⟨bf, of, none⟩) n c, .slice (some ⟨bg, og, none⟩) n c'] 29 ∧ Loc wr (w.heap.size + 1) #[.slice none 0 0, .slice none 0 0] 29 ∧ Below w.heap.size w wr) (fun i _ => n - (intOf i).toNat)
    case atStart => exact ⟨0, f, g, Nat.zero_le _, rfl, Lib.hid hI, ho2, hO, hA2, hR2, hB2⟩
    case round =>
      clear hI ho2 hO hA2 hR2 hB2 lA
      obtain ⟨k, F, G, hk, rfl, hI, ho, hO, hA, hR, hB⟩ := hrel
      have lA := hA.two
      have lO := hO.two
      by_cases hlt : k < n
      · have r1 := (gf.below hB).row k hlt
        clear lO
        go_wp2
        clear lA r1
        go_loopw [31] (fun i wr => ∃ (j : Nat) (F G : List (List Int)), j ≤ n ∧ i = .int .i64 j ∧ Hid (InvAt n f g (fun x y => x < k ∨ (x = k ∧ y < j)) F G) ∧ OwnS wr (w.heap.size + 2) b n d vs F b' n d' vs' G ∧ Loc wr b4 #[.slice b n d, .slice b' n d'] 29 ∧ Loc wr w.heap.size #[.slice (some ⟨bf, of, none⟩) n c, .slice (some ⟨bg, og, none⟩) n c'] 29 ∧ Loc wr (w.heap.size + 1) #[.slice none 0 0, .slice none 0 0] 29 ∧ Below w.heap.size w wr) (fun i _ => n - (intOf i).toNat)
        case atStart => exact ⟨0, F, G, Nat.zero_le _, rfl, Lib.hid hI.out.begin, ho, hO, hA, hR, hB⟩
        case round =>
          clear hI ho hO hA hR hB
          obtain ⟨j, F, G, hj, rfl, hI, ho, hO, hA, hR, hB⟩ := hrel
          have lA := hA.two
          have lO := hO.two
          by_cases hjt : j < n
          · have k1 := (gf.below hB).cell k j hlt hjt
            obtain ⟨r2, k2⟩ := (gg.below hB).look hlt hjt
            have hu := HSF.out.lt hlt hjt
            have hv := HSG.out.lt hlt hjt
            have hst := hI.out.step hn1 HSF.out HSG.out HC.out hlt hjt
            obtain ⟨gb, g1, m1, c1, z1, eb, e1, hm1, p1, p2, p3⟩ := ho.f.spot hu (v := tv g k j) (by rw [hI.out.1.2 _ hu]; exact hv)
            obtain ⟨gb', g2, m2, c2, z2, eb', e2, hm2, p4, p5, p6⟩ := ho.s.spot hu (v := tv g k j) (by rw [hI.out.2.1.2 _ hu]; exact hv)
            have hput := ho.put2 hu e1 e2 (tv g k j) (k : Int) (j : Int)
            have t1 : TblS b n vs g1 := .inr ⟨_, hu, e1⟩
            have t2 : TblS b' n vs' g2 := .inr ⟨_, hu, e2⟩
            have q1 : w.heap.size + 2 ≤ g1 := ho.f.uLo _ t1
            have q2 : w.heap.size + 2 ≤ g2 := ho.s.uLo _ t2
            have q3 : g1 ≠ b4 := hap _ (.inl t1)
            have q4 : g2 ≠ b4 := hap _ (.inr t2)
            have q5 : g1 ≠ g2 := fun e => by subst e; exact ho.ap _ t1 t2
            have HST := Lib.hid hst
            have HPUT := Lib.hid hput
            subst eb eb'
            clear hst hput t1 t2 e1 e2 ho
            generalize tv f k j = u at *
            generalize tv g k j = v at *
            have hne : (⟨g1, v, none⟩ : Addr) ≠ ⟨g2, v, none⟩ := fun e => by simp only [Addr.mk.injEq] at e; exact q5 e.1
            go_wp2
            go_region
            all_goals
              go_wp2
              go_roundw
              case rel =>
                refine ⟨j + 1, _, _, by omega, by go_num, HST, HPUT.out.drewN 1, ?_, ?_, ?_, ?_⟩
                · exact ((hO.setne (a := ⟨g1, v, none⟩) (fun e => q3 e.symm) _).setne (a := ⟨g2, v, none⟩) (fun e => q4 e.symm) _).drewN 1
                · exact ((hA.setne (a := ⟨g1, v, none⟩) (by show w.heap.size ≠ g1; omega) _).setne (a := ⟨g2, v, none⟩) (by show w.heap.size ≠ g2; omega) _).drewN 1
                · exact ((hR.setne (a := ⟨g1, v, none⟩) (by show w.heap.size + 1 ≠ g1; omega) _).setne (a := ⟨g2, v, none⟩) (by show w.heap.size + 1 ≠ g2; omega) _).drewN 1
                · exact below_drewN (below_setne (below_setne (a := ⟨g1, v, none⟩) hB (by show w.heap.size ≤ g1; omega) _) (a := ⟨g2, v, none⟩) (by show w.heap.size ≤ g2; omega) _) 1
              case measure => simp [intOf]; omega
          · obtain rfl : j = n := by omega
            go_wp2
            go_roundw
            case rel => exact ⟨k + 1, F, G, by omega, by go_num, Lib.hid hI.out.finish, ho, hO, hA, hR, hB⟩
            case measure => simp [intOf]; omega
      · obtain rfl : k = n := by omega
        obtain ⟨rfl, rfl⟩ := hI.out.done_ hn1 HSF.out HSG.out HC.out
        have lR := hR.two
        go_wp2
        refine bodyPost_ret (v := .tuple #[sAgg b k d b' k d', .int .i64 0]) (by simp [results, Tryz.results131, go_sem, lR]) rfl ⟨b, d, vs, b', d', vs', rfl, ?_, ?_⟩
        · have n1 : ∀ q, TblS b k vs q → q ≠ w.heap.size + 1 := fun q hq => by have := ho.f.uLo q hq; omega
          have n2 : ∀ q, TblS b' k vs' q → q ≠ w.heap.size + 1 := fun q hq => by have := ho.s.uLo q hq; omega
          exact ⟨((ho.f.uSet n1 _).uSet n1 _).mono (by omega), ((ho.s.uSet n2 _).uSet n2 _).mono (by omega), ho.ap⟩
        · exact below_setne (below_setne hB (by show w.heap.size ≤ w.heap.size + 1; omega) _) (by show w.heap.size ≤ w.heap.size + 1; omega) _
set_option maxHeartbeats 2000000 in
theorem moved_any (a : Option Addr) (n c : Nat) (a' : Option Addr) (c' : Nat) (f g : List (List Int)) (al : Option Addr) (m cl : Nat) (l : List Int) (i : Nat) (w : World) (h1 : Tbl w a n f) (h2 : Tbl w a' n g) (hn1 : 1 ≤ n) (hf : Sq n f) (hg : Sq n g)
    (hl : Row w al m l) (hm : m ≤ 1000000) (hi : i + 1 < m) (hle : Less n l) :
    Calls Tryz.prog 143 #[sAgg a n c a' n c', .slice al m cl, .int .i64 i] w fun e w' => ∃ ao co, e = .returned (.slice ao m co) ∧ Own w' w.heap.size ao m co (doF f g i l) ∧ Below w.heap.size w w' := by
  obtain ⟨bf, of, A, O, C, rfl, Gf⟩ := h1.grid hf hn1
  obtain ⟨bg, og, A', O', C', rfl, Gg⟩ := h2.grid hg hn1
  clear h1 h2
  have hll := hl.len
  obtain ⟨x, hx, ex⟩ := hle i (by omega)
  obtain ⟨y, hy, ey⟩ := hle (i + 1) (by omega)
  have HDO : Hid (doF f g i l = (l.set i ((tv f x y : Nat) : Int)).set (i + 1) ((tv g x y : Nat) : Int)) := Lib.hid (by unfold doF; rw [ex, ey]; simp)
  have HX := Lib.hid ex; have HY := Lib.hid ey
  clear ex ey hll hle
  have hA := Loc.new w rfl #[.slice (some ⟨bf, of, none⟩) n c, .slice (some ⟨bg, og, none⟩) n c'] 29
  have gf := Gf.alloc (.cells #[.slice (some ⟨bf, of, none⟩) n c, .slice (some ⟨bg, og, none⟩) n c'] 29)
  have gg := Gg.alloc (.cells #[.slice (some ⟨bf, of, none⟩) n c, .slice (some ⟨bg, og, none⟩) n c'] 29)
  have hl0 := hl.alloc (.cells #[.slice (some ⟨bf, of, none⟩) n c, .slice (some ⟨bg, og, none⟩) n c'] 29)
  have hB := below_al (Below.refl w.heap.size w) (.cells #[.slice (some ⟨bf, of, none⟩) n c, .slice (some ⟨bg, og, none⟩) n c'] 29)
  clear Gf Gg hl
  have hwi : IntKind.i64.wrap ((i : Int) + 1) = ((i + 1 : Nat) : Int) := (IntWalk.i64_in _ (by omega)).trans (by simp)
  go_enter Tryz.func143, Tryz.ntmps143
  go_wp2_with fail
  refine (clone_any _ _ _ l _ hl0 (by omega)).mono ?_
  rintro e w1 ⟨ao, co, rfl, ho, hb1⟩
  have ho1 : Own w1 (w.heap.size + 1) ao m co l := ho.mono (by simp)
  clear ho
  obtain ⟨go, oo, rfl, _⟩ := ho1.row.at i (by omega)
  obtain ⟨rfl, hc, hfr⟩ := ho1.cells
  have hgo := ho1.lt
  obtain ⟨bl, ol, e1, hbl, hall⟩ := hl0.all (by omega)
  subst e1
  have lA1 := (hA.below hb1 (by simp)).two
  obtain ⟨r1, k1⟩ := (gf.below hb1).look hx hy
  obtain ⟨r2, k2⟩ := (gg.below hb1).look hx hy
  have kx := (hb1.cell (p := ⟨bl, ol + i, none⟩) hbl).trans (hall i (by omega))
  have ky := (hb1.cell (p := ⟨bl, ol + (i + 1), none⟩) hbl).trans (hall (i + 1) (by omega))
  rw [HX.out] at kx; rw [HY.out] at ky
  have hci := hc i (by omega)
  have hfi := hfr i
  have hci1 := hc (i + 1) (by omega)
  have hfi1 := hfr (i + 1)
  have hB1 := below_th hB hb1
  generalize hF : tv f x y = F at *
  generalize hG : tv g x y = G at *
  have HF := Lib.hid hF; have HG := Lib.hid hG; clear hF hG
  clear hc hfr hall hb1 hB gf gg hA hl0
  go_wp2
  go_quiet (fail)
  go_wp2
  go_region
  all_goals
    go_wp2
    go_ret
    refine ⟨_, _, rfl, ?_, ?_⟩
    · rw [HDO.out]
      exact (((ho1.set i _).set (i + 1) _).drewN _).mono (by omega)
    · exact below_drewN (below_setne (below_setne (a := ⟨go, i, none⟩) hB1 (by have := hgo.1; show w.heap.size ≤ go; omega) _) (a := ⟨go, i + 1, none⟩) (by have := hgo.1; show w.heap.size ≤ go; omega) _) _
abbrev aAgg (a : Option Addr) (n c : Nat) (a' : Option Addr) (c' : Nat) (b : Option Addr) (d : Nat) (b' : Option Addr) (d' : Nat) : Value := .agg #[.slice a n c, .slice a' n c', .slice b n d, .slice b' n d']
theorem Loc.four {w : World} {b : Nat} {x y z u : Value} {t : TypeId} (h : Loc w b #[x, y, z, u] t) : w.cell? ⟨b, 0, none⟩ = some x ∧ w.cell? ⟨b, 1, none⟩ = some y ∧ w.cell? ⟨b, 2, none⟩ = some z ∧ w.cell? ⟨b, 3, none⟩ = some u ∧ w.frozen? ⟨b, 0, none⟩ = false ∧ w.frozen? ⟨b, 1, none⟩ = false ∧ w.frozen? ⟨b, 2, none⟩ = false ∧ w.frozen? ⟨b, 3, none⟩ = false :=
  ⟨h.cell 0 rfl, h.cell 1 rfl, h.cell 2 rfl, h.cell 3 rfl, h.free 0, h.free 1, h.free 2, h.free 3⟩
set_option maxHeartbeats 2000000 in
theorem newAction_any (a : Option Addr) (n c : Nat) (a' : Option Addr) (c' : Nat) (f g : List (List Int)) (w : World) (h1 : Tbl w a n f) (h2 : Tbl w a' n g) (hs : isSol f g = true) (hm : n ≤ 12) :
    Calls Tryz.prog 115 #[sAgg a n c a' n c'] w fun e w' => ∃ b d vs b' d' vs', e = .returned (aAgg a n c a' c' b d b' d') ∧ OwnS w' w.heap.size b n d vs (bfT n f g) b' n d' vs' (bgT n f g) ∧ Below w.heap.size w w' := by
  have hA := (Loc.new w rfl #[.slice a n c, .slice a' n c'] 29).alloc (.cells #[.slice none 0 0, .slice none 0 0, .slice none 0 0, .slice none 0 0] 119)
  have hR := Loc.new (w.alloc (.cells #[.slice a n c, .slice a' n c'] 29)) rfl #[.slice none 0 0, .slice none 0 0, .slice none 0 0, .slice none 0 0] 119
  rw [size_alloc] at hR
  have hB := below_al (below_al (Below.refl w.heap.size w) (.cells #[.slice a n c, .slice a' n c'] 29)) (.cells #[.slice none 0 0, .slice none 0 0, .slice none 0 0, .slice none 0 0] 119)
  have HS := Lib.hid hs; clear hs
  go_enter Tryz.func115, Tryz.ntmps115
  go_wp2_with fail
  generalize (w.alloc (.cells #[.slice a n c, .slice a' n c'] 29)).alloc (.cells #[.slice none 0 0, .slice none 0 0, .slice none 0 0, .slice none 0 0] 119) = w0 at *
  refine (inverseSolution_any _ _ _ _ _ f g _ (h1.below hB) (h2.below hB) HS.out hm).mono ?_
  rintro e w1 ⟨b, d, vs, b', d', vs', rfl, ho, hb1⟩
  have lA := (hA.below hb1 hA.lt).two
  have hR1 := hR.below hb1 hR.lt
  have lR := hR1.four
  have lR2 := (hR1.alloc (.cells #[.slice b n d, .slice b' n d'] 29)).four
  have lA2 := ((hA.below hb1 hA.lt).alloc (.cells #[.slice b n d, .slice b' n d'] 29)).two
  have hs1 := hb1.size
  have hs2 := hR.lt
  go_wp2
  have n1 : ∀ q, TblS b n vs q → q ≠ w.heap.size + 1 := fun q hq => by have := ho.f.uLo q hq; omega
  have n2 : ∀ q, TblS b' n vs' q → q ≠ w.heap.size + 1 := fun q hq => by have := ho.s.uLo q hq; omega
  have hs0 := hB.size
  refine bodyPost_ret (v := aAgg a n c a' c' b d b' d') (by simp [results, Tryz.results115, go_sem, lR, lR2]) rfl ⟨b, d, vs, b', d', vs', rfl, ?_, ?_⟩
  · exact ⟨(((((ho.f.alloc _).uSet n1 _).uSet n1 _).uSet n1 _).uSet n1 _).mono hs0, (((((ho.s.alloc _).uSet n2 _).uSet n2 _).uSet n2 _).uSet n2 _).mono hs0, ho.ap⟩
  · exact below_setne (below_setne (below_setne (below_setne (below_al (below_th hB hb1) _) (by show w.heap.size ≤ w.heap.size + 1; omega) _) (by show w.heap.size ≤ w.heap.size + 1; omega) _) (by show w.heap.size ≤ w.heap.size + 1; omega) _) (by show w.heap.size ≤ w.heap.size + 1; omega) _
set_option maxHeartbeats 2000000 in
theorem step_any (a : Option Addr) (n c : Nat) (a' : Option Addr) (c' : Nat) (b : Option Addr) (d : Nat) (b' : Option Addr) (d' : Nat) (f g : List (List Int)) (al : Option Addr) (m cl : Nat) (l : List Int) (x : Int) (w : World)
    (h1 : Tbl w a n f) (h2 : Tbl w a' n g) (h3 : Tbl w b n (bfT n f g)) (h4 : Tbl w b' n (bgT n f g)) (hn1 : 1 ≤ n) (hf : Sq n f) (hg : Sq n g) (hc : collOk n f g = true)
    (hl : Row w al m l) (hm : m ≤ 1000000) (hx1 : -1000 ≤ x) (hx2 : x ≤ 1000) (hp0 : 0 ≤ plc x) (hp : plc x + 1 < m) (hle : Less n l) :
    Calls Tryz.prog 133 #[aAgg a n c a' c' b d b' d', .int .i64 x, .slice al m cl] w fun e w' => ∃ ao co, e = .returned (.slice ao m co) ∧ Own w' w.heap.size ao m co (stepL n f g x l) ∧ Below w.heap.size w w' := by
  obtain ⟨k, hk⟩ : ∃ k : Nat, plc x = k := ⟨(plc x).toNat, by omega⟩
  have hkm : k + 1 < m := by omega
  have HK := Lib.hid hk
  have HSF := Lib.hid hf; have HSG := Lib.hid hg; have HC := Lib.hid hc
  have hA := Loc.new w rfl #[.slice a n c, .slice a' n c', .slice b n d, .slice b' n d'] 119
  have lA := hA.four
  have hB := below_al (Below.refl w.heap.size w) (.cells #[.slice a n c, .slice a' n c', .slice b n d, .slice b' n d'] 119)
  by_cases hpos : 0 < x
  · have hst : stepL n f g x l = doF f g k l := by unfold stepL; rw [if_pos hpos, hk]; rfl
    have HST := Lib.hid hst
    clear hst hk hp hp0 hf hg hc
    go_enter Tryz.func133, Tryz.ntmps133
    go_wp2
    go_region_held3 (fun w' => (w'.cell? ⟨w.heap.size, 0, none⟩ = some (.slice a n c) ∧ w'.cell? ⟨w.heap.size, 1, none⟩ = some (.slice a' n c')) ∧ w'.cell? ⟨w.heap.size, 2, none⟩ = some (.slice b n d) ∧ w'.cell? ⟨w.heap.size, 3, none⟩ = some (.slice b' n d'))
      (first | exact ⟨⟨lA2.1, lA2.2.1⟩, lA2.2.2.1, lA2.2.2.2.1⟩ | exact ⟨⟨lA.1, lA.2.1⟩, lA.2.2.1, lA.2.2.2.1⟩)
      (first
        | (go_at_call 144; refine (placeOf_any _ _ hx1 hx2).mono ?_; rintro e w1 ⟨rfl, rfl⟩; rw [HK.out])
        | (go_at_call 143; refine (moved_any _ _ _ _ _ f g _ _ _ l k _ ((h1.alloc _).drewN 1) ((h2.alloc _).drewN 1) hn1 HSF.out HSG.out ((hl.alloc _).drewN 1) hm hkm hle).mono ?_; rintro e w2 ⟨ao, co, rfl, ho, hb2⟩; have hB2 := below_th (below_drewN hB 1) hb2; have lA2 := ((hA.drewN 1).below hb2 (by simp)).four))
    all_goals
      go_wp2
      go_ret
      exact ⟨_, _, rfl, by rw [HST.out]; exact ho.mono (by simp), hB2⟩
  · have hst : stepL n f g x l = doF (bfT n f g) (bgT n f g) k l := by unfold stepL; rw [if_neg hpos, hk]; rfl
    have HST := Lib.hid hst
    have s3 := bf_sq hn1 hf hg hc
    have s4 : Sq n (bgT n f g) := bg_sq hn1
    have HS3 := Lib.hid s3; have HS4 := Lib.hid s4
    clear hst hk hp hp0 hf hg hc s3 s4
    go_enter Tryz.func133, Tryz.ntmps133
    go_wp2
    go_region_held3 (fun w' => (w'.cell? ⟨w.heap.size, 0, none⟩ = some (.slice a n c) ∧ w'.cell? ⟨w.heap.size, 1, none⟩ = some (.slice a' n c')) ∧ w'.cell? ⟨w.heap.size, 2, none⟩ = some (.slice b n d) ∧ w'.cell? ⟨w.heap.size, 3, none⟩ = some (.slice b' n d'))
      (first | exact ⟨⟨lA2.1, lA2.2.1⟩, lA2.2.2.1, lA2.2.2.2.1⟩ | exact ⟨⟨lA.1, lA.2.1⟩, lA.2.2.1, lA.2.2.2.1⟩)
      (first
        | (go_at_call 144; refine (placeOf_any _ _ hx1 hx2).mono ?_; rintro e w1 ⟨rfl, rfl⟩; rw [HK.out])
        | (go_at_call 143; refine (moved_any _ _ _ _ _ (bfT n f g) (bgT n f g) _ _ _ l k _ ((h3.alloc _).drewN 1) ((h4.alloc _).drewN 1) hn1 HS3.out HS4.out ((hl.alloc _).drewN 1) hm hkm hle).mono ?_; rintro e w2 ⟨ao, co, rfl, ho, hb2⟩; have hB2 := below_th (below_drewN hB 1) hb2; have lA2 := ((hA.drewN 1).below hb2 (by simp)).four))
    all_goals
      go_wp2
      go_ret
      exact ⟨_, _, rfl, by rw [HST.out]; exact ho.mono (by simp), hB2⟩
set_option maxHeartbeats 2000000 in
theorem lead_any (a : Option Addr) (n c : Nat) (a' : Option Addr) (c' : Nat) (b : Option Addr) (d : Nat) (b' : Option Addr) (d' : Nat) (f g : List (List Int)) (s : Nat) (ab : Option Addr) (nb cb : Nat) (xs : List Int) (al : Option Addr) (cl : Nat) (l : List Int) (w : World)
    (h1 : Tbl w a n f) (h2 : Tbl w a' n g) (h3 : Tbl w b n (bfT n f g)) (h4 : Tbl w b' n (bgT n f g)) (hn1 : 1 ≤ n) (hf : Sq n f) (hg : Sq n g) (hc : collOk n f g = true)
    (hr : Row w ab nb xs) (hb : isBr s xs = true) (hl : Row w al s l) (hle : Less n l) :
    Calls Tryz.prog 117 #[aAgg a n c a' c' b d b' d', bAgg s ab nb cb, .slice al s cl] w fun e w' => ∃ ao co, e = .returned (.slice ao s co) ∧ Own w' w.heap.size ao s co (actL n f g xs l) ∧ Below w.heap.size w w' := by
  obtain ⟨h26, h30, hlet⟩ := isBr_let hb
  have hll := hl.len
  have hrl := hr.len
  have hpl : ∀ x ∈ xs, 0 ≤ plc x ∧ plc x + 1 < s := fun x hx => by
    have := hlet x hx
    unfold plc; split <;> omega
  have hlt2 : ∀ k, Less n (actL n f g (xs.take k) l) := fun k => hle.act hn1 hf hg hc _ (fun x hx => by have := hpl x (List.mem_of_mem_take hx); omega)
  have hn30 : nb ≤ 30 := by omega
  have HLet := Lib.hid hlet; have HP := Lib.hid hpl; have HLT := Lib.hid hlt2; have HRL := Lib.hid hrl
  have HSF := Lib.hid hf; have HSG := Lib.hid hg; have HC := Lib.hid hc
  clear hlet hpl hlt2 hb hf hg hc hrl hll
  have hA := (Loc.new w rfl #[.slice a n c, .slice a' n c', .slice b n d, .slice b' n d'] 119).alloc (.cells #[.int .i64 s, .slice ab nb cb] 56)
  have hE := Loc.new (w.alloc (.cells #[.slice a n c, .slice a' n c', .slice b n d, .slice b' n d'] 119)) rfl #[.int .i64 s, .slice ab nb cb] 56
  rw [size_alloc] at hE
  have hB := below_al (below_al (Below.refl w.heap.size w) (.cells #[.slice a n c, .slice a' n c', .slice b n d, .slice b' n d'] 119)) (.cells #[.int .i64 s, .slice ab nb cb] 56)
  have hl0 := (hl.alloc (.cells #[.slice a n c, .slice a' n c', .slice b n d, .slice b' n d'] 119)).alloc (.cells #[.int .i64 s, .slice ab nb cb] 56)
  go_enter Tryz.func117, Tryz.ntmps117
  go_wp2_with fail
  generalize (w.alloc (.cells #[.slice a n c, .slice a' n c', .slice b n d, .slice b' n d'] 119)).alloc (.cells #[.int .i64 s, .slice ab nb cb] 56) = w0 at *
  refine (clone_any _ _ _ l _ hl0 (by omega)).mono ?_
  rintro e w1 ⟨ao, co, rfl, ho, hb1⟩
  have hA1 := hA.below hb1 hA.lt
  have hE1 := hE.below hb1 hE.lt
  have hB1 := below_th hB hb1
  have ho1 := ho.mono hB.size
  have lE := hE1.two
  clear hA hE hB hb1 ho hl0 hl
  go_wp2
  go_loopw [2, 14] (fun t i wr => ∃ (k : Nat) (ao : Option Addr) (co : Nat), k ≤ nb ∧ i = .int .i64 k ∧ t = .slice ao s co ∧ Own wr w.heap.size ao s co (actL n f g (xs.take k) l) ∧ Loc wr w.heap.size #[.slice a n c, .slice a' n c', .slice b n d, .slice b' n d'] 119 ∧ Below w.heap.size w wr) (fun _ i _ => nb - (intOf i).toNat)
  case atStart => exact ⟨0, _, _, Nat.zero_le _, rfl, rfl, by simpa [actL] using ho1, hA1, hB1⟩
  case round =>
    clear ho1 hA1 hB1 hE1 lE
    obtain ⟨k, ao, co, hk, rfl, rfl, ho, hA, hB⟩ := hrel
    have lA := hA.four
    by_cases hlt : k < nb
    · have hr := hr.below hB
      obtain ⟨bb, off, rfl, g1⟩ := hr.at k hlt
      have hx : k < xs.length := by have := HRL.out; omega
      rw [getD_eq_at hx] at g1
      have hle2 := HLet.out xs[k] (List.getElem_mem hx)
      have hpl2 := HP.out xs[k] (List.getElem_mem hx)
      have HS : Hid (actL n f g (xs.take (k + 1)) l = stepL n f g xs[k] (actL n f g (xs.take k) l)) := Lib.hid (actL_take n f g xs l k hx)
      have b1 : -1000 ≤ xs[k] := by omega
      have b2 : xs[k] ≤ 1000 := by omega
      obtain ⟨p0, p1⟩ := hpl2
      clear hle2
      have T1 := h1.below hB; have T2 := h2.below hB; have T3 := h3.below hB; have T4 := h4.below hB
      go_wp2_with fail
      refine (step_any _ _ _ _ _ _ _ _ _ f g _ _ _ _ _ _ T1 T2 T3 T4 hn1 HSF.out HSG.out HC.out ho.row (by omega) b1 b2 p0 p1 (HLT.out k)).mono ?_
      rintro e w2 ⟨ao2, co2, rfl, ho2, hb2⟩
      have hA2 := hA.below hb2 hA.lt
      have hB2 := below_th hB hb2
      go_wp2
      go_roundw
      case rel => exact ⟨k + 1, _, _, by omega, by go_num, rfl, by rw [HS.out]; exact ho2.mono hB.size, hA2, hB2⟩
      case measure => simp [intOf]; omega
    · obtain rfl : k = nb := by omega
      rw [List.take_of_length_le (by have := HRL.out; omega)] at ho
      go_wp2
      go_ret
      exact ⟨_, _, rfl, ho, hB⟩
set_option maxHeartbeats 400000 in
theorem sEqual_any (a1 a2 : Option Addr) (n1 n2 c1 c2 : Nat) (xs ys : List Int) (w : World) (h1 : Row w a1 n1 xs) (h2 : Row w a2 n2 ys) (hm : n1 ≤ 9223372036854775807) :
    Calls Tryz.prog 79 #[.slice a1 n1 c1, .slice a2 n2 c2] w fun e w' => e = .returned (.bool (decide (xs = ys))) ∧ ∃ n, w' = w.drewN n := by
  have hl1 := h1.len
  have hl2 := h2.len
  by_cases hl : n1 = n2
  · subst hl
    have HL := Lib.hid hl1; have HL2 := Lib.hid hl2; clear hl1 hl2
    have hb : ((n1 : Int) != (n1 : Int)) = false := by simp
    go_enter Tryz.func79, Tryz.ntmps79
    go_wp2
    clear hb
    go_loopw [13] (fun i wr => ∃ k : Nat, k ≤ n1 ∧ i = .int .i64 k ∧ xs.take k = ys.take k ∧ ∃ n, wr = w.drewN n) (fun i _ => n1 - (intOf i).toNat)
    case atStart => exact ⟨0, Nat.zero_le _, rfl, by simp, 0, rfl⟩
    case round =>
      obtain ⟨k, hk, rfl, ht, n, rfl⟩ := hrel
      have HT := Lib.hid ht; clear ht
      by_cases hlt : k < n1
      · obtain ⟨b1, o1, rfl, g1⟩ := h1.at k hlt
        obtain ⟨b2, o2, rfl, g2⟩ := h2.at k hlt
        have hx : k < xs.length := by have := HL.out; omega
        have hy : k < ys.length := by have := HL2.out; omega
        clear h1 h2
        go_wp2
        go_quiet (fail)
        go_wp2
        · go_ret
          refine ⟨ret_bool ?_, n + nq, by rw [World.drewN_drewN]⟩
          rename_i hne
          simp only [Bool.false_eq, decide_eq_false_iff_not]
          rintro rfl
          simp at hne
        · go_roundw
          case rel =>
            rename_i hne
            refine ⟨k + 1, by omega, by go_num, take_eq_succ hx hy HT.out (by simpa using hne), n + nq, rfl⟩
          case measure => simp [intOf]; omega
      · obtain rfl : k = n1 := by omega
        go_wp2
        go_ret
        refine ⟨ret_bool ?_, _, rfl⟩
        have := HT.out
        rw [List.take_of_length_le (by have := HL.out; omega), List.take_of_length_le (by have := HL2.out; omega)] at this
        simp [this]
  · have hb : ((n1 : Int) != (n2 : Int)) = true := by simp; omega
    have hne : ¬ xs = ys := by rintro rfl; omega
    clear hl1 hl2
    go_enter Tryz.func79, Tryz.ntmps79
    go_wp2
    go_ret
    exact ⟨ret_bool (by simp [hne]), 0, rfl⟩
theorem sEqual_b (a1 a2 : Option Addr) (n1 n2 c1 c2 : Nat) (xs ys : List Int) (w : World) (h1 : Row w a1 n1 xs) (h2 : Row w a2 n2 ys) (hm : n1 ≤ 9223372036854775807) (b : Bool) (hb : decide (xs = ys) = b) :
    Calls Tryz.prog 79 #[.slice a1 n1 c1, .slice a2 n2 c2] w fun e w' => e = .returned (.bool b) ∧ Below w.heap.size w w' :=
  (sEqual_any a1 a2 n1 n2 c1 c2 xs ys w h1 h2 hm).mono fun e w' ⟨he, m, hw⟩ => ⟨he.trans (ret_bool hb), by rw [hw]; exact below_drewN (Below.refl _ _) m⟩
end Go.Proofs.YtiliimkfobfbnaaGreat
namespace Go.Proofs.YtiliimkfobfbnaaGreat
set_option maxRecDepth 100000
set_option linter.unusedVariables false
set_option linter.unusedSimpArgs false
theorem isBr_of {s : Int} {xs : List Int} (h : 2 ≤ s ∧ s ≤ 6) (h2 : xs.length ≤ 30) (h3 : ∀ x ∈ xs, x ≠ 0 ∧ 1 - s ≤ x ∧ x ≤ s - 1) : isBr s xs = true := by
  have e1 : Go.RowKit.wrap64 (1 - s) = 1 - s := IntWalk.wrap64_in _ ⟨by omega, by omega⟩
  have e2 : Go.RowKit.wrap64 (s - 1) = s - 1 := IntWalk.wrap64_in _ ⟨by omega, by omega⟩
  simp only [isBr, Bool.and_eq_true, decide_eq_true_eq, List.all_eq_true]
  refine ⟨⟨⟨h.1, h.2⟩, h2⟩, fun x hx => ?_⟩
  have := h3 x hx
  simp only [isLet, e1, e2, Bool.and_eq_true, decide_eq_true_eq]
  exact ⟨this.1, this.2.1, this.2.2⟩
theorem br_plc {s : Nat} {xs : List Int} (h : isBr s xs = true) : ∀ x ∈ xs, x ≠ 0 ∧ (plc x).toNat + 1 < s := fun x hx => by
  have := (isBr_let h).2.2 x hx
  refine ⟨this.1, ?_⟩
  unfold plc
  split <;> omega
end Go.Proofs.YtiliimkfobfbnaaGreat
namespace Go.Proofs.YtiliimkfobfbnaaGreat
set_option maxRecDepth 100000
set_option linter.unusedVariables false
set_option linter.unusedSimpArgs false
open Go.RowKit
set_option maxHeartbeats 1000000 in
theorem tupleOf_any (n k N : Nat) (w : World) (hn1 : 1 ≤ n) (hn : n ≤ 1000000) (hk : k ≤ 1000000) (hN : N ≤ 1000000000000) :
    Calls Tryz.prog 116 #[.int .i64 n, .int .i64 k, .int .i64 N] w fun e w' => ∃ a c, e = .returned (.slice a k c) ∧ Own w' w.heap.size a k c (digL n k N) ∧ Below w.heap.size w w' := by
  go_enter Tryz.func116, Tryz.ntmps116
  go_wp2_with (at_make; refine make1 rfl rfl rfl rfl (by omega) ?_; intro w1 ho hs hb)
  have hn0 : (n : Int) ≠ 0 := by omega
  go_loopw [2, 8] (fun q i wr => ∃ j : Nat, j ≤ k ∧ i = .int .i64 ((k : Int) - 1 - j) ∧ q = .int .i64 ((N / n ^ j : Nat) : Int) ∧ Own wr w.heap.size (some ⟨w.heap.size, 0, none⟩) k k (digP n k N j) ∧ Below w.heap.size w wr) (fun _ i _ => (intOf i + 1).toNat)
  case atStart => exact ⟨0, Nat.zero_le _, by go_num, by simp, by rw [digP_zero]; exact ho, hb⟩
  case round =>
    clear ho hb
    obtain ⟨j, hj, rfl, rfl, ho, hb⟩ := hrel
    by_cases hlt : j < k
    · have hq : N / n ^ j ≤ N := Nat.div_le_self _ _
      have hst := digP_step n k N j hlt
      have hdv := div_pow_succ n j N
      obtain ⟨Q, hQ⟩ : ∃ Q, Q = N / n ^ j := ⟨_, rfl⟩
      rw [← hQ] at hq hst hdv ⊢
      have Qr : ((Q : Int)).tmod (n : Int) = ((Q % n : Nat) : Int) := by rw [Int.tmod_eq_emod_of_nonneg (by omega)]; simp
      have Qd : ((Q : Int)).tdiv (n : Int) = ((Q / n : Nat) : Int) := by rw [Int.tdiv_eq_ediv_of_nonneg (by omega)]; simp
      have b1 : Q % n ≤ Q := Nat.mod_le _ _
      have b2 : Q / n ≤ Q := Nat.div_le_self _ _
      have HST := Lib.hid hst; have HDV := Lib.hid hdv
      clear hst hdv hQ
      obtain ⟨i, hi⟩ : ∃ i : Nat, i = k - 1 - j := ⟨_, rfl⟩
      have hii : (k : Int) - 1 - (j : Int) = (i : Int) := by omega
      have hik : i < k := by omega
      rw [hii]
      have HI := Lib.hid hi; have HII := Lib.hid hii
      clear hi hii
      generalize hR : Q % n = R at *
      generalize hD : Q / n = D at *
      have HR := Lib.hid hR; have HD := Lib.hid hD; clear hR hD
      have Wr : IntKind.i64.wrap (R : Int) = (R : Int) := IntWalk.i64_in _ (by omega)
      have Wd : IntKind.i64.wrap (D : Int) = (D : Int) := IntWalk.i64_in _ (by omega)
      have Wi : IntKind.i64.wrap ((i : Int) - 1) = (i : Int) - 1 := IntWalk.i64_in _ (by omega)
      obtain ⟨_, hc, hf⟩ := ho.cells
      have hc1 := hc i hik
      have hf1 := hf i
      clear hc hf
      go_wp2
      go_roundw
      case rel =>
        refine ⟨j + 1, by omega, ?_, by rw [← HDV.out], ?_, hb.setCell (by simp) _⟩
        · have := HII.out
          congr 1
          omega
        · rw [← HST.out, ← HI.out]
          exact ho.set i _
      case measure => first | (simp [intOf]; done) | (simp [intOf]; omega)
    · obtain rfl : j = k := by omega
      have e1 : (j : Int) - 1 - (j : Int) = -1 := by omega
      rw [e1]
      rw [digP_full] at ho
      go_wp2
      go_ret
      exact ⟨_, _, rfl, ho, hb⟩
end Go.Proofs.YtiliimkfobfbnaaGreat
