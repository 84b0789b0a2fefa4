/-
  Walks and plain laws of this seat, some texts in one.
  No condition but bounds on lengths.
-/
import Derived.Test.YtaddclaadbjnlaaGreatPs13
import Derived.Test.YtaddclaadbjnlaaGreatPs19
import Derived.Test.YtaddclaadbjnlaaGreatPs4
import Derived.Deep.RegionHeld3
import Derived.Deep.DeepCutAuto
import Derived.Test.YtaddclaadbjnlaaGreatPs14
import Derived.IntWalk
import Derived.Test.YtaddclaadbjnlaaGreatPs2
import Derived.Test.YtaddclaadbjnlaaGreatPs1
import Derived.Test.YtaddclaadbjnlaaGreatPs5
import Derived.Test.YtaddclaadbjnlaaGreatPs3
namespace Go.Proofs.YtaddclaadbjnlaaGreat
set_option maxRecDepth 100000
set_option linter.unusedVariables false
set_option linter.unusedSimpArgs false
open Go.RowKit
set_option maxHeartbeats 1000000 in
theorem isPairMap_any (a : Option Addr) (n c : Nat) (a' : Option Addr) (n' c' : Nat) (f g : List (List Int)) (w : World) (h1 : Tbl w a n f) (h2 : Tbl w a' n' g) (hm1 : n ≤ 9223372036854775807) (hm2 : n' ≤ 9223372036854775807) :
    Calls Tryz.prog 68 #[sAgg a n c a' n' c'] w fun e w' => e = .returned (.bool (isPm f g)) ∧ Below w.heap.size w w' := by
  have hl1 := h1.len
  have hl2 := h2.len
  have HL : Hid (decide (f.length = g.length) = decide (n = n')) := Lib.hid (by rw [← hl1, ← hl2])
  clear hl1 hl2
  have hA := Loc.new w rfl #[.slice a n c, .slice a' n' c'] 53
  have lA := hA.two
  cases hf : isTab f with
  | false =>
    have HF := Lib.hid hf; clear hf
    go_enter Tryz.func68, Tryz.ntmps68
    go_wp2_with fail
    refine (isTable_any _ _ _ _ _ (h1.alloc _) hm1).mono ?_
    rintro e w1 ⟨rfl, hb1⟩
    rw [HF.out]
    go_wp2
    go_ret
    exact ⟨ret_bool (by unfold isPm; rw [HF.out]; rfl), below_alth (Below.refl _ _) hb1⟩
  | true =>
    have HF := Lib.hid hf; clear hf
    cases hg : isTab g with
    | false =>
      have HG := Lib.hid hg; clear hg
      go_enter Tryz.func68, Tryz.ntmps68
      go_wp2_with fail
      refine (isTable_any _ _ _ _ _ (h1.alloc _) hm1).mono ?_
      rintro e w1 ⟨rfl, hb1⟩
      rw [HF.out]
      have hA1 := hA.below hb1 (by simp)
      have lA1 := hA1.two
      have hg1 := (h2.alloc _).below hb1
      go_wp2_with fail
      refine (isTable_any _ _ _ _ _ hg1 hm2).mono ?_
      rintro e w2 ⟨rfl, hb2⟩
      rw [HG.out]
      go_wp2
      go_ret
      exact ⟨ret_bool (by unfold isPm; rw [HF.out, HG.out]; rfl), below_th (below_alth (Below.refl _ _) hb1) hb2⟩
    | true =>
      have HG := Lib.hid hg; clear hg
      have HQ : Hid (isPm f g = decide ((n : Int) = (n' : Int))) := Lib.hid (by unfold isPm; rw [HF.out, HG.out, HL.out]; simp [Int.ofNat_inj])
      go_enter Tryz.func68, Tryz.ntmps68
      go_wp2_with fail
      refine (isTable_any _ _ _ _ _ (h1.alloc _) hm1).mono ?_
      rintro e w1 ⟨rfl, hb1⟩
      rw [HF.out]
      have hA1 := hA.below hb1 (by simp)
      have lA1 := hA1.two
      have hg1 := (h2.alloc _).below hb1
      go_wp2_with fail
      refine (isTable_any _ _ _ _ _ hg1 hm2).mono ?_
      rintro e w2 ⟨rfl, hb2⟩
      rw [HG.out]
      have hA2 := hA1.below hb2 hA1.lt
      have lA2 := hA2.two
      go_wp2
      go_ret
      exact ⟨ret_bool (by rw [HQ.out]; rfl), below_th (below_alth (Below.refl _ _) hb1) hb2⟩
set_option maxHeartbeats 1000000 in
theorem isSolution_any (a : Option Addr) (n c : Nat) (a' : Option Addr) (n' c' : Nat) (f g : List (List Int)) (w : World) (h1 : Tbl w a n f) (h2 : Tbl w a' n' g) (hm1 : n ≤ 9223372036854775807) (hm2 : n' ≤ 9223372036854775807) :
    Calls Tryz.prog 29 #[sAgg a n c a' n' c'] w fun e w' => e = .returned (.bool (isSol f g)) ∧ Below w.heap.size w w' := by
  have hA := Loc.new w rfl #[.slice a n c, .slice a' n' c'] 53
  have lA := hA.two
  cases hf : isPm f g with
  | false =>
    have HF := Lib.hid hf; clear hf
    go_enter Tryz.func29, Tryz.ntmps29
    go_wp2_with fail
    refine (isPairMap_any _ _ _ _ _ _ _ _ _ (h1.alloc _) (h2.alloc _) hm1 hm2).mono ?_
    rintro e w1 ⟨rfl, hb1⟩
    rw [HF.out]
    go_wp2
    go_ret
    exact ⟨ret_bool (by unfold isSol; rw [HF.out]; rfl), below_alth (Below.refl _ _) hb1⟩
  | true =>
    obtain ⟨hn1, hn12, sf, sg⟩ := isPm_sq hf
    have hl1 := h1.len
    have hl2 : n' = n := by rw [h2.len, hl1]; have := sg.len; omega
    subst hl2
    rw [← hl1] at hn1 hn12 sf sg
    have HF := Lib.hid hf; clear hf
    have HS : Hid (isSol f g = (collOk n' f g && eqOk n' f g)) := Lib.hid (by unfold isSol; rw [HF.out, ← hl1]; rfl)
    clear hl1
    have HSF := Lib.hid sf; have HSG := Lib.hid sg; clear sf sg
    go_enter Tryz.func29, Tryz.ntmps29
    go_wp2_with fail
    refine (isPairMap_any _ _ _ _ _ _ _ _ _ (h1.alloc _) (h2.alloc _) hm1 hm2).mono ?_
    rintro e w1 ⟨rfl, hb1⟩
    rw [HF.out]
    have hA1 := hA.below hb1 (by simp)
    have lA1 := hA1.two
    have hf1 := (h1.alloc _).below hb1
    have hg1 := (h2.alloc _).below hb1
    have hB1 := below_alth (Below.refl _ _) hb1
    clear hb1 hA lA
    go_wp2_with fail
    refine (collisionOf_any _ _ _ _ _ _ _ _ hf1 hg1 hn1 hn12 HSF.out HSG.out).mono ?_
    rintro e w2 ⟨he, hb2⟩
    have hA2 := hA1.below hb2 hA1.lt
    have lA2 := hA2.two
    have hf2 := hf1.below hb2
    have hg2 := hg1.below hb2
    have hB2 := below_th hB1 hb2
    clear hb2 hA1 lA1 hB1
    have nn := fun (w : World) (a : Option Addr) (n c : Nat) => Lib.run_eql_slice_nil (P := Tryz.prog) w 41 2 a n c 0 0 und_ints
    rcases he with ⟨hc, rfl⟩ | ⟨hc, b, m, k, rfl⟩
    · have HC := Lib.hid hc; clear hc
      go_wp2_with fail
      refine (equationFault_any _ _ _ _ _ _ _ _ hf2 hg2 hn1 hn12 HSF.out HSG.out).mono ?_
      rintro e w3 ⟨he, hb3⟩
      have hB3 := below_th hB2 hb3
      rcases he with ⟨hc, rfl⟩ | ⟨hc, b, m, k, rfl⟩
      · have HD := Lib.hid hc; clear hc
        go_wp2
        go_ret
        exact ⟨ret_bool (by rw [HS.out, HC.out, HD.out]; rfl), hB3⟩
      · have HD := Lib.hid hc; clear hc
        go_wp2
        go_ret
        exact ⟨ret_bool (by rw [HS.out, HC.out, HD.out]; rfl), hB3⟩
    · have HC := Lib.hid hc; clear hc
      go_wp2
      go_ret
      exact ⟨ret_bool (by rw [HS.out, HC.out]; rfl), hB2⟩
theorem OwnT.uSet {w : World} {lo : Nat} {a : Option Addr} {n c : Nat} {vs : List SV} {xss : List (List Int)} (h : OwnT w lo a n c vs xss) {p : Addr} (hp : ∀ g, TblS a n vs g → g ≠ p.block) (u : Value) : OwnT (w.setCell p u) lo a n c vs xss :=
  h.keep fun g hg _ => Below.heap_setCell _ _ _ _ (hp g hg)
def InvMade (w1 : World) (n : Nat) (f g : List (List Int)) (s : Value) (wx : World) : Prop :=
  ∃ b4 b d vs b' d' vs', s = .pointer (some ⟨b4, 0, none⟩) ∧ w1.heap.size ≤ b4 ∧ Loc wx b4 #[.slice b n d, .slice b' n d'] 53 ∧ OwnS wx w1.heap.size b n d vs f b' n d' vs' g ∧ (∀ q, SolS b n vs b' n vs' q → q ≠ b4) ∧ Below w1.heap.size w1 wx
abbrev zBox : Obj := .cells #[.slice none 0 0, .slice none 0 0] 53
section
variable {w1 w2 w3 : World} {n : Nat} {f g : List (List Int)} {a2 a3 : Option Addr} {c2 c3 : Nat} {vs2 vs3 : List SV}
theorem made_end (ho2 : OwnT w2 w1.heap.size a2 n c2 vs2 f) (hq2 : Below w1.heap.size w1 w2) (ho3 : OwnT w3 w2.heap.size a3 n c3 vs3 g) (hb3 : Below w2.heap.size w2 w3) :
    InvMade w1 n f g (.pointer (some ⟨w3.heap.size, 0, none⟩)) (w3.alloc (.cells #[.slice a2 n c2, .slice a3 n c3] 53)) := by
  have s2 := hq2.size
  have s3 := hb3.size
  refine ⟨_, _, _, _, _, _, _, rfl, by omega, Loc.new _ rfl _ _, ⟨(ho2.below hb3).alloc _, (ho3.mono s2).alloc _, fun q h1 h2 => ?_⟩, fun q hq => ?_, below_al (below_th hq2 hb3) _⟩
  · have e1 := ho2.uHi q h1; have e2 := ho3.uLo q h2; omega
  · rcases hq with hq | hq
    · have := ho2.uHi q hq; omega
    · have := ho3.uHi q hq; omega
theorem made_mid (ho2 : OwnT w2 w1.heap.size a2 n c2 vs2 f) (hq2 : Below w1.heap.size w1 w2) (ho3 : OwnT w3 (w2.alloc zBox).heap.size a3 n c3 vs3 g) (hb3 : Below (w2.alloc zBox).heap.size (w2.alloc zBox) w3) :
    InvMade w1 n f g (.pointer (some ⟨w2.heap.size, 0, none⟩)) ((w3.setCell ⟨w2.heap.size, 0, none⟩ (.slice a2 n c2)).setCell ⟨w2.heap.size, 1, none⟩ (.slice a3 n c3)) := by
  have s2 := hq2.size
  have s3 := hb3.size
  rw [size_alloc] at s3
  have n2 : ∀ q, TblS a2 n vs2 q → q ≠ w2.heap.size := fun q hq => by have := ho2.uHi q hq; omega
  have n3 : ∀ q, TblS a3 n vs3 q → q ≠ w2.heap.size := fun q hq => by have := ho3.uLo q hq; rw [size_alloc] at this; omega
  have hO : Loc w3 w2.heap.size #[.slice none 0 0, .slice none 0 0] 53 := (Loc.new w2 rfl _ _).below hb3 (by simp)
  refine ⟨_, _, _, _, _, _, _, rfl, by omega, (hO.set 0 _).set 1 _, ⟨(((ho2.alloc _).below hb3).uSet n2 _).uSet n2 _, ((ho3.mono (by rw [size_alloc]; omega)).uSet n3 _).uSet n3 _, fun q h1 h2 => ?_⟩, fun q hq => ?_, ?_⟩
  · have e1 := ho2.uHi q h1; have e2 := ho3.uLo q h2; rw [size_alloc] at e2; omega
  · rcases hq with hq | hq
    · exact n2 q hq
    · exact n3 q hq
  · exact below_setne (below_setne (below_alth hq2 hb3) s2 _) s2 _
theorem made_first {w1' : World} (hw : Below w1.heap.size w1 w1') (hs1 : w1'.heap.size = w1.heap.size) (ho2 : OwnT w2 (w1'.alloc zBox).heap.size a2 n c2 vs2 f) (hb2 : Below (w1'.alloc zBox).heap.size (w1'.alloc zBox) w2) (ho3 : OwnT w3 w2.heap.size a3 n c3 vs3 g) (hb3 : Below w2.heap.size w2 w3) :
    InvMade w1 n f g (.pointer (some ⟨w1.heap.size, 0, none⟩)) ((w3.setCell ⟨w1.heap.size, 0, none⟩ (.slice a2 n c2)).setCell ⟨w1.heap.size, 1, none⟩ (.slice a3 n c3)) := by
  have s2 := hb2.size
  have s3 := hb3.size
  rw [size_alloc] at s2
  have n2 : ∀ q, TblS a2 n vs2 q → q ≠ w1.heap.size := fun q hq => by have := ho2.uLo q hq; rw [size_alloc] at this; omega
  have n3 : ∀ q, TblS a3 n vs3 q → q ≠ w1.heap.size := fun q hq => by have := ho3.uLo q hq; omega
  have hO : Loc w3 w1.heap.size #[.slice none 0 0, .slice none 0 0] 53 := ((Loc.new w1' hs1.symm _ _).below hb2 (by simp; omega)).below hb3 (by omega)
  refine ⟨_, _, _, _, _, _, _, rfl, Nat.le_refl _, (hO.set 0 _).set 1 _, ⟨(((ho2.mono (by rw [size_alloc]; omega)).below hb3).uSet n2 _).uSet n2 _, ((ho3.mono (by omega)).uSet n3 _).uSet n3 _, fun q h1 h2 => ?_⟩, fun q hq => ?_, ?_⟩
  · have e1 := ho2.uHi q h1; have e2 := ho3.uLo q h2; omega
  · rcases hq with hq | hq
    · exact n2 q hq
    · exact n3 q hq
  · exact below_setne (below_setne (below_th (below_alth hw hb2) hb3) (Nat.le_refl _) _) (Nat.le_refl _) _
end
theorem OwnT.spot {w : World} {lo : Nat} {b : Option Addr} {n d : Nat} {vs : List SV} {F : List (List Int)} (h : OwnT w lo b n d vs F) {u v : Nat} (hu : u < n) (hv : v < (F.getD u []).length) :
    ∃ gb g1 k1 c1 z, b = some ⟨gb, 0, none⟩ ∧ (vs.getD u svO).1 = some ⟨g1, 0, none⟩ ∧ v < k1 ∧ w.cell? ⟨gb, u, none⟩ = some (.slice (some ⟨g1, 0, none⟩) k1 c1) ∧ w.cell? ⟨g1, v, none⟩ = some z ∧ w.frozen? ⟨g1, v, none⟩ = false := by
  obtain ⟨gb, hb, _, hc, _⟩ := h.cells (by omega)
  have hr := h.row u hu
  have hk : v < (vs.getD u svO).2.1 := by have := hr.len; omega
  obtain ⟨g1, o1, e1, _⟩ := hr.row.at v hk
  rw [e1] at hr
  obtain ⟨rfl, h2, h3⟩ := hr.cells
  have := hc u hu
  rw [e1] at this
  exact ⟨gb, g1, _, _, _, hb, e1, hk, this, h2 v hk, h3 v⟩
def IsWd (s : Nat) (xs : List Int) : Prop := xs.length ≤ 30 ∧ ∀ x ∈ xs, x ≠ 0 ∧ 1 - (s : Int) ≤ x ∧ x ≤ (s : Int) - 1
theorem IsWd.plc {s : Nat} {xs : List Int} (h : IsWd s xs) (x : Int) (hx : x ∈ xs) : 0 ≤ plc x ∧ plc x + 1 < s := by
  have := h.2 x hx
  unfold Proofs.YtaddclaadbjnlaaGreat.plc; split <;> omega
def SptR (ok : Bool) (W w : World) (e : Ending) (w' : World) : Prop := (∃ a n c, e = .returned (.slice a n c) ∧ ((ok = true ∧ n = 0) ∨ (ok = false ∧ n ≠ 0))) ∧ Below W.heap.size W w'
set_option maxHeartbeats 4000000 in
theorem l02Collision_any (a : Option Addr) (n c : Nat) (a' : Option Addr) (c' : Nat) (f g : List (List Int)) (w : World) (h1 : Tbl w a n f) (h2 : Tbl w a' n g) (hn1 : 1 ≤ n) (hn : n ≤ 12) (hf : Sq n f) (hg : Sq n g) :
    Calls Tryz.prog 120 #[sAgg a n c a' n c'] w (SptR (collOk n f g) w w) := by
  obtain ⟨bf, of, A, O, C, rfl, Gf⟩ := h1.grid hf hn1
  obtain ⟨bg, og, A', O', C', rfl, Gg⟩ := h2.grid hg hn1
  clear h1 h2
  obtain ⟨N, hN⟩ : ∃ N, N = n * n := ⟨_, rfl⟩
  have hN144 : N ≤ 144 := by rw [hN]; exact Nat.mul_le_mul hn hn
  have hmul : (n : Int) * (n : Int) = (N : Int) := by rw [hN]; simp
  have HN := Lib.hid hN
  have HOK : Hid (collOk n f g = allN N fun p => allN N fun q => !collAt n f g p q) := Lib.hid (by rw [hN]; rfl)
  clear hN
  have hn0 : (n : Int) ≠ 0 := by omega
  go_enter Tryz.func120, Tryz.ntmps120
  have hA := Loc.new w rfl #[.slice (some ⟨bf, of, none⟩) n c, .slice (some ⟨bg, og, none⟩) n c'] 53
  have lA := hA.two
  have gf := Gf.alloc (.cells #[.slice (some ⟨bf, of, none⟩) n c, .slice (some ⟨bg, og, none⟩) n c'] 53)
  have gg := Gg.alloc (.cells #[.slice (some ⟨bf, of, none⟩) n c, .slice (some ⟨bg, og, none⟩) n c'] 53)
  have hB := below_al (Below.refl w.heap.size w) (.cells #[.slice (some ⟨bf, of, none⟩) n c, .slice (some ⟨bg, og, none⟩) n c'] 53)
  clear Gf Gg
  go_wp2
  generalize (w.alloc (.cells #[.slice (some ⟨bf, of, none⟩) n c, .slice (some ⟨bg, og, none⟩) n c'] 53)) = w0 at *
  go_loopw [4] (fun i wr => ∃ k : Nat, k ≤ N ∧ i = .int .i64 k ∧ Hid (allN k (fun p => allN N fun q => !collAt n f g p q) = true) ∧ ∃ m, wr = w0.drewN m) (fun i _ => N - (intOf i).toNat)
  case atStart => exact ⟨0, Nat.zero_le _, rfl, Lib.hid rfl, 0, rfl⟩
  case round =>
    obtain ⟨p, hp, rfl, hp1, m1, rfl⟩ := hrel
    by_cases hlt : p < N
    · have Qp := quo_nat (n := n) (p := p) hn1 (by omega)
      have Rp := rem_nat (n := n) (p := p) hn1 (by omega)
      have bx := div_lt_sq (n := n) (p := p) (by rw [← HN.out]; exact hlt)
      have bY := Nat.mod_lt p hn1
      generalize hx : p / n = x at Qp bx
      generalize hy : p % n = y at Rp bY
      have Wp : IntKind.i64.wrap (x : Int) = (x : Int) := IntWalk.i64_in _ (by omega)
      have Wr : IntKind.i64.wrap (y : Int) = (y : Int) := IntWalk.i64_in _ (by omega)
      have HX := Lib.hid hx; have HY := Lib.hid hy; clear hx hy
      go_wp2
      go_loopw [5] (fun i wr => ∃ k : Nat, k ≤ N ∧ i = .int .i64 k ∧ Hid (allN k (fun q => !collAt n f g p q) = true) ∧ ∃ m, wr = w0.drewN m) (fun i _ => N - (intOf i).toNat)
      case atStart => exact ⟨0, Nat.zero_le _, rfl, Lib.hid rfl, _, rfl⟩
      case round =>
        obtain ⟨q, hq, rfl, hq1, m2, rfl⟩ := hrel
        by_cases hltq : q < N
        · have Qq := quo_nat (n := n) (p := q) hn1 (by omega)
          have Rq := rem_nat (n := n) (p := q) hn1 (by omega)
          have bu := div_lt_sq (n := n) (p := q) (by rw [← HN.out]; exact hltq)
          have bv := Nat.mod_lt q hn1
          generalize hu : q / n = u at Qq bu
          generalize hv : q % n = v at Rq bv
          have Wq : IntKind.i64.wrap (u : Int) = (u : Int) := IntWalk.i64_in _ (by omega)
          have Wv : IntKind.i64.wrap (v : Int) = (v : Int) := IntWalk.i64_in _ (by omega)
          have hE : collAt n f g p q = ((!decide (p = q)) && (decide (tv f x y = tv f u v) && decide (tv g x y = tv g u v))) := by
            unfold collAt; rw [HX.out, HY.out, hu, hv]
          obtain ⟨r1, k1⟩ := gf.look bx bY
          obtain ⟨r2, k2⟩ := gf.look bu bv
          obtain ⟨r3, k3⟩ := gg.look bx bY
          obtain ⟨r4, k4⟩ := gg.look bu bv
          generalize tv f x y = A1 at hE k1
          generalize tv f u v = A2 at hE k2
          generalize tv g x y = A3 at hE k3
          generalize tv g u v = A4 at hE k4
          have HE := Lib.hid hE
          clear hE hu hv gf gg hf hg
          go_wp2
          go_quiet (fail)
          go_wp2
          clear Qq Rq Wq Wv Qp Rp Wp Wr
          by_cases p0 : p = q
          · have u0 : ((p : Int) != (q : Int)) = false := by simp [p0]
            have HE2 : Hid ((!collAt n f g p q) = true) := Lib.hid (by rw [HE.out]; simp [p0])
            clear p0
            go_quiet (fail)
            go_wp2
            go_roundw
            case rel => exact ⟨q + 1, by omega, by go_num, Lib.hid (allN_succ hq1.out HE2.out), _, rfl⟩
            case measure => simp [intOf]; omega
          · have u0 : ((p : Int) != (q : Int)) = true := by simp; omega
            by_cases p1 : A1 = A2
            · have u1 : ((A1 : Int) == (A2 : Int)) = true := by simp [p1]
              by_cases p2 : A3 = A4
              · have u2 : ((A3 : Int) == (A4 : Int)) = true := by simp [p2]
                have HE2 : Hid ((!collAt n f g p q) = false) := Lib.hid (by rw [HE.out]; simp [p0, p1, p2])
                clear p0 p1 p2
                go_quiet (fail)
                go_wp2
                go_ret
                exact ⟨⟨_, _, _, rfl, .inr ⟨by rw [HOK.out]; exact allN_no hlt (allN_no hltq HE2.out), by omega⟩⟩, below_al (below_drewN hB _) _⟩
              · have u2 : ((A3 : Int) == (A4 : Int)) = false := by simp; omega
                have HE2 : Hid ((!collAt n f g p q) = true) := Lib.hid (by rw [HE.out]; simp [p2])
                clear p0 p1 p2
                go_quiet (fail)
                go_wp2
                go_roundw
                case rel => exact ⟨q + 1, by omega, by go_num, Lib.hid (allN_succ hq1.out HE2.out), _, rfl⟩
                case measure => simp [intOf]; omega
            · have u1 : ((A1 : Int) == (A2 : Int)) = false := by simp; omega
              have HE2 : Hid ((!collAt n f g p q) = true) := Lib.hid (by rw [HE.out]; simp [p1])
              clear p0 p1
              go_quiet (fail)
              go_wp2
              go_roundw
              case rel => exact ⟨q + 1, by omega, by go_num, Lib.hid (allN_succ hq1.out HE2.out), _, rfl⟩
              case measure => simp [intOf]; omega
        · obtain rfl : q = N := by omega
          go_wp2
          go_roundw
          case rel => exact ⟨p + 1, by omega, by go_num, Lib.hid (allN_succ hp1.out hq1.out), _, rfl⟩
          case measure => simp [intOf]; omega
    · obtain rfl : p = N := by omega
      go_wp2
      go_ret
      exact ⟨⟨_, _, _, rfl, .inl ⟨by rw [HOK.out]; exact hp1.out, rfl⟩⟩, below_al (below_drewN hB _) _⟩
theorem Row.lit3 {w : World} {b : Nat} {x y z : Int} {t : TypeId} (h : Loc w b #[.int .i64 x, .int .i64 y, .int .i64 z] t) : Row w (some ⟨b, 0, none⟩) 3 [x, y, z] := by
  refine ⟨rfl, fun i hi => ⟨b, 0, rfl, h.lt, ?_⟩⟩
  match i, hi with
  | 0, _ => exact h.cell 0 rfl
  | 1, _ => exact h.cell 1 rfl
  | 2, _ => exact h.cell 2 rfl
theorem Less.lit3 {n x y z : Nat} (hx : x < n) (hy : y < n) (hz : z < n) : Less n [(x : Int), (y : Int), (z : Int)] := by
  intro i hi
  match i, hi with
  | 0, _ => exact ⟨x, hx, rfl⟩
  | 1, _ => exact ⟨y, hy, rfl⟩
  | 2, _ => exact ⟨z, hz, rfl⟩
theorem do3_eq (f g : List (List Int)) (x y z : Nat) : decide (doF f g 0 (doF f g 1 (doF f g 0 [(x : Int), (y : Int), (z : Int)])) = doF f g 1 (doF f g 0 (doF f g 1 [(x : Int), (y : Int), (z : Int)]))) = eqAt f g x y z := by
  simp only [doF, eqAt, List.set_cons_zero, List.set_cons_succ, List.getD_cons_zero, List.getD_cons_succ, Int.toNat_natCast, Nat.zero_add]
  rw [Bool.eq_iff_iff]
  simp
  omega
theorem l02Do_0 {a : Option Addr} {n c : Nat} {a' : Option Addr} {c' : Nat} {f g : List (List Int)} {al : Option Addr} {m cl : Nat} {l : List Int} {w : World} (h1 : Tbl w a n f) (h2 : Tbl w a' n g) (hn1 : 1 ≤ n) (hf : Sq n f) (hg : Sq n g)
    (hl : Row w al m l) (hm : m = 3) (hle : Less n l) :
    Calls Tryz.prog 152 #[sAgg a n c a' n c', .slice al m cl, .int .i64 0] w fun e w' => ∃ ao co, e = .returned (.slice ao m co) ∧ Own w' w.heap.size ao m co (doF f g 0 l) ∧ Below w.heap.size w w' :=
  l02Do_any a n c a' c' f g al m cl l 0 w h1 h2 hn1 hf hg hl (by omega) (by omega) hle
theorem l02Do_1 {a : Option Addr} {n c : Nat} {a' : Option Addr} {c' : Nat} {f g : List (List Int)} {al : Option Addr} {m cl : Nat} {l : List Int} {w : World} (h1 : Tbl w a n f) (h2 : Tbl w a' n g) (hn1 : 1 ≤ n) (hf : Sq n f) (hg : Sq n g)
    (hl : Row w al m l) (hm : m = 3) (hle : Less n l) :
    Calls Tryz.prog 152 #[sAgg a n c a' n c', .slice al m cl, .int .i64 1] w fun e w' => ∃ ao co, e = .returned (.slice ao m co) ∧ Own w' w.heap.size ao m co (doF f g 1 l) ∧ Below w.heap.size w w' :=
  l02Do_any a n c a' c' f g al m cl l 1 w h1 h2 hn1 hf hg hl (by omega) (by omega) hle
set_option maxHeartbeats 8000000 in
theorem l02Fault_any (a : Option Addr) (n c : Nat) (a' : Option Addr) (c' : Nat) (f g : List (List Int)) (w : World) (h1 : Tbl w a n f) (h2 : Tbl w a' n g) (hn1 : 1 ≤ n) (hn : n ≤ 12) (hf : Sq n f) (hg : Sq n g) :
    Calls Tryz.prog 121 #[sAgg a n c a' n c'] w (SptR (eqOk n f g) w w) := by
  have HSF := Lib.hid hf; have HSG := Lib.hid hg; clear hf hg
  go_enter Tryz.func121, Tryz.ntmps121
  have hA := Loc.new w rfl #[.slice a n c, .slice a' n c'] 53
  have lA := hA.two
  have T1 := h1.alloc (.cells #[.slice a n c, .slice a' n c'] 53)
  have T2 := h2.alloc (.cells #[.slice a n c, .slice a' n c'] 53)
  have hB := below_al (Below.refl w.heap.size w) (.cells #[.slice a n c, .slice a' n c'] 53)
  clear h1 h2
  go_wp2
  generalize hw0 : (w.alloc (.cells #[.slice a n c, .slice a' n c'] 53)) = w0 at *
  have hsz : w.heap.size < w0.heap.size := hA.lt
  clear hw0
  go_loopw [4] (fun i wr => ∃ k : Nat, k ≤ n ∧ i = .int .i64 k ∧ Hid (allN k (fun x => allN n fun y => allN n fun z => eqAt f g x y z) = true) ∧ Below w0.heap.size w0 wr) (fun i _ => n - (intOf i).toNat)
  case atStart => exact ⟨0, Nat.zero_le _, rfl, Lib.hid rfl, Below.refl _ _⟩
  case round =>
    obtain ⟨x, hx, rfl, hx1, hW⟩ := hrel
    by_cases hlt : x < n
    · clear lA
      go_wp2
      go_loopw [5] (fun i wr => ∃ k : Nat, k ≤ n ∧ i = .int .i64 k ∧ Hid (allN k (fun y => allN n fun z => eqAt f g x y z) = true) ∧ Below w0.heap.size w0 wr) (fun i _ => n - (intOf i).toNat)
      case atStart => exact ⟨0, Nat.zero_le _, rfl, Lib.hid rfl, hW⟩
      case round =>
        clear hW
        obtain ⟨y, hy, rfl, hy1, hW⟩ := hrel
        by_cases hlty : y < n
        · go_wp2
          go_loopw [6] (fun i wr => ∃ k : Nat, k ≤ n ∧ i = .int .i64 k ∧ Hid (allN k (fun z => eqAt f g x y z) = true) ∧ Below w0.heap.size w0 wr) (fun i _ => n - (intOf i).toNat)
          case atStart => exact ⟨0, Nat.zero_le _, rfl, Lib.hid rfl, hW⟩
          case round =>
            clear hW
            obtain ⟨z, hz, rfl, hz1, hW⟩ := hrel
            by_cases hltz : z < n
            · have hle0 : Less n [(x : Int), (y : Int), (z : Int)] := Less.lit3 hlt hlty hltz
              have hE := do3_eq f g x y z
              have hle1 : Less n (doF f g 0 [(x : Int), (y : Int), (z : Int)]) := hle0.do_ HSF.out HSG.out 0 (by simp [doF_len])
              have hle2 : Less n (doF f g 1 (doF f g 0 [(x : Int), (y : Int), (z : Int)])) := hle1.do_ HSF.out HSG.out 1 (by simp [doF_len])
              have hle3 : Less n (doF f g 0 (doF f g 1 (doF f g 0 [(x : Int), (y : Int), (z : Int)]))) := hle2.do_ HSF.out HSG.out 0 (by simp [doF_len])
              have hle4 : Less n (doF f g 1 [(x : Int), (y : Int), (z : Int)]) := hle0.do_ HSF.out HSG.out 1 (by simp [doF_len])
              have hle5 : Less n (doF f g 0 (doF f g 1 [(x : Int), (y : Int), (z : Int)])) := hle4.do_ HSF.out HSG.out 0 (by simp [doF_len])
              have hle6 : Less n (doF f g 1 (doF f g 0 (doF f g 1 [(x : Int), (y : Int), (z : Int)]))) := hle5.do_ HSF.out HSG.out 1 (by simp [doF_len])
              cases hq : eqAt f g x y z
              all_goals
                have HQ := Lib.hid hq
                rw [hq] at hE
                have HE := Lib.hid hE
                clear hE hq
                go_wp2
                have hrow := Row.lit3 (Loc.new wr rfl #[.int .i64 x, .int .i64 y, .int .i64 z] 2)
                replace hW := below_al hW (.cells #[.int .i64 x, .int .i64 y, .int .i64 z] 2)
                generalize (wr.alloc (.cells #[.int .i64 x, .int .i64 y, .int .i64 z] 2)) = w1 at *
                have lA := (hA.below hW hA.lt).two
                have tok1 : True := trivial
                go_region_held3 (fun w' => w'.cell? ⟨w.heap.size, 0, none⟩ = some (.slice a n c) ∧ w'.cell? ⟨w.heap.size, 1, none⟩ = some (.slice a' n c'))
                  (first | exact ⟨lb7.1, lb7.2.1⟩ | exact ⟨lb6.1, lb6.2.1⟩ | exact ⟨lb5.1, lb5.2.1⟩ | exact ⟨lb4.1, lb4.2.1⟩ | exact ⟨lb3.1, lb3.2.1⟩ | exact ⟨lb2.1, lb2.2.1⟩ | exact ⟨lb1.1, lb1.2.1⟩ | exact ⟨lA.1, lA.2.1⟩)
                  (first
                    | (go_at_call 152; have _t := tok1; clear _t tok1; have tok2 : True := trivial; refine (l02Do_0 (T1.below (below_drewN hW 1)) (T2.below (below_drewN hW 1)) hn1 HSF.out HSG.out (hrow.drewN 1) rfl hle0).mono ?_; rintro e v1 ⟨a1, c1, rfl, ho1, hb1⟩; have hr1 := below_th (below_drewN hW 1) hb1; have hq1 : Below w1.heap.size w1 v1 := (Below.drew (Below.refl _ _)).trans hb1; have lb1 := (hA.below hr1 hA.lt).two)
                    | (go_at_call 152; have _t := tok2; clear _t tok2; have tok3 : True := trivial; refine (l02Do_1 (T1.below hr1) (T2.below hr1) hn1 HSF.out HSG.out ho1.row rfl hle1).mono ?_; rintro e v2 ⟨a2, c2, rfl, ho2, hb2⟩; have hr2 := below_th hr1 hb2; have hq2 : Below w1.heap.size w1 v2 := below_th hq1 hb2; have lb2 := (hA.below hr2 hA.lt).two)
                    | (go_at_call 152; have _t := tok3; clear _t tok3; have tok4 : True := trivial; refine (l02Do_0 (T1.below hr2) (T2.below hr2) hn1 HSF.out HSG.out ho2.row rfl hle2).mono ?_; rintro e v3 ⟨a3, c3, rfl, ho3, hb3⟩; have hr3 := below_th hr2 hb3; have hq3 : Below w1.heap.size w1 v3 := below_th hq2 hb3; have lb3 := (hA.below hr3 hA.lt).two)
                    | (go_at_call 152; have _t := tok4; clear _t tok4; have tok5 : True := trivial; refine (l02Do_1 (T1.below hr3) (T2.below hr3) hn1 HSF.out HSG.out (hrow.below hq3) rfl hle0).mono ?_; rintro e v4 ⟨a4, c4, rfl, ho4, hb4⟩; have hr4 := below_th hr3 hb4; have hq4 : Below w1.heap.size w1 v4 := below_th hq3 hb4; have lb4 := (hA.below hr4 hA.lt).two; have ho3a := ho3.below hb4)
                    | (go_at_call 152; have _t := tok5; clear _t tok5; have tok6 : True := trivial; refine (l02Do_0 (T1.below hr4) (T2.below hr4) hn1 HSF.out HSG.out ho4.row rfl hle4).mono ?_; rintro e v5 ⟨a5, c5, rfl, ho5, hb5⟩; have hr5 := below_th hr4 hb5; have hq5 : Below w1.heap.size w1 v5 := below_th hq4 hb5; have lb5 := (hA.below hr5 hA.lt).two; have ho3b := ho3a.below hb5)
                    | (go_at_call 152; have _t := tok6; clear _t tok6; have tok7 : True := trivial; refine (l02Do_1 (T1.below hr5) (T2.below hr5) hn1 HSF.out HSG.out ho5.row rfl hle5).mono ?_; rintro e v6 ⟨a6, c6, rfl, ho6, hb6⟩; have hr6 := below_th hr5 hb6; have hq6 : Below w1.heap.size w1 v6 := below_th hq5 hb6; have lb6 := (hA.below hr6 hA.lt).two; have ho3c := ho3b.below hb6)
                    | (go_at_call 110; have _t := tok7; clear _t tok7; refine (l01Same_b _ _ _ _ _ _ _ _ _ ho3c.row ho6.row (by omega) _ HE.out).mono ?_; rintro e v7 ⟨rfl, hb7⟩; have hr7 := below_th hr6 hb7; have lb7 := (hA.below hr7 hA.lt).two))
                clear lb1 lb2 lb3 lb4 lb5 lb6 lb7
                go_wp2
              · go_ret
                exact ⟨⟨_, _, _, rfl, .inr ⟨allN_no hlt (allN_no hlty (allN_no hltz HQ.out)), by omega⟩⟩, hB.trans (hr7.mono (Nat.le_of_lt hsz))⟩
              · go_roundw
                case rel => exact ⟨z + 1, by omega, by go_num, Lib.hid (allN_succ hz1.out HQ.out), hr7⟩
                case measure => simp [intOf]; omega
            · obtain rfl : z = n := by omega
              go_wp2
              go_roundw
              case rel => exact ⟨y + 1, by omega, by go_num, Lib.hid (allN_succ hy1.out hz1.out), hW⟩
              case measure => simp [intOf]; omega
        · obtain rfl : y = n := by omega
          go_wp2
          go_roundw
          case rel => exact ⟨x + 1, by omega, by go_num, Lib.hid (allN_succ hx1.out hy1.out), hW⟩
          case measure => simp [intOf]; omega
    · obtain rfl : x = n := by omega
      go_wp2
      go_ret
      exact ⟨⟨_, _, _, rfl, .inl ⟨hx1.out, rfl⟩⟩, below_al (hB.trans (hW.mono (Nat.le_of_lt hsz))) _⟩
set_option maxHeartbeats 1000000 in
theorem l02Is_any (a : Option Addr) (n c : Nat) (a' : Option Addr) (n' c' : Nat) (f g : List (List Int)) (w : World) (h1 : Tbl w a n f) (h2 : Tbl w a' n' g) (hm1 : n ≤ 9223372036854775807) (hm2 : n' ≤ 9223372036854775807) :
    Calls Tryz.prog 79 #[sAgg a n c a' n' c'] w fun e w' => e = .returned (.bool (isSol f g)) ∧ Below w.heap.size w w' := by
  have hA := Loc.new w rfl #[.slice a n c, .slice a' n' c'] 53
  have lA := hA.two
  cases hf : isPm f g with
  | false =>
    have HF := Lib.hid hf; clear hf
    go_enter Tryz.func79, Tryz.ntmps79
    go_wp2_with fail
    refine (l02Map_any _ _ _ _ _ _ _ _ _ (h1.alloc _) (h2.alloc _) hm1 hm2).mono ?_
    rintro e w1 ⟨rfl, hb1⟩
    rw [HF.out]
    go_wp2
    go_ret
    exact ⟨ret_bool (by unfold isSol; rw [HF.out]; rfl), below_alth (Below.refl _ _) hb1⟩
  | true =>
    obtain ⟨hn1, hn12, sf, sg⟩ := isPm_sq hf
    have hl1 := h1.len
    have hl2 : n' = n := by rw [h2.len, hl1]; have := sg.len; omega
    subst hl2
    rw [← hl1] at hn1 hn12 sf sg
    have HF := Lib.hid hf; clear hf
    have HS : Hid (isSol f g = (collOk n' f g && eqOk n' f g)) := Lib.hid (by unfold isSol; rw [HF.out, ← hl1]; rfl)
    clear hl1
    have HSF := Lib.hid sf; have HSG := Lib.hid sg; clear sf sg
    go_enter Tryz.func79, Tryz.ntmps79
    go_wp2_with fail
    refine (l02Map_any _ _ _ _ _ _ _ _ _ (h1.alloc _) (h2.alloc _) hm1 hm2).mono ?_
    rintro e w1 ⟨rfl, hb1⟩
    rw [HF.out]
    have hA1 := hA.below hb1 (by simp)
    have lA1 := hA1.two
    have hf1 := (h1.alloc _).below hb1
    have hg1 := (h2.alloc _).below hb1
    have hB1 := below_alth (Below.refl _ _) hb1
    clear hb1 hA lA
    go_wp2_with fail
    refine (l02Collision_any _ _ _ _ _ _ _ _ hf1 hg1 hn1 hn12 HSF.out HSG.out).mono ?_
    rintro e w2 ⟨⟨b, m, k, rfl, he⟩, hb2⟩
    have hA2 := hA1.below hb2 hA1.lt
    have lA2 := hA2.two
    have hf2 := hf1.below hb2
    have hg2 := hg1.below hb2
    have hB2 := below_th hB1 hb2
    clear hb2 hA1 lA1 hB1
    rcases he with ⟨hc, rfl⟩ | ⟨hc, hm⟩
    · have HC := Lib.hid hc; clear hc
      go_wp2_with fail
      refine (l02Fault_any _ _ _ _ _ _ _ _ hf2 hg2 hn1 hn12 HSF.out HSG.out).mono ?_
      rintro e w3 ⟨⟨b', m', k', rfl, he⟩, hb3⟩
      have hB3 := below_th hB2 hb3
      rcases he with ⟨hc, rfl⟩ | ⟨hc, hm⟩
      · have HD := Lib.hid hc; clear hc
        go_wp2
        go_ret
        exact ⟨ret_bool (by rw [HS.out, HC.out, HD.out]; rfl), hB3⟩
      · have HD := Lib.hid hc; clear hc
        have hm0 : ((m' : Int) == 0) = false := by simp; omega
        clear hm
        go_wp2
        go_ret
        exact ⟨ret_bool (by rw [HS.out, HC.out, HD.out]; rfl), hB3⟩
    · have HC := Lib.hid hc; clear hc
      have hm0 : ((m : Int) == 0) = false := by simp; omega
      clear hm
      go_wp2
      go_ret
      exact ⟨ret_bool (by rw [HS.out, HC.out]; rfl), hB2⟩
theorem IsWd.one {s : Nat} {xs : List Int} (h : IsWd s xs) {x : Int} (hx : x ∈ xs) : IsWd s [x] := ⟨by simp, fun y hy => by rw [List.mem_singleton] at hy; subst hy; exact h.2 _ hx⟩
theorem Row.drew {w : World} {a : Option Addr} {n : Nat} {xs : List Int} (h : Row w a n xs) : Row w.drew a n xs := h
theorem Own.lit3 {w : World} {b lo : Nat} {x y z : Int} (h : Loc w b #[.int .i64 x, .int .i64 y, .int .i64 z] 2) (hlo : lo ≤ b) : Own w lo (some ⟨b, 0, none⟩) 3 3 [x, y, z] := Own.mk rfl hlo h (Nat.le_refl _) (by unfold maxLen; omega) rfl rfl
theorem Own.empty0 (w : World) {b lo : Nat} (hb : b = w.heap.size) (hlo : lo ≤ b) : Own (w.alloc (.cells #[] 2)) lo (some ⟨b, 0, none⟩) 0 0 [] := Own.mk rfl hlo (Loc.new w hb _ _) (Nat.le_refl _) (by unfold maxLen; omega) rfl rfl
end Go.Proofs.YtaddclaadbjnlaaGreat
