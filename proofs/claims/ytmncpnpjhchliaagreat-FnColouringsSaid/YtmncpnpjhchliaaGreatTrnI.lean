/-
  The program's table with rows and columns exchanged.
  No condition but bounds.
-/
import Derived.Test.YtmncpnpjhchliaaGreatNdL
import Derived.Test.YtmncpnpjhchliaaGreatBase3
namespace Go.Proofs.YtmncpnpjhchliaaGreat
set_option maxRecDepth 100000
set_option linter.unusedVariables false
set_option linter.unusedSimpArgs false
open Go.RowKit

set_option maxHeartbeats 4000000 in
theorem transposed1_any (n bt : Nat) (tt : TypeId) (at_ : Option Addr) (ct : Nat) (t : List (List Int)) (w : World) (ht : Loc w bt #[.slice at_ n ct] tt)
    (h1 : Tbl w at_ n t) (hs : Sq n t) (hn : n ≤ 12) (x y : Nat) (hx : x < n) (hy : y < n) :
    Calls Tryz.prog 134 #[.int .i64 x, .int .i64 y, .pointer (some ⟨bt, 0, none⟩)] w fun e w' => e = .returned (.int .i64 ((tv t y x : Nat) : Int)) ∧ ∃ m, w' = w.drewN m := by
  obtain ⟨b, off, A, O, C, rfl, G⟩ := h1.grid hs (by omega)
  have g4 := G.look hy hx
  obtain ⟨v, HV⟩ : ∃ v, Hid (tv t y x = v) := ⟨_, rfl⟩
  rw [HV.out] at g4 ⊢
  have l2 := ht.one
  have i1 : (0 : Int) ≤ (x : Int) := by omega
  have i2 : (x : Int) < (n : Int) := by omega
  have i3 : (0 : Int) ≤ (y : Int) := by omega
  have i4 : (y : Int) < (n : Int) := by omega
  go_enter Tryz.func134, Tryz.ntmps134
  go_wp2
  go_ret
  exact ⟨rfl, 0, rfl⟩
theorem ent_trn1 : Ent 134 := fun _ _ => rfl

set_option maxHeartbeats 4000000 in
theorem transposed_any (n : Nat) (at_ : Option Addr) (ct : Nat) (t : List (List Int)) (w : World) (h1 : Tbl w at_ n t) (hs : Sq n t) (hn : n ≤ 12) :
    Calls Tryz.prog 90 #[.slice at_ n ct] w fun e w' => ∃ a c vs, e = .returned (.slice a n c) ∧ OwnT w' w.heap.size a n c vs (trnL n t) ∧ Below w.heap.size w w' := by
  have HS := Lib.hid hs
  clear hs
  obtain ⟨w0, hw0⟩ : ∃ w0, w.alloc (.cells #[.slice at_ n ct] 24) = w0 := ⟨_, rfl⟩
  have hB0 : Below w.heap.size w w0 := by rw [← hw0]; exact below_al (Below.refl _ _) _
  have hT : Loc w0 w.heap.size #[.slice at_ n ct] 24 := by rw [← hw0]; exact Loc.new w rfl _ _
  have lT := hT.one
  have hcl : ∀ x y, x < n → y < n → ∀ w3, Below w0.heap.size w0 w3 → Calls Tryz.prog 134 (#[.int .i64 x, .int .i64 y] ++ #[.pointer (some ⟨w.heap.size, 0, none⟩)]) w3 fun e w' => e = .returned (.int .i64 ((tv t y x : Nat) : Int)) ∧ Below w3.heap.size w3 w' := fun x y hx hy w3 hb3 => by
    have hB3 := below_th hB0 hb3
    refine (transposed1_any n _ _ at_ ct t w3 (hT.below hb3 hT.lt) (h1.below hB3) HS.out hn x y hx hy).mono fun e w' ⟨he, k, hk⟩ => ⟨he, ?_⟩
    rw [hk]; exact below_drewN (Below.refl _ _) k
  have HCL := Lib.hid hcl; clear hcl
  go_enter Tryz.func90, Tryz.ntmps90
  go_wp2_with fail
  refine (tableBy_any _ _ (fun x y => ((tv t y x : Nat) : Int)) n _ (by omega) ent_trn1 HCL.out).mono ?_
  rintro e w3 ⟨a, c, vs, rfl, ho, hb3⟩
  go_wp2
  go_ret
  exact ⟨_, _, _, rfl, ho.mono hB0.size, below_th hB0 hb3⟩
end Go.Proofs.YtmncpnpjhchliaaGreat
