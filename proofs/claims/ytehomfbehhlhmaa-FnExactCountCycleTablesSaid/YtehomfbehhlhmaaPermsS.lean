/-
  The reference's list of all permutations.
  No condition but bounds.
-/
import Derived.Test.YtehomfbehhlhmaaBase
namespace Go.Proofs.Ytehomfbehhlhmaa
set_option maxRecDepth 100000
set_option linter.unusedVariables false
set_option linter.unusedSimpArgs false
open Go.RowKit

/-- all permutations of n numbers that go on with some numbers, m more -/
def grwL (n : Nat) : Nat → List Int → List (List Int)
  | 0, s => [s]
  | m + 1, s => (List.range n).flatMap fun x : Nat => if (x : Int) ∈ s then [] else grwL n m (s ++ [(x : Int)])
def grwP (n m : Nat) (s : List Int) (k : Nat) : List (List Int) := (List.range k).flatMap fun x : Nat => if (x : Int) ∈ s then [] else grwL n m (s ++ [(x : Int)])
theorem grwP_succ (n m : Nat) (s : List Int) (k : Nat) : grwP n m s (k + 1) = grwP n m s k ++ if (k : Int) ∈ s then [] else grwL n m (s ++ [(k : Int)]) := by
  simp [grwP, List.range_succ, List.flatMap_append]
theorem grwL_bd (n : Nat) : ∀ (m : Nat) (s : List Int), (grwL n m s).length ≤ n ^ m := by
  intro m
  induction m with
  | zero => intro s; simp [grwL]
  | succ m ih =>
    intro s
    have : ∀ k, (grwP n m s k).length ≤ k * n ^ m := by
      intro k
      induction k with
      | zero => simp [grwP]
      | succ k ihk =>
        rw [grwP_succ, List.length_append, Nat.add_mul, Nat.one_mul]
        split
        · simp; omega
        · have := ih (s ++ [(k : Int)]); omega
    have h := this n
    rw [Nat.pow_succ, Nat.mul_comm]
    exact h
theorem grwP_le (n m : Nat) (s : List Int) (k : Nat) : (grwP n m s k).length ≤ k * n ^ m := by
  induction k with
  | zero => simp [grwP]
  | succ k ihk =>
    rw [grwP_succ, List.length_append, Nat.add_mul, Nat.one_mul]
    split
    · simp; omega
    · have := grwL_bd n m (s ++ [(k : Int)]); omega
theorem pow_bd {n m : Nat} (hn : n ≤ 7) (hm : m ≤ 7) : n ^ m ≤ 1000000 := by
  have h1 : n ^ m ≤ 7 ^ m := Nat.pow_le_pow_left hn m
  have h2 : 7 ^ m ≤ 7 ^ 7 := Nat.pow_le_pow_right (by omega) hm
  have h3 : (7 : Nat) ^ 7 ≤ 1000000 := by decide
  omega

/-- a list that grows: what it owns behind it owned before, or it is E's, or new -/
def GrT (E : Nat → Prop) (w : World) (lo : Nat) (a : Option Addr) (n : Nat) (vs : List SV) (yss : List (List Int)) (e : Ending) (w' : World) : Prop :=
  ∃ a' n' c' vs', e = .returned (.slice a' n' c') ∧ OwnT w' lo a' n' c' vs' yss ∧ Marked (TblS a n vs) w w' ∧ ∀ g, TblS a' n' vs' g → TblS a n vs g ∨ E g ∨ w.heap.size ≤ g
theorem Marked.refl (S : Nat → Prop) (w : World) : Marked S w w := ⟨rfl, rfl, rfl, Nat.le_refl _, fun _ _ _ => rfl⟩
theorem Marked.ofB {S : Nat → Prop} {w w' : World} (h : Below w.heap.size w w') : Marked S w w' := ⟨h.os, h.tape, h.output, h.size, fun k hk _ => h.block k hk⟩
theorem Marked.then {S T : Nat → Prop} {a b c : World} (h : Marked S a b) (k : Marked T b c) (hT : ∀ g, T g → S g ∨ a.heap.size ≤ g) : Marked S a c :=
  ⟨k.os.trans h.os, k.tape.trans h.tape, k.output.trans h.output, Nat.le_trans h.size k.size, fun i hi hs => (k.block i (Nat.lt_of_lt_of_le hi h.size) (fun ht => by rcases hT i ht with h' | h'; exact hs h'; omega)).trans (h.block i hi hs)⟩
theorem Marked.grown {w w' : World} {lo : Nat} {a : Option Addr} {n c : Nat} {vs : List SV} {xss : List (List Int)} (h : OwnT w lo a n c vs xss) (hg : w.grownBy w' (Value.slice a n c).ownBlock) : Marked (TblS a n vs) w w' :=
  ⟨hg.os, hg.tape, hg.output, hg.size, fun k hk hs => hg.block k hk (fun e => hs (h.ownBlk e.symm))⟩
theorem Marked.own {w w' : World} {S : Nat → Prop} {lo : Nat} {a : Option Addr} {n c : Nat} {xs : List Int} (h : Own w lo a n c xs) (hm : Marked S w w') (hS : ∀ g, a = some ⟨g, 0, none⟩ → ¬ S g) : Own w' lo a n c xs := h.uKeep hm hS
theorem Marked.lowb {w w' : World} {S : Nat → Prop} {lo : Nat} (hm : Marked S w w') (hS : ∀ g, S g → lo ≤ g) (hlo : lo ≤ w.heap.size) : Below lo w w' := ⟨hm.os, hm.tape, hm.output, hm.size, fun k hk => hm.block k (by omega) (fun h => by have := hS k h; omega)⟩

theorem TblS.snoc {a : Option Addr} {n : Nat} {vs : List SV} {v : SV} {g q : Nat} (hl : vs.length = n) (h : TblS (some ⟨g, 0, none⟩) (n + 1) (vs ++ [v]) q) : q = g ∨ v.1 = some ⟨q, 0, none⟩ ∨ TblS a n vs q := by
  rcases h with e | ⟨i, hi, e⟩
  · cases e; exact .inl rfl
  · by_cases hin : i < n
    · have : (vs ++ [v]).getD i svO = vs.getD i svO := by simp [List.getD_eq_getElem?_getD, List.getElem?_append_left (show i < vs.length by omega)]
      rw [this] at e
      exact .inr (.inr (.inr ⟨i, hin, e⟩))
    · obtain rfl : i = n := by omega
      have : (vs ++ [v]).getD i svO = v := by rw [← hl]; simp [List.getD_eq_getElem?_getD]
      rw [this] at e
      exact .inr (.inl e)
set_option maxHeartbeats 8000000 in
theorem l01Grow_any (N lo : Nat) (hN : N ≤ 7) : ∀ (m k : Nat) (s : List Int) (sa : Option Addr) (sc : Nat) (a : Option Addr) (n c : Nat) (vs : List SV) (xss : List (List Int)) (w : World),
    k + m = N → Own w lo sa k sc s → OwnT w lo a n c vs xss → (∀ g, sa = some ⟨g, 0, none⟩ → ¬ TblS a n vs g) → lo ≤ w.heap.size → n + N ^ m ≤ 1000000000 →
    Calls Try.prog 168 #[.int .i64 N, .slice sa k sc, .slice a n c] w (GrT (fun g => sa = some ⟨g, 0, none⟩) w lo a n vs (xss ++ grwL N m s)) := by
  intro m
  induction m with
  | zero =>
    intro k s sa sc a n c vs xss w hkm hs ht hap hlo hn
    obtain rfl : k = N := by omega
    have hq : ((k : Int) == (k : Int)) = true := by simp
    have h1 : Apart a sa := fun g hg hsa => hap g hsa (.inl hg)
    have h2 : ∀ j, j < n → Apart sa (vs.getD j svO).1 := fun j hj g hg hv => hap g hg (.inr ⟨j, hj, hv⟩)
    go_enter Try.func168, Try.ntmps168
    go_wp2_with (at_builtin; refine appT1g rfl rfl ht rfl hs h1 h2 rfl (by omega) hlo ?_; intro g' cc w8 hO hg8 hat8 hb8)
    go_ret
    refine ⟨_, _, _, _, rfl, hO, Marked.grown ht hg8, fun g hg => ?_⟩
    rcases TblS.snoc (a := a) ht.vlen hg with rfl | h | h
    · rcases hat8 with h | h
      · exact .inl (ht.ownBlk h)
      · exact .inr (.inr h)
    · exact .inr (.inl h)
    · exact .inl h
  | succ m ih =>
    intro k s sa sc a n c vs xss w hkm hs ht hap hlo hn
    have IH := Lib.hid ih
    have hq : ((k : Int) == (N : Int)) = false := by simp; omega
    have HP := Lib.hid (grwP_le N m s)
    have HS := Lib.hid (grwP_succ N m s)
    have HE : Hid (grwP N m s N = grwL N (m + 1) s) := Lib.hid rfl
    have hpw : N ^ (m + 1) = N ^ m * N := Nat.pow_succ ..
    have HN : Hid (∀ x, x < N → n + x * N ^ m + N ^ m ≤ 1000000000) := Lib.hid fun x hx => by
      have : (x + 1) * N ^ m ≤ N * N ^ m := Nat.mul_le_mul_right _ hx
      rw [Nat.add_mul, Nat.one_mul] at this
      rw [Nat.mul_comm] at hpw
      omega
    have HAP := Lib.hid hap
    have HL := Lib.hid ht.tbl.len
    have hlo2 := hlo
    clear ih hn hpw hap
    go_enter Try.func168, Try.ntmps168
    go_wp2
    go_loopw [2, 7] (fun l i wr => ∃ (x : Nat) (a' : Option Addr) (n' c' : Nat) (vs' : List SV), x ≤ N ∧ i = .int .i64 x ∧ l = .slice a' n' c' ∧ OwnT wr lo a' n' c' vs' (xss ++ grwP N m s x) ∧ Marked (TblS a n vs) w wr ∧ (∀ g, TblS a' n' vs' g → TblS a n vs g ∨ w.heap.size ≤ g)) (fun _ i _ => N - (intOf i).toNat)
    case atStart => exact ⟨0, a, n, c, vs, Nat.zero_le _, rfl, rfl, by simpa [grwP] using ht, Marked.refl _ _, fun g h => .inl h⟩
    case round =>
      obtain ⟨x, a', n', c', vs', hx, rfl, rfl, ht', hM, hsub⟩ := hrel
      have HSUB := Lib.hid hsub
      clear hsub
      by_cases hlt : x < N
      · have hs' := Marked.own hs hM (fun g hg => HAP.out g hg)
        have hwr := hM.size
        have hnl := ht'.tbl.len
        rw [List.length_append] at hnl
        have hn' : n' + N ^ m ≤ 1000000000 := by have := HN.out x hlt; have := HP.out x; have := HL.out; omega
        clear hnl
        have HT := HS.out x
        go_wp2_with fail
        refine (l01Has_any sa k sc s (x : Int) _ hs'.row (by omega)).mono ?_
        rintro e w2 ⟨rfl, rfl⟩
        by_cases hin : (x : Int) ∈ s
        · have hd : decide ((x : Int) ∈ s) = true := by simpa using hin
          rw [hd]
          rw [if_pos hin, List.append_nil] at HT
          have HTT := Lib.hid HT
          clear HT hin hd
          go_wp2
          go_roundw
          case rel => exact ⟨x + 1, a', n', c', vs', by omega, by go_num, rfl, by rw [HTT.out]; exact ht', hM, HSUB.out⟩
          case measure => simp [intOf]; omega
        · have hd : decide ((x : Int) ∈ s) = false := by simpa using hin
          rw [hd]
          rw [if_neg hin] at HT
          have HTT := Lib.hid HT
          clear HT hin hd
          go_wp2_with fail
          refine (l01Own_any sa k sc s _ hs'.row (by omega)).mono ?_
          rintro e w3 ⟨a5, c5, rfl, ho5, hb3⟩
          have hz3 := hb3.size
          go_wp2_with (at_builtin; refine app1 rfl rfl ho5 rfl rfl (by omega) hz3 ?_; intro g' cc w8 hO hg8 hs8 hb8)
          have hb38 := hb3.trans hb8
          have hgl := hO.lt
          refine (IH.out (k + 1) (s ++ [(x : Int)]) (some ⟨g', 0, none⟩) cc a' n' c' vs' _ w8 (by omega) (hO.mono (by omega)) (ht'.below hb38) (fun g e h => by cases e; have := ht'.uHi _ h; omega) (by have := hb38.size; omega) hn').mono ?_
          rintro e w9 ⟨a9, n9, c9, vs9, rfl, ht9, hM9, hsub9⟩
          go_wp2
          go_roundw
          case rel =>
            refine ⟨x + 1, a9, n9, c9, vs9, by omega, by go_num, rfl, by rw [HTT.out, ← List.append_assoc]; exact ht9, (hM.then (Marked.ofB (S := fun _ => False) hb38) (fun _ h => h.elim)).then hM9 HSUB.out, fun g hg => ?_⟩
            rcases hsub9 g hg with h | h | h
            · exact HSUB.out g h
            · cases h; exact .inr (by omega)
            · exact .inr (by have := hb38.size; omega)
          case measure => simp [intOf]; omega
      · obtain rfl : N = x := by omega
        go_wp2
        go_ret
        exact ⟨a', n', c', vs', rfl, by rw [← HE.out]; exact ht', hM, fun g hg => (HSUB.out g hg).elim .inl (fun h => .inr (.inr h))⟩

/-- all permutations -/
def prmL (n : Nat) : List (List Int) := grwL n n []
set_option maxHeartbeats 2000000 in
theorem l01Perms_any (N : Nat) (w : World) (hN : N ≤ 7) :
    Calls Try.prog 121 #[.int .i64 N] w fun e w' => ∃ a n c vs, e = .returned (.slice a n c) ∧ OwnT w' w.heap.size a n c vs (prmL N) ∧ Below w.heap.size w w' := by
  have hp := pow_bd hN hN
  go_enter Try.func121, Try.ntmps121
  go_wp2_with fail
  refine (l01Grow_any N w.heap.size hN N 0 [] (some ⟨w.heap.size, 0, none⟩) 0 (some ⟨w.heap.size + 1, 0, none⟩) 0 0 [] [] _ (by omega) ((Own.fresh w rfl).alloc _) ((OwnT.fresh (w.alloc (.cells #[] 2)) (b := w.heap.size + 1) (by simp)).mono (lo' := w.heap.size) (by simp)) (fun g hg h => ?_) (by simp; omega) (by omega)).mono ?_
  · cases hg
    rcases h with h | ⟨i, hi, _⟩
    · injection h with h; injection h with h; omega
    · omega
  · rintro e w1 ⟨a', n', c', vs', rfl, ht, hM, hsub⟩
    go_wp2
    go_ret
    refine ⟨a', n', c', vs', rfl, ht, ?_⟩
    have h1 : Below w.heap.size (((w.alloc (.cells #[] 2)).alloc (.cells #[] 22))) w1 := Marked.lowb hM (fun g hg => by
      rcases hg with h | ⟨i, hi, _⟩
      · injection h with h; injection h with h; omega
      · omega) (by simp; omega)
    exact (below_al (below_al (Below.refl _ _) _) _).trans h1
end Go.Proofs.Ytehomfbehhlhmaa
