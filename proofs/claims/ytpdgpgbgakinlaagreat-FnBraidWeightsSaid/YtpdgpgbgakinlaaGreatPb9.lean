/-
  Walks and plain laws of this seat, some texts in one.
  No condition but bounds on lengths.
-/
import Derived.Test.YtpdgpgbgakinlaaGreatPb8
import Derived.Test.YtpdgpgbgakinlaaGreatPb3
import Derived.Deep.LoopGhost
namespace Go.Proofs.YtpdgpgbgakinlaaGreat
set_option maxRecDepth 100000
set_option linter.unusedVariables false
set_option linter.unusedSimpArgs false
open Go.RowKit
def grwL (n : Nat) : Nat → List Int → List (List Int)
  | 0, s => [s]
  | m + 1, s => (List.range n).flatMap fun x : Nat => if (x : Int) ∈ s then [] else grwL n m (s ++ [(x : Int)])
def grwP (n m : Nat) (s : List Int) (k : Nat) : List (List Int) := (List.range k).flatMap fun x : Nat => if (x : Int) ∈ s then [] else grwL n m (s ++ [(x : Int)])
theorem grwP_succ (n m : Nat) (s : List Int) (k : Nat) : grwP n m s (k + 1) = grwP n m s k ++ if (k : Int) ∈ s then [] else grwL n m (s ++ [(k : Int)]) := by
  simp [grwP, List.range_succ, List.flatMap_append]
theorem grwL_bd (n : Nat) : ∀ (m : Nat) (s : List Int), (grwL n m s).length ≤ n ^ m := by
  intro m
  induction m with
  | zero => intro s; simp [grwL]
  | succ m ih =>
    intro s
    have : ∀ k, (grwP n m s k).length ≤ k * n ^ m := by
      intro k
      induction k with
      | zero => simp [grwP]
      | succ k ihk =>
        rw [grwP_succ, List.length_append, Nat.add_mul, Nat.one_mul]
        split
        · simp; omega
        · have := ih (s ++ [(k : Int)]); omega
    have h := this n
    rw [Nat.pow_succ, Nat.mul_comm]
    exact h
theorem grwP_le (n m : Nat) (s : List Int) (k : Nat) : (grwP n m s k).length ≤ k * n ^ m := by
  induction k with
  | zero => simp [grwP]
  | succ k ihk =>
    rw [grwP_succ, List.length_append, Nat.add_mul, Nat.one_mul]
    split
    · simp; omega
    · have := grwL_bd n m (s ++ [(k : Int)]); omega
theorem pow_bd {n m : Nat} (hn : n ≤ 7) (hm : m ≤ 7) : n ^ m ≤ 1000000 := by
  have h1 : n ^ m ≤ 7 ^ m := Nat.pow_le_pow_left hn m
  have h2 : 7 ^ m ≤ 7 ^ 7 := Nat.pow_le_pow_right (by omega) hm
  have h3 : (7 : Nat) ^ 7 ≤ 1000000 := by decide
  omega
def GrT (E : Nat → Prop) (w : World) (lo : Nat) (a : Option Addr) (n : Nat) (vs : List SV) (yss : List (List Int)) (e : Ending) (w' : World) : Prop :=
  ∃ a' n' c' vs', e = .returned (.slice a' n' c') ∧ OwnT w' lo a' n' c' vs' yss ∧ Marked (TblS a n vs) w w' ∧ ∀ g, TblS a' n' vs' g → TblS a n vs g ∨ E g ∨ w.heap.size ≤ g
theorem Marked.refl (S : Nat → Prop) (w : World) : Marked S w w := ⟨rfl, rfl, rfl, Nat.le_refl _, fun _ _ _ => rfl⟩
theorem Marked.ofB {S : Nat → Prop} {w w' : World} (h : Below w.heap.size w w') : Marked S w w' := ⟨h.os, h.tape, h.output, h.size, fun k hk _ => h.block k hk⟩
theorem Marked.then {S T : Nat → Prop} {a b c : World} (h : Marked S a b) (k : Marked T b c) (hT : ∀ g, T g → S g ∨ a.heap.size ≤ g) : Marked S a c :=
  ⟨k.os.trans h.os, k.tape.trans h.tape, k.output.trans h.output, Nat.le_trans h.size k.size, fun i hi hs => (k.block i (Nat.lt_of_lt_of_le hi h.size) (fun ht => by rcases hT i ht with h' | h'; exact hs h'; omega)).trans (h.block i hi hs)⟩
theorem Marked.grown {w w' : World} {lo : Nat} {a : Option Addr} {n c : Nat} {vs : List SV} {xss : List (List Int)} (h : OwnT w lo a n c vs xss) (hg : w.grownBy w' (Value.slice a n c).ownBlock) : Marked (TblS a n vs) w w' :=
  ⟨hg.os, hg.tape, hg.output, hg.size, fun k hk hs => hg.block k hk (fun e => hs (h.ownBlk e.symm))⟩
theorem Marked.own {w w' : World} {S : Nat → Prop} {lo : Nat} {a : Option Addr} {n c : Nat} {xs : List Int} (h : Own w lo a n c xs) (hm : Marked S w w') (hS : ∀ g, a = some ⟨g, 0, none⟩ → ¬ S g) : Own w' lo a n c xs := h.uKeep hm hS
theorem Marked.lowb {w w' : World} {S : Nat → Prop} {lo : Nat} (hm : Marked S w w') (hS : ∀ g, S g → lo ≤ g) (hlo : lo ≤ w.heap.size) : Below lo w w' := ⟨hm.os, hm.tape, hm.output, hm.size, fun k hk => hm.block k (by omega) (fun h => by have := hS k h; omega)⟩
theorem TblS.snoc {a : Option Addr} {n : Nat} {vs : List SV} {v : SV} {g q : Nat} (hl : vs.length = n) (h : TblS (some ⟨g, 0, none⟩) (n + 1) (vs ++ [v]) q) : q = g ∨ v.1 = some ⟨q, 0, none⟩ ∨ TblS a n vs q := by
  rcases h with e | ⟨i, hi, e⟩
  · cases e; exact .inl rfl
  · by_cases hin : i < n
    · have : (vs ++ [v]).getD i svO = vs.getD i svO := by simp [List.getD_eq_getElem?_getD, List.getElem?_append_left (show i < vs.length by omega)]
      rw [this] at e
      exact .inr (.inr (.inr ⟨i, hin, e⟩))
    · obtain rfl : i = n := by omega
      have : (vs ++ [v]).getD i svO = v := by rw [← hl]; simp [List.getD_eq_getElem?_getD]
      rw [this] at e
      exact .inr (.inl e)
set_option maxHeartbeats 8000000 in
theorem l01Grow_any (N lo : Nat) (hN : N ≤ 7) : ∀ (m k : Nat) (s : List Int) (sa : Option Addr) (sc : Nat) (a : Option Addr) (n c : Nat) (vs : List SV) (xss : List (List Int)) (w : World),
    k + m = N → Own w lo sa k sc s → OwnT w lo a n c vs xss → (∀ g, sa = some ⟨g, 0, none⟩ → ¬ TblS a n vs g) → lo ≤ w.heap.size → n + N ^ m ≤ 1000000000 →
    Calls Tryz.prog 180 #[.int .i64 N, .slice sa k sc, .slice a n c] w (GrT (fun g => sa = some ⟨g, 0, none⟩) w lo a n vs (xss ++ grwL N m s)) := by
  intro m
  induction m with
  | zero =>
    intro k s sa sc a n c vs xss w hkm hs ht hap hlo hn
    obtain rfl : k = N := by omega
    have hq : ((k : Int) == (k : Int)) = true := by simp
    have h1 : Apart a sa := fun g hg hsa => hap g hsa (.inl hg)
    have h2 : ∀ j, j < n → Apart sa (vs.getD j svO).1 := fun j hj g hg hv => hap g hg (.inr ⟨j, hj, hv⟩)
    go_enter Tryz.func180, Tryz.ntmps180
    go_wp2_with (at_builtin; refine appT1g rfl rfl ht rfl hs h1 h2 rfl (by omega) hlo ?_; intro g' cc w8 hO hg8 hat8 hb8)
    go_ret
    refine ⟨_, _, _, _, rfl, hO, Marked.grown ht hg8, fun g hg => ?_⟩
    rcases TblS.snoc (a := a) ht.vlen hg with rfl | h | h
    · rcases hat8 with h | h
      · exact .inl (ht.ownBlk h)
      · exact .inr (.inr h)
    · exact .inr (.inl h)
    · exact .inl h
  | succ m ih =>
    intro k s sa sc a n c vs xss w hkm hs ht hap hlo hn
    have IH := Lib.hid ih
    have hq : ((k : Int) == (N : Int)) = false := by simp; omega
    have HP := Lib.hid (grwP_le N m s)
    have HS := Lib.hid (grwP_succ N m s)
    have HE : Hid (grwP N m s N = grwL N (m + 1) s) := Lib.hid rfl
    have hpw : N ^ (m + 1) = N ^ m * N := Nat.pow_succ ..
    have HN : Hid (∀ x, x < N → n + x * N ^ m + N ^ m ≤ 1000000000) := Lib.hid fun x hx => by
      have : (x + 1) * N ^ m ≤ N * N ^ m := Nat.mul_le_mul_right _ hx
      rw [Nat.add_mul, Nat.one_mul] at this
      rw [Nat.mul_comm] at hpw
      omega
    have HAP := Lib.hid hap
    have HL := Lib.hid ht.tbl.len
    have hlo2 := hlo
    clear ih hn hpw hap
    go_enter Tryz.func180, Tryz.ntmps180
    go_wp2
    go_loopw [2, 7] (fun l i wr => ∃ (x : Nat) (a' : Option Addr) (n' c' : Nat) (vs' : List SV), x ≤ N ∧ i = .int .i64 x ∧ l = .slice a' n' c' ∧ OwnT wr lo a' n' c' vs' (xss ++ grwP N m s x) ∧ Marked (TblS a n vs) w wr ∧ (∀ g, TblS a' n' vs' g → TblS a n vs g ∨ w.heap.size ≤ g)) (fun _ i _ => N - (intOf i).toNat)
    case atStart => exact ⟨0, a, n, c, vs, Nat.zero_le _, rfl, rfl, by simpa [grwP] using ht, Marked.refl _ _, fun g h => .inl h⟩
    case round =>
      obtain ⟨x, a', n', c', vs', hx, rfl, rfl, ht', hM, hsub⟩ := hrel
      have HSUB := Lib.hid hsub
      clear hsub
      by_cases hlt : x < N
      · have hs' := Marked.own hs hM (fun g hg => HAP.out g hg)
        have hwr := hM.size
        have hnl := ht'.tbl.len
        rw [List.length_append] at hnl
        have hn' : n' + N ^ m ≤ 1000000000 := by have := HN.out x hlt; have := HP.out x; have := HL.out; omega
        clear hnl
        have HT := HS.out x
        go_wp2_with fail
        refine (l01Has_any sa k sc s (x : Int) _ hs'.row (by omega)).mono ?_
        rintro e w2 ⟨rfl, rfl⟩
        by_cases hin : (x : Int) ∈ s
        · have hd : decide ((x : Int) ∈ s) = true := by simpa using hin
          rw [hd]
          rw [if_pos hin, List.append_nil] at HT
          have HTT := Lib.hid HT
          clear HT hin hd
          go_wp2
          go_roundw
          case rel => exact ⟨x + 1, a', n', c', vs', by omega, by go_num, rfl, by rw [HTT.out]; exact ht', hM, HSUB.out⟩
          case measure => simp [intOf]; omega
        · have hd : decide ((x : Int) ∈ s) = false := by simpa using hin
          rw [hd]
          rw [if_neg hin] at HT
          have HTT := Lib.hid HT
          clear HT hin hd
          go_wp2_with fail
          refine (l01Own_any sa k sc s _ hs'.row (by omega)).mono ?_
          rintro e w3 ⟨a5, c5, rfl, ho5, hb3⟩
          have hz3 := hb3.size
          go_wp2_with (at_builtin; refine app1 rfl rfl ho5 rfl rfl (by omega) hz3 ?_; intro g' cc w8 hO hg8 hs8 hb8)
          have hb38 := hb3.trans hb8
          have hgl := hO.lt
          refine (IH.out (k + 1) (s ++ [(x : Int)]) (some ⟨g', 0, none⟩) cc a' n' c' vs' _ w8 (by omega) (hO.mono (by omega)) (ht'.below hb38) (fun g e h => by cases e; have := ht'.uHi _ h; omega) (by have := hb38.size; omega) hn').mono ?_
          rintro e w9 ⟨a9, n9, c9, vs9, rfl, ht9, hM9, hsub9⟩
          go_wp2
          go_roundw
          case rel =>
            refine ⟨x + 1, a9, n9, c9, vs9, by omega, by go_num, rfl, by rw [HTT.out, ← List.append_assoc]; exact ht9, (hM.then (Marked.ofB (S := fun _ => False) hb38) (fun _ h => h.elim)).then hM9 HSUB.out, fun g hg => ?_⟩
            rcases hsub9 g hg with h | h | h
            · exact HSUB.out g h
            · cases h; exact .inr (by omega)
            · exact .inr (by have := hb38.size; omega)
          case measure => simp [intOf]; omega
      · obtain rfl : N = x := by omega
        go_wp2
        go_ret
        exact ⟨a', n', c', vs', rfl, by rw [← HE.out]; exact ht', hM, fun g hg => (HSUB.out g hg).elim .inl (fun h => .inr (.inr h))⟩
def prmL (n : Nat) : List (List Int) := grwL n n []
set_option maxHeartbeats 2000000 in
theorem l01Perms_any (N : Nat) (w : World) (hN : N ≤ 7) :
    Calls Tryz.prog 160 #[.int .i64 N] w fun e w' => ∃ a n c vs, e = .returned (.slice a n c) ∧ OwnT w' w.heap.size a n c vs (prmL N) ∧ Below w.heap.size w w' := by
  have hp := pow_bd hN hN
  go_enter Tryz.func160, Tryz.ntmps160
  go_wp2_with fail
  refine (l01Grow_any N w.heap.size hN N 0 [] (some ⟨w.heap.size, 0, none⟩) 0 (some ⟨w.heap.size + 1, 0, none⟩) 0 0 [] [] _ (by omega) ((Own.fresh w rfl).alloc _) ((OwnT.fresh (w.alloc (.cells #[] 2)) (b := w.heap.size + 1) (by simp)).mono (lo' := w.heap.size) (by simp)) (fun g hg h => ?_) (by simp; omega) (by omega)).mono ?_
  · cases hg
    rcases h with h | ⟨i, hi, _⟩
    · injection h with h; injection h with h; omega
    · omega
  · rintro e w1 ⟨a', n', c', vs', rfl, ht, hM, hsub⟩
    go_wp2
    go_ret
    refine ⟨a', n', c', vs', rfl, ht, ?_⟩
    have h1 : Below w.heap.size (((w.alloc (.cells #[] 2)).alloc (.cells #[] 27))) w1 := Marked.lowb hM (fun g hg => by
      rcases hg with h | ⟨i, hi, _⟩
      · injection h with h; injection h with h; omega
      · omega) (by simp; omega)
    exact (below_al (below_al (Below.refl _ _) _) _).trans h1
end Go.Proofs.YtpdgpgbgakinlaaGreat

namespace Go.Proofs.YtpdgpgbgakinlaaGreat
set_option maxRecDepth 100000
set_option linter.unusedVariables false
set_option linter.unusedSimpArgs false
open Go.RowKit
abbrev TV : Type := SV × List SV
def tvO : TV := (svO, [])
def slT (u : TV) : Value := sl u.1
def TvS (u : TV) (g : Nat) : Prop := TblS u.1.1 u.1.2.1 u.2 g
def OwnV (w : World) (lo : Nat) (u : TV) (t : List (List Int)) : Prop := OwnT w lo u.1.1 u.1.2.1 u.1.2.2 u.2 t
structure OwnTT (w : World) (lo : Nat) (a : Option Addr) (n c : Nat) (us : List TV) (ts : List (List (List Int))) : Prop where
  len : n = ts.length
  ulen : us.length = n
  hdr : w.ownsRow lo 24 1 (.slice a n c) n (us.map slT)
  tab : ∀ i, i < n → OwnV w lo (us.getD i tvO) (ts.getD i [])
  ap : ∀ i, i < n → ∀ g, a = some ⟨g, 0, none⟩ → ¬ TvS (us.getD i tvO) g
  pw : ∀ i j, i < n → j < n → i ≠ j → ∀ g, TvS (us.getD i tvO) g → ¬ TvS (us.getD j tvO) g
def TTS (a : Option Addr) (n : Nat) (us : List TV) (g : Nat) : Prop := a = some ⟨g, 0, none⟩ ∨ ∃ i, i < n ∧ TvS (us.getD i tvO) g
section
variable {w w' : World} {lo : Nat} {a : Option Addr} {n c : Nat} {us : List TV} {ts : List (List (List Int))}
theorem OwnTT.nil (w : World) (lo : Nat) : OwnTT w lo none 0 0 [] [] :=
  ⟨rfl, rfl, World.ownsRow_nil w lo _ 1, fun i h => absurd h (by omega), fun i h => absurd h (by omega), fun i j h => absurd h (by omega)⟩
theorem OwnTT.block (h : OwnTT w lo a n c us ts) : (a = none ∧ n = 0 ∧ c = 0) ∨ ∃ g cur, a = some ⟨g, 0, none⟩ ∧ lo ≤ g ∧ Loc w g cur 24 ∧ n ≤ c ∧ c ≤ maxLen ∧ cur.size = c ∧ cur.toList.take n = us.map slT := by
  rcases h.hdr.2 with ⟨h1, h2⟩ | ⟨g, cap, cur, h1, h2, h3, h4, h5, h6, h7⟩
  · cases h1; exact .inl ⟨rfl, rfl, rfl⟩
  · cases h1; exact .inr ⟨g, cur, rfl, h2, h3, h4, h5, by simpa using h6, by simpa using h7⟩
theorem ownsRowT_mk {w : World} {lo g n c : Nat} {us : List TV} {cur : Array Value} (hn : us.length = n) (h1 : lo ≤ g) (h2 : Loc w g cur 24) (h3 : n ≤ c) (h4 : c ≤ maxLen) (h5 : cur.size = c) (h6 : cur.toList.take n = us.map slT) :
    w.ownsRow lo 24 1 (.slice (some ⟨g, 0, none⟩) n c) n (us.map slT) :=
  ⟨by simp [hn], .inr ⟨g, c, cur, rfl, h1, h2, h3, h4, by simpa using h5, by simpa using h6⟩⟩
theorem OwnTT.high (h : OwnTT w lo a n c us ts) : ∀ g, a = some ⟨g, 0, none⟩ → g < w.heap.size := by
  intro g hg
  rcases h.block with ⟨h1, _⟩ | ⟨g', cur, h1, h2, h3, _⟩
  · rw [h1] at hg; cases hg
  · rw [h1] at hg; cases hg; exact h3.lt
theorem OwnTT.low (h : OwnTT w lo a n c us ts) : ∀ g, a = some ⟨g, 0, none⟩ → lo ≤ g := by
  intro g hg
  rcases h.block with ⟨h1, _⟩ | ⟨g', cur, h1, h2, h3, _⟩
  · rw [h1] at hg; cases hg
  · rw [h1] at hg; cases hg; exact h2
theorem OwnTT.uLo (h : OwnTT w lo a n c us ts) : ∀ g, TTS a n us g → lo ≤ g := fun g hg => by
  rcases hg with hg | ⟨i, hi, hg⟩
  · exact h.low g hg
  · exact (h.tab i hi).uLo g hg
theorem OwnTT.uHi (h : OwnTT w lo a n c us ts) : ∀ g, TTS a n us g → g < w.heap.size := fun g hg => by
  rcases hg with hg | ⟨i, hi, hg⟩
  · exact h.high g hg
  · exact (h.tab i hi).uHi g hg
theorem OwnTT.keep (h : OwnTT w lo a n c us ts) (hk : ∀ g, TTS a n us g → g < w.heap.size → w'.heap[g]? = w.heap[g]?) : OwnTT w' lo a n c us ts := by
  refine ⟨h.len, h.ulen, ?_, fun i hi => OwnT.keep (h.tab i hi) fun g hg hlt => hk g (.inr ⟨i, hi, hg⟩) hlt, h.ap, h.pw⟩
  rcases h.block with ⟨h1, h2, h3⟩ | ⟨g, cur, h1, h2, h3, h4, h5, h6, h7⟩
  · subst h1 h2 h3
    have : us = [] := List.eq_nil_of_length_eq_zero h.ulen
    subst this; exact World.ownsRow_nil _ _ _ _
  · subst h1
    exact ownsRowT_mk h.ulen h2 ((hk g (.inl rfl) h3.lt).trans h3) h4 h5 h6 h7
theorem OwnTT.below (h : OwnTT w lo a n c us ts) (hb : Below w.heap.size w w') : OwnTT w' lo a n c us ts := h.keep fun g _ hlt => hb.block g hlt
theorem OwnTT.alloc (h : OwnTT w lo a n c us ts) (o : Obj) : OwnTT (w.alloc o) lo a n c us ts := h.below ((Below.refl _ _).alloc (Nat.le_refl _) o)
theorem OwnTT.drewN (h : OwnTT w lo a n c us ts) (k : Nat) : OwnTT (w.drewN k) lo a n c us ts := h.keep fun _ _ _ => rfl
theorem OwnTT.mono {lo' : Nat} (h : OwnTT w lo a n c us ts) (hl : lo' ≤ lo) : OwnTT w lo' a n c us ts := by
  refine ⟨h.len, h.ulen, ?_, fun i hi => (h.tab i hi).mono hl, h.ap, h.pw⟩
  rcases h.block with ⟨h1, h2, h3⟩ | ⟨g, cur, h1, h2, h3, h4, h5, h6, h7⟩
  · subst h1 h2 h3
    have : us = [] := List.eq_nil_of_length_eq_zero h.ulen
    subst this; exact World.ownsRow_nil _ _ _ _
  · subst h1; exact ownsRowT_mk h.ulen (Nat.le_trans hl h2) h3 h4 h5 h6 h7
theorem OwnTT.setlo (h : OwnTT w lo a n c us ts) {p : Addr} (hp : p.block < lo) (u : Value) : OwnTT (w.setCell p u) lo a n c us ts :=
  h.keep fun g hg _ => Below.heap_setCell _ _ _ _ (by have := h.uLo g hg; omega)
theorem OwnTT.cap (h : OwnTT w lo a n c us ts) : n ≤ c ∧ c ≤ 9223372036854775807 := by
  rcases h.block with ⟨_, h1, h2⟩ | ⟨g', cur, h1, h2, h3, h4, h5, _⟩
  · omega
  · unfold maxLen at h5; omega
theorem OwnTT.cells (h : OwnTT w lo a n c us ts) (hn : 0 < n) : ∃ g, a = some ⟨g, 0, none⟩ ∧ g < w.heap.size ∧ (∀ i, i < n → w.cell? ⟨g, i, none⟩ = some (slT (us.getD i tvO))) ∧ ∀ i, w.frozen? ⟨g, i, none⟩ = false := by
  rcases h.block with ⟨h1, h2, h3⟩ | ⟨g, cur, h1, h2, h3, h4, h5, h6, h7⟩
  · omega
  · refine ⟨g, h1, h3.lt, fun i hi => h3.cell i ?_, fun i => h3.free i⟩
    have hx : (cur.toList.take n)[i]? = (us.map slT)[i]? := by rw [h7]
    have hxi : i < us.length := by have := h.ulen; omega
    rw [List.getElem?_take, if_pos hi] at hx
    simp [List.getElem?_eq_getElem hxi] at hx
    simp [List.getD_eq_getElem?_getD, List.getElem?_eq_getElem hxi, hx]
theorem OwnTT.ownBlk (h : OwnTT w lo a n c us ts) {g : Nat} (e : (Value.slice a n c).ownBlock = some g) : a = some ⟨g, 0, none⟩ := by
  rcases h.block with ⟨r1, _⟩ | ⟨g2, cur, r1, _⟩
  · subst r1; simp [Value.ownBlock] at e
  · subst r1; simp [Value.ownBlock] at e; subst e; rfl
theorem OwnTT.snoc {o : Obj} {g cap : Nat} {u : TV} {t : List (List Int)} (h : OwnTT w lo a n c us ts) (hv : OwnV w lo u t) (h1 : ∀ q, TvS u q → ¬ TTS a n us q)
    (ho : w'.ownsRow lo 24 1 (.slice (some ⟨g, 0, none⟩) (n + 1) cap) (n + 1) (us.map slT ++ [slT u]))
    (hg : w.grownBy w' (Value.slice a n c).ownBlock) (hat : (Value.slice a n c).ownBlock = some g ∨ w.heap.size ≤ g) : OwnTT w' lo (some ⟨g, 0, none⟩) (n + 1) cap (us ++ [u]) (ts ++ [t]) := by
  have hl := h.len
  have hul := h.ulen
  have gl : ∀ i, i < n → (us ++ [u]).getD i tvO = us.getD i tvO := fun i hi => by simp [List.getD_eq_getElem?_getD, List.getElem?_append_left (show i < us.length by omega)]
  have gn : (us ++ [u]).getD n tvO = u := by rw [← hul]; simp [List.getD_eq_getElem?_getD]
  have xl : ∀ i, i < n → (ts ++ [t]).getD i [] = ts.getD i [] := fun i hi => by simp [List.getD_eq_getElem?_getD, List.getElem?_append_left (show i < ts.length by omega)]
  have xn : (ts ++ [t]).getD n [] = t := by rw [hl]; simp [List.getD_eq_getElem?_getD]
  have keepR : ∀ i, i < n → OwnV w' lo (us.getD i tvO) (ts.getD i []) := fun i hi => OwnT.keep (h.tab i hi) fun q hq hlt => hg.block q hlt fun e => h.ap i hi q (h.ownBlk e.symm) hq
  have keepV : OwnV w' lo u t := OwnT.keep hv fun q hq hlt => hg.block q hlt fun e => h1 q hq (.inl (h.ownBlk e.symm))
  refine ⟨by simp [hl], by simp [hul], by simpa using ho, fun i hi => ?_, fun i hi q hq hs => ?_, fun i j hi hj hij q h3 h4 => ?_⟩
  · by_cases e : i < n
    · rw [gl i e, xl i e]; exact keepR i e
    · obtain rfl : i = n := by omega
      rw [gn, xn]; exact keepV
  · cases hq
    by_cases e : i < n
    · rw [gl i e] at hs
      rcases hat with hat | hat
      · exact h.ap i e g (h.ownBlk hat) hs
      · have := (h.tab i e).uHi g hs; omega
    · obtain rfl : i = n := by omega
      rw [gn] at hs
      rcases hat with hat | hat
      · exact h1 g hs (.inl (h.ownBlk hat))
      · have := OwnT.uHi hv g hs; omega
  · by_cases e : i < n
    · rw [gl i e] at h3
      by_cases e' : j < n
      · rw [gl j e'] at h4; exact h.pw i j e e' hij q h3 h4
      · obtain rfl : j = n := by omega
        rw [gn] at h4; exact h1 q h4 (.inr ⟨i, e, h3⟩)
    · obtain rfl : i = n := by omega
      rw [gn] at h3
      have e' : j < i := by omega
      rw [gl j e'] at h4; exact h1 q h3 (.inr ⟨j, e', h4⟩)
theorem TTS.snoc {u : TV} {g q : Nat} (hl : us.length = n) (h : TTS (some ⟨g, 0, none⟩) (n + 1) (us ++ [u]) q) : q = g ∨ TvS u q ∨ TTS a n us q := by
  rcases h with e | ⟨i, hi, e⟩
  · cases e; exact .inl rfl
  · by_cases hin : i < n
    · have : (us ++ [u]).getD i tvO = us.getD i tvO := by simp [List.getD_eq_getElem?_getD, List.getElem?_append_left (show i < us.length by omega)]
      rw [this] at e
      exact .inr (.inr (.inr ⟨i, hin, e⟩))
    · obtain rfl : i = n := by omega
      have : (us ++ [u]).getD i tvO = u := by rw [← hl]; simp [List.getD_eq_getElem?_getD]
      rw [this] at e
      exact .inr (.inl e)
theorem Marked.grownTT (h : OwnTT w lo a n c us ts) (hg : w.grownBy w' (Value.slice a n c).ownBlock) : Marked (TTS a n us) w w' :=
  ⟨hg.os, hg.tape, hg.output, hg.size, fun k hk hs => hg.block k hk (fun e => hs (.inl (h.ownBlk e.symm)))⟩
end
end Go.Proofs.YtpdgpgbgakinlaaGreat

namespace Go.Proofs.YtpdgpgbgakinlaaGreat
set_option maxRecDepth 100000
set_option linter.unusedVariables false
set_option linter.unusedSimpArgs false
open Go.RowKit
def HdR (w : World) (a : Option Addr) (n : Nat) (vs : List SV) : Prop := vs.length = n ∧ ∀ i, i < n → ∃ b off, a = some ⟨b, off, none⟩ ∧ b < w.heap.size ∧ w.cell? ⟨b, off + i, none⟩ = some (sl (vs.getD i svO))
def Hd (w : World) (lo : Nat) (a : Option Addr) (n c : Nat) (vs : List SV) : Prop := vs.length = n ∧ w.ownsRow lo 27 1 (.slice a n c) n (vs.map sl)
section
variable {w w' : World} {lo : Nat} {a : Option Addr} {n c : Nat} {vs : List SV}
theorem Hd.nil (w : World) (lo : Nat) : Hd w lo none 0 0 [] := ⟨rfl, World.ownsRow_nil w lo _ 1⟩
theorem Hd.block (h : Hd w lo a n c vs) : (a = none ∧ n = 0 ∧ c = 0) ∨ ∃ g cur, a = some ⟨g, 0, none⟩ ∧ lo ≤ g ∧ Loc w g cur 27 ∧ n ≤ c ∧ c ≤ maxLen ∧ cur.size = c ∧ cur.toList.take n = vs.map sl := by
  rcases h.2.2 with ⟨h1, h2⟩ | ⟨g, cap, cur, h1, h2, h3, h4, h5, h6, h7⟩
  · cases h1; exact .inl ⟨rfl, rfl, rfl⟩
  · cases h1; exact .inr ⟨g, cur, rfl, h2, h3, h4, h5, by simpa using h6, by simpa using h7⟩
theorem Hd.hi (h : Hd w lo a n c vs) : ∀ g, a = some ⟨g, 0, none⟩ → g < w.heap.size := by
  intro g hg
  rcases h.block with ⟨h1, _⟩ | ⟨g', cur, h1, h2, h3, _⟩
  · rw [h1] at hg; cases hg
  · rw [h1] at hg; cases hg; exact h3.lt
theorem Hd.low (h : Hd w lo a n c vs) : ∀ g, a = some ⟨g, 0, none⟩ → lo ≤ g := by
  intro g hg
  rcases h.block with ⟨h1, _⟩ | ⟨g', cur, h1, h2, h3, _⟩
  · rw [h1] at hg; cases hg
  · rw [h1] at hg; cases hg; exact h2
theorem Hd.keep (h : Hd w lo a n c vs) (hk : ∀ g, a = some ⟨g, 0, none⟩ → g < w.heap.size → w'.heap[g]? = w.heap[g]?) : Hd w' lo a n c vs := by
  rcases h.block with ⟨h1, h2, h3⟩ | ⟨g, cur, h1, h2, h3, h4, h5, h6, h7⟩
  · subst h1 h2 h3
    have : vs = [] := List.eq_nil_of_length_eq_zero h.1
    subst this; exact Hd.nil _ _
  · subst h1
    exact ⟨h.1, ownsRow_mk h.1 h2 ((hk g rfl h3.lt).trans h3) h4 h5 h6 h7⟩
theorem Hd.below (h : Hd w lo a n c vs) (hb : Below w.heap.size w w') : Hd w' lo a n c vs := h.keep fun g _ hlt => hb.block g hlt
theorem Hd.alloc (h : Hd w lo a n c vs) (o : Obj) : Hd (w.alloc o) lo a n c vs := h.below ((Below.refl _ _).alloc (Nat.le_refl _) o)
theorem Hd.drewN (h : Hd w lo a n c vs) (k : Nat) : Hd (w.drewN k) lo a n c vs := h.keep fun _ _ _ => rfl
theorem Hd.mono {lo' : Nat} (h : Hd w lo a n c vs) (hl : lo' ≤ lo) : Hd w lo' a n c vs := by
  rcases h.block with ⟨h1, h2, h3⟩ | ⟨g, cur, h1, h2, h3, h4, h5, h6, h7⟩
  · subst h1 h2 h3
    have : vs = [] := List.eq_nil_of_length_eq_zero h.1
    subst this; exact Hd.nil _ _
  · subst h1; exact ⟨h.1, ownsRow_mk h.1 (Nat.le_trans hl h2) h3 h4 h5 h6 h7⟩
theorem Hd.read (h : Hd w lo a n c vs) : HdR w a n vs := by
  refine ⟨h.1, fun i hi => ?_⟩
  rcases h.block with ⟨h1, h2, h3⟩ | ⟨g, cur, h1, h2, h3, h4, h5, h6, h7⟩
  · omega
  · refine ⟨g, 0, h1, h3.lt, ?_⟩
    rw [Nat.zero_add]
    refine h3.cell i ?_
    have hx : (cur.toList.take n)[i]? = (vs.map sl)[i]? := by rw [h7]
    have hxi : i < vs.length := by have := h.1; omega
    rw [List.getElem?_take, if_pos hi] at hx
    simp [List.getElem?_eq_getElem hxi] at hx
    simp [List.getD_eq_getElem?_getD, List.getElem?_eq_getElem hxi, hx]
theorem HdR.below (h : HdR w a n vs) (hb : Below w.heap.size w w') : HdR w' a n vs :=
  ⟨h.1, fun i hi => by obtain ⟨b, off, h1, h3, h2⟩ := h.2 i hi; exact ⟨b, off, h1, Nat.lt_of_lt_of_le h3 hb.size, (hb.cell (p := ⟨b, off + i, none⟩) h3).trans h2⟩⟩
theorem HdR.alloc (h : HdR w a n vs) (o : Obj) : HdR (w.alloc o) a n vs := h.below ((Below.refl _ _).alloc (Nat.le_refl _) o)
theorem HdR.none_nil (h : HdR w none n vs) : n = 0 ∧ vs = [] := by
  have h1 : n = 0 := by
    rcases Nat.eq_zero_or_pos n with e | e
    · exact e
    · obtain ⟨b, off, e', _⟩ := h.2 0 e; cases e'
  exact ⟨h1, List.eq_nil_of_length_eq_zero (by have := h.1; omega)⟩
theorem HdR.tbl {xss : List (List Int)} (h : HdR w a n vs) (hl : n = xss.length) (hr : ∀ i, i < n → Row w (vs.getD i svO).1 (vs.getD i svO).2.1 (xss.getD i []) ∧ (vs.getD i svO).2.1 ≤ 9223372036854775807) : Tbl w a n xss :=
  ⟨hl, fun i hi => by obtain ⟨b, off, h1, h2, h3⟩ := h.2 i hi; exact ⟨b, off, _, _, _, h1, h2, h3, (hr i hi).1, (hr i hi).2⟩⟩
end
theorem Hd.fresh (w : World) {b : Nat} (hb : b = w.heap.size) : Hd (w.alloc (.cells #[] 27)) w.heap.size (some ⟨b, 0, none⟩) 0 0 [] :=
  ⟨rfl, ownsRow_mk rfl (by omega) (Loc.new _ hb _ _) (Nat.le_refl _) (by unfold maxLen; omega) rfl rfl⟩
theorem wp_appH {o : Oper} {a : Act} {K : Act → World → Prop} {Q : Exit → Act → World → Prop} {w : World} {s x : Operand}
    (ho : o.op = .call { callee := .builtin .append, args := #[s, x], argTypes := #[24, 24] }) {lo : Nat} {ad : Option Addr} {n c : Nat} {vs : List SV} (hown : Hd w lo ad n c vs) (hs : a.eval s = .slice ad n c)
    {ad2 : Option Addr} {m c2 : Nat} {us : List SV} (hr : HdR w ad2 m us) (hx : a.eval x = .slice ad2 m c2) (hlen : n + m ≤ 1000000000000) (hlo : lo ≤ w.heap.size)
    (h : ∀ ad' c' w', Hd w' lo ad' (n + m) c' (vs ++ us) → w.grownBy w' (Value.slice ad n c).ownBlock → Below lo w w' → K (a.put o.dst (.slice ad' (n + m) c')) w') :
    o.wp Tryz.prog a w K Q := by
  obtain ⟨i0, hi, hz0, hz1, hz2⟩ := info_parts info_rows
  obtain ⟨hn, hw⟩ := hown
  cases ad2 with
  | none =>
    obtain ⟨rfl, rfl⟩ := hr.none_nil
    have hrun := run_append_none_any (P := Tryz.prog) w lo 24 o.type 27 i0 1 und_rows hi _ n c2 _ hw
    unfold Oper.wp
    simp [execOp, ho, resolve, invoke, builtin, hs, hx, hrun, Result.andThen]
    have hh := h ad c w ⟨by simpa using hn, by simpa using hw⟩ (World.grownBy.refl _ _) (Below.refl _ _)
    exact hh
  | some p =>
    refine wp_append_own _ s x 24 ho lo 27 i0 (.slice none 0 0) 1 24 und_rows hi hz0 hz1 hz2 rfl (by decide) _ n (vs.map sl) hs hw p m c2 (us.map sl) hx (by simp [hr.1]) ?_ ?_ ?_ ?_ hlo ?_
    · intro j u hj
      have hjm : j < m := by
        have := (List.getElem?_eq_some_iff.1 hj).1
        rw [List.length_map] at this; have := hr.1; omega
      obtain ⟨b, off, h1, _, h2⟩ := hr.2 j hjm
      cases h1
      have e : (⟨b, off, none⟩ : Addr).add j = ⟨b, off + j, none⟩ := by unfold Addr.add; split <;> simp_all
      have hjy : j < us.length := by have := hr.1; omega
      rw [e, h2, ← hj]
      simp [List.getD_eq_getElem?_getD, List.getElem?_eq_getElem hjy]
    · intro u hu
      rw [List.mem_map] at hu
      obtain ⟨y, _, rfl⟩ := hu; rfl
    · unfold maxLen; omega
    · omega
    · intro v' w' ho' hg hv'
      have hb : Below lo w w' := (Below.refl _ _).grown hg hlo (fun k hk => (World.ownsRow.lt hw k hk).1)
      have ho2 := ho'
      obtain ⟨hl, h2⟩ := ho'
      rcases h2 with ⟨rfl, h2⟩ | ⟨g, cap, cur, rfl, h2⟩
      · have hn0 : n = 0 := by omega
        have hm0 : m = 0 := by omega
        subst hn0 hm0
        have hx0 : vs = [] := List.eq_nil_of_length_eq_zero hn
        have hy0 : us = [] := List.eq_nil_of_length_eq_zero hr.1
        subst hx0 hy0
        exact h none 0 w' (Hd.nil _ _) hg hb
      · exact h _ _ w' ⟨by simp [hn, hr.1], by simpa using ho2⟩ hg hb
end Go.Proofs.YtpdgpgbgakinlaaGreat

namespace Go.Proofs.YtpdgpgbgakinlaaGreat
set_option maxRecDepth 100000
set_option linter.unusedVariables false
set_option linter.unusedSimpArgs false
open Go.RowKit
structure FRow (n : Nat) (w : World) (v : SV) (p : Pm) : Prop where
  own : Own w 0 v.1 n v.2.2 (toL n p)
  len : v.2.1 = n
  fx : Fx n p
structure Fac (n : Nat) (w : World) (lo : Nat) (a : Option Addr) (m c : Nat) (vs : List SV) (Y : List Pm) : Prop where
  hd : Hd w lo a m c vs
  len : m = Y.length
  row : ∀ i, i < m → FRow n w (vs.getD i svO) (Y.getD i Pm.one)
  ap : ∀ i, i < m → ∀ g, a = some ⟨g, 0, none⟩ → (vs.getD i svO).1 ≠ some ⟨g, 0, none⟩
section
variable {n : Nat} {w w' : World} {lo : Nat} {a : Option Addr} {m c : Nat} {vs : List SV} {Y : List Pm} {v : SV} {p : Pm}
theorem FRow.below (h : FRow n w v p) (hb : Below w.heap.size w w') : FRow n w' v p := ⟨h.own.below hb, h.len, h.fx⟩
theorem FRow.row (h : FRow n w v p) : Row w v.1 n (toL n p) := h.own.row
theorem Fac.nil (n : Nat) (w : World) (lo : Nat) : Fac n w lo none 0 0 [] [] := ⟨Hd.nil _ _, rfl, fun i h => absurd h (by omega), fun i h => absurd h (by omega)⟩
theorem Fac.fresh (n : Nat) (w : World) {b : Nat} (hb : b = w.heap.size) : Fac n (w.alloc (.cells #[] 27)) w.heap.size (some ⟨b, 0, none⟩) 0 0 [] [] :=
  ⟨Hd.fresh w hb, rfl, fun i h => absurd h (by omega), fun i h => absurd h (by omega)⟩
theorem Fac.below (h : Fac n w lo a m c vs Y) (hb : Below w.heap.size w w') : Fac n w' lo a m c vs Y := ⟨h.hd.below hb, h.len, fun i hi => (h.row i hi).below hb, h.ap⟩
theorem Fac.alloc (h : Fac n w lo a m c vs Y) (o : Obj) : Fac n (w.alloc o) lo a m c vs Y := h.below ((Below.refl _ _).alloc (Nat.le_refl _) o)
theorem Fac.drewN (h : Fac n w lo a m c vs Y) (k : Nat) : Fac n (w.drewN k) lo a m c vs Y := h.below (below_drewN (Below.refl _ _) k)
theorem Fac.mono {lo' : Nat} (h : Fac n w lo a m c vs Y) (hl : lo' ≤ lo) : Fac n w lo' a m c vs Y := ⟨h.hd.mono hl, h.len, h.row, h.ap⟩
theorem Fac.fx (h : Fac n w lo a m c vs Y) : AFx n Y := fun p hp => by
  obtain ⟨i, hi, rfl⟩ := List.getElem_of_mem hp
  have := (h.row i (by have := h.len; omega)).fx
  rw [List.getD_eq_getElem?_getD (l := Y), List.getElem?_eq_getElem hi] at this
  exact this
theorem Fac.cell (h : Fac n w lo a m c vs Y) {i : Nat} (hi : i < m) : ∃ g, a = some ⟨g, 0, none⟩ ∧ g < w.heap.size ∧ w.cell? ⟨g, i, none⟩ = some (sl (vs.getD i svO)) ∧ w.frozen? ⟨g, i, none⟩ = false := by
  rcases h.hd.block with ⟨h1, h2, h3⟩ | ⟨g, cur, h1, h2, h3, h4, h5, h6, h7⟩
  · omega
  · obtain ⟨b, off, e1, e2, e3⟩ := h.hd.read.2 i hi
    rw [h1] at e1; cases e1
    rw [Nat.zero_add] at e3
    exact ⟨g, h1, h3.lt, e3, h3.free i⟩
theorem Fac.tbl (h : Fac n w lo a m c vs Y) (hn : n ≤ 1000) : Tbl w a m (Y.map (toL n)) := by
  refine h.hd.read.tbl (by rw [List.length_map]; exact h.len) fun i hi => ?_
  have hr := h.row i hi
  have hi' : i < Y.length := by have := h.len; omega
  have e : (Y.map (toL n)).getD i [] = toL n (Y.getD i Pm.one) := by
    simp [List.getD_eq_getElem?_getD, List.getElem?_eq_getElem hi']
  rw [e, hr.len]
  exact ⟨hr.row, by omega⟩
theorem Fac.snoc {g cap : Nat} (h : Fac n w lo a m c vs Y) (hv : FRow n w v p) (hne : ∀ q, a = some ⟨q, 0, none⟩ → v.1 ≠ some ⟨q, 0, none⟩)
    (ho : Hd w' lo (some ⟨g, 0, none⟩) (m + 1) cap (vs ++ [v])) (hg : w.grownBy w' (Value.slice a m c).ownBlock) (hat : (Value.slice a m c).ownBlock = some g ∨ w.heap.size ≤ g) : Fac n w' lo (some ⟨g, 0, none⟩) (m + 1) cap (vs ++ [v]) (Y ++ [p]) := by
  have hob : ∀ q, (Value.slice a m c).ownBlock = some q → a = some ⟨q, 0, none⟩ := fun q hq => by
    rcases h.hd.block with ⟨h1, h2, h3⟩ | ⟨g', cur, h1, _⟩
    · rw [h1] at hq; cases hq
    · rw [h1] at hq; simp [Value.ownBlock] at hq; subst hq; exact h1
  have hl := h.len
  have hvl := h.hd.1
  have gl : ∀ i, i < m → (vs ++ [v]).getD i svO = vs.getD i svO := fun i hi => by simp [List.getD_eq_getElem?_getD, List.getElem?_append_left (show i < vs.length by omega)]
  have gn : (vs ++ [v]).getD m svO = v := by rw [← hvl]; simp [List.getD_eq_getElem?_getD]
  have yl : ∀ i, i < m → (Y ++ [p]).getD i Pm.one = Y.getD i Pm.one := fun i hi => by simp [List.getD_eq_getElem?_getD, List.getElem?_append_left (show i < Y.length by omega)]
  have yn : (Y ++ [p]).getD m Pm.one = p := by rw [hl]; simp [List.getD_eq_getElem?_getD]
  have keep : ∀ (u : SV) (q : Pm), FRow n w u q → (∀ b, a = some ⟨b, 0, none⟩ → u.1 ≠ some ⟨b, 0, none⟩) → FRow n w' u q := fun u q hu hne => ⟨hu.own.keep fun b hb hlt => hg.block b hlt fun e => hne b (hob b e.symm) hb, hu.len, hu.fx⟩
  refine ⟨ho, by simp [hl], fun i hi => ?_, fun i hi q hq => ?_⟩
  · by_cases e : i < m
    · rw [gl i e, yl i e]; exact keep _ _ (h.row i e) (h.ap i e)
    · obtain rfl : i = m := by omega
      rw [gn, yn]; exact keep _ _ hv hne
  · cases hq
    have fin : ∀ (u : SV) (q : Pm), FRow n w u q → (∀ b, a = some ⟨b, 0, none⟩ → u.1 ≠ some ⟨b, 0, none⟩) → u.1 ≠ some ⟨g, 0, none⟩ := fun u q hu hne e => by
      rcases hat with hat | hat
      · exact hne g (hob g hat) e
      · have := hu.own.hi g e; omega
    by_cases e : i < m
    · rw [gl i e]; exact fin _ _ (h.row i e) (h.ap i e)
    · obtain rfl : i = m := by omega
      rw [gn]; exact fin _ _ hv hne
theorem Fac.set {g i : Nat} (h : Fac n w lo (some ⟨g, 0, none⟩) m c vs Y) (hi : i < m) (hv : FRow n w v p) (hne : v.1 ≠ some ⟨g, 0, none⟩) : Fac n (w.setCell ⟨g, i, none⟩ (sl v)) lo (some ⟨g, 0, none⟩) m c (vs.set i v) (Y.set i p) := by
  have hvl := h.hd.1
  have hl := h.len
  have keep : ∀ (u : SV) (q : Pm), FRow n w u q → u.1 ≠ some ⟨g, 0, none⟩ → FRow n (w.setCell ⟨g, i, none⟩ (sl v)) u q := fun u q hu hne => ⟨hu.own.keep fun b hb hlt => Below.heap_setCell _ _ _ _ (fun e => hne (by rw [hb, e])), hu.len, hu.fx⟩
  have hap : ∀ k, k < m → (vs.getD k svO).1 ≠ some ⟨g, 0, none⟩ := fun k hk => h.ap k hk g rfl
  refine ⟨?_, by rw [List.length_set]; exact hl, fun k hk => ?_, fun k hk q hq => ?_⟩
  · rcases h.hd.block with ⟨h1, _⟩ | ⟨g', cur, h1, h2, h3, h4, h5, h6, h7⟩
    · cases h1
    · cases h1
      refine ⟨by rw [List.length_set]; exact hvl, ownsRow_mk (by rw [List.length_set]; exact hvl) h2 (h3.set i _) h4 h5 (by simpa using h6) ?_⟩
      rw [Array.toList_setIfInBounds, List.take_set, h7, List.map_set]
  · by_cases e : k = i
    · subst e
      rw [show (vs.set k v).getD k svO = v by simp [List.getD_eq_getElem?_getD, show k < vs.length by omega], show (Y.set k p).getD k Pm.one = p by simp [List.getD_eq_getElem?_getD, show k < Y.length by omega]]
      exact keep _ _ hv hne
    · rw [show (vs.set i v).getD k svO = vs.getD k svO by simp [List.getD_eq_getElem?_getD, List.getElem?_set_ne (fun h => e h.symm)], show (Y.set i p).getD k Pm.one = Y.getD k Pm.one by simp [List.getD_eq_getElem?_getD, List.getElem?_set_ne (fun h => e h.symm)]]
      exact keep _ _ (h.row k hk) (hap k hk)
  · cases hq
    by_cases e : k = i
    · subst e
      rw [show (vs.set k v).getD k svO = v by simp [List.getD_eq_getElem?_getD, show k < vs.length by omega]]; exact hne
    · rw [show (vs.set i v).getD k svO = vs.getD k svO by simp [List.getD_eq_getElem?_getD, List.getElem?_set_ne (fun h => e h.symm)]]; exact hap k hk
end
end Go.Proofs.YtpdgpgbgakinlaaGreat

namespace Go.Proofs.YtpdgpgbgakinlaaGreat
set_option maxRecDepth 100000
set_option linter.unusedVariables false
set_option linter.unusedSimpArgs false
open Go.RowKit
def Nw (w : World) (a a' : Option Addr) : Prop := a' = a ∨ ∀ g, a' = some ⟨g, 0, none⟩ → w.heap.size ≤ g
end Go.Proofs.YtpdgpgbgakinlaaGreat

namespace Go.Proofs.YtpdgpgbgakinlaaGreat
set_option linter.unusedVariables false
set_option linter.unusedSimpArgs false
def permOk (p : List Int) : Bool := allN p.length fun x : Nat => p.contains (x : Int)
/-! ### racks -/
end Go.Proofs.YtpdgpgbgakinlaaGreat
