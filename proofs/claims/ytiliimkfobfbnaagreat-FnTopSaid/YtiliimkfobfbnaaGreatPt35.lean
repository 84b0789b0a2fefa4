/-
  Walks and plain laws of this seat, some texts in one.
  No condition but bounds on lengths.
-/
import Derived.Test.YtiliimkfobfbnaaGreatPt34
import Derived.Test.YtiliimkfobfbnaaGreatPt24
import Derived.Test.YtiliimkfobfbnaaGreatPt26
import Derived.Test.YtiliimkfobfbnaaGreatPt7
import Derived.Test.YtiliimkfobfbnaaGreatPt21
import Derived.Test.YtiliimkfobfbnaaGreatPt18
namespace Go.Proofs.YtiliimkfobfbnaaGreat
set_option maxRecDepth 100000
set_option linter.unusedVariables false
set_option linter.unusedSimpArgs false
open Go.RowKit
structure NmT (w : World) (lo : Nat) (a : Option Addr) (n c : Nat) (us : List SV) (ts : List (List (List Int))) : Prop where
  hd : Hv w lo a n c us
  len : n = ts.length
  el : ∀ i, i < n → ∃ vs, OwnT w lo (us.getD i svO).1 (us.getD i svO).2.1 (us.getD i svO).2.2 vs (ts.getD i [])
theorem tblS_ty {w : World} {lo : Nat} {a : Option Addr} {n c : Nat} {vs : List SV} {t : List (List Int)} (h : OwnT w lo a n c vs t) {g : Nat} (hg : TblS a n vs g) : ∃ cur ty, w.heap[g]? = some (.cells cur ty (0, 0)) ∧ ty ≠ 24 := by
  rcases hg with hg | ⟨i, hi, hg⟩
  · rcases h.block with ⟨h1, _⟩ | ⟨g', cur, h1, h2, h3, _⟩
    · rw [h1] at hg; cases hg
    · rw [h1] at hg; cases hg; exact ⟨cur, _, h3, by decide⟩
  · rcases (h.row i hi).block with ⟨h1, _⟩ | ⟨g', cur, h1, h2, h3, _⟩
    · rw [h1] at hg; cases hg
    · rw [h1] at hg; cases hg; exact ⟨cur, _, h3, by decide⟩
theorem Hv.notT {w : World} {lo lo' : Nat} {a a' : Option Addr} {n c n' c' : Nat} {us vs : List SV} {t : List (List Int)} (h : Hv w lo a n c us) (ht : OwnT w lo' a' n' c' vs t) {g : Nat} (hg : TblS a' n' vs g) : a ≠ some ⟨g, 0, none⟩ := by
  intro e
  obtain ⟨cur, ty, h1, h2⟩ := tblS_ty ht hg
  rcases h.block with ⟨h3, _⟩ | ⟨g', cur', h3, _, h4, _⟩
  · rw [h3] at e; cases e
  · rw [h3] at e; cases e
    unfold Loc at h4
    rw [h4] at h1
    cases h1
    exact h2 rfl
theorem OwnT.grownV {w w' : World} {lo lo' : Nat} {a a' : Option Addr} {n c n' c' : Nat} {us vs : List SV} {t : List (List Int)} (ht : OwnT w lo' a' n' c' vs t) (h : Hv w lo a n c us) (hg : w.grownBy w' (Value.slice a n c).ownBlock) : OwnT w' lo' a' n' c' vs t :=
  ht.keep fun g h1 h2 => hg.block g h2 fun e => by
    have h3 := h.notT ht h1
    rcases h.block with ⟨h4, _⟩ | ⟨g', _, h4, _⟩
    · subst h4; simp [Value.ownBlock] at e
    · subst h4; simp [Value.ownBlock] at e; subst e; exact h3 rfl
section
variable {w w' : World} {lo : Nat} {a : Option Addr} {n c : Nat} {us : List SV} {ts : List (List (List Int))}
theorem NmT.below (h : NmT w lo a n c us ts) (hb : Below w.heap.size w w') : NmT w' lo a n c us ts := ⟨h.hd.below hb, h.len, fun i hi => by obtain ⟨vs, hv⟩ := h.el i hi; exact ⟨vs, hv.below hb⟩⟩
theorem NmT.mono {lo' : Nat} (h : NmT w lo a n c us ts) (hl : lo' ≤ lo) : NmT w lo' a n c us ts := ⟨h.hd.mono hl, h.len, fun i hi => by obtain ⟨vs, hv⟩ := h.el i hi; exact ⟨vs, hv.mono hl⟩⟩
theorem NmT.one {w : World} {b : Nat} (hb : b = w.heap.size) {lo : Nat} {u : SV} {vs : List SV} {t : List (List Int)} (h : OwnT w lo u.1 u.2.1 u.2.2 vs t) (hlo : lo ≤ w.heap.size) : NmT (w.alloc (.cells #[.slice u.1 u.2.1 u.2.2] 24)) lo (some ⟨b, 0, none⟩) 1 1 [u] [t] :=
  ⟨(Hv.one w hb u).mono hlo, rfl, fun i hi => by obtain rfl : i = 0 := by omega
                                                 exact ⟨vs, h.alloc _⟩⟩
theorem NmT.app {m : Nat} {us2 : List SV} {ts2 : List (List (List Int))} {a' : Option Addr} {c' : Nat} (h : NmT w lo a n c us ts) (hl : us2.length = m) (hl2 : m = ts2.length) (h2 : ∀ i, i < m → ∃ vs, OwnT w lo (us2.getD i svO).1 (us2.getD i svO).2.1 (us2.getD i svO).2.2 vs (ts2.getD i [])) (hO : Hv w' lo a' (n + m) c' (us ++ us2)) (hg : w.grownBy w' (Value.slice a n c).ownBlock) : NmT w' lo a' (n + m) c' (us ++ us2) (ts ++ ts2) :=
  ⟨hO, by rw [List.length_append, ← h.len, hl2], fun i hi => by
    have hu := h.hd.1
    have hle := h.len
    by_cases e : i < n
    · obtain ⟨vs, hv⟩ := h.el i e
      refine ⟨vs, ?_⟩
      rw [show (us ++ us2).getD i svO = us.getD i svO from by simp [List.getD_eq_getElem?_getD, List.getElem?_append_left (show i < us.length by omega)], show (ts ++ ts2).getD i [] = ts.getD i [] from by simp [List.getD_eq_getElem?_getD, List.getElem?_append_left (show i < ts.length by omega)]]
      exact hv.grownV h.hd hg
    · obtain ⟨j, rfl⟩ : ∃ j, i = n + j := ⟨i - n, by omega⟩
      obtain ⟨vs, hv⟩ := h2 j (by omega)
      refine ⟨vs, ?_⟩
      rw [show (us ++ us2).getD (n + j) svO = us2.getD j svO from by rw [List.getD_eq_getElem?_getD, List.getElem?_append_right (by omega), show n + j - us.length = j by omega, List.getD_eq_getElem?_getD], show (ts ++ ts2).getD (n + j) [] = ts2.getD j [] from by rw [List.getD_eq_getElem?_getD, List.getElem?_append_right (by omega), show n + j - ts.length = j by omega, List.getD_eq_getElem?_getD]]
      exact hv.grownV h.hd hg⟩
end
theorem HdR.lit1 (w : World) {b : Nat} (hb : b = w.heap.size) (u : SV) (t : TypeId) : HdR (w.alloc (.cells #[.slice u.1 u.2.1 u.2.2] t)) (some ⟨b, 0, none⟩) 1 [u] :=
  ⟨rfl, fun i hi => by obtain rfl : i = 0 := by omega
                       exact ⟨b, 0, rfl, by rw [size_alloc]; omega, (Loc.new w hb #[.slice u.1 u.2.1 u.2.2] t).cell 0 rfl⟩⟩
theorem HdR.lit2 (w : World) {b : Nat} (hb : b = w.heap.size) (u v : SV) (t : TypeId) : HdR (w.alloc (.cells #[.slice u.1 u.2.1 u.2.2, .slice v.1 v.2.1 v.2.2] t)) (some ⟨b, 0, none⟩) 2 [u, v] :=
  ⟨rfl, fun i hi => by
    rcases (show i = 0 ∨ i = 1 by omega) with rfl | rfl
    · exact ⟨b, 0, rfl, by rw [size_alloc]; omega, (Loc.new w hb #[.slice u.1 u.2.1 u.2.2, .slice v.1 v.2.1 v.2.2] t).cell 0 rfl⟩
    · exact ⟨b, 0, rfl, by rw [size_alloc]; omega, (Loc.new w hb #[.slice u.1 u.2.1 u.2.2, .slice v.1 v.2.1 v.2.2] t).cell 1 rfl⟩⟩
theorem cycT_sq {n : Nat} (h : 1 ≤ n) : Sq n (cycT n) := Sq.tab fun x y _ _ => Nat.mod_lt _ (by omega)
theorem proT_sq {n m : Nat} {s t : List (List Int)} (hs : Sq n s) (ht : Sq m t) : Sq (n * m) (proT n m s t) := Sq.tab fun x y hx hy => proV_lt hs ht hx hy
def NmR (n : Nat) (w : World) (e : Ending) (w' : World) : Prop := ∃ a N c us, e = .returned (.slice a N c) ∧ NmT w' w.heap.size a N c us (nmdL n) ∧ Below w.heap.size w w'
set_option maxHeartbeats 8000000 in
theorem l10Named_plain (n : Nat) (w : World) (h1 : 1 ≤ n) (hn : n ≤ 8) (h4 : n ≠ 4) (h6 : n ≠ 6) (h8 : n ≠ 8) : Calls Tryz.prog 122 #[.int .i64 n] w (NmR n w) := by
  have e4 : ((n : Int) == 4) = false := by rw [beq_eq_false_iff_ne]; omega
  have e8 : ((n : Int) == 8) = false := by rw [beq_eq_false_iff_ne]; omega
  have e9 : ((n : Int) == 9) = false := by rw [beq_eq_false_iff_ne]; omega
  have e12 : ((n : Int) == 12) = false := by rw [beq_eq_false_iff_ne]; omega
  have HN : Hid (nmdL n = [cycT n]) := Lib.hid (by
    unfold nmdL
    rw [if_neg h4, if_neg h8, if_neg (by omega), if_neg h8]; rfl)
  generalize hPP : NmR n w = PP
  have HPP := Lib.hid hPP
  clear hPP
  go_enter Tryz.func122, Tryz.ntmps122
  go_wp2_with fail
  refine (l10Cyclic_any n w h1 (by omega)).mono ?_
  rintro e w1 ⟨a1, c1, vs1, rfl, ho1, hb1⟩
  have hz1 := hb1.size
  have hN := NmT.one (w := w1) rfl (lo := w.heap.size) (u := (a1, n, c1)) ho1 hz1
  have hB := hb1.trans ((below_al (Below.refl w1.heap.size w1) (.cells #[.slice a1 n c1] 24)).mono hz1)
  by_cases h7 : (6 : Int) ≤ (n : Int)
  · have em : Int.tmod (n : Int) 2 = 1 := by have : n = 7 := by omega
                                             subst this; rfl
    go_wp2
    rw [← HPP.out]
    exact ⟨_, 1, 1, _, rfl, by rw [HN.out]; exact hN, hB⟩
  · go_wp2
    rw [← HPP.out]
    exact ⟨_, 1, 1, _, rfl, by rw [HN.out]; exact hN, hB⟩
theorem cyc_of (n : Nat) (h1 : 1 ≤ n) (hn : n ≤ 12) (w : World) : Calls Tryz.prog 136 #[.int .i64 n] w fun e w' => ∃ a c vs, e = .returned (.slice a n c) ∧ OwnT w' w.heap.size a n c vs (cycT n) ∧ Below w.heap.size w w' := l10Cyclic_any n w h1 hn
theorem pro_of (n m N : Nat) (hN : n * m = N) (hn : 1 ≤ n) (hm : 1 ≤ m) (hnm : N ≤ 12) {s t : List (List Int)} (hs : Sq n s) (ht : Sq m t) (a b : Option Addr) (c d : Nat) (w : World) (h1 : Tbl w a n s) (h2 : Tbl w b m t) : Calls Tryz.prog 121 #[.slice a n c, .slice b m d] w fun e w' => ∃ a1 c1 vs, e = .returned (.slice a1 N c1) ∧ OwnT w' w.heap.size a1 N c1 vs (proT n m s t) ∧ Below w.heap.size w w' := by
  subst hN
  exact l04Product_any n m a b c d s t w h1 h2 hs ht hn hm hnm
theorem dbl_of (n sh N : Nat) (hN : 2 * n = N) (h1 : 1 ≤ n) (hn : n ≤ 6) (hsh : sh ≤ 12) (w : World) : Calls Tryz.prog 137 #[.int .i64 n, .int .i64 sh] w fun e w' => ∃ a c vs, e = .returned (.slice a N c) ∧ OwnT w' w.heap.size a N c vs (dblT n sh) ∧ Below w.heap.size w w' := by
  subst hN
  exact l10Double_any n sh w h1 hn hsh
theorem NmT.app1 {w w' : World} {lo : Nat} {a : Option Addr} {n c : Nat} {us : List SV} {ts : List (List (List Int))} {u : SV} {vs : List SV} {t : List (List Int)} {a' : Option Addr} {c' : Nat} (h : NmT w lo a n c us ts) (h2 : OwnT w lo u.1 u.2.1 u.2.2 vs t) (hO : Hv w' lo a' (n + 1) c' (us ++ [u])) (hg : w.grownBy w' (Value.slice a n c).ownBlock) : NmT w' lo a' (n + 1) c' (us ++ [u]) (ts ++ [t]) :=
  h.app rfl rfl (fun i hi => by obtain rfl : i = 0 := by omega
                                exact ⟨vs, h2⟩) hO hg
theorem NmT.app2 {w w' : World} {lo : Nat} {a : Option Addr} {n c : Nat} {us : List SV} {ts : List (List (List Int))} {u v : SV} {vs vs2 : List SV} {t t2 : List (List Int)} {a' : Option Addr} {c' : Nat} (h : NmT w lo a n c us ts) (h2 : OwnT w lo u.1 u.2.1 u.2.2 vs t) (h3 : OwnT w lo v.1 v.2.1 v.2.2 vs2 t2) (hO : Hv w' lo a' (n + 2) c' (us ++ [u, v])) (hg : w.grownBy w' (Value.slice a n c).ownBlock) : NmT w' lo a' (n + 2) c' (us ++ [u, v]) (ts ++ [t, t2]) :=
  h.app rfl rfl (fun i hi => by
    rcases (show i = 0 ∨ i = 1 by omega) with rfl | rfl
    · exact ⟨vs, h2⟩
    · exact ⟨vs2, h3⟩) hO hg
set_option maxHeartbeats 8000000 in
theorem l10Named_6 (w : World) : Calls Tryz.prog 122 #[.int .i64 6] w (NmR 6 w) := by
  have HN : Hid (nmdL 6 = [cycT 6] ++ [dblT 3 0]) := Lib.hid rfl
  have HC := Lib.hid (cyc_of 6 (by omega) (by omega) w)
  have HD : Hid (∀ w : World, Calls Tryz.prog 137 #[.int .i64 3, .int .i64 0] w fun e w' => ∃ a c vs, e = .returned (.slice a 6 c) ∧ OwnT w' w.heap.size a 6 c vs (dblT 3 0) ∧ Below w.heap.size w w') := Lib.hid fun w => dbl_of 3 0 6 rfl (by omega) (by omega) (by omega) w
  have t1 : Int.tmod (6 : Int) 2 = 0 := rfl
  have t2 : Int.tdiv (6 : Int) 2 = 3 := rfl
  generalize hPP : NmR 6 w = PP
  have HPP := Lib.hid hPP
  clear hPP
  go_enter Tryz.func122, Tryz.ntmps122
  go_wp2_with fail
  refine HC.out.mono ?_
  rintro e w1 ⟨a1, c1, vs1, rfl, ho1, hb1⟩
  have hz1 := hb1.size
  have hN := NmT.one (w := w1) rfl (lo := w.heap.size) (u := (a1, 6, c1)) ho1 hz1
  have hB := hb1.trans ((below_al (Below.refl w1.heap.size w1) (.cells #[.slice a1 6 c1] 24)).mono hz1)
  go_wp2_with fail
  refine (HD.out _).mono ?_
  rintro e w2 ⟨a2, c2, vs2, rfl, ho2, hb2⟩
  have hN2 := hN.below hb2
  have hB2 := hB.trans (hb2.mono hB.size)
  have ho2 := ho2.mono hB.size
  have hz2 := hB2.size
  have hlit := HdR.lit1 w2 rfl (a2, 6, c2) 24
  have hh := hN2.hd.alloc (.cells #[.slice a2 6 c2] 24)
  have hN3 := hN2.below (below_al (Below.refl w2.heap.size w2) (.cells #[.slice a2 6 c2] 24))
  have ho3 := ho2.alloc (.cells #[.slice a2 6 c2] 24)
  have hB3 := hB2.trans ((below_al (Below.refl w2.heap.size w2) (.cells #[.slice a2 6 c2] 24)).mono hz2)
  go_wp2_with (at_builtin; refine appV rfl rfl hh rfl hlit rfl (by omega) hB3.size ?_; intro ad1 cc1 w6 hO1 hg1 hb16)
  rw [← HPP.out]
  exact ⟨_, 2, cc1, _, rfl, by rw [HN.out]; exact hN3.app1 (u := (a2, 6, c2)) ho3 hO1 hg1, hB3.trans hb16⟩
set_option maxHeartbeats 8000000 in
theorem l10Named_4 (w : World) : Calls Tryz.prog 122 #[.int .i64 4] w (NmR 4 w) := by
  have HN : Hid (nmdL 4 = [cycT 4] ++ [proT 2 2 (cycT 2) (cycT 2)]) := Lib.hid rfl
  have HC := Lib.hid (cyc_of 4 (by omega) (by omega) w)
  have HC2 : Hid (∀ w : World, Calls Tryz.prog 136 #[.int .i64 2] w fun e w' => ∃ a c vs, e = .returned (.slice a 2 c) ∧ OwnT w' w.heap.size a 2 c vs (cycT 2) ∧ Below w.heap.size w w') := Lib.hid fun w => cyc_of 2 (by omega) (by omega) w
  have HP : Hid (∀ (a b : Option Addr) (c d : Nat) (w : World), Tbl w a 2 (cycT 2) → Tbl w b 2 (cycT 2) → Calls Tryz.prog 121 #[.slice a 2 c, .slice b 2 d] w fun e w' => ∃ a1 c1 vs, e = .returned (.slice a1 4 c1) ∧ OwnT w' w.heap.size a1 4 c1 vs (proT 2 2 (cycT 2) (cycT 2)) ∧ Below w.heap.size w w') := Lib.hid fun a b c d w h1 h2 => pro_of 2 2 4 rfl (by omega) (by omega) (by omega) (cycT_sq (by omega)) (cycT_sq (by omega)) a b c d w h1 h2
  generalize hPP : NmR 4 w = PP
  have HPP := Lib.hid hPP
  clear hPP
  go_enter Tryz.func122, Tryz.ntmps122
  go_wp2_with fail
  refine HC.out.mono ?_
  rintro e w1 ⟨a1, c1, vs1, rfl, ho1, hb1⟩
  have hz1 := hb1.size
  have hN := NmT.one (w := w1) rfl (lo := w.heap.size) (u := (a1, 4, c1)) ho1 hz1
  have hB := hb1.trans ((below_al (Below.refl w1.heap.size w1) (.cells #[.slice a1 4 c1] 24)).mono hz1)
  go_wp2_with fail
  refine (HC2.out _).mono ?_
  rintro e w2 ⟨a2, c2, vs2, rfl, ho2, hb2⟩
  go_wp2_with fail
  refine (HC2.out _).mono ?_
  rintro e w3 ⟨a3, c3, vs3, rfl, ho3, hb3⟩
  go_wp2_with fail
  refine (HP.out _ _ _ _ _ (ho2.below hb3).tbl ho3.tbl).mono ?_
  rintro e w4 ⟨a4, c4, vs4, rfl, ho4, hb4⟩
  have hN2 := ((hN.below hb2).below hb3).below hb4
  have hB2 := hB.trans (hb2.mono hB.size)
  have hB3 := hB2.trans (hb3.mono hB2.size)
  have hB4 := hB3.trans (hb4.mono hB3.size)
  have ho4 := ho4.mono hB3.size
  have hlit := HdR.lit1 w4 rfl (a4, 4, c4) 24
  have hh := hN2.hd.alloc (.cells #[.slice a4 4 c4] 24)
  have hN3 := hN2.below (below_al (Below.refl w4.heap.size w4) (.cells #[.slice a4 4 c4] 24))
  have ho5 := ho4.alloc (.cells #[.slice a4 4 c4] 24)
  have hB5 := hB4.trans ((below_al (Below.refl w4.heap.size w4) (.cells #[.slice a4 4 c4] 24)).mono hB4.size)
  go_wp2_with (at_builtin; refine appV rfl rfl hh rfl hlit rfl (by omega) hB5.size ?_; intro ad1 cc1 w6 hO1 hg1 hb16)
  rw [← HPP.out]
  exact ⟨_, 2, cc1, _, rfl, by rw [HN.out]; exact hN3.app1 (u := (a4, 4, c4)) ho5 hO1 hg1, hB5.trans hb16⟩
set_option maxHeartbeats 8000000 in
theorem l10Named_8 (w : World) : Calls Tryz.prog 122 #[.int .i64 8] w (NmR 8 w) := by
  have HN : Hid (nmdL 8 = [cycT 8] ++ [proT 2 4 (cycT 2) (cycT 4), proT 2 4 (cycT 2) (proT 2 2 (cycT 2) (cycT 2))] ++ [dblT 4 0] ++ [dblT 4 2]) := Lib.hid rfl
  have HC := Lib.hid (cyc_of 8 (by omega) (by omega) w)
  have HC2 : Hid (∀ w : World, Calls Tryz.prog 136 #[.int .i64 2] w fun e w' => ∃ a c vs, e = .returned (.slice a 2 c) ∧ OwnT w' w.heap.size a 2 c vs (cycT 2) ∧ Below w.heap.size w w') := Lib.hid fun w => cyc_of 2 (by omega) (by omega) w
  have HC4 : Hid (∀ w : World, Calls Tryz.prog 136 #[.int .i64 4] w fun e w' => ∃ a c vs, e = .returned (.slice a 4 c) ∧ OwnT w' w.heap.size a 4 c vs (cycT 4) ∧ Below w.heap.size w w') := Lib.hid fun w => cyc_of 4 (by omega) (by omega) w
  have HP : Hid (∀ (a b : Option Addr) (c d : Nat) (w : World), Tbl w a 2 (cycT 2) → Tbl w b 2 (cycT 2) → Calls Tryz.prog 121 #[.slice a 2 c, .slice b 2 d] w fun e w' => ∃ a1 c1 vs, e = .returned (.slice a1 4 c1) ∧ OwnT w' w.heap.size a1 4 c1 vs (proT 2 2 (cycT 2) (cycT 2)) ∧ Below w.heap.size w w') := Lib.hid fun a b c d w h1 h2 => pro_of 2 2 4 rfl (by omega) (by omega) (by omega) (cycT_sq (by omega)) (cycT_sq (by omega)) a b c d w h1 h2
  have HP4 : Hid (∀ (a b : Option Addr) (c d : Nat) (w : World) (t : List (List Int)), Sq 4 t → Tbl w a 2 (cycT 2) → Tbl w b 4 t → Calls Tryz.prog 121 #[.slice a 2 c, .slice b 4 d] w fun e w' => ∃ a1 c1 vs, e = .returned (.slice a1 8 c1) ∧ OwnT w' w.heap.size a1 8 c1 vs (proT 2 4 (cycT 2) t) ∧ Below w.heap.size w w') := Lib.hid fun a b c d w t ht h1 h2 => pro_of 2 4 8 rfl (by omega) (by omega) (by omega) (cycT_sq (by omega)) ht a b c d w h1 h2
  have HD : Hid (∀ w : World, Calls Tryz.prog 137 #[.int .i64 4, .int .i64 0] w fun e w' => ∃ a c vs, e = .returned (.slice a 8 c) ∧ OwnT w' w.heap.size a 8 c vs (dblT 4 0) ∧ Below w.heap.size w w') := Lib.hid fun w => dbl_of 4 0 8 rfl (by omega) (by omega) (by omega) w
  have HD2 : Hid (∀ w : World, Calls Tryz.prog 137 #[.int .i64 4, .int .i64 2] w fun e w' => ∃ a c vs, e = .returned (.slice a 8 c) ∧ OwnT w' w.heap.size a 8 c vs (dblT 4 2) ∧ Below w.heap.size w w') := Lib.hid fun w => dbl_of 4 2 8 rfl (by omega) (by omega) (by omega) w
  have t1 : Int.tmod (8 : Int) 2 = 0 := rfl
  have t2 : Int.tdiv (8 : Int) 2 = 4 := rfl
  have t3 : Int.tdiv (8 : Int) 4 = 2 := rfl
  generalize hPP : NmR 8 w = PP
  have HPP := Lib.hid hPP
  clear hPP
  go_enter Tryz.func122, Tryz.ntmps122
  go_wp2_with fail
  refine HC.out.mono ?_
  rintro e w1 ⟨a1, c1, vs1, rfl, ho1, hb1⟩
  have hz1 := hb1.size
  have hN := NmT.one (w := w1) rfl (lo := w.heap.size) (u := (a1, 8, c1)) ho1 hz1
  have hB := hb1.trans ((below_al (Below.refl w1.heap.size w1) (.cells #[.slice a1 8 c1] 24)).mono hz1)
  go_wp2_with fail
  refine (HC2.out _).mono ?_
  rintro e w2 ⟨a2, c2, vs2, rfl, ho2, hb2⟩
  go_wp2_with fail
  refine (HC2.out _).mono ?_
  rintro e w3 ⟨a3, c3, vs3, rfl, ho3, hb3⟩
  go_wp2_with fail
  refine (HP.out _ _ _ _ _ (ho2.below hb3).tbl ho3.tbl).mono ?_
  rintro e w4 ⟨a4, c4, vs4, rfl, ho4, hb4⟩
  have hN4 := ((hN.below hb2).below hb3).below hb4
  have hB2 := hB.trans (hb2.mono hB.size)
  have hB3 := hB2.trans (hb3.mono hB2.size)
  have hB4 := hB3.trans (hb4.mono hB3.size)
  clear ho1 ho2 ho3 hb1 hb2 hb3 hb4 hN hB2 hB3
  go_wp2_with fail
  refine (HC2.out _).mono ?_
  rintro e w5 ⟨a5, c5, vs5, rfl, ho5, hb5⟩
  go_wp2_with fail
  refine (HC4.out _).mono ?_
  rintro e w6 ⟨a6, c6, vs6, rfl, ho6, hb6⟩
  go_wp2_with fail
  refine (HP4.out _ _ _ _ _ _ (cycT_sq (by omega)) (ho5.below hb6).tbl ho6.tbl).mono ?_
  rintro e w7 ⟨a7, c7, vs7, rfl, ho7, hb7⟩
  have hN7 := ((hN4.below hb5).below hb6).below hb7
  have ho47 := ((ho4.below hb5).below hb6).below hb7
  have hB5 := hB4.trans (hb5.mono hB4.size)
  have hB6 := hB5.trans (hb6.mono hB5.size)
  have hB7 := hB6.trans (hb7.mono hB6.size)
  have ho7 := ho7.mono hB6.size
  clear ho4 ho5 ho6 hb5 hb6 hb7 hN4 hB4 hB5 hB6
  go_wp2_with fail
  refine (HC2.out _).mono ?_
  rintro e w8 ⟨a8, c8, vs8, rfl, ho8, hb8⟩
  go_wp2_with fail
  refine (HP4.out _ _ _ _ _ _ (proT_sq (cycT_sq (by omega)) (cycT_sq (by omega))) ho8.tbl (ho47.below hb8).tbl).mono ?_
  rintro e w9 ⟨a9, c9, vs9, rfl, ho9, hb9⟩
  have hN9 := (hN7.below hb8).below hb9
  have ho79 := (ho7.below hb8).below hb9
  have hB8 := hB7.trans (hb8.mono hB7.size)
  have hB9 := hB8.trans (hb9.mono hB8.size)
  have ho9 := ho9.mono hB8.size
  clear ho7 ho47 ho8 hb8 hb9 hN7 hB7 hB8
  have hlit := HdR.lit2 w9 rfl (a7, 8, c7) (a9, 8, c9) 24
  have hh := hN9.hd.alloc (.cells #[.slice a7 8 c7, .slice a9 8 c9] 24)
  have hN10 := hN9.below (below_al (Below.refl w9.heap.size w9) (.cells #[.slice a7 8 c7, .slice a9 8 c9] 24))
  have hp1 := ho79.alloc (.cells #[.slice a7 8 c7, .slice a9 8 c9] 24)
  have hp2 := ho9.alloc (.cells #[.slice a7 8 c7, .slice a9 8 c9] 24)
  have hB10 := hB9.trans ((below_al (Below.refl w9.heap.size w9) (.cells #[.slice a7 8 c7, .slice a9 8 c9] 24)).mono hB9.size)
  go_wp2_with (at_builtin; refine appV rfl rfl hh rfl hlit rfl (by omega) hB10.size ?_; intro ad1 cc1 w11 hO1 hg1 hb11)
  have hN11 := hN10.app2 (u := (a7, 8, c7)) (v := (a9, 8, c9)) hp1 hp2 hO1 hg1
  have hB11 := hB10.trans hb11
  clear hlit hh hN9 hN10 hp1 hp2 hO1 hg1 hb11 hB9 hB10 ho79 ho9
  refine (HD.out _).mono ?_
  rintro e w12 ⟨a12, c12, vs12, rfl, ho12, hb12⟩
  have hN12 := hN11.below hb12
  have hB12 := hB11.trans (hb12.mono hB11.size)
  have ho12 := ho12.mono hB11.size
  have hlit := HdR.lit1 w12 rfl (a12, 8, c12) 24
  have hh := hN12.hd.alloc (.cells #[.slice a12 8 c12] 24)
  have hN13 := hN12.below (below_al (Below.refl w12.heap.size w12) (.cells #[.slice a12 8 c12] 24))
  have ho13 := ho12.alloc (.cells #[.slice a12 8 c12] 24)
  have hB13 := hB12.trans ((below_al (Below.refl w12.heap.size w12) (.cells #[.slice a12 8 c12] 24)).mono hB12.size)
  go_wp2_with (at_builtin; refine appV rfl rfl hh rfl hlit rfl (by omega) hB13.size ?_; intro ad2 cc2 w14 hO2 hg2 hb14)
  have hN14 := hN13.app1 (u := (a12, 8, c12)) ho13 hO2 hg2
  have hB14 := hB13.trans hb14
  clear hlit hh hN12 hN13 ho13 hO2 hg2 hb14 hB12 hB13 ho12 hN11 hB11
  refine (HD2.out _).mono ?_
  rintro e w15 ⟨a15, c15, vs15, rfl, ho15, hb15⟩
  have hN15 := hN14.below hb15
  have hB15 := hB14.trans (hb15.mono hB14.size)
  have ho15 := ho15.mono hB14.size
  have hlit := HdR.lit1 w15 rfl (a15, 8, c15) 24
  have hh := hN15.hd.alloc (.cells #[.slice a15 8 c15] 24)
  have hN16 := hN15.below (below_al (Below.refl w15.heap.size w15) (.cells #[.slice a15 8 c15] 24))
  have ho16 := ho15.alloc (.cells #[.slice a15 8 c15] 24)
  have hB16 := hB15.trans ((below_al (Below.refl w15.heap.size w15) (.cells #[.slice a15 8 c15] 24)).mono hB15.size)
  go_wp2_with (at_builtin; refine appV rfl rfl hh rfl hlit rfl (by omega) hB16.size ?_; intro ad3 cc3 w17 hO3 hg3 hb17)
  rw [← HPP.out]
  exact ⟨_, 5, cc3, _, rfl, by rw [HN.out]; exact hN16.app1 (u := (a15, 8, c15)) ho16 hO3 hg3, hB16.trans hb17⟩
theorem l10Named_any (n : Nat) (w : World) (h1 : 1 ≤ n) (hn : n ≤ 8) : Calls Tryz.prog 122 #[.int .i64 n] w (NmR n w) := by
  by_cases h4 : n = 4
  · subst h4; exact l10Named_4 w
  · by_cases h6 : n = 6
    · subst h6; exact l10Named_6 w
    · by_cases h8 : n = 8
      · subst h8; exact l10Named_8 w
      · exact l10Named_plain n w h1 hn h4 h6 h8
theorem OwnT.src {w w' : World} {lo b : Nat} {a : Option Addr} {n c : Nat} {vs : List SV} {t : List (List Int)} (h : OwnT w lo a n c vs t) (hg : w.grownBy w' (some b)) (hb : b < lo) : OwnT w' lo a n c vs t :=
  h.keep fun q hq hl => hg.block q hl (fun e => by have := h.uLo q hq; cases e; omega)
theorem Own.src {w w' : World} {lo b : Nat} {a : Option Addr} {n c : Nat} {xs : List Int} (h : Own w lo a n c xs) (hg : w.grownBy w' (some b)) (hb : b < lo) : Own w' lo a n c xs :=
  h.keep fun q hq hl => hg.block q hl (fun e => by have := h.lo q hq; cases e; omega)
theorem NmT.src {w w' : World} {lo b : Nat} {a : Option Addr} {n c : Nat} {us : List SV} {ts : List (List (List Int))} (h : NmT w lo a n c us ts) (hg : w.grownBy w' (some b)) (hb : b < lo) : NmT w' lo a n c us ts :=
  ⟨h.hd.keep fun q hq hl => hg.block q hl (fun e => by have := h.hd.low q hq; cases e; omega), h.len, fun i hi => by obtain ⟨vs, hv⟩ := h.el i hi; exact ⟨vs, hv.src hg hb⟩⟩
def upL (q : List Int) : List Int := 0 :: q.map (· + 1)
theorem upL_isP {m : Nat} {q : List Int} (h : IsP m q) : IsP (m + 1) (upL q) := by
  obtain ⟨f, g, h1, h2, h3⟩ := h
  refine ⟨fun x => if x = 0 then 0 else f (x - 1) + 1, fun x => if x = 0 then 0 else g (x - 1) + 1, by simp [upL, h1], fun i hi => ?_, fun i hi => ?_⟩
  · cases i with
    | zero => simp
    | succ i => obtain ⟨a, b, c, d⟩ := h2 i (by omega); simp [c, d]; omega
  · cases i with
    | zero => simp [upL]
    | succ i =>
      have e := h3 i (by omega)
      have hi2 : i < q.length := by omega
      simp only [List.getD_eq_getElem?_getD, List.getElem?_eq_getElem hi2, Option.getD_some] at e
      simp [upL, List.getD_eq_getElem?_getD, List.getElem?_eq_getElem hi2, e]
theorem upL_take (q : List Int) {j : Nat} (h : j < q.length) : 0 :: (q.take (j + 1)).map (· + 1) = (0 :: (q.take j).map (· + 1)) ++ [q.getD j 0 + 1] := by
  rw [List.take_succ_eq_append_getElem h, List.map_append, getD_at h]; rfl
theorem rnL_sqP {n : Nat} {t : List (List Int)} {p : List Int} (hp : IsP n p) (hs : Sq n t) : Sq n (rnL n t p) := by
  have hb : ∀ x, x < n → ((backF p).getD x 0).toNat < n := fun x hx => by
    obtain ⟨q, e, hq, _⟩ := backF_at hp x hx
    rw [e]; simpa using hq
  have hv : ∀ x y, x < n → y < n → 0 ≤ rnV t p x y ∧ rnV t p x y < n := fun x y hx hy => by
    have h1 := hs.lt (hb x hx) (hb y hy)
    unfold rnV
    have hl : tv t ((backF p).getD x 0).toNat ((backF p).getD y 0).toNat < p.length := by rw [hp.len]; exact h1
    rw [getD_at hl]
    exact hp.mem _ (List.getElem_mem hl)
  have e : rnL n t p = tabF n fun x y => (((rnV t p x y).toNat : Nat) : Int) := by
    unfold rnL tabF
    refine List.map_congr_left fun x hx => List.map_congr_left fun y hy => ?_
    have := hv x y (by simpa using hx) (by simpa using hy)
    show rnV t p x y = (((rnV t p x y).toNat : Nat) : Int)
    omega
  rw [e]
  refine Sq.tab fun x y hx hy => ?_
  have := hv x y hx hy
  omega
def TbDr (b most : Nat) (w : World) (e : Ending) (w' : World) : Prop := ∃ a n c vs t, e = .returned (.slice a n c) ∧ 1 ≤ n ∧ n ≤ most ∧ OwnT w' w.heap.size a n c vs t ∧ Sq n t ∧ Src w' b ∧ w.grownBy w' (some b)
theorem getD_atL {α : Type} {l : List (List α)} {k : Nat} (h : k < l.length) : l.getD k [] = l[k] := by simp [List.getD_eq_getElem?_getD, List.getElem?_eq_getElem h]
set_option maxHeartbeats 16000000 in
theorem l10Draw_ok (b most : Nat) (w : World) (h : Src w b) (h1 : 1 ≤ most) (h8 : most ≤ 8) :
    Calls Tryz.prog 93 #[.pointer (some ⟨b, 0, none⟩), .int .i64 most] w (TbDr b most w) := by
  have hlt := h.lt
  generalize hPP : TbDr b most w = PP
  have HPP := Lib.hid hPP
  clear hPP
  go_enter Tryz.func93, Tryz.ntmps93
  go_wp2_with fail
  refine (l01Next_ok b (most : Int) w h ⟨by omega, by omega⟩).mono ?_
  rintro e w1 ⟨x, rfl, _, hx, hs1, hg1⟩
  obtain ⟨hx1, hx2⟩ := hx (by omega)
  obtain ⟨n, hn⟩ : ∃ n : Nat, 1 + x = (n : Int) := ⟨(1 + x).toNat, by omega⟩
  have hn1 : 1 ≤ n := by omega
  have hnm : n ≤ most := by omega
  have hwn : IntKind.i64.wrap (n : Int) = (n : Int) := IntWalk.i64_in _ ⟨by omega, by omega⟩
  go_wp2_with fail
  refine (l10Named_any n w1 hn1 (by omega)).mono ?_
  rintro e w2 ⟨a2, N, c2, us, rfl, hN2, hb2⟩
  obtain ⟨hl1, hl2, hall⟩ := nmd_sq n hn1 (by omega)
  rw [← hN2.len] at hl1 hl2
  have hs2 := hs1.below hb2
  have hG2 := grown_below hg1 hb2 hg1.size
  have hz1 := hg1.size
  have hN2 := hN2.mono hz1
  have hz2 := hG2.size
  clear hn hx hx1 hx2 hwn hb2 hg1 hs1
  have hN0 : (0 : Int) ≤ (N : Int) := by omega
  go_wp2_with fail
  refine (l01Next_ok b (N : Int) w2 hs2 ⟨by omega, by omega⟩).mono ?_
  rintro e w3 ⟨x, rfl, _, hx, hs3, hg3⟩
  obtain ⟨hx1, hx2⟩ := hx (by omega)
  obtain ⟨k, rfl⟩ : ∃ k : Nat, x = (k : Int) := ⟨x.toNat, by omega⟩
  have hkN : k < N := by omega
  have hN3 := hN2.src hg3 hlt
  have hG3 := grown_trans hG2 hg3
  obtain ⟨hb_, ho_, hae, _, kc⟩ := hN3.hd.read.2 k hkN
  subst hae
  obtain ⟨vs, ho⟩ := hN3.el k hkN
  obtain ⟨t, HT⟩ : ∃ t, Hid ((nmdL n).getD k [] = t) := ⟨_, Lib.hid rfl⟩
  rw [HT.out] at ho
  have hmem : t ∈ nmdL n := by rw [← HT.out, getD_atL (by rw [← hN3.len]; exact hkN)]; exact List.getElem_mem _
  have hsq := tabB_ok (hall t hmem)
  obtain ⟨⟨ua, un, uc⟩, HU⟩ : ∃ u, Hid (us.getD k svO = u) := ⟨_, Lib.hid rfl⟩
  rw [HU.out] at ho kc
  change w3.cell? _ = some (.slice ua un uc) at kc
  change OwnT w3 w.heap.size ua un uc vs t at ho
  obtain rfl : un = n := by rw [ho.len]; exact hsq.1
  have hz3 := hG3.size
  clear hx hx1 hx2 hN2 hg3 hs2 hG2 hall hmem
  by_cases hn2 : (un : Int) ≤ 1
  · go_wp2
    rw [← HPP.out]
    exact ⟨ua, un, uc, vs, t, rfl, hn1, hnm, ho, hsq, hs3, hG3⟩
  have hn3 : (1 : Int) < (un : Int) := by omega
  obtain ⟨m, hm⟩ : ∃ m, un = m + 1 := ⟨un - 1, by omega⟩
  have hm1 : (un : Int) - 1 = (m : Int) := by omega
  have hwm : IntKind.i64.wrap (m : Int) = (m : Int) := IntWalk.i64_in _ ⟨by omega, by omega⟩
  have HM := Lib.hid hm; have HM1 := Lib.hid hm1; have HWM := Lib.hid hwm
  clear hm hm1 hwm
  go_wp2_with fail
  refine (l01Next_ok b 2 w3 hs3 ⟨by omega, by omega⟩).mono ?_
  rintro e w4 ⟨y, rfl, _, hy, hs4, hg4⟩
  obtain ⟨hy1, hy2⟩ := hy (by omega)
  have ho4 := ho.src hg4 hlt
  have hG4 := grown_trans hG3 hg4
  have hz4 := hG4.size
  clear kc hN3 ho hs3 hg4 hG3
  by_cases hy0 : y = 0
  · have e0 : (y == 0) = true := by simp [hy0]
    clear hy0
    have hp0 := Own.one w4 rfl 0
    have hbp := below_al (Below.refl w4.heap.size w4) (.cells #[.int .i64 0] 2)
    obtain ⟨w5, hw5⟩ : ∃ w5, w4.alloc (.cells #[.int .i64 0] 2) = w5 := ⟨_, rfl⟩
    have HW5 := Lib.hid hw5
    rw [hw5] at hp0 hbp
    have hs5 := hs4.below hbp
    have ho5 := ho4.below hbp
    have hG5 := grown_below hG4 hbp hG4.size
    have hm1 := HM1.out
    have hwm := HWM.out
    have hP := l03DrawPerm_ok b m w5 hs5 (by have := HM.out; omega)
    have hz45 := hbp.size
    have HI4p := Lib.hid ho4.uHi
    have HZW5 : Hid (w4.heap.size < w5.heap.size) := Lib.hid (by rw [← hw5, size_alloc]; omega)
    clear hw5
    go_wp2_with fail
    try rw [HW5.out]
    refine hP.mono ?_
    rintro e w6 ⟨a6, c6, q, rfl, hq, hor6, hs6, hg6⟩
    clear hm1 hwm hP
    have hp6 := hp0.src hg6 (by omega)
    have ho6 := ho5.src hg6 hlt
    have hG6 := grown_trans hG5 hg6
    have HQ := Lib.hid hq.len
    have HQM := Lib.hid hq.mem
    have hm7 : m ≤ 7 := by have := HM.out; omega
    have hz6 := hg6.size
    have hz56 : w5.heap.size ≤ w6.heap.size := hz6
    clear hs5 ho5 hG5 hs4 ho4 hG4 hp0
    have hi4 := ho6.uHi
    have HI4 : Hid (∀ g, TblS ua un vs g → g < w4.heap.size) := Lib.hid HI4p.out
    have hw4b : b < w4.heap.size := by omega
    have hap : Apr a6 (some ⟨w4.heap.size, 0, none⟩) := fun g e1 e2 => by cases e2; have := hor6.lo _ e1; have := HZW5.out; omega
    have hbz : Below w4.heap.size w6 w6 := ⟨rfl, rfl, rfl, Nat.le_refl _, fun _ _ => rfl⟩
    go_wp2
    go_loopw [8, 10] (fun s i wq => ∃ (j : Nat) (ar : Option Addr) (cr : Nat), j ≤ m ∧ i = .int .i64 j ∧ s = .slice ar (1 + j) cr ∧ Own wq w4.heap.size ar (1 + j) cr (0 :: (q.take j).map (· + 1)) ∧ Own wq w5.heap.size a6 m c6 q ∧ Apr a6 ar ∧ Below w4.heap.size w6 wq) (fun _ i _ => m - (intOf i).toNat)
    case atStart => exact ⟨0, _, 1, Nat.zero_le _, rfl, rfl, by simpa using hp6, hor6, hap, hbz⟩
    case round =>
      clear hp6 hor6 hap hbz
      obtain ⟨j, ar, cr, hj, rfl, rfl, hp, hor, hap, hbq⟩ := hrel
      obtain ⟨R, rfl⟩ : ∃ R : World, R = wr := ⟨_, rfl⟩
      have hRs := hbq.size
      by_cases hlt : j < m
      · have hjq : j < q.length := by have := HQ.out; omega
        have HST := Lib.hid (upL_take q hjq)
        obtain ⟨_, _, e9, f1⟩ := hor.row.at j hlt
        obtain ⟨v, HV⟩ : ∃ v, Hid (q.getD j 0 = v) := ⟨_, Lib.hid rfl⟩
        have hv := HQM.out _ (List.getElem_mem hjq)
        rw [← getD_at hjq, HV.out] at hv
        rw [HV.out] at f1 HST
        subst e9
        have i1 : (0 : Int) ≤ (j : Int) := by omega
        have i2 : (j : Int) < (m : Int) := by omega
        have hwv : IntKind.i64.wrap (v + 1) = v + 1 := IntWalk.i64_in _ ⟨by omega, by omega⟩
        have HWV := Lib.hid hwv
        clear hwv
        have hln : 1 + j + 1 ≤ 1000000000000 := by omega
        have hw4R : w4.heap.size ≤ R.heap.size := by omega
        have hwv := HWV.out
        go_wp2_with (at_builtin; refine app1h rfl rfl hp rfl rfl hln hw4R ?_; intro g' cc w8 hO8 hg8 hat8 hb8)
        clear hwv
        have hor8 := Own.beside hor hp hap hg8
        have hap8 := Own.apart hor hp hap hat8
        go_roundw
        case rel => exact ⟨j + 1, _, cc, by omega, by go_num, rfl, by rw [HST.out]; exact hO8, hor8, hap8, hbq.trans hb8⟩
        case measure => simp [intOf]; omega
      · obtain rfl : m = j := by omega
        rw [List.take_of_length_le (by have := HQ.out; omega)] at hp
        have hoR := ho6.keep (w' := R) fun g hg hlt => hbq.block g (HI4.out g hg)
        have hsR := hs6.keepB hbq hw4b
        have hGR := grown_below hG6 hbq hz4
        have hPn : IsP un (upL q) := by have h9 := upL_isP hq; rw [← HM.out] at h9; exact h9
        have hr1 : Row R ar un (upL q) := by have h9 := hp.row; rw [show 1 + m = un by have := HM.out; omega] at h9; exact h9
        have hI := l03Image_any un ua ar uc cr t (upL q) R hoR.tbl hr1 hsq hPn (by omega) (by omega)
        have hum : 1 + m = un := by have := HM.out; omega
        have HUM := Lib.hid hum
        clear hum
        go_wp2_with fail
        rw [HUM.out]
        refine hI.mono ?_
        rintro e w9 ⟨a9, c9, vs9, rfl, ho9, hb9⟩
        have hs9 := hsR.below hb9
        have hG9 := grown_below hGR hb9 hGR.size
        have hoF := ho9.mono hGR.size
        clear hI
        go_wp2
        rw [← HPP.out]
        exact ⟨a9, un, c9, vs9, _, rfl, hn1, hnm, hoF, rnL_sqP hPn hsq, hs9, hG9⟩
  · have e0 : (y == 0) = false := by simp [hy0]
    clear hy0
    go_wp2
    rw [← HPP.out]
    exact ⟨ua, un, uc, vs, t, rfl, hn1, hnm, ho4, hsq, hs4, hG4⟩
end Go.Proofs.YtiliimkfobfbnaaGreat
