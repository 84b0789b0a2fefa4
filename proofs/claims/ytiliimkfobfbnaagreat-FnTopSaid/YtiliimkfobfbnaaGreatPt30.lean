/-
  Walks and plain laws of this seat, some texts in one.
  No condition but bounds on lengths.
-/
import Derived.Test.YtiliimkfobfbnaaGreatPt29
import Derived.Test.YtiliimkfobfbnaaGreatPt20
namespace Go.Proofs.YtiliimkfobfbnaaGreat
set_option maxRecDepth 100000
set_option linter.unusedVariables false
set_option linter.unusedSimpArgs false
open Go.RowKit
def skS (T : List (List Int)) (n k : Nat) (f c d : List Int) (out : List (List Int)) (y : Nat) : Option (List (List Int)) :=
  if (y : Int) ∈ f ∨ c.getD f.length 0 ≠ d.getD y 0 ∨ fitF T (f ++ [(y : Int)]) = false then some out
  else match refF T n (2 * n + 2) (c.set f.length 60) (d.set y 60) 0 with
    | none => none
    | some none => some out
    | some (some r) => (skF T n k (f ++ [(y : Int)]) r.1 r.2).bind fun l => some (out ++ l)
theorem skF_succ (T : List (List Int)) (n k : Nat) (f c d : List Int) : skF T n (k + 1) f c d = foldO (skS T n k f c d) n [] := rfl
theorem skF_len {T : List (List Int)} {n : Nat} : ∀ {k : Nat} {f c d : List Int} {r : List (List Int)}, skF T n k f c d = some r → r.length ≤ n ^ k := by
  intro k
  induction k with
  | zero => intro f c d r h; cases h; simp
  | succ k ih =>
    intro f c d r h
    rw [skF_succ] at h
    have key : ∀ y o, foldO (skS T n k f c d) y [] = some o → o.length ≤ y * n ^ k := by
      intro y
      induction y with
      | zero => intro o h; cases h; simp
      | succ y ihy =>
        intro o h
        obtain ⟨s, hs⟩ := foldO_le h (Nat.le_succ y)
        rw [foldO_succ hs] at h
        have h1 := ihy s hs
        rw [Nat.add_mul, Nat.one_mul]
        unfold skS at h
        split at h
        · cases h; omega
        · split at h
          · cases h
          · cases h; omega
          · rename_i r' _
            cases hq : skF T n k (f ++ [(y : Int)]) r'.1 r'.2 with
            | none => rw [hq] at h; cases h
            | some l => rw [hq] at h; cases h; have := ih hq; simp; omega
    have := key n r h
    rw [Nat.pow_succ, Nat.mul_comm]; exact this
theorem foldO_bd {T : List (List Int)} {n k : Nat} {f c d : List Int} : ∀ {y : Nat} {o : List (List Int)}, foldO (skS T n k f c d) y [] = some o → o.length ≤ y * n ^ k := by
  intro y
  induction y with
  | zero => intro o h; cases h; simp
  | succ y ihy =>
    intro o h
    obtain ⟨s, hs⟩ := foldO_le h (Nat.le_succ y)
    rw [foldO_succ hs] at h
    have h1 := ihy hs
    rw [Nat.add_mul, Nat.one_mul]
    unfold skS at h
    split at h
    · cases h; omega
    · split at h
      · cases h
      · cases h; omega
      · rename_i r' _
        cases hq : skF T n k (f ++ [(y : Int)]) r'.1 r'.2 with
        | none => rw [hq] at h; cases h
        | some l => rw [hq] at h; cases h; have := skF_len hq; simp; omega
theorem Less.set60 {c : List Int} (h : Less 61 c) (i : Nat) : Less 61 (c.set i 60) := fun j hj => by
  rw [List.length_set] at hj
  by_cases e : i = j
  · subst e; exact ⟨60, by omega, by simp [List.getD_eq_getElem?_getD, hj]⟩
  · obtain ⟨v, h1, h2⟩ := h j hj
    exact ⟨v, h1, by rw [← h2]; simp [List.getD_eq_getElem?_getD, List.getElem?_set_ne e]⟩
theorem Less.snocN {n : Nat} {f : List Int} (h : Less n f) {y : Nat} (hy : y < n) : Less n (f ++ [(y : Int)]) := fun j hj => by
  rw [List.length_append] at hj
  by_cases e : j < f.length
  · obtain ⟨v, h1, h2⟩ := h j e
    exact ⟨v, h1, by rw [← h2]; simp [List.getD_eq_getElem?_getD, List.getElem?_append_left e]⟩
  · obtain rfl : j = f.length := by simp at hj; omega
    exact ⟨y, hy, by simp [List.getD_eq_getElem?_getD]⟩
set_option maxHeartbeats 16000000 in
theorem l03Seek_any (n : Nat) (T : List (List Int)) (hT : Sq n T) (hn1 : 1 ≤ n) (hn : n ≤ 7) (lo : Nat) (a b : Option Addr) (ca cb : Nat) : ∀ (k m : Nat) (f c d : List Int) (r : List (List Int)) (fa ac ad oa : Option Addr) (cf cc cd on oc : Nat) (vs : List SV) (xss : List (List Int)) (w : World),
    skF T n k f c d = some r → m = f.length → m + k = n → 1 ≤ m → Kp (TblS oa on vs) w (fun w => TbS w a 1 [T]) → Kp (TblS oa on vs) w (fun w => TbS w b 1 [T]) → Kp (TblS oa on vs) w (fun w => Row w fa m f) → Less n f →
    Kp (TblS oa on vs) w (fun w => Row w ac n c) → Kp (TblS oa on vs) w (fun w => Row w ad n d) → Less 61 c → Less 61 d → OwnT w lo oa on oc vs xss → lo ≤ w.heap.size → on + n ^ k ≤ 900000 →
    Calls Tryz.prog 159 #[.slice a 1 ca, .slice b 1 cb, .slice fa m cf, .slice ac n cc, .slice ad n cd, .int .i64 1000000, .slice oa on oc] w (GrT (fun _ => False) w lo oa on vs (xss ++ r)) := by
  intro k
  induction k with
  | zero =>
    intro m f c d r fa ac ad oa cf cc cd on oc vs xss w hr hm hmk h1m HA HB HF hlf HC HD hlc hld ht hlo hb
    obtain rfl : m = n := by omega
    obtain rfl : [f] = r := Option.some.inj hr
    have hq : ((m : Int) == (m : Int)) = true := by simp
    have hF := HF.now
    have hhi := ht.uHi
    clear hr hm HA HB HF HC HD
    go_enter Tryz.func159, Tryz.ntmps159
    go_wp2_with fail
    refine (l01Own_any fa m cf f _ hF (by omega)).mono ?_
    rintro e w3 ⟨a5, c5, rfl, ho5, hb3⟩
    have ho5lo := ho5.lo
    have ht3 := ht.below hb3
    have hz3 := hb3.size
    go_wp2_with (at_builtin; refine appT1g rfl rfl ht3 rfl (ho5.mono hlo) (fun g h1 h2 => by have h3 := hhi _ (.inl h1); have h4 := ho5lo _ h2; omega) (fun i hi g h1 h2 => by have h3 := ho5lo _ h1; have h4 := hhi _ (.inr ⟨i, hi, h2⟩); omega) rfl (by omega) (by omega) ?_; intro g' cc w8 hO hg8 hat8 hb8)
    go_ret
    refine ⟨_, _, _, _, rfl, hO, (Marked.ofB (S := TblS oa on vs) hb3).then (Marked.grown ht3 hg8) (fun g h => .inl h), fun g hg => ?_⟩
    rcases TblS.snoc (a := oa) ht.vlen hg with rfl | h | h
    · rcases hat8 with h | h
      · exact .inl (ht3.ownBlk h)
      · exact .inr (.inr (by omega))
    · exact .inr (.inr (ho5lo _ h))
    · exact .inl h
  | succ k ih =>
    intro m f c d r fa ac ad oa cf cc cd on oc vs xss w hr hm hmk h1m HA HB HF hlf HC HD hlc hld ht hlo hb
    rw [skF_succ] at hr
    have HR := Lib.hid hr
    have IH := Lib.hid ih
    have hq : ((m : Int) == (n : Int)) = false := by simp; omega
    have HM := Lib.hid hm
    have hpw : n ^ (k + 1) = n ^ k * n := Nat.pow_succ ..
    have HN : Hid (∀ y, y < n → on + y * n ^ k + n ^ k ≤ 900000) := Lib.hid fun y hy => by
      have : (y + 1) * n ^ k ≤ n * n ^ k := Nat.mul_le_mul_right _ hy
      rw [Nat.add_mul, Nat.one_mul] at this
      rw [Nat.mul_comm] at hpw
      omega
    have HL := Lib.hid ht.tbl.len
    have HKA := Lib.hid HA; have HKB := Lib.hid HB; have HKF := Lib.hid HF; have HKC := Lib.hid HC; have HKD := Lib.hid HD
    have HLF := Lib.hid hlf
    have hM0 := Marked.refl (TblS oa on vs) w
    have hsub0 : ∀ g, TblS oa on vs g → TblS oa on vs g ∨ w.heap.size ≤ g := fun g h => .inl h
    clear ih hb hpw hr hm HA HB HF HC HD hlf
    go_enter Tryz.func159, Tryz.ntmps159
    go_wp2
    go_loopw [6, 16] (fun l i wr => ∃ (y : Nat) (o : List (List Int)) (a' : Option Addr) (n' c' : Nat) (vs' : List SV), y ≤ n ∧ i = .int .i64 y ∧ l = .slice a' n' c' ∧ Hid (foldO (skS T n k f c d) y [] = some o) ∧ OwnT wr lo a' n' c' vs' (xss ++ o) ∧ Marked (TblS oa on vs) w wr ∧ (∀ g, TblS a' n' vs' g → TblS oa on vs g ∨ w.heap.size ≤ g)) (fun _ i _ => n - (intOf i).toNat)
    case atStart => exact ⟨0, [], oa, on, oc, vs, Nat.zero_le _, rfl, rfl, Lib.hid rfl, by simpa using ht, hM0, hsub0⟩
    case round =>
      obtain ⟨y, o, a', n', c', vs', hy, rfl, rfl, HO, ht', hM, hsub⟩ := hrel
      obtain ⟨W, rfl⟩ : ∃ W : World, W = wr := ⟨_, rfl⟩
      have HSUB := Lib.hid hsub
      clear hsub ht hM0 hsub0
      have hnl := ht'.tbl.len
      rw [List.length_append] at hnl
      have hobd := foldO_bd HO.out
      by_cases hlt : y < n
      · have hn' : n' + n ^ k ≤ 900000 := by have := HN.out y hlt; have := HL.out; omega
        have hn9 : (n' : Int) < 1000000 := by omega
        clear hnl hobd
        obtain ⟨o2, HO2⟩ : ∃ o2, Hid (foldO (skS T n k f c d) (y + 1) [] = some o2) := by
          obtain ⟨s, hs⟩ := foldO_le HR.out (show y + 1 ≤ n by omega); exact ⟨s, Lib.hid hs⟩
        have HST : Hid (skS T n k f c d o y = some o2) := Lib.hid (by rw [← foldO_succ HO.out]; exact HO2.out)
        have hWs := hM.size
        have hF := HKF.out W hM
        go_wp2_with fail
        refine (l01Own_any fa m cf f _ hF (by omega)).mono ?_
        rintro e w3 ⟨a5, c5, rfl, ho5, hb3⟩
        have hz3 := hb3.size
        have hm12 : m + 1 ≤ 1000000000000 := by omega
        go_wp2_with (at_builtin; refine app1 rfl rfl ho5 rfl rfl hm12 hz3 ?_; intro g5 cc5 w8 hO5 hg8 hs8 hb8)
        have hb38 := hb3.trans hb8
        have hM8 : Marked (TblS oa on vs) w w8 := hM.then (Marked.ofB (S := fun _ => False) hb38) (fun _ h => h.elim)
        have hF8 := HKF.out w8 hM8
        have hC8 := HKC.out w8 hM8
        have hD8 := HKD.out w8 hM8
        have hA8 := HKA.out w8 hM8
        have hB8 := HKB.out w8 hM8
        have ht8 := ht'.below hb38
        have hml : m = f.length := HM.out
        obtain ⟨xb, xo, rfl, s1⟩ := hC8.at m (by omega)
        obtain ⟨yb, yo, rfl, s2⟩ := hD8.at y hlt
        obtain ⟨p, HP⟩ : ∃ p, Hid (c.getD m 0 = p) := ⟨_, Lib.hid rfl⟩
        obtain ⟨q, HQ⟩ : ∃ q, Hid (d.getD y 0 = q) := ⟨_, Lib.hid rfl⟩
        rw [HP.out] at s1; rw [HQ.out] at s2
        have x1 : (0 : Int) ≤ (m : Int) := by omega
        have x2 : (m : Int) < (n : Int) := by omega
        have x3 : (0 : Int) ≤ (y : Int) := by omega
        have x4 : (y : Int) < (n : Int) := by omega
        obtain ⟨B1, HB1⟩ : ∃ B, Hid (decide ((y : Int) ∈ f) = B) := ⟨_, Lib.hid rfl⟩
        obtain ⟨B3, HB3⟩ : ∃ B, Hid (fitF T (f ++ [(y : Int)]) = B) := ⟨_, Lib.hid rfl⟩
        have HC1 : Hid (∀ m', Calls Tryz.prog 127 #[.slice fa m cf, .int .i64 y] (w8.drewN m') fun e w'' => e = .returned (.bool B1) ∧ ∃ k, w'' = w8.drewN k) := Lib.hid fun m' => (l01Has_any fa m cf f (y : Int) (w8.drewN m') (hF8.drewN m') (by omega)).mono fun e w'' ⟨he, hw⟩ => ⟨by rw [he, HB1.out], m', hw.symm⟩
        have HC3 : Hid (∀ m', Calls Tryz.prog 157 #[.slice a 1 ca, .slice b 1 cb, .slice (some ⟨g5, 0, none⟩) (m + 1) cc5] (w8.drewN m') fun e w'' => e = .returned (.bool B3) ∧ ∃ k, w'' = w8.drewN k) := Lib.hid fun m' => (l03Fits_any n (m + 1) a b _ ca cb cc5 T (f ++ [(y : Int)]) (w8.drewN m') (hA8.drewN m') (hB8.drewN m') hT (hO5.row.drewN m') (HLF.out.snocN hlt) (by omega) (by omega) (by omega)).mono fun e w'' ⟨he, k, hk⟩ => ⟨by rw [he, HB3.out], m' + k, by rw [hk, World.drewN_drewN]⟩
        have HSKIP : Hid ((B1 = true ∨ p ≠ q ∨ B3 = false) → o2 = o) := Lib.hid fun h => by
          have h2 := HST.out
          unfold skS at h2
          rw [if_pos ?_] at h2
          · exact (Option.some.inj h2).symm
          · rcases h with h | h | h
            · exact .inl (by have := HB1.out; rw [h] at this; simpa using this)
            · exact .inr (.inl (by rw [← hml, HP.out, HQ.out]; exact h))
            · exact .inr (.inr (by rw [HB3.out]; exact h))
        have HGO : Hid (¬ (B1 = true ∨ p ≠ q ∨ B3 = false) → ∃ R, refF T n (2 * n + 2) (c.set m 60) (d.set y 60) 0 = some R ∧ (R = none → o2 = o) ∧ ∀ r, R = some r → ∃ l, skF T n k (f ++ [(y : Int)]) r.1 r.2 = some l ∧ o2 = o ++ l) := Lib.hid fun h => by
          have h2 := HST.out
          unfold skS at h2
          rw [if_neg ?_, ← hml] at h2
          · cases hR : refF T n (2 * n + 2) (c.set m 60) (d.set y 60) 0 with
            | none => rw [hR] at h2; cases h2
            | some R =>
              rw [hR] at h2
              refine ⟨R, rfl, fun e => ?_, fun r e => ?_⟩
              · subst e; exact (Option.some.inj h2).symm
              · subst e
                cases hl : skF T n k (f ++ [(y : Int)]) r.1 r.2 with
                | none => simp only [hl] at h2; cases h2
                | some l => simp only [hl] at h2; exact ⟨l, rfl, (Option.some.inj h2).symm⟩
          · intro h3
            refine h ?_
            rcases h3 with h3 | h3 | h3
            · exact .inl (by rw [← HB1.out]; simpa using h3)
            · exact .inr (.inl (by rw [← hml, HP.out, HQ.out] at h3; exact h3))
            · exact .inr (.inr (by rw [← HB3.out]; exact h3))
        clear hml hF hA8 hB8 hF8 HST
        cases B1 with
        | true =>
          have HE := Lib.hid (HSKIP.out (.inl rfl))
          clear s1 s2
          go_wp2
          go_quiet ((go_at_call 127; with_reducible exact HC1.out _))
          go_wp2
          go_roundw
          case rel => exact ⟨y + 1, o, a', n', c', vs', by omega, by go_num, rfl, by rw [← HE.out]; exact HO2, ht8.drewN _, hM8.then (Marked.ofB (S := fun _ => False) (below_drewN (Below.refl _ _) _)) (fun _ h => h.elim), HSUB.out⟩
          case measure => simp [intOf]; omega
        | false =>
          by_cases hpq : p = q
          · have u1 : (p != q) = false := by simp [hpq]
            have HPQ := Lib.hid hpq
            clear hpq
            cases B3 with
            | false =>
              have HE := Lib.hid (HSKIP.out (.inr (.inr rfl)))
              go_wp2
              go_quiet ((first | (go_at_call 127; with_reducible exact HC1.out _) | (go_at_call 157; with_reducible exact HC3.out _)))
              go_wp2
              go_roundw
              case rel => exact ⟨y + 1, o, a', n', c', vs', by omega, by go_num, rfl, by rw [← HE.out]; exact HO2, ht8.drewN _, hM8.then (Marked.ofB (S := fun _ => False) (below_drewN (Below.refl _ _) _)) (fun _ h => h.elim), HSUB.out⟩
              case measure => simp [intOf]; omega
            | true =>
              obtain ⟨R, hR1, hR2, hR3⟩ := HGO.out (by rw [HPQ.out]; simp)
              have HR1 := Lib.hid hR1; have HR2 := Lib.hid hR2; have HR3 := Lib.hid hR3
              clear hR1 hR2 hR3 HSKIP HGO
              go_wp2
              go_quiet ((first | (go_at_call 127; with_reducible exact HC1.out _) | (go_at_call 157; with_reducible exact HC3.out _)))
              have hO5G : Own (w8.drewN nq) W.heap.size (some ⟨g5, 0, none⟩) (m + 1) cc5 (f ++ [(y : Int)]) := hO5.drewN nq |>.mono (by omega)
              have htG := ht8.drewN nq
              have hMG : Marked (TblS oa on vs) w (w8.drewN nq) := hM8.then (Marked.ofB (S := fun _ => False) (below_drewN (Below.refl _ _) _)) (fun _ h => h.elim)
              have hWG : W.heap.size ≤ (w8.drewN nq).heap.size := hb38.size
              clear hO5 ht8 hM8 s1 s2 hC8 hD8 HC1 HC3
              generalize w8.drewN nq = G at *
              have hCG := HKC.out G hMG
              have hDG := HKD.out G hMG
              have hn12 : n ≤ 1000000000000 := by omega
              have hhi := ht'.uHi
              go_wp2_with fail
              refine (l01Own_any _ n cc c _ hCG hn12).mono ?_
              rintro e w9 ⟨a9, c9, rfl, ho9, hb9⟩
              go_wp2_with fail
              refine (l01Own_any _ n cd d _ (hDG.below hb9) hn12).mono ?_
              rintro e w10 ⟨a10, c10, rfl, ho10, hb10⟩
              have hz9 := hb9.size
              have hz10 := hb10.size
              obtain ⟨g9, rfl⟩ : ∃ g, a9 = some ⟨g, 0, none⟩ := by
                rcases ho9.block with ⟨_, h, _⟩ | ⟨g, _, h, _⟩
                · omega
                · exact ⟨g, h⟩
              obtain ⟨g10, rfl⟩ : ∃ g, a10 = some ⟨g, 0, none⟩ := by
                rcases ho10.block with ⟨_, h, _⟩ | ⟨g, _, h, _⟩
                · omega
                · exact ⟨g, h⟩
              have ho9b := ho9.below hb10
              have hl9 := ho9.lt
              have hl10 := ho10.lt
              have f1 := ho9b.cells.2.1 m (by omega)
              have f2 := ho9b.cells.2.2 m
              have hne : g10 ≠ g9 := by omega
              have ho10b := ho10.setne (p := ⟨g9, m, none⟩) (fun g hg => by cases hg; exact hne) (.int .i64 60)
              have ho9c := ho9b.set m 60
              have f3 := ho10b.cells.2.1 y hlt
              have f4 := ho10b.cells.2.2 y
              have ho9d := ho9c.setne (p := ⟨g10, y, none⟩) (fun g hg => by cases hg; exact hne.symm) (.int .i64 60)
              have ho10d := ho10b.set y 60
              have hbG : Below G.heap.size G ((w10.setCell ⟨g9, m, none⟩ (.int .i64 60)).setCell ⟨g10, y, none⟩ (.int .i64 60)) := below_setne (below_setne (hb9.trans (hb10.mono hz9)) (by show G.heap.size ≤ g9; omega) _) (by show G.heap.size ≤ g10; omega) _
              go_wp2_with fail
              obtain ⟨w11, hw11⟩ : ∃ w11, (w10.setCell ⟨g9, m, none⟩ (.int .i64 60)).setCell ⟨g10, y, none⟩ (.int .i64 60) = w11 := ⟨_, rfl⟩
              rw [hw11] at ho9d ho10d hbG ⊢
              clear f1 f2 f3 f4 ho10b ho9c ho9b ho9 ho10 hb9 hb10 hw11 hCG hDG
              have hM11 : Marked (TblS oa on vs) w w11 := hMG.then (Marked.ofB (S := fun _ => False) hbG) (fun _ h => h.elim)
              have hA11 := HKA.out w11 hM11
              have hB11 := HKB.out w11 hM11
              refine (l03Refine_any n a b _ _ ca cb c9 c10 T (c.set m 60) (d.set y 60) w11 (2 * n + 2) R hA11 hB11 hT ho9d.row ho10d.row (Less.set60 hlc m) (Less.set60 hld y) hn1 (by omega) HR1.out).mono ?_
              rintro e w12 ⟨hb12, hres⟩
              have hbG12 := hbG.trans (hb12.mono hbG.size)
              have hM12 : Marked (TblS oa on vs) w w12 := hMG.then (Marked.ofB (S := fun _ => False) hbG12) (fun _ h => h.elim)
              have ht12 := htG.below hbG12
              have hO12 := hO5G.below hbG12
              have hs11 := hbG.size
              have hs12 := hb12.size
              cases R with
              | none =>
                have HE := Lib.hid (HR2.out rfl)
                obtain ⟨_, _, _, _, _, _, rfl⟩ := hres
                go_wp2
                go_roundw
                case rel => exact ⟨y + 1, o, a', n', c', vs', by omega, by go_num, rfl, by rw [← HE.out]; exact HO2, ht12, hM12, HSUB.out⟩
                case measure => simp [intOf]; omega
              | some rr =>
                obtain ⟨l, hsl, hol⟩ := HR3.out rr rfl
                have HSL := Lib.hid hsl; have HOL := Lib.hid hol
                obtain ⟨al, bl, k1, k2, rfl, hrn1, hrn2, hl1, hl2⟩ := hres
                clear hsl hol
                go_wp2_with fail
                refine (IH.out (m + 1) (f ++ [(y : Int)]) rr.1 rr.2 l _ al bl a' cc5 k1 k2 n' c' vs' _ w12 HSL.out (by rw [List.length_append]; have := HM.out; simp; omega) (by omega) (by omega) (HKA.out.step hM12 HSUB.out) (HKB.out.step hM12 HSUB.out) (hO12.kp fun g hg => hhi g hg) (HLF.out.snocN hlt) (hrn1.kp fun g hg => by have := hhi g hg; omega) (hrn2.kp fun g hg => by have := hhi g hg; omega) hl1 hl2 ht12 (by omega) hn').mono ?_
                rintro e w13 ⟨a13, n13, c13, vs13, rfl, ht13, hM13, hsub13⟩
                go_wp2
                go_roundw
                case rel =>
                  refine ⟨y + 1, o2, a13, n13, c13, vs13, by omega, by go_num, rfl, HO2, by rw [HOL.out, ← List.append_assoc]; exact ht13, hM12.then hM13 HSUB.out, fun g hg => ?_⟩
                  rcases hsub13 g hg with h | h | h
                  · exact HSUB.out g h
                  · exact h.elim
                  · exact .inr (by omega)
                case measure => simp [intOf]; omega
          · have u1 : (p != q) = true := by simp [hpq]
            have HE := Lib.hid (HSKIP.out (.inr (.inl hpq)))
            clear hpq
            go_wp2
            go_quiet ((go_at_call 127; with_reducible exact HC1.out _))
            go_wp2
            go_roundw
            case rel => exact ⟨y + 1, o, a', n', c', vs', by omega, by go_num, rfl, by rw [← HE.out]; exact HO2, ht8.drewN _, hM8.then (Marked.ofB (S := fun _ => False) (below_drewN (Below.refl _ _) _)) (fun _ h => h.elim), HSUB.out⟩
            case measure => simp [intOf]; omega
      · obtain rfl : n = y := by omega
        have HE : Hid (o = r) := Lib.hid (by have h1 := HO.out; rw [HR.out] at h1; exact (Option.some.inj h1).symm)
        go_wp2
        go_ret
        exact ⟨a', n', c', vs', rfl, by rw [← HE.out]; exact ht', hM, fun g hg => (HSUB.out g hg).elim .inl (fun h => .inr (.inr h))⟩
theorem mapF_some {T : List (List Int)} {n : Nat} {A : List (List Int)} (h : mapF T n = some A) : (fitF T [0] = false → A = []) ∧ (fitF T [0] = true → ∃ R, refF T n (2 * n + 2) ((List.replicate n (0 : Int)).set 0 60) ((List.replicate n (0 : Int)).set 0 60) 0 = some R ∧ (R = none → A = []) ∧ ∀ r, R = some r → skF T n (n - 1) [0] r.1 r.2 = some A) := by
  unfold mapF at h
  refine ⟨fun e => ?_, fun e => ?_⟩
  · rw [if_pos e] at h; exact (Option.some.inj h).symm
  · rw [if_neg (by rw [e]; simp)] at h
    cases hR : refF T n (2 * n + 2) ((List.replicate n (0 : Int)).set 0 60) ((List.replicate n (0 : Int)).set 0 60) 0 with
    | none => rw [hR] at h; cases h
    | some R =>
      rw [hR] at h
      refine ⟨R, rfl, fun e => ?_, fun r e => ?_⟩
      · subst e; exact (Option.some.inj h).symm
      · subst e; exact h
theorem less_one {n : Nat} (hn : 1 ≤ n) : Less n [0] := fun i hi => by
  obtain rfl : i = 0 := by simpa using hi
  exact ⟨0, hn, rfl⟩
theorem less_zeros (n : Nat) : Less 61 (List.replicate n (0 : Int)) := fun i hi => ⟨0, by omega, by rw [List.length_replicate] at hi; simp [List.getD_eq_getElem?_getD, hi]⟩
theorem TbS.lit {w : World} {b : Nat} (hb : b = w.heap.size) {a : Option Addr} {n c : Nat} {T : List (List Int)} (h : Tbl w a n T) (hn : n ≤ 9223372036854775807) (t : TypeId) : TbS (w.alloc (.cells #[.slice a n c] t)) (some ⟨b, 0, none⟩) 1 [T] :=
  ⟨rfl, fun i hi => by
    obtain rfl : i = 0 := by omega
    exact ⟨b, 0, a, n, c, rfl, by rw [size_alloc]; omega, (Loc.new w hb #[.slice a n c] t).cell 0 rfl, h.below (below_al (Below.refl _ _) _), hn⟩⟩
set_option maxHeartbeats 16000000 in
theorem l03Maps_any (n : Nat) (T : List (List Int)) (hT : Sq n T) (hn1 : 1 ≤ n) (hn : n ≤ 7) (a b fa : Option Addr) (ca cb cf : Nat) (A : List (List Int)) (w : World) (ha : TbS w a 1 [T]) (hb : TbS w b 1 [T]) (hf : Row w fa 1 [0]) (hA : mapF T n = some A) :
    Calls Tryz.prog 152 #[.slice a 1 ca, .slice b 1 cb, .slice fa 1 cf, .int .i64 1000000] w fun e w' => ∃ a' k c' vs, e = .returned (.slice a' k c') ∧ OwnT w' w.heap.size a' k c' vs A ∧ Below w.heap.size w w' := by
  obtain ⟨HM1, HM2⟩ := mapF_some hA
  have HM1 := Lib.hid HM1; have HM2 := Lib.hid HM2
  have HTA := Lib.hid ha; have HTB := Lib.hid hb; have HFA := Lib.hid hf
  have hpw : n ^ (n - 1) ≤ 1000000 := pow_bd hn (by omega)
  have hpw2 : n ^ (n - 1) ≤ 900000 := by
    have h1 : n ^ (n - 1) ≤ 7 ^ (n - 1) := Nat.pow_le_pow_left hn _
    have h2 : (7 : Nat) ^ (n - 1) ≤ 7 ^ 6 := Nat.pow_le_pow_right (by omega) (by omega)
    have h3 : (7 : Nat) ^ 6 ≤ 900000 := by decide
    omega
  have HPW := Lib.hid hpw2
  clear hA hpw hpw2
  obtain ⟨b1, o1, g1, q1, _, _, _, c1, rfl, k1, _, kb1⟩ := ha.at0 hT hn1
  obtain ⟨b2, o2, g2, q2, _, _, _, c2, rfl, k2, _, kb2⟩ := hb.at0 hT hn1
  clear ha hb
  obtain ⟨mk, hmk⟩ := make_eq n (by omega)
  have HMK := Lib.hid hmk
  have hmk1 := fun v => (hmk v).1
  clear hmk
  go_enter Tryz.func152, Tryz.ntmps152
  go_wp2
  go_quiet (fail)
  obtain ⟨G, HG⟩ : ∃ G : World, Hid (w.drewN nq = G) := ⟨_, Lib.hid rfl⟩
  have hbG : Below w.heap.size w G := by rw [← HG.out]; exact below_drewN (Below.refl _ _) nq
  have hGz : G.heap.size = w.heap.size := by rw [← HG.out]; rfl
  have k1G : G.cell? ⟨b1, o1, none⟩ = some (.slice (some ⟨g1, q1, none⟩) n c1) := by rw [← HG.out]; exact k1
  rw [HG.out]
  go_upto_region 3 with fail
  go_cut [9, 10] (fun s9 s10 wx => ∃ x y, s9 = .slice (some ⟨x, 0, none⟩) n n ∧ s10 = .slice (some ⟨y, 0, none⟩) n n ∧ x ≠ y ∧ Own wx w.heap.size (some ⟨x, 0, none⟩) n n (List.replicate n 0) ∧ Own wx w.heap.size (some ⟨y, 0, none⟩) n n (List.replicate n 0) ∧ Below w.heap.size w wx)
  case first =>
    have hKP : ∀ v, Below w.heap.size w v → v.cell? ⟨b1, o1, none⟩ = some (.slice (some ⟨g1, q1, none⟩) n c1) := fun v h => (h.cell (p := ⟨b1, o1, none⟩) kb1).trans k1
    have HKP := Lib.hid hKP
    have HMB : Hid (∀ v, Below w.heap.size w v → Below w.heap.size w (mk v)) := Lib.hid fun v h => below_th h (HMK.out v).2.2.1
    have hGz2 := Lib.hid hGz
    clear hKP hGz
    go_region_held3 (fun v => v.cell? ⟨b1, o1, none⟩ = some (.slice (some ⟨g1, q1, none⟩) n c1)) (first | exact k1G | (refine HKP.out _ ?_; (repeat (with_reducible first | exact hbG | refine Below.drew ?_ | refine below_drewN ?_ _ | refine HMB.out _ ?_)); done) | go_keep) (first | fail)
    all_goals
      go_wp2_with fail
      go_meet
      obtain ⟨_, o1, q1, z1⟩ := HMK.out G.drew
      obtain ⟨_, o2, q2, z2⟩ := HMK.out (mk G.drew)
      have z0 : G.drew.heap.size = w.heap.size := hGz2.out
      have e1 : G.drew.heap.size = G.heap.size := rfl
      have p1 : Own (mk (mk G.drew)) w.heap.size (some ⟨G.heap.size, 0, none⟩) n n (List.replicate n 0) := (o1.below q2).mono (by omega)
      have p2 : Own (mk (mk G.drew)) w.heap.size (some ⟨(mk G.drew).heap.size, 0, none⟩) n n (List.replicate n 0) := o2.mono (by omega)
      have p3 : Below w.heap.size w (mk (mk G.drew)) := HMB.out _ (HMB.out _ (Below.drew hbG))
      first
        | exact ⟨_, _, rfl, rfl, by omega, p1, p2, p3⟩
        | exact ⟨_, _, rfl, rfl, by omega, p2, p1, p3⟩
  case rest =>
    obtain ⟨x, y, rfl, rfl, hxy, hx, hy, hbx⟩ := hcut
    obtain ⟨W, rfl⟩ : ∃ W : World, W = wc := ⟨_, rfl⟩
    have hxl := hx.lt
    have hyl := hy.lt
    have hA0 := HTA.out.below hbx
    have hB0 := HTB.out.below hbx
    have hF0 := HFA.out.below hbx
    clear hGz hbG k1G HG
    go_wp2_with fail
    refine (l03Fits_any n 1 _ _ fa ca cb cf T [0] _ hA0 hB0 hT hF0 (less_one hn1) (by omega) hn1 (by omega)).mono ?_
    rintro e w3 ⟨rfl, hw3⟩
    have hb3 : Below W.heap.size W w3 := by obtain ⟨k, hk⟩ := hw3; rw [hk]; exact below_drewN (Below.refl _ _) k
    clear hw3
    have hx3 := hx.below hb3
    have hy3 := hy.below hb3
    cases hff : fitF T [0] with
    | false =>
      have HA := Lib.hid (HM1.out hff)
      clear hff
      go_wp2
      go_ret
      exact ⟨none, 0, 0, [], rfl, by rw [HA.out]; exact OwnT.nil _ _, hbx.trans (hb3.mono hbx.size)⟩
    | true =>
      obtain ⟨R, hR1, hR2, hR3⟩ := HM2.out hff
      have HR1 := Lib.hid hR1; have HR2 := Lib.hid hR2; have HR3 := Lib.hid hR3
      clear hff hR1 hR2 hR3
      have f1 := hx3.cells.2.1 0 (by omega)
      have f2 := hx3.cells.2.2 0
      have hy4 := hy3.setne (p := ⟨x, 0, none⟩) (fun g hg => by cases hg; exact hxy.symm) (.int .i64 60)
      have f3 := hy4.cells.2.1 0 (by omega)
      have f4 := hy4.cells.2.2 0
      have hx5 := (hx3.set 0 60).setne (p := ⟨y, 0, none⟩) (fun g hg => by cases hg; exact hxy) (.int .i64 60)
      have hy5 := hy4.set 0 60
      have hb5 : Below w.heap.size w ((w3.setCell ⟨x, 0, none⟩ (.int .i64 60)).setCell ⟨y, 0, none⟩ (.int .i64 60)) := below_setne (below_setne (hbx.trans (hb3.mono hbx.size)) (by show w.heap.size ≤ x; omega) _) (by show w.heap.size ≤ y; omega) _
      go_wp2_with fail
      obtain ⟨w5, hw5⟩ : ∃ w5, (w3.setCell ⟨x, 0, none⟩ (.int .i64 60)).setCell ⟨y, 0, none⟩ (.int .i64 60) = w5 := ⟨_, rfl⟩
      rw [hw5] at hx5 hy5 hb5 ⊢
      clear hw5 f1 f2 f3 f4 hy4 hx3 hy3 hx hy
      have hA5 := HTA.out.below hb5
      have hB5 := HTB.out.below hb5
      refine (l03Refine_any n _ _ _ _ ca cb n n T _ _ w5 (2 * n + 2) R hA5 hB5 hT hx5.row hy5.row (Less.set60 (less_zeros n) 0) (Less.set60 (less_zeros n) 0) hn1 (by omega) HR1.out).mono ?_
      rintro e w6 ⟨hb6, hres⟩
      have hb06 := hb5.trans (hb6.mono hb5.size)
      have hs5 := hb5.size
      have hs6 := hb6.size
      cases R with
      | none =>
        have HE := Lib.hid (HR2.out rfl)
        obtain ⟨_, _, _, _, _, _, rfl⟩ := hres
        go_wp2
        go_ret
        exact ⟨none, 0, 0, [], rfl, by rw [HE.out]; exact OwnT.nil _ _, hb06⟩
      | some rr =>
        have HSL := Lib.hid (HR3.out rr rfl)
        obtain ⟨al, bl, m1, m2, rfl, hrn1, hrn2, hl1, hl2⟩ := hres
        have hno : ∀ g, ¬ TblS none 0 [] g := fun g h => by rcases h with h | ⟨i, hi, _⟩; (cases h); omega
        have HNO := Lib.hid hno
        clear hno
        go_wp2_with fail
        refine (l03Seek_any n T hT hn1 hn w.heap.size _ _ ca cb (n - 1) 1 [0] rr.1 rr.2 A fa al bl none cf m1 m2 0 0 [] [] w6 HSL.out rfl (by omega) (Nat.le_refl _) (fun w' hm => HTA.out.below (hb06.trans ((Marked.lowb hm (fun g h => absurd h (HNO.out g)) (Nat.le_refl _)).mono hb06.size))) (fun w' hm => HTB.out.below (hb06.trans ((Marked.lowb hm (fun g h => absurd h (HNO.out g)) (Nat.le_refl _)).mono hb06.size))) (fun w' hm => HFA.out.below (hb06.trans ((Marked.lowb hm (fun g h => absurd h (HNO.out g)) (Nat.le_refl _)).mono hb06.size))) (less_one hn1) (hrn1.kp fun g hg => absurd hg (HNO.out g)) (hrn2.kp fun g hg => absurd hg (HNO.out g)) hl1 hl2 (OwnT.nil _ _) (by omega) (by have := HPW.out; omega)).mono ?_
        rintro e w7 ⟨a7, n7, c7, vs7, rfl, ht7, hM7, hsub7⟩
        have hb67 := Marked.lowb hM7 (fun g h => absurd h (HNO.out g)) (Nat.le_refl _)
        go_wp2
        go_ret
        exact ⟨a7, n7, c7, vs7, rfl, by simpa using ht7, hb06.trans (hb67.mono hb06.size)⟩
set_option maxHeartbeats 4000000 in
theorem l10Automorphisms_any (n c : Nat) (T : List (List Int)) (hT : Sq n T) (hn1 : 1 ≤ n) (hn : n ≤ 7) (a : Option Addr) (A : List (List Int)) (w : World) (h : Tbl w a n T) (hA : mapF T n = some A) :
    Calls Tryz.prog 140 #[.slice a n c] w fun e w' => ∃ a' k c' vs, e = .returned (.slice a' k c') ∧ OwnT w' w.heap.size a' k c' vs A ∧ Below w.heap.size w w' := by
  have h1 := (TbS.lit rfl h (by omega) 24 (c := c)).below (below_al (below_al (Below.refl _ _) (.cells #[.slice a n c] 24)) (.cells #[.int .i64 0] 2))
  have h2 := (TbS.lit (w := w.alloc (.cells #[.slice a n c] 24)) (b := w.heap.size + 1) (by simp) (h.below (below_al (Below.refl _ _) _)) (by omega) 24 (c := c)).below (below_al (Below.refl _ _) (.cells #[.int .i64 0] 2))
  have h3 := Row.one ((w.alloc (.cells #[.slice a n c] 24)).alloc (.cells #[.slice a n c] 24)) (b := w.heap.size + 1 + 1) (by simp) 0 2
  have hb0 := below_al (below_al (below_al (Below.refl w.heap.size w) (.cells #[.slice a n c] 24)) (.cells #[.slice a n c] 24)) (.cells #[.int .i64 0] 2)
  have HA := Lib.hid hA
  clear hA h
  go_enter Tryz.func140, Tryz.ntmps140
  go_wp2_with fail
  refine (l03Maps_any n T hT hn1 hn _ _ _ 1 1 1 A _ h1 h2 h3 HA.out).mono ?_
  rintro e w1 ⟨a1, k1, c1, vs1, rfl, ht, hb⟩
  have hz := hb0.size
  go_wp2
  go_ret
  exact ⟨a1, k1, c1, vs1, rfl, ht.mono hz, hb0.trans (hb.mono hz)⟩
end Go.Proofs.YtiliimkfobfbnaaGreat
