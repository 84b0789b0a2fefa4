/-
  How the arguments of the laws read: desks.
  No condition.
-/
import Derived.Test.YthkpdodhkgdiaaaOpenS
import Derived.Test.YthkpdodhkgdiaaaUD
namespace Go.Proofs.Ythkpdodhkgdiaaa
set_option maxRecDepth 100000
set_option linter.unusedVariables false
set_option linter.unusedSimpArgs false
open Go.ChangeShapes Go.WideShapes Go.ChangeAt Go.RowKit Go.Joins Go.Deep

theorem array5 {α : Type} {cs : Array α} (h : cs.size = 5) : ∃ c0 c1 c2 c3 c4, cs = #[c0, c1, c2, c3, c4] := by
  obtain ⟨l⟩ := cs
  match l, h with
  | [c0, c1, c2, c3, c4], _ => exact ⟨c0, c1, c2, c3, c4, rfl⟩
theorem cells_ldesk : Try.prog.cellsOf 73 = 5 := by kernel_rfl
theorem cells_lrack : Try.prog.cellsOf 71 = 1 := by kernel_rfl
theorem open_desk {H : Type} {enc : TypeId × Value → H} {W : World} {b0 : Nat} {v : Value} {d : DataW H} {p : List MemPlace} (hv : Value.okWide Try.prog W .any b0 73 v)
    (h : DataW.Trod enc Try.prog W 0 (fun _ => true) true 73 v d p) : ∃ a n c xss a' n' c' yss p m d zss s q l e ws, v = dAgg a n c a' n' c' p m d s q l e ∧ I64 s ∧ Dsk W a n xss a' n' yss p m zss q l ws ∧ ((n ≤ 9223372036854775807 ∧ n' ≤ 9223372036854775807) ∧ m ≤ 9223372036854775807 ∧ l ≤ 9223372036854775807) ∧ I64s ws := by
  obtain ⟨cs, rfl, hsz⟩ := okWide_struct Try.underlying73 hv
  obtain ⟨c0, c1, c2, c3, c4, rfl⟩ := array5 (hsz.trans cells_ldesk)
  obtain ⟨fuel, hf⟩ := h
  obtain ⟨y0, y1, y2, n, hx, _, h0, h1, h2⟩ := trod_struct3 Try.underlying73 hf
  simp [Value.cells, cells_lsol] at h0
  simp [Value.cells, cells_lrack] at h1
  simp [Value.cells, cells_lbraid] at h2
  obtain ⟨z0, z1, n1, _, _, g0, g1⟩ := trod_struct2 Try.underlying52 h0
  obtain ⟨xs, n2, _, _, _, hlen, hf1⟩ := DataW.trod_struct Try.underlying71 h1
  obtain ⟨u0, u1, n3, _, _, k0, k1⟩ := trod_struct2 Try.underlying44 h2
  match xs, hlen with
  | [r0], _ =>
    have r1 := hf1 0 _ rfl
    obtain ⟨a, n, c, xss, e0, hr0, hn0⟩ := tbl_of_trod g0
    obtain ⟨a', n', c', yss, e1, hr1, hn1⟩ := tbl_of_trod g1
    obtain ⟨p, m, d, zss, e2, hr2, hn2⟩ := tbl_of_trod r1
    obtain ⟨s, e3, _, ws'⟩ := DataW.trod_int und_int k0
    obtain ⟨q, l, e, ws, e4, hr4⟩ := row_of_trod (fun _ => rfl) k1
    simp [cells_table, cells_int, cells_row] at e0 e1 e2 e3 e4
    subst e0 e1 e2 e3 e4
    exact ⟨a, n, c, xss, a', n', c', yss, p, m, d, zss, s, q, l, e, ws, rfl, i64_of_wf ws', ⟨⟨hr0, hr1⟩, hr2, hr4.1⟩, ⟨⟨hn0, hn1⟩, hn2, hr4.2.1⟩, hr4.2.2⟩

end Go.Proofs.Ythkpdodhkgdiaaa
