/- How arguments that are lists of edges, or graphs, are opened for the walk of a law. -/
import Derived.Test.YtnldfjoadmehcaaRowKit
import Derived.Test.YtnldfjoadmehcaaTools
import Derived.Lib.SmallJoins
import Derived.Deep.Slices
import Derived.Deep.Fields
set_option linter.unusedVariables false
set_option linter.unusedSimpArgs false
namespace Go.Proofs.Ytnldfjoadmehcaa
open Go.Joins Go.ChangeShapes Go.WideShapes Go.ChangeAt Go.RowKit Go.Deep

theorem addr_add0 (a : Addr) : a.add 0 = a := by simp [Addr.add]

section
variable {H : Type} {enc : TypeId × Value → H} {W : World}

set_option maxRecDepth 100000 in
theorem trod_edge {fuel : Nat} {cs : List Value} {x : DataW H × List MemPlace} (h : DataW.trod enc Try.prog W 0 (fun _ => true) true fuel 41 cs = some x) : ∃ a b : Int, cs = [.int .i64 a, .int .i64 b] := by
  obtain ⟨y0, y1, n, _, hl, h0, h1⟩ := trod_struct2 Try.underlying41 h
  have c2 : Try.prog.cellsOf 41 = 2 := by kernel_rfl
  have c1 : Try.prog.cellsOf 3 = 1 := by kernel_rfl
  rw [c2] at hl
  match cs, hl with
  | [u, v], _ =>
    simp only [c1] at h0 h1
    obtain ⟨a, ea, -, -⟩ := DataW.trod_int Try.underlying3 h0
    obtain ⟨b, eb, -, -⟩ := DataW.trod_int Try.underlying3 h1
    simp at ea eb
    exact ⟨a, b, by rw [ea, eb]⟩

set_option maxRecDepth 100000 in
theorem trod_edges {fuel : Nat} {cs : List Value} {x : DataW H × List MemPlace} (h : DataW.trod enc Try.prog W 0 (fun _ => true) true fuel 24 cs = some x) :
    ∃ A len cap es, cs = [.slice A len cap] ∧ ReadE W A len es ∧ len ≤ cap := by
  have c2 : Try.prog.cellsOf 41 = 2 := by kernel_rfl
  rcases open_slice Try.underlying24 h with ⟨hcs, -⟩ | ⟨a, len, cap, m, n, D, Pl, hcs, _, hl, hm, hmm, _, hx⟩
  · exact ⟨none, 0, 0, [], hcs, ReadE.nil _ _, Nat.le_refl _⟩
  · rw [c2] at hx
    have hlm : len ≤ m := by rw [hmm]; simp; exact hl
    obtain ⟨f, hf⟩ := choose_lt (α := Ed) (n := len) (p := fun i e => W.cell? (a.add (i * 2)) = some (.int .i64 e.1) ∧ W.cell? ((a.add (i * 2)).add 1) = some (.int .i64 e.2)) (fun i hi => by
      obtain ⟨cs', h1, h2⟩ := hx i (by omega)
      obtain ⟨u, v, rfl⟩ := trod_edge h2
      obtain ⟨_, _, hc⟩ := World.cells?_some h1
      have k0 := hc 0 (by omega)
      have k1 := hc 1 (by omega)
      refine ⟨(u, v), ?_, ?_⟩
      · rw [addr_add0] at k0
        exact k0
      · exact k1)
    refine ⟨some a, len, cap, (List.range len).map f, hcs, ⟨by simp, by unfold maxLen at hm; omega, fun hn => ?_⟩, hl⟩
    obtain ⟨b, off, spot⟩ := a
    obtain ⟨h0, -⟩ := hf 0 (by omega)
    have hspot : spot = none := by simpa [Addr.add] using World.cell?_spot h0
    subst hspot
    refine ⟨b, off, rfl, fun j hj => ?_⟩
    obtain ⟨g0, g1⟩ := hf j hj
    rw [addr_add] at g0
    rw [addr_add, addr_add] at g1
    have e : ge ((List.range len).map f) j = f j := by simp [ge, List.getD_eq_getElem?_getD, hj]
    rw [e]
    exact ⟨g0, g1⟩
end

set_option maxRecDepth 100000 in
/-- A list of edges that came in. -/
theorem open_edges {H : Type} {enc : TypeId × Value → H} {W : World} {base : Nat} {v : Value} {d : DataW H} {p : List MemPlace} (hv : Value.okWide Try.prog W .any base 24 v)
    (h : DataW.Trod enc Try.prog W 0 (fun _ => true) true 24 v d p) : ∃ A len cap es, v = .slice A len cap ∧ (ReadE W A len es ∧ len ≤ cap) := by
  obtain ⟨a, len, cap, rfl⟩ := okWide_slice Try.underlying24 hv
  obtain ⟨fuel, hf⟩ := h
  obtain ⟨A, l, c, es, hcs, hr⟩ := trod_edges hf
  simp [Value.cells] at hcs
  obtain ⟨rfl, rfl, rfl⟩ := hcs
  exact ⟨_, _, _, _, rfl, hr⟩

set_option maxRecDepth 100000 in
/-- A graph that came in. -/
theorem open_graph {H : Type} {enc : TypeId × Value → H} {W : World} {base : Nat} {v : Value} {d : DataW H} {p : List MemPlace} (hv : Value.okWide Try.prog W .any base 26 v)
    (h : DataW.Trod enc Try.prog W 0 (fun _ => true) true 26 v d p) : ∃ N A len cap es, v = .agg #[.int .i64 N, .slice A len cap] ∧ (ReadE W A len es ∧ len ≤ cap) := by
  obtain ⟨v0, v1, y0, y1, n, rfl, -, -, h0, h1⟩ := open_agg2 Try.underlying26 (by kernel_rfl) (by kernel_rfl) hv h
  obtain ⟨N, e0, -, -⟩ := DataW.trod_int Try.underlying3 h0
  obtain ⟨A, l, c, es, e1, hr⟩ := trod_edges h1
  simp at e0 e1
  subst e0 e1
  exact ⟨_, _, _, _, _, rfl, hr⟩

set_option maxRecDepth 100000 in
/-- A list of numbers that came in, and its room. -/
theorem open_nums2 {H : Type} {enc : TypeId × Value → H} {W : World} {base : Nat} {v : Value} {d : DataW H} {p : List MemPlace} (hv : Value.okWide Try.prog W .any base 22 v)
    (h : DataW.Trod enc Try.prog W 0 (fun _ => true) true 22 v d p) : ∃ a len cap zs, v = .slice a len cap ∧ (ReadI W a len zs ∧ len ≤ cap) := by
  obtain ⟨a, len, cap, rfl⟩ := okWide_slice Try.underlying22 hv
  obtain ⟨fuel, hf⟩ := h
  rcases open_ints Try.underlying22 Try.underlying3 (by kernel_rfl) hf with ⟨hcs, _⟩ | ⟨x, l, c, zs, hcs, _, hl, hm, hz, _, hcell, hwz⟩
  · simp [Value.cells] at hcs
    obtain ⟨rfl, rfl, rfl⟩ := hcs
    exact ⟨_, _, _, [], rfl, ReadI.nil _ _, Nat.le_refl _⟩
  · simp [Value.cells] at hcs
    obtain ⟨rfl, rfl, rfl⟩ := hcs
    exact ⟨_, _, _, _, rfl, read_ints hl hm (by simpa using hz) hcell, hl⟩

end Go.Proofs.Ytnldfjoadmehcaa
