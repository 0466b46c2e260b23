/- How a list of things that are done is opened for the walk of BitsPlay. -/
import Derived.Test.YtnldfjoadmehcaaDoorRowKit
import Derived.Test.YtnldfjoadmehcaaDoorPlay1
import Derived.Deep.Slices
import Derived.Deep.Fields
set_option linter.unusedVariables false
set_option linter.unusedSimpArgs false
namespace Go.Proofs.YtnldfjoadmehcaaDoor
open Go.ChangeShapes Go.WideShapes Go.ChangeAt Go.RowKit Go.Deep

theorem addr_add0 (a : Addr) : a.add 0 = a := by simp [Addr.add]

section
variable {H : Type} {enc : TypeId × Value → H} {W : World}

set_option maxRecDepth 100000 in
theorem trod_nums {fuel : Nat} {cs : List Value} {x : DataW H × List MemPlace} (h : DataW.trod enc Tryd.prog W 0 (fun _ => true) true fuel 28 cs = some x) :
    ∃ A len cap xs, cs = [.slice A len cap] ∧ ReadI W A len xs ∧ len ≤ cap := by
  rcases open_ints Tryd.underlying28 Tryd.underlying3 (by kernel_rfl) h with ⟨hcs, _⟩ | ⟨x, l, c, zs, hcs, _, hl, hm, hz, _, hcell, hwz⟩
  · exact ⟨_, _, _, [], hcs, ReadI.nil _ _, Nat.le_refl _⟩
  · exact ⟨_, _, _, _, hcs, read_ints hl hm (by simpa using hz) hcell, hl⟩

set_option maxRecDepth 100000 in
theorem trod_op {fuel : Nat} {cs : List Value} {x : DataW H × List MemPlace} (h : DataW.trod enc Tryd.prog W 0 (fun _ => true) true fuel 38 cs = some x) :
    ∃ o : Opd, cs = [.int .i64 o.kind, .int .i64 o.k, .slice o.A o.n o.c] ∧ ReadI W o.A o.n o.xs ∧ o.n ≤ o.c := by
  obtain ⟨ys, n, _, _, hl, hlen, hf⟩ := DataW.trod_struct Tryd.underlying38 h
  have c3 : Tryd.prog.cellsOf 38 = 3 := by kernel_rfl
  have c1 : Tryd.prog.cellsOf 3 = 1 := by kernel_rfl
  have c2 : Tryd.prog.cellsOf 28 = 1 := by kernel_rfl
  rw [c3] at hl
  match cs, hl, ys, hlen with
  | [u, v, s], _, [y0, y1, y2], _ =>
    have h0 : DataW.trod enc Tryd.prog W 0 (fun _ => true) true n 3 (([u, v, s].drop 0).take (Tryd.prog.cellsOf 3)) = some y0 := hf 0 _ rfl
    have h1 : DataW.trod enc Tryd.prog W 0 (fun _ => true) true n 3 (([u, v, s].drop 1).take (Tryd.prog.cellsOf 3)) = some y1 := hf 1 _ rfl
    have h2 : DataW.trod enc Tryd.prog W 0 (fun _ => true) true n 28 (([u, v, s].drop 2).take (Tryd.prog.cellsOf 28)) = some y2 := hf 2 _ rfl
    rw [c1] at h0 h1
    rw [c2] at h2
    obtain ⟨a, ea, -, -⟩ := DataW.trod_int Tryd.underlying3 h0
    obtain ⟨b, eb, -, -⟩ := DataW.trod_int Tryd.underlying3 h1
    obtain ⟨A, l, c, xs, es, hr, hlc⟩ := trod_nums h2
    simp at ea eb es
    exact ⟨⟨a, b, A, l, c, xs⟩, by rw [ea, eb, es], hr, hlc⟩

set_option maxRecDepth 100000 in
theorem trod_ops {fuel : Nat} {cs : List Value} {x : DataW H × List MemPlace} (h : DataW.trod enc Tryd.prog W 0 (fun _ => true) true fuel 35 cs = some x) :
    ∃ A len cap ops, cs = [.slice A len cap] ∧ ReadO W A len ops := by
  have c3 : Tryd.prog.cellsOf 38 = 3 := by kernel_rfl
  rcases open_slice Tryd.underlying35 h with ⟨hcs, -⟩ | ⟨a, len, cap, m, n, D, Pl, hcs, _, hl, hm, hmm, _, hx⟩
  · exact ⟨none, 0, 0, [], hcs, rfl, by omega, fun h => absurd h (by omega)⟩
  · rw [c3] at hx
    have hlm : len ≤ m := by rw [hmm]; simp; exact hl
    obtain ⟨f, hf⟩ := choose_lt (α := Opd) (n := len) (p := fun i e => W.cell? (a.add (i * 3)) = some (.int .i64 e.kind) ∧ W.cell? ((a.add (i * 3)).add 1) = some (.int .i64 e.k) ∧ W.cell? ((a.add (i * 3)).add 2) = some (.slice e.A e.n e.c) ∧ ReadI W e.A e.n e.xs ∧ e.n ≤ e.c) (fun i hi => by
      obtain ⟨cs', h1, h2⟩ := hx i (by omega)
      obtain ⟨o, rfl, hr, hlc⟩ := trod_op h2
      obtain ⟨_, _, hc⟩ := World.cells?_some h1
      have k0 := hc 0 (by omega)
      have k1 := hc 1 (by omega)
      have k2 := hc 2 (by omega)
      rw [addr_add0] at k0
      exact ⟨o, k0, k1, k2, hr, hlc⟩)
    refine ⟨some a, len, cap, (List.range len).map f, hcs, by simp, by unfold maxLen at hm; omega, fun hn => ?_⟩
    obtain ⟨b, off, spot⟩ := a
    obtain ⟨h0, -⟩ := hf 0 (by omega)
    have hspot : spot = none := by simpa [Addr.add] using World.cell?_spot h0
    subst hspot
    refine ⟨b, off, rfl, fun j hj => ?_⟩
    obtain ⟨g0, g1, g2, g3, g4⟩ := hf j hj
    rw [addr_add] at g0
    rw [addr_add, addr_add] at g1 g2
    have e : go ((List.range len).map f) j = f j := by simp [go, List.getD_eq_getElem?_getD, hj]
    rw [e]
    exact ⟨g0, g1, g2, g3, g4⟩
end

set_option maxRecDepth 100000 in
theorem open_ops {H : Type} {enc : TypeId × Value → H} {W : World} {base : Nat} {v : Value} {d : DataW H} {p : List MemPlace} (hv : Value.okWide Tryd.prog W .any base 35 v)
    (h : DataW.Trod enc Tryd.prog W 0 (fun _ => true) true 35 v d p) : ∃ A len cap ops, v = .slice A len cap ∧ ReadO W A len ops := by
  obtain ⟨a, len, cap, rfl⟩ := okWide_slice Tryd.underlying35 hv
  obtain ⟨fuel, hf⟩ := h
  obtain ⟨A, l, c, es, hcs, hr⟩ := trod_ops hf
  simp [Value.cells] at hcs
  obtain ⟨rfl, rfl, rfl⟩ := hcs
  exact ⟨_, _, _, _, rfl, hr⟩

end Go.Proofs.YtnldfjoadmehcaaDoor
