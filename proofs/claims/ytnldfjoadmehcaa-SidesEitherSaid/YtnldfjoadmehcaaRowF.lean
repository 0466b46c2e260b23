/- Rows of one cell each, that a function made and writes. -/
import Derived.Test.YtnldfjoadmehcaaHelpE
import Derived.Deep.OwnRows
set_option linter.unusedVariables false
set_option linter.unusedSimpArgs false
namespace Go.Proofs.Ytnldfjoadmehcaa
open Go.RowKit

/-- In block g lie n cells; number j is f j. -/
def RowF (w : World) (g : Nat) (t : TypeId) (n : Nat) (f : Nat → Value) : Prop := ∃ cs : Array Value, w.heap[g]? = some (.cells cs t (0, 0)) ∧ cs.size = n ∧ ∀ j, j < n → cs[j]? = some (f j)
section
variable {w w' : World} {g n : Nat} {t : TypeId} {f : Nat → Value}
theorem RowF.cell (h : RowF w g t n f) {j : Nat} (hj : j < n) : w.cell? ⟨g, j, none⟩ = some (f j) := by
  obtain ⟨cs, h1, h2, h3⟩ := h
  rw [cell_blk h1]
  exact h3 j hj
theorem RowF.froz (h : RowF w g t n f) (j : Nat) : w.frozen? ⟨g, j, none⟩ = false := by
  obtain ⟨cs, h1, h2, h3⟩ := h
  exact frozen_blk h1 j
theorem RowF.lt (h : RowF w g t n f) : g < w.heap.size := by
  obtain ⟨cs, h1, h2, h3⟩ := h
  exact (Array.getElem?_eq_some_iff.1 h1).1
theorem RowF.later (h : RowF w g t n f) (b : Below w.heap.size w w') : RowF w' g t n f := by
  have hl := h.lt
  obtain ⟨cs, h1, h2, h3⟩ := h
  exact ⟨cs, (b.block g hl).trans h1, h2, h3⟩
theorem RowF.grown {row : Option Nat} (h : RowF w g t n f) (b : w.grownBy w' row) (hr : some g ≠ row) : RowF w' g t n f := by
  have hl := h.lt
  obtain ⟨cs, h1, h2, h3⟩ := h
  exact ⟨cs, (b.block g hl hr).trans h1, h2, h3⟩
theorem RowF.set (h : RowF w g t n f) (j : Nat) (v : Value) : RowF (w.setCell ⟨g, j, none⟩ v) g t n (fun i => if i = j then v else f i) := by
  obtain ⟨cs, h1, h2, h3⟩ := h
  refine ⟨cs.setIfInBounds j v, ?_, by simpa using h2, fun i hi => ?_⟩
  · simp [World.setCell, Array.getElem?_modify, h1]
  · rw [Array.getElem?_setIfInBounds]
    by_cases e : i = j
    · subst e
      simp [h2, hi]
    · rw [if_neg (fun k => e k.symm)]
      simp only [if_neg e]
      exact h3 i hi
theorem RowF.made (w : World) (n : Nat) (t : TypeId) (z : Value) : RowF (w.alloc (.cells (madeCells #[z] n) t)) w.heap.size t n (fun _ => z) := by
  refine ⟨_, heap_alloc_new w _, ?_, fun j hj => ?_⟩
  · rw [← Array.length_toList, toList_madeCells_one, List.length_replicate]
  · rw [← Array.getElem?_toList, toList_madeCells_one, List.getElem?_replicate, if_pos hj]
theorem RowF.congr {f' : Nat → Value} (h : RowF w g t n f) (e : ∀ j, j < n → f j = f' j) : RowF w g t n f' := by
  obtain ⟨cs, h1, h2, h3⟩ := h
  exact ⟨cs, h1, h2, fun j hj => (h3 j hj).trans (by rw [e j hj])⟩
end

end Go.Proofs.Ytnldfjoadmehcaa
