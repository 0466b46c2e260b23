/- Openers for the rows: numbers, with their bounds. -/
import Derived.Test.YtnldfjoadmehcaaRowKit2
set_option linter.unusedVariables false
set_option linter.unusedSimpArgs false
namespace Go.Proofs.Ytnldfjoadmehcaa
open Go.ChangeShapes Go.WideShapes Go.ChangeAt Go.RowKit

set_option maxRecDepth 100000 in
theorem open_nums3 {H : Type} {enc : TypeId × Value → H} {W : World} {base : Nat} {v : Value} {d : DataW H} {p : List MemPlace} (hv : Value.okWide Try.prog W .any base 22 v)
    (h : DataW.Trod enc Try.prog W 0 (fun _ => true) true 22 v d p) : ∃ a len cap zs, v = .slice a len cap ∧ (ReadI W a len zs ∧ len ≤ cap ∧ ∀ j, j < len → -9223372036854775808 ≤ gi zs j ∧ gi zs j ≤ 9223372036854775807) := by
  obtain ⟨a, len, cap, rfl⟩ := okWide_slice Try.underlying22 hv
  obtain ⟨fuel, hf⟩ := h
  rcases open_ints Try.underlying22 Try.underlying3 (by kernel_rfl) hf with ⟨hcs, _⟩ | ⟨x, l, c, zs, hcs, _, hl, hm, hz, _, hcell, hwz⟩
  · simp [Value.cells] at hcs
    obtain ⟨rfl, rfl, rfl⟩ := hcs
    exact ⟨_, _, _, [], rfl, ReadI.nil _ _, Nat.le_refl _, fun j hj => absurd hj (by omega)⟩
  · simp [Value.cells] at hcs
    obtain ⟨rfl, rfl, rfl⟩ := hcs
    have hr := read_ints hl hm (by simpa using hz) hcell
    refine ⟨_, _, _, _, rfl, hr, hl, fun j hj => ?_⟩
    have hj2 := hj
    rw [← hr.1] at hj2
    have hg : gi (zs.take len) j = (zs.take len)[j] := by
      unfold gi
      rw [List.getD_eq_getElem?_getD, List.getElem?_eq_getElem hj2]
      rfl
    rw [hg]
    exact bounds_i64 (hwz _ (List.mem_of_mem_take (List.getElem_mem hj2)))

end Go.Proofs.Ytnldfjoadmehcaa
