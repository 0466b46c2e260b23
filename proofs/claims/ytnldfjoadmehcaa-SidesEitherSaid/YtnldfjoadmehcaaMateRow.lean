/- A list of numbers of one's own that is written. -/
import Derived.Test.YtnldfjoadmehcaaLists
import Derived.Test.YtnldfjoadmehcaaGreedyPure
set_option linter.unusedVariables false
set_option linter.unusedSimpArgs false
namespace Go.Proofs.Ytnldfjoadmehcaa
open Go.RowKit

theorem own_slice {w : World} {base : Nat} {v : Value} {xs : List Int} (h : OwnI w base v xs) (hn : 0 < xs.length) : ∃ g c, v = .slice (some ⟨g, 0, none⟩) xs.length c ∧ base ≤ g ∧ g < w.heap.size ∧ xs.length ≤ c := by
  rcases h.2 with ⟨rfl, h0⟩ | ⟨g, cap, cur, rfl, hb, hg, hle, r⟩
  · omega
  · exact ⟨g, cap, rfl, hb, blk_lt hg, hle⟩
section
variable {w : World} {base g n c : Nat} {ms : List Int}
theorem OwnI.len {v : Value} (h : OwnI w base v ms) {A : Option Addr} (e : v = .slice A n c) : n = ms.length := by
  obtain ⟨A', c', e', -⟩ := OwnI.read h
  rw [e] at e'
  injection e' with e1 e2 e3
theorem OwnI.cellAt (h : OwnI w base (.slice (some ⟨g, 0, none⟩) n c) ms) {j : Nat} (hj : j < n) : w.cell? ⟨g, j, none⟩ = some (.int .i64 (gi ms j)) := by
  obtain rfl := h.len rfl
  unfold OwnI at h
  rw [World.ownsRow.cellAt h j (by omega)]
  simp [nums, gi, List.getD_eq_getElem?_getD, hj]
theorem OwnI.frozAt (h : OwnI w base (.slice (some ⟨g, 0, none⟩) n c) ms) (j : Nat) : w.frozen? ⟨g, j, none⟩ = false := by
  obtain rfl := h.len rfl
  unfold OwnI at h
  exact World.ownsRow.frozenAt h j
theorem OwnI.put1 (h : OwnI w base (.slice (some ⟨g, 0, none⟩) n c) ms) (j : Nat) (x : Int) : OwnI (w.setCell ⟨g, j, none⟩ (.int .i64 x)) base (.slice (some ⟨g, 0, none⟩) n c) (ms.set j x) := by
  obtain rfl := h.len rfl
  unfold OwnI at *
  have := (World.ownsRow.stored h j (.int .i64 x)).1
  rw [show nums (ms.set j x) = (nums ms).set j (.int .i64 x) from by simp [nums, List.map_set], List.length_set]
  exact this
theorem OwnI.lt (h : OwnI w base (.slice (some ⟨g, 0, none⟩) n c) ms) : base ≤ g ∧ g < w.heap.size := ⟨row_base h g rfl, row_lt h g rfl⟩
theorem OwnI.later {w1 : World} {v : Value} (h : OwnI w base v ms) (hb : Below w.heap.size w w1) : OwnI w1 base v ms := own_later h hb
end
/-- Two cells of one row are stored: the rest is as it was. -/
theorem grown_set2 (w : World) (g i j : Nat) (x y : Value) : w.grownBy ((w.setCell ⟨g, i, none⟩ x).setCell ⟨g, j, none⟩ y) (some g) := (grown_set w g i x).trans (grown_set _ g j y)
theorem Rows.grown {W W1 : World} {G base N g : Nat} {vs : Nat → Value} {L : Nat → List Int} (r : Rows W G base N vs L) (h : W.grownBy W1 (some g)) (hg : g < G) (hG : G ≤ base) : Rows W1 G base N vs L :=
  ⟨r.row.grown h (by intro e; injection e with e; omega), fun i hi => own_grown (r.own i hi) h fun k hk e => by injection e with e; have := row_base (r.own i hi) k hk; omega, r.apart, r.off⟩
/-- Row i of a row of rows: its slice, and what lies there. -/
theorem Rows.at {W : World} {G base N : Nat} {vs : Nat → Value} {L : Nat → List Int} (r : Rows W G base N vs L) {i : Nat} (hi : i < N) : ∃ A c, W.cell? ⟨G, i, none⟩ = some (.slice A (L i).length c) ∧ ReadI W A (L i).length (L i) := by
  obtain ⟨A, c, e, -, -, hr⟩ := OwnI.read (r.own i hi)
  exact ⟨A, c, by rw [r.row.cell hi, e], hr⟩

end Go.Proofs.Ytnldfjoadmehcaa
