/- Words for the walk of BitsPlay: rows, boxes, what came later than a world. -/
import Derived.Test.YtnldfjoadmehcaaDoorCommon
import Derived.Deep.OwnRows
import Derived.Deep.RegionHeld3
import Derived.Deep.RegionWith
import Derived.Deep.DeepCutAuto
import Derived.Deep.RegionLaw
set_option linter.unusedVariables false
set_option linter.unusedSimpArgs false
namespace Go.Proofs.YtnldfjoadmehcaaDoor
open Go.RowKit

/-- In block g lie n cells; number j is f j. -/
def RowF (w : World) (g : Nat) (t : TypeId) (n : Nat) (f : Nat → Value) : Prop := ∃ cs : Array Value, w.heap[g]? = some (.cells cs t (0, 0)) ∧ cs.size = n ∧ ∀ j, j < n → cs[j]? = some (f j)
section
variable {w w' : World} {g n : Nat} {t : TypeId} {f : Nat → Value}
theorem RowF.cell (h : RowF w g t n f) {j : Nat} (hj : j < n) : w.cell? ⟨g, j, none⟩ = some (f j) := by
  obtain ⟨cs, h1, h2, h3⟩ := h
  rw [cell_blk h1]
  exact h3 j hj
theorem RowF.froz (h : RowF w g t n f) (j : Nat) : w.frozen? ⟨g, j, none⟩ = false := by
  obtain ⟨cs, h1, h2, h3⟩ := h
  exact frozen_blk h1 j
theorem RowF.lt (h : RowF w g t n f) : g < w.heap.size := by
  obtain ⟨cs, h1, h2, h3⟩ := h
  exact (Array.getElem?_eq_some_iff.1 h1).1
theorem RowF.later (h : RowF w g t n f) (b : Below w.heap.size w w') : RowF w' g t n f := by
  have hl := h.lt
  obtain ⟨cs, h1, h2, h3⟩ := h
  exact ⟨cs, (b.block g hl).trans h1, h2, h3⟩
theorem RowF.grown {row : Option Nat} (h : RowF w g t n f) (b : w.grownBy w' row) (hr : some g ≠ row) : RowF w' g t n f := by
  have hl := h.lt
  obtain ⟨cs, h1, h2, h3⟩ := h
  exact ⟨cs, (b.block g hl hr).trans h1, h2, h3⟩
theorem RowF.set (h : RowF w g t n f) (j : Nat) (v : Value) : RowF (w.setCell ⟨g, j, none⟩ v) g t n (fun i => if i = j then v else f i) := by
  obtain ⟨cs, h1, h2, h3⟩ := h
  refine ⟨cs.setIfInBounds j v, ?_, by simpa using h2, fun i hi => ?_⟩
  · simp [World.setCell, Array.getElem?_modify, h1]
  · rw [Array.getElem?_setIfInBounds]
    by_cases e : i = j
    · subst e
      simp [h2, hi]
    · rw [if_neg (fun k => e k.symm)]
      simp only [if_neg e]
      exact h3 i hi
theorem RowF.made (w : World) (n : Nat) (t : TypeId) (z : Value) : RowF (w.alloc (.cells (madeCells #[z] n) t)) w.heap.size t n (fun _ => z) := by
  refine ⟨_, heap_alloc_new w _, ?_, fun j hj => ?_⟩
  · rw [← Array.length_toList, toList_madeCells_one, List.length_replicate]
  · rw [← Array.getElem?_toList, toList_madeCells_one, List.getElem?_replicate, if_pos hj]
theorem RowF.congr {f' : Nat → Value} (h : RowF w g t n f) (e : ∀ j, j < n → f j = f' j) : RowF w g t n f' := by
  obtain ⟨cs, h1, h2, h3⟩ := h
  exact ⟨cs, h1, h2, fun j hj => (h3 j hj).trans (by rw [e j hj])⟩
end
def RW (wr W : World) : Prop := Below wr.heap.size wr W
theorem addr_add (b o j : Nat) : (⟨b, o, none⟩ : Addr).add j = ⟨b, o + j, none⟩ := by unfold Addr.add; split <;> simp_all
theorem RW.refl (wr : World) : RW wr wr := Below.refl _ _
theorem RW.later {wr W W' : World} (r : RW wr W) (g : Below W.heap.size W W') : RW wr W' := below_after r (Below.size r) g
theorem RW.drew {wr W : World} (r : RW wr W) : RW wr W.drew := r.later ((Drawn.refl _).drew.below _)
theorem RW.alloc {wr W : World} (r : RW wr W) (o : Obj) : RW wr (W.alloc o) := r.later ((Below.refl _ _).alloc (Nat.le_refl _) _)
theorem OwnI.shape {w : World} {base : Nat} {v : Value} {xs : List Int} (h : OwnI w base v xs) : ∃ A n c, v = .slice A n c := by
  obtain ⟨A, c, e, -⟩ := OwnI.read h
  exact ⟨A, _, c, e⟩
theorem grown_set (w : World) (h j : Nat) (v : Value) : w.grownBy (w.setCell ⟨h, j, none⟩ v) (some h) :=
  ⟨rfl, rfl, rfl, by simp [World.setCell], fun k _ hk => Below.heap_setCell w _ _ k (fun e => hk (by rw [e]))⟩
theorem own_set1 {W : World} {base e size m g j : Nat} {u x : Value} {xs : List Value} (h : W.ownsRow base e size x m xs) (hg : g < base) : (W.setCell ⟨g, j, none⟩ u).ownsRow base e size x m xs := by
  refine h.kept (row := some g) (grown_set _ _ _ _) (.inr fun e => ?_)
  have := row_base h g e
  omega
/-- append(v, y) of a number, where the heap's size is spelled otherwise. -/
theorem app_intz {ops : Array Oper} {rest : List Oper} {o : Oper} {a : Act} {Q : Exit → Act → World → Prop} {W : World} (base z : Nat) (hz : z = W.heap.size) (hgd : o.guard = none) (s x : Operand)
    (ho : o.op = .call { callee := .builtin .append, args := #[s, x], argTypes := #[28, 28] })
    (v : Value) (xs : List Int) (y : Int) (hs : a.eval s = v) (hx : a.eval x = .slice (some ⟨z, 0, none⟩) 1 1)
    (HO : OwnI W base v xs) (hbase : base ≤ W.heap.size) (hl : xs.length ≤ 1000000000)
    (h : ∀ v1 w1, OwnI w1 base v1 (xs ++ [y]) → Below base W w1 → W.grownBy w1 v.ownBlock → wpList Tryd.prog ops Q rest (a.put o.dst v1) w1) :
    wpList Tryd.prog ops Q (o :: rest) a (W.alloc (.cells #[.int .i64 y] 3)) := by
  subst hz
  exact app_int base hgd s x ho v xs y hs hx HO (Below.refl _ _) hbase hl fun v1 w1 h1 h2 h3 _ => h v1 w1 h1 h2 h3
theorem later2 {W W' : World} {a b : Addr} {x y : Value} (hb : Below W.heap.size W W') (h : W.cell? a = some x ∧ W.cell? b = some y) : W'.cell? a = some x ∧ W'.cell? b = some y := ⟨cell_later hb h.1, cell_later hb h.2⟩
theorem bel_alloc (W : World) (o : Obj) : Below W.heap.size W (W.alloc o) := (Below.refl _ _).alloc (Nat.le_refl _) _
theorem bel_trans {a b c : World} (h : Below a.heap.size a b) (k : Below b.heap.size b c) : Below a.heap.size a c := below_after h h.size k
theorem readI_own {w : World} {base : Nat} {A : Option Addr} {n c : Nat} {xs : List Int} (h : OwnI w base (.slice A n c) xs) : ReadI w A xs.length xs := by
  obtain ⟨A', c', e, -, -, r⟩ := OwnI.read h
  injection e with e1 e2 e3
  subst e1
  exact r
/-- Two cells that stay, and what came later. -/
theorem RW.two {w0 W : World} {a1 a2 : Addr} {v1 v2 : Value} (h : w0.cell? a1 = some v1 ∧ w0.cell? a2 = some v2) (r : RW w0 W) : W.cell? a1 = some v1 ∧ W.cell? a2 = some v2 ∧ RW w0 W := ⟨cell_later r h.1, cell_later r h.2, r⟩
theorem RW.grown {w0 W W1 : World} {row : Option Nat} (r : RW w0 W) (g : W.grownBy W1 row) (hr : ∀ k, row = some k → w0.heap.size ≤ k) : RW w0 W1 := Below.grown r g (Below.size r) hr
theorem RW.three {w0 W : World} {a1 a2 a3 : Addr} {v1 v2 v3 : Value} (h : w0.cell? a1 = some v1 ∧ w0.cell? a2 = some v2 ∧ w0.cell? a3 = some v3) (r : RW w0 W) : W.cell? a1 = some v1 ∧ W.cell? a2 = some v2 ∧ W.cell? a3 = some v3 ∧ RW w0 W := ⟨cell_later r h.1, cell_later r h.2.1, cell_later r h.2.2, r⟩
theorem blk_lt {w : World} {H : Nat} {o : Obj} (h : w.heap[H]? = some o) : H < w.heap.size := (Array.getElem?_eq_some_iff.1 h).1
theorem blk_later {w w' : World} {H : Nat} {o : Obj} (h : w.heap[H]? = some o) (g : Below w.heap.size w w') : w'.heap[H]? = some o := (g.block _ (blk_lt h)).trans h
theorem own_alloc {w : World} {base e size n : Nat} {v : Value} {xs : List Value} (h : w.ownsRow base e size v n xs) (o : Obj) : (w.alloc o).ownsRow base e size v n xs := row_below h ((Below.refl _ _).alloc (Nat.le_refl _) _)
theorem gi_mem {xs : List Int} {a : Nat} (h : a < xs.length) : gi xs a ∈ xs := by
  simp [gi, List.getD_eq_getElem?_getD, h]

end Go.Proofs.YtnldfjoadmehcaaDoor
