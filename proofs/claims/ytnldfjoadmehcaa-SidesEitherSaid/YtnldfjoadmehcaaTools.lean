/- Words that the walks share: what came later than a world, boxes, lists that are owned. -/
import Derived.Test.YtnldfjoadmehcaaRowF
import Derived.Deep.RegionWith
import Derived.Deep.DeepCutAuto
set_option linter.unusedVariables false
set_option linter.unusedSimpArgs false
namespace Go.Proofs.Ytnldfjoadmehcaa
open Go.RowKit

theorem OwnE.shape {w : World} {base : Nat} {v : Value} {es : List Ed} (h : OwnE w base v es) : ∃ A n c, v = .slice A n c := by
  obtain ⟨A, c, e, -⟩ := OwnE.read h
  exact ⟨A, _, c, e⟩
theorem OwnI.shape {w : World} {base : Nat} {v : Value} {xs : List Int} (h : OwnI w base v xs) : ∃ A n c, v = .slice A n c := by
  obtain ⟨A, c, e, -⟩ := OwnI.read h
  exact ⟨A, _, c, e⟩
theorem grown_set (w : World) (h j : Nat) (v : Value) : w.grownBy (w.setCell ⟨h, j, none⟩ v) (some h) :=
  ⟨rfl, rfl, rfl, by simp [World.setCell], fun k _ hk => Below.heap_setCell w _ _ k (fun e => hk (by rw [e]))⟩
theorem own_set1 {W : World} {base e size m g j : Nat} {u x : Value} {xs : List Value} (h : W.ownsRow base e size x m xs) (hg : g < base) : (W.setCell ⟨g, j, none⟩ u).ownsRow base e size x m xs := by
  refine h.kept (row := some g) (grown_set _ _ _ _) (.inr fun e => ?_)
  have := row_base h g e
  omega
/-- Edges are collected in the field of a graph that lies in the first block behind w2. -/
def KR (w2 : World) (m : Int) (v : Value) (es : List Ed) (W : World) : Prop :=
  Below w2.heap.size w2 W ∧ w2.heap.size + 1 ≤ W.heap.size ∧ W.heap[w2.heap.size]? = some (.cells #[.int .i64 m, v] 26 (0, 0)) ∧ OwnE W (w2.heap.size + 1) v es
theorem KR.later {w2 W W' : World} {m : Int} {v : Value} {es : List Ed} (h : KR w2 m v es W) (g : Below W.heap.size W W') : KR w2 m v es W' :=
  ⟨below_after h.1 (Below.size h.1) g, Nat.le_trans h.2.1 (Below.size g), (g.block _ h.2.1).trans h.2.2.1, row_below h.2.2.2 g⟩
theorem KR.cells {w2 W : World} {m : Int} {v : Value} {es : List Ed} (h : KR w2 m v es W) : W.cell? ⟨w2.heap.size, 0, none⟩ = some (.int .i64 m) ∧ W.cell? ⟨w2.heap.size, 1, none⟩ = some v ∧ W.frozen? ⟨w2.heap.size, 0, none⟩ = false ∧ W.frozen? ⟨w2.heap.size, 1, none⟩ = false :=
  ⟨(cell_blk h.2.2.1 0).trans rfl, (cell_blk h.2.2.1 1).trans rfl, frozen_blk h.2.2.1 0, frozen_blk h.2.2.1 1⟩
/-- The one edge in the box is appended, and the field stored. -/
theorem KR.store {w2 W W1 : World} {m : Int} {v v1 : Value} {es es1 : List Ed} (h : KR w2 m v es W) (hg : W.grownBy W1 v.ownBlock) (ho : OwnE W1 (w2.heap.size + 1) v1 es1) :
    KR w2 m v1 es1 (W1.setCell ⟨w2.heap.size, 1, none⟩ v1) ∧ W1.cell? ⟨w2.heap.size, 1, none⟩ = some v ∧ W1.frozen? ⟨w2.heap.size, 1, none⟩ = false := by
  have hb : W1.heap[w2.heap.size]? = some (.cells #[.int .i64 m, v] 26 (0, 0)) := (hg.block _ h.2.1 fun e => by have := row_base h.2.2.2 _ e.symm; omega).trans h.2.2.1
  have h1 : Below w2.heap.size w2 W1 := Below.grown h.1 hg (by have := h.2.1; omega) fun k hk => by have := row_base h.2.2.2 k hk; omega
  refine ⟨⟨Below.setCell h1 (Nat.le_refl _) _, ?_, Go.Proofs.YtnldfjoadmehcaaW.PrintWords.blk_put hb 1 _ rfl, own_set1 ho (by omega)⟩, (cell_blk hb 1).trans rfl, frozen_blk hb 1⟩
  have := hg.size
  have := h.2.1
  simp [World.setCell]
  omega
/-- append(v, y) of a number, where the heap's size is spelled otherwise. -/
theorem app_intz {ops : Array Oper} {rest : List Oper} {o : Oper} {a : Act} {Q : Exit → Act → World → Prop} {W : World} (base z : Nat) (hz : z = W.heap.size) (hgd : o.guard = none) (s x : Operand)
    (ho : o.op = .call { callee := .builtin .append, args := #[s, x], argTypes := #[22, 22] })
    (v : Value) (xs : List Int) (y : Int) (hs : a.eval s = v) (hx : a.eval x = .slice (some ⟨z, 0, none⟩) 1 1)
    (HO : OwnI W base v xs) (hbase : base ≤ W.heap.size) (hl : xs.length ≤ 1000000000)
    (h : ∀ v1 w1, OwnI w1 base v1 (xs ++ [y]) → Below base W w1 → W.grownBy w1 v.ownBlock → wpList Try.prog ops Q rest (a.put o.dst v1) w1) :
    wpList Try.prog ops Q (o :: rest) a (W.alloc (.cells #[.int .i64 y] 3)) := by
  subst hz
  exact app_int base hgd s x ho v xs y hs hx HO (Below.refl _ _) hbase hl fun v1 w1 h1 h2 h3 _ => h v1 w1 h1 h2 h3
/-- append(v, e) of an edge. -/
theorem app_edge {ops : Array Oper} {rest : List Oper} {o : Oper} {a : Act} {Q : Exit → Act → World → Prop} {W : World} (base z : Nat) (hz : z = W.heap.size) (hgd : o.guard = none) (s x : Operand)
    (ho : o.op = .call { callee := .builtin .append, args := #[s, x], argTypes := #[24, 24] })
    (v : Value) (xs : List Ed) (y1 y2 : Int) (hs : a.eval s = v) (hx : a.eval x = .slice (some ⟨z, 0, none⟩) 1 1)
    (HO : OwnE W base v xs) (hbase : base ≤ W.heap.size) (hl : xs.length ≤ 1000000000)
    (h : ∀ v1 w1, OwnE w1 base v1 (xs ++ [(y1, y2)]) → Below base W w1 → W.grownBy w1 v.ownBlock → wpList Try.prog ops Q rest (a.put o.dst v1) w1) :
    wpList Try.prog ops Q (o :: rest) a (W.alloc (.cells #[.int .i64 y1, .int .i64 y2] 41)) := by
  subst hz
  refine app_cells base hgd s x 24 41 (.agg #[.int .i64 0, .int .i64 0]) 2 16 ho Try.underlying24 infoEdge rfl (by decide) (by decide) v xs.length (ecells xs) [.int .i64 y1, .int .i64 y2] hs hx rfl (by simp [Value.oneCell']) HO (Below.refl _ _) hbase (by omega) ?_
  intro v1 w1 h1 h2 h3 _
  refine h v1 w1 ?_ h2 h3
  unfold OwnE
  rw [ecells_append]
  simpa [ecells] using h1
/-- A block that is laid whole. -/
theorem ReadE.ofblk {W : World} {g : Nat} {t : TypeId} {cs : Array Value} (es : List Ed) (hg : W.heap[g]? = some (.cells cs t (0, 0))) (hcs : cs.toList = ecells es) (hl : es.length ≤ 1000000) : ReadE W (some ⟨g, 0, none⟩) es.length es := by
  refine ⟨rfl, by omega, fun _ => ⟨g, 0, rfl, fun j hj => ?_⟩⟩
  obtain ⟨h1, h2⟩ := ecells_at es j hj
  rw [← hcs] at h1 h2
  rw [Array.getElem?_toList] at h1 h2
  rw [show 0 + j * 2 = j * 2 from by omega]
  exact ⟨(cell_blk hg _).trans h1, (cell_blk hg _).trans h2⟩
theorem ReadI.ofblk {W : World} {g : Nat} {t : TypeId} {cs : Array Value} (xs : List Int) (hg : W.heap[g]? = some (.cells cs t (0, 0))) (hcs : cs.toList = nums xs) (hl : xs.length ≤ 1000000) : ReadI W (some ⟨g, 0, none⟩) xs.length xs := by
  refine ⟨rfl, by omega, fun _ => ⟨g, 0, rfl, fun j hj => ?_⟩⟩
  rw [show 0 + j = j from by omega, cell_blk hg, ← Array.getElem?_toList, hcs]
  simp [nums, gi, List.getD_eq_getElem?_getD, hj]
theorem ReadE.lit (W : World) (t : TypeId) (es : List Ed) (hl : es.length ≤ 1000000) : ReadE (W.alloc (.cells (ecells es).toArray t)) (some ⟨W.heap.size, 0, none⟩) es.length es := ReadE.ofblk es (heap_alloc_new _ _) rfl hl
theorem ReadI.lit (W : World) (t : TypeId) (xs : List Int) (hl : xs.length ≤ 1000000) : ReadI (W.alloc (.cells (nums xs).toArray t)) (some ⟨W.heap.size, 0, none⟩) xs.length xs := ReadI.ofblk xs (heap_alloc_new _ _) rfl hl
theorem gi_mem {xs : List Int} {a : Nat} (h : a < xs.length) : gi xs a ∈ xs := by
  simp [gi, List.getD_eq_getElem?_getD, h]
theorem boxg (W : World) (N : Int) (A : Option Addr) (n c : Nat) : (W.alloc (gcells N A n c)).cell? ⟨W.heap.size, 0, none⟩ = some (.int .i64 N) ∧ (W.alloc (gcells N A n c)).cell? ⟨W.heap.size, 1, none⟩ = some (.slice A n c) :=
  ⟨(cell_blk (heap_alloc_new _ _) 0).trans rfl, (cell_blk (heap_alloc_new _ _) 1).trans rfl⟩
theorem later2 {W W' : World} {a b : Addr} {x y : Value} (hb : Below W.heap.size W W') (h : W.cell? a = some x ∧ W.cell? b = some y) : W'.cell? a = some x ∧ W'.cell? b = some y := ⟨cell_later hb h.1, cell_later hb h.2⟩
theorem bel_alloc (W : World) (o : Obj) : Below W.heap.size W (W.alloc o) := (Below.refl _ _).alloc (Nat.le_refl _) _
theorem bel_trans {a b c : World} (h : Below a.heap.size a b) (k : Below b.heap.size b c) : Below a.heap.size a c := below_after h h.size k
theorem readE_own {w : World} {base : Nat} {A : Option Addr} {n c : Nat} {es : List Ed} (h : OwnE w base (.slice A n c) es) : ReadE w A es.length es := by
  obtain ⟨A', c', e, -, -, r⟩ := OwnE.read h
  injection e with e1 e2 e3
  subst e1
  exact r
theorem readI_own {w : World} {base : Nat} {A : Option Addr} {n c : Nat} {xs : List Int} (h : OwnI w base (.slice A n c) xs) : ReadI w A xs.length xs := by
  obtain ⟨A', c', e, -, -, r⟩ := OwnI.read h
  injection e with e1 e2 e3
  subst e1
  exact r
/-- Two cells that stay, and what came later. -/
theorem RW.two {w0 W : World} {a1 a2 : Addr} {v1 v2 : Value} (h : w0.cell? a1 = some v1 ∧ w0.cell? a2 = some v2) (r : RW w0 W) : W.cell? a1 = some v1 ∧ W.cell? a2 = some v2 ∧ RW w0 W := ⟨cell_later r h.1, cell_later r h.2, r⟩
theorem RW.setN {w0 W : World} {H : Nat} {u v : Value} (r : RW w0 W) (h : w0.heap.size ≤ H) : RW w0 ((W.setCell ⟨H, 0, none⟩ u).setCell ⟨H, 1, none⟩ v) := Below.setCell (Below.setCell r h _) h _
theorem blk_new_d {wr W' : World} {o : Obj} (g : Below (wr.alloc o).drew.heap.size (wr.alloc o).drew W') : W'.heap[wr.heap.size]? = some o := (g.block _ (by simp)).trans (heap_alloc_new wr o)
theorem blk_new {wr W' : World} {o : Obj} (g : Below (wr.alloc o).heap.size (wr.alloc o) W') : W'.heap[wr.heap.size]? = some o := (g.block _ (by simp)).trans (heap_alloc_new wr o)
theorem blk_lt {w : World} {H : Nat} {o : Obj} (h : w.heap[H]? = some o) : H < w.heap.size := (Array.getElem?_eq_some_iff.1 h).1
theorem blk_later {w w' : World} {H : Nat} {o : Obj} (h : w.heap[H]? = some o) (g : Below w.heap.size w w') : w'.heap[H]? = some o := (g.block _ (blk_lt h)).trans h
theorem blk_cells {w : World} {H : Nat} {t : TypeId} {x y : Value} (h : w.heap[H]? = some (.cells #[x, y] t (0, 0))) : w.cell? ⟨H, 0, none⟩ = some x ∧ w.cell? ⟨H, 1, none⟩ = some y ∧ w.frozen? ⟨H, 0, none⟩ = false ∧ w.frozen? ⟨H, 1, none⟩ = false :=
  ⟨(cell_blk h 0).trans rfl, (cell_blk h 1).trans rfl, frozen_blk h 0, frozen_blk h 1⟩
theorem RW.grown {w0 W W1 : World} {row : Option Nat} (r : RW w0 W) (g : W.grownBy W1 row) (hr : ∀ k, row = some k → w0.heap.size ≤ k) : RW w0 W1 := Below.grown r g (Below.size r) hr
theorem RW.three {w0 W : World} {a1 a2 a3 : Addr} {v1 v2 v3 : Value} (h : w0.cell? a1 = some v1 ∧ w0.cell? a2 = some v2 ∧ w0.cell? a3 = some v3) (r : RW w0 W) : W.cell? a1 = some v1 ∧ W.cell? a2 = some v2 ∧ W.cell? a3 = some v3 ∧ RW w0 W := ⟨cell_later r h.1, cell_later r h.2.1, cell_later r h.2.2, r⟩
theorem own_alloc_d {w : World} {base e size n : Nat} {v : Value} {xs : List Value} (h : w.ownsRow base e size v n xs) (o : Obj) : (w.alloc o).drew.ownsRow base e size v n xs := row_below (own_alloc h o) ((Drawn.refl _).drew.below _)
theorem bitB_small (bits : Int) {k : Nat} (h : k ≤ 64) : bitB bits k = (Go.bits BinOp.and IntKind.u64 (bits / 2 ^ k) 1 == 1) := by
  unfold bitB
  rw [IntKind.wrap_u64, show min ((k : Int) % 18446744073709551616).toNat 64 = k from by omega]

end Go.Proofs.Ytnldfjoadmehcaa
