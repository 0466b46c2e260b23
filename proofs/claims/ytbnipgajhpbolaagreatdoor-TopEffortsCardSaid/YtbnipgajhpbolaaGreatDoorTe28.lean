/- append of pairs; queue's heap of entries: Push, Pop; the queue -/
import Derived.Test.YtbnipgajhpbolaaGreatDoorTe27
import Derived.Test.YtbnipgajhpbolaaGreatDoorTe03
import Derived.Deep.RegionLaw
set_option linter.unusedVariables false
set_option linter.unusedSimpArgs false
namespace Go.Proofs.YtbnipgajhpbolaaGreatDoor

section
open Go.RowKit
section
variable {T E : TypeId}
/-- append(v, es...) of pairs, run. -/
theorem run_appP (hu : Tryz.prog.underlying T = some (.slice E)) (hinfo : (Tryz.prog.info? E).map (fun i => (i.zero, i.size, i.bytes)) = some (some (.agg #[.int .i64 0, .int .i64 0]), 2, 16)) (w : World) (ty : TypeId) (base : Nat) (v : Value) (xs ys : List Ed) (HO : OwnP E w base v xs) (hbase : base ≤ w.heap.size) (A : Option Addr) (m c : Nat) (hr : ReadE w A m ys) (hm0 : 0 < m) (hl : xs.length + m ≤ 1000000000) :
    ∃ v1 w1, (Builtin.append_ #[T, T] ty #[v, .slice A m c]).run Tryz.prog w = .ok v1 w1 ∧ OwnP E w1 base v1 (xs ++ ys) ∧ w.grownBy w1 v.ownBlock ∧ (v1.ownBlock = v.ownBlock ∨ v1.ownBlock = some w.heap.size) := by
  obtain ⟨i0, hi, hz0, hz1, hz2⟩ := info_parts hinfo
  cases A with
  | none =>
    obtain ⟨b, o, h, -⟩ := hr.2.2 hm0
    cases h
  | some ad =>
    obtain ⟨v', w', hrun, h2, h3, _, h5⟩ := run_append_own_at (P := Tryz.prog) w base T ty E i0 (.agg #[.int .i64 0, .int .i64 0]) 2 16 hu hi hz0 hz1 hz2 rfl (by decide) v xs.length (ecells xs) HO ad m c (ecells ys) (by rw [ecells_length, hr.1]) hr.news (ecells_one ys) (by simp only [maxLen]; omega) (by omega) hbase
    refine ⟨v', w', hrun, ?_, h3, h5⟩
    unfold OwnP
    rw [ecells_append, List.length_append, hr.1]
    exact h2
theorem step_appP (hu : Tryz.prog.underlying T = some (.slice E)) (hinfo : (Tryz.prog.info? E).map (fun i => (i.zero, i.size, i.bytes)) = some (some (.agg #[.int .i64 0, .int .i64 0]), 2, 16)) {ops : Array Oper} {o : Oper} {a : Act} {w : World} {K : Act → World → Prop} {Q : Exit → Act → World → Prop} {E' : Prop} (base : Nat) (hw : Region.wanted o (yielded ops a.tmps) = true) (s x : Operand)
    (ho : o.op = .call { callee := .builtin .append, args := #[s, x], argTypes := #[T, T] }) (v : Value) (xs ys : List Ed) (hs : a.eval s = v) (HO : OwnP E w base v xs) (hbase : base ≤ w.heap.size)
    (A : Option Addr) (m c : Nat) (hx : a.eval x = .slice A m c) (hr : ReadE w A m ys) (hm0 : 0 < m) (hl : xs.length + m ≤ 1000000000)
    (h : ∀ v1 w1, OwnP E w1 base v1 (xs ++ ys) → w.grownBy w1 v.ownBlock → (v1.ownBlock = v.ownBlock ∨ v1.ownBlock = some w.heap.size) → K (a.put o.dst v1) w1) :
    if Region.wanted o (yielded ops a.tmps) = true then Oper.wp Tryz.prog o a w K Q else E' := by
  rw [if_pos hw]
  obtain ⟨v', w', hrun, h2, h3, h5⟩ := run_appP hu hinfo w o.type base v xs ys HO hbase A m c hr hm0 hl
  unfold Oper.wp execOp
  simp only [ho, resolve, invoke, builtin, Sem.run_bind, Sem.run_pure, Result.andThen_ok, List.map_toArray, List.map_cons, List.map_nil, hs, hx, hrun]
  exact h v' w' h2 h3 h5
theorem list_appP (hu : Tryz.prog.underlying T = some (.slice E)) (hinfo : (Tryz.prog.info? E).map (fun i => (i.zero, i.size, i.bytes)) = some (some (.agg #[.int .i64 0, .int .i64 0]), 2, 16)) {ops : Array Oper} {rest : List Oper} {o : Oper} {a : Act} {w : World} {Q : Exit → Act → World → Prop} (base : Nat) (hgd : o.guard = none) (s x : Operand)
    (ho : o.op = .call { callee := .builtin .append, args := #[s, x], argTypes := #[T, T] }) (v : Value) (xs ys : List Ed) (hs : a.eval s = v) (HO : OwnP E w base v xs) (hbase : base ≤ w.heap.size)
    (A : Option Addr) (m c : Nat) (hx : a.eval x = .slice A m c) (hr : ReadE w A m ys) (hm0 : 0 < m) (hl : xs.length + m ≤ 1000000000)
    (h : ∀ v1 w1, OwnP E w1 base v1 (xs ++ ys) → w.grownBy w1 v.ownBlock → (v1.ownBlock = v.ownBlock ∨ v1.ownBlock = some w.heap.size) → wpList Tryz.prog ops Q rest (a.put o.dst v1) w1) :
    wpList Tryz.prog ops Q (o :: rest) a w := by
  refine wpList_plain hgd fun K hK => ?_
  obtain ⟨v', w', hrun, h2, h3, h5⟩ := run_appP hu hinfo w o.type base v xs ys HO hbase A m c hr hm0 hl
  unfold Oper.wp execOp
  simp only [ho, resolve, invoke, builtin, Sem.run_bind, Sem.run_pure, Result.andThen_ok, List.map_toArray, List.map_cons, List.map_nil, hs, hx, hrun]
  exact hK _ _ (h v' w' h2 h3 h5)
end
theorem infoEntry : (Tryz.prog.info? 132).map (fun i => (i.zero, i.size, i.bytes)) = some (some (.agg #[.int .i64 0, .int .i64 0]), 2, 16) := by kernel_rfl
theorem infoTwo : (Tryz.prog.info? 135).map (fun i => (i.zero, i.size, i.bytes)) = some (some (.agg #[.int .i64 0, .int .i64 0]), 2, 16) := by kernel_rfl
theorem undEntries : Tryz.prog.underlying 128 = some (.slice 132) := by kernel_rfl
theorem undTwos : Tryz.prog.underlying 102 = some (.slice 135) := by kernel_rfl
/-- One pair in a new block. -/
theorem readE_new (W : World) (x y : Int) (t : TypeId) : ReadE (W.alloc (.cells #[.int .i64 x, .int .i64 y] t)) (some ⟨W.heap.size, 0, none⟩) 1 [(x, y)] := by
  have h := heap_alloc_new W (.cells #[.int .i64 x, .int .i64 y] t)
  refine ⟨rfl, by omega, fun _ => ⟨W.heap.size, 0, rfl, fun j hj => ?_⟩⟩
  obtain rfl : j = 0 := by omega
  exact ⟨(cell_blk h 0).trans rfl, (cell_blk h 1).trans rfl⟩

/-- What a queue's calls leave of all else. -/
def QK (q : Nat) (v : Value) (k : Nat) : Prop := k = q ∨ v.ownBlock = some k
/-- What may be written, before and behind. -/
structure Mov (K : Nat → Prop) (W : World) (K' : Nat → Prop) (W' : World) : Prop where
  os : W'.os = W.os
  tape : W'.tape = W.tape
  output : W'.output = W.output
  size : W.heap.size ≤ W'.heap.size
  block : ∀ k, k < W.heap.size → ¬ K k → W'.heap[k]? = W.heap[k]?
  new : ∀ k, K' k → K k ∨ W.heap.size ≤ k
theorem Mov.refl (K : Nat → Prop) (W : World) : Mov K W K W := ⟨rfl, rfl, rfl, Nat.le_refl _, fun _ _ _ => rfl, fun _ h => .inl h⟩
theorem Mov.trans {K K' K'' : Nat → Prop} {W W' W'' : World} (h : Mov K W K' W') (k : Mov K' W' K'' W'') : Mov K W K'' W'' :=
  ⟨k.os.trans h.os, k.tape.trans h.tape, k.output.trans h.output, Nat.le_trans h.size k.size, fun i hi hn => (k.block i (Nat.lt_of_lt_of_le hi h.size) fun q => (h.new i q).elim hn (fun q => by omega)).trans (h.block i hi hn), fun i hi => (k.new i hi).elim (fun q => h.new i q) fun q => .inr (Nat.le_trans h.size q)⟩
theorem Mov.of {K : Nat → Prop} {W W' : World} (b : Below W.heap.size W W') : Mov K W K W' := ⟨b.os, b.tape, b.output, b.size, fun k hk _ => b.block k hk, fun _ h => .inl h⟩
theorem Mov.set {K : Nat → Prop} {W : World} {G i : Nat} {x : Value} (h : K G) : Mov K W K (W.setCell ⟨G, i, none⟩ x) :=
  ⟨rfl, rfl, rfl, by simp [World.setCell], fun k hk hn => Below.heap_setCell _ _ _ _ fun e => hn (by
    have e2 : k = G := e
    rw [e2]; exact h), fun _ h => .inl h⟩
theorem Mov.grown {K : Nat → Prop} {row : Option Nat} {W W' : World} (g : W.grownBy W' row) (h : ∀ k, row = some k → K k) : Mov K W K W' := ⟨g.os, g.tape, g.output, g.size, fun k hk hn => g.block k hk fun e => hn (h k e.symm), fun _ h => .inl h⟩
theorem Mov.mono {K K' K'' : Nat → Prop} {W W' : World} (h : Mov K W K' W') (k : ∀ i, K'' i → K i ∨ W.heap.size ≤ i) : Mov K W K'' W' := ⟨h.os, h.tape, h.output, h.size, h.block, k⟩

/-- A queue in memory. -/
structure QW (base q : Nat) (v : Value) (xs : List Ed) (W : World) : Prop where
  low : base ≤ q
  hdr : W.heap[q]? = some (.cells #[v] 130 (0, 0))
  own : OwnP 132 W base v xs
  ne : v.ownBlock ≠ some q
theorem QW.cell {base q : Nat} {v : Value} {xs : List Ed} {W : World} (h : QW base q v xs W) : W.cell? ⟨q, 0, none⟩ = some v := (cell_blk h.hdr 0).trans rfl

set_option maxHeartbeats 4000000 in
set_option maxRecDepth 100000 in
theorem hpush_any {base q : Nat} {v : Value} {xs : List Ed} (x y : Int) (w : World) (h : QW base q v xs w) (hb : base ≤ w.heap.size) (hl : xs.length ≤ 2000000) :
    Calls Tryz.prog 329 #[.pointer (some ⟨q, 0, none⟩), .iface 132 (.agg #[.int .i64 x, .int .i64 y])] w fun e w' => (∃ v', QW base q v' (xs ++ [(x, y)]) w' ∧ Mov (QK q v) w (QK q v') w') ∧ e = .returned (.tuple #[]) := by
  have hta : ∀ W, (Instr.typeAssert (.iface 132 (.agg #[.int .i64 x, .int .i64 y])) 20 132 true).run Tryz.prog W = .ok (.tuple #[.agg #[.int .i64 x, .int .i64 y], .bool true]) W := fun W => by kernel_rfl
  have HH := Lib.hid (And.intro hb hl)
  have HQ := Lib.hid h
  clear h hb hl
  go_enter Tryz.func329, Tryz.ntmps329
  go_wp2_with fail
  clear hta
  have hq1 := HQ.out.cell
  have hb1 := bel_alloc w (.cells #[.int .i64 x, .int .i64 y] 132)
  have HS1 : Hid ((w.alloc (.cells #[.int .i64 x, .int .i64 y] 132)).heap.size = w.heap.size + 1) := by simp [Hid]
  have HB1 := Lib.hid hb1
  have hqc := cell_later (bel_trans hb1 (RW.refl _).drew) hq1
  have hn := heap_alloc_new w (.cells #[.int .i64 x, .int .i64 y] 132)
  have hn0 : (w.alloc (.cells #[.int .i64 x, .int .i64 y] 132)).drew.cell? ⟨w.heap.size, 0, none⟩ = some (.int .i64 x) := (cell_blk hn 0).trans rfl
  have hn1 : (w.alloc (.cells #[.int .i64 x, .int .i64 y] 132)).drew.cell? ⟨w.heap.size, 1, none⟩ = some (.int .i64 y) := (cell_blk hn 1).trans rfl
  obtain ⟨A0, c0, rfl, -, -⟩ := HQ.out.own.shape
  have HOW : Hid (OwnP 132 (((w.alloc (.cells #[.int .i64 x, .int .i64 y] 132)).alloc (.cells #[.int .i64 x, .int .i64 y] 132)).drew) base (.slice A0 xs.length c0) xs ∧ base ≤ (((w.alloc (.cells #[.int .i64 x, .int .i64 y] 132)).alloc (.cells #[.int .i64 x, .int .i64 y] 132)).drew).heap.size) := by
    have hb2 := bel_trans (bel_trans hb1 (bel_alloc (w.alloc (.cells #[.int .i64 x, .int .i64 y] 132)) (.cells #[.int .i64 x, .int .i64 y] 132))) (RW.refl _).drew
    exact ⟨HQ.out.own.later hb2, Nat.le_trans HH.out.1 hb2.size⟩
  have HRD : Hid (ReadE (((w.alloc (.cells #[.int .i64 x, .int .i64 y] 132)).alloc (.cells #[.int .i64 x, .int .i64 y] 132)).drew) (some ⟨w.heap.size + 1, 0, none⟩) 1 [(x, y)]) := by
    have := readE_new (w.alloc (.cells #[.int .i64 x, .int .i64 y] 132)) x y 132
    rw [HS1.out] at this
    exact this
  have HLN : Hid (xs.length + 1 ≤ 1000000000) := by have := HH.out.2; unfold Hid; omega
  clear hb1 hn
  have HQF : Hid ((((w.alloc (.cells #[.int .i64 x, .int .i64 y] 132)).alloc (.cells #[.int .i64 x, .int .i64 y] 132)).drew).heap[q]? = some (.cells #[.slice A0 xs.length c0] 130 (0, 0)) ∧ Below w.heap.size w (((w.alloc (.cells #[.int .i64 x, .int .i64 y] 132)).alloc (.cells #[.int .i64 x, .int .i64 y] 132)).drew)) := by
    have hb2 := bel_trans (bel_trans HB1.out (bel_alloc (w.alloc (.cells #[.int .i64 x, .int .i64 y] 132)) (.cells #[.int .i64 x, .int .i64 y] 132))) (RW.refl _).drew
    exact ⟨(hb2.block _ (blk_lt HQ.out.hdr)).trans HQ.out.hdr, hb2⟩
  have hln : (xs ++ [(x, y)]).length = xs.length + 1 := by simp
  have hqc2 : (((w.alloc (.cells #[.int .i64 x, .int .i64 y] 132)).alloc (.cells #[.int .i64 x, .int .i64 y] 132)).drew).cell? ⟨q, 0, none⟩ = some (.slice A0 xs.length c0) := (cell_blk HQF.out.1 0).trans rfl
  go_region_law (first
    | (refine step_appP undEntries infoEntry base (by rfl) _ _ (by rfl) (.slice A0 xs.length c0) xs [(x, y)] (by rfl) HOW.out.1 HOW.out.2 (some ⟨w.heap.size + 1, 0, none⟩) 1 1 (by rfl) HRD.out (by decide) HLN.out ?_; intro v1 w11 own1 g11 hat1; obtain ⟨A1, c1, e1, -, -⟩ := own1.shape; rw [hln] at e1; subst e1; have h11 := (g11.block q (blk_lt HQF.out.1) (fun e => HQ.out.ne e.symm)).trans HQF.out.1; have t1 : w11.cell? ⟨q, 0, none⟩ = some (.slice A0 xs.length c0) := (cell_blk h11 0).trans rfl; have t2 := frozen_blk h11 0)
    | fail)
  all_goals
    have HEND : Hid (QW base q (.slice A1 (xs.length + 1) c1) (xs ++ [(x, y)]) (w11.setCell ⟨q, 0, none⟩ (.slice A1 (xs.length + 1) c1)) ∧ Mov (QK q (.slice A0 xs.length c0)) w (QK q (.slice A1 (xs.length + 1) c1)) (w11.setCell ⟨q, 0, none⟩ (.slice A1 (xs.length + 1) c1))) := by
      have hne : (Value.slice A1 (xs.length + 1) c1).ownBlock ≠ some q := fun e => by
        rcases hat1 with k | k
        · exact HQ.out.ne (by rw [← k]; exact e)
        · rw [k] at e
          have e2 : w.heap.size + 1 + 1 = q := by have e3 := Option.some.inj e; rw [← e3]; simp
          have := blk_lt HQ.out.hdr
          omega
      refine ⟨⟨HQ.out.low, Go.Proofs.YtbnipgajhpbolaaGreatDoorW.PrintWords.blk_put h11 0 _ rfl, World.ownsRow.kept own1 (grown_set w11 q 0 _) (.inr hne), hne⟩, ?_⟩
      refine (((Mov.of HQF.out.2).trans (Mov.grown g11 fun k e => .inr e)).trans (Mov.set (.inl rfl))).mono fun k hk => ?_
      rcases hk with hk | hk
      · exact .inl (.inl hk)
      · rcases hat1 with e | e
        · exact .inl (.inr (by rw [← e]; exact hk))
        · refine .inr ?_
          rw [e] at hk
          have e3 := Option.some.inj hk
          have := HQF.out.2.size
          omega
    clear own1 g11 hat1 h11 t1 t2 hqc hqc2 hn0 hn1 hq1
    go_wp2_with fail
    go_end0
    exact ⟨⟨_, HEND.out.1, HEND.out.2⟩, rfl⟩

set_option maxHeartbeats 4000000 in
set_option maxRecDepth 100000 in
/-- The last one is taken off. -/
theorem hpop_any {base q : Nat} {v : Value} {ys : List Ed} {z : Ed} (w : World) (h : QW base q v (ys ++ [z]) w) (hl : ys.length ≤ 2000000) :
    Calls Tryz.prog 328 #[.pointer (some ⟨q, 0, none⟩)] w fun e w' => (∃ v', QW base q v' ys w' ∧ Mov (QK q v) w (QK q v') w') ∧ ∃ u, e = .returned u := by
  obtain ⟨z1, z2⟩ := z
  have HQ := Lib.hid h
  obtain ⟨g, c, e, hg1, hg2⟩ := h.own.slice (by simp)
  simp only [List.length_append, List.length_cons, List.length_nil, Nat.zero_add] at e
  subst e
  have hc := h.own.cellAt (j := ys.length) (by omega)
  rw [show ge (ys ++ [(z1, z2)]) ys.length = (z1, z2) by simp [ge]] at hc
  have HC := Lib.hid hc
  have hq1 := h.cell
  have hf1 := frozen_blk h.hdr 0
  have hcut : ∀ W, (Instr.slice 128 (.slice (some ⟨g, 0, none⟩) (ys.length + 1) c) none (some (.int .i64 (ys.length : Int))) none).run Tryz.prog W = .ok (.slice (some ⟨g, 0, none⟩) ys.length c) W := fun W => by
    have hel : Tryz.prog.elem 128 = 132 := by simp [Program.elem, undEntries]
    have hu : Tryz.prog.underlying 128 = some (.slice (Tryz.prog.elem 128)) := by rw [hel]; exact undEntries
    obtain ⟨i0, hi, hz0, hz1, hz2⟩ := info_parts infoEntry
    obtain ⟨A', c', e', hc', -⟩ := h.own.shape
    injection e' with e1 e2 e3
    rw [run_slice_h W 128 (some ⟨g, 0, none⟩) (ys.length + 1) c hu .i64 (ys.length : Int) (Int.natCast_nonneg _) (by rw [e3]; simp at hc'; omega), hel]
    simp [sizeOf, typeInfo, hi, hz1, sliced, Result.andThen, Addr.add]
  have hge : g ≠ q := fun e => h.ne (by rw [← e]; rfl)
  have HCUT := Lib.hid (h.own.cut (p := ys.length) (by omega))
  obtain ⟨hc1, hc2⟩ := hc
  have sw : IntKind.i64.wrap (((ys.length + 1 : Nat) : Int) - 1) = (ys.length : Int) := by rw [IntKind.wrap_i64]; omega
  have hi : (0 : Int) ≤ (ys.length : Int) ∧ (ys.length : Int) < ((ys.length + 1 : Nat) : Int) := by omega
  have hb1 := bel_alloc w (.cells #[.int .i64 z1, .int .i64 z2] 132)
  have hn := heap_alloc_new w (.cells #[.int .i64 z1, .int .i64 z2] 132)
  have h1q := (hb1.block _ (blk_lt h.hdr)).trans h.hdr
  have hq2 : (w.alloc (.cells #[.int .i64 z1, .int .i64 z2] 132)).cell? ⟨q, 0, none⟩ = some (.slice (some ⟨g, 0, none⟩) (ys.length + 1) c) := (cell_blk h1q 0).trans rfl
  have hf2 := frozen_blk h1q 0
  have hqs : q < w.heap.size := blk_lt h.hdr
  have hb3 : ((w.alloc (.cells #[.int .i64 z1, .int .i64 z2] 132)).setCell ⟨q, 0, none⟩ (.slice (some ⟨g, 0, none⟩) ys.length c)).heap[w.heap.size]? = some (.cells #[.int .i64 z1, .int .i64 z2] 132 (0, 0)) := (Below.heap_setCell _ _ _ _ (by show w.heap.size ≠ q; omega)).trans hn
  have hz0 : ((w.alloc (.cells #[.int .i64 z1, .int .i64 z2] 132)).setCell ⟨q, 0, none⟩ (.slice (some ⟨g, 0, none⟩) ys.length c)).cell? ⟨w.heap.size, 0, none⟩ = some (.int .i64 z1) := (cell_blk hb3 0).trans rfl
  have hz1 : ((w.alloc (.cells #[.int .i64 z1, .int .i64 z2] 132)).setCell ⟨q, 0, none⟩ (.slice (some ⟨g, 0, none⟩) ys.length c)).cell? ⟨w.heap.size, 1, none⟩ = some (.int .i64 z2) := (cell_blk hb3 1).trans rfl
  have HEND : Hid (QW base q (.slice (some ⟨g, 0, none⟩) ys.length c) ys ((w.alloc (.cells #[.int .i64 z1, .int .i64 z2] 132)).setCell ⟨q, 0, none⟩ (.slice (some ⟨g, 0, none⟩) ys.length c)) ∧ Mov (QK q (.slice (some ⟨g, 0, none⟩) (ys.length + 1) c)) w (QK q (.slice (some ⟨g, 0, none⟩) ys.length c)) ((w.alloc (.cells #[.int .i64 z1, .int .i64 z2] 132)).setCell ⟨q, 0, none⟩ (.slice (some ⟨g, 0, none⟩) ys.length c))) := by
    have hne : (Value.slice (some ⟨g, 0, none⟩) ys.length c).ownBlock ≠ some q := fun e => hge (Option.some.inj e)
    have ho := HCUT.out.later hb1
    rw [List.take_left] at ho
    refine ⟨⟨HQ.out.low, Go.Proofs.YtbnipgajhpbolaaGreatDoorW.PrintWords.blk_put h1q 0 _ rfl, World.ownsRow.kept ho (grown_set _ q 0 _) (.inr hne), hne⟩, ((Mov.of hb1).trans (Mov.set (.inl rfl))).mono fun k hk => .inl ?_⟩
    rcases hk with hk | hk
    · exact .inl hk
    · exact .inr hk
  clear hb1 hn h1q hb3 hqs
  generalize hyl : ys.length = n at *
  generalize hn1 : n + 1 = n1 at *
  clear h hn1
  dsimp only at hc1 hc2
  go_enter Tryz.func328, Tryz.ntmps328
  go_wp2_with fail
  go_ret
  exact ⟨⟨_, HEND.out.1, HEND.out.2⟩, _, rfl⟩
end

end Go.Proofs.YtbnipgajhpbolaaGreatDoor
