/- The queue: container/heap's Push and Pop, queue.New, Push, Peek, Pop; A phase, plainly: edges that wait in a queue, paths that are apart -/
import Derived.Test.YtbnipgajhpbolaaGreatDoorTe28
import Derived.Test.YtbnipgajhpbolaaGreatDoorTe25
set_option linter.unusedVariables false
set_option linter.unusedSimpArgs false
namespace Go.Proofs.YtbnipgajhpbolaaGreatDoor

section
open Go.RowKit
theorem Mov.cell {K K' : Nat → Prop} {W W' : World} (m : Mov K W K' W') {a : Addr} {x : Value} (h : W.cell? a = some x) (hn : ¬ K a.block) : W'.cell? a = some x :=
  (World.cell?_of_block (m.block a.block (World.block_lt_of_cell? W a h) hn)).trans h
section
variable {base q : Nat} {v : Value} {xs : List Ed} {w w1 : World}
theorem QW.later (h : QW base q v xs w) (b : Below w.heap.size w w1) : QW base q v xs w1 := ⟨h.low, (b.block _ (blk_lt h.hdr)).trans h.hdr, h.own.later b, h.ne⟩
/-- Entries were put in another order. -/
theorem QW.order {g n c : Nat} {ys : List Ed} (h : QW base q (.slice (some ⟨g, 0, none⟩) n c) xs w) (o : OwnP 132 w1 base (.slice (some ⟨g, 0, none⟩) n c) ys) (gr : w.grownBy w1 (some g)) : QW base q (.slice (some ⟨g, 0, none⟩) n c) ys w1 ∧ Mov (QK q (.slice (some ⟨g, 0, none⟩) n c)) w (QK q (.slice (some ⟨g, 0, none⟩) n c)) w1 :=
  ⟨⟨h.low, (gr.block _ (blk_lt h.hdr) (fun e => h.ne e.symm)).trans h.hdr, o, h.ne⟩, Mov.grown gr fun k e => .inr e⟩

set_option maxHeartbeats 4000000 in
set_option maxRecDepth 100000 in
theorem heapPush_any (x y : Int) (w : World) (h : QW base q v xs w) (hb : base ≤ w.heap.size) (hl : xs.length < 2000000) :
    Calls Tryz.prog 147 #[.iface 157 (.pointer (some ⟨q, 0, none⟩)), .iface 132 (.agg #[.int .i64 x, .int .i64 y])] w fun e w' => (∃ v' xs', QW base q v' xs' w' ∧ xs'.Perm (xs ++ [(x, y)]) ∧ Mov (QK q v) w (QK q v') w') ∧ e = .returned (.tuple #[]) := by
  have hm := meth_push q w
  have HP := Lib.hid (hpush_any x y w h hb (by omega))
  have HL := Lib.hid hl
  clear h hb hl
  go_enter Tryz.func147, Tryz.ntmps147
  go_wp2_with fail
  refine HP.out.mono ?_
  rintro e w1 ⟨⟨v1, q1, m1⟩, rfl⟩
  obtain ⟨g, c, rfl, hg1, hg2⟩ := q1.own.slice (by simp)
  have hml := meth_len q1.cell
  have HQ := Lib.hid (And.intro q1 m1)
  have hlen := hlen_any (some ⟨g, 0, none⟩) (xs ++ [(x, y)]).length c w1
  have hln : (xs ++ [(x, y)]).length = xs.length + 1 := by simp
  have hup := hup_any (q := q) w1 q1.cell (fun e => q1.ne (by rw [e]; rfl)) q1.own (j := xs.length) (by omega) (by have := HL.out; omega)
  have HUP := Lib.hid hup
  have HLEN := Lib.hid hlen
  have sw : IntKind.i64.wrap (((xs ++ [(x, y)]).length : Int) - 1) = (xs.length : Int) := by rw [hln, IntKind.wrap_i64]; have := HL.out; omega
  clear q1 m1 hup hlen hm hln HP
  generalize (xs ++ [(x, y)]).length = n at *
  go_wp2_with fail
  refine HLEN.out.mono ?_
  rintro e w2 ⟨rfl, rfl⟩
  clear hml HLEN
  go_wp2_with fail
  refine HUP.out.mono ?_
  rintro e w3 ⟨⟨es', o3, p3⟩, g3, rfl⟩
  obtain ⟨k1, k2⟩ := HQ.out.1.order o3 g3
  have HEND := Lib.hid (And.intro k1 (And.intro p3 (HQ.out.2.trans k2)))
  clear o3 p3 g3 k1 k2 sw
  go_wp2_with fail
  go_end0
  exact ⟨⟨_, es', HEND.out.1, HEND.out.2.1, HEND.out.2.2⟩, rfl⟩

set_option maxHeartbeats 4000000 in
set_option maxRecDepth 100000 in
theorem heapPop_any {x : Ed} {ys : List Ed} (w : World) (h : QW base q v (x :: ys) w) (hl : ys.length < 2000000) :
    Calls Tryz.prog 88 #[.iface 157 (.pointer (some ⟨q, 0, none⟩))] w fun e w' => (∃ v' xs', QW base q v' xs' w' ∧ xs'.Perm ys ∧ Mov (QK q v) w (QK q v') w') ∧ ∃ u, e = .returned u := by
  obtain ⟨g, c, rfl, hg1, hg2⟩ := h.own.slice (by simp)
  have HQ := Lib.hid h
  have HL := Lib.hid hl
  have hne := h.ne
  have hcell := h.cell
  have hml := meth_len h.cell
  have hms := meth_swap h.cell
  have HLEN := Lib.hid (hlen_any (some ⟨g, 0, none⟩) (x :: ys).length c w)
  have hsw := hswap_any w h.own (i := 0) (j := ys.length) (by simp) (by simp)
  have HSW := Lib.hid hsw
  have sw : IntKind.i64.wrap (((x :: ys).length : Int) - 1) = (ys.length : Int) := by rw [IntKind.wrap_i64]; simp; omega
  -- what the swap leaves: the first one is the last one now
  have HSE : Hid (∃ zs : List Ed, swapE (x :: ys) 0 ys.length = zs ++ [x] ∧ zs.Perm ys ∧ zs.length = ys.length) := by
    have hp := swapE_perm (es := x :: ys) (i := 0) (j := ys.length) (by simp) (by simp)
    have hlen := swapE_length (x :: ys) 0 ys.length
    have hx : ge (swapE (x :: ys) 0 ys.length) ys.length = x := by
      unfold swapE
      rw [ge_set, if_pos ⟨rfl, by simp⟩]
      rfl
    have hne0 : swapE (x :: ys) 0 ys.length ≠ [] := fun e => by rw [e] at hlen; cases hlen
    have hlast : (swapE (x :: ys) 0 ys.length).getLast hne0 = x := by
      rw [List.getLast_eq_getElem]
      rw [ge_at (by rw [hlen]; simp)] at hx
      simp only [hlen, List.length_cons, Nat.add_sub_cancel]
      exact hx
    have hd := List.dropLast_concat_getLast hne0
    rw [hlast] at hd
    refine ⟨(swapE (x :: ys) 0 ys.length).dropLast, hd.symm, ?_, by simp [hlen]⟩
    rw [← hd] at hp
    have := (List.perm_append_comm (l₁ := (swapE (x :: ys) 0 ys.length).dropLast) (l₂ := [x])).symm.trans hp
    exact (List.perm_cons x).1 this
  have hl1 : (x :: ys).length = ys.length + 1 := rfl
  clear h hl hsw
  rw [hl1] at HQ HLEN HSW sw hml hms hcell hne ⊢
  clear hl1
  generalize hn1 : ys.length + 1 = n1 at *
  go_enter Tryz.func88, Tryz.ntmps88
  go_wp2_with fail
  refine HLEN.out.mono ?_
  rintro e w1 ⟨rfl, rfl⟩
  clear hml HLEN
  go_wp2_with fail
  refine HSW.out.mono ?_
  rintro e w2 ⟨o2, g2, rfl⟩
  obtain ⟨zs, z1, z2, z3⟩ := HSE.out
  rw [z1] at o2
  obtain ⟨q2, m2⟩ := HQ.out.order o2 g2
  have HQ2 := Lib.hid (And.intro q2 m2)
  have HZ := Lib.hid (And.intro z2 z3)
  have hdn := hdown_any (q := q) (ys := zs) (zs := [x]) (m := ys.length) (c := c) w2 (by have := q2.cell; rw [← hn1] at this; exact this) (fun e => q2.ne (by rw [e]; rfl)) z3 (by have := q2.own; rw [← hn1] at this; exact this) (by have := HL.out; simp; omega)
  have HDN := Lib.hid hdn
  clear o2 g2 z1 z2 z3 q2 m2 hdn hms hcell sw HSW
  go_wp2_with fail
  refine HDN.out.mono ?_
  rintro e w3 ⟨⟨ys', o3, p3⟩, g3, b, rfl⟩
  have q2 := HQ2.out.1
  rw [← hn1] at q2
  obtain ⟨q3, m3⟩ := q2.order o3 g3
  have hpo := hpop_any w3 q3 (by rw [p3.length_eq, HZ.out.2]; have := HL.out; omega)
  have HPO := Lib.hid hpo
  have hmp := meth_pop q w3
  have HM3 : Hid (Mov (QK q (.slice (some ⟨g, 0, none⟩) n1 c)) w (QK q (.slice (some ⟨g, 0, none⟩) n1 c)) w3 ∧ ys'.Perm ys) := by
    refine ⟨HQ2.out.2.trans ?_, p3.trans HZ.out.1⟩
    rw [← hn1]
    exact m3
  clear o3 p3 g3 q3 m3 q2 hpo
  go_wp2_with fail
  refine HPO.out.mono ?_
  rintro e w4 ⟨⟨v4, q4, m4⟩, u, rfl⟩
  have HEND : Hid (QW base q v4 ys' w4 ∧ Mov (QK q (.slice (some ⟨g, 0, none⟩) n1 c)) w (QK q v4) w4) := by
    refine ⟨q4, HM3.out.1.trans ?_⟩
    rw [← hn1]
    exact m4
  clear q4 m4 hmp
  go_wp2_with fail
  go_ret
  exact ⟨⟨v4, ys', HEND.out.1, HM3.out.2, HEND.out.2⟩, _, rfl⟩

theorem qnew_any (w : World) (hb : base ≤ w.heap.size) : Calls Tryz.prog 52 #[] w fun e w' => e = .returned (.pointer (some ⟨w.heap.size, 0, none⟩)) ∧ QW base w.heap.size (.slice none 0 0) [] w' ∧ Below w.heap.size w w' := by
  have HQ : Hid (QW base w.heap.size (.slice none 0 0) [] (w.alloc (.cells #[.slice none 0 0] 130)) ∧ Below w.heap.size w (w.alloc (.cells #[.slice none 0 0] 130))) := ⟨⟨hb, heap_alloc_new _ _, World.ownsRow_nil _ _ _ _, fun e => by cases e⟩, bel_alloc _ _⟩
  go_enter Tryz.func52, Tryz.ntmps52
  go_wp2_with fail
  go_ret
  exact ⟨rfl, HQ.out.1, HQ.out.2⟩

set_option maxHeartbeats 4000000 in
set_option maxRecDepth 100000 in
theorem qpush_any (x y : Int) (w : World) (h : QW base q v xs w) (hb : base ≤ w.heap.size) (hl : xs.length < 2000000) :
    Calls Tryz.prog 116 #[.pointer (some ⟨q, 0, none⟩), .agg #[.int .i64 x, .int .i64 y]] w fun e w' => (∃ v' xs', QW base q v' xs' w' ∧ xs'.Perm (xs ++ [(x, y)]) ∧ Mov (QK q v) w (QK q v') w') ∧ e = .returned (.int .i64 0) := by
  have hb1 := bel_alloc w (.cells #[.int .i64 x, .int .i64 y] 132)
  have HB1 := Lib.hid hb1
  have hqc := h.cell
  have hq1 := cell_later hb1 h.cell
  have hn := heap_alloc_new w (.cells #[.int .i64 x, .int .i64 y] 132)
  have hn0 : (w.alloc (.cells #[.int .i64 x, .int .i64 y] 132)).drew.cell? ⟨w.heap.size, 0, none⟩ = some (.int .i64 x) := (cell_blk hn 0).trans rfl
  have hn1 : (w.alloc (.cells #[.int .i64 x, .int .i64 y] 132)).drew.cell? ⟨w.heap.size, 1, none⟩ = some (.int .i64 y) := (cell_blk hn 1).trans rfl
  have hb2 := bel_trans hb1 (RW.refl _).drew
  have HHP := Lib.hid (heapPush_any x y _ (h.later hb2) (Nat.le_trans hb hb2.size) hl)
  have HB2 := Lib.hid hb2
  obtain ⟨A, c, rfl, -, -⟩ := h.own.shape
  have hz : decide ((2000000 : Int) ≤ (xs.length : Int)) = false := decide_eq_false (by omega)
  have HNK : Hid (¬ QK q (.slice A xs.length c) w.heap.size) := fun e => by
    rcases e with e | e
    · have := blk_lt h.hdr; omega
    · have := (World.ownsRow.lt h.own _ e).2; omega
  clear h hb hb1 hb2 hl hn
  go_enter Tryz.func116, Tryz.ntmps116
  go_wp2_with fail
  go_region_held3 (fun w' => w'.cell? ⟨w.heap.size, 0, none⟩ = some (.int .i64 x) ∧ w'.cell? ⟨w.heap.size, 1, none⟩ = some (.int .i64 y))
    (first | assumption | exact ⟨hn0, hn1⟩ | exact h9.out | fail)
    (first | (go_at_call 147; refine HHP.out.mono ?_; rintro e w9 ⟨⟨v9, xs9, q9, p9, m9⟩, rfl⟩; have h9 : Hid (w9.cell? ⟨w.heap.size, 0, none⟩ = some (.int .i64 x) ∧ w9.cell? ⟨w.heap.size, 1, none⟩ = some (.int .i64 y)) := ⟨m9.cell hn0 HNK.out, m9.cell hn1 HNK.out⟩) | fail)
  have HEND := Lib.hid (And.intro q9 (And.intro p9 ((Mov.of HB2.out).trans m9)))
  clear q9 p9 m9 h9 hn0 hn1 hq1 hqc
  go_wp2_with fail
  go_ret
  exact ⟨⟨v9, xs9, HEND.out.1, HEND.out.2.1, HEND.out.2.2⟩, rfl⟩

set_option maxHeartbeats 4000000 in
set_option maxRecDepth 100000 in
theorem qpeek_nil (w : World) (h : QW base q v [] w) :
    Calls Tryz.prog 87 #[.pointer (some ⟨q, 0, none⟩)] w fun e w' => e = .returned (.tuple #[.agg #[.int .i64 0, .int .i64 0], .int .i64 16]) ∧ Below w.heap.size w w' := by
  obtain ⟨A, c, rfl, -, -⟩ := h.own.shape
  have hb1 := bel_alloc w (.cells #[.int .i64 0, .int .i64 0] 132)
  have hq1 := cell_later hb1 h.cell
  have hn := heap_alloc_new w (.cells #[.int .i64 0, .int .i64 0] 132)
  have hn0 := (cell_blk hn 0).trans (show _ = some (Value.int .i64 0) from rfl)
  have hn1 := (cell_blk hn 1).trans (show _ = some (Value.int .i64 0) from rfl)
  have HB1 := Lib.hid hb1
  have HN := Lib.hid hn
  clear h hb1 hn
  simp only [List.length_nil] at hq1
  go_enter Tryz.func87, Tryz.ntmps87
  go_wp2_with fail
  (try simp only [Exit.inBlock, Exit.then])
  refine bodyPost_ret (Go.Proofs.YtbnipgajhpbolaaGreatDoorW.PrintWords.results_ct rfl _ _ w.heap.size 132 #[.int .i64 0, .int .i64 0] (0, 0) _ rfl HN.out Tryz.underlying132 rfl (by kernel_rfl)) rfl ?_
  exact ⟨rfl, HB1.out⟩

set_option maxHeartbeats 4000000 in
set_option maxRecDepth 100000 in
theorem qpeek_some {x : Ed} {ys : List Ed} (w : World) (h : QW base q v (x :: ys) w) :
    Calls Tryz.prog 87 #[.pointer (some ⟨q, 0, none⟩)] w fun e w' => e = .returned (.tuple #[.agg #[.int .i64 x.1, .int .i64 x.2], .int .i64 0]) ∧ Below w.heap.size w w' := by
  obtain ⟨g, c, rfl, hg1, hg2⟩ := h.own.slice (by simp)
  obtain ⟨x1, x2⟩ := x
  have hc := h.own.cellAt (j := 0) (by simp)
  have hb1 := bel_alloc w (.cells #[.int .i64 0, .int .i64 0] 132)
  have hq1 := cell_later hb1 h.cell
  have c1 := cell_later hb1 hc.1
  have c2 := cell_later hb1 hc.2
  have hn := heap_alloc_new w (.cells #[.int .i64 0, .int .i64 0] 132)
  have hn0 := (cell_blk hn 0).trans (show _ = some (Value.int .i64 0) from rfl)
  have hn1 := (cell_blk hn 1).trans (show _ = some (Value.int .i64 0) from rfl)
  have HN : Hid ((((w.alloc (.cells #[.int .i64 0, .int .i64 0] 132)).setCell ⟨w.heap.size, 0, none⟩ (.int .i64 x1)).setCell ⟨w.heap.size, 1, none⟩ (.int .i64 x2)).heap[w.heap.size]? = some (.cells #[.int .i64 x1, .int .i64 x2] 132 (0, 0))) :=
    Go.Proofs.YtbnipgajhpbolaaGreatDoorW.PrintWords.blk_put (cs := #[.int .i64 x1, .int .i64 0]) (Go.Proofs.YtbnipgajhpbolaaGreatDoorW.PrintWords.blk_put (cs := #[.int .i64 0, .int .i64 0]) hn 0 _ rfl) 1 _ rfl
  have HB1 : Hid (Below w.heap.size w (((w.alloc (.cells #[.int .i64 0, .int .i64 0] 132)).setCell ⟨w.heap.size, 0, none⟩ (.int .i64 x1)).setCell ⟨w.heap.size, 1, none⟩ (.int .i64 x2))) := Below.setCell (p := ⟨w.heap.size, 1, none⟩) (Below.setCell (p := ⟨w.heap.size, 0, none⟩) hb1 (Nat.le_refl _) _) (Nat.le_refl _) _
  have HN2 : Hid ((w.alloc (.cells #[.int .i64 x1, .int .i64 x2] 132)).heap[w.heap.size]? = some (.cells #[.int .i64 x1, .int .i64 x2] 132 (0, 0)) ∧ Below w.heap.size w (w.alloc (.cells #[.int .i64 x1, .int .i64 x2] 132))) := ⟨heap_alloc_new w _, bel_alloc w _⟩
  have hlt : (0 : Int) < (((x1, x2) :: ys).length : Int) := by simp only [List.length_cons]; omega
  have hz : (((((x1, x2) :: ys).length : Nat) : Int) == 0) = false := by rw [beq_eq_false_iff_ne]; omega
  generalize hn1' : ((x1, x2) :: ys).length = n at *
  rw [show ge ((x1, x2) :: ys) 0 = (x1, x2) from rfl] at c1 c2
  dsimp only at c1 c2
  simp only [Nat.zero_mul, Nat.zero_add] at c1 c2
  clear h hb1 hn hc hn1'
  go_enter Tryz.func87, Tryz.ntmps87
  go_wp2_with fail
  (try simp only [Exit.inBlock, Exit.then])
  refine bodyPost_ret (Go.Proofs.YtbnipgajhpbolaaGreatDoorW.PrintWords.results_ct rfl _ _ w.heap.size 132 #[.int .i64 x1, .int .i64 x2] (0, 0) _ rfl HN2.out.1 Tryz.underlying132 rfl (by kernel_rfl)) rfl ?_
  exact ⟨rfl, HN2.out.2⟩

set_option maxHeartbeats 4000000 in
set_option maxRecDepth 100000 in
theorem qpop_nil (w : World) (h : QW base q v [] w) :
    Calls Tryz.prog 68 #[.pointer (some ⟨q, 0, none⟩)] w fun e w' => e = .returned (.tuple #[.agg #[.int .i64 0, .int .i64 0], .int .i64 16]) ∧ Below w.heap.size w w' := by
  have hb1 := bel_alloc w (.cells #[.int .i64 0, .int .i64 0] 132)
  have HP := Lib.hid (qpeek_nil _ (h.later hb1))
  have hn := heap_alloc_new w (.cells #[.int .i64 0, .int .i64 0] 132)
  have HB1 := Lib.hid hb1
  have HN := Lib.hid hn
  clear h hb1 hn
  go_enter Tryz.func68, Tryz.ntmps68
  go_wp2_with fail
  refine HP.out.mono ?_
  rintro e w1 ⟨rfl, hb2⟩
  have hb3 := bel_trans hb2 (bel_alloc w1 (.cells #[.int .i64 0, .int .i64 0] 132))
  have H2 := Lib.hid ((hb3.block _ (blk_lt HN.out)).trans HN.out)
  have c0 := (cell_blk H2.out 0).trans (show _ = some (Value.int .i64 0) from rfl)
  have c1 := (cell_blk H2.out 1).trans (show _ = some (Value.int .i64 0) from rfl)
  have f0 := frozen_blk H2.out 0
  have f1 := frozen_blk H2.out 1
  have h4 := heap_alloc_new w1 (.cells #[.int .i64 0, .int .i64 0] 132)
  have d0 := (cell_blk h4 0).trans (show _ = some (Value.int .i64 0) from rfl)
  have d1 := (cell_blk h4 1).trans (show _ = some (Value.int .i64 0) from rfl)
  have HEND : Hid ((((w1.alloc (.cells #[.int .i64 0, .int .i64 0] 132)).setCell ⟨w.heap.size, 0, none⟩ (.int .i64 0)).setCell ⟨w.heap.size, 1, none⟩ (.int .i64 0)).heap[w.heap.size]? = some (.cells #[.int .i64 0, .int .i64 0] 132 (0, 0)) ∧ Below w.heap.size w (((w1.alloc (.cells #[.int .i64 0, .int .i64 0] 132)).setCell ⟨w.heap.size, 0, none⟩ (.int .i64 0)).setCell ⟨w.heap.size, 1, none⟩ (.int .i64 0))) :=
    ⟨Go.Proofs.YtbnipgajhpbolaaGreatDoorW.PrintWords.blk_put (cs := #[.int .i64 0, .int .i64 0]) (Go.Proofs.YtbnipgajhpbolaaGreatDoorW.PrintWords.blk_put (cs := #[.int .i64 0, .int .i64 0]) H2.out 0 _ rfl) 1 _ rfl, Below.setCell (p := ⟨w.heap.size, 1, none⟩) (Below.setCell (p := ⟨w.heap.size, 0, none⟩) (bel_trans HB1.out hb3) (Nat.le_refl _) _) (Nat.le_refl _) _⟩
  clear hb2 hb3 h4 HP
  go_wp2_with fail
  (try simp only [Exit.inBlock, Exit.then])
  refine bodyPost_ret (Go.Proofs.YtbnipgajhpbolaaGreatDoorW.PrintWords.results_ct rfl _ _ w.heap.size 132 #[.int .i64 0, .int .i64 0] (0, 0) _ rfl HEND.out.1 Tryz.underlying132 rfl (by kernel_rfl)) rfl ?_
  exact ⟨rfl, HEND.out.2⟩

set_option maxHeartbeats 4000000 in
set_option maxRecDepth 100000 in
theorem qpop_some {x : Ed} {ys : List Ed} (w : World) (h : QW base q v (x :: ys) w) (hl : ys.length < 2000000) :
    Calls Tryz.prog 68 #[.pointer (some ⟨q, 0, none⟩)] w fun e w' => e = .returned (.tuple #[.agg #[.int .i64 x.1, .int .i64 x.2], .int .i64 0]) ∧ ∃ v' xs', QW base q v' xs' w' ∧ xs'.Perm ys ∧ Mov (QK q v) w (QK q v') w' := by
  have hb1 := bel_alloc w (.cells #[.int .i64 0, .int .i64 0] 132)
  have HP := Lib.hid (qpeek_some _ (h.later hb1))
  have hn := heap_alloc_new w (.cells #[.int .i64 0, .int .i64 0] 132)
  have HB1 := Lib.hid hb1
  have HN := Lib.hid hn
  have HQ := Lib.hid h
  have HL := Lib.hid hl
  have HNK : ∀ k, w.heap.size ≤ k → ¬ QK q v k := fun k hk e => by
    rcases e with e | e
    · have := blk_lt h.hdr; omega
    · have := (World.ownsRow.lt h.own _ e).2; omega
  have HNK := Lib.hid HNK
  clear h hb1 hn hl
  obtain ⟨x1, x2⟩ := x
  go_enter Tryz.func68, Tryz.ntmps68
  go_wp2_with fail
  refine HP.out.mono ?_
  rintro e w1 ⟨rfl, hb2⟩
  have hb3 := bel_trans hb2 (bel_alloc w1 (.cells #[.int .i64 x1, .int .i64 x2] 132))
  have HB3 := Lib.hid hb3
  have HHP := Lib.hid (heapPop_any (x := (x1, x2)) (ys := ys) _ (HQ.out.later (bel_trans HB1.out hb3)) HL.out)
  have HS3 : Hid (w.heap.size ≤ w1.heap.size) := (bel_trans HB1.out hb2).size
  dsimp only
  clear hb2 hb3 HP
  go_wp2_with fail
  refine HHP.out.mono ?_
  rintro e w4 ⟨⟨v4, xs4, q4, p4, m4⟩, u, rfl⟩
  have hlt0 : w.heap.size < (w.alloc (.cells #[.int .i64 0, .int .i64 0] 132)).heap.size := by simp
  have H2 : Hid (w4.heap[w.heap.size]? = some (.cells #[.int .i64 0, .int .i64 0] 132 (0, 0))) :=
    (m4.block _ (Nat.lt_of_lt_of_le hlt0 HB3.out.size) (HNK.out _ (Nat.le_refl _))).trans ((HB3.out.block _ hlt0).trans HN.out)
  have h4 : w4.heap[w1.heap.size]? = some (.cells #[.int .i64 x1, .int .i64 x2] 132 (0, 0)) :=
    (m4.block _ (by simp) (HNK.out _ HS3.out)).trans (heap_alloc_new w1 _)
  have c0 := (cell_blk H2.out 0).trans (show _ = some (Value.int .i64 0) from rfl)
  have c1 := (cell_blk H2.out 1).trans (show _ = some (Value.int .i64 0) from rfl)
  have f0 := frozen_blk H2.out 0
  have f1 := frozen_blk H2.out 1
  have d0 := (cell_blk h4 0).trans (show _ = some (Value.int .i64 x1) from rfl)
  have d1 := (cell_blk h4 1).trans (show _ = some (Value.int .i64 x2) from rfl)
  have HEND : Hid (((w4.setCell ⟨w.heap.size, 0, none⟩ (.int .i64 x1)).setCell ⟨w.heap.size, 1, none⟩ (.int .i64 x2)).heap[w.heap.size]? = some (.cells #[.int .i64 x1, .int .i64 x2] 132 (0, 0)) ∧ QW base q v4 xs4 ((w4.setCell ⟨w.heap.size, 0, none⟩ (.int .i64 x1)).setCell ⟨w.heap.size, 1, none⟩ (.int .i64 x2)) ∧ xs4.Perm ys ∧ Mov (QK q v) w (QK q v4) ((w4.setCell ⟨w.heap.size, 0, none⟩ (.int .i64 x1)).setCell ⟨w.heap.size, 1, none⟩ (.int .i64 x2))) := by
    have hq0 := blk_lt HQ.out.hdr
    have hv4 : v4.ownBlock ≠ some w.heap.size := fun e => by
      rcases m4.new _ (.inr e) with k | k
      · exact HNK.out _ (Nat.le_refl _) k
      · have := HB3.out.size; omega
    have m5 : Mov (QK q v) w (QK q v4) w4 := (Mov.of (bel_trans HB1.out HB3.out)).trans m4
    refine ⟨Go.Proofs.YtbnipgajhpbolaaGreatDoorW.PrintWords.blk_put (cs := #[.int .i64 x1, .int .i64 0]) (Go.Proofs.YtbnipgajhpbolaaGreatDoorW.PrintWords.blk_put (cs := #[.int .i64 0, .int .i64 0]) H2.out 0 _ rfl) 1 _ rfl, ⟨q4.low, ?_, ?_, q4.ne⟩, p4, ⟨m5.os, m5.tape, m5.output, by have := m5.size; simpa [World.setCell] using this, fun k hk hn => ?_, m5.new⟩⟩
    · exact (Below.heap_setCell _ _ _ _ (by show q ≠ w.heap.size; omega)).trans ((Below.heap_setCell _ _ _ _ (by show q ≠ w.heap.size; omega)).trans q4.hdr)
    · exact World.ownsRow.kept q4.own (grown_set2 _ _ _ _ _ _) (.inr hv4)
    · rw [Below.heap_setCell _ _ _ _ (by show k ≠ w.heap.size; omega), Below.heap_setCell _ _ _ _ (by show k ≠ w.heap.size; omega)]
      exact m5.block k hk hn
  clear h4 q4 p4 m4 hlt0
  go_wp2_with fail
  (try simp only [Exit.inBlock, Exit.then])
  refine bodyPost_ret (Go.Proofs.YtbnipgajhpbolaaGreatDoorW.PrintWords.results_ct rfl _ _ w.heap.size 132 #[.int .i64 x1, .int .i64 x2] (0, 0) _ rfl HEND.out.1 Tryz.underlying132 rfl (by kernel_rfl)) rfl ?_
  exact ⟨rfl, v4, xs4, HEND.out.2.1, HEND.out.2.2.1, HEND.out.2.2.2⟩

end
end

section
open Go.RowKit
section
variable {N : Nat} {es ps xs xs' : List Ed} {s s' : Fm} {B B' : Nat → Nat} {mt : Nat → Int}
/-- An edge that waits. -/
def Pd (ps xs : List Ed) (v w : Nat) : Prop := ∃ e ∈ xs, ge ps e.2.toNat = ((v : Int), (w : Int)) ∨ ge ps e.2.toNat = ((w : Int), (v : Int))
theorem Pd.symm {v w : Nat} (h : Pd ps xs v w) : Pd ps xs w v := by
  obtain ⟨e, a, b⟩ := h
  exact ⟨e, a, b.symm⟩
/-- What a phase keeps: P has been looked from, v is looked from, so far i; ps are all edges that were put in, xs wait. -/
structure PQ (N : Nat) (es : List Ed) (s : Fm) (B : Nat → Nat) (P : List Nat) (cur : Option Nat) (i : Nat) (ps xs : List Ed) : Prop where
  out : ∀ z, z < N → (s.ou z = true ↔ (z ∈ P ∨ (z : Int) ∈ s.wl ∨ cur = some z))
  wn : s.wl.Nodup
  pn : P.Nodup
  pw : ∀ z ∈ P, z < N ∧ (z : Int) ∉ s.wl
  cw : ∀ v, cur = some v → v < N ∧ v ∉ P ∧ (v : Int) ∉ s.wl
  wlt : ∀ x ∈ s.wl, ∃ z : Nat, z < N ∧ x = z
  val : ∀ e ∈ xs, ∃ k : Nat, e.2 = k ∧ k < ps.length
  pnd : ∀ p ∈ ps, ∃ x y : Nat, p = ((x : Int), (y : Int)) ∧ x < N ∧ y < N ∧ s.ou x = true ∧ JV es x y
  fit : (∀ z, s.gn z = false) → ∀ v ∈ P, ∀ w, JV es v w → (s.lab w ≠ 0 ∧ (s.ou w = true → (w : Int) ∈ s.wl ∨ cur = some w ∨ B v = B w)) ∨ Pd ps xs v w
  now : (∀ z, s.gn z = false) → ∀ v, cur = some v → ∀ j, j < i → ∀ w : Nat, gi (nearV es v) j = w → (s.lab w ≠ 0 ∧ (s.ou w = true → (w : Int) ∈ s.wl ∨ B v = B w)) ∨ Pd ps xs v w
  few : xs.length ≤ ps.length
  many : ps.length ≤ degs es P + (if cur = none then 0 else i)
  lk : s.lk = ((degs es P + (if cur = none then 0 else i) + (ps.length - xs.length) : Nat) : Int)
/-- The next one. -/
theorem PQ.pop {P : List Nat} {v : Nat} {l : List Int} {x : Value} (h : PQ N es s B P none 0 ps xs) (hl : s.wl = (v : Int) :: l) : PQ N es { s with wv := x, wl := l } B P (some v) 0 ps xs := by
  have hn := h.wn
  rw [hl, List.nodup_cons] at hn
  have hv : v < N := by obtain ⟨z, a, b⟩ := h.wlt (v : Int) (by rw [hl]; simp); omega
  refine ⟨fun z hz => ?_, hn.2, h.pn, fun z hz => ⟨(h.pw z hz).1, fun q => (h.pw z hz).2 (by rw [hl]; simp [q])⟩, fun u hu => ?_, fun y hy => h.wlt y (by rw [hl]; exact List.mem_cons_of_mem _ hy), h.val, h.pnd, fun hg u hu w j => ?_, fun hg u hu j hj => absurd hj (by omega), h.few, by have := h.many; simp at this ⊢; exact this, ?_⟩
  · show s.ou z = true ↔ _
    rw [h.out z hz, hl]
    constructor
    · rintro (q | q | q)
      · exact .inl q
      · rcases List.mem_cons.1 q with q | q
        · have : v = z := by omega
          exact .inr (.inr (by rw [this]))
        · exact .inr (.inl q)
      · cases q
    · rintro (q | q | q)
      · exact .inl q
      · exact .inr (.inl (List.mem_cons_of_mem _ q))
      · cases q
        exact .inr (.inl (by simp))
  · cases hu
    exact ⟨hv, fun q => (h.pw v q).2 (by rw [hl]; simp), hn.1⟩
  · rcases h.fit hg u hu w j with ⟨a, b⟩ | p
    · refine .inl ⟨a, fun o => ?_⟩
      rcases b o with b | b | b
      · rw [hl] at b
        rcases List.mem_cons.1 b with b | b
        · have : v = w := by omega
          exact .inr (.inl (by rw [this]))
        · exact .inl b
      · cases b
      · exact .inr (.inr b)
    · exact .inr p
  · rw [show ({ s with wv := x, wl := l } : Fm).lk = s.lk from rfl, h.lk]
    simp
/-- All of v's edges have been looked at. -/
theorem PQ.done {P : List Nat} {v : Nat} (h : PQ N es s B P (some v) (nearV es v).length ps xs) : PQ N es s B (P ++ [v]) none 0 ps xs := by
  obtain ⟨c1, c2, c3⟩ := h.cw v rfl
  refine ⟨fun z hz => ?_, h.wn, ?_, fun z hz => ?_, fun u hu => (by cases hu), h.wlt, h.val, h.pnd, fun hg u hu w j => ?_, fun hg u hu => (by cases hu), h.few, ?_, ?_⟩
  · rw [h.out z hz]
    constructor
    · rintro (q | q | q)
      · exact .inl (List.mem_append_left _ q)
      · exact .inr (.inl q)
      · cases q
        exact .inl (by simp)
    · rintro (q | q | q)
      · rcases List.mem_append.1 q with q | q
        · exact .inl q
        · have : z = v := by simpa using q
          exact .inr (.inr (by rw [this]))
      · exact .inr (.inl q)
      · cases q
  · rw [List.nodup_append]
    refine ⟨h.pn, by simp, fun a ha b hb e => ?_⟩
    have : b = v := by simpa using hb
    subst this
    subst e
    exact c2 ha
  · rcases List.mem_append.1 hz with hz | hz
    · exact h.pw z hz
    · have : z = v := by simpa using hz
      subst this
      exact ⟨c1, c3⟩
  · have key : ∀ w, JV es v w → (s.lab w ≠ 0 ∧ (s.ou w = true → (w : Int) ∈ s.wl ∨ B v = B w)) ∨ Pd ps xs v w := fun w j => by
      obtain ⟨k, hk, e⟩ := List.getElem_of_mem j
      exact h.now hg v rfl k hk w (by rw [gi_at hk, e])
    rcases List.mem_append.1 hu with hu | hu
    · rcases h.fit hg u hu w j with ⟨a, b⟩ | p
      · by_cases o : s.ou w = true
        · rcases b o with b | b | b
          · exact .inl ⟨a, fun _ => .inl b⟩
          · cases b
            have ou : s.ou u = true := (h.out u (h.pw u hu).1).2 (.inl hu)
            rcases key u (near_symm j) with ⟨c, d⟩ | p
            · rcases d ou with d | d
              · exact absurd d (h.pw u hu).2
              · exact .inl ⟨a, fun _ => .inr (.inr d.symm)⟩
            · exact .inr p.symm
          · exact .inl ⟨a, fun _ => .inr (.inr b)⟩
        · exact .inl ⟨a, fun o' => absurd o' o⟩
      · exact .inr p
    · have : u = v := by simpa using hu
      subst this
      rcases key w j with ⟨c, d⟩ | p
      · exact .inl ⟨c, fun o => (d o).elim .inl fun d => .inr (.inr d)⟩
      · exact .inr p
  · have := h.many
    rw [degs_app]
    simp [degs] at this ⊢
    exact this
  · rw [h.lk, degs_app]
    simp [degs]
/-- An edge more has been looked at: nothing was to do. -/
theorem PQ.skip {P : List Nat} {v w i : Nat} {up : Nat → Int} (h : PQ N es s B P (some v) i ps xs) (hw : gi (nearV es v) i = w) (hk : (∀ z, s.gn z = false) → s.lab w ≠ 0 ∧ (s.ou w = true → B v = B w)) : PQ N es { s with up := up, lk := s.lk + 1 } B P (some v) (i + 1) ps xs := by
  refine ⟨h.out, h.wn, h.pn, h.pw, h.cw, h.wlt, h.val, h.pnd, h.fit, fun hg u hu j hj y e => ?_, h.few, by have := h.many; simp at this ⊢; omega, ?_⟩
  · by_cases q : j = i
    · subst q
      cases hu
      have : w = y := by omega
      subst this
      exact .inl ⟨(hk hg).1, fun o => .inr ((hk hg).2 o)⟩
    · exact h.now hg u hu j (by omega) y e
  · show s.lk + 1 = _
    rw [h.lk]
    simp
    omega
theorem Pd.more {p : Ed} {t : Int} {a b : Nat} (hv : ∀ e ∈ xs, ∃ k : Nat, e.2 = k ∧ k < ps.length) (h : Pd ps xs a b) (hp : xs'.Perm (xs ++ [(t, (ps.length : Int))])) : Pd (ps ++ [p]) xs' a b := by
  obtain ⟨e, h1, h2⟩ := h
  obtain ⟨k, h3, h4⟩ := hv e h1
  refine ⟨e, hp.symm.subset (List.mem_append_left _ h1), ?_⟩
  rw [h3, Int.toNat_natCast] at h2 ⊢
  rw [ge_app_left h4]
  exact h2
/-- An edge more has been looked at: it is put in. -/
theorem PQ.push {P : List Nat} {v w i : Nat} {up : Nat → Int} {t : Int} (h : PQ N es s B P (some v) i ps xs) (hw : gi (nearV es v) i = w) (hwN : w < N) (ov : s.ou v = true) (hj : JV es v w) (hp : xs'.Perm (xs ++ [(t, (ps.length : Int))])) : PQ N es { s with up := up, lk := s.lk + 1 } B P (some v) (i + 1) (ps ++ [((v : Int), (w : Int))]) xs' := by
  have hv := (h.cw v rfl).1
  have hl := hp.length_eq
  simp only [List.length_append, List.length_cons, List.length_nil, Nat.zero_add] at hl
  have hpl : (ps ++ [((v : Int), (w : Int))]).length = ps.length + 1 := by simp
  refine ⟨h.out, h.wn, h.pn, h.pw, h.cw, h.wlt, fun e he => ?_, fun p hp => ?_, fun hg u hu y j => ?_, fun hg u hu j hj y e => ?_, by rw [hl, hpl]; have := h.few; omega, by rw [hpl]; have := h.many; simp at this ⊢; omega, ?_⟩
  · rw [hpl]
    rcases List.mem_append.1 (hp.subset he) with q | q
    · obtain ⟨k, a, b⟩ := h.val e q
      exact ⟨k, a, by omega⟩
    · have : e = (t, (ps.length : Int)) := by simpa using q
      exact ⟨ps.length, by rw [this], by omega⟩
  · rcases List.mem_append.1 hp with q | q
    · exact h.pnd p q
    · have : p = ((v : Int), (w : Int)) := by simpa using q
      exact ⟨v, w, this, hv, hwN, ov, hj⟩
  · rcases h.fit hg u hu y j with q | q
    · exact .inl q
    · exact .inr (q.more h.val hp)
  · by_cases q : j = i
    · subst q
      cases hu
      have : w = y := by omega
      subst this
      refine .inr ⟨(t, (ps.length : Int)), hp.symm.subset (by simp), .inl ?_⟩
      simp [ge]
    · rcases h.now hg u hu j (by omega) y e with q | q
      · exact .inl q
      · exact .inr (q.more h.val hp)
  · show s.lk + 1 = _
    rw [h.lk, hl, hpl]
    simp
    omega
/-- The queue is another order of what waits. -/
theorem PQ.order {P : List Nat} {cur : Option Nat} {i : Nat} (h : PQ N es s B P cur i ps xs) (hp : xs'.Perm xs) : PQ N es s B P cur i ps xs' := by
  have hd : ∀ v w, Pd ps xs v w → Pd ps xs' v w := fun v w => fun ⟨e, a, b⟩ => ⟨e, hp.symm.subset a, b⟩
  exact ⟨h.out, h.wn, h.pn, h.pw, h.cw, h.wlt, fun e he => h.val e (hp.subset he), h.pnd, fun hg u hu w j => (h.fit hg u hu w j).imp id (hd _ _), fun hg u hu j hj w e => (h.now hg u hu j hj w e).imp id (hd _ _), by rw [hp.length_eq]; exact h.few, h.many, by rw [hp.length_eq]; exact h.lk⟩
/-- The edge at hand. -/
theorem PQ.hand {P : List Nat} {e : Ed} (h : PQ N es s B P none 0 ps (e :: xs)) : ∃ (k v w : Nat), e.2 = k ∧ k < ps.length ∧ ge ps k = ((v : Int), (w : Int)) ∧ v < N ∧ w < N ∧ s.ou v = true ∧ JV es v w := by
  obtain ⟨k, a, b⟩ := h.val e (by simp)
  obtain ⟨x, y, c1, c2, c3, c4, c5⟩ := h.pnd (ge ps k) (by rw [ge_at b]; exact List.getElem_mem _)
  exact ⟨k, x, y, a, b, c1, c2, c3, c4, c5⟩
theorem Pd.split {e : Ed} {v w a b k : Nat} (hk : e.2 = (k : Int)) (he : ge ps k = ((v : Int), (w : Int))) (h : Pd ps (e :: xs) a b) : (a = v ∧ b = w) ∨ (a = w ∧ b = v) ∨ Pd ps xs a b := by
  obtain ⟨e', h1, h2⟩ := h
  rcases List.mem_cons.1 h1 with q | q
  · subst q
    rw [hk, Int.toNat_natCast, he] at h2
    simp only [Prod.mk.injEq] at h2
    omega
  · exact .inr (.inr ⟨e', q, h2⟩)
/-- An edge is taken up: nothing was to do. -/
theorem PQ.take0 {P : List Nat} {e : Ed} {v w k : Nat} {up : Nat → Int} (hm : MtOk N (JV es) mt) (hi : FoI N (JV es) mt (s.fo B)) (h : PQ N es s B P none 0 ps (e :: xs)) (hk : e.2 = (k : Int)) (he : ge ps k = ((v : Int), (w : Int))) (hv : v < N) (ov : s.ou v = true) (h0 : lookB mt s B v w = 0) : PQ N es { s with up := up, lk := s.lk + 1 } B P none 0 ps xs := by
  have hlv : s.lab v ≠ 0 := fun q => by
    have := (hi.out v hv q).1
    have h2 : s.ou v = false := this
    rw [ov] at h2; cases h2
  have hfew := h.few
  simp only [List.length_cons] at hfew
  refine ⟨h.out, h.wn, h.pn, h.pw, h.cw, h.wlt, fun e' he' => h.val e' (List.mem_cons_of_mem _ he'), h.pnd, fun hg u hu y j => ?_, fun hg u hu => (by cases hu), by omega, h.many, ?_⟩
  · have hn := FoI.nothing hm hi hv ov hg h0
    rcases h.fit hg u hu y j with q | q
    · exact .inl q
    · rcases q.split hk he with ⟨rfl, rfl⟩ | ⟨rfl, rfl⟩ | q
      · exact .inl ⟨hn.1, fun o => .inr (.inr (hn.2 o))⟩
      · have ou : s.ou u = true := (h.out u (h.pw u hu).1).2 (.inl hu)
        exact .inl ⟨hlv, fun o => .inr (.inr (hn.2 ou).symm)⟩
      · exact .inr q
  · show s.lk + 1 = _
    rw [h.lk]
    simp
    omega
/-- An edge is taken up that makes a path: two trees are gone. -/
theorem PQ.takeP {P : List Nat} {e : Ed} {r u : Nat} {up : Nat → Int} (h : PQ N es s B P none 0 ps (e :: xs)) : PQ N es { s with up := up, lk := s.lk + 1, gn := upd (upd s.gn r true) u true } B P none 0 ps xs := by
  have hfew := h.few
  simp only [List.length_cons] at hfew
  refine ⟨h.out, h.wn, h.pn, h.pw, h.cw, h.wlt, fun e' he' => h.val e' (List.mem_cons_of_mem _ he'), h.pnd, fun hg => ?_, fun hg => ?_, by omega, h.many, ?_⟩
  · have := hg u
    simp only [upd_eq] at this
    cases this
  · have := hg u
    simp only [upd_eq] at this
    cases this
  · show s.lk + 1 = _
    rw [h.lk]
    simp
    omega
/-- At the end: nothing waits, nobody is gone. -/
theorem PQ.end {P : List Nat} (h : PQ N es s B P none 0 ps []) (hl : s.wl = []) (hg : ∀ z, s.gn z = false) : (s.fo B).Done N (JV es) := fun v w hv ov j => by
  have hp : v ∈ P := by
    rcases (h.out v hv).1 ov with q | q | q
    · exact q
    · rw [hl] at q; cases q
    · cases q
  rcases h.fit hg v hp w j with ⟨a, b⟩ | ⟨e, q, -⟩
  · refine ⟨a, fun o => ?_⟩
    rcases b o with b | b | b
    · rw [hl] at b; cases b
    · cases b
    · exact b
  · cases q
/-- The phase begins. -/
theorem PQ.start (hm : MtOk N (JV es) mt) (h : NewI N mt s N) : PQ N es s (fun z => z) [] none 0 [] [] ∧ FoI N (JV es) mt (s.fo fun z => z) ∧ Ub N s.up s.ba (fun z => z) (fun z => z) (fun z => z) (fun _ => 0) := by
  obtain ⟨h1, h2, h3⟩ := SQ.start hm h
  refine ⟨⟨h1.out, h1.wn, h1.pn, h1.pw, h1.cw, h1.wlt, fun e he => (by cases he), fun p hp => (by cases hp), fun _ v hv => (by cases hv), fun _ v hv => (by cases hv), Nat.le_refl _, Nat.zero_le _, ?_⟩, h2, h3⟩
  rw [h1.lk]
  simp
end
end

end Go.Proofs.YtbnipgajhpbolaaGreatDoor
