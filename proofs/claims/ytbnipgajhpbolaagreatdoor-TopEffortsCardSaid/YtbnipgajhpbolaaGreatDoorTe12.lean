/- A list of numbers of one's own that is written; Queues of numbers of one's own -/
import Derived.Test.YtbnipgajhpbolaaGreatDoorTe11
import Derived.Test.YtbnipgajhpbolaaGreatDoorTe08
import Derived.Test.YtbnipgajhpbolaaGreatDoorTe07
set_option linter.unusedVariables false
set_option linter.unusedSimpArgs false
namespace Go.Proofs.YtbnipgajhpbolaaGreatDoor

section
open Go.RowKit
theorem own_slice {w : World} {base : Nat} {v : Value} {xs : List Int} (h : OwnI w base v xs) (hn : 0 < xs.length) : ∃ g c, v = .slice (some ⟨g, 0, none⟩) xs.length c ∧ base ≤ g ∧ g < w.heap.size ∧ xs.length ≤ c := by
  rcases h.2 with ⟨rfl, h0⟩ | ⟨g, cap, cur, rfl, hb, hg, hle, r⟩
  · omega
  · exact ⟨g, cap, rfl, hb, blk_lt hg, hle⟩
section
variable {w : World} {base g n c : Nat} {ms : List Int}
theorem OwnI.len {v : Value} (h : OwnI w base v ms) {A : Option Addr} (e : v = .slice A n c) : n = ms.length := by
  obtain ⟨A', c', e', -⟩ := OwnI.read h
  rw [e] at e'
  injection e' with e1 e2 e3
theorem OwnI.cellAt (h : OwnI w base (.slice (some ⟨g, 0, none⟩) n c) ms) {j : Nat} (hj : j < n) : w.cell? ⟨g, j, none⟩ = some (.int .i64 (gi ms j)) := by
  obtain rfl := h.len rfl
  unfold OwnI at h
  rw [World.ownsRow.cellAt h j (by omega)]
  simp [nums, gi, List.getD_eq_getElem?_getD, hj]
theorem OwnI.frozAt (h : OwnI w base (.slice (some ⟨g, 0, none⟩) n c) ms) (j : Nat) : w.frozen? ⟨g, j, none⟩ = false := by
  obtain rfl := h.len rfl
  unfold OwnI at h
  exact World.ownsRow.frozenAt h j
theorem OwnI.put1 (h : OwnI w base (.slice (some ⟨g, 0, none⟩) n c) ms) (j : Nat) (x : Int) : OwnI (w.setCell ⟨g, j, none⟩ (.int .i64 x)) base (.slice (some ⟨g, 0, none⟩) n c) (ms.set j x) := by
  obtain rfl := h.len rfl
  unfold OwnI at *
  have := (World.ownsRow.stored h j (.int .i64 x)).1
  rw [show nums (ms.set j x) = (nums ms).set j (.int .i64 x) from by simp [nums, List.map_set], List.length_set]
  exact this
theorem OwnI.lt (h : OwnI w base (.slice (some ⟨g, 0, none⟩) n c) ms) : base ≤ g ∧ g < w.heap.size := ⟨row_base h g rfl, row_lt h g rfl⟩
theorem OwnI.later {w1 : World} {v : Value} (h : OwnI w base v ms) (hb : Below w.heap.size w w1) : OwnI w1 base v ms := own_later h hb
end
/-- Two cells of one row are stored: the rest is as it was. -/
theorem grown_set2 (w : World) (g i j : Nat) (x y : Value) : w.grownBy ((w.setCell ⟨g, i, none⟩ x).setCell ⟨g, j, none⟩ y) (some g) := (grown_set w g i x).trans (grown_set _ g j y)
theorem Rows.grown {W W1 : World} {G base N g : Nat} {vs : Nat → Value} {L : Nat → List Int} (r : Rows W G base N vs L) (h : W.grownBy W1 (some g)) (hg : g < G) (hG : G ≤ base) : Rows W1 G base N vs L :=
  ⟨r.row.grown h (by intro e; injection e with e; omega), fun i hi => own_grown (r.own i hi) h fun k hk e => by injection e with e; have := row_base (r.own i hi) k hk; omega, r.apart, r.off⟩
/-- Row i of a row of rows: its slice, and what lies there. -/
theorem Rows.at {W : World} {G base N : Nat} {vs : Nat → Value} {L : Nat → List Int} (r : Rows W G base N vs L) {i : Nat} (hi : i < N) : ∃ A c, W.cell? ⟨G, i, none⟩ = some (.slice A (L i).length c) ∧ ReadI W A (L i).length (L i) := by
  obtain ⟨A, c, e, -, -, hr⟩ := OwnI.read (r.own i hi)
  exact ⟨A, c, by rw [r.row.cell hi, e], hr⟩
end

section
open Go.RowKit
/- A queue of numbers of one's own, which may begin in the midst of its block. -/
def QI (w : World) (base : Nat) (v : Value) (q : List Int) : Prop :=
  (v = .slice none 0 0 ∧ q = []) ∨ ∃ g off cap cur, v = .slice (some ⟨g, off, none⟩) q.length cap ∧ base ≤ g ∧ w.heap[g]? = some (.cells cur 3 (0, 0)) ∧ off + cap ≤ cur.size ∧ q.length ≤ cap ∧ cap ≤ maxLen ∧ ∀ j, j < q.length → cur[off + j]? = some (.int .i64 (gi q j))
section
variable {w w1 : World} {base : Nat} {v : Value} {q : List Int}
theorem QI.nil (w : World) (base : Nat) : QI w base (.slice none 0 0) [] := .inl ⟨rfl, rfl⟩
theorem QI.ofOwn (h : OwnI w base v q) : QI w base v q := by
  rcases h.2 with ⟨rfl, h0⟩ | ⟨g, cap, cur, rfl, hb, hg, hle, hm, hs, ht⟩
  · exact .inl ⟨rfl, List.eq_nil_of_length_eq_zero h0⟩
  · refine .inr ⟨g, 0, cap, cur, rfl, hb, hg, by omega, hle, hm, fun j hj => ?_⟩
    have h1 := OwnI.cellAt h (j := j) hj
    rw [cell_blk hg] at h1
    rw [Nat.zero_add]
    exact h1
theorem QI.lt (h : QI w base v q) : ∀ k, v.ownBlock = some k → base ≤ k ∧ k < w.heap.size := by
  intro k hk
  rcases h with ⟨rfl, -⟩ | ⟨g, off, cap, cur, rfl, hb, hg, -⟩
  · cases hk
  · injection hk with hk
    subst hk
    exact ⟨hb, blk_lt hg⟩
theorem QI.grown {row : Option Nat} (h : QI w base v q) (g : w.grownBy w1 row) (hr : ∀ k, v.ownBlock = some k → some k ≠ row) : QI w1 base v q := by
  rcases h with h | ⟨k, off, cap, cur, rfl, hb, hg, r⟩
  · exact .inl h
  · exact .inr ⟨k, off, cap, cur, rfl, hb, (g.block k (blk_lt hg) (hr k rfl)).trans hg, r⟩
theorem QI.later (h : QI w base v q) (b : Below w.heap.size w w1) : QI w1 base v q := by
  rcases h with h | ⟨k, off, cap, cur, rfl, hb, hg, r⟩
  · exact .inl h
  · exact .inr ⟨k, off, cap, cur, rfl, hb, blk_later hg b, r⟩
theorem QI.shape (h : QI w base v q) : ∃ A c, v = .slice A q.length c := by
  rcases h with ⟨rfl, rfl⟩ | ⟨k, off, cap, cur, rfl, -⟩
  · exact ⟨none, 0, rfl⟩
  · exact ⟨_, _, rfl⟩
/-- The first of a queue, and the rest of it. -/
theorem QI.pop {x : Int} {q' : List Int} (h : QI w base v (x :: q')) :
    ∃ g off cap v1, v = .slice (some ⟨g, off, none⟩) (q'.length + 1) cap ∧ w.cell? ⟨g, off, none⟩ = some (.int .i64 x) ∧
      (∀ W : World, (Instr.slice 22 (.slice (some ⟨g, off, none⟩) (q'.length + 1) cap) (some (.int .i64 1)) none none).run Tryz.prog W = .ok v1 W) ∧ QI w base v1 q' ∧ v1.ownBlock = some g ∧ ∃ A c, v1 = .slice A q'.length c := by
  rcases h with ⟨-, h0⟩ | ⟨g, off, cap, cur, rfl, hb, hg, hs, hle, hm, hc⟩
  · cases h0
  · have h0 := hc 0 (by simp)
    simp only [List.length_cons] at hle hc ⊢
    obtain ⟨ad, hrun, had⟩ := cut_from g off (q'.length + 1) cap 1 1 rfl (by omega) hle
    have hcell : w.cell? ⟨g, off, none⟩ = some (.int .i64 x) := by
      rw [cell_blk hg, ← Nat.add_zero off, h0]
      rfl
    have hq1 : q'.length + 1 - 1 = q'.length := by omega
    rw [hq1] at hrun
    by_cases hn : 1 < q'.length + 1
    · have e := had hn
      injection e with e
      subst e
      refine ⟨g, off, cap, _, rfl, hcell, hrun, .inr ⟨g, off + 1, cap - 1, cur, rfl, hb, hg, by omega, by omega, by omega, fun j hj => ?_⟩, rfl, _, _, rfl⟩
      have := hc (j + 1) (by omega)
      rw [show off + 1 + j = off + (j + 1) from by omega, this]
      congr 2
    · have hq0 : q' = [] := List.eq_nil_of_length_eq_zero (by omega)
      subst hq0
      have hb2 : ∃ o2, ad = ⟨g, o2, none⟩ ∧ o2 + (cap - 1) ≤ cur.size := by
        have h2 := hrun w
        have hel : Tryz.prog.elem 22 = 3 := by simp [Program.elem, Tryz.underlying22]
        have hu : Tryz.prog.underlying 22 = some (.slice (Tryz.prog.elem 22)) := by rw [hel]; exact Tryz.underlying22
        obtain ⟨i0, hi, hz0, hz1, hz2⟩ := info_parts infoInt
        rw [run_slice_l w 22 (some ⟨g, off, none⟩) _ cap hu .i64 1 (by omega) (by simp), hel] at h2
        simp [sizeOf, typeInfo, hi, hz1, sliced, Result.andThen] at h2
        by_cases hc1 : cap = 1
        · rw [if_pos hc1] at h2
          exact ⟨off, (Option.some.inj h2).symm, by omega⟩
        · rw [if_neg hc1] at h2
          refine ⟨off + 1, ?_, by omega⟩
          rw [← Option.some.inj h2]
          unfold Addr.add
          simp
      obtain ⟨o2, e2, e3⟩ := hb2
      subst e2
      exact ⟨g, off, cap, _, rfl, hcell, hrun, .inr ⟨g, o2, cap - 1, cur, rfl, hb, hg, e3, by simp, by omega, fun j hj => by simp at hj⟩, rfl, _, _, rfl⟩

/-- One more at the queue's end. -/
theorem run_appQ (ty : TypeId) (h : QI w base v q) (hbase : base ≤ w.heap.size) (ad : Addr) (c : Nat) (y : Int) (hr : ReadI w (some ad) 1 [y]) (hl : q.length ≤ 1000000) :
    ∃ v1 w1, (Builtin.append_ #[22, 22] ty #[v, .slice (some ad) 1 c]).run Tryz.prog w = .ok v1 w1 ∧ QI w1 base v1 (q ++ [y]) ∧ w.grownBy w1 v.ownBlock ∧ (v1.ownBlock = v.ownBlock ∨ ∃ b, v1.ownBlock = some b ∧ w.heap.size ≤ b) := by
  obtain ⟨i0, hi, hz0, hz1, hz2⟩ := info_parts infoInt
  rcases h with ⟨rfl, rfl⟩ | ⟨g, off, cap, cur, rfl, hb, hg, hs, hle, hm, hc⟩
  · obtain ⟨v1, w1, h1, h2, h3, h4⟩ := run_appI w ty base (.slice none 0 0) [] [y] (ownI_empty _ _) hbase (some ad) 1 c hr (by simp)
    refine ⟨v1, w1, h1, QI.ofOwn h2, h3, ?_⟩
    rcases h4 with h4 | h4
    · exact .inl h4
    · exact .inr ⟨_, h4, Nat.le_refl _⟩
  · have hnews := hr.news
    have hn1 : (nums [y]).length = 1 * i0.size := by rw [hz1]; rfl
    by_cases hroom : q.length + 1 ≤ cap
    · have hrun := run_append_room_cells (P := Tryz.prog) w 22 ty 3 i0 Tryz.underlying22 hi g off q.length cap ad 1 c (nums [y]) hn1 hnews (by simp [nums, Value.oneCell']) hroom
        (fun j hj => by
          have hj0 : j = 0 := by simp [nums] at hj; exact hj
          subst hj0
          rw [cell_blk hg, hz1]
          have : off + q.length < cur.size := by omega
          simp [this])
        (fun j hj => frozen_blk hg _)
      rw [hz1] at hrun
      simp only [nums, List.map_cons, List.map_nil, World.setCells, Nat.mul_one] at hrun
      refine ⟨_, _, hrun, .inr ⟨g, off, cap, cur.setIfInBounds (off + q.length) (.int .i64 y), ?_, hb, ?_, ?_, ?_, hm, fun j hj => ?_⟩, grown_set _ _ _ _, .inl rfl⟩
      · simp
      · exact heap_setCell_same w g (off + q.length) cur 3 (.int .i64 y) hg
      · simpa using hs
      · simpa using hroom
      · simp only [List.length_append, List.length_singleton] at hj
        rw [gi_app]
        by_cases e : j = q.length
        · subst e
          rw [if_neg (by omega), Nat.sub_self]
          rw [Array.getElem?_setIfInBounds_self_of_lt (by omega)]
          rfl
        · rw [if_pos (by omega), Array.getElem?_setIfInBounds_ne (by omega)]
          exact hc j (by omega)
    · obtain ⟨v1, w1, h1, h2, h3⟩ := run_append_arg_grows (P := Tryz.prog) w 22 ty 3 i0 (.int .i64 0) 1 8 Tryz.underlying22 hi hz0 hz1 hz2 rfl (by decide) ⟨g, off, none⟩ q.length cap (nums q) (by simp [nums])
        (fun j u hu => by
          have hj : j < q.length := by
            have := (List.getElem?_eq_some_iff.1 hu).1
            simpa [nums] using this
          rw [show (⟨g, off, none⟩ : Addr).add j = ⟨g, off + j, none⟩ from addr_add _ _ _, cell_blk hg, hc j hj, ← hu]
          simp [nums, gi, List.getD_eq_getElem?_getD, hj])
        ad 1 c (nums [y]) rfl hnews (by omega) (by simp only [maxLen]; omega) (by omega)
      have ho : OwnI w1 w.heap.size v1 (q ++ [y]) := by
        unfold OwnI nums
        simpa [nums] using h2
      refine ⟨v1, w1, h1, QI.ofOwn (row_weaken ho hbase), ⟨h3.os, h3.tape, h3.output, h3.size, fun k hk _ => h3.block k hk (by simp)⟩, .inr ?_⟩
      obtain ⟨g', c', e', hb', -, -⟩ := own_slice ho (by simp)
      exact ⟨g', by rw [e']; rfl, hb'⟩
end
/-- append(v, y) to a queue, in a plain region, behind 'at_builtin'. -/
theorem list_appQ {ops : Array Oper} {rest : List Oper} {o : Oper} {a : Act} {w : World} {Q : Exit → Act → World → Prop} (base : Nat) (hgd : o.guard = none) (s x : Operand)
    (ho : o.op = .call { callee := .builtin .append, args := #[s, x], argTypes := #[22, 22] }) (v : Value) (q : List Int) (y : Int) (hs : a.eval s = v) (HO : QI w base v q) (hbase : base ≤ w.heap.size)
    (ad : Addr) (c : Nat) (hx : a.eval x = .slice (some ad) 1 c) (hr : ReadI w (some ad) 1 [y]) (hl : q.length ≤ 1000000)
    (h : ∀ v1 w1, QI w1 base v1 (q ++ [y]) → w.grownBy w1 v.ownBlock → (v1.ownBlock = v.ownBlock ∨ ∃ b, v1.ownBlock = some b ∧ w.heap.size ≤ b) → wpList Tryz.prog ops Q rest (a.put o.dst v1) w1) :
    wpList Tryz.prog ops Q (o :: rest) a w := by
  refine wpList_plain hgd fun K hK => ?_
  obtain ⟨v', w', hrun, h2, h3, h5⟩ := run_appQ o.type HO hbase ad c y hr hl
  unfold Oper.wp execOp
  simp only [ho, resolve, invoke, builtin, Sem.run_bind, Sem.run_pure, Result.andThen_ok, List.map_toArray, List.map_cons, List.map_nil, hs, hx, hrun]
  exact hK _ _ (h v' w' h2 h3 h5)
end

end Go.Proofs.YtbnipgajhpbolaaGreatDoor
