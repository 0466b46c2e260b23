/- The lay of sides: its walks. -/
import Derived.Test.YtnldfjoadmehcaaSdPure
import Derived.Test.YtnldfjoadmehcaaNear
import Derived.Test.YtnldfjoadmehcaaMateRow
import Derived.Deep.LoopGhost
import Derived.ArgAppend
import Derived.Test.YtnldfjoadmehcaaRowRows
import Derived.RegionTactic
import Derived.Deep.RegionHeld3
import Derived.Test.YtnldfjoadmehcaaLists
import Derived.Test.YtnldfjoadmehcaaPMates
set_option linter.unusedVariables false
set_option linter.unusedSimpArgs false
namespace Go.Proofs.Ytnldfjoadmehcaa
open Go.RowKit

/- The walk of sides.lay.up. -/
theorem Up.lt {N : Nat} {es : List Ed} {sd fr l : List Int} {x : Nat} (hr : Rise N es) (h : Up es sd fr x l) (hx : x < N) : ∀ i, i < l.length → gi l i < N := by
  induction h with
  | root _ _ =>
    intro i hi
    have : i = 0 := by simpa using hi
    subst this
    show ((_ : Nat) : Int) < (N : Int)
    omega
  | @step x p l h0 h1 h2 h3 ih =>
    intro i hi
    rw [List.length_cons] at hi
    cases i with
    | zero => show (x : Int) < (N : Int); omega
    | succ i => rw [gi_cons]; exact ih (h2.lt hr).1 i (by omega)
/-- What stands at place k on the way up; behind the root -1. -/
def upV (l : List Int) (k : Nat) : Int := if k < l.length then gi l k else -1
theorem Up.fr {es : List Ed} {sd fr l : List Int} {x : Nat} (h : Up es sd fr x l) {i : Nat} (hi : i < l.length) : ∃ y : Nat, gi l i = y ∧ gi fr y = upV l (i + 1) := by
  obtain ⟨y, e, u⟩ := h.at i hi
  refine ⟨y, e, ?_⟩
  unfold upV
  generalize hd : l.drop i = d at u
  have hl := congrArg List.length hd
  rw [List.length_drop] at hl
  cases u with
  | root h1 h2 =>
    simp at hl
    rw [if_neg (by omega)]
    exact h1
  | @step _ p m h0 h1 h2 h3 =>
    have := h0.ne
    rw [List.length_cons] at hl
    rw [if_pos (by omega), h1, ← this.2, ← gi_cons (y : Int) m 0, ← hd, gi_drop]

set_option maxHeartbeats 4000000 in
set_option maxRecDepth 100000 in
theorem up_any {L F C N base u : Nat} {es : List Ed} {sd fr la : List Int} (w : World) (hr : Rise N es) (hL : w.cell? ⟨L, 2, none⟩ = some (.slice (some ⟨F, 0, none⟩) N C)) (ho : OwnI w base (.slice (some ⟨F, 0, none⟩) N C) fr) (hu : Up es sd fr u la) (hN : N ≤ 4096) (huN : u < N) (hl : la.length ≤ N) :
    Calls Try.prog 99 #[.pointer (some ⟨L, 0, none⟩), .int .i64 u] w fun e w' => ∃ v, e = .returned v ∧ OwnI w' w.heap.size v la ∧ Below w.heap.size w w' := by
  have HL := Lib.hid hL
  have HO := Lib.hid ho
  have HU : Hid (∀ k, k < la.length → ∃ y : Nat, upV la k = y ∧ y < N ∧ gi la k = y ∧ gi fr y = upV la (k + 1)) := fun k hk => by
    obtain ⟨y, e, f⟩ := hu.fr hk
    have := hu.lt hr huN k hk
    refine ⟨y, ?_, by omega, e, f⟩
    unfold upV
    rw [if_pos hk]
    exact e
  have HV0 : Hid (upV la 0 = u) := by
    unfold Hid upV
    rw [if_pos hu.ne.1]
    exact hu.ne.2
  have HO0 : Hid (OwnI w w.heap.size (.slice none 0 0) (la.take 0)) := by rw [List.take_zero]; exact ownI_empty _ _
  have HR0 : Hid (RW w w) := RW.refl w
  have HLE := Lib.hid hl
  have HN := Lib.hid hN
  clear hL ho hu hr hl
  go_enter Try.func99, Try.ntmps99
  go_wp2_with fail
  go_loopg [1, 5] (la.length) (fun m v o wr => ∃ k : Nat, k ≤ la.length ∧ v = .int .i64 (upV la k) ∧ Hid (m = la.length - k) ∧ Hid (OwnI wr w.heap.size o (la.take k)) ∧ Hid (RW w wr))
  case atStart => exact ⟨0, Nat.zero_le _, by rw [HV0.out], rfl, HO0, HR0⟩
  case round =>
    obtain ⟨k, hk, rfl, hm, hown, hrw⟩ := hrel
    by_cases hlt : k < la.length
    · obtain ⟨y, e1, hy, e2, e3⟩ := HU.out k hlt
      have HLT := Lib.hid hlt
      have HSZ := Lib.hid (Below.size hrw.out)
      have HL1 : Hid ((la.take k).length ≤ 1000000000) := by
        have := HLE.out
        have := HN.out
        rw [List.length_take] at *
        unfold Hid
        omega
      have HT : Hid (la.take k ++ [(y : Int)] = la.take (k + 1)) := by
        unfold Hid
        rw [← e2, gi_at hlt, List.take_append_getElem]
      have HE3 := Lib.hid e3
      have hyi : (0 : Int) ≤ (y : Int) ∧ (y : Int) < (N : Int) := by omega
      have hyd : ((y : Int) == -1) = false := by rw [beq_eq_false_iff_ne]; omega
      rw [e1]
      clear e1 e2 e3 hk hlt
      go_wp2_with (at_builtin; refine app_int (w0 := wr) (W := wr) w.heap.size rfl _ _ rfl u5 (la.take k) (y : Int) rfl rfl hown.out (Below.refl _ _) HSZ.out HL1.out ?_; intro v1 w8 o1 b1 g1 h1; have HR8 : Hid (RW w w8) := Below.trans hrw.out b1; have z1 := cell_later HR8.out HL.out; have z2 := OwnI.cellAt (HO.out.later HR8.out) (j := y) hy; rw [HE3.out] at z2; have HO8 : Hid (OwnI w8 w.heap.size v1 (la.take (k + 1))) := by rw [← HT.out]; exact o1)
      go_roundg (la.length - (k + 1))
      case rel => exact ⟨k + 1, by have := HLT.out; omega, rfl, rfl, HO8, HR8⟩
      case measure => have h1 := hm.out; have := HLT.out; omega
    · obtain rfl : k = la.length := by omega
      have HE : Hid (OwnI wr w.heap.size u5 la) := by
        have := hown.out
        rw [List.take_length] at this
        exact this
      rw [show upV la la.length = -1 from by unfold upV; rw [if_neg (by omega)]]
      clear hlt hk hown
      go_wp2_with fail
      go_ret
      exact ⟨_, rfl, HE.out, hrw.out⟩

/- A queue of numbers of one's own, which may begin in the midst of its block. -/
def QI (w : World) (base : Nat) (v : Value) (q : List Int) : Prop :=
  (v = .slice none 0 0 ∧ q = []) ∨ ∃ g off cap cur, v = .slice (some ⟨g, off, none⟩) q.length cap ∧ base ≤ g ∧ w.heap[g]? = some (.cells cur 3 (0, 0)) ∧ off + cap ≤ cur.size ∧ q.length ≤ cap ∧ cap ≤ maxLen ∧ ∀ j, j < q.length → cur[off + j]? = some (.int .i64 (gi q j))
section
variable {w w1 : World} {base : Nat} {v : Value} {q : List Int}
theorem QI.nil (w : World) (base : Nat) : QI w base (.slice none 0 0) [] := .inl ⟨rfl, rfl⟩
theorem QI.ofOwn (h : OwnI w base v q) : QI w base v q := by
  rcases h.2 with ⟨rfl, h0⟩ | ⟨g, cap, cur, rfl, hb, hg, hle, hm, hs, ht⟩
  · exact .inl ⟨rfl, List.eq_nil_of_length_eq_zero h0⟩
  · refine .inr ⟨g, 0, cap, cur, rfl, hb, hg, by omega, hle, hm, fun j hj => ?_⟩
    have h1 := OwnI.cellAt h (j := j) hj
    rw [cell_blk hg] at h1
    rw [Nat.zero_add]
    exact h1
theorem QI.lt (h : QI w base v q) : ∀ k, v.ownBlock = some k → base ≤ k ∧ k < w.heap.size := by
  intro k hk
  rcases h with ⟨rfl, -⟩ | ⟨g, off, cap, cur, rfl, hb, hg, -⟩
  · cases hk
  · injection hk with hk
    subst hk
    exact ⟨hb, blk_lt hg⟩
theorem QI.grown {row : Option Nat} (h : QI w base v q) (g : w.grownBy w1 row) (hr : ∀ k, v.ownBlock = some k → some k ≠ row) : QI w1 base v q := by
  rcases h with h | ⟨k, off, cap, cur, rfl, hb, hg, r⟩
  · exact .inl h
  · exact .inr ⟨k, off, cap, cur, rfl, hb, (g.block k (blk_lt hg) (hr k rfl)).trans hg, r⟩
theorem QI.later (h : QI w base v q) (b : Below w.heap.size w w1) : QI w1 base v q := by
  rcases h with h | ⟨k, off, cap, cur, rfl, hb, hg, r⟩
  · exact .inl h
  · exact .inr ⟨k, off, cap, cur, rfl, hb, blk_later hg b, r⟩
theorem QI.shape (h : QI w base v q) : ∃ A c, v = .slice A q.length c := by
  rcases h with ⟨rfl, rfl⟩ | ⟨k, off, cap, cur, rfl, -⟩
  · exact ⟨none, 0, rfl⟩
  · exact ⟨_, _, rfl⟩
/-- The first of a queue, and the rest of it. -/
theorem QI.pop {x : Int} {q' : List Int} (h : QI w base v (x :: q')) :
    ∃ g off cap v1, v = .slice (some ⟨g, off, none⟩) (q'.length + 1) cap ∧ w.cell? ⟨g, off, none⟩ = some (.int .i64 x) ∧
      (∀ W : World, (Instr.slice 22 (.slice (some ⟨g, off, none⟩) (q'.length + 1) cap) (some (.int .i64 1)) none none).run Try.prog W = .ok v1 W) ∧ QI w base v1 q' ∧ v1.ownBlock = some g ∧ ∃ A c, v1 = .slice A q'.length c := by
  rcases h with ⟨-, h0⟩ | ⟨g, off, cap, cur, rfl, hb, hg, hs, hle, hm, hc⟩
  · cases h0
  · have h0 := hc 0 (by simp)
    simp only [List.length_cons] at hle hc ⊢
    obtain ⟨ad, hrun, had⟩ := cut_from g off (q'.length + 1) cap 1 1 rfl (by omega) hle
    have hcell : w.cell? ⟨g, off, none⟩ = some (.int .i64 x) := by
      rw [cell_blk hg, ← Nat.add_zero off, h0]
      rfl
    have hq1 : q'.length + 1 - 1 = q'.length := by omega
    rw [hq1] at hrun
    by_cases hn : 1 < q'.length + 1
    · have e := had hn
      injection e with e
      subst e
      refine ⟨g, off, cap, _, rfl, hcell, hrun, .inr ⟨g, off + 1, cap - 1, cur, rfl, hb, hg, by omega, by omega, by omega, fun j hj => ?_⟩, rfl, _, _, rfl⟩
      have := hc (j + 1) (by omega)
      rw [show off + 1 + j = off + (j + 1) from by omega, this]
      congr 2
    · have hq0 : q' = [] := List.eq_nil_of_length_eq_zero (by omega)
      subst hq0
      have hb2 : ∃ o2, ad = ⟨g, o2, none⟩ ∧ o2 + (cap - 1) ≤ cur.size := by
        have h2 := hrun w
        have hel : Try.prog.elem 22 = 3 := by simp [Program.elem, Try.underlying22]
        have hu : Try.prog.underlying 22 = some (.slice (Try.prog.elem 22)) := by rw [hel]; exact Try.underlying22
        obtain ⟨i0, hi, hz0, hz1, hz2⟩ := info_parts infoInt
        rw [run_slice_l w 22 (some ⟨g, off, none⟩) _ cap hu .i64 1 (by omega) (by simp), hel] at h2
        simp [sizeOf, typeInfo, hi, hz1, sliced, Result.andThen] at h2
        by_cases hc1 : cap = 1
        · rw [if_pos hc1] at h2
          exact ⟨off, (Option.some.inj h2).symm, by omega⟩
        · rw [if_neg hc1] at h2
          refine ⟨off + 1, ?_, by omega⟩
          rw [← Option.some.inj h2]
          unfold Addr.add
          simp
      obtain ⟨o2, e2, e3⟩ := hb2
      subst e2
      exact ⟨g, off, cap, _, rfl, hcell, hrun, .inr ⟨g, o2, cap - 1, cur, rfl, hb, hg, e3, by simp, by omega, fun j hj => by simp at hj⟩, rfl, _, _, rfl⟩

/-- One more at the queue's end. -/
theorem run_appQ (ty : TypeId) (h : QI w base v q) (hbase : base ≤ w.heap.size) (ad : Addr) (c : Nat) (y : Int) (hr : ReadI w (some ad) 1 [y]) (hl : q.length ≤ 1000000) :
    ∃ v1 w1, (Builtin.append_ #[22, 22] ty #[v, .slice (some ad) 1 c]).run Try.prog w = .ok v1 w1 ∧ QI w1 base v1 (q ++ [y]) ∧ w.grownBy w1 v.ownBlock ∧ (v1.ownBlock = v.ownBlock ∨ ∃ b, v1.ownBlock = some b ∧ w.heap.size ≤ b) := by
  obtain ⟨i0, hi, hz0, hz1, hz2⟩ := info_parts infoInt
  rcases h with ⟨rfl, rfl⟩ | ⟨g, off, cap, cur, rfl, hb, hg, hs, hle, hm, hc⟩
  · obtain ⟨v1, w1, h1, h2, h3, h4⟩ := run_appI w ty base (.slice none 0 0) [] [y] (ownI_empty _ _) hbase (some ad) 1 c hr (by simp)
    refine ⟨v1, w1, h1, QI.ofOwn h2, h3, ?_⟩
    rcases h4 with h4 | h4
    · exact .inl h4
    · exact .inr ⟨_, h4, Nat.le_refl _⟩
  · have hnews := hr.news
    have hn1 : (nums [y]).length = 1 * i0.size := by rw [hz1]; rfl
    by_cases hroom : q.length + 1 ≤ cap
    · have hrun := run_append_room_cells (P := Try.prog) w 22 ty 3 i0 Try.underlying22 hi g off q.length cap ad 1 c (nums [y]) hn1 hnews (by simp [nums, Value.oneCell']) hroom
        (fun j hj => by
          have hj0 : j = 0 := by simp [nums] at hj; exact hj
          subst hj0
          rw [cell_blk hg, hz1]
          have : off + q.length < cur.size := by omega
          simp [this])
        (fun j hj => frozen_blk hg _)
      rw [hz1] at hrun
      simp only [nums, List.map_cons, List.map_nil, World.setCells, Nat.mul_one] at hrun
      refine ⟨_, _, hrun, .inr ⟨g, off, cap, cur.setIfInBounds (off + q.length) (.int .i64 y), ?_, hb, ?_, ?_, ?_, hm, fun j hj => ?_⟩, grown_set _ _ _ _, .inl rfl⟩
      · simp
      · exact heap_setCell_same w g (off + q.length) cur 3 (.int .i64 y) hg
      · simpa using hs
      · simpa using hroom
      · simp only [List.length_append, List.length_singleton] at hj
        rw [gi_app]
        by_cases e : j = q.length
        · subst e
          rw [if_neg (by omega), Nat.sub_self]
          rw [Array.getElem?_setIfInBounds_self_of_lt (by omega)]
          rfl
        · rw [if_pos (by omega), Array.getElem?_setIfInBounds_ne (by omega)]
          exact hc j (by omega)
    · obtain ⟨v1, w1, h1, h2, h3⟩ := run_append_arg_grows (P := Try.prog) w 22 ty 3 i0 (.int .i64 0) 1 8 Try.underlying22 hi hz0 hz1 hz2 rfl (by decide) ⟨g, off, none⟩ q.length cap (nums q) (by simp [nums])
        (fun j u hu => by
          have hj : j < q.length := by
            have := (List.getElem?_eq_some_iff.1 hu).1
            simpa [nums] using this
          rw [show (⟨g, off, none⟩ : Addr).add j = ⟨g, off + j, none⟩ from addr_add _ _ _, cell_blk hg, hc j hj, ← hu]
          simp [nums, gi, List.getD_eq_getElem?_getD, hj])
        ad 1 c (nums [y]) rfl hnews (by omega) (by simp only [maxLen]; omega) (by omega)
      have ho : OwnI w1 w.heap.size v1 (q ++ [y]) := by
        unfold OwnI nums
        simpa [nums] using h2
      refine ⟨v1, w1, h1, QI.ofOwn (row_weaken ho hbase), ⟨h3.os, h3.tape, h3.output, h3.size, fun k hk _ => h3.block k hk (by simp)⟩, .inr ?_⟩
      obtain ⟨g', c', e', hb', -, -⟩ := own_slice ho (by simp)
      exact ⟨g', by rw [e']; rfl, hb'⟩
end
/-- append(v, y) to a queue, in a plain region, behind 'at_builtin'. -/
theorem list_appQ {ops : Array Oper} {rest : List Oper} {o : Oper} {a : Act} {w : World} {Q : Exit → Act → World → Prop} (base : Nat) (hgd : o.guard = none) (s x : Operand)
    (ho : o.op = .call { callee := .builtin .append, args := #[s, x], argTypes := #[22, 22] }) (v : Value) (q : List Int) (y : Int) (hs : a.eval s = v) (HO : QI w base v q) (hbase : base ≤ w.heap.size)
    (ad : Addr) (c : Nat) (hx : a.eval x = .slice (some ad) 1 c) (hr : ReadI w (some ad) 1 [y]) (hl : q.length ≤ 1000000)
    (h : ∀ v1 w1, QI w1 base v1 (q ++ [y]) → w.grownBy w1 v.ownBlock → (v1.ownBlock = v.ownBlock ∨ ∃ b, v1.ownBlock = some b ∧ w.heap.size ≤ b) → wpList Try.prog ops Q rest (a.put o.dst v1) w1) :
    wpList Try.prog ops Q (o :: rest) a w := by
  refine wpList_plain hgd fun K hK => ?_
  obtain ⟨v', w', hrun, h2, h3, h5⟩ := run_appQ o.type HO hbase ad c y hr hl
  unfold Oper.wp execOp
  simp only [ho, resolve, invoke, builtin, Sem.run_bind, Sem.run_pure, Result.andThen_ok, List.map_toArray, List.map_cons, List.map_nil, hs, hx, hrun]
  exact hK _ _ (h v' w' h2 h3 h5)

/- The block of sides.lay, and the walk of its put. -/
/-- The lay's block L, its rows and its queue, all of them later than w1; the blocks of K stand as in wh. -/
structure LayW (K : Nat → Prop) (wh w1 W : World) (L : Nat) (vn vS vF v : Value) (sd fr q : List Int) : Prop where
  below : Below w1.heap.size w1 W
  c0 : W.cell? ⟨L, 0, none⟩ = some vn
  c1 : W.cell? ⟨L, 1, none⟩ = some vS
  c2 : W.cell? ⟨L, 2, none⟩ = some vF
  c3 : W.cell? ⟨L, 3, none⟩ = some v
  fz : W.frozen? ⟨L, 3, none⟩ = false
  ownS : OwnI W w1.heap.size vS sd
  ownF : OwnI W w1.heap.size vF fr
  que : QI W w1.heap.size v q
  lo : w1.heap.size ≤ L ∧ L < W.heap.size
  ap1 : ∀ k, vS.ownBlock = some k → vF.ownBlock ≠ some k ∧ v.ownBlock ≠ some k ∧ k ≠ L
  ap2 : ∀ k, vF.ownBlock = some k → v.ownBlock ≠ some k ∧ k ≠ L
  ap3 : v.ownBlock ≠ some L
  keep : ∀ k, K k → k < W.heap.size ∧ vS.ownBlock ≠ some k ∧ vF.ownBlock ≠ some k ∧ v.ownBlock ≠ some k ∧ k ≠ L ∧ W.heap[k]? = wh.heap[k]?
section
variable {K : Nat → Prop} {wh w1 W W' : World} {L : Nat} {vn vS vF v : Value} {sd fr q : List Int}
theorem LayW.kept {row : Option Nat} (h : LayW K wh w1 W L vn vS vF v sd fr q) (g : W.grownBy W' row) (hr : ∀ k, row = some k → w1.heap.size ≤ k) (n1 : ∀ k, vS.ownBlock = some k → some k ≠ row) (n2 : ∀ k, vF.ownBlock = some k → some k ≠ row) (n3 : some L ≠ row) (n4 : ∀ k, K k → some k ≠ row) {v' : Value} {q' : List Int} (hq : QI W' w1.heap.size v' q')
    (hv : v'.ownBlock = v.ownBlock ∨ ∃ b, v'.ownBlock = some b ∧ W.heap.size ≤ b) :
    Below w1.heap.size w1 W' ∧ W'.cell? ⟨L, 0, none⟩ = some vn ∧ W'.cell? ⟨L, 1, none⟩ = some vS ∧ W'.cell? ⟨L, 2, none⟩ = some vF ∧ W'.cell? ⟨L, 3, none⟩ = some v ∧ W'.frozen? ⟨L, 3, none⟩ = false ∧ OwnI W' w1.heap.size vS sd ∧ OwnI W' w1.heap.size vF fr ∧ (w1.heap.size ≤ L ∧ L < W'.heap.size) ∧
      (∀ k, vS.ownBlock = some k → vF.ownBlock ≠ some k ∧ v'.ownBlock ≠ some k ∧ k ≠ L) ∧ (∀ k, vF.ownBlock = some k → v'.ownBlock ≠ some k ∧ k ≠ L) ∧ v'.ownBlock ≠ some L ∧ (∀ k, K k → k < W'.heap.size ∧ vS.ownBlock ≠ some k ∧ vF.ownBlock ≠ some k ∧ v'.ownBlock ≠ some k ∧ k ≠ L ∧ W'.heap[k]? = wh.heap[k]?) := by
  have hs1 := h.below.size
  refine ⟨h.below.grown g hs1 hr, g.cell h.c0 n3, g.cell h.c1 n3, g.cell h.c2 n3, g.cell h.c3 n3, (g.frozen_far _ h.lo.2 n3).trans h.fz, own_grown h.ownS g n1, own_grown h.ownF g n2, ⟨h.lo.1, Nat.lt_of_lt_of_le h.lo.2 g.size⟩, fun k hk => ?_, fun k hk => ?_, ?_, fun k hk => ?_⟩
  · obtain ⟨a, b, c⟩ := h.ap1 k hk
    refine ⟨a, ?_, c⟩
    rcases hv with e | ⟨m, e, hm⟩
    · rw [e]; exact b
    · rw [e]
      have := own_lt h.ownS hk
      intro e2
      injection e2 with e2
      omega
  · obtain ⟨b, c⟩ := h.ap2 k hk
    refine ⟨?_, c⟩
    rcases hv with e | ⟨m, e, hm⟩
    · rw [e]; exact b
    · rw [e]
      have := own_lt h.ownF hk
      intro e2
      injection e2 with e2
      omega
  · rcases hv with e | ⟨m, e, hm⟩
    · rw [e]; exact h.ap3
    · rw [e]
      have := h.lo.2
      intro e2
      injection e2 with e2
      omega
  · obtain ⟨b1, b2, b3, b4, b5, b6⟩ := h.keep k hk
    refine ⟨Nat.lt_of_lt_of_le b1 g.size, b2, b3, ?_, b5, (g.block k b1 (n4 k hk)).trans b6⟩
    rcases hv with e | ⟨m, e, hm⟩
    · rw [e]; exact b4
    · rw [e]
      intro e2
      injection e2 with e2
      omega
theorem LayW.later (h : LayW K wh w1 W L vn vS vF v sd fr q) (b : Below W.heap.size W W') : LayW K wh w1 W' L vn vS vF v sd fr q := by
  obtain ⟨a0, a1, a2, a3, a4, a5, a6, a7, a8, a9, a10, a11, a12⟩ := h.kept (row := none) (v' := v) (q' := q) (⟨b.os, b.tape, b.output, b.size, fun k hk _ => b.block k hk⟩) (fun k e => (by cases e)) (fun k _ e => (by cases e)) (fun k _ e => (by cases e)) (fun e => (by cases e)) (fun k _ e => (by cases e)) (h.que.later b) (.inl rfl)
  exact ⟨a0, a1, a2, a3, a4, a5, a6, a7, h.que.later b, a8, a9, a10, a11, a12⟩
/-- The queue is another. -/
theorem LayW.requeue {w8 : World} {v1 : Value} {q1 : List Int} (h : LayW K wh w1 W L vn vS vF v sd fr q) (g : W.grownBy w8 v.ownBlock) (hq : QI w8 w1.heap.size v1 q1) (hv : v1.ownBlock = v.ownBlock ∨ ∃ b, v1.ownBlock = some b ∧ W.heap.size ≤ b) :
    LayW K wh w1 (w8.setCell ⟨L, 3, none⟩ v1) L vn vS vF v1 sd fr q1 := by
  obtain ⟨a0, a1, a2, a3, a4, a5, a6, a7, a8, a9, a10, a11, a12⟩ := h.kept g (fun k e => (h.que.lt k e).1) (fun k hk e => (h.ap1 k hk).2.1 e.symm) (fun k hk e => (h.ap2 k hk).1 e.symm) (fun e => h.ap3 e.symm) (fun k hk e => (h.keep k hk).2.2.2.1 e.symm) hq hv
  have gs := grown_set w8 L 3 v1
  refine ⟨Below.setCell a0 a8.1 _, ?_, ?_, ?_, ?_, ?_, own_grown a6 gs fun k hk e => ?_, own_grown a7 gs fun k hk e => ?_, hq.grown gs fun k hk e => ?_, ⟨a8.1, Nat.lt_of_lt_of_le a8.2 gs.size⟩, a9, a10, a11, fun k hk => ?_⟩
  · exact (World.cell?_setCell_other _ _ _ _ (by intro e; cases e)).trans a1
  · exact (World.cell?_setCell_other _ _ _ _ (by intro e; cases e)).trans a2
  · exact (World.cell?_setCell_other _ _ _ _ (by intro e; cases e)).trans a3
  · exact World.cell?_setCell_same _ _ _ a4
  · exact (World.frozen?_setCell _ _ _ _).trans a5
  · injection e with e; exact (a9 k hk).2.2 e
  · injection e with e; exact (a10 k hk).2 e
  · injection e with e; subst e; exact a11 hk
  · obtain ⟨b1, b2, b3, b4, b5, b6⟩ := a12 k hk
    exact ⟨Nat.lt_of_lt_of_le b1 gs.size, b2, b3, b4, b5, (gs.block k b1 (fun e => by injection e with e; exact b5 e)).trans b6⟩
theorem LayW.set {N C C' S F : Nat} (h : LayW K wh w1 W L vn (.slice (some ⟨S, 0, none⟩) N C) (.slice (some ⟨F, 0, none⟩) N C') v sd fr q) (y : Nat) (a b : Int) :
    LayW K wh w1 ((W.setCell ⟨S, y, none⟩ (.int .i64 a)).setCell ⟨F, y, none⟩ (.int .i64 b)) L vn (.slice (some ⟨S, 0, none⟩) N C) (.slice (some ⟨F, 0, none⟩) N C') v (sd.set y a) (fr.set y b) q := by
  obtain ⟨p1, p2, p3⟩ := h.ap1 S rfl
  obtain ⟨p4, p5⟩ := h.ap2 F rfl
  have hSF : F ≠ S := fun e => p1 (by rw [e]; rfl)
  have g1 := grown_set W S y (.int .i64 a)
  have g2 := grown_set (W.setCell ⟨S, y, none⟩ (.int .i64 a)) F y (.int .i64 b)
  have l1 : some L ≠ some S := fun e => by injection e with e; exact p3 e.symm
  have l2 : some L ≠ some F := fun e => by injection e with e; exact p5 e.symm
  have q1 : ∀ k, v.ownBlock = some k → some k ≠ some S := fun k hk e => by injection e with e; subst e; exact p2 hk
  have q2 : ∀ k, v.ownBlock = some k → some k ≠ some F := fun k hk e => by injection e with e; subst e; exact p4 hk
  have b1 := (h.ownS.lt).1
  have b2 := (h.ownF.lt).1
  have L1 : L < (W.setCell ⟨S, y, none⟩ (.int .i64 a)).heap.size := Nat.lt_of_lt_of_le h.lo.2 g1.size
  exact ⟨Below.setCell (Below.setCell h.below b1 _) b2 _, g2.cell (g1.cell h.c0 l1) l2, g2.cell (g1.cell h.c1 l1) l2, g2.cell (g1.cell h.c2 l1) l2, g2.cell (g1.cell h.c3 l1) l2, (g2.frozen_far _ L1 l2).trans ((g1.frozen_far _ h.lo.2 l1).trans h.fz),
    own_grown (h.ownS.put1 y a) g2 (fun k hk e => by injection hk with hk; injection e with e; exact hSF (e.symm.trans hk.symm)), (own_grown h.ownF g1 (fun k hk e => by injection hk with hk; injection e with e; exact hSF (hk.trans e))).put1 y b, (h.que.grown g1 q1).grown g2 q2, ⟨h.lo.1, Nat.lt_of_lt_of_le L1 g2.size⟩, h.ap1, h.ap2, h.ap3, fun k hk => by
      obtain ⟨b1, b2, b3, b4, b5, b6⟩ := h.keep k hk
      have m1 : some k ≠ some S := fun e => b2 e.symm
      have m2 : some k ≠ some F := fun e => b3 e.symm
      have k1 := Nat.lt_of_lt_of_le b1 g1.size
      exact ⟨Nat.lt_of_lt_of_le k1 g2.size, b2, b3, b4, b5, (g2.block k k1 m2).trans ((g1.block k b1 m1).trans b6)⟩⟩
end

/-- Row i of rows whose blocks stand as they did. -/
theorem rows_keep {K : Nat → Prop} {wh W : World} {G base N : Nat} {vs : Nat → Value} {Ls : Nat → List Int} (r : Rows wh G base N vs Ls) (hK : K G) (hK2 : ∀ i, i < N → ∀ k, (vs i).ownBlock = some k → K k) (hk : ∀ k, K k → W.heap[k]? = wh.heap[k]?) {i : Nat} (hi : i < N) :
    ∃ A c, W.cell? ⟨G, i, none⟩ = some (.slice A (Ls i).length c) ∧ ReadI W A (Ls i).length (Ls i) := by
  have hc := RowF.cell r.row hi
  have ho := r.own i hi
  have ho' : OwnI W base (vs i) (Ls i) := by
    unfold OwnI at *
    refine ⟨ho.1, ?_⟩
    rcases ho.2 with ⟨e, h0⟩ | ⟨g, cap, cur, e, hb, hg, r'⟩
    · exact .inl ⟨e, h0⟩
    · exact .inr ⟨g, cap, cur, e, hb, (hk g (hK2 i hi g (by rw [e]; rfl))).trans hg, r'⟩
  obtain ⟨A, c, e, -, -, hr⟩ := OwnI.read ho'
  refine ⟨A, c, ?_, hr⟩
  rw [← e, ← hc]
  unfold World.cell?
  simp only [hk G hK]
theorem rows_keep2 {K : Nat → Prop} {wh W : World} {G base N : Nat} {vs : Nat → Value} {Ls : Nat → List Int} (r : Rows wh G base N vs Ls) (hK : K G) (hK2 : ∀ i, i < N → ∀ k, (vs i).ownBlock = some k → K k) (hk : ∀ k, K k → W.heap[k]? = wh.heap[k]?) {i : Nat} (hi : i < N) :
    W.cell? ⟨G, i, none⟩ = some (vs i) ∧ OwnI W base (vs i) (Ls i) := by
  have hc := RowF.cell r.row hi
  have ho := r.own i hi
  refine ⟨?_, ?_⟩
  · rw [← hc]
    unfold World.cell?
    simp only [hk G hK]
  · unfold OwnI at *
    refine ⟨ho.1, ?_⟩
    rcases ho.2 with ⟨e, h0⟩ | ⟨g, cap, cur, e, hb, hg, r'⟩
    · exact .inl ⟨e, h0⟩
    · exact .inr ⟨g, cap, cur, e, hb, (hk g (hK2 i hi g (by rw [e]; rfl))).trans hg, r'⟩

/- The walk of sides.lay.put. -/
set_option maxHeartbeats 2000000 in
set_option maxRecDepth 100000 in
theorem put_old {K : Nat → Prop} {wh w1 W : World} {L N C C' S F y : Nat} {a b : Int} {vn v : Value} {sd fr q : List Int} (h : LayW K wh w1 W L vn (.slice (some ⟨S, 0, none⟩) N C) (.slice (some ⟨F, 0, none⟩) N C') v sd fr q) (hy : y < N) (h0 : gi sd y ≠ -1) :
    Calls Try.prog 88 #[.pointer (some ⟨L, 0, none⟩), .int .i64 y, .int .i64 a, .int .i64 b] W fun e W' => e = .returned (.bool (gi sd y == a)) ∧ W' = W := by
  have x1 := h.c1
  have c1 := h.ownS.cellAt hy
  have hyi : (0 : Int) ≤ (y : Int) ∧ (y : Int) < (N : Int) := by omega
  have d : (gi sd y == -1) = false := by rw [beq_eq_false_iff_ne]; exact h0
  clear h h0
  generalize gi sd y = x at *
  go_enter Try.func88, Try.ntmps88
  go_wp2_with fail
  go_ret
  exact ⟨rfl, rfl⟩

set_option maxHeartbeats 4000000 in
set_option maxRecDepth 100000 in
theorem put_new {K : Nat → Prop} {wh w1 W : World} {L N C C' S F y : Nat} {a b : Int} {vn v : Value} {sd fr q : List Int} (h : LayW K wh w1 W L vn (.slice (some ⟨S, 0, none⟩) N C) (.slice (some ⟨F, 0, none⟩) N C') v sd fr q) (hy : y < N) (h0 : gi sd y = -1) (hq : q.length ≤ 1000000) :
    Calls Try.prog 88 #[.pointer (some ⟨L, 0, none⟩), .int .i64 y, .int .i64 a, .int .i64 b] W fun e W' => e = .returned (.bool true) ∧ ∃ v', LayW K wh w1 W' L vn (.slice (some ⟨S, 0, none⟩) N C) (.slice (some ⟨F, 0, none⟩) N C') v' (sd.set y a) (fr.set y b) (q ++ [(y : Int)]) := by
  have x1 := h.c1
  have x2 := h.c2
  have x3 := h.c3
  have c1 := h.ownS.cellAt hy
  have fs := h.ownS.frozAt y
  have c2 := h.ownF.cellAt hy
  have ff := h.ownF.frozAt y
  have hyi : (0 : Int) ≤ (y : Int) ∧ (y : Int) < (N : Int) := by omega
  have HQ := Lib.hid hq
  have HA := Lib.hid h.ap1
  have HB := Lib.hid h.ap2
  have HS2 := Lib.hid (h.set y a b)
  have hFS : F ≠ S := fun e => (h.ap1 S rfl).1 (by rw [e]; rfl)
  have HFS := Lib.hid hFS
  have hLF : L ≠ F := fun e => (h.ap2 F rfl).2 e.symm
  have hLS : L ≠ S := fun e => (h.ap1 S rfl).2.2 e.symm
  have c3 : (W.setCell ⟨S, y, none⟩ (.int .i64 a)).cell? ⟨F, y, none⟩ = some (.int .i64 (gi fr y)) := (grown_set W S y (.int .i64 a)).cell c2 (fun e => by injection e with e; exact hFS e)
  have f3 : (W.setCell ⟨S, y, none⟩ (.int .i64 a)).frozen? ⟨F, y, none⟩ = false := (World.frozen?_setCell _ _ _ _).trans ff
  have z1 : (W.setCell ⟨S, y, none⟩ (.int .i64 a)).cell? ⟨L, 1, none⟩ = some (.slice (some ⟨S, 0, none⟩) N C) := (grown_set W S y (.int .i64 a)).cell x1 (fun e => by injection e with e; exact hLS e)
  have z2 : (W.setCell ⟨S, y, none⟩ (.int .i64 a)).cell? ⟨L, 2, none⟩ = some (.slice (some ⟨F, 0, none⟩) N C') := (grown_set W S y (.int .i64 a)).cell x2 (fun e => by injection e with e; exact hLS e)
  have z3 := HS2.out.c1
  have z4 := HS2.out.c2
  have HX12 := Lib.hid (And.intro x1 x2)
  have HZ12 := Lib.hid (And.intro z1 z2)
  have HZ34 := Lib.hid (And.intro z3 z4)
  have HY : Hid (y < sd.length) := by rw [← h.ownS.len rfl]; exact hy
  have HYN := Lib.hid hy
  rw [h0] at c1
  clear h h0 hFS hLF hLS z1 z2 z3 z4 hq
  generalize gi fr y = x at *
  go_enter Try.func88, Try.ntmps88
  go_wp2_with fail
  go_region_held3 (fun w' => w'.cell? ⟨L, 1, none⟩ = some (.slice (some ⟨S, 0, none⟩) N C) ∧ w'.cell? ⟨L, 2, none⟩ = some (.slice (some ⟨F, 0, none⟩) N C'))
    (first | assumption | exact HX12.out | exact HZ12.out | exact HZ34.out | fail) (fail)
  have HCA : Hid (gi (sd.set y a) y = a) := by unfold Hid; rw [gi_set, if_pos ⟨rfl, HY.out⟩]
  have HS3 := Lib.hid (HS2.out.later (RW.refl _).drew)
  clear HX12 HZ12 HZ34 HS2 c1 c2 c3 fs ff f3 x1 x2 x3
  generalize ((W.setCell ⟨S, y, none⟩ (.int .i64 a)).setCell ⟨F, y, none⟩ (.int .i64 b)).drew = w3 at *
  have x3 := HS3.out.c3
  have f3 := HS3.out.fz
  have hb4 := bel_alloc w3 (.cells #[.int .i64 (y : Int)] 3)
  have HS4 := Lib.hid (HS3.out.later hb4)
  have HRD : Hid (ReadI (w3.alloc (.cells #[.int .i64 (y : Int)] 3)) (some ⟨w3.heap.size, 0, none⟩) 1 [(y : Int)]) := by
    refine ⟨rfl, by omega, fun _ => ⟨w3.heap.size, 0, rfl, fun j hj => ?_⟩⟩
    obtain rfl : j = 0 := by omega
    exact cell_blk (g := w3.heap.size) (t := 3) (cs := #[.int .i64 (y : Int)]) (by show (w3.heap.push _)[w3.heap.size]? = _; rw [Array.getElem?_push_size]) 0
  clear hb4
  have hln : (q ++ [(y : Int)]).length = q.length + 1 := by simp
  have HSZ : Hid (w1.heap.size ≤ (w3.alloc (.cells #[.int .i64 (y : Int)] 3)).heap.size) := HS4.out.below.size
  go_wp2_with (at_builtin; refine list_appQ w1.heap.size rfl _ _ rfl v q (y : Int) rfl HS4.out.que HSZ.out _ _ rfl HRD.out HQ.out ?_; intro v1 w8 o1 g1 h1; have HS8 := Lib.hid (HS4.out.requeue g1 o1 h1); obtain ⟨A1, n1, e1⟩ := o1.shape; rw [hln] at e1; subst e1; have t1 := g1.cell HS4.out.c3 (fun e => HS4.out.ap3 e.symm); have t2 := (g1.frozen_far _ HS4.out.lo.2 (fun e => HS4.out.ap3 e.symm)).trans HS4.out.fz; have t3 := HS8.out.c1; have t4 := HS8.out.ownS.cellAt HYN.out; rw [HCA.out] at t4)
  go_ret
  exact ⟨rfl, _, HS8.out⟩

/- The walk of slices.Reverse, of numbers. -/
/-- A list whose first, and last, so many have changed places. -/
def revL (xs : List Int) (a : Nat) : List Int := (List.range xs.length).map fun j => if j < a ∨ xs.length ≤ j + a then gi xs (xs.length - 1 - j) else gi xs j
theorem revL_length (xs : List Int) (a : Nat) : (revL xs a).length = xs.length := by simp [revL]
theorem gi_revL {xs : List Int} {a j : Nat} (h : j < xs.length) : gi (revL xs a) j = if j < a ∨ xs.length ≤ j + a then gi xs (xs.length - 1 - j) else gi xs j := by
  conv => lhs; unfold gi revL
  simp [List.getD_eq_getElem?_getD, h]
theorem revL_zero (xs : List Int) : revL xs 0 = xs := list_ext_gi (revL_length _ _) fun j hj => by
  rw [revL_length] at hj
  rw [gi_revL hj, if_neg (by omega)]
theorem gi_reverse {xs : List Int} {j : Nat} (h : j < xs.length) : gi xs.reverse j = gi xs (xs.length - 1 - j) := by
  rw [gi_at (by simpa using h), gi_at (by omega), List.getElem_reverse]
theorem revL_end {xs : List Int} {a : Nat} (h : xs.length ≤ 2 * a + 1) : revL xs a = xs.reverse := list_ext_gi (by simp [revL_length]) fun j hj => by
  rw [revL_length] at hj
  rw [gi_revL hj, gi_reverse hj]
  by_cases q : j < a ∨ xs.length ≤ j + a
  · rw [if_pos q]
  · rw [if_neg q]
    congr 1
    omega
theorem revL_step {xs : List Int} {a : Nat} (h : 2 * a + 1 < xs.length) : ((revL xs a).set a (gi xs (xs.length - 1 - a))).set (xs.length - 1 - a) (gi xs a) = revL xs (a + 1) := list_ext_gi (by simp [revL_length]) fun j hj => by
  rw [List.length_set, List.length_set, revL_length] at hj
  rw [gi_set, gi_set, List.length_set, revL_length, gi_revL hj, gi_revL hj]
  by_cases e1 : j = xs.length - 1 - a
  · subst e1
    rw [if_pos ⟨rfl, hj⟩, if_pos (by omega)]
    congr 1
    omega
  · rw [if_neg (by omega)]
    by_cases e2 : j = a
    · subst e2
      rw [if_pos ⟨rfl, hj⟩, if_pos (by omega)]
    · rw [if_neg (by omega)]
      by_cases q : j < a ∨ xs.length ≤ j + a
      · rw [if_pos q, if_pos (by omega)]
      · rw [if_neg q, if_neg (by omega)]

set_option maxHeartbeats 4000000 in
set_option maxRecDepth 100000 in
theorem reverse_any {base g n c : Nat} {xs : List Int} (w : World) (h : OwnI w base (.slice (some ⟨g, 0, none⟩) n c) xs) (hn : n ≤ 1000000) :
    Calls Try.prog 100 #[.slice (some ⟨g, 0, none⟩) n c] w fun e w' => OwnI w' base (.slice (some ⟨g, 0, none⟩) n c) xs.reverse ∧ w.grownBy w' (some g) ∧ e = .returned (.tuple #[]) := by
  have HL := Lib.hid (h.len rfl)
  have HO0 : Hid (OwnI w base (.slice (some ⟨g, 0, none⟩) n c) (revL xs 0)) := by rw [revL_zero]; exact h
  have HG0 : Hid (w.grownBy w (some g)) := World.grownBy.refl _ _
  have HC : Hid (0 < n → True) := fun _ => trivial
  have hn1 : (-1 : Int) ≤ (n : Int) - 1 ∧ (n : Int) - 1 ≤ 1000000 := by omega
  clear h
  go_enter Try.func100, Try.ntmps100
  go_wp2_with fail
  go_loopw [2, 3] (fun i j wr => ∃ a : Nat, 2 * a ≤ n + 1 ∧ i = .int .i64 a ∧ j = .int .i64 ((n : Int) - 1 - (a : Int)) ∧ Hid (OwnI wr base (.slice (some ⟨g, 0, none⟩) n c) (revL xs a)) ∧ Hid (w.grownBy wr (some g))) (fun i _ _ => n - (intOf i).toNat)
  case atStart => exact ⟨0, by omega, rfl, by go_num, HO0, HG0⟩
  case round =>
    obtain ⟨a, ha, rfl, rfl, how, hgr⟩ := hrel
    by_cases hlt : 2 * a + 1 < n
    · have d1 : decide ((a : Int) < (n : Int) - 1 - (a : Int)) = true := decide_eq_true (by omega)
      have HLT := Lib.hid hlt
      obtain ⟨z, hz⟩ : ∃ z, z = n - 1 - a := ⟨_, rfl⟩
      have HZ := Lib.hid hz
      have ez : (n : Int) - 1 - (a : Int) = (z : Int) := by omega
      have hzn : z < n := by omega
      have han : a < n := by omega
      have hza : z ≠ a := by omega
      have ca := how.out.cellAt han
      have cz := how.out.cellAt hzn
      have fa := how.out.frozAt a
      have hva : gi (revL xs a) a = gi xs a := by rw [gi_revL (by have := HL.out; omega), if_neg (by have := HL.out; omega)]
      have hvz : gi (revL xs a) z = gi xs z := by rw [gi_revL (by have := HL.out; omega), if_neg (by have := HL.out; omega)]
      have HST : Hid (((revL xs a).set a (gi xs z)).set z (gi xs a) = revL xs (a + 1)) := by
        have := revL_step (xs := xs) (a := a) (by have := HL.out; omega)
        rw [← HL.out, ← hz] at this
        exact this
      rw [hva] at ca
      rw [hvz] at cz
      rw [ez]
      clear d1
      have d1 : decide (a < z) = true := decide_eq_true (by omega)
      have haz : a < z := by omega
      have o1 := how.out.put1 a (gi xs z)
      have cz2 := o1.cellAt hzn
      have fz2 := o1.frozAt z
      rw [gi_set, if_neg (by omega), hvz] at cz2
      have HO2 : Hid (OwnI ((wr.setCell ⟨g, a, none⟩ (.int .i64 (gi xs z))).setCell ⟨g, z, none⟩ (.int .i64 (gi xs a))) base (.slice (some ⟨g, 0, none⟩) n c) (revL xs (a + 1))) := by rw [← HST.out]; exact o1.put1 z _
      have HG2 : Hid (w.grownBy ((wr.setCell ⟨g, a, none⟩ (.int .i64 (gi xs z))).setCell ⟨g, z, none⟩ (.int .i64 (gi xs a))) (some g)) := hgr.out.trans (grown_set2 _ _ _ _ _ _)
      have hai : (0 : Int) ≤ (a : Int) ∧ (a : Int) < (n : Int) := by omega
      have hzi : (0 : Int) ≤ (z : Int) ∧ (z : Int) < (n : Int) := by omega
      clear hva hvz o1 ez hz
      generalize gi xs a = p at *
      generalize gi xs z = r at *
      go_wp2_with fail
      have cad := cell_later (RW.refl wr).drew ca
      have czd := cell_later (RW.refl wr).drew cz
      refine wp_region_held_drew (S := fun _ => True) (by kernel_rfl) trivial (fun hHeld => ?_)
      refine wpAnyH_take (i := 0) (oi := ?oiz401x0) (v := ?vz401x0) ?hiz401x0 (by kernel_rfl) (by kernel_rfl) (by kernel_rfl) ?hQz401x0 ?hyz401x0 (by assumption) ?restz401x0
      case hiz401x0 => first | (simp only [List.getElem?_toArray, List.getElem?_cons_zero, List.getElem?_cons_succ]; rfl) | rfl
      case hQz401x0 => exact fun _ _ _ h => h
      case hyz401x0 => (refine Or.inl ⟨by rfl, ?_⟩; intro w hSw; (try dsimp only at hSw); go_simp; (try with_reducible rfl))
      simp only [Act.put, List.setIfInBounds_toArray, List.set_cons_zero, List.set_cons_succ]
      refine wpAnyH_take (i := 1) (oi := ?oiz402x1) (v := ?vz402x1) ?hiz402x1 (by kernel_rfl) (by kernel_rfl) (by kernel_rfl) ?hQz402x1 ?hyz402x1 (by assumption) ?restz402x1
      case hiz402x1 => first | (simp only [List.getElem?_toArray, List.getElem?_cons_zero, List.getElem?_cons_succ]; rfl) | rfl
      case hQz402x1 => exact fun _ _ _ h => h
      case hyz402x1 => (refine Or.inl ⟨by rfl, ?_⟩; intro w hSw; (try dsimp only at hSw); go_simp; (try with_reducible rfl))
      simp only [Act.put, List.setIfInBounds_toArray, List.set_cons_zero, List.set_cons_succ]
      refine wpAnyH_take (i := 2) (oi := ?oiz403x2) (v := ?vz403x2) ?hiz403x2 (by kernel_rfl) (by kernel_rfl) (by kernel_rfl) ?hQz403x2 ?hyz403x2 (by assumption) ?restz403x2
      case hiz403x2 => first | (simp only [List.getElem?_toArray, List.getElem?_cons_zero, List.getElem?_cons_succ]; rfl) | rfl
      case hQz403x2 => exact fun _ _ _ h => h
      case hyz403x2 => (refine Or.inl ⟨by rfl, ?_⟩; intro w hSw; (try dsimp only at hSw); go_simp; (try with_reducible rfl))
      simp only [Act.put, List.setIfInBounds_toArray, List.set_cons_zero, List.set_cons_succ]
      refine wpAnyH_take (i := 3) (oi := ?oiz404x3) (v := ?vz404x3) ?hiz404x3 (by kernel_rfl) (by kernel_rfl) (by kernel_rfl) ?hQz404x3 ?hyz404x3 (by assumption) ?restz404x3
      case hiz404x3 => first | (simp only [List.getElem?_toArray, List.getElem?_cons_zero, List.getElem?_cons_succ]; rfl) | rfl
      case hQz404x3 => exact fun _ _ _ h => h
      case hyz404x3 => (refine Or.inl ⟨by rfl, ?_⟩; intro w hSw; (try dsimp only at hSw); go_simp; (try with_reducible rfl))
      simp only [Act.put, List.setIfInBounds_toArray, List.set_cons_zero, List.set_cons_succ]
      refine wpAnyH_take (i := 4) (oi := ?oiz405x4) (v := ?vz405x4) ?hiz405x4 (by kernel_rfl) (by kernel_rfl) (by kernel_rfl) ?hQz405x4 ?hyz405x4 (by assumption) ?restz405x4
      case hiz405x4 => first | (simp only [List.getElem?_toArray, List.getElem?_cons_zero, List.getElem?_cons_succ]; rfl) | rfl
      case hQz405x4 => exact fun _ _ _ h => h
      case hyz405x4 => (refine Or.inl ⟨by rfl, ?_⟩; intro w hSw; (try dsimp only at hSw); go_simp; (try with_reducible rfl))
      simp only [Act.put, List.setIfInBounds_toArray, List.set_cons_zero, List.set_cons_succ]
      refine wpAnyH_take (i := 5) (oi := ?oiz406x5) (v := ?vz406x5) ?hiz406x5 (by kernel_rfl) (by kernel_rfl) (by kernel_rfl) ?hQz406x5 ?hyz406x5 (by assumption) ?restz406x5
      case hiz406x5 => first | (simp only [List.getElem?_toArray, List.getElem?_cons_zero, List.getElem?_cons_succ]; rfl) | rfl
      case hQz406x5 => exact fun _ _ _ h => h
      case hyz406x5 => (refine Or.inl ⟨by rfl, ?_⟩; intro w hSw; (try dsimp only at hSw); go_simp; (try with_reducible rfl))
      simp only [Act.put, List.setIfInBounds_toArray, List.set_cons_zero, List.set_cons_succ]
      refine wpAnyH_take (i := 6) (oi := ?oiz407x6) (v := ?vz407x6) ?hiz407x6 (by kernel_rfl) (by kernel_rfl) (by kernel_rfl) ?hQz407x6 ?hyz407x6 (by assumption) ?restz407x6
      case hiz407x6 => first | (simp only [List.getElem?_toArray, List.getElem?_cons_zero, List.getElem?_cons_succ]; rfl) | rfl
      case hQz407x6 => exact fun _ _ _ h => h
      case hyz407x6 => (refine Or.inl ⟨by rfl, ?_⟩; intro w hSw; (try dsimp only at hSw); go_simp; (try with_reducible rfl))
      simp only [Act.put, List.setIfInBounds_toArray, List.set_cons_zero, List.set_cons_succ]
      refine wpAnyH_take (i := 8) (oi := ?oiz408x8) (v := ?vz408x8) ?hiz408x8 (by kernel_rfl) (by kernel_rfl) (by kernel_rfl) ?hQz408x8 ?hyz408x8 (by assumption) ?restz408x8
      case hiz408x8 => first | (simp only [List.getElem?_toArray, List.getElem?_cons_zero, List.getElem?_cons_succ]; rfl) | rfl
      case hQz408x8 => exact fun _ _ _ h => h
      case hyz408x8 => (refine Or.inl ⟨by rfl, ?_⟩; intro w hSw; (try dsimp only at hSw); go_simp; (try with_reducible rfl))
      simp only [Act.put, List.setIfInBounds_toArray, List.set_cons_zero, List.set_cons_succ]
      refine wpAnyH_take (i := 9) (oi := ?oiz409x9) (v := ?vz409x9) ?hiz409x9 (by kernel_rfl) (by kernel_rfl) (by kernel_rfl) ?hQz409x9 ?hyz409x9 (by assumption) ?restz409x9
      case hiz409x9 => first | (simp only [List.getElem?_toArray, List.getElem?_cons_zero, List.getElem?_cons_succ]; rfl) | rfl
      case hQz409x9 => exact fun _ _ _ h => h
      case hyz409x9 => (refine Or.inl ⟨by rfl, ?_⟩; intro w hSw; (try dsimp only at hSw); go_simp; (try with_reducible rfl))
      simp only [Act.put, List.setIfInBounds_toArray, List.set_cons_zero, List.set_cons_succ]
      refine wpAnyH_take (i := 10) (oi := ?oiz410x10) (v := ?vz410x10) ?hiz410x10 (by kernel_rfl) (by kernel_rfl) (by kernel_rfl) ?hQz410x10 ?hyz410x10 (by assumption) ?restz410x10
      case hiz410x10 => first | (simp only [List.getElem?_toArray, List.getElem?_cons_zero, List.getElem?_cons_succ]; rfl) | rfl
      case hQz410x10 => exact fun _ _ _ h => h
      case hyz410x10 => (refine Or.inl ⟨by rfl, ?_⟩; intro w hSw; (try dsimp only at hSw); go_simp; (try with_reducible rfl))
      simp only [Act.put, List.setIfInBounds_toArray, List.set_cons_zero, List.set_cons_succ]
      refine wpAnyH_ready (rs := [7, 11]) (by kernel_rfl) (by simp) ?_
      refine AllReadyH.cons rfl (fun K hK => ?_) (AllReadyH.cons rfl (fun K hK => ?_) AllReadyH.nil)
      all_goals go_simp
      · refine hK.out _ _ trivial (fun hHeld => ?_)
        clear hK K
        (try simp only [Act.put, List.setIfInBounds_toArray, List.set_cons_zero, List.set_cons_succ])
        refine wpAnyH_ready (rs := [11]) (by kernel_rfl) (by simp) ?_
        refine AllReadyH.cons rfl (fun K hK => ?_) AllReadyH.nil
        go_simp
        refine hK.out _ _ trivial (fun hHeld => ?_)
        clear hK K
        (try simp only [Act.put, List.setIfInBounds_toArray, List.set_cons_zero, List.set_cons_succ])
        refine wpAnyH_take (i := 12) (oi := ?oiz411x12) (v := ?vz411x12) ?hiz411x12 (by kernel_rfl) (by kernel_rfl) (by kernel_rfl) ?hQz411x12 ?hyz411x12 (by assumption) ?restz411x12
        case hiz411x12 => first | (simp only [List.getElem?_toArray, List.getElem?_cons_zero, List.getElem?_cons_succ]; rfl) | rfl
        case hQz411x12 => exact fun _ _ _ h => h
        case hyz411x12 => (refine Or.inl ⟨by rfl, ?_⟩; intro w hSw; (try dsimp only at hSw); go_simp; (try with_reducible rfl))
        simp only [Act.put, List.setIfInBounds_toArray, List.set_cons_zero, List.set_cons_succ]
        refine wpAnyH_ready (rs := [13]) (by kernel_rfl) (by simp) ?_
        refine AllReadyH.cons rfl (fun K hK => ?_) AllReadyH.nil
        go_simp
        refine hK.out _ _ trivial (fun hHeld => ?_)
        clear hK K
        (try simp only [Act.put, List.setIfInBounds_toArray, List.set_cons_zero, List.set_cons_succ])
        refine wpAnyH_take (i := 14) (oi := ?oiz412x14) (v := ?vz412x14) ?hiz412x14 (by kernel_rfl) (by kernel_rfl) (by kernel_rfl) ?hQz412x14 ?hyz412x14 (by assumption) ?restz412x14
        case hiz412x14 => first | (simp only [List.getElem?_toArray, List.getElem?_cons_zero, List.getElem?_cons_succ]; rfl) | rfl
        case hQz412x14 => exact fun _ _ _ h => h
        case hyz412x14 => (refine Or.inl ⟨by rfl, ?_⟩; intro w hSw; (try dsimp only at hSw); go_simp; (try with_reducible rfl))
        simp only [Act.put, List.setIfInBounds_toArray, List.set_cons_zero, List.set_cons_succ]
        refine wpAnyH_ready (rs := [15]) (by kernel_rfl) (by simp) ?_
        refine AllReadyH.cons rfl (fun K hK => ?_) AllReadyH.nil
        go_simp
        refine hK.out _ _ trivial (fun hHeld => ?_)
        clear hK K
        (try simp only [Act.put, List.setIfInBounds_toArray, List.set_cons_zero, List.set_cons_succ])
        refine wpAnyH_done (by kernel_rfl) ?_ _
        have HO3 := Lib.hid (HO2.out.later (RW.refl _).drew)
        have HG3 : Hid (w.grownBy ((wr.setCell ⟨g, a, none⟩ (.int .i64 r)).setCell ⟨g, z, none⟩ (.int .i64 p)).drew (some g)) := ⟨HG2.out.os, HG2.out.tape, HG2.out.output, HG2.out.size, HG2.out.block⟩
        clear ca cz fa cz2 fz2 cad czd d1
        go_wp2_with fail
        go_roundw
        case rel => exact ⟨a + 1, by have := HLT.out; omega, by go_num, by have := HZ.out; have := HLT.out; go_num, HO3, HG3⟩
        case measure => have := HLT.out; simp [intOf]; omega
      · refine hK.out _ _ trivial (fun hHeld => ?_)
        clear hK K
        (try simp only [Act.put, List.setIfInBounds_toArray, List.set_cons_zero, List.set_cons_succ])
        refine wpAnyH_ready (rs := [7]) (by kernel_rfl) (by simp) ?_
        refine AllReadyH.cons rfl (fun K hK => ?_) AllReadyH.nil
        go_simp
        refine hK.out _ _ trivial (fun hHeld => ?_)
        clear hK K
        (try simp only [Act.put, List.setIfInBounds_toArray, List.set_cons_zero, List.set_cons_succ])
        refine wpAnyH_take (i := 12) (oi := ?oiz413x12) (v := ?vz413x12) ?hiz413x12 (by kernel_rfl) (by kernel_rfl) (by kernel_rfl) ?hQz413x12 ?hyz413x12 (by assumption) ?restz413x12
        case hiz413x12 => first | (simp only [List.getElem?_toArray, List.getElem?_cons_zero, List.getElem?_cons_succ]; rfl) | rfl
        case hQz413x12 => exact fun _ _ _ h => h
        case hyz413x12 => (refine Or.inl ⟨by rfl, ?_⟩; intro w hSw; (try dsimp only at hSw); go_simp; (try with_reducible rfl))
        simp only [Act.put, List.setIfInBounds_toArray, List.set_cons_zero, List.set_cons_succ]
        refine wpAnyH_ready (rs := [13]) (by kernel_rfl) (by simp) ?_
        refine AllReadyH.cons rfl (fun K hK => ?_) AllReadyH.nil
        go_simp
        refine hK.out _ _ trivial (fun hHeld => ?_)
        clear hK K
        (try simp only [Act.put, List.setIfInBounds_toArray, List.set_cons_zero, List.set_cons_succ])
        refine wpAnyH_take (i := 14) (oi := ?oiz414x14) (v := ?vz414x14) ?hiz414x14 (by kernel_rfl) (by kernel_rfl) (by kernel_rfl) ?hQz414x14 ?hyz414x14 (by assumption) ?restz414x14
        case hiz414x14 => first | (simp only [List.getElem?_toArray, List.getElem?_cons_zero, List.getElem?_cons_succ]; rfl) | rfl
        case hQz414x14 => exact fun _ _ _ h => h
        case hyz414x14 => (refine Or.inl ⟨by rfl, ?_⟩; intro w hSw; (try dsimp only at hSw); go_simp; (try with_reducible rfl))
        simp only [Act.put, List.setIfInBounds_toArray, List.set_cons_zero, List.set_cons_succ]
        refine wpAnyH_ready (rs := [15]) (by kernel_rfl) (by simp) ?_
        refine AllReadyH.cons rfl (fun K hK => ?_) AllReadyH.nil
        go_simp
        refine hK.out _ _ trivial (fun hHeld => ?_)
        clear hK K
        (try simp only [Act.put, List.setIfInBounds_toArray, List.set_cons_zero, List.set_cons_succ])
        refine wpAnyH_done (by kernel_rfl) ?_ _
        have HO3 := Lib.hid (HO2.out.later (RW.refl _).drew)
        have HG3 : Hid (w.grownBy ((wr.setCell ⟨g, a, none⟩ (.int .i64 r)).setCell ⟨g, z, none⟩ (.int .i64 p)).drew (some g)) := ⟨HG2.out.os, HG2.out.tape, HG2.out.output, HG2.out.size, HG2.out.block⟩
        clear ca cz fa cz2 fz2 cad czd d1
        go_wp2_with fail
        go_roundw
        case rel => exact ⟨a + 1, by have := HLT.out; omega, by go_num, by have := HZ.out; have := HLT.out; go_num, HO3, HG3⟩
        case measure => have := HLT.out; simp [intOf]; omega
    · have d1 : decide ((a : Int) < (n : Int) - 1 - (a : Int)) = false := decide_eq_false (by omega)
      have HRV : Hid (revL xs a = xs.reverse) := revL_end (by have := HL.out; omega)
      clear hlt
      go_wp2_with fail
      go_end0
      exact ⟨by rw [← HRV.out]; exact how.out, hgr.out, rfl⟩

/- The walk of sides.lay.cycle. -/
theorem gi_take (l : List Int) (p i : Nat) (h : i < p) : gi (l.take p) i = gi l i := by simp [gi, List.getD_eq_getElem?_getD, List.getElem?_take, h]
theorem OwnI.cut {w : World} {base g n c p : Nat} {xs : List Int} (h : OwnI w base (.slice (some ⟨g, 0, none⟩) n c) xs) (hp : p ≤ n) : OwnI w base (.slice (some ⟨g, 0, none⟩) p c) (xs.take p) := by
  have hl := OwnI.len h rfl
  unfold OwnI at *
  rcases h.2 with ⟨e, -⟩ | ⟨g', cap, cur, e, hb, hg, hle, hm, hs, ht⟩
  · cases e
  · injection e with e1 e2 e3
    have hpl : (xs.take p).length = p := by rw [List.length_take]; omega
    rw [hpl]
    refine ⟨by simp [nums]; omega, .inr ⟨g', cap, cur, by rw [e1, e3], hb, hg, by omega, hm, hs, ?_⟩⟩
    rw [Nat.mul_one, show nums (xs.take p) = (nums xs).take p from by simp [nums, List.map_take], ← ht, List.take_take]
    congr 1
    omega

set_option maxHeartbeats 8000000 in
set_option maxRecDepth 100000 in
theorem cycle_any {L F C N base u v : Nat} {es : List Ed} {sd fr la lb : List Int} (w : World) (hr : Rise N es) (hL : w.cell? ⟨L, 2, none⟩ = some (.slice (some ⟨F, 0, none⟩) N C)) (ho : OwnI w base (.slice (some ⟨F, 0, none⟩) N C) fr) (hN : N ≤ 4096)
    (ha : Up es sd fr u la) (hb : Up es sd fr v lb) (hla : la.length ≤ N) (hlb : lb.length ≤ N) (huv : Nxt es u v) (hs : gi sd u = gi sd v) (hcut : Cut la lb la.length lb.length) :
    Calls Try.prog 89 #[.pointer (some ⟨L, 0, none⟩), .int .i64 u, .int .i64 v] w fun e w' => ∃ x r, e = .returned x ∧ OwnI w' w.heap.size x r ∧ OddRing es r ∧ Below w.heap.size w w' := by
  obtain ⟨huN, hvN, -⟩ := huv.lt hr
  have h1 := up_any w hr hL ho ha hN huN hla
  have h2 := fun W (hW : Below w.heap.size w W) => up_any W hr (cell_later hW hL) (ho.later hW) hb hN hvN hlb
  have H2 := Lib.hid h2
  have HG : Hid (∀ p q r, Cut la lb p q → ¬ (1 < p ∧ 1 < q ∧ gi la (p - 2) = gi lb (q - 2)) → r = la.take p ++ (lb.take (q - 1)).reverse → OddRing es r) := fun p q r hc he e => by
    obtain ⟨c1, c2, c3, c4, c5, c6⟩ := hc
    refine ring_of hr ha hb huv hs ⟨c1, c2, c3, c4, c5, c6⟩ he ?_ (fun i hi => ?_) (fun i hi hj => ?_)
    · rw [e]
      simp
      omega
    · rw [e, gi_app, if_pos (by rw [List.length_take]; omega), gi_take _ _ _ hi]
    · have hlt : (la.take p).length = p := by rw [List.length_take]; omega
      have hlr : (lb.take (q - 1)).length = q - 1 := by rw [List.length_take]; omega
      rw [e, gi_app, if_neg (by omega), hlt, gi_reverse (by omega), hlr, gi_take _ _ _ (by omega)]
      congr 1
      omega
  have HP := Lib.hid (And.intro ha.ne.1 hb.ne.1)
  have HLN := Lib.hid (And.intro hla (And.intro hlb hN))
  have HC0 := Lib.hid hcut
  clear h2 hr hL ho ha hb hla hlb huv hs hcut hN
  go_enter Try.func89, Try.ntmps89
  go_wp2_with fail
  refine h1.mono ?_
  rintro e w2 ⟨va, rfl, o1, b1⟩
  obtain ⟨GA, CA, rfl, hA1, hA2, hA3⟩ := own_slice o1 HP.out.1
  have HO1 := Lib.hid o1
  have HB1 := Lib.hid b1
  clear h1 o1 b1
  go_wp2_with fail
  refine (H2.out _ HB1.out).mono ?_
  rintro e w3 ⟨vb, rfl, o2, b2⟩
  obtain ⟨GB, CB, rfl, hB1, hB2, hB3⟩ := own_slice o2 HP.out.2
  have HOA := Lib.hid (HO1.out.later b2)
  have HOB : Hid (OwnI w3 w.heap.size (.slice (some ⟨GB, 0, none⟩) lb.length CB) lb) := row_weaken o2 HB1.out.size
  have HB3 := Lib.hid (bel_trans HB1.out b2)
  have HAB : Hid (GA ≠ GB ∧ w.heap.size ≤ GA ∧ w.heap.size ≤ GB ∧ GA < w3.heap.size ∧ GB < w3.heap.size) := by
    have := b2.size
    have := HB1.out.size
    unfold Hid
    omega
  have HCC := Lib.hid (And.intro hA3 hB3)
  have HR0 : Hid (RW w3 w3) := RW.refl _
  clear o2 b2 hA1 hA2 hB1 hB2 hA3 hB3 HO1 H2
  go_wp2_with fail
  go_loopg [7, 8] (la.length) (fun m x y wr => ∃ p q : Nat, x = .slice (some ⟨GA, 0, none⟩) p CA ∧ y = .slice (some ⟨GB, 0, none⟩) q CB ∧ Hid (m = p) ∧ Hid (Cut la lb p q) ∧ Hid (RW w3 wr))
  case atStart => exact ⟨la.length, lb.length, rfl, rfl, rfl, HC0, HR0⟩
  case round =>
    obtain ⟨p, q, rfl, rfl, hm, hcu, hrw⟩ := hrel
    by_cases hgo : 1 < p ∧ 1 < q ∧ gi la (p - 2) = gi lb (q - 2)
    · obtain ⟨hp, hq, he⟩ := hgo
      have HNC := Lib.hid (cut_step hcu.out hp hq he)
      obtain ⟨c1, c2, c3, c4, c5, c6⟩ := hcu.out
      obtain ⟨a, ha⟩ : ∃ a, a = p - 2 := ⟨_, rfl⟩
      obtain ⟨b, hb⟩ : ∃ b, b = q - 2 := ⟨_, rfl⟩
      have k1 := (HOA.out.later hrw.out).cellAt (j := a) (by omega)
      have k2 := (HOB.out.later hrw.out).cellAt (j := b) (by omega)
      rw [← ha, ← hb] at he
      rw [he] at k1
      generalize gi lb b = z at *
      have hLN := HLN.out
      have d1 : decide (1 < (p : Int)) = true := decide_eq_true (by omega)
      have d2 : decide (1 < (q : Int)) = true := decide_eq_true (by omega)
      have s1 : IntKind.i64.wrap ((p : Int) - 2) = (a : Int) := by rw [IntKind.wrap_i64]; omega
      have s2 : IntKind.i64.wrap ((q : Int) - 2) = (b : Int) := by rw [IntKind.wrap_i64]; omega
      have r1 : IntKind.i64.wrap ((p : Int) - 1) = ((p - 1 : Nat) : Int) := by rw [IntKind.wrap_i64]; omega
      have r2 : IntKind.i64.wrap ((q : Int) - 1) = ((q - 1 : Nat) : Int) := by rw [IntKind.wrap_i64]; omega
      have hai : (0 : Int) ≤ (a : Int) ∧ (a : Int) < (p : Int) := by omega
      have hbi : (0 : Int) ≤ (b : Int) ∧ (b : Int) < (q : Int) := by omega
      have HK := Lib.hid (And.intro k1 (And.intro k2 (And.intro s1 (And.intro s2 (And.intro hai hbi)))))
      have HLP := Lib.hid (And.intro hp hq)
      have HRR := Lib.hid (And.intro r1 r2)
      have hcut1 := fun W => cut_to (some ⟨GA, 0, none⟩) p CA (p - 1) ((p - 1 : Nat) : Int) rfl (by have := HCC.out; omega) W
      have hcut2 := fun W => cut_to (some ⟨GB, 0, none⟩) q CB (q - 1) ((q - 1 : Nat) : Int) rfl (by have := HCC.out; omega) W
      have HCT := Lib.hid (And.intro hcut1 hcut2)
      clear c1 c2 c3 c4 c5 c6 he ha hb hp hq hcut1 hcut2 r1 r2 hLN
      go_wp2_with fail
      go_region
      clear k1 k2 d1 d2 s1 s2 hai hbi
      go_wp2_with fail
      obtain ⟨r1, r2⟩ := HRR.out
      obtain ⟨hcut1, hcut2⟩ := HCT.out
      go_region
      clear r1 r2 hcut1 hcut2
      have HR9 := Lib.hid (RW.later (RW.later hrw.out (RW.refl _).drew) (RW.refl _).drew)
      go_wp2_with fail
      go_roundg (p - 1)
      case rel => exact ⟨p - 1, q - 1, rfl, rfl, rfl, HNC, HR9⟩
      case measure => have h1 := hm.out; have := HLP.out; omega
    · have HNG := Lib.hid hgo
      obtain ⟨c1, c2, c3, c4, c5, c6⟩ := hcu.out
      have hLN := HLN.out
      have HPQ : Hid (p ≤ la.length ∧ q ≤ lb.length ∧ 1 ≤ p ∧ 1 ≤ q ∧ p ≤ 4096 ∧ q ≤ 4096) := by unfold Hid; omega
      have HOAd := Lib.hid ((HOA.out.later (RW.later hrw.out (RW.refl _).drew)).cut c3)
      have HT : Hid (IntKind.i64.wrap ((q : Int) - 1) = ((q - 1 : Nat) : Int) ∧ (∀ W, (Instr.slice 22 (.slice (some ⟨GB, 0, none⟩) q CB) none (some (.int .i64 ((q - 1 : Nat) : Int))) none).run Try.prog W = .ok (.slice (some ⟨GB, 0, none⟩) (q - 1) CB) W) ∧
          Calls Try.prog 100 #[.slice (some ⟨GB, 0, none⟩) (q - 1) CB] wr.drew fun e w' => OwnI w' w.heap.size (.slice (some ⟨GB, 0, none⟩) (q - 1) CB) (lb.take (q - 1)).reverse ∧ wr.drew.grownBy w' (some GB) ∧ e = .returned (.tuple #[])) := by
        refine ⟨by rw [IntKind.wrap_i64]; omega, fun W => cut_to (some ⟨GB, 0, none⟩) q CB (q - 1) ((q - 1 : Nat) : Int) rfl (by have := HCC.out; omega) W, ?_⟩
        exact reverse_any _ ((HOB.out.later (RW.later hrw.out (RW.refl _).drew)).cut (by omega)) (by omega)
      have HT2 : Hid ((w.heap.size ≤ GA ∧ ∀ w5, wr.drew.grownBy w5 (some GB) → Below w.heap.size w w5 ∧ OwnI w5 w.heap.size (.slice (some ⟨GA, 0, none⟩) p CA) (la.take p)) ∧ (la.take p).length + (q - 1) ≤ 1000000000) := by
        refine ⟨⟨HAB.out.2.1, fun w5 g5 => ⟨(bel_trans HB3.out (RW.later hrw.out (RW.refl _).drew)).grown g5 (bel_trans HB3.out (RW.later hrw.out (RW.refl _).drew)).size (fun k hk => by injection hk with hk; have := HAB.out; omega), own_grown HOAd.out g5 (fun k hk e => by injection hk with hk; injection e with e; have h2 : GA = k := hk; have h3 : k = GB := e; have := HAB.out; omega)⟩⟩, ?_⟩
        rw [List.length_take]
        omega
      have s1 : True := trivial
      have s2 : True := trivial
      have hai : True := trivial
      have hbi : True := trivial
      have k1 : True := trivial
      have k2 : True := trivial
      have d2 : True := trivial
      by_cases hp : 1 < p
      · have d1 : decide (1 < (p : Int)) = true := decide_eq_true (by omega)
        clear d2
        by_cases hq : 1 < q
        · have d2 : decide (1 < (q : Int)) = true := decide_eq_true (by omega)
          obtain ⟨a, ha⟩ : ∃ a, a = p - 2 := ⟨_, rfl⟩
          obtain ⟨b, hb⟩ : ∃ b, b = q - 2 := ⟨_, rfl⟩
          clear s1 s2 hai hbi k1 k2
          have k1 := (HOA.out.later hrw.out).cellAt (j := a) (by omega)
          have k2 := (HOB.out.later hrw.out).cellAt (j := b) (by omega)
          have he : gi la a ≠ gi lb b := fun e => hgo ⟨hp, hq, by rw [← ha, ← hb]; exact e⟩
          generalize gi la a = y at *
          generalize gi lb b = z at *
          have d3 : (y == z) = false := by rw [beq_eq_false_iff_ne]; exact he
          have s1 : IntKind.i64.wrap ((p : Int) - 2) = (a : Int) := by rw [IntKind.wrap_i64]; omega
          have s2 : IntKind.i64.wrap ((q : Int) - 2) = (b : Int) := by rw [IntKind.wrap_i64]; omega
          have hai : (0 : Int) ≤ (a : Int) ∧ (a : Int) < (p : Int) := by omega
          have hbi : (0 : Int) ≤ (b : Int) ∧ (b : Int) < (q : Int) := by omega
          clear c1 c2 c3 c4 c5 c6 hLN ha hb he hgo hp hq
          go_wp2_with fail
          go_region
          clear s1 s2 hai hbi d1 d2 d3 k1 k2
          obtain ⟨r2, hcut2, HRV⟩ := HT.out
          go_wp2_with fail
          refine HRV.mono ?_
          rintro e w5 ⟨o5, g5, rfl⟩
          clear HRV hcut2 r2
          have HOX := Lib.hid ((HT2.out.1).2 _ g5)
          have HRD : Hid (ReadI w5 (some ⟨GB, 0, none⟩) (q - 1) (lb.take (q - 1)).reverse) := by
            obtain ⟨A', c', e', -, -, hr'⟩ := OwnI.read o5
            have hq := OwnI.len o5 rfl
            injection e' with e1 e2 e3
            rw [e1]
            have h9 := hr'
            rw [← hq] at h9
            exact h9
          have HSZ : Hid (w.heap.size ≤ w5.heap.size) := HOX.out.1.size
          have HLX : Hid ((la.take p).length + (q - 1) ≤ 1000000000) := HT2.out.2
          clear o5
          go_wp2_with (at_builtin; refine list_appI w.heap.size rfl _ _ rfl (.slice (some ⟨GA, 0, none⟩) p CA) (la.take p) (lb.take (q - 1)).reverse rfl HOX.out.2 HSZ.out (some ⟨GB, 0, none⟩) (q - 1) CB rfl HRD.out HLX.out ?_; intro v6 w6 o6 g6 h6)
          go_ret
          exact ⟨_, _, rfl, o6, HG.out p q _ hcu.out HNG.out rfl, HOX.out.1.grown g6 HSZ.out (fun k hk => by injection hk with hk; have h2 : GA = k := hk; have := HAB.out; omega)⟩
        · have d2 : decide (1 < (q : Int)) = false := decide_eq_false (by omega)
          clear c1 c2 c3 c4 c5 c6 hLN hgo hp hq
          go_wp2_with fail
          go_region
          clear s1 s2 hai hbi d1 d2 k1 k2
          obtain ⟨r2, hcut2, HRV⟩ := HT.out
          go_wp2_with fail
          refine HRV.mono ?_
          rintro e w5 ⟨o5, g5, rfl⟩
          clear HRV hcut2 r2
          have HOX := Lib.hid ((HT2.out.1).2 _ g5)
          have HRD : Hid (ReadI w5 (some ⟨GB, 0, none⟩) (q - 1) (lb.take (q - 1)).reverse) := by
            obtain ⟨A', c', e', -, -, hr'⟩ := OwnI.read o5
            have hq := OwnI.len o5 rfl
            injection e' with e1 e2 e3
            rw [e1]
            have h9 := hr'
            rw [← hq] at h9
            exact h9
          have HSZ : Hid (w.heap.size ≤ w5.heap.size) := HOX.out.1.size
          have HLX : Hid ((la.take p).length + (q - 1) ≤ 1000000000) := HT2.out.2
          clear o5
          go_wp2_with (at_builtin; refine list_appI w.heap.size rfl _ _ rfl (.slice (some ⟨GA, 0, none⟩) p CA) (la.take p) (lb.take (q - 1)).reverse rfl HOX.out.2 HSZ.out (some ⟨GB, 0, none⟩) (q - 1) CB rfl HRD.out HLX.out ?_; intro v6 w6 o6 g6 h6)
          go_ret
          exact ⟨_, _, rfl, o6, HG.out p q _ hcu.out HNG.out rfl, HOX.out.1.grown g6 HSZ.out (fun k hk => by injection hk with hk; have h2 : GA = k := hk; have := HAB.out; omega)⟩
      · have d1 : decide (1 < (p : Int)) = false := decide_eq_false (by omega)
        clear c1 c2 c3 c4 c5 c6 hLN hgo hp
        go_wp2_with fail
        go_region
        clear s1 s2 hai hbi d1 d2 k1 k2
        obtain ⟨r2, hcut2, HRV⟩ := HT.out
        go_wp2_with fail
        refine HRV.mono ?_
        rintro e w5 ⟨o5, g5, rfl⟩
        clear HRV hcut2 r2
        have HOX := Lib.hid ((HT2.out.1).2 _ g5)
        have HRD : Hid (ReadI w5 (some ⟨GB, 0, none⟩) (q - 1) (lb.take (q - 1)).reverse) := by
          obtain ⟨A', c', e', -, -, hr'⟩ := OwnI.read o5
          have hq := OwnI.len o5 rfl
          injection e' with e1 e2 e3
          rw [e1]
          have h9 := hr'
          rw [← hq] at h9
          exact h9
        have HSZ : Hid (w.heap.size ≤ w5.heap.size) := HOX.out.1.size
        have HLX : Hid ((la.take p).length + (q - 1) ≤ 1000000000) := HT2.out.2
        clear o5
        go_wp2_with (at_builtin; refine list_appI w.heap.size rfl _ _ rfl (.slice (some ⟨GA, 0, none⟩) p CA) (la.take p) (lb.take (q - 1)).reverse rfl HOX.out.2 HSZ.out (some ⟨GB, 0, none⟩) (q - 1) CB rfl HRD.out HLX.out ?_; intro v6 w6 o6 g6 h6)
        go_ret
        exact ⟨_, _, rfl, o6, HG.out p q _ hcu.out HNG.out rfl, HOX.out.1.grown g6 HSZ.out (fun k hk => by injection hk with hk; have h2 : GA = k := hk; have := HAB.out; omega)⟩

/- What sides.Of lays at its start. -/
/-- The lay, whatever the order in which its parts were made. -/
def LayBox (w0 : World) (N : Nat) (es : List Ed) (s : Value) (W : World) : Prop :=
  ∃ (L G base : Nat) (vs : Nat → Value) (vS vF : Value) (K : Nat → Prop) (wh : World), s = .pointer (some ⟨L, 0, none⟩) ∧ LayW K wh w0 W L (.slice (some ⟨G, 0, none⟩) N N) vS vF (.slice none 0 0) (List.replicate N (-1)) (List.replicate N 0) [] ∧
    Rows wh G base N vs (fun v => nearV es v) ∧ K G ∧ ∀ i, i < N → ∀ k, (vs i).ownBlock = some k → K k
theorem layBox_of {w0 a a' b b' c c' d : World} {N : Nat} {es : List Ed} {vs : Nat → Value} {vS : Value} (ha : RW w0 a) (hr : Rows a' a.heap.size (a.heap.size + 1) N vs (fun v => nearV es v)) (haa : RW a a') (had : RW a' d) (hG : a.heap.size < a'.heap.size)
    (hb : RW w0 b) (hs : OwnI b' b.heap.size vS (List.replicate N (-1))) (hbb : RW b b') (hbd : RW b' d)
    (hc : RW w0 c) (hf : OwnI c' c.heap.size (.slice (some ⟨c.heap.size, 0, none⟩) N N) (List.replicate N 0)) (hcc : RW c c') (hcd : RW c' d)
    (o1 : a'.heap.size ≤ b.heap.size) (o2 : c'.heap.size ≤ a.heap.size ∨ a'.heap.size ≤ c.heap.size) (o3 : c'.heap.size ≤ b.heap.size ∨ b'.heap.size ≤ c.heap.size) :
    LayBox w0 N es (.pointer (some ⟨d.heap.size, 0, none⟩)) (d.alloc (.cells #[.slice (some ⟨a.heap.size, 0, none⟩) N N, vS, .slice (some ⟨c.heap.size, 0, none⟩) N N, .slice none 0 0] 98)) := by
  have hdd := bel_alloc d (.cells #[.slice (some ⟨a.heap.size, 0, none⟩) N N, vS, .slice (some ⟨c.heap.size, 0, none⟩) N N, .slice none 0 0] 98)
  have hg : (d.alloc (.cells #[.slice (some ⟨a.heap.size, 0, none⟩) N N, vS, .slice (some ⟨c.heap.size, 0, none⟩) N N, .slice none 0 0] 98)).heap[d.heap.size]? = some (.cells #[.slice (some ⟨a.heap.size, 0, none⟩) N N, vS, .slice (some ⟨c.heap.size, 0, none⟩) N N, .slice none 0 0] 98 (0, 0)) := by
    show (d.heap.push _)[d.heap.size]? = _
    rw [Array.getElem?_push_size]
  have s1 := Below.size ha
  have s2 := Below.size haa
  have s3 := Below.size had
  have s4 := Below.size hb
  have s5 := Below.size hbb
  have s6 := Below.size hbd
  have s7 := Below.size hc
  have s8 := Below.size hcc
  have s9 := Below.size hcd
  have s10 := hdd.size
  have hSl : ∀ k, vS.ownBlock = some k → b.heap.size ≤ k ∧ k < b'.heap.size := fun k hk => ⟨row_base hs k hk, own_lt hs hk⟩
  have hFl := hf.lt
  have hKl : ∀ k, (k = a.heap.size ∨ ∃ i, i < N ∧ (vs i).ownBlock = some k) → a.heap.size ≤ k ∧ k < a'.heap.size := fun k hk => by
    rcases hk with rfl | ⟨i, hi, hk⟩
    · exact ⟨Nat.le_refl _, hG⟩
    · have := row_base (hr.own i hi) k hk
      exact ⟨by omega, own_lt (hr.own i hi) hk⟩
  have hdlt : d.heap.size < (d.alloc (.cells #[.slice (some ⟨a.heap.size, 0, none⟩) N N, vS, .slice (some ⟨c.heap.size, 0, none⟩) N N, .slice none 0 0] 98)).heap.size := blk_lt hg
  refine ⟨d.heap.size, a.heap.size, a.heap.size + 1, vs, vS, .slice (some ⟨c.heap.size, 0, none⟩) N N, fun k => k = a.heap.size ∨ ∃ i, i < N ∧ (vs i).ownBlock = some k, a', rfl, ?_, hr, .inl rfl, fun i hi k hk => .inr ⟨i, hi, hk⟩⟩
  generalize d.alloc (.cells #[.slice (some ⟨a.heap.size, 0, none⟩) N N, vS, .slice (some ⟨c.heap.size, 0, none⟩) N N, .slice none 0 0] 98) = d' at *
  refine ⟨RW.later (RW.later (RW.later hb hbb) hbd) hdd, cell_blk hg 0, cell_blk hg 1, cell_blk hg 2, cell_blk hg 3, frozen_blk hg 3, row_weaken ((hs.later hbd).later hdd) s4, row_weaken ((hf.later hcd).later hdd) s7, QI.nil _ _, ⟨by omega, hdlt⟩, fun k hk => ⟨?_, (fun e => by cases e), ?_⟩, fun k hk => ⟨(fun e => by cases e), ?_⟩, (fun e => by cases e), fun k hk => ?_⟩
  · intro e
    injection e with e
    have h2 : c.heap.size = k := e
    have := hSl k hk
    omega
  · have := hSl k hk
    omega
  · injection hk with hk
    have h2 : c.heap.size = k := hk
    omega
  · have h1 := hKl k hk
    refine ⟨by omega, fun e => ?_, fun e => ?_, (fun e => by cases e), by omega, ?_⟩
    · have := hSl k e
      omega
    · injection e with e
      have h2 : c.heap.size = k := e
      omega
    · rw [hdd.block k (by omega), had.block k (by omega)]

end Go.Proofs.Ytnldfjoadmehcaa
