/- append of a path to paths; paths in memory, apart from a phase; The walk of lines.forms; The walk of lines.reader.number; The walks of lines.Parse's closure, and of slices.IndexFunc over the forms -/
import Derived.Test.YtbnipgajhpbolaaGreatDoorTe30
import Derived.Test.YtbnipgajhpbolaaGreatDoorTe06
import Derived.Test.YtbnipgajhpbolaaGreatDoorTe07
import Derived.Deep.WholeRow
import Derived.Great.BuildSlice
import Derived.Laws.IdiomStrings
set_option linter.unusedVariables false
set_option linter.unusedSimpArgs false
namespace Go.Proofs.YtbnipgajhpbolaaGreatDoor

section
open Go.RowKit
/-- A row of slices of one's own. -/
def OwnV (w : World) (base : Nat) (v : Value) (vs : List Value) : Prop := w.ownsRow base 22 1 v vs.length vs
theorem infoInts : (Tryz.prog.info? 22).map (fun i => (i.zero, i.size, i.bytes)) = some (some (.slice none 0 0), 1, 24) := by kernel_rfl
theorem undRows : Tryz.prog.underlying 34 = some (.slice 22) := by kernel_rfl
theorem run_appV (w : World) (ty : TypeId) (base : Nat) (v x : Value) (vs : List Value) (HO : OwnV w base v vs) (hbase : base ≤ w.heap.size) (b o c : Nat) (hr : w.cell? ⟨b, o, none⟩ = some x) (hx : x.oneCell' = true) (hl : vs.length + 1 ≤ 1000000000) :
    ∃ v1 w1, (Builtin.append_ #[34, 34] ty #[v, .slice (some ⟨b, o, none⟩) 1 c]).run Tryz.prog w = .ok v1 w1 ∧ OwnV w1 base v1 (vs ++ [x]) ∧ w.grownBy w1 v.ownBlock ∧ (v1.ownBlock = v.ownBlock ∨ v1.ownBlock = some w.heap.size) ∧ v1 ≠ .slice none 0 0 := by
  obtain ⟨i0, hi, hz0, hz1, hz2⟩ := info_parts infoInts
  obtain ⟨v', w', hrun, h2, h3, h4, h5⟩ := run_append_own_at (P := Tryz.prog) w base 34 ty 22 i0 (.slice none 0 0) 1 24 undRows hi hz0 hz1 hz2 rfl (by decide) v vs.length vs HO ⟨b, o, none⟩ 1 c [x] rfl (fun j u hu => by
    cases j with
    | zero =>
      have : x = u := by simpa using hu
      subst this
      rw [addr_add, Nat.add_zero]
      exact hr
    | succ j => simp at hu) (fun u hu => by
      have : u = x := by simpa using hu
      rw [this]; exact hx) (by simp only [maxLen]; omega) (by omega) hbase
  refine ⟨v', w', hrun, ?_, h3, h5, fun e => by have := (h4.1 e).2; omega⟩
  unfold OwnV
  rw [List.length_append, List.length_singleton]
  exact h2
theorem step_appV {ops : Array Oper} {o : Oper} {a : Act} {w : World} {K : Act → World → Prop} {Q : Exit → Act → World → Prop} {E' : Prop} (base : Nat) (hw : Region.wanted o (yielded ops a.tmps) = true) (s x : Operand)
    (ho : o.op = .call { callee := .builtin .append, args := #[s, x], argTypes := #[34, 34] }) (v : Value) (vs : List Value) (hs : a.eval s = v) (HO : OwnV w base v vs) (hbase : base ≤ w.heap.size)
    (b i c : Nat) (y : Value) (hx : a.eval x = .slice (some ⟨b, i, none⟩) 1 c) (hr : w.cell? ⟨b, i, none⟩ = some y) (hy : y.oneCell' = true) (hl : vs.length + 1 ≤ 1000000000)
    (h : ∀ v1 w1, OwnV w1 base v1 (vs ++ [y]) → w.grownBy w1 v.ownBlock → (v1.ownBlock = v.ownBlock ∨ v1.ownBlock = some w.heap.size) → v1 ≠ .slice none 0 0 → K (a.put o.dst v1) w1) :
    if Region.wanted o (yielded ops a.tmps) = true then Oper.wp Tryz.prog o a w K Q else E' := by
  rw [if_pos hw]
  obtain ⟨v', w', hrun, h2, h3, h5, h6⟩ := run_appV w o.type base v y vs HO hbase b i c hr hy hl
  unfold Oper.wp execOp
  simp only [ho, resolve, invoke, builtin, Sem.run_bind, Sem.run_pure, Result.andThen_ok, List.map_toArray, List.map_cons, List.map_nil, hs, hx, hrun]
  exact h v' w' h2 h3 h5 h6
theorem list_appV {ops : Array Oper} {rest : List Oper} {o : Oper} {a : Act} {w : World} {Q : Exit → Act → World → Prop} (base : Nat) (hgd : o.guard = none) (s x : Operand)
    (ho : o.op = .call { callee := .builtin .append, args := #[s, x], argTypes := #[34, 34] }) (v : Value) (vs : List Value) (hs : a.eval s = v) (HO : OwnV w base v vs) (hbase : base ≤ w.heap.size)
    (b i c : Nat) (y : Value) (hx : a.eval x = .slice (some ⟨b, i, none⟩) 1 c) (hr : w.cell? ⟨b, i, none⟩ = some y) (hy : y.oneCell' = true) (hl : vs.length + 1 ≤ 1000000000)
    (h : ∀ v1 w1, OwnV w1 base v1 (vs ++ [y]) → w.grownBy w1 v.ownBlock → (v1.ownBlock = v.ownBlock ∨ v1.ownBlock = some w.heap.size) → v1 ≠ .slice none 0 0 → wpList Tryz.prog ops Q rest (a.put o.dst v1) w1) :
    wpList Tryz.prog ops Q (o :: rest) a w := by
  refine wpList_plain hgd fun K hK => ?_
  obtain ⟨v', w', hrun, h2, h3, h5, h6⟩ := run_appV w o.type base v y vs HO hbase b i c hr hy hl
  unfold Oper.wp execOp
  simp only [ho, resolve, invoke, builtin, Sem.run_bind, Sem.run_pure, Result.andThen_ok, List.map_toArray, List.map_cons, List.map_nil, hs, hx, hrun]
  exact hK _ _ (h v' w' h2 h3 h5 h6)

/-- A value's cells in a row of slices. -/
theorem OwnV.at {W : World} {base : Nat} {v : Value} {vs : List Value} (h : OwnV W base v vs) {j : Nat} (hj : j < vs.length) : ∃ g cap, v = .slice (some ⟨g, 0, none⟩) vs.length cap ∧ W.cell? ⟨g, j, none⟩ = some (vs[j]'hj) := by
  obtain ⟨h1, h2⟩ := h
  rcases h2 with ⟨-, h0⟩ | ⟨g, cap, cur, rfl, hb, hg, hn, hm, hs, ht⟩
  · omega
  · refine ⟨g, cap, rfl, ?_⟩
    rw [cell_blk hg j]
    have e : (cur.toList.take (vs.length * 1))[j]? = vs[j]? := by rw [ht]
    rw [List.getElem?_take, if_pos (by omega), List.getElem?_eq_getElem hj, Array.getElem?_toList] at e
    exact e
theorem OwnV.shape {W : World} {base : Nat} {v : Value} {vs : List Value} (h : OwnV W base v vs) : ∃ A c, v = .slice A vs.length c := by
  obtain ⟨h1, h2⟩ := h
  rcases h2 with ⟨rfl, h0⟩ | ⟨g, cap, cur, rfl, r⟩
  · exact ⟨none, 0, by rw [h0]⟩
  · exact ⟨_, cap, rfl⟩
theorem OwnV.same {W W' : World} {base : Nat} {v : Value} {vs : List Value} (h : OwnV W base v vs) (e : ∀ k, v.ownBlock = some k → W'.heap[k]? = W.heap[k]?) : OwnV W' base v vs := by
  refine ⟨h.1, ?_⟩
  rcases h.2 with k | ⟨g, cap, cur, rfl, hb, hg, r⟩
  · exact .inl k
  · exact .inr ⟨g, cap, cur, rfl, hb, (e g rfl).trans hg, r⟩
theorem OwnI.same {W W' : World} {base : Nat} {v : Value} {l : List Int} (h : OwnI W base v l) (e : ∀ k, v.ownBlock = some k → W'.heap[k]? = W.heap[k]?) : OwnI W' base v l := by
  unfold OwnI at *
  refine ⟨h.1, ?_⟩
  rcases h.2 with k | ⟨g, cap, cur, rfl, hb, hg, r⟩
  · exact .inl k
  · exact .inr ⟨g, cap, cur, rfl, hb, (e g rfl).trans hg, r⟩

/-- Paths in memory: v holds slices, each the path of L; none of their blocks is of K. -/
structure OW (base : Nat) (K : Nat → Prop) (v : Value) (L : List (List Int)) (W : World) : Prop where
  ex : ∃ vs : List Value, OwnV W base v vs ∧ vs.length = L.length ∧ (∀ k, v.ownBlock = some k → ¬ K k) ∧ ∀ j (hj : j < vs.length) (hl : j < L.length), (∃ GA CA n, vs[j] = .slice (some ⟨GA, 0, none⟩) n CA ∧ OwnI W base vs[j] L[j] ∧ ¬ K GA ∧ v.ownBlock ≠ some GA)
theorem OW.nil {base : Nat} {K : Nat → Prop} {W : World} : OW base K (.slice none 0 0) [] W :=
  ⟨[], World.ownsRow_nil _ _ _ _, rfl, fun k e => (by cases e), fun j hj => absurd hj (by simp)⟩
theorem OW.mov {base : Nat} {K K' : Nat → Prop} {v : Value} {L : List (List Int)} {W W' : World} (h : OW base K v L W) (m : Mov K W K' W') : OW base K' v L W' := by
  obtain ⟨vs, h1, h2, h3, h4⟩ := h.ex
  have out : ∀ k, k < W.heap.size → ¬ K k → W'.heap[k]? = W.heap[k]? ∧ ¬ K' k := fun k hk hn => ⟨m.block k hk hn, fun q => (m.new k q).elim hn fun q => by omega⟩
  have hv : ∀ k, v.ownBlock = some k → W'.heap[k]? = W.heap[k]? ∧ ¬ K' k := fun k e => out k (World.ownsRow.lt h1 k e).2 (h3 k e)
  refine ⟨vs, h1.same fun k e => (hv k e).1, h2, fun k e => (hv k e).2, fun j hj hl => ?_⟩
  obtain ⟨GA, CA, n, e, o, g, q⟩ := h4 j hj hl
  rw [e] at o ⊢
  have := out GA (row_lt o GA rfl) g
  exact ⟨GA, CA, n, rfl, o.same fun k e => by cases e; exact this.1, this.2, q⟩
end

section
open Go.RowKit
/-- The kinds' words, and how many numbers stand behind each. -/
def formsL : List (List UInt8 × Int) := [([], 0), ([118, 101, 114, 116, 105, 99, 101, 115], 1), ([97, 100, 100], 2), ([114, 101, 109, 111, 118, 101], 2), ([103, 114, 111, 119], 0), ([99, 117, 116], 1), ([109, 97, 116, 99, 104], 1), ([103, 97, 108, 108, 97, 105], 0), ([98, 97, 114, 114, 105, 101, 114], 0), ([115, 105, 100, 101, 115], 0), ([98, 108, 111, 99, 107, 115], 0), ([102, 97, 99, 116, 111, 114], -1), ([99, 111, 118, 101, 114], 0), ([99, 108, 97, 115, 115, 105, 102, 121], 0), ([116, 101, 108, 108], 0)]
def formsC : Array Value := #[.string ⟨#[]⟩, .int .i64 0, .string ⟨#[118, 101, 114, 116, 105, 99, 101, 115]⟩, .int .i64 1, .string ⟨#[97, 100, 100]⟩, .int .i64 2, .string ⟨#[114, 101, 109, 111, 118, 101]⟩, .int .i64 2, .string ⟨#[103, 114, 111, 119]⟩, .int .i64 0, .string ⟨#[99, 117, 116]⟩, .int .i64 1, .string ⟨#[109, 97, 116, 99, 104]⟩, .int .i64 1, .string ⟨#[103, 97, 108, 108, 97, 105]⟩, .int .i64 0, .string ⟨#[98, 97, 114, 114, 105, 101, 114]⟩, .int .i64 0, .string ⟨#[115, 105, 100, 101, 115]⟩, .int .i64 0, .string ⟨#[98, 108, 111, 99, 107, 115]⟩, .int .i64 0, .string ⟨#[102, 97, 99, 116, 111, 114]⟩, .int .i64 (-1), .string ⟨#[99, 111, 118, 101, 114]⟩, .int .i64 0, .string ⟨#[99, 108, 97, 115, 115, 105, 102, 121]⟩, .int .i64 0, .string ⟨#[116, 101, 108, 108]⟩, .int .i64 0]

/-- A whole row is stored into the block that was made last. -/
theorem wpList_store_new {P : Program} {ops : Array Oper} {rest : List Oper} {op : Oper} {a : Act} {w : World} {Q : Exit → Act → World → Prop} (hgd : op.guard = none) (ty : TypeId) (x y : Operand) (ho : op.op = .store ty x y) (w0 : World) (c c' : Array Value) (hw : w = w0.alloc (.cells c ty)) (hx : a.eval x = .pointer (some ⟨w0.heap.size, 0, none⟩)) (hy : a.eval y = .agg c') (hi : (P.info? ty).map (·.size) = some c'.size) (hc : c.size = c'.size) (h1 : c'.all (·.oneCell') = true)
    (h : wpList P ops Q rest (a.put op.dst undef) (w0.alloc (.cells c' ty))) : wpList P ops Q (op :: rest) a w := by
  subst hw
  refine wpList_plain hgd fun _ hK => ?_
  unfold Oper.wp execOp
  simp only [ho, hx, hy, Sem.run_bind, run_storeAt_new (P := P) w0 ty c c' hi hc h1, Result.andThen_ok, Sem.run_pure]
  exact hK _ _ h
theorem infoForms : (Tryz.prog.info? 142).map (·.size) = some formsC.size := by kernel_rfl

set_option maxHeartbeats 4000000 in
set_option maxRecDepth 100000 in
theorem forms_any (w : World) :
    Calls Tryz.prog 70 #[] w fun e w' => e = .returned (.agg formsC) ∧ Below w.heap.size w w' := by
  have hb := bel_alloc w (.cells formsC 142)
  have hn := heap_alloc_new w (.cells formsC 142)
  have HN := Lib.hid (And.intro hb hn)
  clear hb hn
  go_enter Tryz.func70, Tryz.ntmps70
  go_wp2_with (first | (refine wpList_buildTo rfl 142 _ rfl (some 15) rfl formsC (by kernel_rfl) ?_) | (refine wpList_store_new rfl 142 (.tmp 0) (.tmp 15) rfl w _ formsC rfl rfl rfl infoForms (by kernel_rfl) (by kernel_rfl) ?_))
  (try simp only [Exit.inBlock, Exit.then])
  refine bodyPost_ret (results_cell_row (by rfl) _ _ w.heap.size 142 formsC (0, 0) _ (by rfl) HN.out.2 Tryz.underlying142 rfl (by kernel_rfl)) (by rfl) ?_
  exact ⟨rfl, HN.out.1⟩
end

section
open Go.RowKit
/-- A reader in memory: the variable that points to it, it, and its words. -/
structure RDW (rv rb sb : Nat) (ws : List ByteArray) (W : World) : Prop where
  v : W.heap[rv]? = some (.cells #[.pointer (some ⟨rb, 0, none⟩)] 136 (0, 0))
  b : W.heap[rb]? = some (.cells #[.slice (some ⟨sb, 0, none⟩) ws.length ws.length] 139 (0, 0))
  s : W.heap[sb]? = some (.cells (ws.map Value.string).toArray 9 (0, 0))
theorem RDW.later {rv rb sb : Nat} {ws : List ByteArray} {W W' : World} (h : RDW rv rb sb ws W) (b : Below W.heap.size W W') : RDW rv rb sb ws W' := ⟨blk_later h.v b, blk_later h.b b, blk_later h.s b⟩
theorem RDW.cells {rv rb sb : Nat} {ws : List ByteArray} {W : World} (h : RDW rv rb sb ws W) : W.cell? ⟨rv, 0, none⟩ = some (.pointer (some ⟨rb, 0, none⟩)) ∧ W.cell? ⟨rb, 0, none⟩ = some (.slice (some ⟨sb, 0, none⟩) ws.length ws.length) ∧ ∀ j x, ws[j]? = some x → W.cell? ⟨sb, j, none⟩ = some (.string x) := by
  refine ⟨(cell_blk h.v 0).trans rfl, (cell_blk h.b 0).trans rfl, fun j x hx => ?_⟩
  rw [cell_blk h.s j]
  simp [hx]

/-- The digits of a number, as a line has them. -/
def valD (bs : List UInt8) : Nat := bs.foldl (fun a b => 10 * a + (b.toNat - 48)) 0
structure DigO (bs : List UInt8) : Prop where
  l : 1 ≤ bs.length ∧ bs.length ≤ 9
  d : ∀ b ∈ bs, 48 ≤ b.toNat ∧ b.toNat ≤ 57
  z : 1 < bs.length → (bs.getD 0 0).toNat ≠ 48
theorem valD_lt : ∀ (bs : List UInt8) (a : Nat), (∀ b ∈ bs, 48 ≤ b.toNat ∧ b.toNat ≤ 57) → bs.foldl (fun a b => 10 * a + (b.toNat - 48)) a < (a + 1) * 10 ^ bs.length
  | [], a, _ => by simp
  | b :: bs, a, h => by
    have h1 := valD_lt bs (10 * a + (b.toNat - 48)) fun x hx => h x (List.mem_cons_of_mem _ hx)
    have h2 := h b (by simp)
    simp only [List.foldl_cons, List.length_cons]
    refine Nat.lt_of_lt_of_le h1 ?_
    rw [Nat.pow_succ, Nat.mul_comm (10 ^ bs.length) 10, ← Nat.mul_assoc]
    exact Nat.mul_le_mul_right _ (by omega)
theorem valD_take {bs : List UInt8} {j : Nat} (hj : j < bs.length) : valD (bs.take (j + 1)) = 10 * valD (bs.take j) + (bs[j].toNat - 48) := by
  unfold valD
  rw [List.take_add_one, List.foldl_append, List.getElem?_eq_getElem hj]
  rfl
theorem valD_small {bs : List UInt8} (h : DigO bs) (j : Nat) : valD (bs.take j) < 1000000000 := by
  have h1 := valD_lt (bs.take j) 0 fun b hb => h.d b (List.mem_of_mem_take hb)
  have h2 : (bs.take j).length ≤ 9 := by rw [List.length_take]; have := h.l; omega
  have h3 : 10 ^ (bs.take j).length ≤ 10 ^ 9 := Nat.pow_le_pow_right (by omega) h2
  unfold valD
  omega

set_option maxHeartbeats 8000000 in
set_option maxRecDepth 100000 in
theorem number_any {rv rb sb k : Nat} {ws : List ByteArray} {s : ByteArray} (w : World) (h : RDW rv rb sb ws w) (hk : ws[k]? = some s) (hd : DigO s.data.toList) (hl : ws.length ≤ 1000000) :
    Calls Tryz.prog 73 #[.pointer (some ⟨rb, 0, none⟩), .int .i64 k] w fun e w' => e = .returned (.tuple #[.int .i64 (valD s.data.toList), .bool true]) ∧ Below w.heap.size w w' := by
  obtain ⟨c0, c1, c2⟩ := h.cells
  have c3 := c2 k s hk
  have hki : (0 : Int) ≤ (k : Int) ∧ (k : Int) < (ws.length : Int) := by
    have := (List.getElem?_eq_some_iff.1 hk).1
    omega
  have hsz : s.size = s.data.toList.length := Array.length_toList.symm
  have hl9 := hd.l
  have a1 : decide ((s.size : Int) < 1) = false := by rw [decide_eq_false_iff_not]; omega
  have a2 : decide (9 < (s.size : Int)) = false := by rw [decide_eq_false_iff_not]; omega
  have h0 : 0 < s.size := by omega
  have hs0 : s[0].toNat = (s.data.toList.getD 0 0).toNat := by
    show s.data[0].toNat = _
    rw [List.getD_eq_getElem?_getD, Array.getElem?_toList, Array.getElem?_eq_getElem (by exact h0)]
    rfl
  have HZ : Hid (1 < s.size → ((s[0].toNat : Int) == 48) = false) := fun q => by
    have := hd.z (by omega)
    rw [hs0]
    simp only [beq_eq_false_iff_ne, ne_eq]
    omega
  obtain ⟨cap, C, hconv, hC⟩ : ∃ cap C, (convert 9 60 (.string s)).run Tryz.prog w = .ok (.slice (some ⟨w.heap.size, 0, none⟩) s.size cap) (w.drew.alloc (.cells C 5 (C.size, C.size + 1))) ∧ ∀ j, j < s.size → (w.alloc (.cells C 5 (C.size, C.size + 1))).cell? ⟨w.heap.size, j, none⟩ = some (.int .u8 ((s.data.toList.getD j 0).toNat : Int)) := by
    refine ⟨_, _, run_bytes_of_string (P := Tryz.prog) w 9 60 5 s Tryz.underlying9 Tryz.underlying60 Tryz.underlying5, fun j hj => ?_⟩
    rw [World.cell?_alloc_mark, bytesRow_at s _ j hj, List.getD_eq_getElem?_getD, Array.getElem?_toList, Array.getElem?_eq_getElem hj]
    rfl
  have HB : Hid (Below w.heap.size w (w.alloc (.cells C 5 (C.size, C.size + 1))).drew) := (RW.alloc (RW.refl w) _).drew
  have HD := Lib.hid hd
  have HC := Lib.hid hC
  have HSZ := Lib.hid hsz
  clear h c0 c2 hd hl9 hs0 hC hsz hk
  go_enter Tryz.func73, Tryz.ntmps73
  by_cases h1 : 1 < s.size
  all_goals
    first
      | (have a3 : decide (1 < (s.size : Int)) = true := by rw [decide_eq_true_eq]; omega)
      | (have a3 : decide (1 < (s.size : Int)) = false := by rw [decide_eq_false_iff_not]; omega)
    (try have a4 := HZ.out h1)
    go_wp2_with fail
    clear hconv a1 a2 a3
    go_loop [7, 38] (fun n i => ∃ (j v : Nat), j ≤ s.size ∧ i = .int .i64 j ∧ n = .int .i64 v ∧ Hid (v = valD (s.data.toList.take j))) (fun _ i => s.size - (intOf i).toNat)
    case atStart => exact ⟨0, 0, Nat.zero_le _, rfl, rfl, rfl⟩
    case round =>
      obtain ⟨j, v, hj, rfl, rfl, hv⟩ := hrel
      by_cases hlt : j < s.size
      · have HLT := Lib.hid hlt
        have hcj := HC.out j hlt
        obtain ⟨c, hc⟩ : ∃ c : Nat, (s.data.toList.getD j 0).toNat = c := ⟨_, rfl⟩
        have hlt2 : j < s.data.toList.length := by have := HSZ.out; omega
        have hgd : s.data.toList.getD j 0 = s.data.toList[j] := by rw [List.getD_eq_getElem?_getD, List.getElem?_eq_getElem hlt2]; rfl
        have hcr := HD.out.d (s.data.toList[j]) (List.getElem_mem _)
        rw [← hgd, hc] at hcr
        have hvn := valD_take hlt2
        rw [← hgd, hc, ← hv.out] at hvn
        have hvl := valD_small HD.out j
        rw [← hv.out] at hvl
        rw [hc] at hcj
        have HVN := Lib.hid hvn
        have d1 : decide ((c : Int) < 48) = false := by rw [decide_eq_false_iff_not]; omega
        have d2 : decide (57 < (c : Int)) = false := by rw [decide_eq_false_iff_not]; omega
        have s1 : IntKind.i64.wrap (10 * (v : Int)) = 10 * (v : Int) := by rw [IntKind.wrap_i64]; omega
        have s2 : IntKind.u8.wrap ((c : Int) - 48) = (c : Int) - 48 := by rw [IntKind.wrap_u8]; omega
        have s3 : IntKind.i64.wrap ((c : Int) - 48) = (c : Int) - 48 := by rw [IntKind.wrap_i64]; omega
        have s4 : IntKind.i64.wrap (10 * (v : Int) + ((c : Int) - 48)) = ((10 * v + (c - 48) : Nat) : Int) := by rw [IntKind.wrap_i64]; omega
        have hji : (0 : Int) ≤ (j : Int) ∧ (j : Int) < (s.size : Int) := by omega
        have HSL : Hid (s.size ≤ 9) := by have := HD.out.l; have := HSZ.out; unfold Hid; omega
        have ew : IntKind.i64.wrap ((j : Int) + 1) = (j : Int) + 1 := by rw [IntKind.wrap_i64]; have := HSL.out; omega
        clear hc hlt2 hgd hcr hvn hvl hlt hj
        go_wp2_with fail
        go_round
        case rel => exact ⟨j + 1, 10 * v + (c - 48), by have := HLT.out; omega, by go_num, by first | rfl | (simp; done) | skip, HVN.out.symm⟩
        case measure => have := HLT.out; simp only [intOf, Int.toNat_natCast]; omega
      · obtain rfl : j = s.size := by omega
        have hd0 : decide ((s.size : Int) < (s.size : Int)) = false := by rw [decide_eq_false_iff_not]; omega
        have HV : Hid (v = valD s.data.toList) := by
          have := hv.out
          rw [HSZ.out, List.take_length] at this
          exact this
        clear hlt hj hv
        go_wp2_with fail
        go_ret2
        exact ⟨by rw [HV.out]; rfl, HB.out⟩
end

section
open Go.RowKit
def fwd (j : Nat) : ByteArray := ⟨((formsL.getD j ([], 0)).1).toArray⟩
def fnum (j : Nat) : Int := (formsL.getD j ([], 0)).2
theorem formsC_at : ∀ j, j < 15 → formsC[j * 2]? = some (.string (fwd j)) ∧ formsC[j * 2 + 1]? = some (.int .i64 (fnum j)) := by
  intro j hj
  match j, hj with
  | 0, _ => exact ⟨rfl, rfl⟩
  | 1, _ => exact ⟨rfl, rfl⟩
  | 2, _ => exact ⟨rfl, rfl⟩
  | 3, _ => exact ⟨rfl, rfl⟩
  | 4, _ => exact ⟨rfl, rfl⟩
  | 5, _ => exact ⟨rfl, rfl⟩
  | 6, _ => exact ⟨rfl, rfl⟩
  | 7, _ => exact ⟨rfl, rfl⟩
  | 8, _ => exact ⟨rfl, rfl⟩
  | 9, _ => exact ⟨rfl, rfl⟩
  | 10, _ => exact ⟨rfl, rfl⟩
  | 11, _ => exact ⟨rfl, rfl⟩
  | 12, _ => exact ⟨rfl, rfl⟩
  | 13, _ => exact ⟨rfl, rfl⟩
  | 14, _ => exact ⟨rfl, rfl⟩
/-- What the closure tells of a word. -/
def prB (x s : ByteArray) : Bool := (!x.toList.isEmpty) && (x.toList == s.toList)

set_option maxHeartbeats 8000000 in
set_option maxRecDepth 100000 in
theorem pred_any {rv rb sb : Nat} {ws : List ByteArray} {s x : ByteArray} {n : Int} (w : World) (h : RDW rv rb sb ws w) (hk : ws[0]? = some s) :
    Calls Tryz.prog 72 #[.agg #[.string x, .int .i64 n], .pointer (some ⟨rv, 0, none⟩)] w fun e w' => e = .returned (.bool (prB x s)) ∧ Below w.heap.size w w' := by
  obtain ⟨c0, c1, c2⟩ := h.cells
  have c3 := c2 0 s hk
  have hki : (0 : Int) < (ws.length : Int) := by
    have := (List.getElem?_eq_some_iff.1 hk).1
    omega
  have hb := bel_alloc w (.cells #[.string x, .int .i64 n] 141)
  have hn := heap_alloc_new w (.cells #[.string x, .int .i64 n] 141)
  have d0 := cell_later hb c0
  have d1 := cell_later hb c1
  have d3 := cell_later hb c3
  have dx : (w.alloc (.cells #[.string x, .int .i64 n] 141)).cell? ⟨w.heap.size, 0, none⟩ = some (.string x) := (cell_blk hn 0).trans rfl
  have HB : Hid (Below w.heap.size w (w.alloc (.cells #[.string x, .int .i64 n] 141)).drew) := bel_trans hb (RW.refl _).drew
  clear h c0 c1 c2 c3 hb hn hk
  go_enter Tryz.func72, Tryz.ntmps72
  cases hx : x.toList.isEmpty
  · have hx1 : (!x.toList.isEmpty) = true := by rw [hx]; rfl
    go_wp2_with fail
    go_region
    go_wp2_with fail
    go_ret
    refine ⟨?_, HB.out⟩
    rw [prB, hx]
    rfl
  · have hx1 : (!x.toList.isEmpty) = false := by rw [hx]; rfl
    go_wp2_with fail
    go_region
    go_wp2_with fail
    go_ret
    refine ⟨?_, HB.out⟩
    rw [prB, hx]
    rfl

/-- The forms in memory. -/
def FMW (fb : Nat) (W : World) : Prop := W.heap[fb]? = some (.cells formsC 142 (0, 0))

set_option maxHeartbeats 8000000 in
set_option maxRecDepth 100000 in
theorem idxf_any {rv rb sb fb k : Nat} {ws : List ByteArray} {s : ByteArray} (w : World) (h : RDW rv rb sb ws w) (hf : FMW fb w) (h0 : ws[0]? = some s) (hk : k < 15) (hp : ∀ j, j < k → prB (fwd j) s = false) (hq : prB (fwd k) s = true) :
    Calls Tryz.prog 71 #[.slice (some ⟨fb, 0, none⟩) 15 15, .func (.func 72) #[] #[.pointer (some ⟨rv, 0, none⟩)]] w fun e w' => e = .returned (.int .i64 k) ∧ Below w.heap.size w w' := by
  have H0 := Lib.hid (And.intro h (And.intro hf h0))
  have HP := Lib.hid (And.intro hp hq)
  clear h hf h0 hp hq
  go_enter Tryz.func71, Tryz.ntmps71
  go_wp2_with fail
  go_loopw [8] (fun i wr => ∃ (j : Nat), j ≤ k ∧ i = .int .i64 j ∧ Hid (Below w.heap.size w wr)) (fun i _ => k - (intOf i).toNat)
  case atStart => exact ⟨0, Nat.zero_le _, rfl, Below.refl _ _⟩
  case round =>
    obtain ⟨j, hj, rfl, hb⟩ := hrel
    have hj15 : j < 15 := by omega
    have hji : (0 : Int) ≤ (j : Int) ∧ (j : Int) < 15 := by omega
    have hjd : decide ((j : Int) < 15) = true := by rw [decide_eq_true_eq]; omega
    have hfm := (hb.out.block fb (blk_lt H0.out.2.1)).trans H0.out.2.1
    have c0 := (cell_blk hfm (j * 2)).trans (formsC_at j hj15).1
    have c1 := (cell_blk hfm (j * 2 + 1)).trans (formsC_at j hj15).2
    have hpr := pred_any (x := fwd j) (n := fnum j) wr (H0.out.1.later hb.out) H0.out.2.2
    have ew : IntKind.i64.wrap ((j : Int) + 1) = (j : Int) + 1 := by rw [IntKind.wrap_i64]; omega
    have HPR := Lib.hid hpr
    have HJ := Lib.hid hj
    have HQ : Hid (prB (fwd j) s = decide (j = k)) := by
      unfold Hid
      by_cases q : j = k
      · rw [q, HP.out.2]; simp
      · rw [HP.out.1 j (by omega)]; simp [q]
    clear hfm hpr hj hj15
    generalize fwd j = xw at *
    generalize fnum j = xn at *
    go_wp2_with fail
    refine HPR.out.mono ?_
    rintro e w2 ⟨rfl, hb2⟩
    have HB2 : Hid (Below w.heap.size w w2) := bel_trans hb.out hb2
    rw [HQ.out]
    by_cases q : j = k
    · have hd : decide (j = k) = true := by simp [q]
      clear hb2
      go_wp2_with fail
      go_ret
      exact ⟨by first | rfl | (rw [q]; rfl), HB2.out⟩
    · have hd : decide (j = k) = false := by simp [q]
      have HN := Lib.hid q
      clear hb2 q
      go_wp2_with fail
      go_roundw
      case rel => exact ⟨j + 1, by have := HJ.out; have := HN.out; omega, by go_num, HB2⟩
      case measure => have := HJ.out; have := HN.out; simp only [intOf, Int.toNat_natCast]; omega
end

end Go.Proofs.YtbnipgajhpbolaaGreatDoor
