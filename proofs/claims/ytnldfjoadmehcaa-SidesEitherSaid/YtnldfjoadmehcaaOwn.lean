/- The walks of Own and Kept: a copy with room behind it, and whether it is as it was. -/
import Derived.Test.YtnldfjoadmehcaaTools
set_option linter.unusedVariables false
set_option linter.unusedSimpArgs false
namespace Go.Proofs.Ytnldfjoadmehcaa
open Go.RowKit
attribute [local go_sem high] eqE

/-- append(v, l...) onto a fresh row with room. -/
theorem app_pad {P : Program} {ops : Array Oper} {rest : List Oper} {o : Oper} {a : Act} {Q : Exit → Act → World → Prop} {w : World} (hgd : o.guard = none) (s x : Operand) (t e : TypeId)
    (ho : o.op = .call { callee := .builtin .append, args := #[s, x], argTypes := #[t, t] }) (ht : P.underlying t = some (.slice e)) (i : TypeInfo) (hi : P.info? e = some i) (size : Nat) (hsz : i.size = size)
    (base g cap n : Nat) (hs : a.eval s = .slice (some ⟨g, 0, none⟩) 0 cap) (hown : w.ownsRow base e size (.slice (some ⟨g, 0, none⟩) 0 cap) 0 []) (A : Option Addr) (c : Nat) (hx : a.eval x = .slice A n c)
    (cs : List Value) (hcs : cs.length = n * size) (hnone : A = none → n = 0) (hnews : ∀ ad, A = some ad → ∀ j u, cs[j]? = some u → w.cell? (ad.add j) = some u) (h1 : ∀ u ∈ cs, u.oneCell' = true) (hfit : n ≤ cap)
    (h : ∀ w', w'.ownsRow base e size (.slice (some ⟨g, 0, none⟩) n cap) n cs → w.grownBy w' (some g) → wpList P ops Q rest (a.put o.dst (.slice (some ⟨g, 0, none⟩) n cap)) w') : wpList P ops Q (o :: rest) a w := by
  cases A with
  | some ad =>
    refine wpList_append_fits w hgd s x t ho base e i size ht hi hsz g 0 cap [] hs hown ad n c cs hx hcs (hnews ad rfl) h1 (by omega) ?_
    intro w' r1 r2
    simp only [Nat.zero_add, List.nil_append] at r1 ⊢
    exact h w' r1 r2
  | none =>
    obtain rfl := hnone rfl
    have : cs = [] := List.eq_nil_of_length_eq_zero (by simpa using hcs)
    subst this
    refine wpList_plain hgd fun K hK' => ?_
    have hrun := run_append_nothing w t t o.type e i ht hi (some ⟨g, 0, none⟩) 0 cap (Nat.zero_le _) _ (Src.ofNil w ht c)
    unfold Oper.wp
    simp [execOp, ho, resolve, invoke, builtin, hs, hx, hrun, Result.andThen]
    exact hK' _ _ (h w hown (World.grownBy.refl _ _))
theorem row_of_own {w : World} {base g n cap size : Nat} {e : TypeId} {cs : List Value} (h : w.ownsRow base e size (.slice (some ⟨g, 0, none⟩) n cap) n cs) :
    ∃ old : Nat → Value, RowF w g e (cap * size) (fun j => if j < n * size then cs.getD j undef else old j) := by
  rcases h.2 with ⟨e', _⟩ | ⟨g', cap', cur, e', hb, hg, hn, hm, hs, ht⟩
  · simp at e'
  · simp only [Value.slice.injEq, Option.some.injEq, Addr.mk.injEq, and_true, true_and] at e'
    obtain ⟨rfl, rfl⟩ := e'
    refine ⟨fun j => cur.getD j undef, cur, hg, hs, fun j hj => ?_⟩
    have hj' : j < cur.size := by omega
    by_cases q : j < n * size
    · simp only [if_pos q]
      rw [← ht]
      simp [List.getD_eq_getElem?_getD, List.getElem?_take, q, hj']
    · simp only [if_neg q]
      simp [Array.getD, hj']

theorem mk_pad {w : World} (t e : TypeId) (z : Value) (size bytes : Nat) (ht : Try.prog.underlying t = some (.slice e)) (hinfo : (Try.prog.info? e).map (fun i => (i.zero, i.size, i.bytes)) = some (some z, size, bytes)) (n : Nat) (hn : n ≤ 1000000) (hb : bytes ≤ 64) :
    (Instr.makeSlice t (.int .i64 0) (.int .i64 ((n : Int) + 3))).run Try.prog w = .ok (.slice (some ⟨w.heap.size, 0, none⟩) 0 (n + 3)) (w.alloc (.cells (madeCells z.cells ((n + 3) * size)) e)) := by
  obtain ⟨i0, hi, hz0, hz1, hz2⟩ := info_parts hinfo
  have hbb : (i0.bytes : Int) * ((n : Int) + 3) ≤ 281474976710656 := by
    rw [hz2]
    have : (bytes : Int) * ((n : Int) + 3) ≤ 64 * ((n : Int) + 3) := Int.mul_le_mul_of_nonneg_right (by omega) (by omega)
    omega
  have := run_make (P := Try.prog) w t e i0 z ht hi hz0 .i64 .i64 0 ((n : Int) + 3) (Int.le_refl _) (by omega) hbb (by omega)
  rw [hz1] at this
  rw [this]
  simp only [Int.toNat_zero]
  rw [show ((n : Int) + 3).toNat = n + 3 from by omega]

/-- The copy's row: what was copied, and the fill. -/
def padI (xs : List Int) (f : Int) (j : Nat) : Value := .int .i64 (if j < xs.length then gi xs j else f)

set_option maxHeartbeats 2000000 in
set_option maxRecDepth 100000 in
theorem ownI_any {A : Option Addr} {n c : Nat} {xs : List Int} (f : Int) (w : World) (h : ReadI w A n xs) (hn : n ≤ 1000) :
    Calls Try.prog 29 #[.slice A n c, .int .i64 f] w fun e w' => ∃ g, e = .returned (.slice (some ⟨g, 0, none⟩) n (n + 3)) ∧ Hid (RowF w' g 3 (n + 3) (padI xs f)) ∧ Hid (w.heap.size ≤ g) ∧ Below w.heap.size w w' := by
  obtain ⟨i0, hi, hz0, hz1, hz2⟩ := info_parts infoInt
  have H1 := Lib.hid h.1
  have hmk := mk_pad (w := w) 22 3 (.int .i64 0) 1 8 Try.underlying22 infoInt n (by omega) (by omega)
  have hmade := World.ownsRow_made (base := w.heap.size) (e := 3) (size := 1) w (madeCells (Value.int .i64 0).cells ((n + 3) * 1)) (n + 3) (Nat.le_refl _) (by unfold maxLen; omega) (by rw [size_madeCells])
  have hbA := bel_alloc w (.cells (madeCells (Value.int .i64 0).cells ((n + 3) * 1)) 3)
  have hRA := h.below hbA
  have hsl := fun W => cut_to (some ⟨w.heap.size, 0, none⟩) n (n + 3) (n + 3) ((n : Int) + 3) (by omega) (Nat.le_refl _) W
  generalize w.alloc (.cells (madeCells (Value.int .i64 0).cells ((n + 3) * 1)) 3) = w0 at *
  have HM := Lib.hid hmade
  have HRA := Lib.hid hRA
  have HBA := Lib.hid hbA
  have HAN : Hid (A = none → n = 0) := fun e => by
    rcases Nat.eq_zero_or_pos n with q | q
    · exact q
    · obtain ⟨b, o, e', -⟩ := h.2.2 q
      rw [e] at e'
      cases e'
  have HNW : Hid (∀ ad, A = some ad → ∀ j u, (nums xs)[j]? = some u → w0.cell? (ad.add j) = some u) := fun ad e => by
    have := HRA.out
    rw [e] at this
    exact this.news
  clear hmade hRA hbA h
  go_enter Try.func29, Try.ntmps29
  go_wp2_with (at_builtin; refine app_pad (w := w0) rfl _ _ 22 3 rfl Try.underlying22 i0 hi 1 hz1 w.heap.size w.heap.size (n + 3) n rfl HM.out A c rfl (nums xs) (by simp [nums, H1.out]) HAN.out HNW.out (by simp [nums, Value.oneCell']) (by omega) ?_; intro w2 own2 hg2)
  obtain ⟨old, hrow⟩ := row_of_own own2
  have HB2 : Hid (Below w.heap.size w w2) := Below.grown HBA.out hg2 (by have := HBA.out.size; omega) (fun k hk => by injection hk with e; omega)
  have HROW : Hid (RowF w2 w.heap.size 3 (n + 3) (fun j => if j < n then .int .i64 (gi xs j) else if j < n + 0 then .int .i64 f else old j)) := by
    have := hrow
    rw [Nat.mul_one, Nat.mul_one] at this
    refine this.congr fun j hj => ?_
    by_cases q : j < n
    · have q' : j < xs.length := by have := H1.out; omega
      simp [q, nums, gi, List.getD_eq_getElem?_getD, q']
    · simp [q]
  clear hrow own2 hg2 hmk hsl
  go_loopw [7] (fun i wr => ∃ k : Nat, k ≤ 3 ∧ i = .int .i64 ((n + k : Nat) : Int) ∧ Hid (RowF wr w.heap.size 3 (n + 3) (fun j => if j < n then .int .i64 (gi xs j) else if j < n + k then .int .i64 f else old j)) ∧ Hid (Below w.heap.size w wr)) (fun i _ => n + 3 - (intOf i).toNat)
  case atStart => exact ⟨0, by omega, by simp, HROW, HB2⟩
  case round =>
    obtain ⟨k, hk, rfl, hrow, hbr⟩ := hrel
    by_cases hlt : k < 3
    · obtain ⟨m, hm⟩ : ∃ m, m = n + k := ⟨_, rfl⟩
      have hmn : m < n + 3 := by omega
      have hc := RowF.cell hrow.out hmn
      have hf := RowF.froz hrow.out m
      have hmi : (0 : Int) ≤ (m : Int) ∧ (m : Int) < (n : Int) + 3 := by omega
      have HSET : Hid (RowF (wr.setCell ⟨w.heap.size, m, none⟩ (.int .i64 f)) w.heap.size 3 (n + 3) (fun j => if j < n then .int .i64 (gi xs j) else if j < n + (k + 1) then .int .i64 f else old j)) := (hrow.out.set m (.int .i64 f)).congr fun j hj => by
        by_cases q : j = m
        · subst q
          rw [if_pos rfl, if_neg (by omega), if_pos (by omega)]
        · rw [if_neg q]
          by_cases q2 : j < n
          · rw [if_pos q2, if_pos q2]
          · rw [if_neg q2, if_neg q2]
            by_cases q3 : j < n + k
            · rw [if_pos q3, if_pos (by omega)]
            · rw [if_neg q3, if_neg (by omega)]
      have HBS : Hid (Below w.heap.size w (wr.setCell ⟨w.heap.size, m, none⟩ (.int .i64 f))) := Below.setCell hbr.out (Nat.le_refl _) _
      have HMK := Lib.hid hm
      rw [← hm]
      have hm3 : m ≤ 1003 := by omega
      have hd : decide ((m : Int) < (n : Int) + 3) = true := by rw [decide_eq_true_eq]; omega
      have HLT := Lib.hid hlt
      clear hrow hbr hlt hk hm
      go_wp2_with fail
      go_roundw
      case rel => exact ⟨k + 1, by have := HLT.out; omega, by have := HMK.out; congr 1; omega, HSET, HBS⟩
      case measure => have := HMK.out; have := HLT.out; simp [intOf]; omega
    · obtain rfl : k = 3 := by omega
      have hd : decide (((n + 3 : Nat) : Int) < (n : Int) + 3) = false := by rw [decide_eq_false_iff_not]; omega
      simp only [Int.natCast_add, Int.cast_ofNat_Int] at hd ⊢
      go_wp2_with fail
      go_ret
      refine ⟨w.heap.size, rfl, hrow.out.congr fun j hj => ?_, Nat.le_refl _, hbr.out⟩
      unfold padI
      rw [H1.out]
      by_cases q : j < n
      · rw [if_pos q, if_pos q]
      · rw [if_neg q, if_neg q, if_pos hj]

/-- The copy's row of edges. -/
def padE (xs : List Ed) (f1 f2 : Int) (j : Nat) : Value := if j < xs.length * 2 then (ecells xs).getD j undef else if j % 2 = 0 then .int .i64 f1 else .int .i64 f2
theorem padI_read {w : World} {g n : Nat} {xs : List Int} {f : Int} (h : RowF w g 3 (n + 3) (padI xs f)) (hn : xs.length = n) (hm : n ≤ 1000) : ReadI w (some ⟨g, 0, none⟩) n xs := by
  refine ⟨hn, by omega, fun _ => ⟨g, 0, rfl, fun j hj => ?_⟩⟩
  rw [Nat.zero_add, h.cell (show j < n + 3 by omega)]
  unfold padI
  rw [if_pos (by omega)]
theorem padE_read {w : World} {g n : Nat} {xs : List Ed} {f1 f2 : Int} (h : RowF w g 41 ((n + 3) * 2) (padE xs f1 f2)) (hn : xs.length = n) (hm : n ≤ 1000) : ReadE w (some ⟨g, 0, none⟩) n xs := by
  refine ⟨hn, by omega, fun _ => ⟨g, 0, rfl, fun j hj => ?_⟩⟩
  obtain ⟨h1, h2⟩ := ecells_at xs j (by omega)
  rw [Nat.zero_add, h.cell (show j * 2 < (n + 3) * 2 by omega), h.cell (show j * 2 + 1 < (n + 3) * 2 by omega)]
  unfold padE
  rw [if_pos (by omega), if_pos (by omega)]
  simp [List.getD_eq_getElem?_getD, h1, h2]

set_option maxHeartbeats 2000000 in
set_option maxRecDepth 100000 in
theorem ownE_any {A : Option Addr} {n c : Nat} {xs : List Ed} (f1 f2 : Int) (w : World) (h : ReadE w A n xs) (hn : n ≤ 1000) :
    Calls Try.prog 30 #[.slice A n c, .agg #[.int .i64 f1, .int .i64 f2]] w fun e w' => ∃ g, e = .returned (.slice (some ⟨g, 0, none⟩) n (n + 3)) ∧ Hid (RowF w' g 41 ((n + 3) * 2) (padE xs f1 f2)) ∧ Hid (w.heap.size ≤ g) ∧ Below w.heap.size w w' := by
  obtain ⟨i0, hi, hz0, hz1, hz2⟩ := info_parts infoEdge
  have H1 := Lib.hid h.1
  have hsw : (w.alloc (ecell2 f1 f2)).heap.size = w.heap.size + 1 := by simp
  have hmk := mk_pad (w := w.alloc (ecell2 f1 f2)) 24 41 (.agg #[.int .i64 0, .int .i64 0]) 2 16 Try.underlying24 infoEdge n (by omega) (by omega)
  have hmade := World.ownsRow_made (base := w.heap.size + 1) (e := 41) (size := 2) (w.alloc (ecell2 f1 f2)) (madeCells (Value.agg #[.int .i64 0, .int .i64 0]).cells ((n + 3) * 2)) (n + 3) (by omega) (by unfold maxLen; omega) (by rw [size_madeCells])
  have hbA := bel_trans (bel_alloc w (ecell2 f1 f2)) (bel_alloc (w.alloc (ecell2 f1 f2)) (.cells (madeCells (Value.agg #[.int .i64 0, .int .i64 0]).cells ((n + 3) * 2)) 41))
  have hRA := h.below hbA
  have hfil : ((w.alloc (ecell2 f1 f2)).alloc (.cells (madeCells (Value.agg #[.int .i64 0, .int .i64 0]).cells ((n + 3) * 2)) 41)).heap[w.heap.size]? = some (ecell2 f1 f2) := by
    rw [heap_alloc_old _ _ (show w.heap.size < (w.alloc (ecell2 f1 f2)).heap.size by simp)]
    exact heap_alloc_new _ _
  have hsl := fun W => cutE_to (some ⟨w.heap.size + 1, 0, none⟩) n (n + 3) (n + 3) ((n : Int) + 3) (by omega) (Nat.le_refl _) W
  have hsz0 : ((w.alloc (ecell2 f1 f2)).alloc (.cells (madeCells (Value.agg #[.int .i64 0, .int .i64 0]).cells ((n + 3) * 2)) 41)).heap.size = w.heap.size + 2 := by simp
  rw [hsw] at hmk hmade
  generalize (w.alloc (ecell2 f1 f2)).alloc (.cells (madeCells (Value.agg #[.int .i64 0, .int .i64 0]).cells ((n + 3) * 2)) 41) = w0 at *
  have HM := Lib.hid hmade
  have HRA := Lib.hid hRA
  have HBA := Lib.hid hbA
  have HFI := Lib.hid hfil
  have HSZ := Lib.hid hsz0
  have HAN : Hid (A = none → n = 0) := fun e => by
    rcases Nat.eq_zero_or_pos n with q | q
    · exact q
    · obtain ⟨b, o, e', -⟩ := h.2.2 q
      rw [e] at e'
      cases e'
  have HNW : Hid (∀ ad, A = some ad → ∀ j u, (ecells xs)[j]? = some u → w0.cell? (ad.add j) = some u) := fun ad e => by
    have := HRA.out
    rw [e] at this
    exact this.news
  clear hmade hRA hbA h hsw hfil hsz0
  go_enter Try.func30, Try.ntmps30
  go_wp2_with (at_builtin; refine app_pad (w := w0) rfl _ _ 24 41 rfl Try.underlying24 i0 hi 2 hz1 (w.heap.size + 1) (w.heap.size + 1) (n + 3) n rfl HM.out A c rfl (ecells xs) (by rw [ecells_length, H1.out]) HAN.out HNW.out (ecells_one xs) (by omega) ?_; intro w2 own2 hg2)
  obtain ⟨old, hrow⟩ := row_of_own own2
  have HB2 : Hid (Below (w.heap.size + 1) w0 w2 ∧ w.heap.size + 2 ≤ w2.heap.size) := ⟨Below.grown (Below.refl _ _) hg2 (by have := HSZ.out; omega) (fun k hk => by injection hk with e; omega), by have := HSZ.out; have := hg2.size; omega⟩
  have HROW : Hid (RowF w2 (w.heap.size + 1) 41 ((n + 3) * 2) (fun j => if j < (n + 0) * 2 then padE xs f1 f2 j else old j)) := by
    refine hrow.congr fun j hj => ?_
    by_cases q : j < n * 2
    · rw [if_pos q, Nat.add_zero, if_pos q]
      unfold padE
      rw [if_pos (by have := H1.out; omega)]
    · rw [if_neg q, Nat.add_zero, if_neg q]
  clear hrow own2 hg2 hmk hsl
  go_loopw [7] (fun i wr => ∃ k : Nat, k ≤ 3 ∧ i = .int .i64 ((n + k : Nat) : Int) ∧ Hid (RowF wr (w.heap.size + 1) 41 ((n + 3) * 2) (fun j => if j < (n + k) * 2 then padE xs f1 f2 j else old j)) ∧ Hid (Below (w.heap.size + 1) w0 wr ∧ w.heap.size + 2 ≤ wr.heap.size)) (fun i _ => n + 3 - (intOf i).toNat)
  case atStart => exact ⟨0, by omega, by simp, HROW, HB2⟩
  case round =>
    obtain ⟨k, hk, rfl, hrow, hbr⟩ := hrel
    have hbox : wr.heap[w.heap.size]? = some (ecell2 f1 f2) := (hbr.out.1.block _ (by omega)).trans HFI.out
    obtain ⟨x0, x1, -, -⟩ := blk_cells hbox
    by_cases hlt : k < 3
    · obtain ⟨m, hm⟩ : ∃ m, m = n + k := ⟨_, rfl⟩
      have hmn : m < n + 3 := by omega
      have hc := RowF.cell hrow.out (show m * 2 < (n + 3) * 2 by omega)
      have hf := RowF.froz hrow.out (m * 2)
      have hset := hrow.out.set (m * 2) (.int .i64 f1)
      have hc2 := RowF.cell hrow.out (show m * 2 + 1 < (n + 3) * 2 by omega)
      have hf2 := RowF.froz hrow.out (m * 2 + 1)
      have hmi : (0 : Int) ≤ (m : Int) ∧ (m : Int) < (n : Int) + 3 := by omega
      have HSET : Hid (RowF ((wr.setCell ⟨w.heap.size + 1, m * 2, none⟩ (.int .i64 f1)).setCell ⟨w.heap.size + 1, m * 2 + 1, none⟩ (.int .i64 f2)) (w.heap.size + 1) 41 ((n + 3) * 2) (fun j => if j < (n + (k + 1)) * 2 then padE xs f1 f2 j else old j)) := (hset.set (m * 2 + 1) (.int .i64 f2)).congr fun j hj => by
        have hxl := H1.out
        by_cases q : j = m * 2 + 1
        · subst q
          rw [if_pos rfl, if_pos (by omega)]
          unfold padE
          rw [if_neg (by omega), if_neg (by omega)]
        · rw [if_neg q]
          by_cases q1 : j = m * 2
          · subst q1
            rw [if_pos rfl, if_pos (by omega)]
            unfold padE
            rw [if_neg (by omega), if_pos (by omega)]
          · rw [if_neg q1]
            by_cases q2 : j < (n + k) * 2
            · rw [if_pos q2, if_pos (by omega)]
            · rw [if_neg q2, if_neg (by omega)]
      have HBS : Hid (Below (w.heap.size + 1) w0 ((wr.setCell ⟨w.heap.size + 1, m * 2, none⟩ (.int .i64 f1)).setCell ⟨w.heap.size + 1, m * 2 + 1, none⟩ (.int .i64 f2)) ∧ w.heap.size + 2 ≤ ((wr.setCell ⟨w.heap.size + 1, m * 2, none⟩ (.int .i64 f1)).setCell ⟨w.heap.size + 1, m * 2 + 1, none⟩ (.int .i64 f2)).heap.size) :=
        ⟨Below.setCell (Below.setCell hbr.out.1 (Nat.le_refl _) _) (Nat.le_refl _) _, by simpa [World.setCell] using hbr.out.2⟩
      have HMK := Lib.hid hm
      rw [← hm]
      have hm3 : m ≤ 1003 := by omega
      have hd : decide ((m : Int) < (n : Int) + 3) = true := by rw [decide_eq_true_eq]; omega
      have HLT := Lib.hid hlt
      clear hrow hbr hlt hk hm hset hbox
      go_wp2_with fail
      go_roundw
      case rel => exact ⟨k + 1, by have := HLT.out; omega, by have := HMK.out; congr 1; omega, HSET, HBS⟩
      case measure => have := HMK.out; have := HLT.out; simp [intOf]; omega
    · obtain rfl : k = 3 := by omega
      have hd : decide (((n + 3 : Nat) : Int) < (n : Int) + 3) = false := by rw [decide_eq_false_iff_not]; omega
      have HB : Hid (Below w.heap.size w wr) := Below.trans HBA.out (hbr.out.1.mono (by omega))
      simp only [Int.natCast_add, Int.cast_ofNat_Int] at hd ⊢
      clear hbox x0 x1
      go_wp2_with fail
      go_ret
      refine ⟨w.heap.size + 1, rfl, hrow.out.congr fun j hj => ?_, Nat.le_succ _, HB.out⟩
      rw [if_pos hj]

set_option maxHeartbeats 2000000 in
set_option maxRecDepth 100000 in
theorem keptI_any {A : Option Addr} {n c g : Nat} {xs : List Int} (f : Int) (w : World) (h : ReadI w A n xs) (hr : RowF w g 3 (n + 3) (padI xs f)) (hn : n ≤ 1000) :
    Calls Try.prog 34 #[.slice (some ⟨g, 0, none⟩) n (n + 3), .slice A n c, .int .i64 f] w fun e w' => e = .returned (.bool true) ∧ Below w.heap.size w w' := by
  have H1 := Lib.hid h.1
  have hp := plain_any (ca := n + 3) (cb := c) w (padI_read hr h.1 hn) h
  rw [decide_eq_true rfl] at hp
  have hsl := fun W => cut_to (some ⟨g, 0, none⟩) n (n + 3) (n + 3) ((n : Int) + 3) (by omega) (Nat.le_refl _) W
  have HR := Lib.hid hr
  clear hr h
  go_enter Try.func34, Try.ntmps34
  go_wp2_with fail
  refine hp.mono ?_
  rintro e w1 ⟨rfl, hd⟩
  have HR1 := Lib.hid (HR.out.later (hd.below _))
  have HB1 := Lib.hid (hd.below w.heap.size)
  clear hd hp
  go_wp2_with fail
  clear hsl
  go_loopw [8] (fun i wr => ∃ k : Nat, k ≤ 3 ∧ i = .int .i64 ((n + k : Nat) : Int) ∧ w1 = wr) (fun i _ => n + 3 - (intOf i).toNat)
  case atStart => exact ⟨0, by omega, by simp, rfl⟩
  case round =>
    obtain ⟨k, hk, rfl, rfl⟩ := hrel
    by_cases hlt : k < 3
    · obtain ⟨m, hm⟩ : ∃ m, m = n + k := ⟨_, rfl⟩
      have hmn : m < n + 3 := by omega
      have hc := RowF.cell HR1.out hmn
      unfold padI at hc
      rw [if_neg (by have := H1.out; omega)] at hc
      have hmi : (0 : Int) ≤ (m : Int) ∧ (m : Int) < (n : Int) + 3 := by omega
      have HMK := Lib.hid hm
      rw [← hm]
      have hm3 : m ≤ 1003 := by omega
      have hd : decide ((m : Int) < (n : Int) + 3) = true := by rw [decide_eq_true_eq]; omega
      have HLT := Lib.hid hlt
      clear hlt hk hm
      go_wp2_with fail
      go_roundw
      case rel => exact ⟨k + 1, by have := HLT.out; omega, by have := HMK.out; congr 1; omega, by trivial⟩
      case measure => have := HMK.out; have := HLT.out; simp [intOf]; omega
    · obtain rfl : k = 3 := by omega
      have hd : decide (((n + 3 : Nat) : Int) < (n : Int) + 3) = false := by rw [decide_eq_false_iff_not]; omega
      simp only [Int.natCast_add, Int.cast_ofNat_Int] at hd ⊢
      go_wp2_with fail
      go_ret
      exact ⟨rfl, HB1.out⟩

set_option maxHeartbeats 2000000 in
set_option maxRecDepth 100000 in
theorem keptE_any2 {A : Option Addr} {n c g : Nat} {xs : List Ed} (f1 f2 : Int) (w : World) (h : ReadE w A n xs) (hr : RowF w g 41 ((n + 3) * 2) (padE xs f1 f2)) (hn : n ≤ 1000) :
    Calls Try.prog 35 #[.slice (some ⟨g, 0, none⟩) n (n + 3), .slice A n c, .agg #[.int .i64 f1, .int .i64 f2]] w fun e w' => e = .returned (.bool true) ∧ Below w.heap.size w w' := by
  have H1 := Lib.hid h.1
  have hbA := bel_alloc w (ecell2 f1 f2)
  have hr2 := hr.later hbA
  have hp := plainE_any (ca := n + 3) (cb := c) _ (padE_read hr2 h.1 hn) (h.below hbA)
  rw [decide_eq_true rfl] at hp
  have hsl := fun W => cutE_to (some ⟨g, 0, none⟩) n (n + 3) (n + 3) ((n : Int) + 3) (by omega) (Nat.le_refl _) W
  have HR := Lib.hid hr2
  have HBX : Hid ((w.alloc (ecell2 f1 f2)).heap[w.heap.size]? = some (ecell2 f1 f2)) := heap_alloc_new _ _
  have HBA := Lib.hid hbA
  clear hr h hr2 hbA
  go_enter Try.func35, Try.ntmps35
  go_wp2_with fail
  refine hp.mono ?_
  rintro e w1 ⟨rfl, hd⟩
  have HR1 := Lib.hid (HR.out.later hd)
  have HB1 := Lib.hid (bel_trans HBA.out hd)
  have HBX1 := Lib.hid (blk_later HBX.out hd)
  clear hd hp
  go_wp2_with fail
  clear hsl
  go_loopw [8] (fun i wr => ∃ k : Nat, k ≤ 3 ∧ i = .int .i64 ((n + k : Nat) : Int) ∧ Hid (Drawn w1 wr)) (fun i _ => n + 3 - (intOf i).toNat)
  case atStart => exact ⟨0, by omega, by simp, Drawn.refl _⟩
  case round =>
    obtain ⟨k, hk, rfl, hdr⟩ := hrel
    have hrow := HR1.out.later (hdr.out.below _)
    obtain ⟨x0, x1, -, -⟩ := blk_cells (blk_later HBX1.out (hdr.out.below _))
    by_cases hlt : k < 3
    · obtain ⟨m, hm⟩ : ∃ m, m = n + k := ⟨_, rfl⟩
      have hmn : m < n + 3 := by omega
      have hc := RowF.cell hrow (show m * 2 < (n + 3) * 2 by omega)
      have hc2 := RowF.cell hrow (show m * 2 + 1 < (n + 3) * 2 by omega)
      unfold padE at hc hc2
      rw [if_neg (by have := H1.out; omega), if_pos (by omega)] at hc
      rw [if_neg (by have := H1.out; omega), if_neg (by omega)] at hc2
      have hmi : (0 : Int) ≤ (m : Int) ∧ (m : Int) < (n : Int) + 3 := by omega
      have HMK := Lib.hid hm
      rw [← hm]
      have hm3 : m ≤ 1003 := by omega
      have hd : decide ((m : Int) < (n : Int) + 3) = true := by rw [decide_eq_true_eq]; omega
      have HLT := Lib.hid hlt
      clear hlt hk hm hrow
      go_wp2_with fail
      go_quiet (fail)
      go_wp2_with fail
      go_roundw
      case rel => exact ⟨k + 1, by have := HLT.out; omega, by have := HMK.out; congr 1; omega, hdr.out.step _⟩
      case measure => have := HMK.out; have := HLT.out; simp [intOf]; omega
    · obtain rfl : k = 3 := by omega
      have hd : decide (((n + 3 : Nat) : Int) < (n : Int) + 3) = false := by rw [decide_eq_false_iff_not]; omega
      have HF := Lib.hid (bel_trans HB1.out (hdr.out.below _))
      simp only [Int.natCast_add, Int.cast_ofNat_Int] at hd ⊢
      clear x0 x1 hrow
      go_wp2_with fail
      go_ret
      exact ⟨rfl, HF.out⟩

end Go.Proofs.Ytnldfjoadmehcaa
