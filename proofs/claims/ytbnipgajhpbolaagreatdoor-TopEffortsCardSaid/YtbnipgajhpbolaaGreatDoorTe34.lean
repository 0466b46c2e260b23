/- The walk of lines.Print -/
import Derived.Test.YtbnipgajhpbolaaGreatDoorTe33
set_option linter.unusedVariables false
set_option linter.unusedSimpArgs false
namespace Go.Proofs.YtbnipgajhpbolaaGreatDoor

section
open Go.RowKit
/-- A row of strings of one's own. -/
def OwnS (w : World) (base : Nat) (v : Value) (xs : List ByteArray) : Prop := w.ownsRow base 9 1 v xs.length (xs.map Value.string)
theorem infoStr : (Tryz.prog.info? 9).map (fun i => (i.zero, i.size, i.bytes)) = some (some (.string ByteArray.empty), 1, 16) := by kernel_rfl
theorem undStrs : Tryz.prog.underlying 31 = some (.slice 9) := by kernel_rfl
theorem run_appS (w : World) (ty : TypeId) (base : Nat) (v : Value) (x : ByteArray) (xs : List ByteArray) (HO : OwnS w base v xs) (hbase : base ≤ w.heap.size) (b o c : Nat) (hr : w.cell? ⟨b, o, none⟩ = some (.string x)) (hl : xs.length + 1 ≤ 1000000000) :
    ∃ v1 w1, (Builtin.append_ #[31, 31] ty #[v, .slice (some ⟨b, o, none⟩) 1 c]).run Tryz.prog w = .ok v1 w1 ∧ OwnS w1 base v1 (xs ++ [x]) ∧ w.grownBy w1 v.ownBlock ∧ (v1.ownBlock = v.ownBlock ∨ v1.ownBlock = some w.heap.size) := by
  obtain ⟨i0, hi, hz0, hz1, hz2⟩ := info_parts infoStr
  obtain ⟨v', w', hrun, h2, h3, h4, h5⟩ := run_append_own_at (P := Tryz.prog) w base 31 ty 9 i0 (.string ByteArray.empty) 1 16 undStrs hi hz0 hz1 hz2 rfl (by decide) v xs.length (xs.map Value.string) HO ⟨b, o, none⟩ 1 c [.string x] rfl (fun j u hu => by
    cases j with
    | zero =>
      have : Value.string x = u := by simpa using hu
      subst this
      rw [addr_add, Nat.add_zero]
      exact hr
    | succ j => simp at hu) (fun u hu => by
      have : u = Value.string x := by simpa using hu
      rw [this]; rfl) (by simp only [maxLen]; omega) (by omega) hbase
  refine ⟨v', w', hrun, ?_, h3, h5⟩
  unfold OwnS
  rw [List.length_append, List.length_singleton, List.map_append]
  exact h2
theorem list_appS {ops : Array Oper} {rest : List Oper} {o : Oper} {a : Act} {w : World} {Q : Exit → Act → World → Prop} (base : Nat) (hgd : o.guard = none) (s x : Operand)
    (ho : o.op = .call { callee := .builtin .append, args := #[s, x], argTypes := #[31, 31] }) (v : Value) (xs : List ByteArray) (hs : a.eval s = v) (HO : OwnS w base v xs) (hbase : base ≤ w.heap.size)
    (b i c : Nat) (y : ByteArray) (hx : a.eval x = .slice (some ⟨b, i, none⟩) 1 c) (hr : w.cell? ⟨b, i, none⟩ = some (.string y)) (hl : xs.length + 1 ≤ 1000000000)
    (h : ∀ v1 w1, OwnS w1 base v1 (xs ++ [y]) → w.grownBy w1 v.ownBlock → (v1.ownBlock = v.ownBlock ∨ v1.ownBlock = some w.heap.size) → wpList Tryz.prog ops Q rest (a.put o.dst v1) w1) :
    wpList Tryz.prog ops Q (o :: rest) a w := by
  refine wpList_plain hgd fun K hK => ?_
  obtain ⟨v', w', hrun, h2, h3, h5⟩ := run_appS w o.type base v y xs HO hbase b i c hr hl
  unfold Oper.wp execOp
  simp only [ho, resolve, invoke, builtin, Sem.run_bind, Sem.run_pure, Result.andThen_ok, List.map_toArray, List.map_cons, List.map_nil, hs, hx, hrun]
  exact hK _ _ (h v' w' h2 h3 h5)
theorem OwnS.at {W : World} {base : Nat} {v : Value} {xs : List ByteArray} (h : OwnS W base v xs) (hn : 0 < xs.length) : ∃ g cap, v = .slice (some ⟨g, 0, none⟩) xs.length cap ∧ base ≤ g ∧ g < W.heap.size ∧ xs.length ≤ cap ∧ ∀ j x, xs[j]? = some x → W.cell? ⟨g, j, none⟩ = some (.string x) := by
  obtain ⟨h1, h2⟩ := h
  rcases h2 with ⟨-, h0⟩ | ⟨g, cap, cur, rfl, hb, hg, hn', hm, hs, ht⟩
  · omega
  · refine ⟨g, cap, rfl, hb, blk_lt hg, hn', fun j x hx => ?_⟩
    rw [cell_blk hg j]
    have hj := (List.getElem?_eq_some_iff.1 hx).1
    have e : (cur.toList.take (xs.length * 1))[j]? = (xs.map Value.string)[j]? := by rw [ht]
    rw [List.getElem?_take, if_pos (by omega), List.getElem?_map, hx, Array.getElem?_toList] at e
    exact e
theorem OwnS.new (W : World) (base : Nat) (x : ByteArray) (hb : base ≤ W.heap.size) : OwnS (W.alloc (.cells #[.string x] 9)) base (.slice (some ⟨W.heap.size, 0, none⟩) 1 1) [x] :=
  ⟨rfl, .inr ⟨_, 1, #[.string x], rfl, hb, heap_alloc_new _ _, Nat.le_refl _, by simp only [maxLen]; omega, rfl, rfl⟩⟩
theorem OwnS.later {W W' : World} {base : Nat} {v : Value} {xs : List ByteArray} (h : OwnS W base v xs) (b : Below W.heap.size W W') : OwnS W' base v xs := row_below h b
theorem fwd_size (k : Nat) (hk : k < 15) : (fwd k).size ≤ 8 := by
  rcases (show k = 0 ∨ k = 1 ∨ k = 2 ∨ k = 3 ∨ k = 4 ∨ k = 5 ∨ k = 6 ∨ k = 7 ∨ k = 8 ∨ k = 9 ∨ k = 10 ∨ k = 11 ∨ k = 12 ∨ k = 13 ∨ k = 14 by omega) with rfl | rfl | rfl | rfl | rfl | rfl | rfl | rfl | rfl | rfl | rfl | rfl | rfl | rfl | rfl <;> decide
theorem join_len (sep : List UInt8) : ∀ xs : List (List UInt8), (Lib.join xs sep).length ≤ (xs.map List.length).sum + xs.length * sep.length
  | [] => by simp [Lib.join_nil]
  | x :: r => by
    have key : ∀ r : List (List UInt8), (Lib.joinTail sep r).length ≤ (r.map List.length).sum + r.length * sep.length := fun r => by
      induction r with
      | nil => simp [Lib.joinTail]
      | cons y r ih =>
        unfold Lib.joinTail at ih ⊢
        simp only [List.map_cons, List.flatten_cons, List.length_append, List.sum_cons, List.length_cons] at ih ⊢
        rw [Nat.add_mul]
        omega
    rw [Lib.join_cons, List.length_append, List.map_cons, List.sum_cons, List.length_cons, Nat.add_mul]
    have := key r
    omega

theorem strings_join_ok {base g c : Nat} {W : World} {xs : List ByteArray} (h : OwnS W base (.slice (some ⟨g, 0, none⟩) xs.length c) xs) (hc : ∀ j x, xs[j]? = some x → W.cell? ⟨g, j, none⟩ = some (.string x)) (hg : g < W.heap.size) (hcap : xs.length ≤ c) (hn : xs.length ≤ 3) (hs : (xs.map fun x => x.data.toList.length).sum ≤ 1000) :
    Calls Tryz.prog 92 #[.slice (some ⟨g, 0, none⟩) xs.length c, .string ⟨#[32]⟩] W fun e w' => (∃ s : ByteArray, e = .returned (.string s)) ∧ Below W.heap.size W w' := by
  refine (Tryz.strings_Join g 0 c xs ⟨#[32]⟩ W (fun j x hx => by rw [Nat.zero_add]; exact hc j x hx) hg (by omega) hcap ?_).mono fun e w' q => ⟨⟨_, q.1⟩, q.2⟩
  have := join_len [32] (xs.map (·.data.toList))
  rw [List.map_map] at this
  simp only [List.length_map, List.length_singleton, Nat.mul_one] at this
  have e : (xs.map (List.length ∘ fun x => x.data.toList)) = xs.map fun x => x.data.toList.length := rfl
  rw [e] at this
  exact Nat.le_trans this (by omega)

set_option maxHeartbeats 32000000 in
set_option maxRecDepth 100000 in
theorem print_any {k m : Nat} {a b : Int} (w : World) (h : CmdO k m a b) (hit : ∀ (n : Int) (W : World), (n = a ∨ n = b) → Below w.heap.size w W → Calls Tryz.prog 91 #[.int .i64 n] W fun e w' => (∃ s : ByteArray, e = .returned (.string s) ∧ s.size ≤ 20) ∧ Below W.heap.size W w') :
    Calls Tryz.prog 74 #[.agg #[.int .i64 k, .int .i64 a, .int .i64 b, .slice none 0 0]] w fun e w' => (∃ s : ByteArray, e = .returned (.tuple #[.string s, .int .i64 0])) ∧ Below w.heap.size w w' := by
  have H := Lib.hid h
  have HIT := Lib.hid hit
  have hn1 := heap_alloc_new w (.cells #[.int .i64 k, .int .i64 a, .int .i64 b, .slice none 0 0] 111)
  have HB1 := Lib.hid (bel_alloc w (.cells #[.int .i64 k, .int .i64 a, .int .i64 b, .slice none 0 0] 111))
  have hix := forms_ix k h.kind.2
  rw [h.num.1] at hix
  have HXW := Lib.hid (fwd_size k h.kind.2)
  have hnu := nums_any (w.alloc (.cells #[.int .i64 k, .int .i64 a, .int .i64 b, .slice none 0 0] 111)) h
  have hk1 : decide ((k : Int) < 1) = false := by rw [decide_eq_false_iff_not]; have := h.kind; omega
  have hk2 : decide (14 < (k : Int)) = false := by rw [decide_eq_false_iff_not]; have := h.kind; omega
  clear h hit
  generalize fwd k = xw at *
  go_enter Tryz.func74, Tryz.ntmps74
  generalize hw1 : w.alloc (.cells #[.int .i64 k, .int .i64 a, .int .i64 b, .slice none 0 0] 111) = w1 at *
  have c0 : w1.cell? ⟨w.heap.size, 0, none⟩ = some (.int .i64 k) := (cell_blk hn1 0).trans rfl
  have c1 : w1.cell? ⟨w.heap.size, 1, none⟩ = some (.int .i64 a) := (cell_blk hn1 1).trans rfl
  have c2 : w1.cell? ⟨w.heap.size, 2, none⟩ = some (.int .i64 b) := (cell_blk hn1 2).trans rfl
  have c3 : w1.cell? ⟨w.heap.size, 3, none⟩ = some (.slice none 0 0) := (cell_blk hn1 3).trans rfl
  have HN1 := Lib.hid hn1
  clear hn1
  by_cases q6 : k = 6
  · subst q6
    simp only [Int.cast_ofNat_Int] at hix hnu hk1 hk2 c0 HN1 hw1 ⊢
    rcases H.out.mat rfl with rfl | rfl
    · clear hk1 hk2
      go_wp2_with fail
      refine hnu.mono ?_
      rintro e w2 ⟨gn, rfl, hgn, hb2⟩
      have HB2 := Lib.hid (bel_trans HB1.out hb2)
      have HGN := Lib.hid hgn
      have c02 := cell_later hb2 c0
      have hml := H.out.num.2
      have HM := Lib.hid hml
      clear hw1 hnu c0 c1 c2 c3 hb2 hgn hml
      go_wp2_with fail
      have S0 := Lib.hid c02
      have hfl : ∀ W, (Instr.field 141 (.agg #[.string xw, .int .i64 m]) 0).run Tryz.prog W = .ok (.string xw) W := fun W => by kernel_rfl
      go_region_held3 (fun w' => w'.cell? ⟨w.heap.size, 0, none⟩ = some (.int .i64 6) ∧ RW w2 w')
        (first | assumption | exact RW.one S0.out (RW.refl w2).drew | exact RW.one S0.out (RW.later (And.right (by assumption)) hb9) | exact RW.one S0.out (RW.alloc hs9 _) | exact RW.one S0.out (RW.alloc (RW.refl w2).drew _) | exact RW.one S0.out (RW.alloc (RW.refl w2) _).drew | fail)
        (first
          | (go_at_call 70; refine (forms_any _).mono ?_; rintro e w9 ⟨rfl, hb9⟩; have hs9 : RW w2 w9 := RW.later (And.right (by assumption)) hb9)
          | fail)
      have ho3 := OwnS.new w9 w.heap.size xw (by have := HB2.out.size; have := hs9.size; omega)
      have hc3 : (w9.alloc (.cells #[.string xw] 9)).cell? ⟨w9.heap.size, 0, none⟩ = some (.string xw) := (cell_blk (heap_alloc_new _ _) 0).trans rfl
      have HB3 : Hid (Below w.heap.size w (w9.alloc (.cells #[.string xw] 9))) := bel_trans HB2.out (bel_trans hs9 (bel_alloc _ _))
      have HGN3 : Hid ((w9.alloc (.cells #[.string xw] 9)).heap[gn]? = some (.cells #[.int .i64 1, .int .i64 b] 3 (0, 0))) := blk_later HGN.out (bel_trans hs9 (bel_alloc _ _))
      have HO3 := Lib.hid ho3
      clear hs9 hb9 c02 S0 hix ho3 hfl
      generalize (w9.alloc (.cells #[.string xw] 9)) = w3 at *
      generalize w9.heap.size = g9 at *
      go_wp2_with fail
      clear hc3
      go_loopw [6, 7, 52] (fun v6 v7 i wr => ∃ (j sz : Nat) (xs : List ByteArray), j ≤ m ∧ i = .int .i64 j ∧ v7 = .int .i64 sz ∧ Hid (sz ≤ 8 + 21 * j) ∧ Hid (Below w.heap.size w wr ∧ OwnS wr w.heap.size v6 xs ∧ xs.length = j + 1 ∧ (xs.map fun x => x.data.toList.length).sum ≤ 8 + 20 * j ∧ wr.heap[gn]? = some (.cells #[.int .i64 1, .int .i64 b] 3 (0, 0)))) (fun _ _ i _ => m - (intOf i).toNat)
      case atStart => exact ⟨0, xw.size, [xw], Nat.zero_le _, rfl, rfl, HXW.out, HB3.out, HO3.out, rfl, by have := HXW.out; show xw.data.toList.length + 0 ≤ 8; rw [Array.length_toList]; exact this, HGN3.out⟩
      case round =>
        clear HB3 HO3 HGN3
        obtain ⟨j, sz, xs, hj, rfl, rfl, hsz, hin⟩ := hrel
        obtain ⟨g6, c6, rfl, hg6b, hg6l, hc6, hcs6⟩ := hin.out.2.1.at (by have := hin.out.2.2.1; omega)
        have HXL := Lib.hid hin.out.2.2.1
        by_cases hlt : j < m
        · have HLT := Lib.hid hlt
          obtain ⟨v, hv, hvc⟩ : ∃ v : Int, (v = 1 ∨ v = b) ∧ wr.cell? ⟨gn, j, none⟩ = some (.int .i64 v) := by
            have hh := hin.out.2.2.2.2
            rcases (show j = 0 ∨ j = 1 by have := HM.out; omega) with rfl | rfl
            · exact ⟨1, .inl rfl, (cell_blk hh 0).trans rfl⟩
            · exact ⟨b, .inr rfl, (cell_blk hh 1).trans rfl⟩
          have hvb : 0 ≤ v ∧ v ≤ 999999999 := by
            have := H.out.ab
            rcases hv with rfl | rfl <;> omega
          have HIT1 := Lib.hid (HIT.out v wr hv hin.out.1)
          have v1 : decide (v < 0) = false := by rw [decide_eq_false_iff_not]; omega
          have v2 : decide (999999999 < v) = false := by rw [decide_eq_false_iff_not]; omega
          have hji : (0 : Int) ≤ (j : Int) ∧ (j : Int) < (m : Int) := by omega
          have HIN := Lib.hid hin.out
          have HSZ := Lib.hid hsz.out
          have HJ : Hid (j ≤ 1) := by have := HM.out; unfold Hid; omega
          have ew : IntKind.i64.wrap ((j : Int) + 1) = (j : Int) + 1 := by rw [IntKind.wrap_i64]; have := HJ.out; omega
          generalize hxn : xs.length = xn at *
          have HXN := Lib.hid hxn
          clear hcs6 hin hsz hv hvb hlt hj hxn
          go_wp2_with fail
          refine HIT1.out.mono ?_
          rintro e w4 ⟨⟨s4, rfl, hs4⟩, hb4⟩
          have HS4 := Lib.hid hs4
          have HO4 : Hid (OwnS (w4.alloc (.cells #[.string s4] 9)) w.heap.size (.slice (some ⟨g6, 0, none⟩) xn c6) xs) := (HIN.out.2.1.later hb4).later (bel_alloc _ _)
          have HB4 : Hid (Below w.heap.size w (w4.alloc (.cells #[.string s4] 9))) := bel_trans HIN.out.1 (bel_trans hb4 (bel_alloc _ _))
          have HG4 : Hid ((w4.alloc (.cells #[.string s4] 9)).heap[gn]? = some (.cells #[.int .i64 1, .int .i64 b] 3 (0, 0))) := blk_later HIN.out.2.2.2.2 (bel_trans hb4 (bel_alloc _ _))
          have HC4 : Hid ((w4.alloc (.cells #[.string s4] 9)).cell? ⟨w4.heap.size, 0, none⟩ = some (.string s4)) := (cell_blk (heap_alloc_new _ _) 0).trans rfl
          clear hb4 hs4
          have HLAST : Hid (∀ v5 w5, OwnS w5 w.heap.size v5 (xs ++ [s4]) → ∃ g7 c7, v5 = .slice (some ⟨g7, 0, none⟩) (xn + 1) c7 ∧ w5.cell? ⟨g7, xn, none⟩ = some (.string s4)) := fun v5 w5 o5 => by
            obtain ⟨g7, c7, e7, -, -, -, hcs7⟩ := o5.at (by simp)
            have h8 := HXN.out
            rw [List.length_append, List.length_singleton, h8] at e7
            exact ⟨g7, c7, e7, hcs7 xn s4 (by rw [← h8]; simp)⟩
          have hxi : (0 : Int) ≤ ((xn : Int) + 1) - 1 := by omega
          have exn : IntKind.i64.wrap ((xn : Int) + 1 - 1) = (xn : Int) := by rw [IntKind.wrap_i64]; have h1 := HXL.out; have h3 := HJ.out; omega
          have exn9 : wrap64 (xn : Int) = (xn : Int) := by unfold wrap64; have h1 := HXL.out; have h3 := HJ.out; omega
          have exn3 : (xn : Int) + 1 - 1 = (xn : Int) := by omega
          have hxi2 : (0 : Int) ≤ (xn : Int) ∧ (xn : Int) < (xn : Int) + 1 := by omega
          have es1 : IntKind.i64.wrap (1 + (s4.size : Int)) = 1 + (s4.size : Int) := by rw [IntKind.wrap_i64]; have := HS4.out; omega
          obtain ⟨sz2, hsz2⟩ : ∃ sz2 : Nat, sz + (1 + s4.size) = sz2 := ⟨_, rfl⟩
          have es2 : IntKind.i64.wrap ((sz : Int) + (1 + (s4.size : Int))) = (sz2 : Int) := by rw [IntKind.wrap_i64]; have := HS4.out; have := HSZ.out; have := HJ.out; omega
          have es3 : decide (65536 < (sz2 : Int)) = false := by rw [decide_eq_false_iff_not]; have := HS4.out; have := HSZ.out; have := HJ.out; omega
          have HSZ2 : Hid (sz2 ≤ 8 + 21 * (j + 1)) := by have := HS4.out; have := HSZ.out; unfold Hid; omega
          clear hsz2
          go_wp2_with (at_builtin; refine list_appS w.heap.size rfl _ _ rfl (.slice (some ⟨g6, 0, none⟩) xn c6) xs rfl HO4.out HB4.out.size w4.heap.size 0 1 s4 rfl HC4.out (by have h1 := HXN.out; have h2 := HXL.out; have h3 := HJ.out; omega) ?_; intro v5 w5 o5 g5 a5; obtain ⟨g7, c7, e7, hcl⟩ := HLAST.out _ _ o5; subst e7; have HO5 := Lib.hid o5; have HG5 := Lib.hid g5; clear o5 g5 a5)
          have HI : Hid (Below w.heap.size w w5 ∧ OwnS w5 w.heap.size (.slice (some ⟨g7, 0, none⟩) (xn + 1) c7) (xs ++ [s4]) ∧ (xs ++ [s4]).length = j + 1 + 1 ∧ ((xs ++ [s4]).map fun x => x.data.toList.length).sum ≤ 8 + 20 * (j + 1) ∧ w5.heap[gn]? = some (.cells #[.int .i64 1, .int .i64 b] 3 (0, 0))) := by
            have hblk := fun q (e : (Value.slice (some ⟨g6, 0, none⟩) xn c6).ownBlock = some q) => World.ownsRow.lt HO4.out q e
            refine ⟨RW.grown HB4.out HG5.out (fun q e => (hblk q e).1), HO5.out, by have := HIN.out.2.2.1; have := HXN.out; simp; omega, ?_, ?_⟩
            · have h1 := HIN.out.2.2.2.1
              have h2 : s4.data.toList.length ≤ 20 := by rw [Array.length_toList]; exact HS4.out
              rw [List.map_append, List.sum_append, List.map_singleton, List.sum_singleton]
              omega
            · refine (HG5.out.block gn (blk_lt HG4.out) (fun e => ?_)).trans HG4.out
              have e2 : gn = g6 := Option.some.inj e
              rcases HIN.out.2.1.2 with ⟨e3, -⟩ | ⟨g9', cap, cur, e3, -, hg9, -⟩
              · cases e3
              · simp only [Value.slice.injEq, Option.some.injEq, Addr.mk.injEq] at e3
                have e4 : g9' = gn := by have := e3.1.1; omega
                rw [e4, HIN.out.2.2.2.2] at hg9
                injection hg9 with hg9
                injection hg9 with _ hg9
                exact absurd hg9 (by decide)
          go_wp2_with fail
          go_roundw
          case rel => exact ⟨j + 1, sz2, _, by have := HLT.out; omega, by go_num, rfl, HSZ2, HI⟩
          case measure => have := HLT.out; simp only [intOf, Int.toNat_natCast]; omega
        · obtain rfl : j = m := by omega
          have hd : decide ((j : Int) < (j : Int)) = false := by rw [decide_eq_false_iff_not]; omega
          have hjn := strings_join_ok hin.out.2.1 hcs6 hg6l hc6 (by have := hin.out.2.2.1; have := HM.out; omega) (by have := hin.out.2.2.2.1; have := HM.out; omega)
          have HJN := Lib.hid hjn
          have HBW := Lib.hid hin.out.1
          clear hjn hin hcs6 hlt hj
          generalize xs.length = xn at *
          go_wp2_with fail
          refine HJN.out.mono ?_
          rintro e w4 ⟨⟨s4, rfl⟩, hb4⟩
          have HEND := Lib.hid (bel_trans HBW.out hb4)
          clear hb4
          go_wp2_with fail
          go_ret2
          exact ⟨⟨_, rfl⟩, HEND.out⟩
    · clear hk1 hk2
      go_wp2_with fail
      refine hnu.mono ?_
      rintro e w2 ⟨gn, rfl, hgn, hb2⟩
      have HB2 := Lib.hid (bel_trans HB1.out hb2)
      have HGN := Lib.hid hgn
      have c02 := cell_later hb2 c0
      have hml := H.out.num.2
      have HM := Lib.hid hml
      clear hw1 hnu c0 c1 c2 c3 hb2 hgn hml
      go_wp2_with fail
      have S0 := Lib.hid c02
      have hfl : ∀ W, (Instr.field 141 (.agg #[.string xw, .int .i64 m]) 0).run Tryz.prog W = .ok (.string xw) W := fun W => by kernel_rfl
      go_region_held3 (fun w' => w'.cell? ⟨w.heap.size, 0, none⟩ = some (.int .i64 6) ∧ RW w2 w')
        (first | assumption | exact RW.one S0.out (RW.refl w2).drew | exact RW.one S0.out (RW.later (And.right (by assumption)) hb9) | exact RW.one S0.out (RW.alloc hs9 _) | exact RW.one S0.out (RW.alloc (RW.refl w2).drew _) | exact RW.one S0.out (RW.alloc (RW.refl w2) _).drew | fail)
        (first
          | (go_at_call 70; refine (forms_any _).mono ?_; rintro e w9 ⟨rfl, hb9⟩; have hs9 : RW w2 w9 := RW.later (And.right (by assumption)) hb9)
          | fail)
      have ho3 := OwnS.new w9 w.heap.size xw (by have := HB2.out.size; have := hs9.size; omega)
      have hc3 : (w9.alloc (.cells #[.string xw] 9)).cell? ⟨w9.heap.size, 0, none⟩ = some (.string xw) := (cell_blk (heap_alloc_new _ _) 0).trans rfl
      have HB3 : Hid (Below w.heap.size w (w9.alloc (.cells #[.string xw] 9))) := bel_trans HB2.out (bel_trans hs9 (bel_alloc _ _))
      have HGN3 : Hid ((w9.alloc (.cells #[.string xw] 9)).heap[gn]? = some (.cells #[.int .i64 2, .int .i64 b] 3 (0, 0))) := blk_later HGN.out (bel_trans hs9 (bel_alloc _ _))
      have HO3 := Lib.hid ho3
      clear hs9 hb9 c02 S0 hix ho3 hfl
      generalize (w9.alloc (.cells #[.string xw] 9)) = w3 at *
      generalize w9.heap.size = g9 at *
      go_wp2_with fail
      clear hc3
      go_loopw [6, 7, 52] (fun v6 v7 i wr => ∃ (j sz : Nat) (xs : List ByteArray), j ≤ m ∧ i = .int .i64 j ∧ v7 = .int .i64 sz ∧ Hid (sz ≤ 8 + 21 * j) ∧ Hid (Below w.heap.size w wr ∧ OwnS wr w.heap.size v6 xs ∧ xs.length = j + 1 ∧ (xs.map fun x => x.data.toList.length).sum ≤ 8 + 20 * j ∧ wr.heap[gn]? = some (.cells #[.int .i64 2, .int .i64 b] 3 (0, 0)))) (fun _ _ i _ => m - (intOf i).toNat)
      case atStart => exact ⟨0, xw.size, [xw], Nat.zero_le _, rfl, rfl, HXW.out, HB3.out, HO3.out, rfl, by have := HXW.out; show xw.data.toList.length + 0 ≤ 8; rw [Array.length_toList]; exact this, HGN3.out⟩
      case round =>
        clear HB3 HO3 HGN3
        obtain ⟨j, sz, xs, hj, rfl, rfl, hsz, hin⟩ := hrel
        obtain ⟨g6, c6, rfl, hg6b, hg6l, hc6, hcs6⟩ := hin.out.2.1.at (by have := hin.out.2.2.1; omega)
        have HXL := Lib.hid hin.out.2.2.1
        by_cases hlt : j < m
        · have HLT := Lib.hid hlt
          obtain ⟨v, hv, hvc⟩ : ∃ v : Int, (v = 2 ∨ v = b) ∧ wr.cell? ⟨gn, j, none⟩ = some (.int .i64 v) := by
            have hh := hin.out.2.2.2.2
            rcases (show j = 0 ∨ j = 1 by have := HM.out; omega) with rfl | rfl
            · exact ⟨2, .inl rfl, (cell_blk hh 0).trans rfl⟩
            · exact ⟨b, .inr rfl, (cell_blk hh 1).trans rfl⟩
          have hvb : 0 ≤ v ∧ v ≤ 999999999 := by
            have := H.out.ab
            rcases hv with rfl | rfl <;> omega
          have HIT1 := Lib.hid (HIT.out v wr hv hin.out.1)
          have v1 : decide (v < 0) = false := by rw [decide_eq_false_iff_not]; omega
          have v2 : decide (999999999 < v) = false := by rw [decide_eq_false_iff_not]; omega
          have hji : (0 : Int) ≤ (j : Int) ∧ (j : Int) < (m : Int) := by omega
          have HIN := Lib.hid hin.out
          have HSZ := Lib.hid hsz.out
          have HJ : Hid (j ≤ 1) := by have := HM.out; unfold Hid; omega
          have ew : IntKind.i64.wrap ((j : Int) + 1) = (j : Int) + 1 := by rw [IntKind.wrap_i64]; have := HJ.out; omega
          generalize hxn : xs.length = xn at *
          have HXN := Lib.hid hxn
          clear hcs6 hin hsz hv hvb hlt hj hxn
          go_wp2_with fail
          refine HIT1.out.mono ?_
          rintro e w4 ⟨⟨s4, rfl, hs4⟩, hb4⟩
          have HS4 := Lib.hid hs4
          have HO4 : Hid (OwnS (w4.alloc (.cells #[.string s4] 9)) w.heap.size (.slice (some ⟨g6, 0, none⟩) xn c6) xs) := (HIN.out.2.1.later hb4).later (bel_alloc _ _)
          have HB4 : Hid (Below w.heap.size w (w4.alloc (.cells #[.string s4] 9))) := bel_trans HIN.out.1 (bel_trans hb4 (bel_alloc _ _))
          have HG4 : Hid ((w4.alloc (.cells #[.string s4] 9)).heap[gn]? = some (.cells #[.int .i64 2, .int .i64 b] 3 (0, 0))) := blk_later HIN.out.2.2.2.2 (bel_trans hb4 (bel_alloc _ _))
          have HC4 : Hid ((w4.alloc (.cells #[.string s4] 9)).cell? ⟨w4.heap.size, 0, none⟩ = some (.string s4)) := (cell_blk (heap_alloc_new _ _) 0).trans rfl
          clear hb4 hs4
          have HLAST : Hid (∀ v5 w5, OwnS w5 w.heap.size v5 (xs ++ [s4]) → ∃ g7 c7, v5 = .slice (some ⟨g7, 0, none⟩) (xn + 1) c7 ∧ w5.cell? ⟨g7, xn, none⟩ = some (.string s4)) := fun v5 w5 o5 => by
            obtain ⟨g7, c7, e7, -, -, -, hcs7⟩ := o5.at (by simp)
            have h8 := HXN.out
            rw [List.length_append, List.length_singleton, h8] at e7
            exact ⟨g7, c7, e7, hcs7 xn s4 (by rw [← h8]; simp)⟩
          have hxi : (0 : Int) ≤ ((xn : Int) + 1) - 1 := by omega
          have exn : IntKind.i64.wrap ((xn : Int) + 1 - 1) = (xn : Int) := by rw [IntKind.wrap_i64]; have h1 := HXL.out; have h3 := HJ.out; omega
          have exn9 : wrap64 (xn : Int) = (xn : Int) := by unfold wrap64; have h1 := HXL.out; have h3 := HJ.out; omega
          have exn3 : (xn : Int) + 1 - 1 = (xn : Int) := by omega
          have hxi2 : (0 : Int) ≤ (xn : Int) ∧ (xn : Int) < (xn : Int) + 1 := by omega
          have es1 : IntKind.i64.wrap (1 + (s4.size : Int)) = 1 + (s4.size : Int) := by rw [IntKind.wrap_i64]; have := HS4.out; omega
          obtain ⟨sz2, hsz2⟩ : ∃ sz2 : Nat, sz + (1 + s4.size) = sz2 := ⟨_, rfl⟩
          have es2 : IntKind.i64.wrap ((sz : Int) + (1 + (s4.size : Int))) = (sz2 : Int) := by rw [IntKind.wrap_i64]; have := HS4.out; have := HSZ.out; have := HJ.out; omega
          have es3 : decide (65536 < (sz2 : Int)) = false := by rw [decide_eq_false_iff_not]; have := HS4.out; have := HSZ.out; have := HJ.out; omega
          have HSZ2 : Hid (sz2 ≤ 8 + 21 * (j + 1)) := by have := HS4.out; have := HSZ.out; unfold Hid; omega
          clear hsz2
          go_wp2_with (at_builtin; refine list_appS w.heap.size rfl _ _ rfl (.slice (some ⟨g6, 0, none⟩) xn c6) xs rfl HO4.out HB4.out.size w4.heap.size 0 1 s4 rfl HC4.out (by have h1 := HXN.out; have h2 := HXL.out; have h3 := HJ.out; omega) ?_; intro v5 w5 o5 g5 a5; obtain ⟨g7, c7, e7, hcl⟩ := HLAST.out _ _ o5; subst e7; have HO5 := Lib.hid o5; have HG5 := Lib.hid g5; clear o5 g5 a5)
          have HI : Hid (Below w.heap.size w w5 ∧ OwnS w5 w.heap.size (.slice (some ⟨g7, 0, none⟩) (xn + 1) c7) (xs ++ [s4]) ∧ (xs ++ [s4]).length = j + 1 + 1 ∧ ((xs ++ [s4]).map fun x => x.data.toList.length).sum ≤ 8 + 20 * (j + 1) ∧ w5.heap[gn]? = some (.cells #[.int .i64 2, .int .i64 b] 3 (0, 0))) := by
            have hblk := fun q (e : (Value.slice (some ⟨g6, 0, none⟩) xn c6).ownBlock = some q) => World.ownsRow.lt HO4.out q e
            refine ⟨RW.grown HB4.out HG5.out (fun q e => (hblk q e).1), HO5.out, by have := HIN.out.2.2.1; have := HXN.out; simp; omega, ?_, ?_⟩
            · have h1 := HIN.out.2.2.2.1
              have h2 : s4.data.toList.length ≤ 20 := by rw [Array.length_toList]; exact HS4.out
              rw [List.map_append, List.sum_append, List.map_singleton, List.sum_singleton]
              omega
            · refine (HG5.out.block gn (blk_lt HG4.out) (fun e => ?_)).trans HG4.out
              have e2 : gn = g6 := Option.some.inj e
              rcases HIN.out.2.1.2 with ⟨e3, -⟩ | ⟨g9', cap, cur, e3, -, hg9, -⟩
              · cases e3
              · simp only [Value.slice.injEq, Option.some.injEq, Addr.mk.injEq] at e3
                have e4 : g9' = gn := by have := e3.1.1; omega
                rw [e4, HIN.out.2.2.2.2] at hg9
                injection hg9 with hg9
                injection hg9 with _ hg9
                exact absurd hg9 (by decide)
          go_wp2_with fail
          go_roundw
          case rel => exact ⟨j + 1, sz2, _, by have := HLT.out; omega, by go_num, rfl, HSZ2, HI⟩
          case measure => have := HLT.out; simp only [intOf, Int.toNat_natCast]; omega
        · obtain rfl : j = m := by omega
          have hd : decide ((j : Int) < (j : Int)) = false := by rw [decide_eq_false_iff_not]; omega
          have hjn := strings_join_ok hin.out.2.1 hcs6 hg6l hc6 (by have := hin.out.2.2.1; have := HM.out; omega) (by have := hin.out.2.2.2.1; have := HM.out; omega)
          have HJN := Lib.hid hjn
          have HBW := Lib.hid hin.out.1
          clear hjn hin hcs6 hlt hj
          generalize xs.length = xn at *
          go_wp2_with fail
          refine HJN.out.mono ?_
          rintro e w4 ⟨⟨s4, rfl⟩, hb4⟩
          have HEND := Lib.hid (bel_trans HBW.out hb4)
          clear hb4
          go_wp2_with fail
          go_ret2
          exact ⟨⟨_, rfl⟩, HEND.out⟩
  · have q6' : ((k : Int) == 6) = false := by simp; omega
    clear q6
    go_wp2_with fail
    refine hnu.mono ?_
    rintro e w2 ⟨gn, rfl, hgn, hb2⟩
    have HB2 := Lib.hid (bel_trans HB1.out hb2)
    have HGN := Lib.hid hgn
    have c02 := cell_later hb2 c0
    have hml := H.out.num.2
    have HM := Lib.hid hml
    clear hw1 hnu c0 c1 c2 c3 hb2 hgn hml
    go_wp2_with fail
    have S0 := Lib.hid c02
    have hfl : ∀ W, (Instr.field 141 (.agg #[.string xw, .int .i64 m]) 0).run Tryz.prog W = .ok (.string xw) W := fun W => by kernel_rfl
    go_region_held3 (fun w' => w'.cell? ⟨w.heap.size, 0, none⟩ = some (.int .i64 (k : Int)) ∧ RW w2 w')
      (first | assumption | exact RW.one S0.out (RW.refl w2).drew | exact RW.one S0.out (RW.later (And.right (by assumption)) hb9) | exact RW.one S0.out (RW.alloc hs9 _) | exact RW.one S0.out (RW.alloc (RW.refl w2).drew _) | exact RW.one S0.out (RW.alloc (RW.refl w2) _).drew | fail)
      (first
        | (go_at_call 70; refine (forms_any _).mono ?_; rintro e w9 ⟨rfl, hb9⟩; have hs9 : RW w2 w9 := RW.later (And.right (by assumption)) hb9)
        | fail)
    have ho3 := OwnS.new w9 w.heap.size xw (by have := HB2.out.size; have := hs9.size; omega)
    have hc3 : (w9.alloc (.cells #[.string xw] 9)).cell? ⟨w9.heap.size, 0, none⟩ = some (.string xw) := (cell_blk (heap_alloc_new _ _) 0).trans rfl
    have HB3 : Hid (Below w.heap.size w (w9.alloc (.cells #[.string xw] 9))) := bel_trans HB2.out (bel_trans hs9 (bel_alloc _ _))
    have HGN3 : Hid ((w9.alloc (.cells #[.string xw] 9)).heap[gn]? = some (.cells #[.int .i64 a, .int .i64 b] 3 (0, 0))) := blk_later HGN.out (bel_trans hs9 (bel_alloc _ _))
    have HO3 := Lib.hid ho3
    clear hs9 hb9 c02 S0 hix ho3 hfl
    generalize (w9.alloc (.cells #[.string xw] 9)) = w3 at *
    generalize w9.heap.size = g9 at *
    go_wp2_with fail
    clear hc3
    go_loopw [6, 7, 52] (fun v6 v7 i wr => ∃ (j sz : Nat) (xs : List ByteArray), j ≤ m ∧ i = .int .i64 j ∧ v7 = .int .i64 sz ∧ Hid (sz ≤ 8 + 21 * j) ∧ Hid (Below w.heap.size w wr ∧ OwnS wr w.heap.size v6 xs ∧ xs.length = j + 1 ∧ (xs.map fun x => x.data.toList.length).sum ≤ 8 + 20 * j ∧ wr.heap[gn]? = some (.cells #[.int .i64 a, .int .i64 b] 3 (0, 0)))) (fun _ _ i _ => m - (intOf i).toNat)
    case atStart => exact ⟨0, xw.size, [xw], Nat.zero_le _, rfl, rfl, HXW.out, HB3.out, HO3.out, rfl, by have := HXW.out; show xw.data.toList.length + 0 ≤ 8; rw [Array.length_toList]; exact this, HGN3.out⟩
    case round =>
      clear HB3 HO3 HGN3
      obtain ⟨j, sz, xs, hj, rfl, rfl, hsz, hin⟩ := hrel
      obtain ⟨g6, c6, rfl, hg6b, hg6l, hc6, hcs6⟩ := hin.out.2.1.at (by have := hin.out.2.2.1; omega)
      have HXL := Lib.hid hin.out.2.2.1
      by_cases hlt : j < m
      · have HLT := Lib.hid hlt
        obtain ⟨v, hv, hvc⟩ : ∃ v : Int, (v = a ∨ v = b) ∧ wr.cell? ⟨gn, j, none⟩ = some (.int .i64 v) := by
          have hh := hin.out.2.2.2.2
          rcases (show j = 0 ∨ j = 1 by have := HM.out; omega) with rfl | rfl
          · exact ⟨a, .inl rfl, (cell_blk hh 0).trans rfl⟩
          · exact ⟨b, .inr rfl, (cell_blk hh 1).trans rfl⟩
        have hvb : 0 ≤ v ∧ v ≤ 999999999 := by
          have := H.out.ab
          rcases hv with rfl | rfl <;> omega
        have HIT1 := Lib.hid (HIT.out v wr hv hin.out.1)
        have v1 : decide (v < 0) = false := by rw [decide_eq_false_iff_not]; omega
        have v2 : decide (999999999 < v) = false := by rw [decide_eq_false_iff_not]; omega
        have hji : (0 : Int) ≤ (j : Int) ∧ (j : Int) < (m : Int) := by omega
        have HIN := Lib.hid hin.out
        have HSZ := Lib.hid hsz.out
        have HJ : Hid (j ≤ 1) := by have := HM.out; unfold Hid; omega
        have ew : IntKind.i64.wrap ((j : Int) + 1) = (j : Int) + 1 := by rw [IntKind.wrap_i64]; have := HJ.out; omega
        generalize hxn : xs.length = xn at *
        have HXN := Lib.hid hxn
        clear hcs6 hin hsz hv hvb hlt hj hxn
        go_wp2_with fail
        refine HIT1.out.mono ?_
        rintro e w4 ⟨⟨s4, rfl, hs4⟩, hb4⟩
        have HS4 := Lib.hid hs4
        have HO4 : Hid (OwnS (w4.alloc (.cells #[.string s4] 9)) w.heap.size (.slice (some ⟨g6, 0, none⟩) xn c6) xs) := (HIN.out.2.1.later hb4).later (bel_alloc _ _)
        have HB4 : Hid (Below w.heap.size w (w4.alloc (.cells #[.string s4] 9))) := bel_trans HIN.out.1 (bel_trans hb4 (bel_alloc _ _))
        have HG4 : Hid ((w4.alloc (.cells #[.string s4] 9)).heap[gn]? = some (.cells #[.int .i64 a, .int .i64 b] 3 (0, 0))) := blk_later HIN.out.2.2.2.2 (bel_trans hb4 (bel_alloc _ _))
        have HC4 : Hid ((w4.alloc (.cells #[.string s4] 9)).cell? ⟨w4.heap.size, 0, none⟩ = some (.string s4)) := (cell_blk (heap_alloc_new _ _) 0).trans rfl
        clear hb4 hs4
        have HLAST : Hid (∀ v5 w5, OwnS w5 w.heap.size v5 (xs ++ [s4]) → ∃ g7 c7, v5 = .slice (some ⟨g7, 0, none⟩) (xn + 1) c7 ∧ w5.cell? ⟨g7, xn, none⟩ = some (.string s4)) := fun v5 w5 o5 => by
          obtain ⟨g7, c7, e7, -, -, -, hcs7⟩ := o5.at (by simp)
          have h8 := HXN.out
          rw [List.length_append, List.length_singleton, h8] at e7
          exact ⟨g7, c7, e7, hcs7 xn s4 (by rw [← h8]; simp)⟩
        have hxi : (0 : Int) ≤ ((xn : Int) + 1) - 1 := by omega
        have exn : IntKind.i64.wrap ((xn : Int) + 1 - 1) = (xn : Int) := by rw [IntKind.wrap_i64]; have h1 := HXL.out; have h3 := HJ.out; omega
        have exn9 : wrap64 (xn : Int) = (xn : Int) := by unfold wrap64; have h1 := HXL.out; have h3 := HJ.out; omega
        have exn3 : (xn : Int) + 1 - 1 = (xn : Int) := by omega
        have hxi2 : (0 : Int) ≤ (xn : Int) ∧ (xn : Int) < (xn : Int) + 1 := by omega
        have es1 : IntKind.i64.wrap (1 + (s4.size : Int)) = 1 + (s4.size : Int) := by rw [IntKind.wrap_i64]; have := HS4.out; omega
        obtain ⟨sz2, hsz2⟩ : ∃ sz2 : Nat, sz + (1 + s4.size) = sz2 := ⟨_, rfl⟩
        have es2 : IntKind.i64.wrap ((sz : Int) + (1 + (s4.size : Int))) = (sz2 : Int) := by rw [IntKind.wrap_i64]; have := HS4.out; have := HSZ.out; have := HJ.out; omega
        have es3 : decide (65536 < (sz2 : Int)) = false := by rw [decide_eq_false_iff_not]; have := HS4.out; have := HSZ.out; have := HJ.out; omega
        have HSZ2 : Hid (sz2 ≤ 8 + 21 * (j + 1)) := by have := HS4.out; have := HSZ.out; unfold Hid; omega
        clear hsz2
        go_wp2_with (at_builtin; refine list_appS w.heap.size rfl _ _ rfl (.slice (some ⟨g6, 0, none⟩) xn c6) xs rfl HO4.out HB4.out.size w4.heap.size 0 1 s4 rfl HC4.out (by have h1 := HXN.out; have h2 := HXL.out; have h3 := HJ.out; omega) ?_; intro v5 w5 o5 g5 a5; obtain ⟨g7, c7, e7, hcl⟩ := HLAST.out _ _ o5; subst e7; have HO5 := Lib.hid o5; have HG5 := Lib.hid g5; clear o5 g5 a5)
        have HI : Hid (Below w.heap.size w w5 ∧ OwnS w5 w.heap.size (.slice (some ⟨g7, 0, none⟩) (xn + 1) c7) (xs ++ [s4]) ∧ (xs ++ [s4]).length = j + 1 + 1 ∧ ((xs ++ [s4]).map fun x => x.data.toList.length).sum ≤ 8 + 20 * (j + 1) ∧ w5.heap[gn]? = some (.cells #[.int .i64 a, .int .i64 b] 3 (0, 0))) := by
          have hblk := fun q (e : (Value.slice (some ⟨g6, 0, none⟩) xn c6).ownBlock = some q) => World.ownsRow.lt HO4.out q e
          refine ⟨RW.grown HB4.out HG5.out (fun q e => (hblk q e).1), HO5.out, by have := HIN.out.2.2.1; have := HXN.out; simp; omega, ?_, ?_⟩
          · have h1 := HIN.out.2.2.2.1
            have h2 : s4.data.toList.length ≤ 20 := by rw [Array.length_toList]; exact HS4.out
            rw [List.map_append, List.sum_append, List.map_singleton, List.sum_singleton]
            omega
          · refine (HG5.out.block gn (blk_lt HG4.out) (fun e => ?_)).trans HG4.out
            have e2 : gn = g6 := Option.some.inj e
            rcases HIN.out.2.1.2 with ⟨e3, -⟩ | ⟨g9', cap, cur, e3, -, hg9, -⟩
            · cases e3
            · simp only [Value.slice.injEq, Option.some.injEq, Addr.mk.injEq] at e3
              have e4 : g9' = gn := by have := e3.1.1; omega
              rw [e4, HIN.out.2.2.2.2] at hg9
              injection hg9 with hg9
              injection hg9 with _ hg9
              exact absurd hg9 (by decide)
        go_wp2_with fail
        go_roundw
        case rel => exact ⟨j + 1, sz2, _, by have := HLT.out; omega, by go_num, rfl, HSZ2, HI⟩
        case measure => have := HLT.out; simp only [intOf, Int.toNat_natCast]; omega
      · obtain rfl : j = m := by omega
        have hd : decide ((j : Int) < (j : Int)) = false := by rw [decide_eq_false_iff_not]; omega
        have hjn := strings_join_ok hin.out.2.1 hcs6 hg6l hc6 (by have := hin.out.2.2.1; have := HM.out; omega) (by have := hin.out.2.2.2.1; have := HM.out; omega)
        have HJN := Lib.hid hjn
        have HBW := Lib.hid hin.out.1
        clear hjn hin hcs6 hlt hj
        generalize xs.length = xn at *
        go_wp2_with fail
        refine HJN.out.mono ?_
        rintro e w4 ⟨⟨s4, rfl⟩, hb4⟩
        have HEND := Lib.hid (bel_trans HBW.out hb4)
        clear hb4
        go_wp2_with fail
        go_ret2
        exact ⟨⟨_, rfl⟩, HEND.out⟩
end

end Go.Proofs.YtbnipgajhpbolaaGreatDoor
