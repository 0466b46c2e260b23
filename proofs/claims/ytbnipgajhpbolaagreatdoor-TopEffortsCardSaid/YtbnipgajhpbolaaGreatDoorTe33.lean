/- The walk of lines.Parse on lines with at most two numbers; The walk of lines.numbers -/
import Derived.Test.YtbnipgajhpbolaaGreatDoorTe31
import Derived.Test.YtbnipgajhpbolaaGreatDoorShelf
import Derived.Test.YtbnipgajhpbolaaGreatDoorTe18
set_option linter.unusedVariables false
set_option linter.unusedSimpArgs false
namespace Go.Proofs.YtbnipgajhpbolaaGreatDoor

section
open Go.RowKit
/-- The numbers behind the word. -/
def numsW (ws : List ByteArray) : List Int := (ws.drop 1).map fun s => ((valD s.data.toList : Nat) : Int)
/-- A line of kind k, with its words. -/
structure LineO (s : ByteArray) (k : Nat) (ws : List ByteArray) (a b : Int) : Prop where
  sz : s.size ≤ 65536
  sp : Lib.splitB ⟨#[32]⟩ 0 (Lib.countB s ⟨#[32]⟩) s = ws
  len : Lib.countB s ⟨#[32]⟩ + 1 = ws.length
  kind : 1 ≤ k ∧ k < 15
  w0 : ∃ s0, ws[0]? = some s0 ∧ (∀ j, j < k → prB (fwd j) s0 = false) ∧ prB (fwd k) s0 = true
  num : ∃ m : Nat, fnum k = (m : Int) ∧ m ≤ 2 ∧ ws.length = m + 1
  dig : ∀ x ∈ ws.drop 1, DigO x.data.toList
  va : gi (numsW ws ++ [0, 0]) 0 = a
  vb : gi (numsW ws ++ [0, 0]) 1 = b
  mat : k = 6 → a = 1 ∨ a = 2
theorem bel_setRow {base g : Nat} {w W : World} (cs : Array Value) (h : Below base w W) (hg : base ≤ g) : Below base w (W.setRow g cs) :=
  ⟨h.os, h.tape, h.output, by rw [setRow_size]; exact h.size, fun k hk => (setRow_other _ _ _ _ (by omega)).trans (h.block k hk)⟩
theorem own_two (W : World) (x y : Int) : ReadI (W.alloc (.cells #[.int .i64 x, .int .i64 y] 3)) (some ⟨W.heap.size, 0, none⟩) 2 [x, y] := by
  have h := heap_alloc_new W (.cells #[.int .i64 x, .int .i64 y] 3)
  refine ⟨rfl, by omega, fun _ => ⟨W.heap.size, 0, rfl, fun j hj => ?_⟩⟩
  rcases (show j = 0 ∨ j = 1 by omega) with rfl | rfl
  · exact (cell_blk h 0).trans rfl
  · exact (cell_blk h 1).trans rfl

theorem rdw_new (w : World) (c : Obj) (ws : List ByteArray) (W4 : World) (e : W4 = (((w.alloc c).alloc (.cells (ws.map Value.string).toArray 9)).alloc (.cells #[.slice (some ⟨w.heap.size + 1, 0, none⟩) ws.length ws.length] 139)).alloc (.cells #[.pointer (some ⟨w.heap.size + 1 + 1, 0, none⟩)] 136)) :
    RDW (w.heap.size + 1 + 1 + 1) (w.heap.size + 1 + 1) (w.heap.size + 1) ws W4 ∧ Below w.heap.size w W4 ∧ W4.heap[w.heap.size]? = some c ∧ W4.heap.size = w.heap.size + 1 + 1 + 1 + 1 := by
  subst e
  have z1 : (w.alloc c).heap.size = w.heap.size + 1 := by simp
  have n1 := heap_alloc_new w c
  have b1 := bel_alloc w c
  generalize w.alloc c = w1 at *
  have n2 := heap_alloc_new w1 (.cells (ws.map Value.string).toArray 9)
  have b2 := bel_alloc w1 (.cells (ws.map Value.string).toArray 9)
  have z2 : (w1.alloc (.cells (ws.map Value.string).toArray 9)).heap.size = w.heap.size + 1 + 1 := by simp [z1]
  rw [z1] at n2
  generalize (w1.alloc (.cells (ws.map Value.string).toArray 9)) = w2 at *
  have n3 := heap_alloc_new w2 (.cells #[.slice (some ⟨w.heap.size + 1, 0, none⟩) ws.length ws.length] 139)
  have b3 := bel_alloc w2 (.cells #[.slice (some ⟨w.heap.size + 1, 0, none⟩) ws.length ws.length] 139)
  have z3 : (w2.alloc (.cells #[.slice (some ⟨w.heap.size + 1, 0, none⟩) ws.length ws.length] 139)).heap.size = w.heap.size + 1 + 1 + 1 := by simp [z2]
  rw [z2] at n3
  generalize (w2.alloc (.cells #[.slice (some ⟨w.heap.size + 1, 0, none⟩) ws.length ws.length] 139)) = w3 at *
  have n4 := heap_alloc_new w3 (.cells #[.pointer (some ⟨w.heap.size + 1 + 1, 0, none⟩)] 136)
  have b4 := bel_alloc w3 (.cells #[.pointer (some ⟨w.heap.size + 1 + 1, 0, none⟩)] 136)
  have z4 : (w3.alloc (.cells #[.pointer (some ⟨w.heap.size + 1 + 1, 0, none⟩)] 136)).heap.size = w.heap.size + 1 + 1 + 1 + 1 := by simp [z3]
  rw [z3] at n4
  generalize (w3.alloc (.cells #[.pointer (some ⟨w.heap.size + 1 + 1, 0, none⟩)] 136)) = w4 at *
  exact ⟨⟨n4, blk_later n3 b4, blk_later (blk_later n2 b3) b4⟩, bel_trans b1 (bel_trans b2 (bel_trans b3 b4)), blk_later (blk_later (blk_later n1 b2) b3) b4, z4⟩

set_option maxHeartbeats 16000000 in
set_option maxRecDepth 100000 in
theorem parse_any {s : ByteArray} {k : Nat} {ws : List ByteArray} {a b mx : Int} (w : World) (h : LineO s k ws a b) (hm : w.cell? ⟨0, 0, none⟩ = some (.int .i64 mx)) :
    Calls Tryz.prog 54 #[.string s] w fun e w' => e = .returned (.tuple #[.agg #[.int .i64 k, .int .i64 a, .int .i64 b, .slice none 0 0], .int .i64 0]) ∧ Below w.heap.size w w' := by
  obtain ⟨s0, hs0, hp0, hq0⟩ := h.w0
  obtain ⟨m, hm1, hm2, hm3⟩ := h.num
  have H := Lib.hid h
  have HN := Lib.hid (And.intro hs0 (And.intro hp0 (And.intro hq0 (And.intro hm1 (And.intro hm2 hm3)))))
  have a1 : decide (65536 < (s.size : Int)) = false := by rw [decide_eq_false_iff_not]; have := h.sz; omega
  have hb0 := bel_alloc w (.cells #[.int .i64 0, .int .i64 0, .int .i64 0, .slice none 0 0] 111)
  have hsp := Tryz.strings_Split s ⟨#[32]⟩ mx (w.alloc (.cells #[.int .i64 0, .int .i64 0, .int .i64 0, .slice none 0 0] 111)) (by have := h.sz; omega) (cell_later hb0 hm) (by decide)
  rw [h.sp, h.len] at hsp
  have HSP := Lib.hid hsp
  have HB0 := Lib.hid hb0
  clear h hs0 hp0 hq0 hm1 hm2 hm3 hb0 hsp hm
  go_enter Tryz.func54, Tryz.ntmps54
  go_wp2_with fail
  refine HSP.out.mono ?_
  rintro e w' ⟨rfl, rfl⟩
  have hrd := rdw_new w (.cells #[.int .i64 0, .int .i64 0, .int .i64 0, .slice none 0 0] 111) ws _ rfl
  have HRD := Lib.hid hrd
  clear hrd
  go_wp2_with fail
  generalize ((((w.alloc (.cells #[.int .i64 0, .int .i64 0, .int .i64 0, .slice none 0 0] 111)).alloc (.cells (ws.map Value.string).toArray 9)).alloc (.cells #[.slice (some ⟨w.heap.size + 1, 0, none⟩) ws.length ws.length] 139)).alloc (.cells #[.pointer (some ⟨w.heap.size + 1 + 1, 0, none⟩)] 136)) = w4 at *
  refine (forms_any w4).mono ?_
  rintro e w5 ⟨rfl, hb5⟩
  have hfm := heap_alloc_new w5 (.cells formsC 142)
  have HB6 : Hid (Below w4.heap.size w4 (w5.alloc (.cells formsC 142))) := bel_trans hb5 (bel_alloc _ _)
  have HF6 : Hid (FMW w5.heap.size (w5.alloc (.cells formsC 142))) := hfm
  clear hb5 hfm
  go_wp2_with (refine wpList_store_new rfl 142 (.tmp 5) (.tmp 21) rfl w5 _ formsC rfl rfl rfl infoForms (by kernel_rfl) (by kernel_rfl) ?_)
  generalize (w5.alloc (.cells formsC 142)) = w6 at *
  generalize w5.heap.size = fb at *
  have HR6 := Lib.hid (HRD.out.1.later HB6.out)
  have hix := idxf_any w6 HR6.out HF6.out HN.out.1 H.out.kind.2 HN.out.2.1 HN.out.2.2.1
  refine hix.mono ?_
  rintro e w7 ⟨rfl, hb7⟩
  have HB7 : Hid (Below w4.heap.size w4 w7) := bel_trans HB6.out hb7
  have HR7 := Lib.hid (HR6.out.later hb7)
  have HF7 : Hid (FMW fb w7) := (hb7.block fb (blk_lt HF6.out)).trans HF6.out
  clear hb7 hix
  obtain ⟨c0, c1, -⟩ := HR7.out.cells
  have hfk := (cell_blk HF7.out (k * 2 + 1)).trans (formsC_at k H.out.kind.2).2
  rw [HN.out.2.2.2.1] at hfk
  rw [HN.out.2.2.2.2.2] at c1
  obtain ⟨m9, hm9⟩ : ∃ m9 : Nat, m9 = m := ⟨_, rfl⟩
  rw [← hm9] at hfk c1
  have HM9 := Lib.hid hm9
  have hk1 := H.out.kind
  have ki : (0 : Int) ≤ (k : Int) ∧ (k : Int) < 15 := by omega
  have k0 : decide ((k : Int) < 0) = false := by rw [decide_eq_false_iff_not]; omega
  have m0 : decide ((0 : Int) ≤ (m9 : Int)) = true := by rw [decide_eq_true_eq]; omega
  have ew : IntKind.i64.wrap ((m9 : Int) + 1) = (m9 : Int) + 1 := by rw [IntKind.wrap_i64]; have := HN.out.2.2.2.2.1; omega
  clear hm9 hk1
  go_wp2_with fail
  go_region
  go_wp2_with fail
  have HB8 : Hid (Below w4.heap.size w4 w7.drew) := bel_trans HB7.out (RW.refl w7).drew
  have HR8 : Hid (RDW (w.heap.size + 1 + 1 + 1) (w.heap.size + 1 + 1) (w.heap.size + 1) ws w7.drew) := HR7.out.later (RW.refl w7).drew
  have HF8 : Hid (FMW fb w7.drew) := HF7.out
  clear c0 c1 hfk m0 ew HR7 HF7 HB7
  generalize w7.drew = w8 at *
  obtain ⟨nw, hnw⟩ : ∃ nw, ws.length = nw := ⟨_, rfl⟩
  have HNW : Hid (ws.length = nw ∧ nw = m9 + 1 ∧ m9 ≤ 2) := ⟨hnw, by rw [← hnw, HN.out.2.2.2.2.2, HM9.out], by rw [HM9.out]; exact HN.out.2.2.2.2.1⟩
  clear hnw
  go_loopw [8, 9] (fun v8 i wr => ∃ (j : Nat), 1 ≤ j ∧ j ≤ nw ∧ i = .int .i64 j ∧ Hid (Below w8.heap.size w8 wr ∧ OwnI wr w8.heap.size v8 ((numsW ws).take (j - 1)))) (fun _ i _ => nw - (intOf i).toNat)
  case atStart => exact ⟨1, Nat.le_refl _, by have := HNW.out; omega, rfl, Below.refl _ _, World.ownsRow_nil _ _ _ _⟩
  case round =>
    obtain ⟨j, hj1, hj2, rfl, hin⟩ := hrel
    have hR := HR8.out.later hin.out.1
    obtain ⟨c0, c1, -⟩ := hR.cells
    rw [HNW.out.1] at c1
    by_cases hlt : j < nw
    · have HLT := Lib.hid (And.intro hj1 hlt)
      have hjl : j < ws.length := by have := HNW.out; omega
      obtain ⟨x, hx⟩ : ∃ x, ws[j]? = some x := ⟨_, List.getElem?_eq_getElem hjl⟩
      have hxd : x ∈ ws.drop 1 := by
        have : (ws.drop 1)[j - 1]? = some x := by rw [List.getElem?_drop, ← hx]; congr 1; omega
        exact List.mem_of_getElem? this
      have hnu := number_any wr hR hx (H.out.dig x hxd) (by have := HNW.out; omega)
      have HNU := Lib.hid hnu
      have HV : Hid ((numsW ws).take (j - 1) ++ [((valD x.data.toList : Nat) : Int)] = (numsW ws).take (j + 1 - 1)) := by
        unfold Hid numsW
        have e : j + 1 - 1 = (j - 1) + 1 := by omega
        rw [e, List.take_add_one, List.getElem?_map, List.getElem?_drop, show 1 + (j - 1) = j by omega, hx]
        rfl
      have HIN := Lib.hid hin.out
      have ew : IntKind.i64.wrap ((j : Int) + 1) = (j : Int) + 1 := by rw [IntKind.wrap_i64]; have := HNW.out; omega
      obtain ⟨A8, c8, n8, rfl⟩ := OwnI.shape hin.out.2
      have HLN : Hid (((numsW ws).take (j - 1)).length ≤ 100) := by unfold Hid; rw [List.length_take]; have := HNW.out; omega
      clear hR hjl hx hxd hnu hin hj1 hj2
      generalize ((valD x.data.toList : Nat) : Int) = v at *
      go_wp2_with fail
      refine HNU.out.mono ?_
      rintro e w9 ⟨rfl, hb9⟩
      have HO9 : Hid (OwnI (w9.alloc (.cells #[.int .i64 v] 3)) w8.heap.size (.slice A8 c8 n8) ((numsW ws).take (j - 1))) := own_later (own_later HIN.out.2 hb9) (bel_alloc _ _)
      have HSZ : Hid (w8.heap.size ≤ (w9.alloc (.cells #[.int .i64 v] 3)).heap.size) := by have h1 := HIN.out.1.size; have h2 := hb9.size; unfold Hid; simp; omega
      have HB9 : Hid (Below w8.heap.size w8 (w9.alloc (.cells #[.int .i64 v] 3))) := bel_trans (bel_trans HIN.out.1 hb9) (bel_alloc _ _)
      clear hb9
      go_wp2_with (at_builtin; refine list_appI w8.heap.size rfl _ _ rfl (.slice A8 c8 n8) ((numsW ws).take (j - 1)) [v] rfl HO9.out HSZ.out _ 1 1 rfl (own_one w9 v) (by have := HLN.out; omega) ?_; intro v1 w10 o1 g1 a1)
      have HI : Hid (Below w8.heap.size w8 w10 ∧ OwnI w10 w8.heap.size v1 ((numsW ws).take (j + 1 - 1))) := ⟨RW.grown HB9.out g1 (row_base HO9.out), by rw [← HV.out]; exact o1⟩
      clear o1 g1 a1
      go_wp2_with fail
      go_roundw
      case rel => exact ⟨j + 1, by omega, by have := HLT.out; omega, by go_num, HI⟩
      case measure => have := HLT.out; simp only [intOf, Int.toNat_natCast]; omega
    · have hge : nw ≤ j := by omega
      obtain ⟨A8, c8, n8, rfl⟩ := OwnI.shape hin.out.2
      have hown : OwnI wr w8.heap.size (.slice A8 c8 n8) (numsW ws) := by
        have h1 := hin.out.2
        rw [List.take_of_length_le (by unfold numsW; rw [List.length_map, List.length_drop]; have := HNW.out; omega)] at h1
        exact h1
      have HOWN := Lib.hid hown
      have HBW := Lib.hid hin.out.1
      have hb1 := bel_alloc wr (.cells #[.int .i64 k, .int .i64 0, .int .i64 0, .slice none 0 0] 111)
      have hn1 := heap_alloc_new wr (.cells #[.int .i64 k, .int .i64 0, .int .i64 0, .slice none 0 0] 111)
      have hz1 : (wr.alloc (.cells #[.int .i64 k, .int .i64 0, .int .i64 0, .slice none 0 0] 111)).heap.size = wr.heap.size + 1 := by simp
      have HF9 : Hid (FMW fb wr) := (hin.out.1.block fb (blk_lt HF8.out)).trans HF8.out
      have hfk0 := (cell_blk HF9.out (k * 2 + 1)).trans (formsC_at k H.out.kind.2).2
      rw [HN.out.2.2.2.1, ← HM9.out] at hfk0
      have hfk := cell_later hb1 hfk0
      have m1 : decide ((m9 : Int) < 0) = false := by rw [decide_eq_false_iff_not]; omega
      have HB1 := Lib.hid hb1
      have HN1 := Lib.hid hn1
      have HO2 : Hid (OwnI ((wr.alloc (.cells #[.int .i64 k, .int .i64 0, .int .i64 0, .slice none 0 0] 111)).alloc (.cells #[.int .i64 0, .int .i64 0] 3)) w8.heap.size (.slice A8 c8 n8) (numsW ws)) := own_later (own_later hown hb1) (bel_alloc _ _)
      have HRD2 : Hid (ReadI ((wr.alloc (.cells #[.int .i64 k, .int .i64 0, .int .i64 0, .slice none 0 0] 111)).alloc (.cells #[.int .i64 0, .int .i64 0] 3)) (some ⟨wr.heap.size + 1, 0, none⟩) 2 [0, 0]) := by
        have := own_two (wr.alloc (.cells #[.int .i64 k, .int .i64 0, .int .i64 0, .slice none 0 0] 111)) 0 0
        rwa [hz1] at this
      have HZ2 : Hid (w8.heap.size ≤ ((wr.alloc (.cells #[.int .i64 k, .int .i64 0, .int .i64 0, .slice none 0 0] 111)).alloc (.cells #[.int .i64 0, .int .i64 0] 3)).heap.size) := by have := hin.out.1.size; unfold Hid; simp; omega
      have HB2 := Lib.hid (bel_alloc (wr.alloc (.cells #[.int .i64 k, .int .i64 0, .int .i64 0, .slice none 0 0] 111)) (.cells #[.int .i64 0, .int .i64 0] 3))
      have HLN : Hid ((numsW ws).length ≤ 100 ∧ (numsW ws ++ [0, 0]).length = (numsW ws).length + 2) := by
        refine ⟨?_, by simp⟩
        unfold numsW; rw [List.length_map, List.length_drop]; have := HNW.out; omega
      have HLT8 : Hid (∀ q, (Value.slice A8 c8 n8).ownBlock = some q → w8.heap.size ≤ q ∧ q < wr.heap.size) := fun q e => World.ownsRow.lt hown q e
      clear hin hown hb1 hn1 hfk0 hlt hj1 hj2
      go_wp2_with (at_builtin; refine list_appI w8.heap.size rfl _ _ rfl (.slice A8 c8 n8) (numsW ws) [0, 0] rfl HO2.out HZ2.out _ 2 2 rfl HRD2.out (by have := HLN.out; omega) ?_; intro v1 w10 o1 g1 a1)
      obtain ⟨g11, c11, rfl, -, -, -⟩ := own_slice o1 (by have := HLN.out.2; omega)
      have hx0 := o1.cellAt (j := 0) (by have := HLN.out.2; omega)
      have hx1 := o1.cellAt (j := 1) (by have := HLN.out.2; omega)
      rw [H.out.va] at hx0
      rw [H.out.vb] at hx1
      have hblk12 : w10.heap[wr.heap.size]? = some (.cells #[.int .i64 k, .int .i64 0, .int .i64 0, .slice none 0 0] 111 (0, 0)) := by
        rw [g1.block _ (by simp; omega) (fun e => by have := (HLT8.out _ e.symm).2; omega), HB2.out.block _ (by simp)]
        exact HN1.out
      have hg11 : g11 ≠ wr.heap.size := fun e => by
        rcases a1 with q | q
        · have := (HLT8.out g11 (by rw [← q]; rfl)).2; omega
        · have h1 : g11 = _ := Option.some.inj q
          simp at h1
          omega
      have HG11 := Lib.hid hg11
      have HBE : Hid (Below w8.heap.size w8 w10) := RW.grown (RW.later (RW.later HBW.out HB1.out) HB2.out) g1 (row_base HO2.out)
      have hlen2 : (0 : Int) < ((numsW ws ++ [0, 0]).length : Int) := by have := HLN.out.2; omega
      have hlen3 : (1 : Int) < ((numsW ws ++ [0, 0]).length : Int) := by have := HLN.out.2; omega
      have hlen4 : 0 < (numsW ws ++ [0, 0]).length := by have := HLN.out.2; omega
      have hlen5 : 1 < (numsW ws ++ [0, 0]).length := by have := HLN.out.2; omega
      have H12 := Lib.hid hblk12
      have d1 : w10.cell? ⟨wr.heap.size, 1, none⟩ = some (.int .i64 0) := (cell_blk hblk12 1).trans rfl
      have d2 : w10.cell? ⟨wr.heap.size, 2, none⟩ = some (.int .i64 0) := (cell_blk hblk12 2).trans rfl
      have d2b : (w10.setCell ⟨wr.heap.size, 1, none⟩ (.int .i64 a)).cell? ⟨wr.heap.size, 2, none⟩ = some (.int .i64 0) := (World.cell?_setCell_other _ _ _ _ (by intro e; injection e with _ e; cases e)).trans d2
      have f1 := frozen_blk hblk12 1
      have f2 := frozen_blk hblk12 2
      have S0 : Hid (w10.drew.cell? ⟨g11, 0, none⟩ = some (.int .i64 a) ∧ w10.drew.cell? ⟨g11, 1, none⟩ = some (.int .i64 b)) := ⟨hx0, hx1⟩
      have S1 : Hid ((w10.setCell ⟨wr.heap.size, 1, none⟩ (.int .i64 a)).drew.cell? ⟨g11, 0, none⟩ = some (.int .i64 a) ∧ (w10.setCell ⟨wr.heap.size, 1, none⟩ (.int .i64 a)).drew.cell? ⟨g11, 1, none⟩ = some (.int .i64 b)) :=
        ⟨(World.cell?_setCell_other _ _ _ _ (by intro e; injection e with e _; exact hg11 e.symm)).trans hx0, (World.cell?_setCell_other _ _ _ _ (by intro e; injection e with e _; exact hg11 e.symm)).trans hx1⟩
      have S2 : Hid (((w10.setCell ⟨wr.heap.size, 1, none⟩ (.int .i64 a)).setCell ⟨wr.heap.size, 2, none⟩ (.int .i64 b)).drew.cell? ⟨g11, 0, none⟩ = some (.int .i64 a) ∧ ((w10.setCell ⟨wr.heap.size, 1, none⟩ (.int .i64 a)).setCell ⟨wr.heap.size, 2, none⟩ (.int .i64 b)).drew.cell? ⟨g11, 1, none⟩ = some (.int .i64 b)) :=
        ⟨(World.cell?_setCell_other _ _ _ _ (by intro e; injection e with e _; exact hg11 e.symm)).trans S1.out.1, (World.cell?_setCell_other _ _ _ _ (by intro e; injection e with e _; exact hg11 e.symm)).trans S1.out.2⟩
      have HCM : Hid (((w10.setCell ⟨wr.heap.size, 1, none⟩ (.int .i64 a)).setCell ⟨wr.heap.size, 2, none⟩ (.int .i64 b)).drew.heap[wr.heap.size]? = some (.cells #[.int .i64 k, .int .i64 a, .int .i64 b, .slice none 0 0] 111 (0, 0))) :=
        Go.Proofs.YtbnipgajhpbolaaGreatDoorW.PrintWords.blk_put (cs := #[.int .i64 k, .int .i64 a, .int .i64 0, .slice none 0 0]) (Go.Proofs.YtbnipgajhpbolaaGreatDoorW.PrintWords.blk_put (cs := #[.int .i64 k, .int .i64 0, .int .i64 0, .slice none 0 0]) hblk12 1 _ rfl) 2 _ rfl
      have HBF : Hid (Below w8.heap.size w8 ((w10.setCell ⟨wr.heap.size, 1, none⟩ (.int .i64 a)).setCell ⟨wr.heap.size, 2, none⟩ (.int .i64 b)).drew) := bel_trans (Below.setCell (p := ⟨wr.heap.size, 2, none⟩) (Below.setCell (p := ⟨wr.heap.size, 1, none⟩) HBE.out HBW.out.size _) HBW.out.size _) (RW.refl _).drew
      clear o1 g1 a1 hblk12 hg11 hfk
      generalize (numsW ws ++ [0, 0]).length = n11 at *
      go_wp2_with fail
      go_region_held3 (fun w' => w'.cell? ⟨g11, 0, none⟩ = some (.int .i64 a) ∧ w'.cell? ⟨g11, 1, none⟩ = some (.int .i64 b))
        (first | assumption | exact S0.out | exact S1.out | exact S2.out | fail) (fail)
      clear S0 S1 S2 d1 d2 d2b f1 f2 hx0 hx1
      generalize ((w10.setCell ⟨wr.heap.size, 1, none⟩ (.int .i64 a)).setCell ⟨wr.heap.size, 2, none⟩ (.int .i64 b)).drew = w11 at *
      have HBW4 : Hid (Below w4.heap.size w4 w11) := bel_trans HB8.out HBF.out
      have hres : w11.heap[w.heap.size]? = some (.cells #[.int .i64 0, .int .i64 0, .int .i64 0, .slice none 0 0] 111 (0, 0)) := blk_later HRD.out.2.2.1 HBW4.out
      have HRES := Lib.hid hres
      have hmt := H.out.mat
      have e0 : w11.cell? ⟨wr.heap.size, 0, none⟩ = some (.int .i64 k) := (cell_blk HCM.out 0).trans rfl
      have e1 : w11.cell? ⟨wr.heap.size, 1, none⟩ = some (.int .i64 a) := (cell_blk HCM.out 1).trans rfl
      have e2 : w11.cell? ⟨wr.heap.size, 2, none⟩ = some (.int .i64 b) := (cell_blk HCM.out 2).trans rfl
      have e3 : w11.cell? ⟨wr.heap.size, 3, none⟩ = some (.slice none 0 0) := (cell_blk HCM.out 3).trans rfl
      have HEND : Hid (((w11.setRow w.heap.size #[.int .i64 k, .int .i64 a, .int .i64 b, .slice none 0 0]).heap[w.heap.size]? = some (.cells #[.int .i64 k, .int .i64 a, .int .i64 b, .slice none 0 0] 111 (0, 0))) ∧ Below w.heap.size w (w11.setRow w.heap.size #[.int .i64 k, .int .i64 a, .int .i64 b, .slice none 0 0])) := ⟨setRow_heap _ _ _ _ _ _ hres, bel_setRow _ (bel_trans HRD.out.2.1 HBW4.out) (Nat.le_refl _)⟩
      clear hres
      have hcase : (((k : Int) == 6) = false) ∨ (((k : Int) == 6) = true ∧ (a = 1 ∨ a = 2)) := by
        by_cases q : k = 6
        · exact .inr ⟨by simp [q], hmt q⟩
        · exact .inl (by simp; omega)
      clear hmt
      obtain ⟨kI, hkI⟩ : ∃ kI : Int, kI = (k : Int) := ⟨_, rfl⟩
      have HKI := Lib.hid hkI
      rw [← hkI] at e0 HEND
      clear hkI
      have hinf : (Tryz.prog.info? 111).map (·.size) = some (#[Value.int .i64 kI, .int .i64 a, .int .i64 b, .slice none 0 0] : Array Value).size := (show (Tryz.prog.info? 111).map (·.size) = some 4 by kernel_rfl)
      have hold : (#[Value.int .i64 0, .int .i64 0, .int .i64 0, .slice none 0 0] : Array Value).size = (#[Value.int .i64 kI, .int .i64 a, .int .i64 b, .slice none 0 0] : Array Value).size := rfl
      have hone : (#[Value.int .i64 kI, .int .i64 a, .int .i64 b, .slice none 0 0] : Array Value).all (·.oneCell') = true := by simp [Value.oneCell']
      rcases hcase with q1 | ⟨q1, rfl | rfl⟩
      all_goals
        go_wp2_with (refine wpList_store_rowTo rfl 111 (.tmp 2) (.tmp 106) rfl rfl w.heap.size #[.int .i64 kI, .int .i64 _, .int .i64 b, .slice none 0 0] rfl rfl 111 #[.int .i64 0, .int .i64 0, .int .i64 0, .slice none 0 0] HRES.out hinf hold hone ?_)
        (try simp only [Exit.inBlock, Exit.then])
        refine bodyPost_ret (Go.Proofs.YtbnipgajhpbolaaGreatDoorW.PrintWords.results_ct (by rfl) _ _ w.heap.size 111 #[.int .i64 kI, .int .i64 _, .int .i64 b, .slice none 0 0] (0, 0) _ (by rfl) HEND.out.1 Tryz.underlying111 rfl (by kernel_rfl)) (by rfl) ?_
        exact ⟨by rw [HKI.out]; rfl, HEND.out.2⟩
end

section
open Go.RowKit
theorem forms_ix (k : Nat) (hk : k < 15) (W : World) : (Instr.index 142 (.agg formsC) (.int .i64 k)).run Tryz.prog W = .ok (.agg #[.string (fwd k), .int .i64 (fnum k)]) W := by
  rcases (show k = 0 ∨ k = 1 ∨ k = 2 ∨ k = 3 ∨ k = 4 ∨ k = 5 ∨ k = 6 ∨ k = 7 ∨ k = 8 ∨ k = 9 ∨ k = 10 ∨ k = 11 ∨ k = 12 ∨ k = 13 ∨ k = 14 by omega) with rfl | rfl | rfl | rfl | rfl | rfl | rfl | rfl | rfl | rfl | rfl | rfl | rfl | rfl | rfl <;> kernel_rfl
theorem RW.one {wr W : World} {a1 : Addr} {v1 : Value} (h : wr.cell? a1 = some v1) (r : RW wr W) : W.cell? a1 = some v1 ∧ RW wr W := ⟨cell_later r h, r⟩
/-- A command of a kind with at most two numbers, that a line can have. -/
structure CmdO (k : Nat) (m : Nat) (a b : Int) : Prop where
  kind : 1 ≤ k ∧ k < 15
  num : fnum k = (m : Int) ∧ m ≤ 2
  ab : 0 ≤ a ∧ a ≤ 999999999 ∧ 0 ≤ b ∧ b ≤ 999999999
  z1 : m < 2 → b = 0
  z0 : m < 1 → a = 0
  mat : k = 6 → a = 1 ∨ a = 2
/-- What numbers answers. -/
def NumsQ (m : Nat) (a b : Int) (w : World) (e : Ending) (w' : World) : Prop := ∃ g, e = .returned (.tuple #[.slice (some ⟨g, 0, none⟩) m 2, .bool true]) ∧ w'.heap[g]? = some (.cells #[.int .i64 a, .int .i64 b] 3 (0, 0)) ∧ Below w.heap.size w w'

set_option maxHeartbeats 16000000 in
set_option maxRecDepth 100000 in
theorem nums_any {k m : Nat} {a b : Int} (w : World) (h : CmdO k m a b) :
    Calls Tryz.prog 90 #[.agg #[.int .i64 k, .int .i64 a, .int .i64 b, .slice none 0 0]] w (NumsQ m a b w) := by
  have H := Lib.hid h
  have hn1 := heap_alloc_new w (.cells #[.int .i64 k, .int .i64 a, .int .i64 b, .slice none 0 0] 111)
  have hb1 := bel_alloc w (.cells #[.int .i64 k, .int .i64 a, .int .i64 b, .slice none 0 0] 111)
  have HB1 := Lib.hid hb1
  have hix := forms_ix k h.kind.2
  rw [h.num.1] at hix
  clear h hb1
  go_enter Tryz.func90, Tryz.ntmps90
  go_wp2_with fail
  generalize hw1 : w.alloc (.cells #[.int .i64 k, .int .i64 a, .int .i64 b, .slice none 0 0] 111) = w1 at *
  clear hw1
  have HN1 := Lib.hid hn1
  have c0 : w1.cell? ⟨w.heap.size, 0, none⟩ = some (.int .i64 k) := (cell_blk hn1 0).trans rfl
  have S0 := Lib.hid c0
  generalize fwd k = xw at *
  clear hn1
  go_region_held3 (fun w' => w'.cell? ⟨w.heap.size, 0, none⟩ = some (.int .i64 k) ∧ RW w1 w')
    (first | assumption | exact RW.one S0.out (RW.refl w1).drew | exact RW.one S0.out (RW.later (And.right (by assumption)) hb9) | exact RW.one S0.out (RW.alloc hs9 _) | exact RW.one S0.out (RW.alloc (RW.refl w1).drew _) | exact RW.one S0.out (RW.alloc (RW.refl w1) _).drew | exact RW.one S0.out (RW.set2 hs9) | fail)
    (first
      | (go_at_call 70; refine (forms_any _).mono ?_; rintro e w9 ⟨rfl, hb9⟩; have hs9 : RW w1 w9 := RW.later (And.right (by assumption)) hb9; try (have n0 := (newcells hb9).1); try (have n1 := (newcells hb9).2.1); try (have n2 := (newcells hb9).2.2.1); try (have n3 := (newcells hb9).2.2.2))
      | fail)
  all_goals
    first
      | (have hq0 := n0
         have HW2 : Hid (RW w1 ((w9.setCell ⟨w1.heap.size, 0, none⟩ (.string xw)).setCell ⟨w1.heap.size, 1, none⟩ (.int .i64 m))) := RW.set2 hs9
         have d1 : ((w9.setCell ⟨w1.heap.size, 0, none⟩ (.string xw)).setCell ⟨w1.heap.size, 1, none⟩ (.int .i64 m)).cell? ⟨w1.heap.size, 1, none⟩ = some (.int .i64 m) := (cell_blk (Go.Proofs.YtbnipgajhpbolaaGreatDoorW.PrintWords.blk_put (cs := #[.string xw, .int .i64 0]) (Go.Proofs.YtbnipgajhpbolaaGreatDoorW.PrintWords.blk_put (cs := #[.string ⟨#[]⟩, .int .i64 0]) (newblk hb9) 0 _ rfl) 1 _ rfl) 1).trans rfl
         clear hq0 n0 n1 n2 n3 hs9 hb9
         generalize ((w9.setCell ⟨w1.heap.size, 0, none⟩ (.string xw)).setCell ⟨w1.heap.size, 1, none⟩ (.int .i64 m)) = w2 at *)
      | (have HW2 : Hid (RW w1 (w9.alloc (.cells #[.string xw, .int .i64 m] 141))) := RW.alloc hs9 _
         have d1 : (w9.alloc (.cells #[.string xw, .int .i64 m] 141)).cell? ⟨w9.heap.size, 1, none⟩ = some (.int .i64 m) := (cell_blk (heap_alloc_new _ _) 1).trans rfl
         clear hs9 hb9
         generalize (w9.alloc (.cells #[.string xw, .int .i64 m] 141)) = w2 at *)
    have d2 := cell_later (bel_alloc w2 (.cells #[.int .i64 a, .int .i64 b] 3)) d1
    have hn2 := blk_later HN1.out HW2.out
    have e1 : w2.cell? ⟨w.heap.size, 1, none⟩ = some (.int .i64 a) := (cell_blk hn2 1).trans rfl
    have e2 : w2.cell? ⟨w.heap.size, 2, none⟩ = some (.int .i64 b) := (cell_blk hn2 2).trans rfl
    have e3 : w2.cell? ⟨w.heap.size, 3, none⟩ = some (.slice none 0 0) := (cell_blk hn2 3).trans rfl
    have HEND : Hid ((w2.alloc (.cells #[.int .i64 a, .int .i64 b] 3)).heap[w2.heap.size]? = some (.cells #[.int .i64 a, .int .i64 b] 3 (0, 0)) ∧ Below w.heap.size w (w2.alloc (.cells #[.int .i64 a, .int .i64 b] 3))) := ⟨heap_alloc_new _ _, bel_trans HB1.out (bel_trans HW2.out (bel_alloc _ _))⟩
    have hm := H.out.num.2
    have hz1 := H.out.z1
    have hz0 := H.out.z0
    clear hn2 c0 hix
    rcases (show m = 0 ∨ m = 1 ∨ m = 2 by omega) with rfl | rfl | rfl
    · obtain rfl := hz1 (by decide)
      obtain rfl := hz0 (by decide)
      clear hz0 hz1 hm
      simp only [Int.cast_ofNat_Int] at d1 d2
      go_wp2_with fail
      (try simp only [Exit.inBlock, Exit.then])
      go_ret2
      exact ⟨_, rfl, HEND.out.1, HEND.out.2⟩
    · obtain rfl := hz1 (by decide)
      clear hz0 hz1 hm
      simp only [Int.cast_ofNat_Int] at d1 d2
      go_wp2_with fail
      (try simp only [Exit.inBlock, Exit.then])
      go_ret2
      exact ⟨_, rfl, HEND.out.1, HEND.out.2⟩
    · clear hz0 hz1 hm
      simp only [Int.cast_ofNat_Int] at d1 d2
      go_wp2_with fail
      (try simp only [Exit.inBlock, Exit.then])
      go_ret2
      exact ⟨_, rfl, HEND.out.1, HEND.out.2⟩
end

end Go.Proofs.YtbnipgajhpbolaaGreatDoor
