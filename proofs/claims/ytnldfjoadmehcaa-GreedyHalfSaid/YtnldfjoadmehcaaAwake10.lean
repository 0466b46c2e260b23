/- The walk of awake, of the statements of layer 10. -/
import Derived.Test.YtnldfjoadmehcaaFull
set_option linter.unusedVariables false
set_option linter.unusedSimpArgs false
namespace Go.Proofs.Ytnldfjoadmehcaa
open Go.RowKit

theorem first_awake : firstL 4 [(0, 1), (1, 2), (2, 3)] = [1, 0, 3, 2] := by decide
theorem full_awake1 : fullB 4 [(0, 1), (1, 2), (2, 3)] [-1, 2, 1, -1] = true := by decide
theorem full_awake2 : fullB 4 [(0, 1), (1, 2), (2, 3)] [-1, -1, -1, -1] = false := by decide

set_option maxHeartbeats 4000000 in
set_option maxRecDepth 100000 in
theorem awake10_any (w : World) : Calls Try.prog 36 #[] w fun e w' => e = .returned (.bool true) ∧ Below w.heap.size w w' := by
  have hW : ReadE ((w.alloc (.cells #[.int .i64 0, .int .i64 1, .int .i64 1, .int .i64 2, .int .i64 2, .int .i64 3] 41)).alloc (gcells 4 (some ⟨w.heap.size, 0, none⟩) 3 3)) (some ⟨w.heap.size, 0, none⟩) 3 [(0, 1), (1, 2), (2, 3)] :=
    (ReadE.lit w _ [(0, 1), (1, 2), (2, 3)] (by decide)).below (bel_alloc _ _)
  have hX := boxg (w.alloc (.cells #[.int .i64 0, .int .i64 1, .int .i64 1, .int .i64 2, .int .i64 2, .int .i64 3] 41)) 4 (some ⟨w.heap.size, 0, none⟩) 3 3
  have hS : (w.alloc (.cells #[.int .i64 0, .int .i64 1, .int .i64 1, .int .i64 2, .int .i64 2, .int .i64 3] 41)).heap.size = w.heap.size + 1 := by simp
  rw [hS] at hX
  have hb : Below w.heap.size w ((w.alloc (.cells #[.int .i64 0, .int .i64 1, .int .i64 1, .int .i64 2, .int .i64 2, .int .i64 3] 41)).alloc (gcells 4 (some ⟨w.heap.size, 0, none⟩) 3 3)) := bel_trans (bel_alloc _ _) (bel_alloc _ _)
  have HB := Lib.hid hb
  have HX := Lib.hid hX
  have HW := Lib.hid hW
  have hk := first_any (c := 3) 4 _ hW
  rw [first_awake] at hk
  clear hW hb hS hX
  go_enter Try.func36, Try.ntmps36
  go_wp2_with fail
  generalize (w.alloc (.cells #[.int .i64 0, .int .i64 1, .int .i64 1, .int .i64 2, .int .i64 2, .int .i64 3] 41)).alloc (gcells 4 (some ⟨w.heap.size, 0, none⟩) 3 3) = w1 at *
  refine hk.mono ?_
  rintro e w2 ⟨v, rfl, ownI, hb1⟩
  obtain ⟨A2, c2, rfl, -, -, hR2⟩ := OwnI.read ownI
  have hb2 : Below w2.heap.size w2 (w2.alloc (.cells #[.int .i64 1, .int .i64 0, .int .i64 3, .int .i64 2] 3)) := bel_alloc _ _
  have hp := plain_any (ca := c2) (cb := 4) _ (hR2.below hb2) (ReadI.lit w2 3 [1, 0, 3, 2] (by decide))
  have HB2 := Lib.hid (bel_trans HB.out (bel_trans hb1 hb2))
  have hx2 := later2 (bel_trans hb1 hb2) HX.out
  have HX2 := Lib.hid hx2
  have HW2 := Lib.hid (HW.out.below (bel_trans hb1 hb2))
  clear hk hb1 hb2 hR2 ownI hx2
  simp only [List.length_cons, List.length_nil] at *
  go_wp2_with fail
  generalize w2.alloc (.cells #[.int .i64 1, .int .i64 0, .int .i64 3, .int .i64 2] 3) = w3 at *
  refine hp.mono ?_
  rintro e w4 ⟨rfl, hd⟩
  have hb4 : Below w3.heap.size w3 w4 := hd.below _
  obtain ⟨y0, y1⟩ := later2 hb4 HX2.out
  have hf := full_any (c := 3) (d := 4) 4 (w4.alloc (.cells #[.int .i64 (-1), .int .i64 2, .int .i64 1, .int .i64 (-1)] 3)) (HW2.out.below (bel_trans hb4 (bel_alloc _ _))) (ReadI.lit w4 3 [-1, 2, 1, -1] (by decide))
  rw [full_awake1] at hf
  have HB4 := Lib.hid (bel_trans HB2.out (bel_trans hb4 (bel_alloc w4 (.cells #[.int .i64 (-1), .int .i64 2, .int .i64 1, .int .i64 (-1)] 3))))
  have HX4 := Lib.hid (later2 (bel_alloc w4 (.cells #[.int .i64 (-1), .int .i64 2, .int .i64 1, .int .i64 (-1)] 3)) (And.intro y0 y1))
  have HW4 := Lib.hid (HW2.out.below (bel_trans hb4 (bel_alloc w4 (.cells #[.int .i64 (-1), .int .i64 2, .int .i64 1, .int .i64 (-1)] 3))))
  clear hp hd hb4
  simp only [List.length_cons, List.length_nil] at *
  go_wp2_with fail
  generalize w4.alloc (.cells #[.int .i64 (-1), .int .i64 2, .int .i64 1, .int .i64 (-1)] 3) = w5 at *
  clear y0 y1
  refine hf.mono ?_
  rintro e w6 ⟨rfl, hb6⟩
  obtain ⟨y0, y1⟩ := later2 hb6 HX4.out
  have hf2 := full_any (c := 3) (d := 4) 4 (w6.alloc (.cells #[.int .i64 (-1), .int .i64 (-1), .int .i64 (-1), .int .i64 (-1)] 3)) (HW4.out.below (bel_trans hb6 (bel_alloc _ _))) (ReadI.lit w6 3 [-1, -1, -1, -1] (by decide))
  rw [full_awake2] at hf2
  have HB6 := Lib.hid (bel_trans HB4.out (bel_trans hb6 (bel_alloc w6 (.cells #[.int .i64 (-1), .int .i64 (-1), .int .i64 (-1), .int .i64 (-1)] 3))))
  clear hf hb6
  simp only [List.length_cons, List.length_nil] at *
  go_wp2_with fail
  generalize w6.alloc (.cells #[.int .i64 (-1), .int .i64 (-1), .int .i64 (-1), .int .i64 (-1)] 3) = w7 at *
  refine hf2.mono ?_
  rintro e w8 ⟨rfl, hb8⟩
  have HB8 := Lib.hid (bel_trans HB6.out hb8)
  clear hf2 hb8
  go_wp2_with fail
  go_ret
  exact ⟨rfl, HB8.out⟩

end Go.Proofs.Ytnldfjoadmehcaa
