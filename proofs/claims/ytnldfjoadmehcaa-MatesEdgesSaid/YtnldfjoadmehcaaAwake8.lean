/- The walk of awake, of the statements of layer 8. -/
import Derived.Test.YtnldfjoadmehcaaROf
import Derived.Test.YtnldfjoadmehcaaMRight
set_option linter.unusedVariables false
set_option linter.unusedSimpArgs false
namespace Go.Proofs.Ytnldfjoadmehcaa
open Go.RowKit

theorem of_awake : ofP 3 [(0, 1)] [(1, 0)] = ([1, 0, -1], 0) := by decide
theorem right_awake : rightM 3 [(0, 1)] [1, 0, -1] = true := by decide
theorem size_awake : (edgesM [1, 0, -1]).length = 1 := by decide

set_option maxHeartbeats 4000000 in
set_option maxRecDepth 100000 in
theorem awake8_any (w : World) : Calls Try.prog 46 #[] w fun e w' => e = .returned (.bool true) ∧ Below w.heap.size w w' := by
  have hW : ReadE ((w.alloc (.cells #[.int .i64 0, .int .i64 1] 41)).alloc (gcells 3 (some ⟨w.heap.size, 0, none⟩) 1 1)) (some ⟨w.heap.size, 0, none⟩) 1 [(0, 1)] :=
    (ReadE.lit w _ [(0, 1)] (by decide)).below (bel_alloc _ _)
  have hX := boxg (w.alloc (.cells #[.int .i64 0, .int .i64 1] 41)) 3 (some ⟨w.heap.size, 0, none⟩) 1 1
  have hS : (w.alloc (.cells #[.int .i64 0, .int .i64 1] 41)).heap.size = w.heap.size + 1 := by simp
  rw [hS] at hX
  have hb : Below w.heap.size w ((w.alloc (.cells #[.int .i64 0, .int .i64 1] 41)).alloc (gcells 3 (some ⟨w.heap.size, 0, none⟩) 1 1)) := bel_trans (bel_alloc _ _) (bel_alloc _ _)
  have hS2 : ((w.alloc (.cells #[.int .i64 0, .int .i64 1] 41)).alloc (gcells 3 (some ⟨w.heap.size, 0, none⟩) 1 1)).heap.size = w.heap.size + 1 + 1 := by simp
  have HB := Lib.hid hb
  have HX := Lib.hid hX
  have HW := Lib.hid hW
  have HS2 := Lib.hid hS2
  clear hW hb hS hX hS2
  go_enter Try.func46, Try.ntmps46
  go_wp2_with fail
  generalize (w.alloc (.cells #[.int .i64 0, .int .i64 1] 41)).alloc (gcells 3 (some ⟨w.heap.size, 0, none⟩) 1 1) = w1 at *
  rw [← HS2.out]
  refine (mof_any (c := 1) (d := 1) 3 (w1.alloc (.cells #[.int .i64 1, .int .i64 0] 41)) (HW.out.below (bel_alloc _ _)) (ReadE.lit w1 41 [(1, 0)] (by decide))).mono ?_
  rw [of_awake]
  have HB1 := Lib.hid (bel_trans HB.out (bel_alloc w1 (.cells #[.int .i64 1, .int .i64 0] 41)))
  have HX1 := Lib.hid (later2 (bel_alloc w1 (.cells #[.int .i64 1, .int .i64 0] 41)) HX.out)
  have HW1 := Lib.hid (HW.out.below (bel_alloc w1 (.cells #[.int .i64 1, .int .i64 0] 41)))
  generalize w1.alloc (.cells #[.int .i64 1, .int .i64 0] 41) = w2 at *
  rintro e w3 ⟨v, rfl, ow, hb3⟩
  obtain ⟨A3, c3, rfl, -, -, hR3⟩ := OwnI.read ow
  have HB3 := Lib.hid (bel_trans HB1.out hb3)
  have HX3 := Lib.hid (later2 hb3 HX1.out)
  have HW3 := Lib.hid (HW1.out.below hb3)
  have HR3 := Lib.hid hR3
  clear ow hb3 hR3
  simp only [List.length_cons, List.length_nil] at *
  go_wp2_with fail
  refine (plain_same (ca := c3) (cb := 3) (w3.alloc (.cells #[.int .i64 1, .int .i64 0, .int .i64 (-1)] 3)) (HR3.out.below (bel_alloc _ _)) (ReadI.lit w3 3 [1, 0, -1] (by decide))).mono ?_
  rintro e w4 ⟨rfl, hb4⟩
  have HB4 := Lib.hid (bel_trans HB3.out (bel_trans (bel_alloc w3 (.cells #[.int .i64 1, .int .i64 0, .int .i64 (-1)] 3)) hb4))
  have HX4 := Lib.hid (later2 (bel_trans (bel_alloc w3 (.cells #[.int .i64 1, .int .i64 0, .int .i64 (-1)] 3)) hb4) HX3.out)
  have HW4 := Lib.hid (HW3.out.below (bel_trans (bel_alloc w3 (.cells #[.int .i64 1, .int .i64 0, .int .i64 (-1)] 3)) hb4))
  have HR4 := Lib.hid (HR3.out.below (bel_trans (bel_alloc w3 (.cells #[.int .i64 1, .int .i64 0, .int .i64 (-1)] 3)) hb4))
  have hs := msize_any (c := c3) w4 HR4.out (by decide)
  rw [size_awake] at hs
  clear hb4
  go_wp2_with fail
  refine hs.mono ?_
  rintro e w5 ⟨rfl, hb5⟩
  obtain ⟨x0, x1⟩ := later2 hb5 HX4.out
  have HB5 := Lib.hid (bel_trans HB4.out hb5)
  have hm := mright_any (c := 1) (d := c3) 3 w5 (HW4.out.below hb5) (HR4.out.below hb5)
  rw [right_awake] at hm
  clear hs hb5
  go_wp2_with fail
  refine hm.mono ?_
  rintro e w6 ⟨rfl, hb6⟩
  have HB6 := Lib.hid (bel_trans HB5.out hb6)
  clear hm hb6
  go_wp2_with fail
  go_ret
  exact ⟨rfl, HB6.out⟩

end Go.Proofs.Ytnldfjoadmehcaa
