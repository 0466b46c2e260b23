/- The walk of awake, of the statements of layer 5. -/
import Derived.Test.YtnldfjoadmehcaaKeep
set_option linter.unusedVariables false
set_option linter.unusedSimpArgs false
namespace Go.Proofs.Ytnldfjoadmehcaa
open Go.RowKit

theorem keep_awake : keepR 3 [(0, 1), (1, 2)] [2, 1] true = (2, [(0, 1)], [1, 2], 0) := by decide

set_option maxHeartbeats 4000000 in
set_option maxRecDepth 100000 in
theorem awake5_any (w : World) : Calls Try.prog 21 #[] w fun e w' => e = .returned (.bool true) ∧ Below w.heap.size w w' := by
  have hW : ReadE (((w.alloc (.cells #[.int .i64 0, .int .i64 1, .int .i64 1, .int .i64 2] 41)).alloc (gcells 3 (some ⟨w.heap.size, 0, none⟩) 2 2)).alloc (.cells #[.int .i64 2, .int .i64 1] 3)) (some ⟨w.heap.size, 0, none⟩) 2 [(0, 1), (1, 2)] :=
    (ReadE.lit w _ [(0, 1), (1, 2)] (by decide)).below (((Below.refl _ _).alloc (Nat.le_refl _) _).alloc (by simp) _)
  have hI : ReadI (((w.alloc (.cells #[.int .i64 0, .int .i64 1, .int .i64 1, .int .i64 2] 41)).alloc (gcells 3 (some ⟨w.heap.size, 0, none⟩) 2 2)).alloc (.cells #[.int .i64 2, .int .i64 1] 3)) (some ⟨w.heap.size + 1 + 1, 0, none⟩) 2 [2, 1] := by
    have := ReadI.lit ((w.alloc (.cells #[.int .i64 0, .int .i64 1, .int .i64 1, .int .i64 2] 41)).alloc (gcells 3 (some ⟨w.heap.size, 0, none⟩) 2 2)) 3 [2, 1] (by decide)
    simpa using this
  have hb : Below w.heap.size w (((w.alloc (.cells #[.int .i64 0, .int .i64 1, .int .i64 1, .int .i64 2] 41)).alloc (gcells 3 (some ⟨w.heap.size, 0, none⟩) 2 2)).alloc (.cells #[.int .i64 2, .int .i64 1] 3)) :=
    ((((Below.refl _ _).alloc (Nat.le_refl _) _).alloc (by simp) _).alloc (by simp; omega) _)
  have HB := Lib.hid hb
  have hk := keep_any (c := 2) (d := 2) 3 _ hW hI
  rw [keep_awake] at hk
  clear hW hI hb
  go_enter Try.func21, Try.ntmps21
  go_wp2_with fail
  refine hk.mono ?_
  rintro e w1 ⟨v, u, rfl, ownE, ownI, hb1⟩
  obtain ⟨A2, c2, rfl, -, -, -⟩ := OwnE.read ownE
  obtain ⟨A3, c3, rfl, -, -, hR3⟩ := OwnI.read ownI
  have hb2 : Below w1.heap.size w1 ((w1.alloc (gcells 2 A2 1 c2)).alloc (.cells #[.int .i64 1, .int .i64 2] 3)) := ((Below.refl _ _).alloc (Nat.le_refl _) _).alloc (by simp) _
  have hI2 : ReadI ((w1.alloc (gcells 2 A2 1 c2)).alloc (.cells #[.int .i64 1, .int .i64 2] 3)) (some ⟨w1.heap.size + 1, 0, none⟩) 2 [1, 2] := by
    have := ReadI.lit (w1.alloc (gcells 2 A2 1 c2)) 3 [1, 2] (by decide)
    simpa using this
  have hp := plain_any (ca := c3) (cb := 2) _ (hR3.below hb2) hI2
  have HB2 := Lib.hid (below_after (below_after HB.out HB.out.size hb1) (by have := HB.out.size; have := hb1.size; omega) hb2)
  clear hk hb1 hb2 hI2 hR3 ownE ownI
  simp only [List.length_cons, List.length_nil] at *
  go_wp2_with fail
  refine hp.mono ?_
  rintro e w2 ⟨rfl, hd⟩
  have HB3 := Lib.hid (below_after HB2.out HB2.out.size (hd.below _))
  clear hd
  go_wp2_with fail
  go_ret
  exact ⟨rfl, HB3.out⟩

end Go.Proofs.Ytnldfjoadmehcaa
