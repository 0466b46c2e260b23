/- The walk of awake, of the statements of layer 5. -/
import Derived.Test.YtnldfjoadmehcaaKeep
set_option linter.unusedVariables false
set_option linter.unusedSimpArgs false
namespace Go.Proofs.Ytnldfjoadmehcaa
open Go.RowKit

/-- A block that is laid whole. -/
theorem ReadE.ofblk {W : World} {g : Nat} {t : TypeId} {cs : Array Value} (es : List Ed) (hg : W.heap[g]? = some (.cells cs t (0, 0))) (hcs : cs.toList = ecells es) (hl : es.length ≤ 1000000) : ReadE W (some ⟨g, 0, none⟩) es.length es := by
  refine ⟨rfl, by omega, fun _ => ⟨g, 0, rfl, fun j hj => ?_⟩⟩
  obtain ⟨h1, h2⟩ := ecells_at es j hj
  rw [← hcs] at h1 h2
  rw [Array.getElem?_toList] at h1 h2
  rw [show 0 + j * 2 = j * 2 from by omega]
  exact ⟨(cell_blk hg _).trans h1, (cell_blk hg _).trans h2⟩
theorem ReadI.ofblk {W : World} {g : Nat} {t : TypeId} {cs : Array Value} (xs : List Int) (hg : W.heap[g]? = some (.cells cs t (0, 0))) (hcs : cs.toList = nums xs) (hl : xs.length ≤ 1000000) : ReadI W (some ⟨g, 0, none⟩) xs.length xs := by
  refine ⟨rfl, by omega, fun _ => ⟨g, 0, rfl, fun j hj => ?_⟩⟩
  rw [show 0 + j = j from by omega, cell_blk hg, ← Array.getElem?_toList, hcs]
  simp [nums, gi, List.getD_eq_getElem?_getD, hj]
theorem ReadE.lit (W : World) (t : TypeId) (es : List Ed) (hl : es.length ≤ 1000000) : ReadE (W.alloc (.cells (ecells es).toArray t)) (some ⟨W.heap.size, 0, none⟩) es.length es := ReadE.ofblk es (heap_alloc_new _ _) rfl hl
theorem ReadI.lit (W : World) (t : TypeId) (xs : List Int) (hl : xs.length ≤ 1000000) : ReadI (W.alloc (.cells (nums xs).toArray t)) (some ⟨W.heap.size, 0, none⟩) xs.length xs := ReadI.ofblk xs (heap_alloc_new _ _) rfl hl

theorem keep_awake : keepR 3 [(0, 1), (1, 2)] [2, 1] true = (2, [(0, 1)], [1, 2], 0) := by decide

set_option maxHeartbeats 4000000 in
set_option maxRecDepth 100000 in
theorem awake5_any (w : World) : Calls Try.prog 21 #[] w fun e w' => e = .returned (.bool true) ∧ Below w.heap.size w w' := by
  have hW : ReadE (((w.alloc (.cells #[.int .i64 0, .int .i64 1, .int .i64 1, .int .i64 2] 41)).alloc (gcells 3 (some ⟨w.heap.size, 0, none⟩) 2 2)).alloc (.cells #[.int .i64 2, .int .i64 1] 3)) (some ⟨w.heap.size, 0, none⟩) 2 [(0, 1), (1, 2)] :=
    (ReadE.lit w _ [(0, 1), (1, 2)] (by decide)).below (((Below.refl _ _).alloc (Nat.le_refl _) _).alloc (by simp) _)
  have hI : ReadI (((w.alloc (.cells #[.int .i64 0, .int .i64 1, .int .i64 1, .int .i64 2] 41)).alloc (gcells 3 (some ⟨w.heap.size, 0, none⟩) 2 2)).alloc (.cells #[.int .i64 2, .int .i64 1] 3)) (some ⟨w.heap.size + 1 + 1, 0, none⟩) 2 [2, 1] := by
    have := ReadI.lit ((w.alloc (.cells #[.int .i64 0, .int .i64 1, .int .i64 1, .int .i64 2] 41)).alloc (gcells 3 (some ⟨w.heap.size, 0, none⟩) 2 2)) 3 [2, 1] (by decide)
    simpa using this
  have hb : Below w.heap.size w (((w.alloc (.cells #[.int .i64 0, .int .i64 1, .int .i64 1, .int .i64 2] 41)).alloc (gcells 3 (some ⟨w.heap.size, 0, none⟩) 2 2)).alloc (.cells #[.int .i64 2, .int .i64 1] 3)) :=
    ((((Below.refl _ _).alloc (Nat.le_refl _) _).alloc (by simp) _).alloc (by simp; omega) _)
  have HB := Lib.hid hb
  have hk := keep_any (c := 2) (d := 2) 3 _ hW hI
  rw [keep_awake] at hk
  clear hW hI hb
  go_enter Try.func21, Try.ntmps21
  go_wp2_with fail
  refine hk.mono ?_
  rintro e w1 ⟨v, u, rfl, ownE, ownI, hb1⟩
  obtain ⟨A2, c2, rfl, -, -, -⟩ := OwnE.read ownE
  obtain ⟨A3, c3, rfl, -, -, hR3⟩ := OwnI.read ownI
  have hb2 : Below w1.heap.size w1 ((w1.alloc (gcells 2 A2 1 c2)).alloc (.cells #[.int .i64 1, .int .i64 2] 3)) := ((Below.refl _ _).alloc (Nat.le_refl _) _).alloc (by simp) _
  have hI2 : ReadI ((w1.alloc (gcells 2 A2 1 c2)).alloc (.cells #[.int .i64 1, .int .i64 2] 3)) (some ⟨w1.heap.size + 1, 0, none⟩) 2 [1, 2] := by
    have := ReadI.lit (w1.alloc (gcells 2 A2 1 c2)) 3 [1, 2] (by decide)
    simpa using this
  have hp := plain_any (ca := c3) (cb := 2) _ (hR3.below hb2) hI2
  have HB2 := Lib.hid (below_after (below_after HB.out HB.out.size hb1) (by have := HB.out.size; have := hb1.size; omega) hb2)
  clear hk hb1 hb2 hI2 hR3 ownE ownI
  simp only [List.length_cons, List.length_nil] at *
  go_wp2_with fail
  refine hp.mono ?_
  rintro e w2 ⟨rfl, hd⟩
  have HB3 := Lib.hid (below_after HB2.out HB2.out.size (hd.below _))
  clear hd
  go_wp2_with fail
  go_ret
  exact ⟨rfl, HB3.out⟩

end Go.Proofs.Ytnldfjoadmehcaa
