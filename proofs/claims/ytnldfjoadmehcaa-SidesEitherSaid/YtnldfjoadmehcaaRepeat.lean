/- The walks of math/bits.Mul and of slices.Repeat of one number. -/
import Derived.Test.YtnldfjoadmehcaaMul
import Derived.Laws.CopyOwn
import Derived.Deep.RegionLaw
set_option linter.unusedVariables false
set_option linter.unusedSimpArgs false
namespace Go.Proofs.Ytnldfjoadmehcaa
open Go.RowKit

theorem mul_any (N : Nat) (hN : N ≤ 4096) (w : World) : Calls Try.prog 98 #[.int .u64 1, .int .u64 N] w fun e w' => e = .returned (.tuple #[.int .u64 0, .int .u64 N]) ∧ w = w' := by
  go_enter Try.func98, Try.ntmps98
  go_wp2_with fail
  refine (mul64_any N hN _).mono ?_
  rintro e w' ⟨rfl, rfl⟩
  go_wp2_with fail
  go_ret2
  exact ⟨rfl, rfl⟩

/-- The first k are z, the others still zero. -/
def repK (z : Int) (N k : Nat) : List Value := List.replicate k (.int .i64 z) ++ List.replicate (N - k) (.int .i64 0)
theorem repK_length (z : Int) (N k : Nat) (h : k ≤ N) : (repK z N k).length = N := by simp [repK]; omega
theorem repK_at (z : Int) (N k j : Nat) (h : j < k) : (repK z N k)[j]? = some (.int .i64 z) := by
  unfold repK
  rw [List.getElem?_append_left (by simpa using h)]
  simp [h]
theorem repK_splice (z : Int) (N k m : Nat) (h : k + m ≤ N) : splice (repK z N k) k (List.replicate m (.int .i64 z)) = repK z N (k + m) := by
  unfold splice repK
  rw [List.take_append_of_le_length (by simp), List.take_of_length_le (by simp), List.length_replicate, List.drop_append, List.drop_of_length_le (by simp), List.nil_append, List.length_replicate, List.drop_replicate, ← List.append_assoc]
  rw [List.replicate_append_replicate]
  congr 2
  omega
theorem rep_own {W : World} {g base : Nat} {z : Int} {N : Nat} (h : W.heap[g]? = some (.cells (repK z N N).toArray 3 (0, 0))) (hb : base ≤ g) (hN : N ≤ 4096) : OwnI W base (.slice (some ⟨g, 0, none⟩) N N) (List.replicate N z) := by
  have e : repK z N N = nums (List.replicate N z) := by simp [repK, nums]
  unfold OwnI
  rw [List.length_replicate]
  refine ⟨by simp [nums], .inr ⟨g, N, (repK z N N).toArray, rfl, hb, h, Nat.le_refl _, by unfold maxLen; omega, by rw [List.size_toArray, repK_length _ _ _ (Nat.le_refl _)]; omega, ?_⟩⟩
  rw [List.take_of_length_le (by simp [repK_length])]
  simpa using e

theorem rep_cells {W : World} {g : Nat} {z : Int} {N n : Nat} (m : Nat) (h : W.heap[g]? = some (.cells (repK z N n).toArray 3 (0, 0))) (hm : m ≤ n) : ∀ j v, (List.replicate m (Value.int .i64 z))[j]? = some v → W.cell? ((⟨g, 0, none⟩ : Addr).add j) = some v := fun j v hv => by
  have hj : j < m := by
    have := (List.getElem?_eq_some_iff.1 hv).1
    simpa using this
  rw [List.getElem?_replicate, if_pos hj] at hv
  rw [addr_add, Nat.zero_add]
  refine (cell_blk h j).trans ?_
  rw [← hv]
  simpa using repK_at z N n j (by omega)

set_option maxHeartbeats 2000000 in
set_option maxRecDepth 100000 in
theorem repeat_any {b o c : Nat} (z : Int) (N : Nat) (hN : N ≤ 4096) (w : World) (h : w.cell? ⟨b, o, none⟩ = some (.int .i64 z)) :
    Calls Try.prog 87 #[.slice (some ⟨b, o, none⟩) 1 c, .int .i64 N] w fun e w' => ∃ v, e = .returned v ∧ OwnI w' w.heap.size v (List.replicate N z) ∧ Below w.heap.size w w' := by
  have hmk := run_make_row' 22 3 (.int .i64 0) 8 Try.underlying22 (by kernel_rfl) rfl .i64 .i64 N (by omega) (by omega) w
  have HSZ : Hid ((Try.prog.info? 3).map (·.size) = some 1) := by unfold Hid; kernel_rfl
  have hbA := bel_alloc w (.cells (madeCells #[.int .i64 0] N) 3)
  have HB0 := Lib.hid hbA
  have HC0 := Lib.hid (cell_later hbA h)
  have HG0 : Hid ((w.alloc (.cells (madeCells #[.int .i64 0] N) 3)).heap[w.heap.size]? = some (.cells (repK z N 0).toArray 3 (0, 0))) := by
    unfold Hid
    rw [heap_alloc_new, show madeCells #[Value.int .i64 0] N = (repK z N 0).toArray from by
      apply Array.toList_inj.1
      rw [toList_madeCells_one]
      simp [repK]]
  have hN0 : decide ((N : Int) < 0) = false := by rw [decide_eq_false_iff_not]; omega
  clear hbA h
  go_enter Try.func87, Try.ntmps87
  go_wp2_with fail
  refine (mul_any N hN _).mono ?_
  rintro e w' ⟨rfl, rfl⟩
  have hbig : decide (9223372036854775807 < (N : Int)) = false := by rw [decide_eq_false_iff_not]; omega
  generalize hW0 : w.alloc (.cells (madeCells #[.int .i64 0] N) 3) = w0 at *
  have HW0 := Lib.hid hW0
  clear hW0
  have HP0 : Hid (∀ j v, (List.replicate (min 1 N) (Value.int .i64 z))[j]? = some v → w0.cell? ((⟨b, o, none⟩ : Addr).add j) = some v) := fun j v hv => by
    have hj : j < min 1 N := by
      have := (List.getElem?_eq_some_iff.1 hv).1
      simpa using this
    obtain rfl : j = 0 := by omega
    rw [List.getElem?_replicate, if_pos hj] at hv
    rw [addr_add, Nat.add_zero, HC0.out]
    exact hv
  go_wp2_with (refine wpList_copy_splice rfl (.tmp 31) (.tmp 32) 22 22 rfl 3 Try.underlying22 HSZ.out (some ⟨w.heap.size, 0, none⟩) (some ⟨b, o, none⟩) N N 1 c rfl rfl w.heap.size 0 (repK z N 0) 3 HG0.out (List.replicate (min 1 N) (.int .i64 z)) List.length_replicate (fun _ => ⟨rfl, ⟨b, o, none⟩, rfl, HP0.out⟩) (by rw [repK_length _ _ _ (Nat.zero_le _), List.length_replicate]; omega) (fun v hv => by have e := List.eq_of_mem_replicate hv; subst e; rfl) w.heap.size w HB0.out (Nat.le_refl _) ?_; intro w2 hg2 hb2)
  have HG2 : Hid (w2.heap[w.heap.size]? = some (.cells (repK z N (min 1 N)).toArray 3 (0, 0))) := by
    have := hg2.out
    rw [repK_splice z N 0 (min 1 N) (by omega), Nat.zero_add] at this
    exact this
  have HB2 := Lib.hid hb2
  clear hg2 hb2
  clear HC0 HP0 HG0 HB0
  go_wp2_with fail
  go_loopw [8] (fun x wr => ∃ n : Nat, n ≤ N ∧ (0 < N → 0 < n) ∧ x = .int .i64 n ∧ Hid (wr.heap[w.heap.size]? = some (.cells (repK z N n).toArray 3 (0, 0))) ∧ Hid (Below w.heap.size w wr)) (fun x _ => N - (intOf x).toNat)
  case atStart => exact ⟨min 1 N, by omega, by omega, rfl, HG2, HB2⟩
  case round =>
    obtain ⟨n, hn, hn0, rfl, hg, hb⟩ := hrel
    have hn0' : N = 0 ∨ 0 < n := by omega
    clear hn0
    by_cases hlt : n < N
    · have hd : decide ((n : Int) < (N : Int)) = true := by rw [decide_eq_true_eq]; omega
      obtain ⟨ad, hA1, hA2⟩ := cut_from w.heap.size 0 N N n (n : Int) rfl (by omega) (Nat.le_refl _)
      have hcut := fun W => cut_to (some ⟨w.heap.size, 0, none⟩) N N n (n : Int) rfl (by omega) W
      obtain ⟨m, hm⟩ : ∃ m, m = min n (N - n) := ⟨_, rfl⟩
      have ew : IntKind.i64.wrap ((n : Int) + (m : Int)) = (n : Int) + (m : Int) := by rw [IntKind.wrap_i64]; omega
      have HM := Lib.hid hm
      have HAD : Hid (some ad = some ⟨w.heap.size, n, none⟩) := by
        have := hA2 hlt
        rw [Nat.zero_add] at this
        exact this
      have HGD : Hid (wr.drew.heap[w.heap.size]? = some (.cells (repK z N n).toArray 3 (0, 0))) := hg.out
      have HBD : Hid (Below w.heap.size w wr.drew) := hb.out.drew
      have HCS := Lib.hid (rep_cells m HGD.out (by omega))
      have HLT := Lib.hid hlt
      have pn : (0 : Int) ≤ (n : Int) := by omega
      clear hA2 hm hlt hg hb
      go_wp2_with fail
      go_region_law (first
        | (refine step_copy_splice rfl (.tmp 41) (.tmp 44) 22 22 rfl 3 Try.underlying22 HSZ.out (some ad) (some ⟨w.heap.size, 0, none⟩) (N - n) (N - n) n N (by simp [Act.eval, Act.put]) (by simp [Act.eval, Act.put]) w.heap.size n (repK z N n) 3 HGD.out (List.replicate m (.int .i64 z)) (List.length_replicate.trans HM.out) (fun _ => ⟨HAD.out, ⟨w.heap.size, 0, none⟩, rfl, HCS.out⟩) (by rw [repK_length _ _ _ (by have := HLT.out; omega), List.length_replicate]; have := HM.out; have := HLT.out; omega) (fun v hv => by have e := List.eq_of_mem_replicate hv; subst e; rfl) w.heap.size w HBD.out (Nat.le_refl _) ?_; intro w4 hg4 hb4)
        | fail)
      all_goals
        have HG4 : Hid (w4.heap[w.heap.size]? = some (.cells (repK z N (n + m)).toArray 3 (0, 0))) := by
          have := hg4.out
          rw [repK_splice z N n m (by have := HM.out; have := HLT.out; omega)] at this
          exact this
        have HB4 := Lib.hid hb4
        clear hg4 hb4
        (try go_simp)
        go_wp2_with fail
        go_roundw
        case rel => exact ⟨n + m, by have := HM.out; have := HLT.out; omega, by omega, by go_num, HG4, HB4⟩
        case measure => have := HM.out; have := HLT.out; simp [intOf]; omega
    · obtain rfl : n = N := by omega
      have hd : decide ((n : Int) < (n : Int)) = false := by rw [decide_eq_false_iff_not]; omega
      clear hlt hn
      go_wp2_with fail
      go_ret
      exact ⟨_, rfl, rep_own hg.out (Nat.le_refl _) hN, hb.out⟩

end Go.Proofs.Ytnldfjoadmehcaa
