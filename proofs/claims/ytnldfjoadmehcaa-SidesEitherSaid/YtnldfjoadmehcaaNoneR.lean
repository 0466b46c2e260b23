/- The walk of garlandref08.None; search.free. -/
import Derived.Test.YtnldfjoadmehcaaNear
set_option linter.unusedVariables false
set_option linter.unusedSimpArgs false
namespace Go.Proofs.Ytnldfjoadmehcaa
open Go.RowKit

set_option maxHeartbeats 4000000 in
set_option maxRecDepth 100000 in
theorem noneR_any {A : Option Addr} {n c : Nat} {es : List Ed} (N : Int) (w : World) (h : ReadE w A n es) :
    Calls Try.prog 57 #[.agg #[.int .i64 N, .slice A n c]] w fun e w' => ∃ v, e = .returned v ∧ OwnI w' w.heap.size v (noneL N es) ∧ Below w.heap.size w w' := by
  have hb1 := bel_alloc w (gcells N A n c)
  obtain ⟨x0, x1⟩ := boxg w N A n c
  have hr := right_any (c := c) N (w.alloc (gcells N A n c)) (h.below hb1)
  have HB1 := Lib.hid hb1
  have HX := Lib.hid (And.intro x0 x1)
  clear hb1 h
  go_enter Try.func57, Try.ntmps57
  go_wp2_with fail
  refine hr.mono ?_
  rintro e w2 ⟨rfl, hb2⟩
  have HB2 := Lib.hid (bel_trans HB1.out hb2)
  have HX2 := Lib.hid (cell_later hb2 HX.out.1)
  clear hb2 hr x0 x1
  cases hR : rightB N es
  · have HN : Hid (noneL N es = []) := by unfold Hid noneL; rw [hR]; rfl
    clear hR
    go_wp2_with fail
    go_ret
    rw [HN.out]
    exact ⟨_, rfl, ownI_empty _ _, HB2.out⟩
  · obtain ⟨g0, g1, -⟩ := rightB_iff.1 hR
    obtain ⟨m, rfl⟩ : ∃ m : Nat, N = m := ⟨N.toNat, by omega⟩
    have hm : m ≤ 4096 := by omega
    have HN : Hid (noneL (m : Int) es = List.replicate m (-1)) := by unfold Hid noneL; rw [hR]; simp
    have HT0 : Hid (OwnI w2 w2.heap.size (.slice none 0 0) (List.replicate 0 (-1))) := ownI_empty _ _
    have HR0 : Hid (RW w2 w2) := RW.refl w2
    clear hR g0 g1
    go_wp2_with fail
    go_loopw [3, 4] (fun a i wr => ∃ k : Nat, k ≤ m ∧ i = .int .i64 k ∧ Hid (OwnI wr w2.heap.size a (List.replicate k (-1))) ∧ Hid (RW w2 wr)) (fun _ i _ => m - (intOf i).toNat)
    case atStart => exact ⟨0, Nat.zero_le _, rfl, HT0, HR0⟩
    case round =>
      obtain ⟨k, hk, rfl, htw, hrw⟩ := hrel
      have y1 := cell_later hrw.out HX2.out
      have HSZ := Lib.hid (Below.size hrw.out)
      by_cases hlt : k < m
      · have HLT := Lib.hid hlt
        have L1 : Hid ((List.replicate k (-1 : Int)).length ≤ 1000000000) := by unfold Hid; rw [List.length_replicate]; omega
        go_wp2_with (at_builtin; refine app_int (w0 := wr) (W := wr) w2.heap.size rfl _ _ rfl u3 (List.replicate k (-1)) (-1) rfl rfl htw.out (Below.refl _ _) HSZ.out L1.out ?_; intro v1 w8 o1 b1 g1 h1)
        have HR8 : Hid (RW w2 w8) := Below.trans hrw.out b1
        have HO8 : Hid (OwnI w8 w2.heap.size v1 (List.replicate (k + 1) (-1))) := by
          rw [List.replicate_succ']
          exact o1
        go_roundw
        case rel => exact ⟨k + 1, by have := HLT.out; omega, by go_num, HO8, HR8⟩
        case measure => have := HLT.out; simp [intOf]; omega
      · obtain rfl : k = m := by omega
        have hd : decide ((k : Int) < (k : Int)) = false := by rw [decide_eq_false_iff_not]; omega
        clear hlt hk
        go_wp2_with fail
        go_ret
        rw [HN.out]
        exact ⟨_, rfl, row_weaken htw.out (Below.size HB2.out), bel_trans HB2.out hrw.out⟩

end Go.Proofs.Ytnldfjoadmehcaa
