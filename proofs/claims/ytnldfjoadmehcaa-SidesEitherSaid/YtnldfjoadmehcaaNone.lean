/- The walk of mates.None. -/
import Derived.Test.YtnldfjoadmehcaaRepeat
import Derived.Test.YtnldfjoadmehcaaGRight
set_option linter.unusedVariables false
set_option linter.unusedSimpArgs false
namespace Go.Proofs.Ytnldfjoadmehcaa
open Go.RowKit

/-- What mates.None answers. -/
def noneL (N : Int) (es : List Ed) : List Int := if rightB N es then List.replicate N.toNat (-1) else []

theorem ownI_empty (w : World) (base : Nat) : OwnI w base (.slice none 0 0) [] := ⟨rfl, .inl ⟨rfl, rfl⟩⟩

set_option maxHeartbeats 2000000 in
set_option maxRecDepth 100000 in
theorem matesNone_any {A : Option Addr} {n c : Nat} {es : List Ed} (N : Int) (w : World) (h : ReadE w A n es) :
    Calls Try.prog 56 #[.agg #[.int .i64 N, .slice A n c]] w fun e w' => ∃ v, e = .returned v ∧ OwnI w' w.heap.size v (noneL N es) ∧ Below w.heap.size w w' := by
  have hb1 := bel_alloc w (gcells N A n c)
  obtain ⟨x0, x1⟩ := boxg w N A n c
  have hr := gright_any (c := c) N (w.alloc (gcells N A n c)) (h.below hb1)
  have HB1 := Lib.hid hb1
  have HX := Lib.hid (And.intro x0 x1)
  clear hb1 h
  go_enter Try.func56, Try.ntmps56
  go_wp2_with fail
  refine hr.mono ?_
  rintro e w2 ⟨rfl, hb2⟩
  have HB2 := Lib.hid (bel_trans HB1.out hb2)
  have x02 := cell_later hb2 HX.out.1
  clear hb2 hr x0 x1
  cases hR : rightB N es
  · have HN : Hid (noneL N es = []) := by unfold Hid noneL; rw [hR]; rfl
    clear hR
    go_wp2_with fail
    go_ret
    rw [HN.out]
    exact ⟨_, rfl, ownI_empty _ _, HB2.out⟩
  · obtain ⟨g0, g1, -⟩ := rightB_iff.1 hR
    obtain ⟨m, rfl⟩ : ∃ m : Nat, N = m := ⟨N.toNat, by omega⟩
    have hm : m ≤ 4096 := by omega
    have HN : Hid (noneL (m : Int) es = List.replicate m (-1)) := by unfold Hid noneL; rw [hR]; simp
    have hrep := repeat_any (c := 1) (-1) m hm (w2.alloc (.cells #[.int .i64 (-1)] 3)) ((cell_blk (heap_alloc_new w2 (.cells #[.int .i64 (-1)] 3)) 0).trans rfl)
    have HBA := Lib.hid (bel_alloc w2 (.cells #[.int .i64 (-1)] 3))
    have x03 := cell_later HBA.out x02
    clear hR g0 g1
    go_wp2_with fail
    refine hrep.mono ?_
    rintro e w4 ⟨v, rfl, own, hb4⟩
    have HB4 := Lib.hid (bel_trans HB2.out (bel_trans HBA.out hb4))
    have HO := Lib.hid (row_weaken own (Nat.le_trans (Below.size HB2.out) (Below.size HBA.out)))
    clear own hb4 hrep
    go_wp2_with fail
    go_ret
    rw [HN.out]
    exact ⟨_, rfl, HO.out, HB4.out⟩

end Go.Proofs.Ytnldfjoadmehcaa
