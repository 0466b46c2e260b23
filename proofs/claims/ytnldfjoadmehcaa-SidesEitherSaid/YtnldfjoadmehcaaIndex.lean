/- The walks of graph.edge, graph.place, graph.Index and graph.Has. -/
import Derived.Test.YtnldfjoadmehcaaBsearch
set_option linter.unusedVariables false
set_option linter.unusedSimpArgs false
namespace Go.Proofs.Ytnldfjoadmehcaa
open Go.RowKit

theorem edge_any (a b : Int) (w : World) : Calls Try.prog 104 #[.int .i64 a, .int .i64 b] w fun e w' => e = .returned (.agg #[.int .i64 (turnE a b).1, .int .i64 (turnE a b).2]) ∧ Below w.heap.size w w' := by
  by_cases h : b < a
  · have ht : Hid (turnE a b = (b, a)) := by unfold Hid turnE; rw [if_pos h]
    go_enter Try.func104, Try.ntmps104
    go_wp2_with fail
    refine bodyPost_ret (results_cell_row rfl _ _ w.heap.size 41 #[.int .i64 b, .int .i64 a] (0, 0) _ rfl (heap_alloc_new _ _) Try.underlying41 rfl (by kernel_rfl)) rfl ?_
    exact ⟨by rw [ht.out], bel_alloc _ _⟩
  · have ht : Hid (turnE a b = (a, b)) := by unfold Hid turnE; rw [if_neg h]
    go_enter Try.func104, Try.ntmps104
    have h' : a ≤ b := by omega
    go_wp2_with fail
    · refine bodyPost_ret (results_cell_row rfl _ _ w.heap.size 41 #[.int .i64 a, .int .i64 b] (0, 0) _ rfl (heap_alloc_new _ _) Try.underlying41 rfl (by kernel_rfl)) rfl ?_
      exact ⟨by rw [ht.out], bel_alloc _ _⟩
    · obtain rfl : a = b := by omega
      refine bodyPost_ret (results_cell_row rfl _ _ w.heap.size 41 #[.int .i64 a, .int .i64 a] (0, 0) _ rfl (heap_alloc_new _ _) Try.underlying41 rfl (by kernel_rfl)) rfl ?_
      exact ⟨by rw [ht.out], bel_alloc _ _⟩

set_option maxHeartbeats 4000000 in
set_option maxRecDepth 100000 in
theorem place_any {A : Option Addr} {n c : Nat} {es : List Ed} {N : Int} (a b : Int) (w : World) (h : ReadE w A n es) (hr : rightB N es = true) :
    Calls Try.prog 95 #[.agg #[.int .i64 N, .slice A n c], .int .i64 a, .int .i64 b] w fun r w' =>
      ∃ p : Nat, r = .returned (.tuple #[.int .i64 p, .bool (decide (turnE a b ∈ es))]) ∧ Hid (IsLow es (turnE a b) p) ∧ Below w.heap.size w w' := by
  obtain ⟨hr0, hr1, hr2, hr3⟩ := rightB_iff.1 hr
  have hn6 : n ≤ 65536 := by rw [← h.1]; exact hr2
  have hW := h.below (bel_alloc w (gcells N A n c))
  have HBX := Lib.hid (boxg w N A n c)
  have hed := fun W => edge_any a b W
  have hbs := fun W (hW : ReadE W A n es) => bs_any (c := c) (turnE a b).1 (turnE a b).2 W hW hr3.2 hn6
  have HB0 := Lib.hid (bel_alloc w (gcells N A n c))
  clear hr hr0 hr1 hr2 hr3 hn6
  generalize turnE a b = te at *
  obtain ⟨t1, t2⟩ := te
  simp only [] at hed hbs
  go_enter Try.func95, Try.ntmps95
  go_wp2_with fail
  generalize w.alloc (gcells N A n c) = W1 at *
  go_region_held3 (fun w' => w'.cell? ⟨w.heap.size, 0, none⟩ = some (.int .i64 N) ∧ w'.cell? ⟨w.heap.size, 1, none⟩ = some (.slice A n c) ∧ RW W1 w')
    (first | assumption | exact RW.two HBX.out (RW.refl W1) | exact RW.two HBX.out (RW.refl W1).drew | exact RW.two HBX.out (RW.later (And.right (And.right (by assumption))) hb9) | exact RW.two HBX.out (RW.later (And.right (And.right (by assumption))) hb10) | fail)
    (first
      | (go_at_call 104; refine (hed _).mono ?_; rintro e w9 ⟨rfl, hb9⟩)
      | (go_at_call 103; refine (hbs _ (hW.below (And.right (And.right (by assumption))))).mono ?_; rintro e w10 ⟨p, rfl, hlow, hb10⟩)
      | fail)
  all_goals
    have hfin : RW W1 w10 := And.right (And.right (by assumption))
    have HF := Lib.hid (bel_trans HB0.out hfin)
    go_wp2_with fail
    go_ret2
    exact ⟨p, rfl, hlow, HF.out⟩

theorem low_at {es : List Ed} {e : Ed} {p : Nat} (hs : es.Pairwise fun a b => ahead a b = true) (h : IsLow es e p) : atE es e = if e ∈ es then (p : Int) else -1 := by
  by_cases hm : e ∈ es
  · rw [if_pos hm]
    obtain ⟨h1, h2⟩ := (low_mem hs h).1 hm
    refine atE_at (fun j hj => ?_) h1 h2
    intro q
    have := h.2.1 j hj
    rw [q, ahead_irrefl] at this
    cases this
  · rw [if_neg hm]
    refine atE_none fun j hj q => hm ?_
    rw [← q, ge_get hj]
    exact List.getElem_mem hj

set_option maxHeartbeats 1000000 in
theorem gindex_any {A : Option Addr} {n c : Nat} {es : List Ed} {N : Int} (a b : Int) (w : World) (h : ReadE w A n es) :
    Calls Try.prog 71 #[.agg #[.int .i64 N, .slice A n c], .int .i64 a, .int .i64 b] w fun e w' => e = .returned (.int .i64 (indexB N es a b)) ∧ Below w.heap.size w w' := by
  have hW := h.below (bel_alloc w (gcells N A n c))
  have hg := gright_any (c := c) N _ hW
  have HB0 := Lib.hid (bel_alloc w (gcells N A n c))
  have HBX := Lib.hid (boxg w N A n c)
  cases hr : rightB N es
  · have HI : Hid (indexB N es a b = -1) := by unfold Hid indexB; rw [hr]; rfl
    rw [hr] at hg
    clear hr
    go_enter Try.func71, Try.ntmps71
    go_wp2_with fail
    refine hg.mono ?_
    rintro e w1 ⟨rfl, hb1⟩
    have HF := Lib.hid (bel_trans HB0.out hb1)
    clear hb1
    go_wp2_with fail
    go_ret
    exact ⟨by rw [HI.out]; rfl, HF.out⟩
  · have HI : Hid (∀ p : Nat, IsLow es (turnE a b) p → indexB N es a b = if turnE a b ∈ es then (p : Int) else -1) := fun p hp => by
      unfold indexB
      rw [hr, if_pos rfl, low_at (rightB_iff.1 hr).2.2.2.2 hp]
    have hpl := fun W (hW : ReadE W A n es) => place_any (c := c) a b W hW hr
    rw [hr] at hg
    clear hr
    go_enter Try.func71, Try.ntmps71
    go_wp2_with fail
    refine hg.mono ?_
    rintro e w1 ⟨rfl, hb1⟩
    obtain ⟨x0, x1⟩ := later2 hb1 HBX.out
    have hp := hpl _ (hW.below hb1)
    have HB1 := Lib.hid (bel_trans HB0.out hb1)
    clear hb1 hg hpl
    go_wp2_with fail
    by_cases hm : turnE a b ∈ es
    · rw [decide_eq_true hm] at hp
      have HM := Lib.hid hm
      clear hm
      refine hp.mono ?_
      rintro e w2 ⟨p, rfl, hlow, hb2⟩
      have HF := Lib.hid (bel_trans HB1.out hb2)
      clear hb2
      go_wp2_with fail
      go_ret
      exact ⟨by rw [HI.out p hlow.out, if_pos HM.out]; rfl, HF.out⟩
    · rw [decide_eq_false hm] at hp
      have HM := Lib.hid hm
      clear hm
      refine hp.mono ?_
      rintro e w2 ⟨p, rfl, hlow, hb2⟩
      have HF := Lib.hid (bel_trans HB1.out hb2)
      clear hb2
      go_wp2_with fail
      go_ret
      exact ⟨by rw [HI.out p hlow.out, if_neg HM.out]; rfl, HF.out⟩

theorem ghas_any {A : Option Addr} {n c : Nat} {es : List Ed} {N : Int} (a b : Int) (w : World) (h : ReadE w A n es) :
    Calls Try.prog 83 #[.agg #[.int .i64 N, .slice A n c], .int .i64 a, .int .i64 b] w fun e w' => e = .returned (.bool (hasB N es a b)) ∧ Below w.heap.size w w' := by
  have hg := gindex_any (c := c) (N := N) a b _ (h.below (bel_alloc w (gcells N A n c)))
  have HB0 := Lib.hid (bel_alloc w (gcells N A n c))
  unfold hasB
  generalize indexB N es a b = r at *
  go_enter Try.func83, Try.ntmps83
  go_wp2_with fail
  refine hg.mono ?_
  rintro e w1 ⟨rfl, hb1⟩
  have HF := Lib.hid (bel_trans HB0.out hb1)
  clear hb1 hg
  go_wp2_with fail
  go_ret
  exact ⟨rfl, HF.out⟩

end Go.Proofs.Ytnldfjoadmehcaa
