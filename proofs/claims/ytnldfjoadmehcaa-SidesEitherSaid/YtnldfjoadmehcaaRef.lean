/- The walks of the reference's graph functions: turned, Is, Index, Has, put, Add. -/
import Derived.Test.YtnldfjoadmehcaaRight
import Derived.Test.YtnldfjoadmehcaaWEqStruct
set_option linter.unusedVariables false
set_option linter.unusedSimpArgs false
namespace Go.Proofs.Ytnldfjoadmehcaa
open Go.RowKit

theorem eqE (d : Nat) (w : World) (x0 y0 : Int) (x1 y1 : Int) :
    (Op.equalIn (d + 2) 41 (.agg #[.int .i64 x0, .int .i64 x1]) (.agg #[.int .i64 y0, .int .i64 y1])).run Try.prog w = .ok (x0 == y0 && (x1 == y1)) w := by
  refine Go.Proofs.YtnldfjoadmehcaaW.PrintWords.eqA_of Try.underlying41 (by kernel_rfl) ?_
  refine Go.Proofs.YtnldfjoadmehcaaW.PrintWords.eqf_cons (by rfl) (by go_simp; rfl) (by go_simp; rfl) (by go_simp) ?_
  exact Go.Proofs.YtnldfjoadmehcaaW.PrintWords.eqf_last (by rfl) (by go_simp; rfl) (by go_simp; rfl) (by go_simp)
attribute [local go_sem high] eqE

/-- The lesser end first. -/
def turnE (a b : Int) : Ed := if b < a then (b, a) else (a, b)
def isB (N v : Int) : Bool := decide (0 ≤ v) && decide (v < N)
/-- The place of an edge, or -1. -/
def atE (es : List Ed) (e : Ed) : Int := if es.contains e then (es.idxOf e : Int) else -1
def indexB (N : Int) (es : List Ed) (a b : Int) : Int := if rightB N es then atE es (turnE a b) else -1
def hasB (N : Int) (es : List Ed) (a b : Int) : Bool := decide (0 ≤ indexB N es a b)

theorem atE_at {e : Ed} : ∀ {es : List Ed} {k : Nat}, (∀ j, j < k → ge es j ≠ e) → k < es.length → ge es k = e → atE es e = k
  | [], k, _, h, _ => by simp at h
  | x :: es, 0, _, _, h2 => by
    have h2 : x = e := by simpa [ge] using h2
    subst h2
    simp [atE]
  | x :: es, k + 1, h0, h1, h2 => by
    have hx : x ≠ e := by simpa [ge] using h0 0 (by omega)
    have ih := atE_at (e := e) (es := es) (k := k) (fun j hj => by simpa [ge] using h0 (j + 1) (by omega)) (by simpa using h1) (by simpa [ge] using h2)
    unfold atE at ih ⊢
    by_cases hc : es.contains e = true
    · rw [if_pos hc] at ih
      have : (x :: es).contains e = true := by
        rw [List.contains_cons, hc]
        simp
      rw [if_pos this, List.idxOf_cons]
      rw [show (x == e) = false from by simpa using hx]
      simp only [cond_false]
      omega
    · rw [if_neg hc] at ih
      omega
theorem atE_none {e : Ed} {es : List Ed} (h : ∀ j, j < es.length → ge es j ≠ e) : atE es e = -1 := by
  unfold atE
  rw [if_neg]
  intro hc
  rw [List.contains_iff_mem] at hc
  obtain ⟨j, hj, he⟩ := List.getElem_of_mem hc
  exact h j hj (by rw [← he]; simp [ge, hj])

theorem turned_any (a b : Int) (w : World) : Calls Try.prog 92 #[.int .i64 a, .int .i64 b] w fun e w' => e = .returned (.agg #[.int .i64 (turnE a b).1, .int .i64 (turnE a b).2]) ∧ Below w.heap.size w w' := by
  have hb : ∀ x y, Below w.heap.size w (w.alloc (.cells #[.int .i64 x, .int .i64 y] 41)) := fun x y => (Below.refl _ _).alloc (Nat.le_refl _) _
  have HB := Lib.hid hb
  clear hb
  by_cases h : b < a
  · rw [show turnE a b = (b, a) from if_pos h]
    go_enter Try.func92, Try.ntmps92
    go_wp2
    refine bodyPost_ret (results_cell_row rfl _ _ w.heap.size 41 #[.int .i64 b, .int .i64 a] (0, 0) _ rfl (heap_alloc_new _ _) Try.underlying41 rfl (by kernel_rfl)) rfl ?_
    exact ⟨rfl, HB _ _⟩
  · rw [show turnE a b = (a, b) from if_neg h]
    go_enter Try.func92, Try.ntmps92
    go_wp2
    refine bodyPost_ret (results_cell_row rfl _ _ w.heap.size 41 #[.int .i64 a, .int .i64 b] (0, 0) _ rfl (heap_alloc_new _ _) Try.underlying41 rfl (by kernel_rfl)) rfl ?_
    exact ⟨rfl, HB _ _⟩

theorem is_any {N : Int} {A : Option Addr} {n c : Nat} (v : Int) (w : World) : Calls Try.prog 90 #[.agg #[.int .i64 N, .slice A n c], .int .i64 v] w fun e w' => e = .returned (.bool (isB N v)) ∧ Below w.heap.size w w' := by
  have hb : Below w.heap.size w (w.alloc (gcells N A n c)) := (Below.refl _ _).alloc (Nat.le_refl _) _
  have HB := Lib.hid hb
  clear hb
  unfold isB
  by_cases h : 0 ≤ v
  · have h' : decide (0 ≤ v) = true := by simpa using h
    go_enter Try.func90, Try.ntmps90
    go_wp2
    go_ret
    exact ⟨by simp [h], HB⟩
  · have h' : decide (0 ≤ v) = false := by simpa using h
    go_enter Try.func90, Try.ntmps90
    go_wp2
    go_ret
    exact ⟨by simp [h], HB⟩


set_option maxHeartbeats 1000000 in
theorem index_any {A : Option Addr} {n c : Nat} {es : List Ed} {N : Int} (a b : Int) (w : World) (h : ReadE w A n es) :
    Calls Try.prog 69 #[.agg #[.int .i64 N, .slice A n c], .int .i64 a, .int .i64 b] w fun e w' => e = .returned (.int .i64 (indexB N es a b)) ∧ Below w.heap.size w w' := by
  have hn := h.2.1
  have H1 := Lib.hid h.1
  have hb0 : Below (w.heap.size + 1) (w.alloc (gcells N A n c)) (w.alloc (gcells N A n c)) := Below.refl _ _
  have HB0 := Lib.hid hb0
  have HR0 := h.box hb0
  clear hb0
  cases hr : rightB N es
  · have hf : Hid (indexB N es a b = -1) := by unfold Hid indexB; rw [hr]; rfl
    have HRR := Lib.hid hr
    clear hr
    go_enter Try.func69, Try.ntmps69
    go_wp2_with fail
    refine (right_any N _ HR0).mono ?_
    rintro e w1 ⟨rfl, hb1⟩
    rw [HRR.out]
    go_wp2_with fail
    go_ret
    exact ⟨by rw [hf.out]; rfl, below_box (Below.trans HB0 (hb1.mono (by simp)))⟩
  · have hf : Hid (indexB N es a b = atE es (turnE a b)) := by unfold Hid indexB; rw [hr]; rfl
    have HRR := Lib.hid hr
    clear hr
    go_enter Try.func69, Try.ntmps69
    go_wp2_with fail
    refine (right_any N _ HR0).mono ?_
    rintro e w1 ⟨rfl, hb1⟩
    rw [HRR.out]
    go_wp2_with fail
    refine (turned_any a b _).mono ?_
    rintro e w2 ⟨rfl, hb2⟩
    generalize turnE a b = te at *
    obtain ⟨t1, t2⟩ := te
    have hb3 : Below (w.heap.size + 1) (w.alloc (gcells N A n c)) w2 := Below.trans (Below.trans HB0 (hb1.mono (by simp))) (hb2.mono (by have := hb1.size; simp at this; omega))
    have hsz := hb3.size
    simp at hsz
    have hb4 : Below (w.heap.size + 1) (w.alloc (gcells N A n c)) (w2.alloc (.cells #[.int .i64 t1, .int .i64 t2] 41)) := hb3.alloc (by omega) _
    have HB4 := Lib.hid hb4
    have he0 : Hid ((w2.alloc (.cells #[.int .i64 t1, .int .i64 t2] 41)).cell? ⟨w2.heap.size, 0, none⟩ = some (.int .i64 t1)) := (cell_blk (heap_alloc_new _ _) 0).trans rfl
    have he1 : Hid ((w2.alloc (.cells #[.int .i64 t1, .int .i64 t2] 41)).cell? ⟨w2.heap.size, 1, none⟩ = some (.int .i64 t2)) := (cell_blk (heap_alloc_new _ _) 1).trans rfl
    clear hb3 hb4 hb1 hb2
    go_wp2_with fail
    go_loopw [8] (fun i wr => ∃ k : Nat, k ≤ n ∧ i = .int .i64 k ∧ (∀ j, j < k → ge es j ≠ (t1, t2)) ∧ Drawn (w2.alloc (.cells #[.int .i64 t1, .int .i64 t2] 41)) wr) (fun i _ => n - (intOf i).toNat)
    case atStart => exact ⟨0, Nat.zero_le _, rfl, fun _ h => absurd h (by omega), Drawn.refl _⟩
    case round =>
      obtain ⟨k, hk, rfl, hall, hdr⟩ := hrel
      have hbr : Below (w.heap.size + 1) (w.alloc (gcells N A n c)) wr := HB4.out.trans (hdr.below _)
      obtain ⟨g0, g1⟩ := gbox hbr
      have f0 := cell_later (hdr.below _) he0.out
      have f1 := cell_later (hdr.below _) he1.out
      by_cases hlt : k < n
      · obtain ⟨b, o, rfl, hc⟩ := (h.box hbr).2.2 (by omega)
        obtain ⟨hc1, hc2⟩ := hc k hlt
        have HA := Lib.hid hall
        have HBR := Lib.hid hbr
        clear hc hall hbr
        cases hq : (ge es k == (t1, t2))
        · have hne : Hid (ge es k ≠ (t1, t2)) := beq_eq_false_iff_ne.mp hq
          have HN : Hid (∀ j, j < k + 1 → ge es j ≠ (t1, t2)) := fun j hj h => by
            by_cases e : j = k
            · exact hne.out (e ▸ h)
            · exact HA.out j (by omega) h
          generalize ge es k = ek at *
          obtain ⟨e1, e2⟩ := ek
          have hq2 : (e1 == t1 && e2 == t2) = false := hq
          clear hq
          go_wp2_with fail
          go_quiet (fail)
          go_wp2_with fail
          go_roundw
          case rel => exact ⟨k + 1, by omega, by go_num, HN, hdr.step _⟩
          case measure => simp [intOf]; omega
        · have heq : Hid (ge es k = (t1, t2)) := eq_of_beq hq
          have HF : Hid (atE es (t1, t2) = k) := atE_at HA.out (by have := H1.out; omega) heq.out
          rw [heq.out] at hc1 hc2
          clear hq
          go_wp2_with fail
          go_quiet (fail)
          go_wp2_with fail
          go_ret
          exact ⟨by rw [hf.out, HF.out]; rfl, below_box (below_draws HBR.out _)⟩
      · have hfin : atE es (t1, t2) = -1 := atE_none (fun j hj => hall j (by have := H1.out; omega))
        have HF := Lib.hid hfin
        clear hfin hall
        go_wp2_with fail
        go_ret
        exact ⟨by rw [hf.out, HF.out]; rfl, below_box hbr⟩

end Go.Proofs.Ytnldfjoadmehcaa
