/- The walk of graph.Right. -/
import Derived.Test.YtnldfjoadmehcaaCmp
set_option linter.unusedVariables false
set_option linter.unusedSimpArgs false
namespace Go.Proofs.Ytnldfjoadmehcaa
open Go.RowKit

def C6 (W : World) (a1 : Addr) (v1 : Value) (a2 : Addr) (v2 : Value) (a3 : Addr) (v3 : Value) (a4 : Addr) (v4 : Value) (a5 : Addr) (v5 : Value) (a6 : Addr) (v6 : Value) : Prop :=
  W.cell? a1 = some v1 ∧ W.cell? a2 = some v2 ∧ W.cell? a3 = some v3 ∧ W.cell? a4 = some v4 ∧ W.cell? a5 = some v5 ∧ W.cell? a6 = some v6
theorem C6.all {wr W : World} {a1 a2 a3 a4 a5 a6 : Addr} {v1 v2 v3 v4 v5 v6 : Value} (h : C6 wr a1 v1 a2 v2 a3 v3 a4 v4 a5 v5 a6 v6) (r : RW wr W) :
    W.cell? a1 = some v1 ∧ W.cell? a2 = some v2 ∧ W.cell? a3 = some v3 ∧ W.cell? a4 = some v4 ∧ W.cell? a5 = some v5 ∧ W.cell? a6 = some v6 ∧ RW wr W :=
  ⟨cell_later r h.1, cell_later r h.2.1, cell_later r h.2.2.1, cell_later r h.2.2.2.1, cell_later r h.2.2.2.2.1, cell_later r h.2.2.2.2.2, r⟩

set_option maxHeartbeats 4000000 in
set_option maxRecDepth 100000 in
theorem gright_any {A : Option Addr} {n c : Nat} {es : List Ed} (N : Int) (w : World) (h : ReadE w A n es) :
    Calls Try.prog 70 #[.agg #[.int .i64 N, .slice A n c]] w fun e w' => e = .returned (.bool (rightB N es)) ∧ Below w.heap.size w w' := by
  have hn := h.2.1
  have H1 := Lib.hid h.1
  have hb0 : Below (w.heap.size + 1) (w.alloc (gcells N A n c)) (w.alloc (gcells N A n c)) := Below.refl _ _
  have HB0 := Lib.hid hb0
  clear hb0
  by_cases hN0 : N < 0
  · have hf : rightB N es = false := by unfold rightB; simp; omega
    rw [hf]
    clear hf
    go_enter Try.func70, Try.ntmps70
    go_wp2
    go_ret
    exact ⟨rfl, below_box HB0⟩
  by_cases hN1 : 4096 < N
  · have hf : rightB N es = false := by unfold rightB; simp; omega
    rw [hf]
    clear hf
    go_enter Try.func70, Try.ntmps70
    go_wp2
    go_ret
    exact ⟨rfl, below_box HB0⟩
  by_cases hn1 : 65536 < n
  · have hf : rightB N es = false := by unfold rightB; have := H1.out; simp; omega
    rw [hf]
    have hn1' : (65536 : Int) < (n : Int) := by omega
    clear hf
    go_enter Try.func70, Try.ntmps70
    go_wp2
    go_ret
    exact ⟨rfl, below_box HB0⟩
  have HR : Hid (rightB N es = allTo N es n) := by
    unfold Hid rightB
    rw [H1.out]
    simp [show 0 ≤ N from by omega, show N ≤ 4096 from by omega, show n ≤ 65536 from by omega]
  go_enter Try.func70, Try.ntmps70
  go_wp2
  go_loopw [25] (fun i wr => ∃ k : Nat, k ≤ n ∧ i = .int .i64 k ∧ Hid (allTo N es k = true) ∧ Below (w.heap.size + 1) (w.alloc (gcells N A n c)) wr) (fun i _ => n - (intOf i).toNat)
  case atStart => exact ⟨0, Nat.zero_le _, rfl, rfl, HB0⟩
  case round =>
    obtain ⟨k, hk, rfl, hall, hbr⟩ := hrel
    obtain ⟨g0, g1⟩ := gbox hbr
    have hrs := hbr.size
    simp at hrs
    have hlt0 : w.heap.size < wr.heap.size := by omega
    clear hrs
    by_cases hlt : k < n
    · obtain ⟨b, o, rfl, hc⟩ := (h.box hbr).2.2 (by omega)
      obtain ⟨hc1, hc2⟩ := hc k hlt
      cases hok : edgeOk N (ge es k)
      · have hfin : Hid (rightB N es = false) := rightB_false (k := k) (by unfold okAt; rw [hok]; rfl) (by have := H1.out; omega)
        clear hc
        have hbe : Hid (Below w.heap.size w (wr.alloc (.cells #[.int .i64 (ge es k).1, .int .i64 (ge es k).2] 41))) := (below_box hbr).alloc (by omega) _
        generalize ge es k = ek at *
        obtain ⟨e1, e2⟩ := ek
        simp only [edgeOk, Bool.and_eq_false_iff, decide_eq_false_iff_not] at hok
        by_cases q1 : e1 < 0
        · clear hok
          go_wp2_with fail
          go_region
          go_wp2_with fail
          go_ret
          exact ⟨by rw [hfin.out]; rfl, Below.trans hbe.out ((Drawn.refl _).drew.below _)⟩
        · have q1' : decide (e1 < 0) = false := by rw [decide_eq_false_iff_not]; exact q1
          have Q1 := Lib.hid q1
          by_cases q2 : e2 ≤ e1
          · have q2' : decide (e2 ≤ e1) = true := by rw [decide_eq_true_eq]; exact q2
            clear hok q1 q2
            go_wp2_with fail
            go_region
            go_wp2_with fail
            go_ret
            exact ⟨by rw [hfin.out]; rfl, Below.trans hbe.out ((Drawn.refl _).drew.below _)⟩
          · have q3 : N ≤ e2 := by omega
            have q2' : decide (e2 ≤ e1) = false := by rw [decide_eq_false_iff_not]; exact q2
            have q3' : decide (N ≤ e2) = true := by rw [decide_eq_true_eq]; exact q3
            clear hok q1 q2 q3
            go_wp2_with fail
            go_region
            go_wp2_with fail
            go_ret
            exact ⟨by rw [hfin.out]; rfl, Below.trans hbe.out ((Drawn.refl _).drew.below _)⟩
      · have hbe : Hid (Below (w.heap.size + 1) (w.alloc (gcells N (some ⟨b, o, none⟩) n c)) (wr.alloc (.cells #[.int .i64 (ge es k).1, .int .i64 (ge es k).2] 41))) := hbr.alloc (by omega) _
        have HE : Hid (edgeOk N (ge es k) = true) := hok
        generalize hek : ge es k = ek at *
        obtain ⟨e1, e2⟩ := ek
        simp only [edgeOk, Bool.and_eq_true, decide_eq_true_eq] at hok
        obtain ⟨q1, q2, q3⟩ := hok
        have q1' : decide (e1 < 0) = false := by rw [decide_eq_false_iff_not]; omega
        have q2' : decide (e2 ≤ e1) = false := by rw [decide_eq_false_iff_not]; omega
        have q3' : decide (N ≤ e2) = false := by rw [decide_eq_false_iff_not]; omega
        clear q1 q2 q3
        have HK := Lib.hid hek
        clear hek
        rcases Nat.eq_zero_or_pos k with rfl | hk0
        · have hstep : Hid (allTo N es (0 + 1) = true) := by
            unfold Hid
            rw [allTo, okAt, HK.out, HE.out]
            rfl
          clear hc
          simp only [Nat.zero_mul, Nat.add_zero] at hc1 hc2
          go_wp2_with fail
          go_region
          go_wp2
          go_roundw
          case rel => exact ⟨0 + 1, by omega, by go_num, hstep, Below.trans hbe ((Drawn.refl _).drew.below _)⟩
          case measure => simp [intOf]; omega
        · obtain ⟨j, rfl⟩ : ∃ j, k = j + 1 := ⟨k - 1, by omega⟩
          obtain ⟨hd1, hd2⟩ := hc j (by omega)
          have hca := fun W => compare_any (ge es j) (e1, e2) W
          have hstep : ahead (ge es j) (e1, e2) = true → allTo N es (j + 1 + 1) = true := fun h => by
            rw [allTo, hall.out, okAt, HK.out, HE.out]
            simp [h]
          have hstop : ahead (ge es j) (e1, e2) = false → rightB N es = false := fun h =>
            rightB_false (k := j + 1) (by rw [okAt, HK.out, HE.out]; simp [h]) (by have := H1.out; omega)
          have HST := Lib.hid hstep
          have HSP := Lib.hid hstop
          clear hc hstep hstop
          generalize ge es j = ej at *
          obtain ⟨f1, f2⟩ := ej
          have k0 : decide ((0 : Int) < (j : Int) + 1) = true := by rw [decide_eq_true_eq]; omega
          have ew : IntKind.i64.wrap ((j : Int) + 1 - 1) = (j : Int) := by rw [IntKind.wrap_i64]; omega
          have ew2 : IntKind.i64.wrap (j : Int) = (j : Int) := by rw [IntKind.wrap_i64]; omega
          have j1 : (0 : Int) ≤ (j : Int) ∧ (j : Int) < (n : Int) := by omega
          have hcc : ∀ q, ahead (f1, f2) (e1, e2) = q → decide (0 ≤ cmpE (f1, f2) (e1, e2)) = !q := fun q hq => by
            have := cmpE_lt (a := (f1, f2)) (b := (e1, e2))
            rw [hq] at this
            cases q <;> simp at this ⊢ <;> omega
          generalize cmpE (f1, f2) (e1, e2) = r at *
          have hnw := heap_alloc_new wr (.cells #[.int .i64 e1, .int .i64 e2] 41)
          have hbn : Below wr.heap.size wr (wr.alloc (.cells #[.int .i64 e1, .int .i64 e2] 41)) := Below.alloc (Below.refl _ _) (Nat.le_refl _) _
          have HS1 : Hid (C6 (wr.alloc (.cells #[.int .i64 e1, .int .i64 e2] 41)) ⟨w.heap.size, 0, none⟩ (.int .i64 N) ⟨w.heap.size, 1, none⟩ (.slice (some ⟨b, o, none⟩) n c) ⟨b, o + j * 2, none⟩ (.int .i64 f1) ⟨b, o + j * 2 + 1, none⟩ (.int .i64 f2) ⟨wr.heap.size, 0, none⟩ (.int .i64 e1) ⟨wr.heap.size, 1, none⟩ (.int .i64 e2)) :=
            ⟨cell_later hbn g0, cell_later hbn g1, cell_later hbn hd1, cell_later hbn hd2, (cell_blk hnw 0).trans rfl, (cell_blk hnw 1).trans rfl⟩
          clear hnw hbn
          cases hah : ahead (f1, f2) (e1, e2)
          all_goals
            have hcq := hcc _ hah
            simp only [Bool.not_true, Bool.not_false] at hcq
            have HAH := Lib.hid hah
            clear hah hcc
            go_wp2_with fail
            generalize hW0 : wr.alloc (.cells #[.int .i64 e1, .int .i64 e2] 41) = w0 at *
            go_region_held3 (fun w' => w'.cell? ⟨w.heap.size, 0, none⟩ = some (.int .i64 N) ∧ w'.cell? ⟨w.heap.size, 1, none⟩ = some (.slice (some ⟨b, o, none⟩) n c) ∧ w'.cell? ⟨b, o + j * 2, none⟩ = some (.int .i64 f1) ∧ w'.cell? ⟨b, o + j * 2 + 1, none⟩ = some (.int .i64 f2) ∧ w'.cell? ⟨wr.heap.size, 0, none⟩ = some (.int .i64 e1) ∧ w'.cell? ⟨wr.heap.size, 1, none⟩ = some (.int .i64 e2) ∧ RW w0 w')
              (first | exact C6.all HS1.out (RW.refl w0).drew | exact C6.all HS1.out (RW.later (And.right (And.right (And.right (And.right (And.right (And.right (by assumption))))))) hb9) | fail)
              ((go_at_call 94; refine (hca _).mono ?_; rintro e w9 ⟨rfl, hb9⟩))
            have hfin : RW w0 w9 := And.right (And.right (And.right (And.right (And.right (And.right (by assumption))))))
            have hfin2 := hbe.out.trans (hfin.mono (by have := Below.size hbe.out; simp at this; exact this))
            go_wp2_with fail
            first
              | exact ⟨⟨j + 1 + 1, by omega, by go_num, HST.out HAH.out, hfin2⟩, by simp [intOf]; omega⟩
              | (go_ret
                 exact ⟨by rw [HSP.out HAH.out]; rfl, below_box hfin2⟩)
    · have hfin : Hid (rightB N es = true) := by
        unfold Hid
        rw [HR.out, show n = k from by omega]
        exact hall
      go_wp2
      go_ret
      exact ⟨by rw [hfin.out]; rfl, below_box hbr⟩

end Go.Proofs.Ytnldfjoadmehcaa
