/- The walk of the reference's Right: which lists of edges are graphs. -/
import Derived.Test.YtnldfjoadmehcaaEdge
set_option linter.unusedVariables false
set_option linter.unusedSimpArgs false
namespace Go.Proofs.Ytnldfjoadmehcaa
open Go.RowKit

def edgeOk (n : Int) (e : Ed) : Bool := decide (0 ≤ e.1) && (decide (e.1 < e.2) && decide (e.2 < n))
def okAt (n : Int) (es : List Ed) (i : Nat) : Bool := edgeOk n (ge es i) && (i == 0 || ahead (ge es (i - 1)) (ge es i))
def allTo (n : Int) (es : List Ed) : Nat → Bool
  | 0 => true
  | i + 1 => allTo n es i && okAt n es i
/-- Is it a graph? -/
def rightB (n : Int) (es : List Ed) : Bool := decide (0 ≤ n) && (decide (n ≤ 4096) && (decide (es.length ≤ 65536) && allTo n es es.length))

theorem allTo_false {n : Int} {es : List Ed} {k : Nat} (h : okAt n es k = false) : ∀ m, k < m → allTo n es m = false
  | 0, hm => absurd hm (by omega)
  | m + 1, hm => by
    rw [allTo]
    by_cases e : k = m
    · subst e
      simp [h]
    · rw [allTo_false h m (by omega)]
      rfl

theorem rightB_false {n : Int} {es : List Ed} {k : Nat} (h : okAt n es k = false) (hk : k < es.length) : rightB n es = false := by
  unfold rightB
  rw [allTo_false h _ hk]
  simp

/-- The variable that holds a graph. -/
abbrev gcells (N : Int) (A : Option Addr) (n c : Nat) : Obj := .cells #[.int .i64 N, .slice A n c] 26

theorem gbox {w wr : World} {N : Int} {A : Option Addr} {n c : Nat} (hb : Below (w.heap.size + 1) (w.alloc (gcells N A n c)) wr) :
    wr.cell? ⟨w.heap.size, 0, none⟩ = some (.int .i64 N) ∧ wr.cell? ⟨w.heap.size, 1, none⟩ = some (.slice A n c) := by
  have h := heap_alloc_new w (gcells N A n c)
  refine ⟨?_, ?_⟩
  · rw [hb.cell (p := ⟨w.heap.size, 0, none⟩) (by simp), cell_blk h]
    rfl
  · rw [hb.cell (p := ⟨w.heap.size, 1, none⟩) (by simp), cell_blk h]
    rfl

theorem below_box {w wr : World} {o : Obj} (hb : Below (w.heap.size + 1) (w.alloc o) wr) : Below w.heap.size w wr :=
  (Below.alloc (Below.refl _ _) (Nat.le_refl _) o).trans (hb.mono (by omega))

theorem ReadE.box {w wr : World} {o : Obj} {A : Option Addr} {n : Nat} {es : List Ed} (h : ReadE w A n es) (hb : Below (w.heap.size + 1) (w.alloc o) wr) : ReadE wr A n es := h.below (below_box hb)

def GB (w : World) (N : Int) (A : Option Addr) (n c : Nat) (w' : World) : Prop := Below (w.heap.size + 1) (w.alloc (gcells N A n c)) w'
theorem keep6 {w w0 w' : World} {N : Int} {A : Option Addr} {n c : Nat} {a1 a2 a3 a4 a5 : Addr} {v1 v2 v3 v4 v5 : Value} (hb : Below w.heap.size w w') (h : w.cell? a1 = some v1 ∧ w.cell? a2 = some v2 ∧ w.cell? a3 = some v3 ∧ w.cell? a4 = some v4 ∧ w.cell? a5 = some v5 ∧ GB w0 N A n c w) :
    w'.cell? a1 = some v1 ∧ w'.cell? a2 = some v2 ∧ w'.cell? a3 = some v3 ∧ w'.cell? a4 = some v4 ∧ w'.cell? a5 = some v5 ∧ GB w0 N A n c w' :=
  ⟨cell_later hb h.1, cell_later hb h.2.1, cell_later hb h.2.2.1, cell_later hb h.2.2.2.1, cell_later hb h.2.2.2.2.1, Below.trans h.2.2.2.2.2 (hb.mono (by have := Below.size h.2.2.2.2.2; simp at this; omega))⟩

set_option maxHeartbeats 1000000 in
theorem right_any {A : Option Addr} {n c : Nat} {es : List Ed} (N : Int) (w : World) (h : ReadE w A n es) :
    Calls Try.prog 73 #[.agg #[.int .i64 N, .slice A n c]] w fun e w' => e = .returned (.bool (rightB N es)) ∧ Below w.heap.size w w' := by
  have hn := h.2.1
  have H1 := Lib.hid h.1
  have hb0 : Below (w.heap.size + 1) (w.alloc (gcells N A n c)) (w.alloc (gcells N A n c)) := Below.refl _ _
  have HB0 := Lib.hid hb0
  clear hb0
  by_cases hN0 : N < 0
  · have hf : rightB N es = false := by unfold rightB; simp; omega
    rw [hf]
    clear hf
    go_enter Try.func73, Try.ntmps73
    go_wp2
    go_ret
    exact ⟨rfl, below_box HB0⟩
  by_cases hN1 : 4096 < N
  · have hf : rightB N es = false := by unfold rightB; simp; omega
    rw [hf]
    clear hf
    go_enter Try.func73, Try.ntmps73
    go_wp2
    go_ret
    exact ⟨rfl, below_box HB0⟩
  by_cases hn1 : 65536 < n
  · have hf : rightB N es = false := by unfold rightB; have := H1.out; simp; omega
    rw [hf]
    have hn1' : (65536 : Int) < (n : Int) := by omega
    clear hf
    go_enter Try.func73, Try.ntmps73
    go_wp2
    go_ret
    exact ⟨rfl, below_box HB0⟩
  have HR : Hid (rightB N es = allTo N es n) := by
    unfold Hid rightB
    rw [H1.out]
    simp [show 0 ≤ N from by omega, show N ≤ 4096 from by omega, show n ≤ 65536 from by omega]
  go_enter Try.func73, Try.ntmps73
  go_wp2
  go_loopw [3] (fun i wr => ∃ k : Nat, k ≤ n ∧ i = .int .i64 k ∧ Hid (allTo N es k = true) ∧ Below (w.heap.size + 1) (w.alloc (gcells N A n c)) wr) (fun i _ => n - (intOf i).toNat)
  case atStart => exact ⟨0, Nat.zero_le _, rfl, rfl, HB0⟩
  case round =>
    obtain ⟨k, hk, rfl, hall, hbr⟩ := hrel
    obtain ⟨g0, g1⟩ := gbox hbr
    have hrs := hbr.size
    simp at hrs
    have hlt0 : w.heap.size < wr.heap.size := by omega
    clear hrs
    by_cases hlt : k < n
    · obtain ⟨b, o, rfl, hc⟩ := (h.box hbr).2.2 (by omega)
      obtain ⟨hc1, hc2⟩ := hc k hlt
      cases hok : edgeOk N (ge es k)
      · have hfin : Hid (rightB N es = false) := rightB_false (k := k) (by unfold okAt; rw [hok]; rfl) (by have := H1.out; omega)
        clear hc
        have hbe : Hid (Below w.heap.size w (wr.alloc (.cells #[.int .i64 (ge es k).1, .int .i64 (ge es k).2] 41))) := (below_box hbr).alloc (by omega) _
        generalize ge es k = ek at *
        obtain ⟨e1, e2⟩ := ek
        simp only [edgeOk, Bool.and_eq_false_iff, decide_eq_false_iff_not] at hok
        by_cases q1 : e1 < 0
        · clear hok
          go_wp2
          go_ret
          exact ⟨by rw [hfin.out]; rfl, hbe⟩
        · have q1' : decide (e1 < 0) = false := by simpa using q1
          by_cases q2 : e2 ≤ e1
          · clear hok
            go_wp2
            go_ret
            exact ⟨by rw [hfin.out]; rfl, hbe⟩
          · have q3 : N ≤ e2 := by omega
            clear hok
            go_wp2
            go_ret
            exact ⟨by rw [hfin.out]; rfl, hbe⟩
      · have hbe : Hid (Below (w.heap.size + 1) (w.alloc (gcells N (some ⟨b, o, none⟩) n c)) (wr.alloc (.cells #[.int .i64 (ge es k).1, .int .i64 (ge es k).2] 41))) := hbr.alloc (by omega) _
        have HE : Hid (edgeOk N (ge es k) = true) := hok
        generalize hek : ge es k = ek at *
        obtain ⟨e1, e2⟩ := ek
        simp only [edgeOk, Bool.and_eq_true, decide_eq_true_eq] at hok
        obtain ⟨q1, q2, q3⟩ := hok
        have HK := Lib.hid hek
        clear hek
        rcases Nat.eq_zero_or_pos k with rfl | hk0
        · have hstep : Hid (allTo N es (0 + 1) = true) := by
            unfold Hid
            rw [allTo, okAt, HK.out, HE.out]
            rfl
          clear hc
          simp only [Nat.zero_mul, Nat.add_zero] at hc1 hc2
          go_wp2_with fail
          go_quiet (fail)
          go_wp2
          go_roundw
          case rel => exact ⟨0 + 1, by omega, by go_num, hstep, below_draws hbe _⟩
          case measure => simp [intOf]; omega
        · obtain ⟨j, rfl⟩ : ∃ j, k = j + 1 := ⟨k - 1, by omega⟩
          obtain ⟨hd1, hd2⟩ := hc j (by omega)
          have hca := fun w => ahead_any (ge es j) (e1, e2) w
          have hstep : ahead (ge es j) (e1, e2) = true → allTo N es (j + 1 + 1) = true := fun h => by
            rw [allTo, hall.out, okAt, HK.out, HE.out]
            simp [h]
          have hstop : ahead (ge es j) (e1, e2) = false → rightB N es = false := fun h =>
            rightB_false (k := j + 1) (by rw [okAt, HK.out, HE.out]; simp [h]) (by have := H1.out; omega)
          have HST := Lib.hid hstep
          have HSP := Lib.hid hstop
          clear hc hstep hstop
          generalize ge es j = ej at *
          obtain ⟨f1, f2⟩ := ej
          have k0 : decide ((0 : Int) < (j : Int) + 1) = true := by rw [decide_eq_true_eq]; omega
          have ew : IntKind.i64.wrap ((j : Int) + 1 - 1) = (j : Int) := by rw [IntKind.wrap_i64]; omega
          have ew2 : IntKind.i64.wrap (j : Int) = (j : Int) := by rw [IntKind.wrap_i64]; omega
          have j1 : (0 : Int) ≤ (j : Int) ∧ (j : Int) < (n : Int) := by omega
          have hS : Hid ((wr.alloc (.cells #[.int .i64 e1, .int .i64 e2] 41)).drew.cell? ⟨w.heap.size, 1, none⟩ = some (.slice (some ⟨b, o, none⟩) n c) ∧ (wr.alloc (.cells #[.int .i64 e1, .int .i64 e2] 41)).drew.cell? ⟨b, o + j * 2, none⟩ = some (.int .i64 f1) ∧ (wr.alloc (.cells #[.int .i64 e1, .int .i64 e2] 41)).drew.cell? ⟨b, o + j * 2 + 1, none⟩ = some (.int .i64 f2) ∧ (wr.alloc (.cells #[.int .i64 e1, .int .i64 e2] 41)).drew.cell? ⟨wr.heap.size, 0, none⟩ = some (.int .i64 e1) ∧ (wr.alloc (.cells #[.int .i64 e1, .int .i64 e2] 41)).drew.cell? ⟨wr.heap.size, 1, none⟩ = some (.int .i64 e2) ∧ GB w N (some ⟨b, o, none⟩) n c (wr.alloc (.cells #[.int .i64 e1, .int .i64 e2] 41)).drew) := by
            have hbn : Below wr.heap.size wr (wr.alloc (.cells #[.int .i64 e1, .int .i64 e2] 41)).drew := (Below.alloc (Below.refl _ _) (Nat.le_refl _) _).trans ((Drawn.refl _).drew.below _)
            have hnw := heap_alloc_new wr (.cells #[.int .i64 e1, .int .i64 e2] 41)
            refine ⟨cell_later hbn g1, cell_later hbn hd1, cell_later hbn hd2, ?_, ?_, hbe.trans ((Drawn.refl _).drew.below _)⟩
            · exact (cell_blk hnw 0).trans rfl
            · exact (cell_blk hnw 1).trans rfl
          cases hah : ahead (f1, f2) (e1, e2)
          all_goals
            rw [hah] at hca
            have HAH := Lib.hid hah
            clear hah
            go_wp2_with fail
            go_region_held3 (fun w' => w'.cell? ⟨w.heap.size, 1, none⟩ = some (.slice (some ⟨b, o, none⟩) n c) ∧ w'.cell? ⟨b, o + j * 2, none⟩ = some (.int .i64 f1) ∧ w'.cell? ⟨b, o + j * 2 + 1, none⟩ = some (.int .i64 f2) ∧ w'.cell? ⟨wr.heap.size, 0, none⟩ = some (.int .i64 e1) ∧ w'.cell? ⟨wr.heap.size, 1, none⟩ = some (.int .i64 e2) ∧ GB w N (some ⟨b, o, none⟩) n c w')
              (first | exact hS.out | exact keep6 hb9 (by assumption))
              ((go_at_call 96; refine (hca _).mono ?_; rintro e w9 ⟨rfl, hb9⟩))
            have hfin : GB w N (some ⟨b, o, none⟩) n c w9 := And.right (And.right (And.right (And.right (And.right (by assumption)))))
            go_wp2
            first
              | exact ⟨⟨j + 1 + 1, by omega, by go_num, HST.out HAH.out, hfin⟩, by simp [intOf]; omega⟩
              | (go_ret
                 exact ⟨by rw [HSP.out HAH.out]; rfl, below_box hfin⟩)
    · have hfin : Hid (rightB N es = true) := by
        unfold Hid
        rw [HR.out, show n = k from by omega]
        exact hall
      go_wp2
      go_ret
      exact ⟨by rw [hfin.out]; rfl, below_box hbr⟩

end Go.Proofs.Ytnldfjoadmehcaa
