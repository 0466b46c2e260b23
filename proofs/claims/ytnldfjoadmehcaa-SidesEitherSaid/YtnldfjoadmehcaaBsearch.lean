/- The walks of slices.BinarySearchFunc over edges, graph.edge, graph.place, graph.Index, graph.Has. -/
import Derived.Test.YtnldfjoadmehcaaTools
set_option linter.unusedVariables false
set_option linter.unusedSimpArgs false
namespace Go.Proofs.Ytnldfjoadmehcaa
open Go.RowKit

/-- p is where e is, or would be. -/
def IsLow (es : List Ed) (e : Ed) (p : Nat) : Prop := p ≤ es.length ∧ (∀ i, i < p → ahead (ge es i) e = true) ∧ (∀ i, p ≤ i → i < es.length → ahead (ge es i) e = false)
theorem rise_at {es : List Ed} (hs : es.Pairwise fun a b => ahead a b = true) {i j : Nat} (h : i < j) (hj : j < es.length) : ahead (ge es i) (ge es j) = true := by
  rw [ge_get (show i < es.length by omega), ge_get hj]
  exact List.pairwise_iff_getElem.1 hs i j (by omega) hj h
theorem low_left {es : List Ed} {e : Ed} (hs : es.Pairwise fun a b => ahead a b = true) {m : Nat} (hm : m < es.length) (h : ahead (ge es m) e = true) : ∀ k, k < m + 1 → ahead (ge es k) e = true := fun k hk => by
  by_cases q : k = m
  · subst q
    exact h
  · exact ahead_trans (rise_at hs (by omega) hm) h
theorem low_right {es : List Ed} {e : Ed} (hs : es.Pairwise fun a b => ahead a b = true) {m : Nat} (h : ahead (ge es m) e = false) : ∀ k, m ≤ k → k < es.length → ahead (ge es k) e = false := fun k hk hl => by
  by_cases q : m = k
  · subst q
    exact h
  · cases hc : ahead (ge es k) e
    · rfl
    · rw [ahead_trans (rise_at hs (show m < k by omega) hl) hc] at h
      cases h
/-- It is there, if it is at its place. -/
theorem low_mem {es : List Ed} {e : Ed} {p : Nat} (hs : es.Pairwise fun a b => ahead a b = true) (h : IsLow es e p) : e ∈ es ↔ p < es.length ∧ ge es p = e := by
  constructor
  · intro hm
    obtain ⟨i, hi, he⟩ := List.getElem_of_mem hm
    have hg := ge_get hi
    rw [he] at hg
    have h1 : ¬ i < p := fun q => by
      have := h.2.1 i q
      rw [hg, ahead_irrefl] at this
      cases this
    by_cases q : i = p
    · subst q
      exact ⟨hi, hg⟩
    · have h2 := h.2.2 p (Nat.le_refl _) (by omega)
      rw [← hg, rise_at hs (show p < i by omega) hi] at h2
      cases h2
  · rintro ⟨h1, rfl⟩
    rw [ge_get h1]
    exact List.getElem_mem h1

theorem cmp_dec {a b : Ed} {q : Bool} (h : ahead a b = q) : decide (cmpE a b < 0) = q := by
  have := cmpE_lt (a := a) (b := b)
  rw [h] at this
  cases q <;> simp at this ⊢ <;> omega

set_option maxHeartbeats 4000000 in
set_option maxRecDepth 100000 in
theorem bs_any {A : Option Addr} {n c : Nat} {es : List Ed} (e1 e2 : Int) (w : World) (h : ReadE w A n es) (hs : es.Pairwise fun a b => ahead a b = true) (hn6 : n ≤ 65536) :
    Calls Try.prog 103 #[.slice A n c, .agg #[.int .i64 e1, .int .i64 e2], .func (.func 94) #[.agg #[]] #[]] w fun r w' =>
      ∃ p : Nat, r = .returned (.tuple #[.int .i64 p, .bool (decide ((e1, e2) ∈ es))]) ∧ Hid (IsLow es (e1, e2) p) ∧ Below w.heap.size w w' := by
  have H1 := Lib.hid h.1
  have HS := Lib.hid hs
  have HB0 : Hid (EB w e1 e2 (w.alloc (ecell2 e1 e2))) := EB.refl w e1 e2
  clear hs
  go_enter Try.func103, Try.ntmps103
  go_wp2_with fail
  go_loopw [9, 10] (fun i j wr => ∃ a b : Nat, i = .int .i64 a ∧ j = .int .i64 b ∧ a ≤ b ∧ b ≤ n ∧ Hid (∀ k, k < a → ahead (ge es k) (e1, e2) = true) ∧ Hid (∀ k, b ≤ k → k < n → ahead (ge es k) (e1, e2) = false) ∧ Hid (EB w e1 e2 wr)) (fun i j _ => (intOf j).toNat - (intOf i).toNat)
  case atStart => exact ⟨0, n, rfl, rfl, Nat.zero_le _, Nat.le_refl _, fun k hk => absurd hk (by omega), fun k h1 h2 => absurd h1 (by omega), HB0⟩
  case round =>
    obtain ⟨a, b, rfl, rfl, hab, hbn, hl, hr, heb⟩ := hrel
    by_cases hlt : a < b
    · obtain ⟨m, hm⟩ : ∃ m, m = (a + b) / 2 := ⟨_, rfl⟩
      have hm1 : a ≤ m := by omega
      have hm2 : m < b := by omega
      have hlt2 : decide ((a : Int) < (b : Int)) = true := by rw [decide_eq_true_eq]; omega
      obtain ⟨bb, o, rfl, hc⟩ := (h.below heb.out.bel).2.2 (by omega)
      obtain ⟨hc1, hc2⟩ := hc m (by omega)
      obtain ⟨x0, x1⟩ := heb.out.cells
      have hmz : ((a : Int) + (b : Int)) / 2 = (m : Int) := by omega
      have m1 : (0 : Int) ≤ (m : Int) ∧ (m : Int) < (n : Int) := by omega
      have HS1 : Hid (wr.cell? ⟨bb, o + m * 2, none⟩ = some (.int .i64 (ge es m).1) ∧ wr.cell? ⟨bb, o + m * 2 + 1, none⟩ = some (.int .i64 (ge es m).2) ∧ wr.cell? ⟨w.heap.size, 0, none⟩ = some (.int .i64 e1) ∧ wr.cell? ⟨w.heap.size, 1, none⟩ = some (.int .i64 e2)) := ⟨hc1, hc2, x0, x1⟩
      have hcmp := fun W => compare_any (ge es m) (e1, e2) W
      have HML : Hid (ahead (ge es m) (e1, e2) = true → ∀ k, k < m + 1 → ahead (ge es k) (e1, e2) = true) := fun q => low_left HS.out (by have := H1.out; omega) q
      have HMR : Hid (ahead (ge es m) (e1, e2) = false → ∀ k, m ≤ k → k < n → ahead (ge es k) (e1, e2) = false) := fun q k h1 h2 => low_right HS.out q k h1 (by have := H1.out; omega)
      have hd := fun q => cmp_dec (a := ge es m) (b := (e1, e2)) (q := q)
      clear hc hc1 hc2 x0 x1 hm
      generalize ge es m = em at *
      obtain ⟨f1, f2⟩ := em
      simp only [] at hcmp
      cases hah : ahead (f1, f2) (e1, e2)
      all_goals
        have hdq := hd _ hah
        have HAH := Lib.hid hah
        clear hah hd
        generalize cmpE (f1, f2) (e1, e2) = r at *
        go_wp2_with fail
        clear hmz
        go_region_held3 (fun w' => w'.cell? ⟨bb, o + m * 2, none⟩ = some (.int .i64 f1) ∧ w'.cell? ⟨bb, o + m * 2 + 1, none⟩ = some (.int .i64 f2) ∧ w'.cell? ⟨w.heap.size, 0, none⟩ = some (.int .i64 e1) ∧ w'.cell? ⟨w.heap.size, 1, none⟩ = some (.int .i64 e2) ∧ RW wr w')
          (first | exact RW.all HS1.out (RW.refl wr) | exact RW.all HS1.out (RW.refl wr).drew | exact RW.all HS1.out (RW.later (And.right (And.right (And.right (And.right (by assumption))))) hb9) | fail)
          (first
            | (go_at_call 94; refine (hcmp _).mono ?_; rintro e w9 ⟨rfl, hb9⟩)
            | fail)
        have hfin : RW wr w9 := And.right (And.right (And.right (And.right (by assumption))))
        have HE9 := Lib.hid (heb.out.later hfin)
        have m2 : a ≤ m ∧ m < b := by omega
        go_wp2_with fail
        first
          | exact ⟨⟨m + 1, b, by go_num, rfl, by omega, by omega, HML.out HAH.out, hr, HE9⟩, by simp [intOf]; omega⟩
          | exact ⟨⟨a, m, rfl, by go_num, by omega, by omega, hl, HMR.out HAH.out, HE9⟩, by simp [intOf]; omega⟩
    · obtain rfl : a = b := by omega
      have HLOW : Hid (IsLow es (e1, e2) a) := ⟨by have := H1.out; omega, hl.out, fun i h1 h2 => hr.out i h1 (by have := H1.out; omega)⟩
      have HMEM := Lib.hid (low_mem HS.out HLOW.out)
      have hq : decide ((a : Int) < (a : Int)) = false := by simp
      by_cases han : a < n
      · have han2 : decide ((a : Int) < (n : Int)) = true := by rw [decide_eq_true_eq]; omega
        obtain ⟨bb, o, rfl, hc⟩ := (h.below heb.out.bel).2.2 (by omega)
        obtain ⟨hc1, hc2⟩ := hc a (by omega)
        obtain ⟨x0, x1⟩ := heb.out.cells
        have m1 : (0 : Int) ≤ (a : Int) ∧ (a : Int) < (n : Int) := by omega
        have HS1 : Hid (wr.cell? ⟨bb, o + a * 2, none⟩ = some (.int .i64 (ge es a).1) ∧ wr.cell? ⟨bb, o + a * 2 + 1, none⟩ = some (.int .i64 (ge es a).2) ∧ wr.cell? ⟨w.heap.size, 0, none⟩ = some (.int .i64 e1) ∧ wr.cell? ⟨w.heap.size, 1, none⟩ = some (.int .i64 e2)) := ⟨hc1, hc2, x0, x1⟩
        have hcmp := fun W => compare_any (ge es a) (e1, e2) W
        have hd : (cmpE (ge es a) (e1, e2) == 0) = decide ((e1, e2) ∈ es) := by
          rw [Bool.eq_iff_iff, beq_iff_eq, decide_eq_true_eq, HMEM.out, cmpE_eq]
          exact ⟨fun q => ⟨by have := H1.out; omega, q⟩, fun q => q.2⟩
        clear hc hc1 hc2 x0 x1
        generalize ge es a = em at *
        obtain ⟨f1, f2⟩ := em
        simp only [] at hcmp
        generalize cmpE (f1, f2) (e1, e2) = r at *
        go_wp2_with fail
        go_region_held3 (fun w' => w'.cell? ⟨bb, o + a * 2, none⟩ = some (.int .i64 f1) ∧ w'.cell? ⟨bb, o + a * 2 + 1, none⟩ = some (.int .i64 f2) ∧ w'.cell? ⟨w.heap.size, 0, none⟩ = some (.int .i64 e1) ∧ w'.cell? ⟨w.heap.size, 1, none⟩ = some (.int .i64 e2) ∧ RW wr w')
          (first | exact RW.all HS1.out (RW.refl wr) | exact RW.all HS1.out (RW.refl wr).drew | exact RW.all HS1.out (RW.later (And.right (And.right (And.right (And.right (by assumption))))) hb9) | fail)
          (first
            | (go_at_call 94; refine (hcmp _).mono ?_; rintro e w9 ⟨rfl, hb9⟩)
            | fail)
        have hfin : RW wr w9 := And.right (And.right (And.right (And.right (by assumption))))
        have HE9 := Lib.hid (heb.out.later hfin)
        go_wp2_with fail
        go_ret2
        exact ⟨a, rfl, HLOW, HE9.out.bel⟩
      · have han2 : decide ((a : Int) < (n : Int)) = false := by rw [decide_eq_false_iff_not]; omega
        have HD : Hid (decide ((e1, e2) ∈ es) = false) := by
          unfold Hid
          rw [decide_eq_false_iff_not, HMEM.out]
          rintro ⟨q, -⟩
          have := H1.out
          omega
        go_wp2_with fail
        go_region
        go_wp2_with fail
        go_ret2
        exact ⟨a, by rw [HD.out]; rfl, HLOW, (heb.out.draws 1).bel⟩

end Go.Proofs.Ytnldfjoadmehcaa
