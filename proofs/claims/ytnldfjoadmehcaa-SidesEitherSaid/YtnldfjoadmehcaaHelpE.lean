/- The walks of the functions that hold lists of edges, and graphs, against each other. -/
import Derived.Test.YtnldfjoadmehcaaGRight
set_option linter.unusedVariables false
set_option linter.unusedSimpArgs false
namespace Go.Proofs.Ytnldfjoadmehcaa
open Go.RowKit
attribute [local go_sem high] eqE

theorem take_succE {xs : List Ed} {k : Nat} (h : k < xs.length) : xs.take (k + 1) = xs.take k ++ [ge xs k] := by
  rw [List.take_succ_eq_append_getElem h]
  simp [ge, List.getD_eq_getElem?_getD, h]

theorem eqE_any (a b : Ed) (w : World) : Calls Try.prog 86 #[.agg #[.int .i64 a.1, .int .i64 a.2], .agg #[.int .i64 b.1, .int .i64 b.2]] w fun e w' => e = .returned (.bool (a.1 == b.1 && a.2 == b.2)) ∧ Below w.heap.size w w' := by
  obtain ⟨a1, a2⟩ := a
  obtain ⟨b1, b2⟩ := b
  have hb : Below w.heap.size w ((w.alloc (.cells #[.int .i64 a1, .int .i64 a2] 41)).alloc (.cells #[.int .i64 b1, .int .i64 b2] 41)) := ((Below.refl _ _).alloc (Nat.le_refl _) _).alloc (by simp) _
  have HB := Lib.hid hb
  clear hb
  go_enter Try.func86, Try.ntmps86
  go_wp2_with fail
  go_ret
  exact ⟨rfl, HB⟩

set_option maxHeartbeats 4000000 in
theorem sameE_any {A B : Option Addr} {n m ca cb : Nat} {xs ys : List Ed} (w : World) (ha : ReadE w A n xs) (hb : ReadE w B m ys) :
    Calls Try.prog 85 #[.slice A n ca, .slice B m cb, .func (.func 86) #[] #[]] w fun e w' => e = .returned (.bool (decide (xs = ys))) ∧ Below w.heap.size w w' := by
  have a1 := ha.1
  have a2 := ha.2.1
  have b1 := hb.1
  have b2 := hb.2.1
  by_cases hnm : n = m
  · subst hnm
    have A1 := Lib.hid a1
    have B1 := Lib.hid b1
    clear a1 b1
    go_enter Try.func85, Try.ntmps85
    go_wp2_with fail
    go_loopw [7] (fun i wr => ∃ k : Nat, k ≤ n ∧ i = .int .i64 k ∧ Hid (xs.take k = ys.take k) ∧ Below w.heap.size w wr) (fun i _ => n - (intOf i).toNat)
    case atStart => exact ⟨0, Nat.zero_le _, rfl, rfl, Below.refl _ _⟩
    case round =>
      obtain ⟨k, hk, rfl, hx, hbr⟩ := hrel
      by_cases hlt : k < n
      · obtain ⟨b, o, rfl, hc⟩ := (ha.below hbr).2.2 (by omega)
        obtain ⟨b', o', rfl, hc'⟩ := (hb.below hbr).2.2 (by omega)
        obtain ⟨c1, c2⟩ := hc k hlt
        obtain ⟨d1, d2⟩ := hc' k hlt
        have ht := take_succE (xs := xs) (k := k) (by have := A1.out; omega)
        have ht' := take_succE (xs := ys) (k := k) (by have := B1.out; omega)
        have HT := Lib.hid ht
        have HT' := Lib.hid ht'
        have hkn : (0 : Int) ≤ k ∧ (k : Int) < n := by omega
        have HBR := Lib.hid hbr
        clear hc ht hc' ht' hbr
        have hne : ge xs k ≠ ge ys k → xs ≠ ys := fun h e => h (by rw [e])
        have HNE := Lib.hid hne
        clear hne
        have hca := fun W => eqE_any (ge xs k) (ge ys k) W
        generalize ge xs k = ex at *
        generalize ge ys k = ey at *
        obtain ⟨x1, x2⟩ := ex
        obtain ⟨y1, y2⟩ := ey
        have HS1 : Hid (wr.cell? ⟨b, o + k * 2, none⟩ = some (.int .i64 x1) ∧ wr.cell? ⟨b, o + k * 2 + 1, none⟩ = some (.int .i64 x2) ∧ wr.cell? ⟨b', o' + k * 2, none⟩ = some (.int .i64 y1) ∧ wr.cell? ⟨b', o' + k * 2 + 1, none⟩ = some (.int .i64 y2)) := ⟨c1, c2, d1, d2⟩
        simp only [] at hca
        cases hq : (x1 == y1 && x2 == y2)
        all_goals
          rw [hq] at hca
          have HQ := Lib.hid hq
          clear hq
          go_wp2_with fail
          go_region_held3 (fun w' => w'.cell? ⟨b, o + k * 2, none⟩ = some (.int .i64 x1) ∧ w'.cell? ⟨b, o + k * 2 + 1, none⟩ = some (.int .i64 x2) ∧ w'.cell? ⟨b', o' + k * 2, none⟩ = some (.int .i64 y1) ∧ w'.cell? ⟨b', o' + k * 2 + 1, none⟩ = some (.int .i64 y2) ∧ RW wr w')
            (first | exact RW.all HS1.out (RW.refl wr).drew | exact RW.all HS1.out (RW.later (And.right (And.right (And.right (And.right (by assumption))))) hb9) | fail)
            ((go_at_call 86; refine (hca _).mono ?_; rintro e w9 ⟨rfl, hb9⟩))
          have hfin : RW wr w9 := And.right (And.right (And.right (And.right (by assumption))))
          have hfin2 : Below w.heap.size w w9 := below_after HBR.out HBR.out.size hfin
          go_wp2_with fail
          first
            | (refine ⟨⟨k + 1, by omega, by go_num, ?_, hfin2⟩, by simp [intOf]; omega⟩
               unfold Hid at *
               simp only [Bool.and_eq_true, beq_iff_eq] at HQ
               rw [HT, HT', hx, HQ.1, HQ.2])
            | (go_ret
               exact ⟨by rw [decide_eq_false (HNE.out fun e => by injection e with e1 e2; have := HQ.out; simp [e1, e2] at this)]; rfl, hfin2⟩)
      · go_wp2_with fail
        go_ret
        have e : xs.take k = xs := List.take_of_length_le (by have := A1.out; omega)
        have e' : ys.take k = ys := List.take_of_length_le (by have := B1.out; omega)
        unfold Hid at hx
        rw [e, e'] at hx
        exact ⟨by simp [hx], hbr⟩
  · have hne : xs ≠ ys := by
      rintro rfl
      omega
    have hd : decide (xs = ys) = false := by simp [hne]
    rw [hd]
    have hnm' : ((n : Int) != (m : Int)) = true := by simp; omega
    clear hnm hd hne
    clear a1 b1
    go_enter Try.func85, Try.ntmps85
    go_wp2_with fail
    go_ret
    exact ⟨rfl, Below.refl _ _⟩

theorem plainE_any {A B : Option Addr} {n m ca cb : Nat} {xs ys : List Ed} (w : World) (ha : ReadE w A n xs) (hb : ReadE w B m ys) :
    Calls Try.prog 54 #[.slice A n ca, .slice B m cb] w fun e w' => e = .returned (.bool (decide (xs = ys))) ∧ Below w.heap.size w w' := by
  have h := sameE_any (ca := ca) (cb := cb) w ha hb
  clear ha hb
  go_enter Try.func54, Try.ntmps54
  go_wp2_with (go_at_call 85; refine h.mono ?_; rintro e w' ⟨rfl, hd⟩)
  go_ret
  exact ⟨rfl, by assumption⟩

/-- Two graphs, held against each other. -/
theorem graphEq_any {N M : Int} {A B : Option Addr} {n m ca cb : Nat} {xs ys : List Ed} (w : World) (ha : ReadE w A n xs) (hb : ReadE w B m ys) :
    Calls Try.prog 22 #[.agg #[.int .i64 N, .slice A n ca], .agg #[.int .i64 M, .slice B m cb]] w fun e w' => e = .returned (.bool (decide (N = M) && decide (xs = ys))) ∧ Below w.heap.size w w' := by
  have hbl : Below w.heap.size w ((w.alloc (gcells N A n ca)).alloc (gcells M B m cb)) := Below.alloc (Below.alloc (Below.refl _ _) (Nat.le_refl _) _) (by simp) _
  have h := plainE_any (ca := ca) (cb := cb) _ (ha.below hbl) (hb.below hbl)
  have HBL := Lib.hid hbl
  clear hbl ha hb
  by_cases hN : N = M
  · subst hN
    rw [decide_eq_true rfl, Bool.true_and]
    go_enter Try.func22, Try.ntmps22
    go_wp2_with fail
    refine h.mono ?_
    rintro e w1 ⟨rfl, hb1⟩
    go_wp2_with fail
    go_ret
    exact ⟨rfl, below_after HBL.out HBL.out.size hb1⟩
  · have hN' : (N == M) = false := by simpa using hN
    rw [decide_eq_false hN, Bool.false_and]
    clear h
    go_enter Try.func22, Try.ntmps22
    go_wp2_with fail
    go_ret
    exact ⟨rfl, HBL.out⟩

end Go.Proofs.Ytnldfjoadmehcaa
