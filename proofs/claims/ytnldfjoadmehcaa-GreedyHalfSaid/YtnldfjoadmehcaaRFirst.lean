/- The walk of garlandref10.First. -/
import Derived.Test.YtnldfjoadmehcaaGFirst
set_option linter.unusedVariables false
set_option linter.unusedSimpArgs false
namespace Go.Proofs.Ytnldfjoadmehcaa
open Go.RowKit

/-- The mates within the inner loop, at its i-th neighbour. -/
def InF (l : List Int) (k : Nat) (ms : List Int) (i : Nat) (ms' : List Int) : Prop :=
  (gi ms' k < 0 → ms' = ms ∧ scanM ms l (l.length - i) i = scanM ms l l.length 0) ∧ (0 ≤ gi ms' k → ms' = stepF l k ms) ∧ ms'.length = ms.length
theorem InF.start (l : List Int) (k : Nat) (ms : List Int) : InF l k ms 0 ms :=
  ⟨fun _ => ⟨rfl, rfl⟩, fun h => by unfold stepF; rw [if_neg (by omega)], rfl⟩
theorem InF.stop {l : List Int} {k : Nat} {ms ms' : List Int} (h : InF l k ms l.length ms') : ms' = stepF l k ms := by
  by_cases q : gi ms' k < 0
  · obtain ⟨e, h1⟩ := h.1 q
    subst e
    rw [Nat.sub_self] at h1
    unfold stepF
    rw [if_pos q, ← h1]
    rfl
  · exact h.2.1 (by omega)
theorem InF.no {l : List Int} {k i : Nat} {ms ms' : List Int} (h : InF l k ms i ms') (hi : i < l.length) (hk : gi ms' k < 0) (hx : ¬ gi ms' (gi l i).toNat < 0) : InF l k ms (i + 1) ms' := by
  obtain ⟨e, h1⟩ := h.1 hk
  subst e
  refine ⟨fun _ => ⟨rfl, ?_⟩, fun q => absurd hk (by omega), rfl⟩
  rw [← h1, show l.length - i = (l.length - (i + 1)) + 1 from by omega, scanM, if_neg hx]
theorem InF.yes {l : List Int} {k i y : Nat} {ms ms' : List Int} (h : InF l k ms i ms') (hi : i < l.length) (hk : gi ms' k < 0) (hy : gi l i = y) (hx : gi ms' y < 0) (hyk : y ≠ k) (hkl : k < ms.length) : InF l k ms (i + 1) ((ms'.set k (y : Int)).set y (k : Int)) := by
  obtain ⟨e, h1⟩ := h.1 hk
  subst e
  have hs : scanM ms' l l.length 0 = i := by
    rw [← h1, show l.length - i = (l.length - (i + 1)) + 1 from by omega, scanM, hy, Int.toNat_natCast, if_pos hx]
  have hg : gi ((ms'.set k (y : Int)).set y (k : Int)) k = y := by
    rw [gi_set, if_neg (by omega), gi_set, if_pos ⟨rfl, hkl⟩]
  refine ⟨fun q => ?_, fun _ => ?_, by simp⟩
  · rw [hg] at q
    omega
  · unfold stepF
    rw [if_pos hk, hs, if_pos (by omega), Int.toNat_natCast, hy, Int.toNat_natCast]

set_option maxHeartbeats 8000000 in
set_option maxRecDepth 100000 in
theorem rfirst_any {A : Option Addr} {n c : Nat} {es : List Ed} (N : Int) (w : World) (h : ReadE w A n es) :
    Calls Try.prog 38 #[.agg #[.int .i64 N, .slice A n c]] w fun e w' => ∃ v, e = .returned v ∧ OwnI w' w.heap.size v (firstL N es) ∧ Below w.heap.size w w' := by
  have hb1 := bel_alloc w (gcells N A n c)
  obtain ⟨x0, x1⟩ := boxg w N A n c
  have hr := noneR_any (c := c) N (w.alloc (gcells N A n c)) (h.below hb1)
  have HB1 := Lib.hid hb1
  have HX := Lib.hid (And.intro x0 x1)
  have HE := Lib.hid h
  clear hb1 h
  go_enter Try.func38, Try.ntmps38
  go_wp2_with fail
  refine hr.mono ?_
  rintro e w2 ⟨v0, rfl, own0, hb2⟩
  have HB2 := Lib.hid (bel_trans HB1.out hb2)
  have HX2 := Lib.hid (And.intro (cell_later hb2 HX.out.1) (cell_later hb2 HX.out.2))
  have HBS := Lib.hid hb2.size
  obtain ⟨A0, c0, rfl, -, -, -⟩ := OwnI.read own0
  have OWN0 := Lib.hid own0
  clear hb2 hr x0 x1 own0
  by_cases hz : (noneL N es).length = 0
  · have HN : Hid (firstL N es = []) := firstL_none hz
    have hd : decide ((0 : Int) < (0 : Int)) = false := by decide
    have HO : Hid (OwnI w2 w.heap.size (.slice A0 0 c0) []) := by
      have h1 := row_weaken OWN0.out (base' := w.heap.size) (by simp)
      rw [List.eq_nil_of_length_eq_zero hz] at h1
      exact h1
    rw [hz]
    clear hz OWN0
    go_wp2_with fail
    go_loopw [4, 5, 6] (fun i u v wr => i = .int .i64 0 ∧ Hid (OwnI wr w.heap.size (.slice A0 0 c0) []) ∧ Hid (Below w.heap.size w wr)) (fun i _ _ _ => 0)
    case atStart => exact ⟨rfl, HO, HB2⟩
    case round =>
      obtain ⟨rfl, ho, hb⟩ := hrel
      go_wp2_with fail
      go_ret
      rw [HN.out]
      exact ⟨_, rfl, ho.out, hb.out⟩
  · have hR : rightB N es = true := by
      cases q : rightB N es
      · exfalso
        unfold noneL at hz
        rw [q] at hz
        exact hz rfl
      · rfl
    obtain ⟨r1, r2, r3, r4⟩ := rightB_iff.1 hR
    obtain ⟨M, rfl⟩ : ∃ M : Nat, N = M := ⟨N.toNat, by omega⟩
    have hno : noneL M es = List.replicate M (-1) := by unfold noneL; rw [hR, if_pos rfl, Int.toNat_natCast]
    have HFL : Hid (firstL M es = firstTo M es M) := by unfold Hid firstL; rw [hR, if_pos rfl, Int.toNat_natCast]
    have HRI := Lib.hid r4
    have HRB := Lib.hid hR
    have OWN1 := OWN0.out
    rw [hno] at OWN1 hz ⊢
    simp only [List.length_replicate] at OWN1 hz ⊢
    obtain ⟨g, c1, e1, hg1, hg2, hg3⟩ := own_slice OWN1 (by simp; omega)
    injection e1 with e1 e2 e3
    subst e1 e3
    have hM : 0 < M := by omega
    have hM6 : M ≤ 4096 := by omega
    have HEL : Hid (es.length ≤ 65536) := r3
    have HI0 : Hid (OwnI w2 (w.heap.size + 1) (.slice (some ⟨g, 0, none⟩) M c0) (firstTo M es 0)) := row_weaken OWN1 (by simp)
    have HGG : Hid (w.heap.size + 1 ≤ g ∧ g < w2.heap.size) := ⟨by simp at hg1; exact hg1, hg2⟩
    clear OWN0 OWN1 hno r1 r2 r3 r4 hR hg1 hg2 hg3 e2 hz
    go_wp2_with fail
    go_loopw [4, 5, 6] (fun i u v wr => ∃ k : Nat, k ≤ M ∧ i = .int .i64 k ∧ Hid (OwnI wr (w.heap.size + 1) (.slice (some ⟨g, 0, none⟩) M c0) (firstTo M es k)) ∧ Hid (Below w.heap.size w wr ∧ wr.cell? ⟨w.heap.size, 0, none⟩ = some (.int .i64 M) ∧ wr.cell? ⟨w.heap.size, 1, none⟩ = some (.slice A n c))) (fun i _ _ _ => M - (intOf i).toNat)
    case atStart => exact ⟨0, Nat.zero_le _, rfl, HI0, ⟨HB2.out, HX2.out.1, HX2.out.2⟩⟩
    case round =>
      obtain ⟨k, hk, rfl, howr, hb⟩ := hrel
      obtain ⟨y0, y1⟩ := hb.out.2
      by_cases hlt : k < M
      · have HLT := Lib.hid hlt
        have HST : Hid (firstTo M es (k + 1) = stepF (nearV es k) k (firstTo M es k)) := rfl
        have HLM := Lib.hid (firstTo_length M es k)
        have hne := near_any (c := c) M (k : Int) wr (HE.out.below hb.out.1)
        go_wp2_with fail
        refine hne.mono ?_
        rintro e w5 ⟨u, rfl, ou, hb5⟩
        rw [nearL_right HRB.out] at ou
        obtain ⟨A1, c1, rfl, -, -, hr1⟩ := OwnI.read ou
        have HRL := Lib.hid hr1
        have HGW : Hid (g < wr.heap.size) := howr.out.lt.2
        have HRG : Hid (∀ b o, A1 = some ⟨b, o, none⟩ → b ≠ g) := fun b o e q => by
          subst e
          have := row_base ou b rfl
          have := HGW.out
          omega
        have HO5 := Lib.hid (howr.out.later hb5)
        have HB5 : Hid (Below w.heap.size w w5 ∧ w5.cell? ⟨w.heap.size, 0, none⟩ = some (.int .i64 M) ∧ w5.cell? ⟨w.heap.size, 1, none⟩ = some (.slice A n c)) := ⟨bel_trans hb.out.1 hb5, later2 hb5 hb.out.2⟩
        clear hne ou hr1 hb5 y0 y1
        obtain ⟨l, hl⟩ : ∃ l, l = nearV es k := ⟨_, rfl⟩
        have HNI : Hid (∀ j, j < l.length → ∃ y : Nat, gi l j = y ∧ y < M ∧ y ≠ k) := fun j hj => by
          rw [hl] at hj ⊢
          have := near_in HRI.out (gi_mem hj)
          exact ⟨(gi (nearV es k) j).toNat, by omega, by omega, by omega⟩
        rw [← hl] at HRL HST ⊢
        have HLL := Lib.hid hl
        clear hl
        obtain ⟨ms, hms⟩ : ∃ ms, ms = firstTo M es k := ⟨_, rfl⟩
        rw [← hms] at HST HLM HO5
        have HMS := Lib.hid hms
        clear hms
        have HIN : Hid (InF l k ms 0 ms) := InF.start l k ms
        have HL9 : l.length ≤ 9223372036854775807 := HRL.out.2.1
        obtain ⟨ln, hln⟩ : ∃ ln, ln = l.length := ⟨_, rfl⟩
        rw [← hln] at HRL HL9 ⊢
        have HLN := Lib.hid hln
        clear hln
        go_wp2_with fail
        go_loopw [6] (fun i wq => ∃ (j : Nat) (ms' : List Int), j ≤ ln ∧ i = .int .i64 j ∧ Hid (InF l k ms j ms') ∧ Hid (OwnI wq (w.heap.size + 1) (.slice (some ⟨g, 0, none⟩) M c0) ms') ∧ Hid (ReadI wq A1 ln l) ∧ Hid (Below w.heap.size w wq ∧ wq.cell? ⟨w.heap.size, 0, none⟩ = some (.int .i64 M) ∧ wq.cell? ⟨w.heap.size, 1, none⟩ = some (.slice A n c))) (fun i _ => ln - (intOf i).toNat)
        case atStart => exact ⟨0, ms, Nat.zero_le _, rfl, HIN, HO5, HRL, HB5⟩
        case round =>
          obtain ⟨j, ms', hj, rfl, hin, hoq, hrl, hbq⟩ := hrel
          by_cases hjl : j < ln
          · have HJL := Lib.hid hjl
            have hmk := hoq.out.cellAt HLT.out
            have hki : (0 : Int) ≤ (k : Int) ∧ (k : Int) < (M : Int) := by have := HLT.out; omega
            obtain ⟨x, hx⟩ : ∃ x, x = gi ms' k := ⟨_, rfl⟩
            rw [← hx] at hmk
            by_cases q : x < 0
            · have HQ := Lib.hid q
              obtain ⟨bb, oo, rfl, hcc⟩ := hrl.out.2.2 (by omega)
              have hcj := hcc j hjl
              obtain ⟨y, hy, hyM, hyk⟩ := HNI.out j (by have := HLN.out; omega)
              rw [hy] at hcj
              have hmy := hoq.out.cellAt hyM
              have hji : (0 : Int) ≤ (j : Int) ∧ (j : Int) < (ln : Int) := by omega
              have hyi : (0 : Int) ≤ (y : Int) ∧ (y : Int) < (M : Int) := by omega
              have HX9 := Lib.hid hx
              have HY9 := Lib.hid hy
              have HYM := Lib.hid (And.intro hyM hyk)
              obtain ⟨z, hzz⟩ : ∃ z, z = gi ms' y := ⟨_, rfl⟩
              rw [← hzz] at hmy
              have HZ9 := Lib.hid hzz
              have HCJ := Lib.hid hcj
              clear hx hcc hy hzz hyM hyk
              by_cases q9 : z < 0
              · have HIY : Hid (InF l k ms (j + 1) ((ms'.set k (y : Int)).set y (k : Int))) := hin.out.yes (by have := HLN.out; have := HJL.out; omega) (by rw [← HX9.out]; exact HQ.out) HY9.out (by rw [← HZ9.out]; exact q9) HYM.out.2 (by have := HLM.out; have := HLT.out; omega)
                go_wp2_with fail
                have HST1 : Hid ((wr.setCell ⟨g, k, none⟩ (.int .i64 (y : Int))).cell? ⟨bb, oo + j, none⟩ = some (.int .i64 (y : Int))) := (grown_set _ _ _ _).cell HCJ.out (by intro e; injection e with e; exact HRG.out _ _ rfl e)
                have HST2 : Hid (((wr.setCell ⟨g, k, none⟩ (.int .i64 (y : Int))).setCell ⟨g, y, none⟩ (.int .i64 (k : Int))).cell? ⟨bb, oo + j, none⟩ = some (.int .i64 (y : Int))) := (grown_set2 _ _ _ _ _ _).cell HCJ.out (by intro e; injection e with e; exact HRG.out _ _ rfl e)
                have fg1 := hoq.out.frozAt k
                have cg3 := (hoq.out.put1 k (y : Int)).cellAt HYM.out.1
                have fg3 := (hoq.out.put1 k (y : Int)).frozAt y
                go_region_held3 (fun w' => w'.cell? ⟨bb, oo + j, none⟩ = some (.int .i64 (y : Int)))
                  (first | assumption | exact HCJ.out | exact HST1.out | exact HST2.out | fail) (fail)
                have HO10 : Hid (OwnI ((wr.setCell ⟨g, k, none⟩ (.int .i64 (y : Int))).setCell ⟨g, y, none⟩ (.int .i64 (k : Int))).drew (w.heap.size + 1) (.slice (some ⟨g, 0, none⟩) M c0) ((ms'.set k (y : Int)).set y (k : Int))) := ((hoq.out.put1 k (y : Int)).put1 y (k : Int)).later (RW.refl _).drew
                have HRL10 : Hid (ReadI ((wr.setCell ⟨g, k, none⟩ (.int .i64 (y : Int))).setCell ⟨g, y, none⟩ (.int .i64 (k : Int))).drew (some ⟨bb, oo, none⟩) ln l) := (hrl.out.grown (grown_set2 wr g k y (.int .i64 (y : Int)) (.int .i64 (k : Int))) (fun b o e => by intro e2; injection e2 with e2; exact HRG.out b o e e2)).below (RW.refl _).drew
                have HB10 : Hid (Below w.heap.size w ((wr.setCell ⟨g, k, none⟩ (.int .i64 (y : Int))).setCell ⟨g, y, none⟩ (.int .i64 (k : Int))).drew ∧ ((wr.setCell ⟨g, k, none⟩ (.int .i64 (y : Int))).setCell ⟨g, y, none⟩ (.int .i64 (k : Int))).drew.cell? ⟨w.heap.size, 0, none⟩ = some (.int .i64 M) ∧ ((wr.setCell ⟨g, k, none⟩ (.int .i64 (y : Int))).setCell ⟨g, y, none⟩ (.int .i64 (k : Int))).drew.cell? ⟨w.heap.size, 1, none⟩ = some (.slice A n c)) :=
                  ⟨below_draws (Below.setCell (Below.setCell hbq.out.1 (by have h1 := HGG.out.1; show w.heap.size ≤ g; omega) _) (by have h1 := HGG.out.1; show w.heap.size ≤ g; omega) _) 1,
                    later2 (RW.refl _).drew ⟨(grown_set2 _ _ _ _ _ _).cell hbq.out.2.1 (by intro e; injection e with e; have h1 := HGG.out.1; have h2 : w.heap.size = g := e; omega), (grown_set2 _ _ _ _ _ _).cell hbq.out.2.2 (by intro e; injection e with e; have h1 := HGG.out.1; have h2 : w.heap.size = g := e; omega)⟩⟩
                clear HST1 HST2 fg1 cg3 fg3 hmk hmy hcj
                go_wp2_with fail
                go_roundw
                case rel => exact ⟨j + 1, _, by have := HJL.out; omega, by go_num, HIY, HO10, HRL10, HB10⟩
                case measure => have := HJL.out; simp [intOf]; omega
              · have hq9 : decide (z < 0) = false := by simpa using q9
                have HIY : Hid (InF l k ms (j + 1) ms') := hin.out.no (by have := HLN.out; have := HJL.out; omega) (by rw [← HX9.out]; exact HQ.out) (by rw [HY9.out, Int.toNat_natCast, ← HZ9.out]; exact q9)
                go_wp2_with fail
                go_roundw
                case rel => exact ⟨j + 1, ms', by have := HJL.out; omega, by go_num, HIY, hoq, hrl, hbq⟩
                case measure => have := HJL.out; simp [intOf]; omega
            · have hq : decide (x < 0) = false := by simpa using q
              have HON : Hid (OwnI wr (w.heap.size + 1) (.slice (some ⟨g, 0, none⟩) M c0) (firstTo M es (k + 1))) := by
                rw [HST.out, ← hin.out.2.1 (by rw [← hx]; omega)]
                exact hoq.out
              clear hx
              go_wp2_with fail
              go_roundw
              case rel => exact ⟨k + 1, by have := HLT.out; omega, by go_num, HON, hbq⟩
              case measure => have := HLT.out; simp [intOf]; omega
          · obtain rfl : j = ln := by omega
            have hd : decide ((j : Int) < (j : Int)) = false := by rw [decide_eq_false_iff_not]; omega
            have HON : Hid (OwnI wr (w.heap.size + 1) (.slice (some ⟨g, 0, none⟩) M c0) (firstTo M es (k + 1))) := by
              have := hin.out
              rw [HLN.out] at this
              rw [HST.out, ← this.stop]
              exact hoq.out
            clear hjl
            go_wp2_with fail
            go_roundw
            case rel => exact ⟨k + 1, by have := HLT.out; omega, by go_num, HON, hbq⟩
            case measure => have := HLT.out; simp [intOf]; omega
      · obtain rfl : k = M := by omega
        have hd : decide ((k : Int) < (k : Int)) = false := by rw [decide_eq_false_iff_not]; omega
        clear hlt hk
        go_wp2_with fail
        go_ret
        rw [HFL.out]
        exact ⟨_, rfl, row_weaken howr.out (by omega), hb.out.1⟩

end Go.Proofs.Ytnldfjoadmehcaa
