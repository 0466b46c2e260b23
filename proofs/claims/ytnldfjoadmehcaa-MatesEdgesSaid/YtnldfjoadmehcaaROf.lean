/- The walk of garlandref08.Of. -/
import Derived.Test.YtnldfjoadmehcaaOf
set_option linter.unusedVariables false
set_option linter.unusedSimpArgs false
namespace Go.Proofs.Ytnldfjoadmehcaa
open Go.RowKit

set_option maxHeartbeats 16000000 in
set_option maxRecDepth 100000 in
theorem rof_any {A B : Option Addr} {n c m d : Nat} {es ls : List Ed} (N : Int) (w : World) (h : ReadE w A n es) (hl : ReadE w B m ls) :
    Calls Try.prog 51 #[.agg #[.int .i64 N, .slice A n c], .slice B m d] w (OfQ (ofP N es ls) w) := by
  have hb1 := bel_alloc w (gcells N A n c)
  have hr := right_any (c := c) N (w.alloc (gcells N A n c)) (h.below hb1)
  have HB1 := Lib.hid hb1
  have HX := Lib.hid (boxg w N A n c)
  have HE := Lib.hid h
  have HL := Lib.hid hl
  have HLM := Lib.hid hl.1
  have hm9 := hl.2.1
  have HS1 : Hid ((w.alloc (gcells N A n c)).heap.size = w.heap.size + 1) := by simp [Hid]
  clear hb1 h hl
  go_enter Try.func51, Try.ntmps51
  obtain ⟨x0, x1⟩ := HX.out
  go_wp2_with fail
  generalize w.alloc (gcells N A n c) = w1 at *
  refine hr.mono ?_
  rintro e w2 ⟨rfl, hb2⟩
  have HB2 := Lib.hid (bel_trans HB1.out hb2)
  have HX2 := Lib.hid (later2 hb2 HX.out)
  have HS2 : Hid (w.heap.size + 1 ≤ w2.heap.size) := by rw [← HS1.out]; exact hb2.size
  clear hb2 hr x0 x1
  cases hR : rightB N es
  · have HN : Hid (ofP N es ls = ([], 3)) := by unfold Hid ofP; rw [hR]; rfl
    clear hR
    go_wp2_with fail
    go_ret2
    unfold OfQ
    rw [HN.out]
    exact ⟨_, rfl, ownI_empty _ _, HB2.out⟩
  · obtain ⟨r1, r2, r3, r4⟩ := rightB_iff.1 hR
    obtain ⟨M, rfl⟩ : ∃ M : Nat, N = M := ⟨N.toNat, by omega⟩
    have hM : M ≤ 4096 := by omega
    have HRB := Lib.hid hR
    have HOP : Hid (ofP M es ls = ofGo M es (ls.drop 0) (List.replicate M (-1))) := by unfold Hid ofP; rw [hR, if_pos rfl, Int.toNat_natCast, List.drop_zero]
    have hno : noneL M es = List.replicate M (-1) := by unfold noneL; rw [hR, if_pos rfl, Int.toNat_natCast]
    have hn := noneR_any (c := c) (M : Int) w2 (HE.out.below HB2.out)
    rw [hno] at hn
    obtain ⟨x0, x1⟩ := HX2.out
    have HMA : Hid (MatchN M es (List.replicate M (-1))) := rep_match M es
    clear hR r1 r2 r3 r4 hno
    go_wp2_with fail
    refine hn.mono ?_
    rintro e w3 ⟨v0, rfl, own0, hb3⟩
    obtain ⟨A0, c0, rfl, -, -, -⟩ := OwnI.read own0
    rw [List.length_replicate] at own0 ⊢
    have HO3 : Hid (OwnI w3 (w.heap.size + 1) (.slice A0 M c0) (List.replicate M (-1))) := row_weaken own0 HS2.out
    have HB3 : Hid (Below w.heap.size w w3 ∧ w3.cell? ⟨w.heap.size, 0, none⟩ = some (.int .i64 M) ∧ w3.cell? ⟨w.heap.size, 1, none⟩ = some (.slice A n c)) := ⟨bel_trans HB2.out hb3, later2 hb3 HX2.out⟩
    clear hn own0 hb3 x0 x1
    go_wp2_with fail
    go_loopw [7, 8, 9] (fun i _ _ wr => ∃ (k : Nat) (ms : List Int), k ≤ m ∧ i = .int .i64 k ∧ Hid (ofP M es ls = ofGo M es (ls.drop k) ms) ∧ Hid (MatchN M es ms) ∧ Hid (OwnI wr (w.heap.size + 1) (.slice A0 M c0) ms) ∧ Hid (Below w.heap.size w wr ∧ wr.cell? ⟨w.heap.size, 0, none⟩ = some (.int .i64 M) ∧ wr.cell? ⟨w.heap.size, 1, none⟩ = some (.slice A n c))) (fun i _ _ _ => m - (intOf i).toNat)
    case atStart => exact ⟨0, _, Nat.zero_le _, rfl, HOP, HMA, HO3, HB3⟩
    case round =>
      obtain ⟨k, ms, hk, rfl, hop, hma, hoi, hb⟩ := hrel
      by_cases hlt : k < m
      · have HLT := Lib.hid hlt
        obtain ⟨b, o, rfl, hc⟩ := (HL.out.below hb.out.1).2.2 (by omega)
        obtain ⟨hc1, hc2⟩ := hc k hlt
        have HST := Lib.hid (of_step (N := M) (es := es) (ms := ms) (show k < ls.length by have := HLM.out; omega))
        have hki : (0 : Int) ≤ (k : Int) ∧ (k : Int) < (m : Int) := by omega
        clear hc
        generalize ge ls k = e0 at *
        obtain ⟨a1, a2⟩ := e0
        simp only [] at hc1 hc2 HST
        go_wp2_with fail
        go_quiet (fail)
        rename_i nq
        have HD : Hid (RW wr (wr.drewN nq)) := ((Drawn.refl wr).step nq).below _
        have HXG := Lib.hid (later2 HD.out hb.out.2)
        have HBW := Lib.hid (bel_trans hb.out.1 HD.out)
        have HO5 := Lib.hid (hoi.out.later HD.out)
        have HSZ : Hid ((wr.drewN nq).heap.size = wr.heap.size) := rfl
        clear hc1 hc2
        generalize wr.drewN nq = w5 at *
        obtain ⟨x0, x1⟩ := HXG.out
        have hha := has2_any (N := M) (c := c) a1 a2 w5 (HE.out.below HBW.out)
        go_wp2_with fail
        clear x0 x1
        cases hh : hasB M es a1 a2
        · have HF : Hid (ofP M es ls = ([], 7)) := by rw [hop.out, HST.out, hh]; rfl
          rw [hh] at hha
          clear hh
          refine hha.mono ?_
          rintro e w6 ⟨rfl, hb6⟩
          have HB6 := Lib.hid (bel_trans HBW.out hb6)
          clear hha hb6
          go_wp2_with fail
          go_ret2
          unfold OfQ
          rw [HF.out]
          exact ⟨_, rfl, ownI_empty _ _, HB6.out⟩
        · obtain ⟨x, y, rfl, rfl, hxM, hyM, hxy, hnear⟩ := has_ends HRB.out hh
          have HNE := Lib.hid (And.intro hxy hnear)
          have HXM := Lib.hid (And.intro hxM hyM)
          rw [Int.toNat_natCast, Int.toNat_natCast, hh, if_neg (by simp)] at HST
          rw [hh] at hha
          obtain ⟨g, c1, e1, hg1, hg2, -⟩ := own_slice hoi.out (by have := hma.out.1; omega)
          injection e1 with e1 e2 e3
          subst e1
          have HG := Lib.hid (And.intro hg1 hg2)
          clear hh hnear hxy e2 e3 hg1 hg2
          refine hha.mono ?_
          rintro e w6 ⟨rfl, hb6⟩
          have HO6 := Lib.hid (HO5.out.later hb6)
          have HB6 : Hid (Below w.heap.size w w6 ∧ w6.cell? ⟨w.heap.size, 0, none⟩ = some (.int .i64 M) ∧ w6.cell? ⟨w.heap.size, 1, none⟩ = some (.slice A n c)) := ⟨bel_trans HBW.out hb6, later2 hb6 HXG.out⟩
          have hxi : (0 : Int) ≤ (x : Int) ∧ (x : Int) < (M : Int) := by have := HXM.out; omega
          have hyi : (0 : Int) ≤ (y : Int) ∧ (y : Int) < (M : Int) := by have := HXM.out; omega
          have cg1 := HO6.out.cellAt HXM.out.1
          have cg2 := HO6.out.cellAt HXM.out.2
          clear hha hb6
          obtain ⟨p, hp⟩ : ∃ p, p = gi ms x := ⟨_, rfl⟩
          obtain ⟨q, hq⟩ : ∃ q, q = gi ms y := ⟨_, rfl⟩
          rw [← hp] at cg1 HST
          rw [← hq] at cg2 HST
          have HPP := Lib.hid hp
          have HQQ := Lib.hid hq
          clear hp hq
          by_cases q1 : 0 ≤ p
          · have d1 : decide (0 ≤ p) = true := decide_eq_true q1
            have HF : Hid (ofP M es ls = ([], 9)) := by rw [hop.out, HST.out, if_pos (.inl q1)]; rfl
            clear q1
            go_wp2_with fail
            go_ret2
            unfold OfQ
            rw [HF.out]
            exact ⟨_, rfl, ownI_empty _ _, HB6.out.1⟩
          · have d1 : decide (0 ≤ p) = false := decide_eq_false q1
            by_cases q2 : 0 ≤ q
            · have d2 : decide (0 ≤ q) = true := decide_eq_true q2
              have HF : Hid (ofP M es ls = ([], 9)) := by rw [hop.out, HST.out, if_pos (.inr q2)]; rfl
              clear q1 q2
              go_wp2_with fail
              go_ret2
              unfold OfQ
              rw [HF.out]
              exact ⟨_, rfl, ownI_empty _ _, HB6.out.1⟩
            · have d2 : decide (0 ≤ q) = false := decide_eq_false q2
              have HOP9 : Hid (ofP M es ls = ofGo M es (ls.drop (k + 1)) ((ms.set x (y : Int)).set y (x : Int))) := by
                rw [hop.out, HST.out, if_neg]
                · rfl
                · omega
              have HMA9 : Hid (MatchN M es ((ms.set x (y : Int)).set y (x : Int))) := match_put hma.out HXM.out.1 HXM.out.2 HNE.out.1 HNE.out.2 (by rw [← HPP.out]; omega) (by rw [← HQQ.out]; omega)
              have fg1 := HO6.out.frozAt x
              have cg3 := (HO6.out.put1 x (y : Int)).cellAt HXM.out.2
              have fg3 := (HO6.out.put1 x (y : Int)).frozAt y
              have HO10 : Hid (OwnI ((w6.setCell ⟨g, x, none⟩ (.int .i64 (y : Int))).setCell ⟨g, y, none⟩ (.int .i64 (x : Int))) (w.heap.size + 1) (.slice (some ⟨g, 0, none⟩) M c0) ((ms.set x (y : Int)).set y (x : Int))) := ((HO6.out.put1 x (y : Int)).put1 y (x : Int))
              have HB10 : Hid (Below w.heap.size w ((w6.setCell ⟨g, x, none⟩ (.int .i64 (y : Int))).setCell ⟨g, y, none⟩ (.int .i64 (x : Int))) ∧ ((w6.setCell ⟨g, x, none⟩ (.int .i64 (y : Int))).setCell ⟨g, y, none⟩ (.int .i64 (x : Int))).cell? ⟨w.heap.size, 0, none⟩ = some (.int .i64 M) ∧ ((w6.setCell ⟨g, x, none⟩ (.int .i64 (y : Int))).setCell ⟨g, y, none⟩ (.int .i64 (x : Int))).cell? ⟨w.heap.size, 1, none⟩ = some (.slice A n c)) :=
                ⟨Below.setCell (Below.setCell HB6.out.1 (by have h1 := HG.out.1; show w.heap.size ≤ g; omega) _) (by have h1 := HG.out.1; show w.heap.size ≤ g; omega) _,
                  (grown_set2 _ _ _ _ _ _).cell HB6.out.2.1 (by intro e; injection e with e; have h1 := HG.out.1; have h2 : w.heap.size = g := e; omega), (grown_set2 _ _ _ _ _ _).cell HB6.out.2.2 (by intro e; injection e with e; have h1 := HG.out.1; have h2 : w.heap.size = g := e; omega)⟩
              clear q1 q2
              go_wp2_with fail
              clear cg1 cg2 fg1 cg3 fg3
              go_roundw
              case rel => exact ⟨k + 1, _, by have := HLT.out; omega, by go_num, HOP9, HMA9, HO10, HB10⟩
              case measure => have := HLT.out; simp [intOf]; omega
      · obtain rfl : k = m := by omega
        have hd : decide ((k : Int) < (k : Int)) = false := by rw [decide_eq_false_iff_not]; omega
        have HF : Hid (ofP M es ls = (ms, 0)) := by
          have := hop.out
          rw [← HLM.out, of_end] at this
          exact this
        have HO9 := Lib.hid (row_weaken hoi.out (Nat.le_succ w.heap.size))
        clear hlt hk
        go_wp2_with fail
        go_ret2
        unfold OfQ
        rw [HF.out]
        exact ⟨_, rfl, HO9.out, hb.out.1⟩

end Go.Proofs.Ytnldfjoadmehcaa
