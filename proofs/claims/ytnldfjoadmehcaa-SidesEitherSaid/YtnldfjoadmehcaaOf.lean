/- The walks of graph.Has, mates.Of and garlandref08.Of. -/
import Derived.Test.YtnldfjoadmehcaaMSmall
import Derived.Test.YtnldfjoadmehcaaIndex
set_option linter.unusedVariables false
set_option linter.unusedSimpArgs false
namespace Go.Proofs.Ytnldfjoadmehcaa
open Go.RowKit

/-- What Of leaves. -/
def OfQ (P : List Int × Int) (W : World) (e : Ending) (w' : World) : Prop := ∃ v, e = .returned (.tuple #[v, .int .i64 P.2]) ∧ OwnI w' W.heap.size v P.1 ∧ Below W.heap.size W w'
theorem of_step {N : Int} {es ls : List Ed} {ms : List Int} {k : Nat} (hk : k < ls.length) :
    ofGo N es (ls.drop k) ms = if hasB N es (ge ls k).1 (ge ls k).2 = false then ([], 7) else if 0 ≤ gi ms (ge ls k).1.toNat ∨ 0 ≤ gi ms (ge ls k).2.toNat then ([], 9) else ofGo N es (ls.drop (k + 1)) ((ms.set (ge ls k).1.toNat (ge ls k).2).set (ge ls k).2.toNat (ge ls k).1) := by
  rw [List.drop_eq_getElem_cons hk, ge_get hk]
  rfl
theorem of_end {N : Int} {es ls : List Ed} {ms : List Int} : ofGo N es (ls.drop ls.length) ms = (ms, 0) := by
  rw [List.drop_length]
  rfl
theorem free_neg {N : Nat} {es : List Ed} {ms : List Int} (h : MatchN N es ms) {v : Nat} (hv : v < N) (hf : freeB ms v = true) : gi ms v < 0 := by
  unfold freeB at hf
  simp at hf
  omega
theorem free_pos {N : Nat} {es : List Ed} {ms : List Int} (h : MatchN N es ms) {v : Nat} (hv : v < N) (hf : freeB ms v = false) : 0 ≤ gi ms v := by
  unfold freeB at hf
  simp at hf
  rcases h.2 v hv with q | ⟨w, _, q, _⟩
  · exact absurd q hf
  · omega

set_option maxHeartbeats 16000000 in
set_option maxRecDepth 100000 in
theorem mof_any {A B : Option Addr} {n c m d : Nat} {es ls : List Ed} (N : Int) (w : World) (h : ReadE w A n es) (hl : ReadE w B m ls) :
    Calls Try.prog 49 #[.agg #[.int .i64 N, .slice A n c], .slice B m d] w (OfQ (ofP N es ls) w) := by
  have hb1 := bel_alloc w (gcells N A n c)
  have hr := gright_any (c := c) N (w.alloc (gcells N A n c)) (h.below hb1)
  have HB1 := Lib.hid hb1
  have HX := Lib.hid (boxg w N A n c)
  have HE := Lib.hid h
  have HL := Lib.hid hl
  have HLM := Lib.hid hl.1
  have hm9 := hl.2.1
  have HS1 : Hid ((w.alloc (gcells N A n c)).heap.size = w.heap.size + 1) := by simp [Hid]
  clear hb1 h hl
  go_enter Try.func49, Try.ntmps49
  obtain ⟨x0, x1⟩ := HX.out
  go_wp2_with fail
  generalize w.alloc (gcells N A n c) = w1 at *
  refine hr.mono ?_
  rintro e w2 ⟨rfl, hb2⟩
  have HB2 := Lib.hid (bel_trans HB1.out hb2)
  have HX2 := Lib.hid (later2 hb2 HX.out)
  have HS2 : Hid (w.heap.size + 1 ≤ w2.heap.size) := by rw [← HS1.out]; exact hb2.size
  clear hb2 hr x0 x1
  cases hR : rightB N es
  · have HN : Hid (ofP N es ls = ([], 3)) := by unfold Hid ofP; rw [hR]; rfl
    clear hR
    go_wp2_with fail
    go_ret2
    unfold OfQ
    rw [HN.out]
    exact ⟨_, rfl, ownI_empty _ _, HB2.out⟩
  · obtain ⟨r1, r2, r3, r4⟩ := rightB_iff.1 hR
    obtain ⟨M, rfl⟩ : ∃ M : Nat, N = M := ⟨N.toNat, by omega⟩
    have hM : M ≤ 4096 := by omega
    have HRB := Lib.hid hR
    have HOP : Hid (ofP M es ls = ofGo M es (ls.drop 0) (List.replicate M (-1))) := by unfold Hid ofP; rw [hR, if_pos rfl, Int.toNat_natCast, List.drop_zero]
    have hno : noneL M es = List.replicate M (-1) := by unfold noneL; rw [hR, if_pos rfl, Int.toNat_natCast]
    have hn := matesNone_any (c := c) (M : Int) w2 (HE.out.below HB2.out)
    rw [hno] at hn
    obtain ⟨x0, x1⟩ := HX2.out
    have HMA : Hid (MatchN M es (List.replicate M (-1))) := rep_match M es
    clear hR r1 r2 r3 r4 hno
    go_wp2_with fail
    refine hn.mono ?_
    rintro e w3 ⟨v0, rfl, own0, hb3⟩
    obtain ⟨A0, c0, rfl, -, -, -⟩ := OwnI.read own0
    rw [List.length_replicate] at own0 ⊢
    have HO3 : Hid (OwnI w3 (w.heap.size + 1) (.slice A0 M c0) (List.replicate M (-1))) := row_weaken own0 HS2.out
    have HB3 : Hid (Below w.heap.size w w3 ∧ w3.cell? ⟨w.heap.size, 0, none⟩ = some (.int .i64 M) ∧ w3.cell? ⟨w.heap.size, 1, none⟩ = some (.slice A n c)) := ⟨bel_trans HB2.out hb3, later2 hb3 HX2.out⟩
    clear hn own0 hb3 x0 x1
    go_wp2_with fail
    go_loopw [16] (fun i wr => ∃ (k : Nat) (ms : List Int), k ≤ m ∧ i = .int .i64 k ∧ Hid (ofP M es ls = ofGo M es (ls.drop k) ms) ∧ Hid (MatchN M es ms) ∧ Hid (OwnI wr (w.heap.size + 1) (.slice A0 M c0) ms) ∧ Hid (Below w.heap.size w wr ∧ wr.cell? ⟨w.heap.size, 0, none⟩ = some (.int .i64 M) ∧ wr.cell? ⟨w.heap.size, 1, none⟩ = some (.slice A n c))) (fun i _ => m - (intOf i).toNat)
    case atStart => exact ⟨0, _, Nat.zero_le _, rfl, HOP, HMA, HO3, HB3⟩
    case round =>
      obtain ⟨k, ms, hk, rfl, hop, hma, hoi, hb⟩ := hrel
      by_cases hlt : k < m
      · have HLT := Lib.hid hlt
        obtain ⟨b, o, rfl, hc⟩ := (HL.out.below hb.out.1).2.2 (by omega)
        obtain ⟨hc1, hc2⟩ := hc k hlt
        have HST := Lib.hid (of_step (N := M) (es := es) (ms := ms) (show k < ls.length by have := HLM.out; omega))
        clear hc
        generalize ge ls k = e0 at *
        obtain ⟨a1, a2⟩ := e0
        simp only [] at hc1 hc2 HST
        have hb5 := bel_alloc wr (.cells #[.int .i64 a1, .int .i64 a2] 41)
        have HB5 := Lib.hid hb5
        have HXE : Hid ((wr.alloc (.cells #[.int .i64 a1, .int .i64 a2] 41)).cell? ⟨wr.heap.size, 0, none⟩ = some (.int .i64 a1) ∧ (wr.alloc (.cells #[.int .i64 a1, .int .i64 a2] 41)).cell? ⟨wr.heap.size, 1, none⟩ = some (.int .i64 a2)) := ⟨(cell_blk (heap_alloc_new _ _) 0).trans rfl, (cell_blk (heap_alloc_new _ _) 1).trans rfl⟩
        have HXG := Lib.hid (later2 hb5 hb.out.2)
        obtain ⟨x0, x1⟩ := HXG.out
        obtain ⟨z0, z1⟩ := HXE.out
        obtain ⟨y0, y1⟩ := hb.out.2
        have hha := ghas_any (N := M) (c := c) a1 a2 _ (HE.out.below (bel_trans hb.out.1 hb5))
        have HBW := Lib.hid (bel_trans hb.out.1 hb5)
        have HO5 := Lib.hid (hoi.out.later hb5)
        clear hb5
        go_wp2_with fail
        clear x0 x1 y0 y1 z0 z1 hc1 hc2
        generalize wr.alloc (.cells #[.int .i64 a1, .int .i64 a2] 41) = w5 at *
        cases hh : hasB M es a1 a2
        · have HF : Hid (ofP M es ls = ([], 7)) := by rw [hop.out, HST.out, hh]; rfl
          rw [hh] at hha
          clear hh
          refine hha.mono ?_
          rintro e w6 ⟨rfl, hb6⟩
          have HB6 := Lib.hid (bel_trans HBW.out hb6)
          clear hha hb6
          go_wp2_with fail
          go_ret2
          unfold OfQ
          rw [HF.out]
          exact ⟨_, rfl, ownI_empty _ _, HB6.out⟩
        · obtain ⟨x, y, rfl, rfl, hxM, hyM, hxy, hnear⟩ := has_ends HRB.out hh
          have HNE := Lib.hid (And.intro hxy hnear)
          have HXM := Lib.hid (And.intro hxM hyM)
          rw [Int.toNat_natCast, Int.toNat_natCast, hh, if_neg (by simp)] at HST
          rw [hh] at hha
          obtain ⟨g, c1, e1, hg1, hg2, -⟩ := own_slice hoi.out (by have := hma.out.1; omega)
          injection e1 with e1 e2 e3
          subst e1
          have HG := Lib.hid (And.intro hg1 hg2)
          clear hh hnear hxy e2 e3 hg1 hg2
          refine hha.mono ?_
          rintro e w6 ⟨rfl, hb6⟩
          have HO6 := Lib.hid (HO5.out.later hb6)
          have HB6 : Hid (Below w.heap.size w w6 ∧ w6.cell? ⟨w.heap.size, 0, none⟩ = some (.int .i64 M) ∧ w6.cell? ⟨w.heap.size, 1, none⟩ = some (.slice A n c)) := ⟨bel_trans HBW.out hb6, later2 hb6 HXG.out⟩
          have HE6 := Lib.hid (later2 hb6 HXE.out)
          have hrd6 : ReadI w6 (some ⟨g, 0, none⟩) M ms := by
            have := readI_own HO6.out
            rwa [hma.out.1] at this
          have hf1 := mfree_any (c := c0) x hxM w6 hrd6
          have HRD6 := Lib.hid hrd6
          obtain ⟨z0, z1⟩ := HE6.out
          clear hha hb6 hrd6
          go_wp2_with fail
          clear z0 z1
          cases q1 : freeB ms x
          · have HF : Hid (ofP M es ls = ([], 9)) := by rw [hop.out, HST.out, if_pos (.inl (free_pos hma.out HXM.out.1 q1))]; rfl
            rw [q1] at hf1
            clear q1
            refine hf1.mono ?_
            rintro e w7 ⟨rfl, hb7⟩
            have HB7 := Lib.hid (bel_trans HB6.out.1 hb7)
            clear hf1 hb7
            go_wp2_with fail
            go_ret2
            unfold OfQ
            rw [HF.out]
            exact ⟨_, rfl, ownI_empty _ _, HB7.out⟩
          · have HQ1 := Lib.hid (free_neg hma.out hxM q1)
            rw [q1] at hf1
            clear q1
            refine hf1.mono ?_
            rintro e w7 ⟨rfl, hb7⟩
            have HO7 := Lib.hid (HO6.out.later hb7)
            have HB7 : Hid (Below w.heap.size w w7 ∧ w7.cell? ⟨w.heap.size, 0, none⟩ = some (.int .i64 M) ∧ w7.cell? ⟨w.heap.size, 1, none⟩ = some (.slice A n c)) := ⟨bel_trans HB6.out.1 hb7, later2 hb7 HB6.out.2⟩
            have HE7 := Lib.hid (later2 hb7 HE6.out)
            have hf2 := mfree_any (c := c0) y hyM w7 (HRD6.out.below hb7)
            obtain ⟨z0, z1⟩ := HE7.out
            clear hf1 hb7
            go_wp2_with fail
            clear z0 z1
            cases q2 : freeB ms y
            · have HF : Hid (ofP M es ls = ([], 9)) := by rw [hop.out, HST.out, if_pos (.inr (free_pos hma.out HXM.out.2 q2))]; rfl
              rw [q2] at hf2
              clear q2
              refine hf2.mono ?_
              rintro e w8 ⟨rfl, hb8⟩
              have HB8 := Lib.hid (bel_trans HB7.out.1 hb8)
              clear hf2 hb8
              go_wp2_with fail
              go_ret2
              unfold OfQ
              rw [HF.out]
              exact ⟨_, rfl, ownI_empty _ _, HB8.out⟩
            · have HQ2 := Lib.hid (free_neg hma.out hyM q2)
              have HOP9 : Hid (ofP M es ls = ofGo M es (ls.drop (k + 1)) ((ms.set x (y : Int)).set y (x : Int))) := by
                rw [hop.out, HST.out, if_neg]
                · rfl
                · have := HQ1.out
                  have := HQ2.out
                  omega
              have HMA9 : Hid (MatchN M es ((ms.set x (y : Int)).set y (x : Int))) := match_put hma.out HXM.out.1 HXM.out.2 HNE.out.1 HNE.out.2 HQ1.out HQ2.out
              rw [q2] at hf2
              clear q2
              refine hf2.mono ?_
              rintro e w8 ⟨rfl, hb8⟩
              have HO8 := Lib.hid (HO7.out.later hb8)
              have HB8 : Hid (Below w.heap.size w w8 ∧ w8.cell? ⟨w.heap.size, 0, none⟩ = some (.int .i64 M) ∧ w8.cell? ⟨w.heap.size, 1, none⟩ = some (.slice A n c)) := ⟨bel_trans HB7.out.1 hb8, later2 hb8 HB7.out.2⟩
              have HE8 := Lib.hid (later2 hb8 HE7.out)
              have hxi : (0 : Int) ≤ (x : Int) ∧ (x : Int) < (M : Int) := by have := HXM.out; omega
              have hyi : (0 : Int) ≤ (y : Int) ∧ (y : Int) < (M : Int) := by have := HXM.out; omega
              have HST1 : Hid ((w8.setCell ⟨g, x, none⟩ (.int .i64 (y : Int))).cell? ⟨wr.heap.size, 0, none⟩ = some (.int .i64 (x : Int)) ∧ (w8.setCell ⟨g, x, none⟩ (.int .i64 (y : Int))).cell? ⟨wr.heap.size, 1, none⟩ = some (.int .i64 (y : Int))) :=
                ⟨(grown_set _ _ _ _).cell HE8.out.1 (by intro e; injection e with e; have h1 := HG.out.2; have h2 : wr.heap.size = g := e; omega), (grown_set _ _ _ _).cell HE8.out.2 (by intro e; injection e with e; have h1 := HG.out.2; have h2 : wr.heap.size = g := e; omega)⟩
              have HST2 : Hid (((w8.setCell ⟨g, x, none⟩ (.int .i64 (y : Int))).setCell ⟨g, y, none⟩ (.int .i64 (x : Int))).cell? ⟨wr.heap.size, 0, none⟩ = some (.int .i64 (x : Int)) ∧ ((w8.setCell ⟨g, x, none⟩ (.int .i64 (y : Int))).setCell ⟨g, y, none⟩ (.int .i64 (x : Int))).cell? ⟨wr.heap.size, 1, none⟩ = some (.int .i64 (y : Int))) :=
                ⟨(grown_set2 _ _ _ _ _ _).cell HE8.out.1 (by intro e; injection e with e; have h1 := HG.out.2; have h2 : wr.heap.size = g := e; omega), (grown_set2 _ _ _ _ _ _).cell HE8.out.2 (by intro e; injection e with e; have h1 := HG.out.2; have h2 : wr.heap.size = g := e; omega)⟩
              have cg1 := HO8.out.cellAt HXM.out.1
              have cg2 := HO8.out.cellAt HXM.out.2
              have fg1 := HO8.out.frozAt x
              have cg3 := (HO8.out.put1 x (y : Int)).cellAt HXM.out.2
              have fg3 := (HO8.out.put1 x (y : Int)).frozAt y
              clear hf2 hb8
              go_wp2_with fail
              go_region_held3 (fun w' => w'.cell? ⟨wr.heap.size, 0, none⟩ = some (.int .i64 (x : Int)) ∧ w'.cell? ⟨wr.heap.size, 1, none⟩ = some (.int .i64 (y : Int)))
                (first | assumption | exact HE8.out | exact HST1.out | exact HST2.out | fail) (fail)
              have HO10 : Hid (OwnI ((w8.setCell ⟨g, x, none⟩ (.int .i64 (y : Int))).setCell ⟨g, y, none⟩ (.int .i64 (x : Int))).drew (w.heap.size + 1) (.slice (some ⟨g, 0, none⟩) M c0) ((ms.set x (y : Int)).set y (x : Int))) := ((HO8.out.put1 x (y : Int)).put1 y (x : Int)).later (RW.refl _).drew
              have HB10 : Hid (Below w.heap.size w ((w8.setCell ⟨g, x, none⟩ (.int .i64 (y : Int))).setCell ⟨g, y, none⟩ (.int .i64 (x : Int))).drew ∧ ((w8.setCell ⟨g, x, none⟩ (.int .i64 (y : Int))).setCell ⟨g, y, none⟩ (.int .i64 (x : Int))).drew.cell? ⟨w.heap.size, 0, none⟩ = some (.int .i64 M) ∧ ((w8.setCell ⟨g, x, none⟩ (.int .i64 (y : Int))).setCell ⟨g, y, none⟩ (.int .i64 (x : Int))).drew.cell? ⟨w.heap.size, 1, none⟩ = some (.slice A n c)) :=
                ⟨below_draws (Below.setCell (Below.setCell HB8.out.1 (by have h1 := HG.out.1; show w.heap.size ≤ g; omega) _) (by have h1 := HG.out.1; show w.heap.size ≤ g; omega) _) 1,
                  later2 (RW.refl _).drew ⟨(grown_set2 _ _ _ _ _ _).cell HB8.out.2.1 (by intro e; injection e with e; have h1 := HG.out.1; have h2 : w.heap.size = g := e; omega), (grown_set2 _ _ _ _ _ _).cell HB8.out.2.2 (by intro e; injection e with e; have h1 := HG.out.1; have h2 : w.heap.size = g := e; omega)⟩⟩
              clear HST1 HST2 cg1 cg2 fg1 cg3 fg3
              go_wp2_with fail
              go_roundw
              case rel => exact ⟨k + 1, _, by have := HLT.out; omega, by go_num, HOP9, HMA9, HO10, HB10⟩
              case measure => have := HLT.out; simp [intOf]; omega
      · obtain rfl : k = m := by omega
        have hd : decide ((k : Int) < (k : Int)) = false := by rw [decide_eq_false_iff_not]; omega
        have HF : Hid (ofP M es ls = (ms, 0)) := by
          have := hop.out
          rw [← HLM.out, of_end] at this
          exact this
        have HO9 := Lib.hid (row_weaken hoi.out (Nat.le_succ w.heap.size))
        clear hlt hk
        go_wp2_with fail
        go_ret2
        unfold OfQ
        rw [HF.out]
        exact ⟨_, rfl, HO9.out, hb.out.1⟩

end Go.Proofs.Ytnldfjoadmehcaa
