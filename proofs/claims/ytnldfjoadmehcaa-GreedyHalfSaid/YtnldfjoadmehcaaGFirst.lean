/- The walk of greedy.First. -/
import Derived.Test.YtnldfjoadmehcaaMateRow
set_option linter.unusedVariables false
set_option linter.unusedSimpArgs false
namespace Go.Proofs.Ytnldfjoadmehcaa
open Go.RowKit

theorem firstL_none {N : Int} {es : List Ed} (h : (noneL N es).length = 0) : firstL N es = [] := by
  unfold noneL at h
  unfold firstL
  cases hR : rightB N es
  · rfl
  · rw [hR, if_pos rfl, List.length_replicate] at h
    rw [if_pos rfl, h]
    rfl

set_option maxHeartbeats 8000000 in
set_option maxRecDepth 100000 in
theorem first_any {A : Option Addr} {n c : Nat} {es : List Ed} (N : Int) (w : World) (h : ReadE w A n es) :
    Calls Try.prog 37 #[.agg #[.int .i64 N, .slice A n c]] w fun e w' => ∃ v, e = .returned v ∧ OwnI w' w.heap.size v (firstL N es) ∧ Below w.heap.size w w' := by
  have hb1 := bel_alloc w (gcells N A n c)
  obtain ⟨x0, x1⟩ := boxg w N A n c
  have hr := matesNone_any (c := c) N (w.alloc (gcells N A n c)) (h.below hb1)
  have HB1 := Lib.hid hb1
  have HX := Lib.hid (And.intro x0 x1)
  have HE := Lib.hid h
  clear hb1 h
  go_enter Try.func37, Try.ntmps37
  go_wp2_with fail
  refine hr.mono ?_
  rintro e w2 ⟨v0, rfl, own0, hb2⟩
  have HB2 := Lib.hid (bel_trans HB1.out hb2)
  have HX2 := Lib.hid (And.intro (cell_later hb2 HX.out.1) (cell_later hb2 HX.out.2))
  have HBS := Lib.hid hb2.size
  obtain ⟨A0, c0, rfl, -, -, -⟩ := OwnI.read own0
  have OWN0 := Lib.hid own0
  clear hb2 hr x0 x1 own0
  by_cases hz : (noneL N es).length = 0
  · have HN : Hid (firstL N es = []) := firstL_none hz
    have HW3 : Hid (Below w.heap.size w (w2.alloc (.cells #[.slice A0 0 c0] 83))) := bel_trans HB2.out (bel_alloc _ _)
    rw [hz]
    clear hz OWN0
    go_wp2_with fail
    go_ret
    rw [HN.out]
    exact ⟨_, rfl, ownI_empty _ _, HW3.out⟩
  · have hR : rightB N es = true := by
      cases q : rightB N es
      · exfalso
        unfold noneL at hz
        rw [q] at hz
        exact hz rfl
      · rfl
    obtain ⟨r1, r2, r3, r4⟩ := rightB_iff.1 hR
    obtain ⟨M, rfl⟩ : ∃ M : Nat, N = M := ⟨N.toNat, by omega⟩
    have hno : noneL M es = List.replicate M (-1) := by unfold noneL; rw [hR, if_pos rfl, Int.toNat_natCast]
    have HFL : Hid (firstL M es = firstTo M es M) := by unfold Hid firstL; rw [hR, if_pos rfl, Int.toNat_natCast]
    have HRI := Lib.hid r4
    have HRB := Lib.hid hR
    have OWN1 := OWN0.out
    rw [hno] at OWN1 hz ⊢
    simp only [List.length_replicate] at OWN1 hz ⊢
    obtain ⟨g, c1, e1, hg1, hg2, hg3⟩ := own_slice OWN1 (by simp; omega)
    injection e1 with e1 e2 e3
    subst e1 e3
    have hM : 0 < M := by omega
    have hM6 : M ≤ 4096 := by omega
    have HG := Lib.hid (And.intro hg1 hg2)
    have OWN := Lib.hid OWN1
    have HXB : Hid ((w2.alloc (.cells #[.slice (some ⟨g, 0, none⟩) M c0] 83)).cell? ⟨w2.heap.size, 0, none⟩ = some (.slice (some ⟨g, 0, none⟩) M c0)) := (cell_blk (heap_alloc_new _ _) 0).trans rfl
    have HX3 := Lib.hid (later2 (bel_alloc w2 (.cells #[.slice (some ⟨g, 0, none⟩) M c0] 83)) HX2.out)
    have HB3 := Lib.hid (bel_trans HB2.out (bel_alloc w2 (.cells #[.slice (some ⟨g, 0, none⟩) M c0] 83)))
    have HW3 : Hid ((w2.alloc (.cells #[.slice (some ⟨g, 0, none⟩) M c0] 83)).heap.size = w2.heap.size + 1) := by simp [Hid]
    have OWN3 := Lib.hid (OWN1.later (bel_alloc w2 (.cells #[.slice (some ⟨g, 0, none⟩) M c0] 83)))
    have HEL := Lib.hid HE.out.1
    have hli := lists_any (c := c) M _ (HE.out.below HB3.out) hM6 (by have := HEL.out; omega) (fun k hk => by
      have := r4.1 _ (show ge es k ∈ es by rw [ge_get (by have := HEL.out; omega)]; exact List.getElem_mem _)
      unfold edgeOk at this
      simp at this
      omega)
    clear OWN0 OWN1 hno r1 r2 r3 r4 hR hg1 hg2 hg3 e2 hz
    have hz0 : ((M : Int) == 0) = false := by simp; omega
    obtain ⟨y0, y1⟩ := HX3.out
    obtain ⟨y2, y3⟩ := HX2.out
    go_wp2_with fail
    generalize w2.alloc (.cells #[.slice (some ⟨g, 0, none⟩) M c0] 83) = w3 at *
    refine hli.mono ?_
    rintro e w4 ⟨vs, rfl, hrows, hb4⟩
    have HROWS := Lib.hid (hrows.congr (L' := fun v => nearV es v) fun i hi => rfl)
    have HB4 := Lib.hid (bel_trans HB3.out hb4)
    have OWN4 := Lib.hid (OWN3.out.later hb4)
    have HX4 := Lib.hid (cell_later hb4 HXB.out)
    have HG4 : Hid (g < w2.heap.size ∧ w.heap.size + 1 ≤ g ∧ w3.heap.size = w2.heap.size + 1) := ⟨HG.out.2, by have := HG.out.1; simp at this; exact this, HW3.out⟩
    have HI0 : Hid (OwnI w4 (w.heap.size + 1) (.slice (some ⟨g, 0, none⟩) M c0) (firstTo M es 0)) := by
      exact row_weaken OWN4.out (by simp)
    clear hli hb4 hrows y0 y1 y2 y3 hz0
    have h4 := HX4.out
    go_wp2_with fail
    clear h4
    go_loopw [23] (fun i wr => ∃ k : Nat, k ≤ M ∧ i = .int .i64 k ∧ Hid (OwnI wr (w.heap.size + 1) (.slice (some ⟨g, 0, none⟩) M c0) (firstTo M es k)) ∧ Hid (wr.cell? ⟨w2.heap.size, 0, none⟩ = some (.slice (some ⟨g, 0, none⟩) M c0)) ∧ Hid (Rows wr w3.heap.size (w3.heap.size + 1) M vs (fun v => nearV es v)) ∧ Hid (Below w.heap.size w wr)) (fun i _ => M - (intOf i).toNat)
    case atStart => exact ⟨0, Nat.zero_le _, rfl, HI0, HX4, HROWS, HB4⟩
    case round =>
      obtain ⟨k, hk, rfl, howr, hbox, hrow, hb⟩ := hrel
      by_cases hlt : k < M
      · have HLT := Lib.hid hlt
        have hST : firstTo M es (k + 1) = stepF (nearV es k) k (firstTo M es k) := rfl
        have HLM := Lib.hid (firstTo_length M es k)
        generalize hms : firstTo M es k = ms at *
        have HST : Hid (firstTo M es (k + 1) = stepF (nearV es k) k ms) := hST
        clear hST hms
        have hbx := hbox.out
        have HRD : Hid (ReadI wr (some ⟨g, 0, none⟩) M ms) := by
          have := readI_own howr.out
          rw [HLM.out] at this
          exact this
        have hsf := sfree_any (c := c0) k hlt wr HRD.out
        obtain ⟨A1, c1, hck, hrk⟩ := hrow.out.at hlt
        have HCK := Lib.hid hck
        have HRK := Lib.hid hrk
        have HNI : Hid (∀ j, j < (nearV es k).length → 0 ≤ gi (nearV es k) j ∧ gi (nearV es k) j < M) := fun j hj => by
          have := near_in HRI.out (gi_mem hj)
          exact ⟨this.1, this.2.1⟩
        have HGG : Hid (w.heap.size + 1 ≤ g ∧ g < w2.heap.size ∧ w2.heap.size < w3.heap.size ∧ w3.heap.size < wr.heap.size) := ⟨HG4.out.2.1, HG4.out.1, by have := HG4.out.2.2; omega, hrow.out.row.lt⟩
        clear hck hrk
        cases hq : decide (gi ms k < 0)
        · have HS2 : Hid (firstTo M es (k + 1) = ms) := by
            rw [HST.out]
            unfold stepF
            rw [if_neg (by simpa using hq)]
            rfl
          rw [hq] at hsf
          clear hq
          go_wp2_with fail
          refine hsf.mono ?_
          rintro e w5 ⟨rfl, hb5⟩
          have HO5 : Hid (OwnI w5 (w.heap.size + 1) (.slice (some ⟨g, 0, none⟩) M c0) (firstTo M es (k + 1))) := by
            rw [HS2.out]
            exact howr.out.later hb5
          have HBX5 := Lib.hid (cell_later hb5 hbx)
          have HR5 := Lib.hid (hrow.out.later hb5)
          have HB5 := Lib.hid (below_after hb.out (by have := HGG.out; omega) hb5)
          clear hsf hb5 hbx
          go_wp2_with fail
          go_roundw
          case rel => exact ⟨k + 1, by have := HLT.out; omega, by go_num, HO5, HBX5, HR5, HB5⟩
          case measure => have := HLT.out; simp [intOf]; omega
        · have hq' : gi ms k < 0 := by simpa using hq
          have HQ := Lib.hid hq'
          rw [hq] at hsf
          clear hq hq'
          go_wp2_with fail
          refine hsf.mono ?_
          rintro e w5 ⟨rfl, hb5⟩
          have HO5 := Lib.hid (howr.out.later hb5)
          have HBX5 := Lib.hid (cell_later hb5 hbx)
          have HR5 := Lib.hid (hrow.out.later hb5)
          have HRD5 := Lib.hid (HRD.out.below hb5)
          have HRK5 := Lib.hid (HRK.out.below hb5)
          have HCK5 := Lib.hid (cell_later hb5 HCK.out)
          have HB5 := Lib.hid (below_after hb.out (by have := HGG.out; omega) hb5)
          have HG5 : Hid (w3.heap.size < w5.heap.size) := HR5.out.row.lt
          clear hsf hb5 hbx
          have hck5 := HCK5.out
          have hbx5 := HBX5.out
          have yi : (0 : Int) ≤ (k : Int) ∧ (k : Int) < (M : Int) := by have := HLT.out; omega
          generalize hlen : (nearV es k).length = ln at *
          have HLN := Lib.hid hlen
          clear hlen
          rcases scan_spec ms (nearV es k) ln 0 with ⟨h2, h3⟩ | ⟨i, h2, h3, h4, h5⟩
          · have HS2 : Hid (firstTo M es (k + 1) = ms) := by
              rw [HST.out]
              unfold stepF
              rw [if_pos HQ.out, HLN.out, h2, if_neg (by omega)]
              rfl
            have HSC := Lib.hid h2
            clear h2 h3
            go_wp2_with fail
            go_region_held3 (fun w' => w'.cell? ⟨w3.heap.size, k, none⟩ = some (.slice A1 ln c1) ∧ w'.cell? ⟨w2.heap.size, 0, none⟩ = some (.slice (some ⟨g, 0, none⟩) M c0) ∧ RW w5 w')
              (first | assumption | exact RW.two ⟨HCK5.out, HBX5.out⟩ (RW.refl w5).drew | exact RW.two ⟨HCK5.out, HBX5.out⟩ (RW.later (And.right (And.right (by assumption))) hb9) | fail)
              (first | (go_at_call 76; refine (indexF_any _ (HRK5.out.below (And.right (And.right (by assumption)))) (HRD5.out.below (And.right (And.right (by assumption)))) HNI.out).mono ?_; rw [HSC.out]; rintro e w9 ⟨rfl, hb9⟩) | fail)
            have hrw9 : RW w5 w9 := And.right (And.right (by assumption))
            have HO9 : Hid (OwnI w9 (w.heap.size + 1) (.slice (some ⟨g, 0, none⟩) M c0) (firstTo M es (k + 1))) := by
              rw [HS2.out]
              exact HO5.out.later hrw9
            have HBX9 := Lib.hid (cell_later hrw9 HBX5.out)
            have HR9 := Lib.hid (HR5.out.later hrw9)
            have HB9 := Lib.hid (below_after HB5.out (by have := HGG.out; have := HG5.out; omega) hrw9)
            clear hrw9
            go_wp2_with fail
            go_roundw
            case rel => exact ⟨k + 1, by have := HLT.out; omega, by go_num, HO9, HBX9, HR9, HB9⟩
            case measure => have := HLT.out; simp [intOf]; omega
          · obtain ⟨n0, n1, n2, -, -⟩ := near_in HRI.out (gi_mem (xs := nearV es k) (a := i) (by have := HLN.out; omega))
            obtain ⟨y, hy⟩ : ∃ y : Nat, gi (nearV es k) i = y := ⟨(gi (nearV es k) i).toNat, by omega⟩
            have HS2 : Hid (firstTo M es (k + 1) = (ms.set k (y : Int)).set y (k : Int)) := by
              rw [HST.out]
              unfold stepF
              rw [if_pos HQ.out, HLN.out, h2, if_pos (by omega), Int.toNat_natCast, hy, Int.toNat_natCast]
              rfl
            have HSC := Lib.hid h2
            obtain ⟨bb, oo, rfl, hcc⟩ := HRK5.out.2.2 (by omega)
            have hci := hcc i (by omega)
            rw [hy] at hci n0 n1 n2
            have HCI := Lib.hid hci
            have hyk : y < M ∧ y ≠ k := by omega
            have HYK := Lib.hid hyk
            have hi1 : (0 : Int) ≤ (i : Int) ∧ (i : Int) < (ln : Int) := by omega
            clear h2 h3 h4 h5 hcc n0 n1 n2 hy hci hyk
            go_wp2_with fail
            go_region_held3 (fun w' => w'.cell? ⟨w3.heap.size, k, none⟩ = some (.slice (some ⟨bb, oo, none⟩) ln c1) ∧ w'.cell? ⟨w2.heap.size, 0, none⟩ = some (.slice (some ⟨g, 0, none⟩) M c0) ∧ RW w5 w')
              (first | assumption | exact RW.two ⟨HCK5.out, HBX5.out⟩ (RW.refl w5).drew | exact RW.two ⟨HCK5.out, HBX5.out⟩ (RW.later (And.right (And.right (by assumption))) hb9) | fail)
              (first | (go_at_call 76; refine (indexF_any _ (HRK5.out.below (And.right (And.right (by assumption)))) (HRD5.out.below (And.right (And.right (by assumption)))) HNI.out).mono ?_; rw [HSC.out]; rintro e w9 ⟨rfl, hb9⟩) | fail)
            have hrw9 : RW w5 w9 := And.right (And.right (by assumption))
            have HO9 := Lib.hid (HO5.out.later hrw9)
            have HBX9 := Lib.hid (cell_later hrw9 HBX5.out)
            have HR9 := Lib.hid (HR5.out.later hrw9)
            have HB9 := Lib.hid (below_after HB5.out (by have := HGG.out; have := HG5.out; omega) hrw9)
            have hci := cell_later hrw9 HCI.out
            have hck9 := cell_later hrw9 HCK5.out
            have hbx9 := HBX9.out
            have cg1 := HO9.out.cellAt HLT.out
            have cg2 := HO9.out.cellAt HYK.out.1
            have fg1 := HO9.out.frozAt k
            have fg2 := HO9.out.frozAt y
            have ys : (0 : Int) ≤ (y : Int) ∧ (y : Int) < (M : Int) := by have := HYK.out; omega
            clear hrw9 hck5 hbx5
            go_wp2_with fail
            have HST1 : Hid ((w9.setCell ⟨g, k, none⟩ (.int .i64 (y : Int))).cell? ⟨w2.heap.size, 0, none⟩ = some (.slice (some ⟨g, 0, none⟩) M c0)) := (grown_set _ _ _ _).cell HBX9.out (by intro e; injection e with e; have h1 := HGG.out.2.1; have h2 : w2.heap.size = g := e; omega)
            have HST2 : Hid (((w9.setCell ⟨g, k, none⟩ (.int .i64 (y : Int))).setCell ⟨g, y, none⟩ (.int .i64 (k : Int))).cell? ⟨w2.heap.size, 0, none⟩ = some (.slice (some ⟨g, 0, none⟩) M c0)) := (grown_set2 _ _ _ _ _ _).cell HBX9.out (by intro e; injection e with e; have h1 := HGG.out.2.1; have h2 : w2.heap.size = g := e; omega)
            have cg3 := (HO9.out.put1 k (y : Int)).cellAt HYK.out.1
            have fg3 := (HO9.out.put1 k (y : Int)).frozAt y
            go_region_held3 (fun w' => w'.cell? ⟨w2.heap.size, 0, none⟩ = some (.slice (some ⟨g, 0, none⟩) M c0))
              (first | assumption | exact HBX9.out | exact HST1.out | exact HST2.out | fail) (fail)
            have HO10 : Hid (OwnI ((w9.setCell ⟨g, k, none⟩ (.int .i64 (y : Int))).setCell ⟨g, y, none⟩ (.int .i64 (k : Int))).drew (w.heap.size + 1) (.slice (some ⟨g, 0, none⟩) M c0) (firstTo M es (k + 1))) := by
              rw [HS2.out]
              exact ((HO9.out.put1 k (y : Int)).put1 y (k : Int)).later (RW.refl _).drew
            have HBX10 := Lib.hid (cell_later (RW.refl _).drew HST2.out)
            have HR10 := Lib.hid ((HR9.out.grown (grown_set2 w9 g k y (.int .i64 (y : Int)) (.int .i64 (k : Int))) (by have h1 := HGG.out.2; omega) (Nat.le_succ _)).later (RW.refl _).drew)
            have HB10 : Hid (Below w.heap.size w ((w9.setCell ⟨g, k, none⟩ (.int .i64 (y : Int))).setCell ⟨g, y, none⟩ (.int .i64 (k : Int))).drew) := below_draws (Below.setCell (Below.setCell HB9.out (by have h1 := HGG.out.1; show w.heap.size ≤ g; omega) _) (by have h1 := HGG.out.1; show w.heap.size ≤ g; omega) _) 1
            clear HST1 HST2 cg1 cg2 cg3 fg1 fg2 fg3
            go_wp2_with fail
            go_roundw
            case rel => exact ⟨k + 1, by have := HLT.out; omega, by go_num, HO10, HBX10, HR10, HB10⟩
            case measure => have := HLT.out; simp [intOf]; omega
      · obtain rfl : k = M := by omega
        have hd : decide ((k : Int) < (k : Int)) = false := by rw [decide_eq_false_iff_not]; omega
        clear hlt hk
        have hbx := hbox.out
        go_wp2_with fail
        go_ret
        rw [HFL.out]
        exact ⟨_, rfl, row_weaken howr.out (by omega), hb.out⟩

end Go.Proofs.Ytnldfjoadmehcaa
