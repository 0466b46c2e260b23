/- The walk of the statement MatesWrong. -/
import Derived.Test.YtnldfjoadmehcaaMBack
set_option linter.unusedVariables false
set_option linter.unusedSimpArgs false
namespace Go.Proofs.Ytnldfjoadmehcaa
open Go.RowKit

theorem idx_wrap (p : Int) (n : Nat) (hn : 0 < n) (h9 : n ≤ 4096) : ∃ q : Nat, q < n ∧ (IntKind.u64.wrap p).tmod (n : Int) = q ∧ wrap64 ((IntKind.u64.wrap p).tmod (n : Int)) = q := by
  obtain ⟨q, h1, h2⟩ := idx_of p n hn (by omega)
  refine ⟨q, h1, h2, ?_⟩
  rw [h2]
  unfold wrap64
  omega

set_option maxHeartbeats 16000000 in
set_option maxRecDepth 100000 in
theorem matesWrong_any {A B : Option Addr} {n c m d : Nat} {zs ps : List Int} (k at1 by1 : Int) (w0 : World) (h : ReadI w0 A n zs) (hp : ReadI w0 B m ps) :
    Calls Try.prog 10 #[.int .i64 k, .slice A n c, .slice B m d, .int .i64 at1, .int .i64 by1] w0 fun e w' => e = .returned (.bool true) ∧ Below w0.heap.size w0 w' := by
  have HAW : Hid (∀ W, Calls Try.prog 46 #[] W fun e w' => e = .returned (.bool true) ∧ Below W.heap.size W w') := fun W => awake8_any W
  have hsm := small_open (c := c) k 16 40 w0 h (by decide) (by decide)
  have HP := Lib.hid hp
  clear h hp
  go_enter Try.func10, Try.ntmps10
  go_wp2_with fail
  refine hsm.mono ?_
  rintro e w1 ⟨M, l1, k1, A1, es, rfl, hMV, hEE, hR, hrd, hlk, hb1⟩
  have HRB := Lib.hid hR
  have HRI := Lib.hid (rightB_iff.1 hR).2.2.2
  have HB2 := Lib.hid (bel_trans hb1 (bel_alloc w1 (gcells M A1 l1 k1)))
  have HX := Lib.hid (boxg w1 M A1 l1 k1)
  have HE := Lib.hid (hrd.below (bel_alloc w1 (gcells M A1 l1 k1)))
  have HM : Hid (M ≤ 16) := by unfold Hid; omega
  clear hsm hR hrd hb1 hEE hMV hlk
  obtain ⟨x0, x1⟩ := HX.out
  go_wp2_with fail
  clear x0 x1
  generalize w1.alloc (gcells M A1 l1 k1) = w2 at *
  refine (pmates_any (c := k1) (d := d) w2 HE.out HRB.out (HP.out.below HB2.out)).mono ?_
  rintro e w3 ⟨v3, ms, rfl, o3, hmt, hb3⟩
  obtain ⟨A3, c3, rfl, hle3, -, hr3⟩ := OwnI.read o3
  have hlm : ms.length = M := hmt.1
  rw [hlm] at hr3 hle3 ⊢
  have HR3 := Lib.hid hr3
  have HMT := Lib.hid hmt
  have HC3 := Lib.hid hle3
  have HX3 := Lib.hid (later2 hb3 HX.out)
  have HE3 := Lib.hid (HE.out.below hb3)
  have HB3 := Lib.hid (bel_trans HB2.out hb3)
  obtain ⟨x0, x1⟩ := HX3.out
  clear o3 hr3 hmt hb3 hlm hle3
  by_cases hM0 : M = 0
  · subst hM0
    go_wp2_with fail
    refine (HAW.out _).mono ?_
    rintro e w4 ⟨rfl, hb⟩
    have HF := Lib.hid (bel_trans HB3.out hb)
    clear hb x0 x1
    go_wp2_with fail
    go_ret
    exact ⟨rfl, HF.out⟩
  · have hMp : 0 < M := by omega
    have hM1 : ((M : Int) == 0) = false := by simp; omega
    have hM16 : M ≤ 16 := HM.out
    have um : IntKind.u64.wrap (M : Int) = (M : Int) := by rw [IntKind.wrap_u64]; omega
    obtain ⟨q, hqM, hq, hqw⟩ := idx_wrap at1 M hMp (by omega)
    have uq : IntKind.u64.wrap (q : Int) = (q : Int) := by rw [IntKind.wrap_u64]; omega
    have HQM := Lib.hid hqM
    have hqi : (0 : Int) ≤ (q : Int) ∧ (q : Int) < (M : Int) := by omega
    have HPOS := Lib.hid hMp
    clear hqw hqM hMp
    obtain ⟨b3, o3, rfl, hc3⟩ := HR3.out.2.2 HPOS.out
    have hcq := hc3 q HQM.out
    have HB3L : Hid (b3 < w3.heap.size) := World.block_lt_of_cell? w3 _ hcq
    have HYES : Hid (by1 = gi ms q → rightM M es (ms.set q by1) = true) := fun e => wrong_yes HRB.out HMT.out HQM.out by1 e
    have HNO : Hid (by1 ≠ gi ms q → rightM M es (ms.set q by1) = false) := fun e => wrong_no HRB.out HMT.out HQM.out by1 e
    obtain ⟨x, hx⟩ : ∃ x, x = gi ms q := ⟨_, rfl⟩
    rw [← hx] at hcq HYES HNO
    have HCQ := Lib.hid hcq
    clear hx hc3 hcq
    by_cases hA : by1 = (q : Int) ∨ 0 ≤ x ∨ by1 < 0
    · cases hR2 : (by1 == x)
      · have HRES := Lib.hid (show rightM M es (ms.set q by1) = (by1 == x) from by
          cases hz : (by1 == x)
          · exact HNO.out (by simpa using hz)
          · exact HYES.out (by simpa using hz))
        rw [hR2] at HRES
        cases qa : (by1 == (q : Int))
        · by_cases qb : 0 ≤ x
          · have db : decide (0 ≤ x) = true := decide_eq_true qb
            clear hA qb
            go_wp2_with (at_builtin; refine list_appI w3.heap.size rfl _ _ rfl (.slice none 0 0) [] ms rfl (ownI_empty _ _) (Nat.le_refl _) (some ⟨b3, o3, none⟩) M c3 rfl HR3.out (by have := HM.out; simp; omega) ?_; intro v4 w4 own4 g4 h4; rw [List.nil_append] at own4; obtain ⟨g, c4, e4, hg1, hg2, -⟩ := own_slice own4 (by have := HMT.out.1; have := HPOS.out; omega); rw [HMT.out.1] at e4; subst e4; have HO4 := Lib.hid own4; have HG4 := Lib.hid g4; have HGG := Lib.hid (And.intro hg1 hg2); have cg := own4.cellAt HQM.out; have fg := own4.frozAt q; have hc4 := (grown_set w4 g q (.int .i64 by1)).cell (g4.cell HCQ.out (by intro e; cases e)) (by intro e; injection e with e; have h2 : b3 = g := e; have := HB3L.out; omega); clear own4 g4 h4 hg1 hg2)
            have HW5 : Hid (RW w3 (w4.setCell ⟨g, q, none⟩ (.int .i64 by1))) := Below.setCell (Below.grown (Below.refl _ _) HG4.out (Nat.le_refl _) (fun k hk => by cases hk)) HGG.out.1 _
            have HR5 : Hid (ReadI (w4.setCell ⟨g, q, none⟩ (.int .i64 by1)) (some ⟨g, 0, none⟩) M (ms.set q by1)) := by
              have := readI_own (HO4.out.put1 q by1)
              rwa [List.length_set, HMT.out.1] at this
            have HX5 := Lib.hid (later2 HW5.out HX3.out)
            have HE5 := Lib.hid (HE3.out.below HW5.out)
            have HRM5 := Lib.hid (HR3.out.below HW5.out)
            have HB5 := Lib.hid (bel_trans HB3.out HW5.out)
            clear cg fg hc4 HG4
            generalize w4.setCell ⟨g, q, none⟩ (.int .i64 by1) = w5 at *
            have HRT : Hid (∀ W, RW w5 W → Calls Try.prog 47 #[.agg #[.int .i64 M, .slice A1 l1 k1], .slice (some ⟨g, 0, none⟩) M c4] W fun e w' => e = .returned (.bool false) ∧ Below W.heap.size W w') := fun W r => by
              have := mright_any (c := k1) (d := c4) (M : Int) W (HE5.out.below r) (HR5.out.below r)
              rw [HRES.out] at this
              exact this
            have HSH : Hid (∀ W, RW w5 W → Calls Try.prog 47 #[.agg #[.int .i64 M, .slice A1 l1 k1], .slice (some ⟨b3, o3, none⟩) (M - 1) c3] W fun e w' => e = .returned (.bool false) ∧ Below W.heap.size W w') := fun W r => by
              have := mright_any (c := k1) (d := c3) (M : Int) W (HE5.out.below r) ((HRM5.out.below r).take (M - 1) (by omega))
              rw [rightM_len (by rw [List.length_take, HMT.out.1]; have := HPOS.out; omega)] at this
              exact this
            have hcut := fun W => cut_to (some ⟨b3, o3, none⟩) M c3 (M - 1) ((M : Int) - 1) (by have := HPOS.out; omega) (by have := HC3.out; omega) W
            have hw1 : IntKind.i64.wrap ((M : Int) - 1) = (M : Int) - 1 := by rw [IntKind.wrap_i64]; omega
            have HCQ5 : Hid (w5.cell? ⟨b3, o3 + q, none⟩ = some (.int .i64 x)) := cell_later HW5.out HCQ.out
            go_region_held3 (fun w' => w'.cell? ⟨w1.heap.size, 0, none⟩ = some (.int .i64 M) ∧ w'.cell? ⟨w1.heap.size, 1, none⟩ = some (.slice A1 l1 k1) ∧ w'.cell? ⟨b3, o3 + q, none⟩ = some (.int .i64 x) ∧ RW w5 w')
              (first | assumption | exact RW.three ⟨HX5.out.1, HX5.out.2, HCQ5.out⟩ (RW.refl w5) | exact RW.three ⟨HX5.out.1, HX5.out.2, HCQ5.out⟩ (RW.refl w5).drew | exact RW.three ⟨HX5.out.1, HX5.out.2, HCQ5.out⟩ (RW.later (And.right (And.right (And.right (by assumption)))) hb9) | exact RW.three ⟨HX5.out.1, HX5.out.2, HCQ5.out⟩ (RW.later (And.right (And.right (And.right (by assumption)))) hb10) | exact RW.three ⟨HX5.out.1, HX5.out.2, HCQ5.out⟩ (RW.later (And.right (And.right (And.right (by assumption)))) hb11) | fail)
              (first
                | (go_at_call 46; refine (HAW.out _).mono ?_; rintro e w9 ⟨rfl, hb9⟩)
                | (go_at_call_of 47 g; refine (HRT.out _ (And.right (And.right (And.right (by assumption))))).mono ?_; rintro e w10 ⟨rfl, hb10⟩)
                | (go_at_call_of 47 b3; refine (HSH.out _ (And.right (And.right (And.right (by assumption))))).mono ?_; rintro e w11 ⟨rfl, hb11⟩)
                | fail)
            all_goals
              have hfin : RW w5 w11 := And.right (And.right (And.right (by assumption)))
              have HF := Lib.hid (bel_trans HB5.out hfin)
              clear hw1
              go_wp2_with fail
              go_ret
              exact ⟨rfl, HF.out⟩
          · have db : decide (0 ≤ x) = false := decide_eq_false qb
            have dc : decide (by1 < 0) = true := by
              rw [decide_eq_true_eq]
              rcases hA with h | h | h
              · simp [h] at qa
              · exact absurd h qb
              · exact h
            clear hA qb
            go_wp2_with (at_builtin; refine list_appI w3.heap.size rfl _ _ rfl (.slice none 0 0) [] ms rfl (ownI_empty _ _) (Nat.le_refl _) (some ⟨b3, o3, none⟩) M c3 rfl HR3.out (by have := HM.out; simp; omega) ?_; intro v4 w4 own4 g4 h4; rw [List.nil_append] at own4; obtain ⟨g, c4, e4, hg1, hg2, -⟩ := own_slice own4 (by have := HMT.out.1; have := HPOS.out; omega); rw [HMT.out.1] at e4; subst e4; have HO4 := Lib.hid own4; have HG4 := Lib.hid g4; have HGG := Lib.hid (And.intro hg1 hg2); have cg := own4.cellAt HQM.out; have fg := own4.frozAt q; have hc4 := (grown_set w4 g q (.int .i64 by1)).cell (g4.cell HCQ.out (by intro e; cases e)) (by intro e; injection e with e; have h2 : b3 = g := e; have := HB3L.out; omega); clear own4 g4 h4 hg1 hg2)
            have HW5 : Hid (RW w3 (w4.setCell ⟨g, q, none⟩ (.int .i64 by1))) := Below.setCell (Below.grown (Below.refl _ _) HG4.out (Nat.le_refl _) (fun k hk => by cases hk)) HGG.out.1 _
            have HR5 : Hid (ReadI (w4.setCell ⟨g, q, none⟩ (.int .i64 by1)) (some ⟨g, 0, none⟩) M (ms.set q by1)) := by
              have := readI_own (HO4.out.put1 q by1)
              rwa [List.length_set, HMT.out.1] at this
            have HX5 := Lib.hid (later2 HW5.out HX3.out)
            have HE5 := Lib.hid (HE3.out.below HW5.out)
            have HRM5 := Lib.hid (HR3.out.below HW5.out)
            have HB5 := Lib.hid (bel_trans HB3.out HW5.out)
            clear cg fg hc4 HG4
            generalize w4.setCell ⟨g, q, none⟩ (.int .i64 by1) = w5 at *
            have HRT : Hid (∀ W, RW w5 W → Calls Try.prog 47 #[.agg #[.int .i64 M, .slice A1 l1 k1], .slice (some ⟨g, 0, none⟩) M c4] W fun e w' => e = .returned (.bool false) ∧ Below W.heap.size W w') := fun W r => by
              have := mright_any (c := k1) (d := c4) (M : Int) W (HE5.out.below r) (HR5.out.below r)
              rw [HRES.out] at this
              exact this
            have HSH : Hid (∀ W, RW w5 W → Calls Try.prog 47 #[.agg #[.int .i64 M, .slice A1 l1 k1], .slice (some ⟨b3, o3, none⟩) (M - 1) c3] W fun e w' => e = .returned (.bool false) ∧ Below W.heap.size W w') := fun W r => by
              have := mright_any (c := k1) (d := c3) (M : Int) W (HE5.out.below r) ((HRM5.out.below r).take (M - 1) (by omega))
              rw [rightM_len (by rw [List.length_take, HMT.out.1]; have := HPOS.out; omega)] at this
              exact this
            have hcut := fun W => cut_to (some ⟨b3, o3, none⟩) M c3 (M - 1) ((M : Int) - 1) (by have := HPOS.out; omega) (by have := HC3.out; omega) W
            have hw1 : IntKind.i64.wrap ((M : Int) - 1) = (M : Int) - 1 := by rw [IntKind.wrap_i64]; omega
            have HCQ5 : Hid (w5.cell? ⟨b3, o3 + q, none⟩ = some (.int .i64 x)) := cell_later HW5.out HCQ.out
            go_region_held3 (fun w' => w'.cell? ⟨w1.heap.size, 0, none⟩ = some (.int .i64 M) ∧ w'.cell? ⟨w1.heap.size, 1, none⟩ = some (.slice A1 l1 k1) ∧ w'.cell? ⟨b3, o3 + q, none⟩ = some (.int .i64 x) ∧ RW w5 w')
              (first | assumption | exact RW.three ⟨HX5.out.1, HX5.out.2, HCQ5.out⟩ (RW.refl w5) | exact RW.three ⟨HX5.out.1, HX5.out.2, HCQ5.out⟩ (RW.refl w5).drew | exact RW.three ⟨HX5.out.1, HX5.out.2, HCQ5.out⟩ (RW.later (And.right (And.right (And.right (by assumption)))) hb9) | exact RW.three ⟨HX5.out.1, HX5.out.2, HCQ5.out⟩ (RW.later (And.right (And.right (And.right (by assumption)))) hb10) | exact RW.three ⟨HX5.out.1, HX5.out.2, HCQ5.out⟩ (RW.later (And.right (And.right (And.right (by assumption)))) hb11) | fail)
              (first
                | (go_at_call 46; refine (HAW.out _).mono ?_; rintro e w9 ⟨rfl, hb9⟩)
                | (go_at_call_of 47 g; refine (HRT.out _ (And.right (And.right (And.right (by assumption))))).mono ?_; rintro e w10 ⟨rfl, hb10⟩)
                | (go_at_call_of 47 b3; refine (HSH.out _ (And.right (And.right (And.right (by assumption))))).mono ?_; rintro e w11 ⟨rfl, hb11⟩)
                | fail)
            all_goals
              have hfin : RW w5 w11 := And.right (And.right (And.right (by assumption)))
              have HF := Lib.hid (bel_trans HB5.out hfin)
              clear hw1
              go_wp2_with fail
              go_ret
              exact ⟨rfl, HF.out⟩
        · clear hA
          go_wp2_with (at_builtin; refine list_appI w3.heap.size rfl _ _ rfl (.slice none 0 0) [] ms rfl (ownI_empty _ _) (Nat.le_refl _) (some ⟨b3, o3, none⟩) M c3 rfl HR3.out (by have := HM.out; simp; omega) ?_; intro v4 w4 own4 g4 h4; rw [List.nil_append] at own4; obtain ⟨g, c4, e4, hg1, hg2, -⟩ := own_slice own4 (by have := HMT.out.1; have := HPOS.out; omega); rw [HMT.out.1] at e4; subst e4; have HO4 := Lib.hid own4; have HG4 := Lib.hid g4; have HGG := Lib.hid (And.intro hg1 hg2); have cg := own4.cellAt HQM.out; have fg := own4.frozAt q; have hc4 := (grown_set w4 g q (.int .i64 by1)).cell (g4.cell HCQ.out (by intro e; cases e)) (by intro e; injection e with e; have h2 : b3 = g := e; have := HB3L.out; omega); clear own4 g4 h4 hg1 hg2)
          have HW5 : Hid (RW w3 (w4.setCell ⟨g, q, none⟩ (.int .i64 by1))) := Below.setCell (Below.grown (Below.refl _ _) HG4.out (Nat.le_refl _) (fun k hk => by cases hk)) HGG.out.1 _
          have HR5 : Hid (ReadI (w4.setCell ⟨g, q, none⟩ (.int .i64 by1)) (some ⟨g, 0, none⟩) M (ms.set q by1)) := by
            have := readI_own (HO4.out.put1 q by1)
            rwa [List.length_set, HMT.out.1] at this
          have HX5 := Lib.hid (later2 HW5.out HX3.out)
          have HE5 := Lib.hid (HE3.out.below HW5.out)
          have HRM5 := Lib.hid (HR3.out.below HW5.out)
          have HB5 := Lib.hid (bel_trans HB3.out HW5.out)
          clear cg fg hc4 HG4
          generalize w4.setCell ⟨g, q, none⟩ (.int .i64 by1) = w5 at *
          have HRT : Hid (∀ W, RW w5 W → Calls Try.prog 47 #[.agg #[.int .i64 M, .slice A1 l1 k1], .slice (some ⟨g, 0, none⟩) M c4] W fun e w' => e = .returned (.bool false) ∧ Below W.heap.size W w') := fun W r => by
            have := mright_any (c := k1) (d := c4) (M : Int) W (HE5.out.below r) (HR5.out.below r)
            rw [HRES.out] at this
            exact this
          have HSH : Hid (∀ W, RW w5 W → Calls Try.prog 47 #[.agg #[.int .i64 M, .slice A1 l1 k1], .slice (some ⟨b3, o3, none⟩) (M - 1) c3] W fun e w' => e = .returned (.bool false) ∧ Below W.heap.size W w') := fun W r => by
            have := mright_any (c := k1) (d := c3) (M : Int) W (HE5.out.below r) ((HRM5.out.below r).take (M - 1) (by omega))
            rw [rightM_len (by rw [List.length_take, HMT.out.1]; have := HPOS.out; omega)] at this
            exact this
          have hcut := fun W => cut_to (some ⟨b3, o3, none⟩) M c3 (M - 1) ((M : Int) - 1) (by have := HPOS.out; omega) (by have := HC3.out; omega) W
          have hw1 : IntKind.i64.wrap ((M : Int) - 1) = (M : Int) - 1 := by rw [IntKind.wrap_i64]; omega
          have HCQ5 : Hid (w5.cell? ⟨b3, o3 + q, none⟩ = some (.int .i64 x)) := cell_later HW5.out HCQ.out
          go_region_held3 (fun w' => w'.cell? ⟨w1.heap.size, 0, none⟩ = some (.int .i64 M) ∧ w'.cell? ⟨w1.heap.size, 1, none⟩ = some (.slice A1 l1 k1) ∧ w'.cell? ⟨b3, o3 + q, none⟩ = some (.int .i64 x) ∧ RW w5 w')
            (first | assumption | exact RW.three ⟨HX5.out.1, HX5.out.2, HCQ5.out⟩ (RW.refl w5) | exact RW.three ⟨HX5.out.1, HX5.out.2, HCQ5.out⟩ (RW.refl w5).drew | exact RW.three ⟨HX5.out.1, HX5.out.2, HCQ5.out⟩ (RW.later (And.right (And.right (And.right (by assumption)))) hb9) | exact RW.three ⟨HX5.out.1, HX5.out.2, HCQ5.out⟩ (RW.later (And.right (And.right (And.right (by assumption)))) hb10) | exact RW.three ⟨HX5.out.1, HX5.out.2, HCQ5.out⟩ (RW.later (And.right (And.right (And.right (by assumption)))) hb11) | fail)
            (first
              | (go_at_call 46; refine (HAW.out _).mono ?_; rintro e w9 ⟨rfl, hb9⟩)
              | (go_at_call_of 47 g; refine (HRT.out _ (And.right (And.right (And.right (by assumption))))).mono ?_; rintro e w10 ⟨rfl, hb10⟩)
              | (go_at_call_of 47 b3; refine (HSH.out _ (And.right (And.right (And.right (by assumption))))).mono ?_; rintro e w11 ⟨rfl, hb11⟩)
              | fail)
          all_goals
            have hfin : RW w5 w11 := And.right (And.right (And.right (by assumption)))
            have HF := Lib.hid (bel_trans HB5.out hfin)
            clear hw1
            go_wp2_with fail
            go_ret
            exact ⟨rfl, HF.out⟩
      · have HRES := Lib.hid (show rightM M es (ms.set q by1) = (by1 == x) from by
          cases hz : (by1 == x)
          · exact HNO.out (by simpa using hz)
          · exact HYES.out (by simpa using hz))
        rw [hR2] at HRES
        cases qa : (by1 == (q : Int))
        · by_cases qb : 0 ≤ x
          · have db : decide (0 ≤ x) = true := decide_eq_true qb
            clear hA qb
            go_wp2_with (at_builtin; refine list_appI w3.heap.size rfl _ _ rfl (.slice none 0 0) [] ms rfl (ownI_empty _ _) (Nat.le_refl _) (some ⟨b3, o3, none⟩) M c3 rfl HR3.out (by have := HM.out; simp; omega) ?_; intro v4 w4 own4 g4 h4; rw [List.nil_append] at own4; obtain ⟨g, c4, e4, hg1, hg2, -⟩ := own_slice own4 (by have := HMT.out.1; have := HPOS.out; omega); rw [HMT.out.1] at e4; subst e4; have HO4 := Lib.hid own4; have HG4 := Lib.hid g4; have HGG := Lib.hid (And.intro hg1 hg2); have cg := own4.cellAt HQM.out; have fg := own4.frozAt q; have hc4 := (grown_set w4 g q (.int .i64 by1)).cell (g4.cell HCQ.out (by intro e; cases e)) (by intro e; injection e with e; have h2 : b3 = g := e; have := HB3L.out; omega); clear own4 g4 h4 hg1 hg2)
            have HW5 : Hid (RW w3 (w4.setCell ⟨g, q, none⟩ (.int .i64 by1))) := Below.setCell (Below.grown (Below.refl _ _) HG4.out (Nat.le_refl _) (fun k hk => by cases hk)) HGG.out.1 _
            have HR5 : Hid (ReadI (w4.setCell ⟨g, q, none⟩ (.int .i64 by1)) (some ⟨g, 0, none⟩) M (ms.set q by1)) := by
              have := readI_own (HO4.out.put1 q by1)
              rwa [List.length_set, HMT.out.1] at this
            have HX5 := Lib.hid (later2 HW5.out HX3.out)
            have HE5 := Lib.hid (HE3.out.below HW5.out)
            have HRM5 := Lib.hid (HR3.out.below HW5.out)
            have HB5 := Lib.hid (bel_trans HB3.out HW5.out)
            clear cg fg hc4 HG4
            generalize w4.setCell ⟨g, q, none⟩ (.int .i64 by1) = w5 at *
            have HRT : Hid (∀ W, RW w5 W → Calls Try.prog 47 #[.agg #[.int .i64 M, .slice A1 l1 k1], .slice (some ⟨g, 0, none⟩) M c4] W fun e w' => e = .returned (.bool true) ∧ Below W.heap.size W w') := fun W r => by
              have := mright_any (c := k1) (d := c4) (M : Int) W (HE5.out.below r) (HR5.out.below r)
              rw [HRES.out] at this
              exact this
            have HSH : Hid (∀ W, RW w5 W → Calls Try.prog 47 #[.agg #[.int .i64 M, .slice A1 l1 k1], .slice (some ⟨b3, o3, none⟩) (M - 1) c3] W fun e w' => e = .returned (.bool false) ∧ Below W.heap.size W w') := fun W r => by
              have := mright_any (c := k1) (d := c3) (M : Int) W (HE5.out.below r) ((HRM5.out.below r).take (M - 1) (by omega))
              rw [rightM_len (by rw [List.length_take, HMT.out.1]; have := HPOS.out; omega)] at this
              exact this
            have hcut := fun W => cut_to (some ⟨b3, o3, none⟩) M c3 (M - 1) ((M : Int) - 1) (by have := HPOS.out; omega) (by have := HC3.out; omega) W
            have hw1 : IntKind.i64.wrap ((M : Int) - 1) = (M : Int) - 1 := by rw [IntKind.wrap_i64]; omega
            have HCQ5 : Hid (w5.cell? ⟨b3, o3 + q, none⟩ = some (.int .i64 x)) := cell_later HW5.out HCQ.out
            go_region_held3 (fun w' => w'.cell? ⟨w1.heap.size, 0, none⟩ = some (.int .i64 M) ∧ w'.cell? ⟨w1.heap.size, 1, none⟩ = some (.slice A1 l1 k1) ∧ w'.cell? ⟨b3, o3 + q, none⟩ = some (.int .i64 x) ∧ RW w5 w')
              (first | assumption | exact RW.three ⟨HX5.out.1, HX5.out.2, HCQ5.out⟩ (RW.refl w5) | exact RW.three ⟨HX5.out.1, HX5.out.2, HCQ5.out⟩ (RW.refl w5).drew | exact RW.three ⟨HX5.out.1, HX5.out.2, HCQ5.out⟩ (RW.later (And.right (And.right (And.right (by assumption)))) hb9) | exact RW.three ⟨HX5.out.1, HX5.out.2, HCQ5.out⟩ (RW.later (And.right (And.right (And.right (by assumption)))) hb10) | exact RW.three ⟨HX5.out.1, HX5.out.2, HCQ5.out⟩ (RW.later (And.right (And.right (And.right (by assumption)))) hb11) | fail)
              (first
                | (go_at_call 46; refine (HAW.out _).mono ?_; rintro e w9 ⟨rfl, hb9⟩)
                | (go_at_call_of 47 g; refine (HRT.out _ (And.right (And.right (And.right (by assumption))))).mono ?_; rintro e w10 ⟨rfl, hb10⟩)
                | (go_at_call_of 47 b3; refine (HSH.out _ (And.right (And.right (And.right (by assumption))))).mono ?_; rintro e w11 ⟨rfl, hb11⟩)
                | fail)
            all_goals
              have hfin : RW w5 w11 := And.right (And.right (And.right (by assumption)))
              have HF := Lib.hid (bel_trans HB5.out hfin)
              clear hw1
              go_wp2_with fail
              go_ret
              exact ⟨rfl, HF.out⟩
          · have db : decide (0 ≤ x) = false := decide_eq_false qb
            have dc : decide (by1 < 0) = true := by
              rw [decide_eq_true_eq]
              rcases hA with h | h | h
              · simp [h] at qa
              · exact absurd h qb
              · exact h
            clear hA qb
            go_wp2_with (at_builtin; refine list_appI w3.heap.size rfl _ _ rfl (.slice none 0 0) [] ms rfl (ownI_empty _ _) (Nat.le_refl _) (some ⟨b3, o3, none⟩) M c3 rfl HR3.out (by have := HM.out; simp; omega) ?_; intro v4 w4 own4 g4 h4; rw [List.nil_append] at own4; obtain ⟨g, c4, e4, hg1, hg2, -⟩ := own_slice own4 (by have := HMT.out.1; have := HPOS.out; omega); rw [HMT.out.1] at e4; subst e4; have HO4 := Lib.hid own4; have HG4 := Lib.hid g4; have HGG := Lib.hid (And.intro hg1 hg2); have cg := own4.cellAt HQM.out; have fg := own4.frozAt q; have hc4 := (grown_set w4 g q (.int .i64 by1)).cell (g4.cell HCQ.out (by intro e; cases e)) (by intro e; injection e with e; have h2 : b3 = g := e; have := HB3L.out; omega); clear own4 g4 h4 hg1 hg2)
            have HW5 : Hid (RW w3 (w4.setCell ⟨g, q, none⟩ (.int .i64 by1))) := Below.setCell (Below.grown (Below.refl _ _) HG4.out (Nat.le_refl _) (fun k hk => by cases hk)) HGG.out.1 _
            have HR5 : Hid (ReadI (w4.setCell ⟨g, q, none⟩ (.int .i64 by1)) (some ⟨g, 0, none⟩) M (ms.set q by1)) := by
              have := readI_own (HO4.out.put1 q by1)
              rwa [List.length_set, HMT.out.1] at this
            have HX5 := Lib.hid (later2 HW5.out HX3.out)
            have HE5 := Lib.hid (HE3.out.below HW5.out)
            have HRM5 := Lib.hid (HR3.out.below HW5.out)
            have HB5 := Lib.hid (bel_trans HB3.out HW5.out)
            clear cg fg hc4 HG4
            generalize w4.setCell ⟨g, q, none⟩ (.int .i64 by1) = w5 at *
            have HRT : Hid (∀ W, RW w5 W → Calls Try.prog 47 #[.agg #[.int .i64 M, .slice A1 l1 k1], .slice (some ⟨g, 0, none⟩) M c4] W fun e w' => e = .returned (.bool true) ∧ Below W.heap.size W w') := fun W r => by
              have := mright_any (c := k1) (d := c4) (M : Int) W (HE5.out.below r) (HR5.out.below r)
              rw [HRES.out] at this
              exact this
            have HSH : Hid (∀ W, RW w5 W → Calls Try.prog 47 #[.agg #[.int .i64 M, .slice A1 l1 k1], .slice (some ⟨b3, o3, none⟩) (M - 1) c3] W fun e w' => e = .returned (.bool false) ∧ Below W.heap.size W w') := fun W r => by
              have := mright_any (c := k1) (d := c3) (M : Int) W (HE5.out.below r) ((HRM5.out.below r).take (M - 1) (by omega))
              rw [rightM_len (by rw [List.length_take, HMT.out.1]; have := HPOS.out; omega)] at this
              exact this
            have hcut := fun W => cut_to (some ⟨b3, o3, none⟩) M c3 (M - 1) ((M : Int) - 1) (by have := HPOS.out; omega) (by have := HC3.out; omega) W
            have hw1 : IntKind.i64.wrap ((M : Int) - 1) = (M : Int) - 1 := by rw [IntKind.wrap_i64]; omega
            have HCQ5 : Hid (w5.cell? ⟨b3, o3 + q, none⟩ = some (.int .i64 x)) := cell_later HW5.out HCQ.out
            go_region_held3 (fun w' => w'.cell? ⟨w1.heap.size, 0, none⟩ = some (.int .i64 M) ∧ w'.cell? ⟨w1.heap.size, 1, none⟩ = some (.slice A1 l1 k1) ∧ w'.cell? ⟨b3, o3 + q, none⟩ = some (.int .i64 x) ∧ RW w5 w')
              (first | assumption | exact RW.three ⟨HX5.out.1, HX5.out.2, HCQ5.out⟩ (RW.refl w5) | exact RW.three ⟨HX5.out.1, HX5.out.2, HCQ5.out⟩ (RW.refl w5).drew | exact RW.three ⟨HX5.out.1, HX5.out.2, HCQ5.out⟩ (RW.later (And.right (And.right (And.right (by assumption)))) hb9) | exact RW.three ⟨HX5.out.1, HX5.out.2, HCQ5.out⟩ (RW.later (And.right (And.right (And.right (by assumption)))) hb10) | exact RW.three ⟨HX5.out.1, HX5.out.2, HCQ5.out⟩ (RW.later (And.right (And.right (And.right (by assumption)))) hb11) | fail)
              (first
                | (go_at_call 46; refine (HAW.out _).mono ?_; rintro e w9 ⟨rfl, hb9⟩)
                | (go_at_call_of 47 g; refine (HRT.out _ (And.right (And.right (And.right (by assumption))))).mono ?_; rintro e w10 ⟨rfl, hb10⟩)
                | (go_at_call_of 47 b3; refine (HSH.out _ (And.right (And.right (And.right (by assumption))))).mono ?_; rintro e w11 ⟨rfl, hb11⟩)
                | fail)
            all_goals
              have hfin : RW w5 w11 := And.right (And.right (And.right (by assumption)))
              have HF := Lib.hid (bel_trans HB5.out hfin)
              clear hw1
              go_wp2_with fail
              go_ret
              exact ⟨rfl, HF.out⟩
        · clear hA
          go_wp2_with (at_builtin; refine list_appI w3.heap.size rfl _ _ rfl (.slice none 0 0) [] ms rfl (ownI_empty _ _) (Nat.le_refl _) (some ⟨b3, o3, none⟩) M c3 rfl HR3.out (by have := HM.out; simp; omega) ?_; intro v4 w4 own4 g4 h4; rw [List.nil_append] at own4; obtain ⟨g, c4, e4, hg1, hg2, -⟩ := own_slice own4 (by have := HMT.out.1; have := HPOS.out; omega); rw [HMT.out.1] at e4; subst e4; have HO4 := Lib.hid own4; have HG4 := Lib.hid g4; have HGG := Lib.hid (And.intro hg1 hg2); have cg := own4.cellAt HQM.out; have fg := own4.frozAt q; have hc4 := (grown_set w4 g q (.int .i64 by1)).cell (g4.cell HCQ.out (by intro e; cases e)) (by intro e; injection e with e; have h2 : b3 = g := e; have := HB3L.out; omega); clear own4 g4 h4 hg1 hg2)
          have HW5 : Hid (RW w3 (w4.setCell ⟨g, q, none⟩ (.int .i64 by1))) := Below.setCell (Below.grown (Below.refl _ _) HG4.out (Nat.le_refl _) (fun k hk => by cases hk)) HGG.out.1 _
          have HR5 : Hid (ReadI (w4.setCell ⟨g, q, none⟩ (.int .i64 by1)) (some ⟨g, 0, none⟩) M (ms.set q by1)) := by
            have := readI_own (HO4.out.put1 q by1)
            rwa [List.length_set, HMT.out.1] at this
          have HX5 := Lib.hid (later2 HW5.out HX3.out)
          have HE5 := Lib.hid (HE3.out.below HW5.out)
          have HRM5 := Lib.hid (HR3.out.below HW5.out)
          have HB5 := Lib.hid (bel_trans HB3.out HW5.out)
          clear cg fg hc4 HG4
          generalize w4.setCell ⟨g, q, none⟩ (.int .i64 by1) = w5 at *
          have HRT : Hid (∀ W, RW w5 W → Calls Try.prog 47 #[.agg #[.int .i64 M, .slice A1 l1 k1], .slice (some ⟨g, 0, none⟩) M c4] W fun e w' => e = .returned (.bool true) ∧ Below W.heap.size W w') := fun W r => by
            have := mright_any (c := k1) (d := c4) (M : Int) W (HE5.out.below r) (HR5.out.below r)
            rw [HRES.out] at this
            exact this
          have HSH : Hid (∀ W, RW w5 W → Calls Try.prog 47 #[.agg #[.int .i64 M, .slice A1 l1 k1], .slice (some ⟨b3, o3, none⟩) (M - 1) c3] W fun e w' => e = .returned (.bool false) ∧ Below W.heap.size W w') := fun W r => by
            have := mright_any (c := k1) (d := c3) (M : Int) W (HE5.out.below r) ((HRM5.out.below r).take (M - 1) (by omega))
            rw [rightM_len (by rw [List.length_take, HMT.out.1]; have := HPOS.out; omega)] at this
            exact this
          have hcut := fun W => cut_to (some ⟨b3, o3, none⟩) M c3 (M - 1) ((M : Int) - 1) (by have := HPOS.out; omega) (by have := HC3.out; omega) W
          have hw1 : IntKind.i64.wrap ((M : Int) - 1) = (M : Int) - 1 := by rw [IntKind.wrap_i64]; omega
          have HCQ5 : Hid (w5.cell? ⟨b3, o3 + q, none⟩ = some (.int .i64 x)) := cell_later HW5.out HCQ.out
          go_region_held3 (fun w' => w'.cell? ⟨w1.heap.size, 0, none⟩ = some (.int .i64 M) ∧ w'.cell? ⟨w1.heap.size, 1, none⟩ = some (.slice A1 l1 k1) ∧ w'.cell? ⟨b3, o3 + q, none⟩ = some (.int .i64 x) ∧ RW w5 w')
            (first | assumption | exact RW.three ⟨HX5.out.1, HX5.out.2, HCQ5.out⟩ (RW.refl w5) | exact RW.three ⟨HX5.out.1, HX5.out.2, HCQ5.out⟩ (RW.refl w5).drew | exact RW.three ⟨HX5.out.1, HX5.out.2, HCQ5.out⟩ (RW.later (And.right (And.right (And.right (by assumption)))) hb9) | exact RW.three ⟨HX5.out.1, HX5.out.2, HCQ5.out⟩ (RW.later (And.right (And.right (And.right (by assumption)))) hb10) | exact RW.three ⟨HX5.out.1, HX5.out.2, HCQ5.out⟩ (RW.later (And.right (And.right (And.right (by assumption)))) hb11) | fail)
            (first
              | (go_at_call 46; refine (HAW.out _).mono ?_; rintro e w9 ⟨rfl, hb9⟩)
              | (go_at_call_of 47 g; refine (HRT.out _ (And.right (And.right (And.right (by assumption))))).mono ?_; rintro e w10 ⟨rfl, hb10⟩)
              | (go_at_call_of 47 b3; refine (HSH.out _ (And.right (And.right (And.right (by assumption))))).mono ?_; rintro e w11 ⟨rfl, hb11⟩)
              | fail)
          all_goals
            have hfin : RW w5 w11 := And.right (And.right (And.right (by assumption)))
            have HF := Lib.hid (bel_trans HB5.out hfin)
            clear hw1
            go_wp2_with fail
            go_ret
            exact ⟨rfl, HF.out⟩
    · have HRES : Hid (rightM M es (ms.set q by1) = false) := HNO.out (fun e => hA (by omega))
      have qa : (by1 == (q : Int)) = false := by
        cases qq : (by1 == (q : Int))
        · rfl
        · exact absurd (.inl (by simpa using qq)) hA
      have db : decide (0 ≤ x) = false := decide_eq_false fun h => hA (.inr (.inl h))
      have dc : decide (by1 < 0) = false := decide_eq_false fun h => hA (.inr (.inr h))
      clear hA
      go_wp2_with (at_builtin; refine list_appI w3.heap.size rfl _ _ rfl (.slice none 0 0) [] ms rfl (ownI_empty _ _) (Nat.le_refl _) (some ⟨b3, o3, none⟩) M c3 rfl HR3.out (by have := HM.out; simp; omega) ?_; intro v4 w4 own4 g4 h4; rw [List.nil_append] at own4; obtain ⟨g, c4, e4, hg1, hg2, -⟩ := own_slice own4 (by have := HMT.out.1; have := HPOS.out; omega); rw [HMT.out.1] at e4; subst e4; have HO4 := Lib.hid own4; have HG4 := Lib.hid g4; have HGG := Lib.hid (And.intro hg1 hg2); have cg := own4.cellAt HQM.out; have fg := own4.frozAt q; have hc4 := (grown_set w4 g q (.int .i64 by1)).cell (g4.cell HCQ.out (by intro e; cases e)) (by intro e; injection e with e; have h2 : b3 = g := e; have := HB3L.out; omega); clear own4 g4 h4 hg1 hg2)
      have HW5 : Hid (RW w3 (w4.setCell ⟨g, q, none⟩ (.int .i64 by1))) := Below.setCell (Below.grown (Below.refl _ _) HG4.out (Nat.le_refl _) (fun k hk => by cases hk)) HGG.out.1 _
      have HR5 : Hid (ReadI (w4.setCell ⟨g, q, none⟩ (.int .i64 by1)) (some ⟨g, 0, none⟩) M (ms.set q by1)) := by
        have := readI_own (HO4.out.put1 q by1)
        rwa [List.length_set, HMT.out.1] at this
      have HX5 := Lib.hid (later2 HW5.out HX3.out)
      have HE5 := Lib.hid (HE3.out.below HW5.out)
      have HRM5 := Lib.hid (HR3.out.below HW5.out)
      have HB5 := Lib.hid (bel_trans HB3.out HW5.out)
      clear cg fg hc4 HG4
      generalize w4.setCell ⟨g, q, none⟩ (.int .i64 by1) = w5 at *
      have HRT : Hid (∀ W, RW w5 W → Calls Try.prog 47 #[.agg #[.int .i64 M, .slice A1 l1 k1], .slice (some ⟨g, 0, none⟩) M c4] W fun e w' => e = .returned (.bool false) ∧ Below W.heap.size W w') := fun W r => by
        have := mright_any (c := k1) (d := c4) (M : Int) W (HE5.out.below r) (HR5.out.below r)
        rw [HRES.out] at this
        exact this
      have HRR : Hid (∀ W, RW w5 W → Calls Try.prog 41 #[.agg #[.int .i64 M, .slice A1 l1 k1], .slice (some ⟨g, 0, none⟩) M c4] W fun e w' => e = .returned (.bool false) ∧ Below W.heap.size W w') := fun W r => by
        have := rright_any (c := k1) (d := c4) (M : Int) W (HE5.out.below r) (HR5.out.below r)
        rw [HRES.out] at this
        exact this
      go_region_held3 (fun w' => w'.cell? ⟨w1.heap.size, 0, none⟩ = some (.int .i64 M) ∧ w'.cell? ⟨w1.heap.size, 1, none⟩ = some (.slice A1 l1 k1) ∧ RW w5 w')
        (first | assumption | exact RW.two HX5.out (RW.refl w5) | exact RW.two HX5.out (RW.refl w5).drew | exact RW.two HX5.out (RW.later (And.right (And.right (by assumption))) hb9) | exact RW.two HX5.out (RW.later (And.right (And.right (by assumption))) hb10) | exact RW.two HX5.out (RW.later (And.right (And.right (by assumption))) hb11) | exact RW.two HX5.out (RW.later (And.right (And.right (by assumption))) hb12) | exact RW.two HX5.out (RW.later (And.right (And.right (by assumption))) hb13) | fail)
        (first
          | (go_at_call 46; refine (HAW.out _).mono ?_; rintro e w9 ⟨rfl, hb9⟩)
          | (go_at_call 47; refine (HRT.out _ (And.right (And.right (by assumption)))).mono ?_; first | (rintro e w10 ⟨rfl, hb10⟩; have t10 := hb11) | (rintro e w12 ⟨rfl, hb12⟩))
          | (go_at_call 41; refine (HRR.out _ (And.right (And.right (by assumption)))).mono ?_; rintro e w11 ⟨rfl, hb11⟩)
          | fail)
      all_goals
        have hfin : RW w5 w10 := And.right (And.right (by assumption))
        have HF := Lib.hid (bel_trans HB5.out hfin)
        go_wp2_with fail
        go_ret
        exact ⟨rfl, HF.out⟩

theorem matesWrong_walk {A B : Option Addr} {n c m d : Nat} {zs ps : List Int} (k at1 by1 : Int) (w : World) (_ : -9223372036854775808 ≤ k ∧ k ≤ 9223372036854775807) (h : ReadI w A n zs) (hp : ReadI w B m ps) (_ : -9223372036854775808 ≤ at1 ∧ at1 ≤ 9223372036854775807) (_ : -9223372036854775808 ≤ by1 ∧ by1 ≤ 9223372036854775807) :
    Calls Try.prog 10 #[.int .i64 k, .slice A n c, .slice B m d, .int .i64 at1, .int .i64 by1] w fun e w' => e = .returned (.bool true) ∧ Below w.heap.size w w' := matesWrong_any k at1 by1 w h hp

end Go.Proofs.Ytnldfjoadmehcaa
