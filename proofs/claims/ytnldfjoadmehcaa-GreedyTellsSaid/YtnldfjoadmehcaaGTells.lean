/- The walk of the statement GreedyTells. -/
import Derived.Test.YtnldfjoadmehcaaAwake10
import Derived.Test.YtnldfjoadmehcaaOwn
set_option linter.unusedVariables false
set_option linter.unusedSimpArgs false
namespace Go.Proofs.Ytnldfjoadmehcaa
open Go.RowKit

theorem plain_same {A B : Option Addr} {n m ca cb : Nat} {xs : List Int} (w : World) (ha : ReadI w A n xs) (hb : ReadI w B m xs) :
    Calls Try.prog 23 #[.slice A n ca, .slice B m cb] w fun e w' => e = .returned (.bool true) ∧ Below w.heap.size w w' :=
  (plain_any (ca := ca) (cb := cb) w ha hb).mono fun e w' h => ⟨by rw [h.1, decide_eq_true rfl], h.2.below _⟩

set_option maxHeartbeats 16000000 in
set_option maxRecDepth 100000 in
theorem greedyTells_any {A B : Option Addr} {n c m d : Nat} {es : List Ed} {l : List Int} (N : Int) (w0 : World) (h : ReadE w0 A n es) (hl : ReadI w0 B m l) :
    Calls Try.prog 7 #[.agg #[.int .i64 N, .slice A n c], .slice B m d] w0 fun e w' => e = .returned (.bool true) ∧ Below w0.heap.size w0 w' := by
  have hn := h.2.1
  have hm := hl.2.1
  have HAW : Hid (∀ W, Calls Try.prog 36 #[] W fun e w' => e = .returned (.bool true) ∧ Below W.heap.size W w') := fun W => awake10_any W
  have S0 : Hid (RW w0 (w0.alloc (gcells N A n c))) := bel_alloc _ _
  by_cases qd1 : (60 : Int) < (n : Int)
  · have d1 : decide ((60 : Int) < (n : Int)) = true := decide_eq_true qd1
    clear qd1
    go_enter Try.func7, Try.ntmps7
    go_wp2_with fail
    refine (HAW.out _).mono ?_
    rintro e w1 ⟨rfl, hb⟩
    have HF := Lib.hid (bel_trans S0.out hb)
    clear hb
    go_wp2_with fail
    go_ret
    exact ⟨rfl, HF.out⟩
  have d1 : decide ((60 : Int) < (n : Int)) = false := decide_eq_false qd1
  by_cases qd2 : (150 : Int) < N
  · have d2 : decide ((150 : Int) < N) = true := decide_eq_true qd2
    clear qd2
    go_enter Try.func7, Try.ntmps7
    go_wp2_with fail
    refine (HAW.out _).mono ?_
    rintro e w1 ⟨rfl, hb⟩
    have HF := Lib.hid (bel_trans S0.out hb)
    clear hb
    go_wp2_with fail
    go_ret
    exact ⟨rfl, HF.out⟩
  have d2 : decide ((150 : Int) < N) = false := decide_eq_false qd2
  by_cases qd3 : (150 : Int) < (m : Int)
  · have d3 : decide ((150 : Int) < (m : Int)) = true := decide_eq_true qd3
    clear qd3
    go_enter Try.func7, Try.ntmps7
    go_wp2_with fail
    refine (HAW.out _).mono ?_
    rintro e w1 ⟨rfl, hb⟩
    have HF := Lib.hid (bel_trans S0.out hb)
    clear hb
    go_wp2_with fail
    go_ret
    exact ⟨rfl, HF.out⟩
  have d3 : decide ((150 : Int) < (m : Int)) = false := decide_eq_false qd3
  have HNN : Hid (n ≤ 60 ∧ m ≤ 150) := by unfold Hid; omega
  have HX := Lib.hid (boxg w0 N A n c)
  have HE := Lib.hid h
  have HL := Lib.hid hl
  clear h hl qd1 qd2 qd3
  go_enter Try.func7, Try.ntmps7
  go_wp2_with fail
  clear d1 d2 d3
  generalize w0.alloc (gcells N A n c) = w1 at *
  refine (ownI_any (c := d) 71 w1 (HL.out.below S0.out) (by have := HNN.out; omega)).mono ?_
  rintro e w2 ⟨ga, rfl, RA, hga, s1⟩
  have S1 : Hid (RW w1 w2) := s1
  have HX2 := Lib.hid (later2 s1 HX.out)
  have HE2 := Lib.hid (HE.out.below (bel_trans S0.out S1.out))
  have HL2 := Lib.hid (HL.out.below (bel_trans S0.out S1.out))
  have HP2 := Lib.hid (padI_read RA.out HL.out.1 (by have := HNN.out; omega))
  have HB2 := Lib.hid (bel_trans S0.out S1.out)
  have HM := Lib.hid HL.out.1
  clear s1 hga
  have hfu : ∀ W, RW w2 W → Calls Try.prog 39 #[.agg #[.int .i64 N, .slice A n c], .slice (some ⟨ga, 0, none⟩) m (m + 3)] W fun e w' => e = .returned (.bool (fullB N es l)) ∧ Below W.heap.size W w' := fun W r => full_any (c := c) (d := m + 3) N W (HE2.out.below r) (HP2.out.below r)
  have hfr : ∀ W, RW w2 W → Calls Try.prog 40 #[.agg #[.int .i64 N, .slice A n c], .slice B m d] W fun e w' => e = .returned (.bool (fullB N es l)) ∧ Below W.heap.size W w' := fun W r => rfull_any (c := c) (d := d) N W (HE2.out.below r) (HL2.out.below r)
  cases hf : fullB N es l
  all_goals
    rw [hf] at hfu hfr
    have HFU := Lib.hid hfu
    have HFR := Lib.hid hfr
    clear hfu hfr hf
    go_wp2_with fail
    go_region_held3 (fun w' => w'.cell? ⟨w0.heap.size, 0, none⟩ = some (.int .i64 N) ∧ w'.cell? ⟨w0.heap.size, 1, none⟩ = some (.slice A n c) ∧ RW w2 w')
      (first | assumption | exact RW.two HX2.out (RW.refl w2) | exact RW.two HX2.out (RW.refl w2).drew | exact RW.two HX2.out (RW.later (And.right (And.right (by assumption))) hb9) | exact RW.two HX2.out (RW.later (And.right (And.right (by assumption))) hb10) | exact RW.two HX2.out (RW.later (And.right (And.right (by assumption))) hb11) | exact RW.two HX2.out (RW.later (And.right (And.right (by assumption))) hb12) | exact RW.two HX2.out (RW.later (And.right (And.right (by assumption))) hb13) | exact RW.two HX2.out (RW.later (And.right (And.right (by assumption))) hb14) | exact RW.two HX2.out (RW.later (And.right (And.right (by assumption))) hb15) | fail)
      (first
        | (go_at_call 36; refine (HAW.out _).mono ?_; rintro e w9 ⟨rfl, hb9⟩)
        | (go_at_call 37; refine (first_any (c := c) N _ (HE2.out.below (And.right (And.right (by assumption))))).mono ?_; rintro e w10 ⟨v10, rfl, o10, hb10⟩; obtain ⟨A10, c10, rfl, -, -, rd10⟩ := OwnI.read o10)
        | (go_at_call 38; refine (rfirst_any (c := c) N _ (HE2.out.below (And.right (And.right (by assumption))))).mono ?_; rintro e w11 ⟨v11, rfl, o11, hb11⟩; obtain ⟨A11, c11, rfl, -, -, rd11⟩ := OwnI.read o11)
        | (go_at_call 23; refine (plain_same _ (rd10.below hb11) rd11).mono ?_; rintro e w12 ⟨rfl, hb12⟩)
        | (go_at_call 39; refine (HFU.out _ (And.right (And.right (by assumption)))).mono ?_; rintro e w13 ⟨rfl, hb13⟩)
        | (go_at_call 40; refine (HFR.out _ (And.right (And.right (by assumption)))).mono ?_; rintro e w14 ⟨rfl, hb14⟩)
        | (go_at_call 34; refine (keptI_any (c := d) 71 _ (HL2.out.below (And.right (And.right (by assumption)))) (RA.out.later (And.right (And.right (by assumption)))) (by have := HNN.out; omega)).mono ?_; rintro e w15 ⟨rfl, hb15⟩)
        | fail)
    have hfin : RW w2 w15 := And.right (And.right (by assumption))
    have HF := Lib.hid (bel_trans HB2.out hfin)
    go_wp2_with fail
    go_ret
    exact ⟨rfl, HF.out⟩

theorem greedyTells_walk {A B : Option Addr} {n c m d : Nat} {es : List Ed} {l : List Int} {N : Int} (w : World) (h : ReadE w A n es ∧ n ≤ c) (hl : ReadI w B m l) :
    Calls Try.prog 7 #[.agg #[.int .i64 N, .slice A n c], .slice B m d] w fun e w' => e = .returned (.bool true) ∧ Below w.heap.size w w' := greedyTells_any N w h.1 hl

end Go.Proofs.Ytnldfjoadmehcaa
