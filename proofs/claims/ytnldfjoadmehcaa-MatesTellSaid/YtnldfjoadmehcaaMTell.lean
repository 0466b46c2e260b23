/- The walk of the statement MatesTell. -/
import Derived.Test.YtnldfjoadmehcaaAwake8
import Derived.Test.YtnldfjoadmehcaaOwn
set_option linter.unusedVariables false
set_option linter.unusedSimpArgs false
namespace Go.Proofs.Ytnldfjoadmehcaa
open Go.RowKit

set_option maxHeartbeats 16000000 in
set_option maxRecDepth 100000 in
theorem matesTell_any {A B C : Option Addr} {n c m d k kc : Nat} {es ls : List Ed} {l : List Int} (N : Int) (w0 : World) (h : ReadE w0 A n es) (hl : ReadI w0 B m l) (hs : ReadE w0 C k ls) :
    Calls Try.prog 12 #[.agg #[.int .i64 N, .slice A n c], .slice B m d, .slice C k kc] w0 fun e w' => e = .returned (.bool true) ∧ Below w0.heap.size w0 w' := by
  have hn := h.2.1
  have hm := hl.2.1
  have hk := hs.2.1
  have HAW : Hid (∀ W, Calls Try.prog 46 #[] W fun e w' => e = .returned (.bool true) ∧ Below W.heap.size W w') := fun W => awake8_any W
  have S0 : Hid (RW w0 (w0.alloc (gcells N A n c))) := bel_alloc _ _
  by_cases qd1 : (60 : Int) < (n : Int)
  · have d1 : decide ((60 : Int) < (n : Int)) = true := decide_eq_true qd1
    clear qd1
    go_enter Try.func12, Try.ntmps12
    go_wp2_with fail
    refine (HAW.out _).mono ?_
    rintro e w1 ⟨rfl, hb⟩
    have HF := Lib.hid (bel_trans S0.out hb)
    clear hb
    go_wp2_with fail
    go_ret
    exact ⟨rfl, HF.out⟩
  have d1 : decide ((60 : Int) < (n : Int)) = false := decide_eq_false qd1
  by_cases qd2 : (200 : Int) < N
  · have d2 : decide ((200 : Int) < N) = true := decide_eq_true qd2
    clear qd2
    go_enter Try.func12, Try.ntmps12
    go_wp2_with fail
    refine (HAW.out _).mono ?_
    rintro e w1 ⟨rfl, hb⟩
    have HF := Lib.hid (bel_trans S0.out hb)
    clear hb
    go_wp2_with fail
    go_ret
    exact ⟨rfl, HF.out⟩
  have d2 : decide ((200 : Int) < N) = false := decide_eq_false qd2
  by_cases qd3 : (200 : Int) < (m : Int)
  · have d3 : decide ((200 : Int) < (m : Int)) = true := decide_eq_true qd3
    clear qd3
    go_enter Try.func12, Try.ntmps12
    go_wp2_with fail
    refine (HAW.out _).mono ?_
    rintro e w1 ⟨rfl, hb⟩
    have HF := Lib.hid (bel_trans S0.out hb)
    clear hb
    go_wp2_with fail
    go_ret
    exact ⟨rfl, HF.out⟩
  have d3 : decide ((200 : Int) < (m : Int)) = false := decide_eq_false qd3
  by_cases qd4 : (60 : Int) < (k : Int)
  · have d4 : decide ((60 : Int) < (k : Int)) = true := decide_eq_true qd4
    clear qd4
    go_enter Try.func12, Try.ntmps12
    go_wp2_with fail
    refine (HAW.out _).mono ?_
    rintro e w1 ⟨rfl, hb⟩
    have HF := Lib.hid (bel_trans S0.out hb)
    clear hb
    go_wp2_with fail
    go_ret
    exact ⟨rfl, HF.out⟩
  have d4 : decide ((60 : Int) < (k : Int)) = false := decide_eq_false qd4
  have HNN : Hid (n ≤ 60 ∧ m ≤ 200 ∧ k ≤ 60) := by unfold Hid; omega
  have HX := Lib.hid (boxg w0 N A n c)
  have HE := Lib.hid h
  have HL := Lib.hid hl
  have HS := Lib.hid hs
  clear h hl hs qd1 qd2 qd3 qd4
  go_enter Try.func12, Try.ntmps12
  go_wp2_with fail
  clear d1 d2 d3 d4
  generalize w0.alloc (gcells N A n c) = w1 at *
  refine (ownI_any (c := d) 71 w1 (HL.out.below S0.out) (by have := HNN.out; omega)).mono ?_
  rintro e w2 ⟨ga, rfl, RA, hga, s1⟩
  have S1 : Hid (RW w1 w2) := s1
  have HX2 := Lib.hid (later2 s1 HX.out)
  clear s1 hga
  go_wp2_with fail
  refine (ownE_any (c := kc) 71 0 w2 (HS.out.below (bel_trans S0.out S1.out)) (by have := HNN.out; omega)).mono ?_
  rintro e w3 ⟨gb, rfl, RB, hgb, s2⟩
  have S2 : Hid (RW w2 w3) := s2
  have HX3 := Lib.hid (later2 s2 HX2.out)
  have RA3 := Lib.hid (RA.out.later S2.out)
  have HB3 := Lib.hid (bel_trans (bel_trans S0.out S1.out) S2.out)
  have HE3 := Lib.hid (HE.out.below HB3.out)
  have HL3 := Lib.hid (HL.out.below HB3.out)
  have HS3 := Lib.hid (HS.out.below HB3.out)
  have HPA := Lib.hid (padI_read RA3.out HL.out.1 (by have := HNN.out; omega))
  have HPB := Lib.hid (padE_read RB.out HS.out.1 (by have := HNN.out; omega))
  clear s2 hgb
  obtain ⟨x0, x1⟩ := HX3.out
  go_wp2_with fail
  refine (mof_any (c := c) (d := k + 3) N w3 HE3.out HPB.out).mono ?_
  rintro e w4 ⟨v4, rfl, o4, hb4⟩
  obtain ⟨A4, c4, rfl, -, -, hr4⟩ := OwnI.read o4
  have HR4 := Lib.hid hr4
  have HB4 := Lib.hid hb4
  obtain ⟨y0, y1⟩ := later2 hb4 HX3.out
  clear o4 hr4 hb4 x0 x1
  go_wp2_with fail
  refine (rof_any (c := c) (d := kc) N w4 (HE3.out.below HB4.out) (HS3.out.below HB4.out)).mono ?_
  rintro e w5 ⟨v5, rfl, o5, hb5⟩
  obtain ⟨A5, c5, rfl, -, -, hr5⟩ := OwnI.read o5
  have HR5 := Lib.hid hr5
  have HR45 := Lib.hid (HR4.out.below hb5)
  have HB5 := Lib.hid (bel_trans HB4.out hb5)
  have HX5 := Lib.hid (later2 HB5.out HX3.out)
  have HBB := Lib.hid (bel_trans HB3.out HB5.out)
  have HE5 := Lib.hid (HE3.out.below HB5.out)
  have HL5 := Lib.hid (HL3.out.below HB5.out)
  have HS5 := Lib.hid (HS3.out.below HB5.out)
  have HPA5 := Lib.hid (HPA.out.below HB5.out)
  have RA5 := Lib.hid (RA3.out.later HB5.out)
  have RB5 := Lib.hid (RB.out.later HB5.out)
  clear o5 hr5 hb5 y0 y1
  have hma : ∀ W, RW w5 W → Calls Try.prog 47 #[.agg #[.int .i64 N, .slice A n c], .slice (some ⟨ga, 0, none⟩) m (m + 3)] W fun e w' => e = .returned (.bool (rightM N es l)) ∧ Below W.heap.size W w' := fun W r => mright_any (c := c) (d := m + 3) N W (HE5.out.below r) (HPA5.out.below r)
  have hmr : ∀ W, RW w5 W → Calls Try.prog 41 #[.agg #[.int .i64 N, .slice A n c], .slice B m d] W fun e w' => e = .returned (.bool (rightM N es l)) ∧ Below W.heap.size W w' := fun W r => rright_any (c := c) (d := d) N W (HE5.out.below r) (HL5.out.below r)
  cases hf : rightM N es l
  all_goals
    rw [hf] at hma hmr
    have HMA := Lib.hid hma
    have HMR := Lib.hid hmr
    clear hma hmr hf
    go_wp2_with fail
    go_region_held3 (fun w' => w'.cell? ⟨w0.heap.size, 0, none⟩ = some (.int .i64 N) ∧ w'.cell? ⟨w0.heap.size, 1, none⟩ = some (.slice A n c) ∧ RW w5 w')
      (first | assumption | exact RW.two HX5.out (RW.refl w5) | exact RW.two HX5.out (RW.refl w5).drew | exact RW.two HX5.out (RW.later (And.right (And.right (by assumption))) hb9) | exact RW.two HX5.out (RW.later (And.right (And.right (by assumption))) hb10) | exact RW.two HX5.out (RW.later (And.right (And.right (by assumption))) hb11) | exact RW.two HX5.out (RW.later (And.right (And.right (by assumption))) hb12) | exact RW.two HX5.out (RW.later (And.right (And.right (by assumption))) hb13) | exact RW.two HX5.out (RW.later (And.right (And.right (by assumption))) hb14) | exact RW.two HX5.out (RW.later (And.right (And.right (by assumption))) hb15) | exact RW.two HX5.out (RW.later (And.right (And.right (by assumption))) hb16) | exact RW.two HX5.out (RW.later (And.right (And.right (by assumption))) hb17) | exact RW.two HX5.out (RW.later (And.right (And.right (by assumption))) hb18) | exact RW.two HX5.out (RW.later (And.right (And.right (by assumption))) hb19) | exact RW.two HX5.out (RW.later (And.right (And.right (by assumption))) hb20) | exact RW.two HX5.out (RW.later (And.right (And.right (by assumption))) hb21) | exact RW.two HX5.out (RW.later (And.right (And.right (by assumption))) hb22) | exact RW.two HX5.out (RW.later (And.right (And.right (by assumption))) hb23) | exact RW.two HX5.out (RW.later (And.right (And.right (by assumption))) hb24) | exact RW.two HX5.out (RW.later (And.right (And.right (by assumption))) hb25) | fail)
      (first
        | (go_at_call 46; refine (HAW.out _).mono ?_; rintro e w9 ⟨rfl, hb9⟩)
        | (go_at_call 47; refine (HMA.out _ (And.right (And.right (by assumption)))).mono ?_; rintro e w10 ⟨rfl, hb10⟩)
        | (go_at_call 41; refine (HMR.out _ (And.right (And.right (by assumption)))).mono ?_; rintro e w11 ⟨rfl, hb11⟩)
        | (go_at_call 50; refine (msize_any (c := m + 3) _ (HPA5.out.below (And.right (And.right (by assumption)))) (by have := HNN.out; omega)).mono ?_; rintro e w12 ⟨rfl, hb12⟩)
        | (go_at_call 42; refine (rsize_any (c := d) _ (HL5.out.below (And.right (And.right (by assumption)))) (by have := HNN.out; omega)).mono ?_; rintro e w13 ⟨rfl, hb13⟩)
        | (go_at_call 52; refine (mFree_any (c := m + 3) _ (HPA5.out.below (And.right (And.right (by assumption)))) (by have := HNN.out; omega)).mono ?_; rintro e w14 ⟨v14, rfl, o14, hb14⟩; obtain ⟨A14, c14, rfl, -, -, rd14⟩ := OwnI.read o14; have RD14 := Lib.hid rd14; clear o14 rd14)
        | (go_at_call 53; refine (rFree_any (c := d) _ (HL5.out.below (And.right (And.right (by assumption)))) (by have := HNN.out; omega)).mono ?_; rintro e w15 ⟨v15, rfl, o15, hb15⟩; obtain ⟨A15, c15, rfl, -, -, rd15⟩ := OwnI.read o15; have RD15 := Lib.hid rd15; clear o15 rd15)
        | (go_at_call_of 23 A14; refine (plain_same _ (RD14.out.below hb15) RD15.out).mono ?_; rintro e w16 ⟨rfl, hb16⟩)
        | (go_at_call 48; refine (medges_any (c := m + 3) _ (HPA5.out.below (And.right (And.right (by assumption)))) (by have := HNN.out; omega)).mono ?_; rintro e w17 ⟨v17, rfl, o17, hb17⟩; obtain ⟨A17, c17, rfl, -, -, rd17⟩ := OwnE.read o17; have RD17 := Lib.hid rd17; clear o17 rd17)
        | (go_at_call 55; refine (redges_any (c := d) _ (HL5.out.below (And.right (And.right (by assumption)))) (by have := HNN.out; omega)).mono ?_; rintro e w18 ⟨v18, rfl, o18, hb18⟩; obtain ⟨A18, c18, rfl, -, -, rd18⟩ := OwnE.read o18; have RD18 := Lib.hid rd18; clear o18 rd18)
        | (go_at_call 54; refine (plainE_same _ (RD17.out.below hb18) RD18.out).mono ?_; rintro e w19 ⟨rfl, hb19⟩)
        | (go_at_call 56; refine (matesNone_any (c := c) N _ (HE5.out.below (And.right (And.right (by assumption))))).mono ?_; rintro e w20 ⟨v20, rfl, o20, hb20⟩; obtain ⟨A20, c20, rfl, -, -, rd20⟩ := OwnI.read o20; have RD20 := Lib.hid rd20; clear o20 rd20)
        | (go_at_call 57; refine (noneR_any (c := c) N _ (HE5.out.below (And.right (And.right (by assumption))))).mono ?_; rintro e w21 ⟨v21, rfl, o21, hb21⟩; obtain ⟨A21, c21, rfl, -, -, rd21⟩ := OwnI.read o21; have RD21 := Lib.hid rd21; clear o21 rd21)
        | (go_at_call_of 23 A20; refine (plain_same _ (RD20.out.below hb21) RD21.out).mono ?_; rintro e w22 ⟨rfl, hb22⟩)
        | (go_at_call_of 23 A4; refine (plain_same _ (HR45.out.below (And.right (And.right (by assumption)))) (HR5.out.below (And.right (And.right (by assumption))))).mono ?_; rintro e w23 ⟨rfl, hb23⟩)
        | (go_at_call 34; refine (keptI_any (c := d) 71 _ (HL5.out.below (And.right (And.right (by assumption)))) (RA5.out.later (And.right (And.right (by assumption)))) (by have := HNN.out; omega)).mono ?_; rintro e w24 ⟨rfl, hb24⟩)
        | (go_at_call 35; refine (keptE_any2 (c := kc) 71 0 _ (HS5.out.below (And.right (And.right (by assumption)))) (RB5.out.later (And.right (And.right (by assumption)))) (by have := HNN.out; omega)).mono ?_; rintro e w25 ⟨rfl, hb25⟩)
        | fail)
    have hfin : RW w5 w25 := And.right (And.right (by assumption))
    have HF := Lib.hid (bel_trans HBB.out hfin)
    go_wp2_with fail
    go_ret
    exact ⟨rfl, HF.out⟩

theorem matesTell_walk {A B C : Option Addr} {n c m d k kc : Nat} {es ls : List Ed} {l : List Int} {N : Int} (w : World) (h : ReadE w A n es ∧ n ≤ c) (hl : ReadI w B m l) (hs : ReadE w C k ls ∧ k ≤ kc) :
    Calls Try.prog 12 #[.agg #[.int .i64 N, .slice A n c], .slice B m d, .slice C k kc] w fun e w' => e = .returned (.bool true) ∧ Below w.heap.size w w' := matesTell_any N w h.1 hl hs.1

end Go.Proofs.Ytnldfjoadmehcaa
