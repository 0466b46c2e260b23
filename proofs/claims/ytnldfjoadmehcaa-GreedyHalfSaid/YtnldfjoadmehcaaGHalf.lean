/- The walk of the statement GreedyHalf. -/
import Derived.Test.YtnldfjoadmehcaaAwake10
import Derived.Test.YtnldfjoadmehcaaTable
set_option linter.unusedVariables false
set_option linter.unusedSimpArgs false
namespace Go.Proofs.Ytnldfjoadmehcaa
open Go.RowKit

/-- A graph that Small makes. -/
theorem small_open {A : Option Addr} {n c : Nat} {zs : List Int} (N V E : Int) (w : World) (h : ReadI w A n zs) (hV : 0 ≤ V ∧ V ≤ 1000) (hE : 0 ≤ E ∧ E ≤ 1000) :
    Calls Try.prog 18 #[.int .i64 N, .slice A n c, .int .i64 V, .int .i64 E] w fun e w' => ∃ (M l k : Nat) (B : Option Addr) (es : List Ed), e = .returned (.agg #[.int .i64 M, .slice B l k]) ∧ (M : Int) ≤ V ∧ (es.length : Int) ≤ E ∧ rightB M es = true ∧ ReadE w' B l es ∧ l ≤ k ∧ Below w.heap.size w w' :=
  (small_any (c := c) N V E w h hV hE).mono fun e w' ⟨g, m, es, he, h0, h1, h2, h3, v, hg, ho, hb⟩ => by
    obtain ⟨B, k, hv, hk, -, hr⟩ := OwnE.read ho
    refine ⟨m.toNat, es.length, k, B, es, ?_, by omega, by omega, ?_, hr, hk, hb⟩
    · rw [he, hg, hv, Int.toNat_of_nonneg h0]
    · rw [Int.toNat_of_nonneg h0]
      exact h3
theorem firstL_length {N : Nat} {es : List Ed} (h : rightB N es = true) : (firstL N es).length = N := by
  unfold firstL
  rw [h, if_pos rfl, firstTo_length, Int.toNat_natCast]
theorem cov_pair {N : Nat} {es : List Ed} {ms : List Int} (hr : Rise N es) (h : MatchN N es ms) : (sel (fun v => decide (0 ≤ gi ms v)) N).length = 2 * (edgesM ms).length := by
  have h1 := pair_len ms
  rw [h.1] at h1
  rw [← h1]
  congr 1
  refine sel_congr fun v hv => ?_
  have hf := pair_free hr h hv
  unfold freeB at hf
  by_cases q : 0 ≤ gi ms v
  · rw [decide_eq_true q]
    have : (gi ms v == -1) = false := by simp; omega
    rw [this] at hf
    cases hp : pairB ms v
    · rw [hp] at hf
      cases hf
    · rfl
  · rw [decide_eq_false q]
    have : (gi ms v == -1) = true := by simp; exact match_out h hv q
    rw [this] at hf
    cases hp : pairB ms v
    · rfl
    · rw [hp] at hf
      cases hf

set_option maxHeartbeats 16000000 in
set_option maxRecDepth 100000 in
theorem greedyHalf_any {A : Option Addr} {n c : Nat} {zs : List Int} (k : Int) (w0 : World) (h : ReadI w0 A n zs) :
    Calls Try.prog 8 #[.int .i64 k, .slice A n c] w0 fun e w' => e = .returned (.bool true) ∧ Below w0.heap.size w0 w' := by
  have HAW : Hid (∀ W, Calls Try.prog 36 #[] W fun e w' => e = .returned (.bool true) ∧ Below W.heap.size W w') := fun W => awake10_any W
  have hsm := small_open (c := c) k 10 30 w0 h (by decide) (by decide)
  clear h
  go_enter Try.func8, Try.ntmps8
  go_wp2_with fail
  refine hsm.mono ?_
  rintro e w1 ⟨N, l1, q1, A1, es, rfl, hNV, hEE, hR, hrd, hlk, hb1⟩
  have HRB := Lib.hid hR
  have HRI := Lib.hid (rightB_iff.1 hR).2.2.2
  have HB2 := Lib.hid (bel_trans hb1 (bel_alloc w1 (gcells N A1 l1 q1)))
  have HX := Lib.hid (boxg w1 N A1 l1 q1)
  have HE := Lib.hid (hrd.below (bel_alloc w1 (gcells N A1 l1 q1)))
  have HN : Hid (N ≤ 10) := by unfold Hid; omega
  clear hsm hR hrd hb1 hEE hNV hlk
  obtain ⟨x0, x1⟩ := HX.out
  go_wp2_with fail
  clear x0 x1
  generalize w1.alloc (gcells N A1 l1 q1) = w2 at *
  refine (first_any (c := q1) (N : Int) w2 HE.out).mono ?_
  rintro e w3 ⟨v3, rfl, o3, hb3⟩
  obtain ⟨A3, c3, rfl, -, -, hr3⟩ := OwnI.read o3
  rw [firstL_length HRB.out] at hr3 ⊢
  obtain ⟨hmt, hfu, hco⟩ := first_all HRB.out
  generalize firstL N es = ms at *
  have HR3 := Lib.hid hr3
  have HMT := Lib.hid hmt
  have HFU := Lib.hid hfu
  have HCO := Lib.hid hco
  have HX3 := Lib.hid (later2 hb3 HX.out)
  have HE3 := Lib.hid (HE.out.below hb3)
  have HB3 := Lib.hid (bel_trans HB2.out hb3)
  clear o3 hr3 hb3 hmt hfu hco
  have HRT : Hid (∀ W, RW w3 W → Calls Try.prog 41 #[.agg #[.int .i64 N, .slice A1 l1 q1], .slice A3 N c3] W fun e w' => e = .returned (.bool true) ∧ Below W.heap.size W w') := fun W r => by
    have := rright_any (c := q1) (d := c3) (N : Int) W (HE3.out.below r) (HR3.out.below r)
    rw [rightM_iff.2 ⟨HRB.out, HMT.out⟩] at this
    exact this
  have HFT : Hid (∀ W, RW w3 W → Calls Try.prog 39 #[.agg #[.int .i64 N, .slice A1 l1 q1], .slice A3 N c3] W fun e w' => e = .returned (.bool true) ∧ Below W.heap.size W w') := fun W r => by
    have := full_any (c := q1) (d := c3) (N : Int) W (HE3.out.below r) (HR3.out.below r)
    rw [HFU.out] at this
    exact this
  have HNU : Hid (∀ W, RW w3 W → Calls Try.prog 43 #[.agg #[.int .i64 N, .slice A1 l1 q1]] W fun e w' => ∃ x : Int, e = .returned (.int .i64 x) ∧ Hid (x ≤ 2 * ((edgesM ms).length : Int)) ∧ Below W.heap.size W w') := fun W r => by
    have := number_any (c := q1) (fun v => decide (0 ≤ gi ms v)) W (HE3.out.below r) HRB.out HN.out (fun x y hxy => by
      rcases HCO.out x y hxy with q | q
      · exact .inl (decide_eq_true q)
      · exact .inr (decide_eq_true q))
    refine this.mono fun e w' ⟨x, h1, h2, h3, h4⟩ => ⟨x, h1, ?_, h4⟩
    rw [cov_pair HRI.out HMT.out] at h3
    unfold Hid
    omega
  have HLN : Hid ((edgesM ms).length ≤ 10) := by
    have := match_count HRI.out HMT.out
    have := HN.out
    unfold Hid
    omega
  have hf1 : IntKind.i64.wrap (2 * ((edgesM ms).length : Int)) = 2 * ((edgesM ms).length : Int) := by rw [IntKind.wrap_i64]; have := HLN.out; omega
  go_wp2_with fail
  go_region_held3 (fun w' => w'.cell? ⟨w1.heap.size, 0, none⟩ = some (.int .i64 N) ∧ w'.cell? ⟨w1.heap.size, 1, none⟩ = some (.slice A1 l1 q1) ∧ RW w3 w')
    (first | assumption | exact RW.two HX3.out (RW.refl w3) | exact RW.two HX3.out (RW.refl w3).drew | exact RW.two HX3.out (RW.later (And.right (And.right (by assumption))) hb9) | exact RW.two HX3.out (RW.later (And.right (And.right (by assumption))) hb10) | exact RW.two HX3.out (RW.later (And.right (And.right (by assumption))) hb11) | exact RW.two HX3.out (RW.later (And.right (And.right (by assumption))) hb12) | exact RW.two HX3.out (RW.later (And.right (And.right (by assumption))) hb13) | fail)
    (first
      | (go_at_call 36; refine (HAW.out _).mono ?_; rintro e w9 ⟨rfl, hb9⟩)
      | (go_at_call 41; refine (HRT.out _ (And.right (And.right (by assumption)))).mono ?_; rintro e w10 ⟨rfl, hb10⟩)
      | (go_at_call 39; refine (HFT.out _ (And.right (And.right (by assumption)))).mono ?_; rintro e w11 ⟨rfl, hb11⟩)
      | (go_at_call 42; refine (rsize_any (c := c3) _ (HR3.out.below (And.right (And.right (by assumption)))) (by have := HN.out; omega)).mono ?_; rintro e w12 ⟨rfl, hb12⟩)
      | (go_at_call 43; refine (HNU.out _ (And.right (And.right (by assumption)))).mono ?_; rintro e w13 ⟨x, rfl, hx13, hb13⟩; have dx : decide (x ≤ 2 * ((edgesM ms).length : Int)) = true := decide_eq_true hx13.out)
      | fail)
  all_goals
    have hfin : RW w3 w13 := And.right (And.right (by assumption))
    have HF := Lib.hid (bel_trans HB3.out hfin)
    clear hf1
    go_wp2_with fail
    go_ret
    exact ⟨rfl, HF.out⟩

theorem greedyHalf_walk {A : Option Addr} {n c : Nat} {zs : List Int} (k : Int) (w : World) (_ : -9223372036854775808 ≤ k ∧ k ≤ 9223372036854775807) (h : ReadI w A n zs) :
    Calls Try.prog 8 #[.int .i64 k, .slice A n c] w fun e w' => e = .returned (.bool true) ∧ Below w.heap.size w w' := greedyHalf_any k w h

end Go.Proofs.Ytnldfjoadmehcaa
