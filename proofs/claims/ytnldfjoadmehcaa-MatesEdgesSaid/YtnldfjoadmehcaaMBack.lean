/- The walk of the statement MatesBack. -/
import Derived.Test.YtnldfjoadmehcaaAwake8
import Derived.Test.YtnldfjoadmehcaaPMates
import Derived.Test.YtnldfjoadmehcaaMatesLaw
set_option linter.unusedVariables false
set_option linter.unusedSimpArgs false
namespace Go.Proofs.Ytnldfjoadmehcaa
open Go.RowKit

/-- A graph in a variable, and its matching. -/
theorem small_open {A : Option Addr} {n c : Nat} {zs : List Int} (N V E : Int) (w : World) (h : ReadI w A n zs) (hV : 0 ≤ V ∧ V ≤ 1000) (hE : 0 ≤ E ∧ E ≤ 1000) :
    Calls Try.prog 18 #[.int .i64 N, .slice A n c, .int .i64 V, .int .i64 E] w fun e w' => ∃ (M l k : Nat) (B : Option Addr) (es : List Ed), e = .returned (.agg #[.int .i64 M, .slice B l k]) ∧ (M : Int) ≤ V ∧ (es.length : Int) ≤ E ∧ rightB M es = true ∧ ReadE w' B l es ∧ l ≤ k ∧ Below w.heap.size w w' :=
  (small_any (c := c) N V E w h hV hE).mono fun e w' ⟨g, m, es, he, h0, h1, h2, h3, v, hg, ho, hb⟩ => by
    obtain ⟨B, k, hv, hk, -, hr⟩ := OwnE.read ho
    refine ⟨m.toNat, es.length, k, B, es, ?_, by omega, by omega, ?_, hr, hk, hb⟩
    · rw [he, hg, hv, Int.toNat_of_nonneg h0]
    · rw [Int.toNat_of_nonneg h0]
      exact h3

set_option maxHeartbeats 16000000 in
set_option maxRecDepth 100000 in
theorem matesBack_any {A B : Option Addr} {n c m d : Nat} {zs ps : List Int} (k : Int) (w0 : World) (h : ReadI w0 A n zs) (hp : ReadI w0 B m ps) :
    Calls Try.prog 13 #[.int .i64 k, .slice A n c, .slice B m d] w0 fun e w' => e = .returned (.bool true) ∧ Below w0.heap.size w0 w' := by
  have HAW : Hid (∀ W, Calls Try.prog 46 #[] W fun e w' => e = .returned (.bool true) ∧ Below W.heap.size W w') := fun W => awake8_any W
  have hsm := small_open (c := c) k 16 40 w0 h (by decide) (by decide)
  have HP := Lib.hid hp
  clear h hp
  go_enter Try.func13, Try.ntmps13
  go_wp2_with fail
  refine hsm.mono ?_
  rintro e w1 ⟨M, l1, k1, A1, es, rfl, hMV, hEE, hR, hrd, hlk, hb1⟩
  have HRB := Lib.hid hR
  have HRI := Lib.hid (rightB_iff.1 hR).2.2.2
  have HB2 := Lib.hid (bel_trans hb1 (bel_alloc w1 (gcells M A1 l1 k1)))
  have HX := Lib.hid (boxg w1 M A1 l1 k1)
  have HE := Lib.hid (hrd.below (bel_alloc w1 (gcells M A1 l1 k1)))
  have HM : Hid (M ≤ 16) := by unfold Hid; omega
  clear hsm hR hrd hb1 hEE hMV hlk
  obtain ⟨x0, x1⟩ := HX.out
  go_wp2_with fail
  clear x0 x1
  generalize w1.alloc (gcells M A1 l1 k1) = w2 at *
  refine (pmates_any (c := k1) (d := d) w2 HE.out HRB.out (HP.out.below HB2.out)).mono ?_
  rintro e w3 ⟨v3, ms, rfl, o3, hmt, hb3⟩
  obtain ⟨A3, c3, rfl, -, -, hr3⟩ := OwnI.read o3
  have hlm : ms.length = M := hmt.1
  rw [hlm] at hr3 ⊢
  have HR3 := Lib.hid hr3
  have HMT := Lib.hid hmt
  have HX3 := Lib.hid (later2 hb3 HX.out)
  have HE3 := Lib.hid (HE.out.below hb3)
  have HB3 := Lib.hid (bel_trans HB2.out hb3)
  clear o3 hr3 hmt hb3 hlm
  go_wp2_with fail
  refine (medges_any (c := c3) w3 HR3.out (by have := HM.out; omega)).mono ?_
  rintro e w4 ⟨v4, rfl, o4, hb4⟩
  obtain ⟨A4, c4, rfl, -, -, hr4⟩ := OwnE.read o4
  have HR4 := Lib.hid hr4
  have HR34 := Lib.hid (HR3.out.below hb4)
  have HX4 := Lib.hid (later2 hb4 HX3.out)
  have HE4 := Lib.hid (HE3.out.below hb4)
  have HB4 := Lib.hid (bel_trans HB3.out hb4)
  obtain ⟨x0, x1⟩ := HX4.out
  clear o4 hr4 hb4
  go_wp2_with fail
  have hof := mof_any (c := k1) (d := c4) (M : Int) w4 HE4.out HR4.out
  rw [ofP_edges HRB.out HMT.out] at hof
  refine hof.mono ?_
  rintro e w5 ⟨v5, rfl, o5, hb5⟩
  obtain ⟨A5, c5, rfl, -, -, hr5⟩ := OwnI.read o5
  simp only [] at hr5 ⊢
  have HR5 := Lib.hid hr5
  have HRM5 := Lib.hid (HR34.out.below hb5)
  have HX5 := Lib.hid (later2 hb5 HX4.out)
  have HE5 := Lib.hid (HE4.out.below hb5)
  have HB5 := Lib.hid (bel_trans HB4.out hb5)
  clear o5 hr5 hb5 x0 x1 hof
  have HRT : Hid (∀ W, RW w5 W → Calls Try.prog 47 #[.agg #[.int .i64 M, .slice A1 l1 k1], .slice A3 M c3] W fun e w' => e = .returned (.bool true) ∧ Below W.heap.size W w') := fun W r => by
    have := mright_any (c := k1) (d := c3) (M : Int) W (HE5.out.below r) (HRM5.out.below r)
    rw [rightM_iff.2 ⟨HRB.out, HMT.out⟩] at this
    exact this
  have hct := match_count HRI.out HMT.out
  have hf1 : IntKind.i64.wrap (2 * ((edgesM ms).length : Int)) = 2 * ((edgesM ms).length : Int) := by rw [IntKind.wrap_i64]; have := HM.out; omega
  have hf2 : IntKind.i64.wrap (2 * ((edgesM ms).length : Int) + ((sel (freeB ms) M).length : Int)) = (M : Int) := by rw [IntKind.wrap_i64]; have := HM.out; omega
  clear hct
  go_wp2_with fail
  go_region_held3 (fun w' => w'.cell? ⟨w1.heap.size, 0, none⟩ = some (.int .i64 M) ∧ w'.cell? ⟨w1.heap.size, 1, none⟩ = some (.slice A1 l1 k1) ∧ RW w5 w')
    (first | assumption | exact RW.two HX5.out (RW.refl w5) | exact RW.two HX5.out (RW.refl w5).drew | exact RW.two HX5.out (RW.later (And.right (And.right (by assumption))) hb9) | exact RW.two HX5.out (RW.later (And.right (And.right (by assumption))) hb10) | exact RW.two HX5.out (RW.later (And.right (And.right (by assumption))) hb11) | exact RW.two HX5.out (RW.later (And.right (And.right (by assumption))) hb12) | exact RW.two HX5.out (RW.later (And.right (And.right (by assumption))) hb13) | fail)
    (first
      | (go_at_call 46; refine (HAW.out _).mono ?_; rintro e w9 ⟨rfl, hb9⟩)
      | (go_at_call 47; refine (HRT.out _ (And.right (And.right (by assumption)))).mono ?_; rintro e w10 ⟨rfl, hb10⟩)
      | (go_at_call 23; refine (plain_same _ (HR5.out.below (And.right (And.right (by assumption)))) (HRM5.out.below (And.right (And.right (by assumption))))).mono ?_; rintro e w11 ⟨rfl, hb11⟩)
      | (go_at_call 50; refine (msize_any (c := c3) _ (HRM5.out.below (And.right (And.right (by assumption)))) (by have := HM.out; omega)).mono ?_; rintro e w12 ⟨rfl, hb12⟩)
      | (go_at_call 52; refine (mFree_any (c := c3) _ (HRM5.out.below (And.right (And.right (by assumption)))) (by have := HM.out; omega)).mono ?_; rintro e w13 ⟨v13, rfl, o13, hb13⟩; obtain ⟨A13, c13, rfl, -, -, -⟩ := OwnI.read o13)
      | fail)
  all_goals
    have hfin : RW w5 w13 := And.right (And.right (by assumption))
    have HF := Lib.hid (bel_trans HB5.out hfin)
    clear hf1 hf2
    go_wp2_with fail
    go_ret
    exact ⟨rfl, HF.out⟩

theorem matesBack_walk {A B : Option Addr} {n c m d : Nat} {zs ps : List Int} (k : Int) (w : World) (_ : -9223372036854775808 ≤ k ∧ k ≤ 9223372036854775807) (h : ReadI w A n zs) (hp : ReadI w B m ps) :
    Calls Try.prog 13 #[.int .i64 k, .slice A n c, .slice B m d] w fun e w' => e = .returned (.bool true) ∧ Below w.heap.size w w' := matesBack_any k w h hp

end Go.Proofs.Ytnldfjoadmehcaa
