/- The walk of garlandref08.Right. -/
import Derived.Test.YtnldfjoadmehcaaMateRow
import Derived.Test.YtnldfjoadmehcaaMatesPure
set_option linter.unusedVariables false
set_option linter.unusedSimpArgs false
namespace Go.Proofs.Ytnldfjoadmehcaa
open Go.RowKit

theorem rightM_noG {N : Int} {es : List Ed} {ms : List Int} (h : rightB N es = false) : rightM N es ms = false := by unfold rightM; rw [h]; rfl
theorem rightM_len {N : Int} {es : List Ed} {ms : List Int} (h : (ms.length : Int) ≠ N) : rightM N es ms = false := by unfold rightM; simp [h]
theorem rightM_to {N : Int} {es : List Ed} {ms : List Int} (hr : rightB N es = true) (h : (ms.length : Int) = N) : rightM N es ms = rightTo N es ms ms.length := by unfold rightM; rw [hr]; simp [h]

set_option maxHeartbeats 8000000 in
set_option maxRecDepth 100000 in
theorem rright_any {A B : Option Addr} {n c m d : Nat} {es : List Ed} {ms : List Int} (N : Int) (w : World) (h : ReadE w A n es) (hl : ReadI w B m ms) :
    Calls Try.prog 41 #[.agg #[.int .i64 N, .slice A n c], .slice B m d] w fun e w' => e = .returned (.bool (rightM N es ms)) ∧ Below w.heap.size w w' := by
  have hb1 := bel_alloc w (gcells N A n c)
  have hr := right_any (c := c) N (w.alloc (gcells N A n c)) (h.below hb1)
  have HB1 := Lib.hid hb1
  have HX := Lib.hid (boxg w N A n c)
  have HE := Lib.hid h
  have HL := Lib.hid hl
  have HM := Lib.hid hl.1
  have hm9 := hl.2.1
  clear hb1 h hl
  go_enter Try.func41, Try.ntmps41
  obtain ⟨x0, x1⟩ := HX.out
  go_wp2_with fail
  refine hr.mono ?_
  rintro e w2 ⟨rfl, hb2⟩
  have HB2 := Lib.hid (bel_trans HB1.out hb2)
  have HX2 := Lib.hid (later2 hb2 HX.out)
  clear hb2 hr x0 x1
  cases hR : rightB N es
  · have HN : Hid (rightM N es ms = false) := rightM_noG hR
    clear hR
    go_wp2_with fail
    go_ret
    exact ⟨by rw [HN.out]; rfl, HB2.out⟩
  · obtain ⟨g0, g1, g2, g3⟩ := rightB_iff.1 hR
    obtain ⟨M, rfl⟩ : ∃ M : Nat, N = M := ⟨N.toNat, by omega⟩
    have hM : M ≤ 4096 := by omega
    have HRB := Lib.hid hR
    have HRI := Lib.hid g3
    clear hR g0 g1 g2 g3
    obtain ⟨x0, x1⟩ := HX2.out
    by_cases hlen : m = M
    · subst hlen
      have HTO : Hid (rightM m es ms = rightTo m es ms m) := by
        have := rightM_to HRB.out (ms := ms) (by rw [HM.out])
        rw [HM.out] at this
        exact this
      have hq : decide ((m : Int) = (m : Int)) = true := by simp
      go_wp2_with fail
      clear x0 x1
      go_loopw [5, 6] (fun i u wr => ∃ k : Nat, k ≤ m ∧ i = .int .i64 k ∧ Hid (rightTo m es ms k = true) ∧ Hid (RW w2 wr)) (fun i _ _ => m - (intOf i).toNat)
      case atStart => exact ⟨0, Nat.zero_le _, rfl, rfl, RW.refl w2⟩
      case round =>
        obtain ⟨k, hk, rfl, hto, hrw⟩ := hrel
        obtain ⟨y0, y1⟩ := later2 hrw.out HX2.out
        have HBR := Lib.hid (bel_trans HB2.out hrw.out)
        by_cases hlt : k < m
        · have HLT := Lib.hid hlt
          have HLR := Lib.hid (HL.out.below HBR.out)
          obtain ⟨b, o, rfl, hc⟩ := HLR.out.2.2 (by omega)
          have hck := hc k hlt
          have HSUC : Hid (∀ q, rightAt m es ms k = q → rightTo m es ms (k + 1) = q) := fun q hq => by rw [rightTo, hto.out, hq]; simp
          have HFAL : Hid (rightAt m es ms k = false → rightM m es ms = false) := fun hq => by rw [HTO.out]; exact rightTo_false hq HLT.out
          have HAT : Hid (rightAt m es ms k = (gi ms k == -1 || (hasB m es k (gi ms k) && gi ms (gi ms k).toNat == k))) := rfl
          generalize hx : gi ms k = x at *
          have HXX := Lib.hid hx
          clear hx
          have hki : (0 : Int) ≤ (k : Int) ∧ (k : Int) < (m : Int) := by omega
          by_cases q1 : x = -1
          · subst q1
            have HT : Hid (rightTo m es ms (k + 1) = true) := HSUC.out _ (by rw [HAT.out]; rfl)
            clear hc
            go_wp2_with fail
            go_roundw
            case rel => exact ⟨k + 1, by have := HLT.out; omega, by go_num, HT, hrw⟩
            case measure => have := HLT.out; simp [intOf]; omega
          · have q2 : (x == -1) = false := by simpa using q1
            have q3 : (x != -1) = true := by simp [q1]
            have HQ2 := Lib.hid q2
            have hhas := has2_any (N := m) (c := c) (k : Int) x wr (HE.out.below HBR.out)
            cases hh : hasB m es k x
            · have HF : Hid (rightM m es ms = false) := HFAL.out (by rw [HAT.out, HQ2.out, hh]; rfl)
              rw [hh] at hhas
              clear hh hc q1 q2
              go_wp2_with fail
              refine hhas.mono ?_
              rintro e w5 ⟨rfl, hb5⟩
              have HB5 := Lib.hid (bel_trans HBR.out hb5)
              go_wp2_with fail
              go_ret
              exact ⟨by rw [HF.out]; rfl, HB5.out⟩
            · obtain ⟨_, y, -, hxy, -, hy, -, -⟩ := has_ends HRB.out hh
              subst hxy
              have hcy := hc y hy
              have HCY := Lib.hid hcy
              rw [hh] at hhas
              have HHH := Lib.hid hh
              clear hh hc q1 q2 hcy
              go_wp2_with fail
              refine hhas.mono ?_
              rintro e w5 ⟨rfl, hb5⟩
              have HR5 := Lib.hid (RW.later hrw.out hb5)
              have HB5 := Lib.hid (bel_trans HBR.out hb5)
              have hcy := cell_later hb5 HCY.out
              have hyi : (0 : Int) ≤ (y : Int) ∧ (y : Int) < (m : Int) := by omega
              clear hb5 hhas
              generalize hz : gi ms y = z at *
              cases q5 : (z == (k : Int))
              · have q6 : (z != (k : Int)) = true := by simp [bne, q5]
                have HF : Hid (rightM m es ms = false) := HFAL.out (by rw [HAT.out, HQ2.out, HHH.out, Int.toNat_natCast, hz, q5]; rfl)
                clear hz
                go_wp2_with fail
                go_ret
                exact ⟨by rw [HF.out]; rfl, HB5.out⟩
              · have q6 : (z != (k : Int)) = false := by simp [bne, q5]
                have HT : Hid (rightTo m es ms (k + 1) = true) := HSUC.out _ (by rw [HAT.out, HQ2.out, HHH.out, Int.toNat_natCast, hz, q5]; rfl)
                clear hz
                go_wp2_with fail
                go_roundw
                case rel => exact ⟨k + 1, by have := HLT.out; omega, by go_num, HT, HR5⟩
                case measure => have := HLT.out; simp [intOf]; omega
        · obtain rfl : k = m := by omega
          have hd : decide ((k : Int) < (k : Int)) = false := by rw [decide_eq_false_iff_not]; omega
          clear hlt hk
          go_wp2_with fail
          go_ret
          exact ⟨by rw [HTO.out, hto.out]; rfl, HBR.out⟩
    · have HN : Hid (rightM M es ms = false) := rightM_len (by rw [HM.out]; omega)
      have hq : ((m : Int) == (M : Int)) = false := by simp; omega
      have hq2 : ((m : Int) != (M : Int)) = true := by simp; omega
      have hq3 : (m == M) = false := by simp; omega
      have hq4 : (m != M) = true := by simp; omega
      go_wp2_with fail
      go_ret
      exact ⟨by rw [HN.out]; rfl, HB2.out⟩

end Go.Proofs.Ytnldfjoadmehcaa
