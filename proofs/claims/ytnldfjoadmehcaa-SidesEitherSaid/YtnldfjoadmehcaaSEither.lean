/- The walk of the statement SidesEither. -/
import Derived.Test.YtnldfjoadmehcaaPSided
set_option linter.unusedVariables false
set_option linter.unusedSimpArgs false
namespace Go.Proofs.Ytnldfjoadmehcaa
open Go.RowKit

/-- Add of any two, as SidesEither needs it. -/
theorem add_or {M a b : Nat} {es : List Ed} {A : Option Addr} {l c : Nat} (hr : rightB (M : Int) es = true) (hc : l ≤ c) (W : World) (h : ReadE W A l es) :
    Calls Try.prog 64 #[.agg #[.int .i64 (M : Int), .slice A l c], .int .i64 (a : Int), .int .i64 (b : Int)] W fun e w' =>
      ∃ m' A' l' c' er, e = .returned (.tuple #[.agg #[.int .i64 m', .slice A' l' c'], .int .i64 er]) ∧ ((er == 0) = false ∨ (er = 0 ∧ m' = (M : Int) ∧ rightB (M : Int) (putE es (turnE a b)) = true ∧ ReadE w' A' l' (putE es (turnE a b)))) ∧ Below W.heap.size W w' := by
  refine (add_any (M : Int) a b W h hc).mono ?_
  rintro e w' ⟨g, rfl, v, rfl, own, hbl⟩
  obtain ⟨A', c', rfl, -, -, hrd⟩ := OwnE.read own
  refine ⟨_, _, _, _, _, rfl, ?_, hbl⟩
  by_cases h0 : (addP (M : Int) es a b).2.2 = 0
  · right
    obtain ⟨h1, h2, -⟩ := add_ok hr h0
    obtain ⟨h4, -⟩ := add_put hr h0
    rw [h4] at h2 hrd ⊢
    exact ⟨h0, h1, h2, hrd⟩
  · left
    simpa using h0

set_option maxHeartbeats 16000000 in
set_option maxRecDepth 100000 in
theorem sidesEither_any {A : Option Addr} {n c : Nat} {zs : List Int} (k0 l0 a0 b0 : Int) (w0 : World) (h : ReadI w0 A n zs) :
    Calls Try.prog 15 #[.int .i64 k0, .int .i64 l0, .slice A n c, .int .i64 a0, .int .i64 b0] w0 fun e w' => e = .returned (.bool true) ∧ Below w0.heap.size w0 w' := by
  have HAW : Hid (∀ W, Calls Try.prog 58 #[] W fun e w' => e = .returned (.bool true) ∧ Below W.heap.size W w') := fun W => awake4_any W
  have hsm := sided_open (c := c) k0 l0 w0 h
  clear h
  go_enter Try.func15, Try.ntmps15
  go_wp2_with fail
  refine hsm.mono ?_
  rintro e w1 ⟨M, l1, k1, A1, es, t, rfl, hM2, hM16, hR, hT, hrd, hlk, hb1⟩
  have HRB := Lib.hid hR
  have HRI := Lib.hid (rightB_iff.1 hR).2.2.2
  have HT := Lib.hid hT
  have HB2 := Lib.hid (bel_trans hb1 (bel_alloc w1 (gcells M A1 l1 k1)))
  have HX := Lib.hid (boxg w1 M A1 l1 k1)
  have HE := Lib.hid (hrd.below (bel_alloc w1 (gcells M A1 l1 k1)))
  have HM : Hid (2 ≤ M ∧ M ≤ 16) := ⟨hM2, hM16⟩
  have HLK := Lib.hid hlk
  have HEL := Lib.hid hrd.1
  have HL9 : Hid (l1 ≤ 65536) := by have := (rightB_iff.1 hR).2.2.1; have := hrd.1; unfold Hid; omega
  clear hsm hR hT hrd hb1 hM2 hM16 hlk
  obtain ⟨x0, x1⟩ := HX.out
  go_wp2_with fail
  generalize w1.alloc (gcells M A1 l1 k1) = w2 at *
  refine (sof_full (c := k1) (M : Int) w2 HE.out).mono ?_
  rintro e w3 ⟨A6, n6, c6, xs, A7, n7, c7, r, er, rfl, rx, rr, hc7, hpl, hb3⟩
  obtain ⟨q1, q2⟩ := two_yes HRB.out HT.out hpl
  subst q1
  obtain rfl : n6 = M := by rw [← rx.1]; exact q2.len
  have RX := Lib.hid rx
  have HT2 := Lib.hid q2
  have HX3 := Lib.hid (later2 hb3 HX.out)
  have HE3 := Lib.hid (HE.out.below hb3)
  have HB3 := Lib.hid (bel_trans HB2.out hb3)
  clear rx rr hc7 hpl hb3 q2 x0 x1
  go_wp2_with fail
  refine (HAW.out _).mono ?_
  rintro e w4 ⟨rfl, hb4⟩
  have HX4 := Lib.hid (later2 hb4 HX3.out)
  have HE4 := Lib.hid (HE3.out.below hb4)
  have RX4 := Lib.hid (RX.out.below hb4)
  have HB4 := Lib.hid (bel_trans HB3.out hb4)
  obtain ⟨x0, x1⟩ := HX4.out
  have HR0 : Hid (RW w4 w4) := RW.refl w4
  clear hb4
  go_wp2_with fail
  clear x0 x1
  go_loopw [15] (fun i wr => ∃ k : Nat, k ≤ l1 ∧ i = .int .i64 k ∧ Hid (RW w4 wr)) (fun i _ => l1 - (intOf i).toNat)
  case atStart => exact ⟨0, Nat.zero_le _, rfl, HR0⟩
  case round =>
    obtain ⟨j, hj, rfl, hrw⟩ := hrel
    obtain ⟨x0, x1⟩ := later2 hrw.out HX4.out
    by_cases hlt : j < l1
    · have HLT := Lib.hid hlt
      have HJ : j < 65536 := by have := HL9.out; omega
      have hje : j < es.length := by have := HEL.out; omega
      have hmem : ge es j ∈ es := by rw [ge_get hje]; exact List.getElem_mem _
      obtain ⟨x, y, he, hxy, hyM⟩ := edge_nat (HRI.out.1 _ hmem)
      rw [he] at hmem
      obtain ⟨t1, t2, t3⟩ := two_edge HRI.out HT2.out hmem
      obtain ⟨b, o, rfl, hc⟩ := (HE4.out.below hrw.out).2.2 (by omega)
      obtain ⟨hc1, hc2⟩ := hc j hlt
      rw [he] at hc1 hc2
      simp only [] at hc1 hc2
      obtain ⟨b6, o6, rfl, hs⟩ := (RX4.out.below hrw.out).2.2 (by omega)
      have hxM : x < n6 := by omega
      have cx := hs x hxM
      have cy := hs y hyM
      have hji : (0 : Int) ≤ (j : Int) ∧ (j : Int) < (l1 : Int) := by omega
      have hxi : (0 : Int) ≤ (x : Int) ∧ (x : Int) < (n6 : Int) := by omega
      have hyi : (0 : Int) ≤ (y : Int) ∧ (y : Int) < (n6 : Int) := by omega
      generalize gi xs x = p at *
      generalize gi xs y = s at *
      clear hc hs he hmem hxy hyM hxM hlt hje hj
      go_wp2_with fail
      go_region
      have HR1 : Hid (RW w4 wr.drew) := RW.drew hrw.out
      clear x0 x1 hc1 hc2 cx cy t1 t2 t3
      go_wp2_with fail
      go_roundw
      case rel => exact ⟨j + 1, by have := HLT.out; omega, by go_num, HR1⟩
      case measure => have := HLT.out; simp [intOf]; omega
    · obtain rfl : j = l1 := by omega
      have d : decide ((j : Int) < (j : Int)) = false := by rw [decide_eq_false_iff_not]; omega
      obtain ⟨a, haM, ha⟩ := idx_of a0 n6 (by have := HM.out; omega) (by have := HM.out; omega)
      obtain ⟨b, hbM, hb⟩ := idx_of b0 n6 (by have := HM.out; omega) (by have := HM.out; omega)
      have uM : IntKind.u64.wrap (n6 : Int) = (n6 : Int) := by rw [IntKind.wrap_u64]; have := HM.out; omega
      have nM : ¬ n6 = 0 := by have := HM.out; omega
      have ia : IntKind.i64.wrap (a : Int) = (a : Int) := by rw [IntKind.wrap_i64]; have := HM.out; omega
      have ib : IntKind.i64.wrap (b : Int) = (b : Int) := by rw [IntKind.wrap_i64]; have := HM.out; omega
      have HX5 := Lib.hid (later2 hrw.out HX4.out)
      have HE5 := Lib.hid (HE4.out.below hrw.out)
      have HB5 := Lib.hid (bel_trans HB4.out hrw.out)
      clear hlt hj hrw haM hbM
      go_wp2_with fail
      clear d
      go_quiet (fail)
      rename_i nq
      have HD : Hid (RW wr (wr.drewN nq)) := ((Drawn.refl wr).step nq).below _
      have HX6 := Lib.hid (later2 HD.out HX5.out)
      have HE6 := Lib.hid (HE5.out.below HD.out)
      have HB6 := Lib.hid (bel_trans HB5.out HD.out)
      clear x0 x1 ha hb uM nM ia ib
      generalize wr.drewN nq = w6 at *
      obtain ⟨x0, x1⟩ := HX6.out
      go_wp2_with fail
      refine (add_or (a := a) (b := b) (c := k1) HRB.out HLK.out w6 HE6.out).mono ?_
      rintro e w7 ⟨m7, A7', l7, c7', er, rfl, hor, hb7⟩
      have HB7 := Lib.hid (bel_trans (bel_trans HB6.out hb7) (bel_alloc w7 (gcells m7 A7' l7 c7')))
      rcases hor with her | ⟨rfl, rfl, hR7, hrd7⟩
      · clear hb7 x0 x1
        go_wp2_with fail
        go_ret
        exact ⟨rfl, HB7.out⟩
      · have HX7 := Lib.hid (boxg w7 (n6 : Int) A7' l7 c7')
        have HE7 := Lib.hid (hrd7.below (bel_alloc w7 (gcells n6 A7' l7 c7')))
        have HR7 := Lib.hid hR7
        clear hrd7 hb7 hR7 x0 x1
        obtain ⟨x0, x1⟩ := HX7.out
        go_wp2_with fail
        generalize w7.alloc (gcells n6 A7' l7 c7') = w8 at *
        refine (sof_full (c := c7') (n6 : Int) w8 HE7.out).mono ?_
        rintro e w9 ⟨A8, n8, c8, ys, A9, n9, c9, r9, er9, rfl, ry, rr, hc9, hpl, hb9⟩
        have HB9 := Lib.hid (bel_trans HB7.out hb9)
        have HX9 := Lib.hid (later2 hb9 HX7.out)
        have HE9 := Lib.hid (HE7.out.below hb9)
        have RR := Lib.hid rr
        have HC9 := Lib.hid hc9
        have hend := either_end HRB.out HR7.out HT.out hpl
        clear ry rr hc9 hpl hb9 x0 x1
        obtain ⟨x0, x1⟩ := HX9.out
        rcases hend with ⟨rfl, h0⟩ | ⟨rfl, hcb, hodd, hina, hinb⟩
        · obtain rfl : n9 = 0 := by rw [← RR.out.1]; exact h0
          clear h0
          go_wp2_with fail
          go_ret
          exact ⟨rfl, HB9.out⟩
        · have hn9 : n9 % 2 = 1 := by rw [← RR.out.1]; exact hodd
          have tm1 : ((n9 : Int)).tmod 2 = 1 := by rw [Int.tmod_eq_emod_of_nonneg (by omega)]; omega
          have tm2 : ((n9 : Int)) % 2 = 1 := by omega
          have hfi := riscyc_any (c := c7') (n6 : Int) w9 HE9.out RR.out HC9.out
          rw [hcb] at hfi
          have HIA : Hid (∀ W, RW w9 W → Calls Try.prog 26 #[.slice A9 n9 c9, .int .i64 (a : Int)] W fun e w' => e = .returned (.bool true) ∧ W = w') := fun W r => by
            have := in_any (c := c9) (a : Int) W (RR.out.below r)
            rw [decide_eq_true hina] at this
            exact this
          have HIB : Hid (∀ W, RW w9 W → Calls Try.prog 26 #[.slice A9 n9 c9, .int .i64 (b : Int)] W fun e w' => e = .returned (.bool true) ∧ W = w') := fun W r => by
            have := in_any (c := c9) (b : Int) W (RR.out.below r)
            rw [decide_eq_true hinb] at this
            exact this
          clear hcb hodd hn9 hina hinb
          go_wp2_with fail
          refine hfi.mono ?_
          rintro e w10 ⟨rfl, hb10⟩
          have HR10 : Hid (RW w9 w10) := hb10
          have HB10 := Lib.hid (bel_trans HB9.out hb10)
          clear hfi hb10 x0 x1
          go_wp2_with fail
          refine (HIA.out _ HR10.out).mono ?_
          rintro e w11 ⟨rfl, rfl⟩
          go_wp2_with fail
          refine (HIB.out _ HR10.out).mono ?_
          rintro e w12 ⟨rfl, rfl⟩
          go_wp2_with fail
          go_ret
          exact ⟨rfl, HB10.out⟩

theorem sidesEither_walk {A : Option Addr} {n c : Nat} {zs : List Int} (k l a b : Int) (w : World) (_ : -9223372036854775808 ≤ k ∧ k ≤ 9223372036854775807) (_ : -9223372036854775808 ≤ l ∧ l ≤ 9223372036854775807) (h : ReadI w A n zs) (_ : -9223372036854775808 ≤ a ∧ a ≤ 9223372036854775807) (_ : -9223372036854775808 ≤ b ∧ b ≤ 9223372036854775807) :
    Calls Try.prog 15 #[.int .i64 k, .int .i64 l, .slice A n c, .int .i64 a, .int .i64 b] w fun e w' => e = .returned (.bool true) ∧ Below w.heap.size w w' := sidesEither_any k l a b w h

end Go.Proofs.Ytnldfjoadmehcaa
