/- The walk of garlandref13.Table and Number. -/
import Derived.Test.YtnldfjoadmehcaaTablePure
import Derived.Test.YtnldfjoadmehcaaPMates
set_option linter.unusedVariables false
set_option linter.unusedSimpArgs false
namespace Go.Proofs.Ytnldfjoadmehcaa
open Go.RowKit

theorem pow_int {b k : Nat} (h : 2 ^ b ≤ k) : (0 : Int) ≤ (2 : Int) ^ b ∧ (2 : Int) ^ b ≤ (k : Int) := by
  have e : ((2 ^ b : Nat) : Int) = (2 : Int) ^ b := by simp
  rw [← e]
  exact ⟨Int.natCast_nonneg _, by exact_mod_cast h⟩
theorem pow_le10 {b N : Nat} (h : b < N) (hN : N ≤ 10) : 2 ^ b < 4096 ∧ 2 ^ b < 2 ^ N := by
  refine ⟨?_, Nat.pow_lt_pow_right (by decide) h⟩
  have : 2 ^ b ≤ 2 ^ 11 := Nat.pow_le_pow_right (by decide) (by omega)
  omega

theorem shr_bit (s v : Nat) (hs : s < 4096) : bits .and .i64 ((s : Int) / (2 : Int) ^ v) 1 = if s.testBit v then 1 else 0 := by
  have e : (s : Int) / (2 : Int) ^ v = ((s / 2 ^ v : Nat) : Int) := by simp
  have h := and_nat (s / 2 ^ v) 1 (Nat.lt_of_le_of_lt (Nat.div_le_self _ _) hs) (by decide)
  have h1 : ((1 : Nat) : Int) = 1 := rfl
  rw [h1] at h
  rw [e, h, Nat.and_one_is_mod, bit_div]
  have := Nat.mod_two_eq_zero_or_one (s / 2 ^ v)
  rcases this with q | q <;> simp [q]

set_option maxHeartbeats 16000000 in
set_option maxRecDepth 100000 in
theorem table_any {A : Option Addr} {n c N : Nat} {es : List Ed} (cov : Nat → Bool) (w : World) (h : ReadE w A n es) (hr : rightB N es = true) (hN : N ≤ 10) (hcov : ∀ x y : Nat, ((x : Int), (y : Int)) ∈ es → cov x = true ∨ cov y = true) :
    Calls Try.prog 80 #[.agg #[.int .i64 N, .slice A n c]] w fun e w' => ∃ v T, e = .returned v ∧ OwnI w' w.heap.size v T ∧ T.length = 2 ^ N ∧ TabOk cov N T (2 ^ N) ∧ Below w.heap.size w w' := by
  obtain ⟨r1, r2, r3, r4⟩ := rightB_iff.1 hr
  have hn9 := h.2.1
  have hb1 := bel_alloc w (gcells N A n c)
  have HX := Lib.hid (boxg w N A n c)
  have HB1 := Lib.hid hb1
  have HE := Lib.hid h
  have HRI := Lib.hid r4
  have HEL := Lib.hid h.1
  have HCV := Lib.hid hcov
  have HS1 : Hid ((w.alloc (gcells N A n c)).heap.size = w.heap.size + 1) := by simp [Hid]
  clear h hr hb1 r1 r2 r3 r4 hcov
  have hmk := run_make_row' 22 3 (.int .i64 0) 8 Try.underlying22 (by kernel_rfl) rfl .i64 .i64 N (by omega) (by omega) (w.alloc (gcells N A n c))
  obtain ⟨x0, x1⟩ := HX.out
  go_enter Try.func80, Try.ntmps80
  go_wp2_with fail
  clear hmk x0 x1
  have hmo := made_own (w.alloc (gcells N A n c)) N (by omega)
  have HB2 := Lib.hid (bel_trans HB1.out (bel_alloc (w.alloc (gcells N A n c)) (.cells (madeCells #[.int .i64 0] N) 3)))
  have HX2 := Lib.hid (later2 (bel_alloc (w.alloc (gcells N A n c)) (.cells (madeCells #[.int .i64 0] N) 3)) HX.out)
  rw [HS1.out] at hmo
  have HO2 : Hid (∃ ns, OwnI ((w.alloc (gcells N A n c)).alloc (.cells (madeCells #[.int .i64 0] N) 3)) (w.heap.size + 1) (.slice (some ⟨w.heap.size + 1, 0, none⟩) N N) ns ∧ MaskOk es N ns) := ⟨_, hmo, mask_zero es N⟩
  generalize (w.alloc (gcells N A n c)).alloc (.cells (madeCells #[.int .i64 0] N) 3) = w2 at *
  have HBX : Hid (Below w.heap.size w w2 ∧ w2.cell? ⟨w.heap.size, 0, none⟩ = some (.int .i64 N) ∧ w2.cell? ⟨w.heap.size, 1, none⟩ = some (.slice A n c)) := ⟨HB2.out, HX2.out⟩
  clear hmo
  go_loopw [4, 5, 6] (fun i _ _ wr => ∃ k : Nat, k ≤ n ∧ i = .int .i64 k ∧ Hid (∃ ns, OwnI wr (w.heap.size + 1) (.slice (some ⟨w.heap.size + 1, 0, none⟩) N N) ns ∧ MaskOk es N ns) ∧ Hid (Below w.heap.size w wr ∧ wr.cell? ⟨w.heap.size, 0, none⟩ = some (.int .i64 N) ∧ wr.cell? ⟨w.heap.size, 1, none⟩ = some (.slice A n c))) (fun i _ _ _ => n - (intOf i).toNat)
  case atStart => exact ⟨0, Nat.zero_le _, rfl, HO2, HBX⟩
  case round =>
    obtain ⟨k, hk, rfl, hown, hb⟩ := hrel
    obtain ⟨x0, x1⟩ := hb.out.2
    by_cases hlt : k < n
    · have HLT := Lib.hid hlt
      obtain ⟨b, o, rfl, hc⟩ := (HE.out.below hb.out.1).2.2 (by omega)
      obtain ⟨hc1, hc2⟩ := hc k hlt
      have hke : k < es.length := by have := HEL.out; omega
      obtain ⟨x, y, he, hxy, hyM⟩ := edge_nat (HRI.out.1 _ (show ge es k ∈ es by rw [ge_get hke]; exact List.getElem_mem _))
      have HMEM : Hid (((x : Int), (y : Int)) ∈ es) := by rw [← he, ge_get hke]; exact List.getElem_mem _
      rw [he] at hc1 hc2
      simp only [] at hc1 hc2
      have hxM : x < N := by omega
      have HXY := Lib.hid (And.intro hxM (And.intro hyM hxy))
      have hki : (0 : Int) ≤ (k : Int) ∧ (k : Int) < (n : Int) := by omega
      have hxi : (0 : Int) ≤ (x : Int) ∧ (x : Int) < (N : Int) := by omega
      have hyi : (0 : Int) ≤ (y : Int) ∧ (y : Int) < (N : Int) := by omega
      clear hc he hke
      go_wp2_with fail
      go_quiet (fail)
      rename_i nq
      have HD : Hid (RW wr (wr.drewN nq)) := ((Drawn.refl wr).step nq).below _
      have HOW5 : Hid (∃ ns, OwnI (wr.drewN nq) (w.heap.size + 1) (.slice (some ⟨w.heap.size + 1, 0, none⟩) N N) ns ∧ MaskOk es N ns) := by
        obtain ⟨ns, h1, h2⟩ := hown.out
        exact ⟨ns, h1.later HD.out, h2⟩
      have HB5 : Hid (Below w.heap.size w (wr.drewN nq) ∧ (wr.drewN nq).cell? ⟨w.heap.size, 0, none⟩ = some (.int .i64 N) ∧ (wr.drewN nq).cell? ⟨w.heap.size, 1, none⟩ = some (.slice (some ⟨b, o, none⟩) n c)) := ⟨bel_trans hb.out.1 HD.out, later2 HD.out hb.out.2⟩
      clear x0 x1 hc1 hc2
      generalize wr.drewN nq = w5 at *
      obtain ⟨ns, ho5, hmo5⟩ := HOW5.out
      have HO5 := Lib.hid ho5
      have HMO5 := Lib.hid hmo5
      obtain ⟨m1, hm1, hm1l, -⟩ := hmo5.2 x hxM
      have cx := ho5.cellAt hxM
      rw [hm1] at cx
      have fx := ho5.frozAt x
      have uy : IntKind.u64.wrap (y : Int) = (y : Int) := by rw [IntKind.wrap_u64]; omega
      obtain ⟨m2, hm2, hm2l, -⟩ := hmo5.2 y hyM
      have hpx := pow_le10 hxM hN
      have hpy := pow_le10 hyM hN
      have hN12 : 2 ^ N ≤ 1024 := Nat.pow_le_pow_right (by decide) hN
      have bx : (0 : Int) ≤ (2 : Int) ^ x ∧ (2 : Int) ^ x ≤ 4096 := pow_int (k := 4096) (Nat.le_of_lt hpx.1)
      have by1 : (0 : Int) ≤ (2 : Int) ^ y ∧ (2 : Int) ^ y ≤ 4096 := pow_int (k := 4096) (Nat.le_of_lt hpy.1)
      have or1 : bits .or .i64 (m1 : Int) ((2 : Int) ^ y) = ((m1 ||| 2 ^ y : Nat) : Int) := by
        have : ((2 ^ y : Nat) : Int) = (2 : Int) ^ y := by simp
        rw [← this]
        exact or_nat m1 (2 ^ y) (by omega) (by omega)
      have or2 : bits .or .i64 (m2 : Int) ((2 : Int) ^ x) = ((m2 ||| 2 ^ x : Nat) : Int) := by
        have : ((2 ^ x : Nat) : Int) = (2 : Int) ^ x := by simp
        rw [← this]
        exact or_nat m2 (2 ^ x) (by omega) (by omega)
      have ux : IntKind.u64.wrap (x : Int) = (x : Int) := by rw [IntKind.wrap_u64]; omega
      have hM1 := mask_put hmo5 hxM hyM hm1 (.inl HMEM.out)
      have g2 : gi (ns.set x ((m1 ||| 2 ^ y : Nat) : Int)) y = m2 := by rw [gi_set, if_neg (by omega)]; exact hm2
      have hM2 := mask_put hM1 hyM hxM g2 (.inr HMEM.out)
      have o1 := ho5.put1 x ((m1 ||| 2 ^ y : Nat) : Int)
      have cy := o1.cellAt hyM
      rw [g2] at cy
      have fy := o1.frozAt y
      have HO9 : Hid (∃ ns, OwnI ((w5.setCell ⟨w.heap.size + 1, x, none⟩ (.int .i64 ((m1 ||| 2 ^ y : Nat) : Int))).setCell ⟨w.heap.size + 1, y, none⟩ (.int .i64 ((m2 ||| 2 ^ x : Nat) : Int))) (w.heap.size + 1) (.slice (some ⟨w.heap.size + 1, 0, none⟩) N N) ns ∧ MaskOk es N ns) := ⟨_, o1.put1 y _, hM2⟩
      have HB9 : Hid (Below w.heap.size w ((w5.setCell ⟨w.heap.size + 1, x, none⟩ (.int .i64 ((m1 ||| 2 ^ y : Nat) : Int))).setCell ⟨w.heap.size + 1, y, none⟩ (.int .i64 ((m2 ||| 2 ^ x : Nat) : Int))) ∧ ((w5.setCell ⟨w.heap.size + 1, x, none⟩ (.int .i64 ((m1 ||| 2 ^ y : Nat) : Int))).setCell ⟨w.heap.size + 1, y, none⟩ (.int .i64 ((m2 ||| 2 ^ x : Nat) : Int))).cell? ⟨w.heap.size, 0, none⟩ = some (.int .i64 N) ∧ ((w5.setCell ⟨w.heap.size + 1, x, none⟩ (.int .i64 ((m1 ||| 2 ^ y : Nat) : Int))).setCell ⟨w.heap.size + 1, y, none⟩ (.int .i64 ((m2 ||| 2 ^ x : Nat) : Int))).cell? ⟨w.heap.size, 1, none⟩ = some (.slice (some ⟨b, o, none⟩) n c)) :=
        ⟨Below.setCell (Below.setCell HB5.out.1 (by show w.heap.size ≤ w.heap.size + 1; omega) _) (by show w.heap.size ≤ w.heap.size + 1; omega) _,
          (grown_set2 _ _ _ _ _ _).cell HB5.out.2.1 (by intro e; injection e with e; have h2 : w.heap.size = w.heap.size + 1 := e; omega), (grown_set2 _ _ _ _ _ _).cell HB5.out.2.2 (by intro e; injection e with e; have h2 : w.heap.size = w.heap.size + 1 := e; omega)⟩
      clear ho5 hmo5 hM1 hM2 g2 o1 hpx hpy hN12 hm1 hm2 hm1l hm2l hxy hxM hyM
      generalize ((m1 ||| 2 ^ y : Nat) : Int) = r1 at *
      generalize ((m2 ||| 2 ^ x : Nat) : Int) = r2 at *
      go_wp2_with fail
      clear cx cy fx fy or1 or2 bx by1
      go_roundw
      case rel => exact ⟨k + 1, by have := HLT.out; omega, by go_num, HO9, HB9⟩
      case measure => have := HLT.out; simp [intOf]; omega
    · obtain rfl : n = k := by omega
      have hd : decide ((n : Int) < (n : Int)) = false := by rw [decide_eq_false_iff_not]; omega
      obtain ⟨ns, hns, hmask⟩ := hown.out
      have HNS := Lib.hid hns
      have HMK := Lib.hid hmask
      have HBW := hb
      have uN : IntKind.u64.wrap (N : Int) = (N : Int) := by rw [IntKind.wrap_u64]; omega
      have hN12 : 2 ^ N ≤ 1024 := Nat.pow_le_pow_right (by decide) hN
      have bN : (0 : Int) ≤ (2 : Int) ^ N ∧ (2 : Int) ^ N ≤ 4096 := pow_int (k := 4096) (by omega)
      obtain ⟨P, hP⟩ : ∃ P : Nat, P = 2 ^ N := ⟨_, rfl⟩
      have eP : (2 : Int) ^ N = (P : Int) := by rw [hP]; simp
      have hP10 : P ≤ 1024 := by omega
      have HPP := Lib.hid hP
      have hmk := run_make_row' 22 3 (.int .i64 0) 8 Try.underlying22 (by kernel_rfl) rfl .i64 .i64 P (by omega) (by omega) wr
      have hmt := made_own wr P (by omega)
      rw [eP] at bN
      have HBT := Lib.hid (bel_alloc wr (.cells (madeCells #[.int .i64 0] P) 3))
      clear hlt hk hown hb HO2 HBX HB2 HX2 hns hmask hP hN12
      go_wp2_with fail
      have HT0 : Hid (∃ T, OwnI (wr.alloc (.cells (madeCells #[.int .i64 0] P) 3)) wr.heap.size (.slice (some ⟨wr.heap.size, 0, none⟩) P P) T ∧ TabOk cov N T 1) := by
        refine ⟨_, hmt, fun i hi => ?_⟩
        obtain rfl : i = 0 := by omega
        rw [gi_rep _ _ _ (by rw [HPP.out]; exact Nat.two_pow_pos N)]
        omega
      clear hmt hmk
      obtain ⟨wb, hwb⟩ : ∃ wb, wb = wr := ⟨_, rfl⟩
      have HBT2 : Hid (RW wb (wr.alloc (.cells (madeCells #[.int .i64 0] P) 3))) := by rw [hwb]; exact HBT.out
      rw [← hwb] at HT0 HNS HBW HBT2 ⊢
      clear HBT hwb
      go_loopw [8, 9, 10, 11] (fun i _ _ _ wr => ∃ s : Nat, 1 ≤ s ∧ s ≤ P ∧ i = .int .i64 s ∧ Hid (∃ T, OwnI wr wb.heap.size (.slice (some ⟨wb.heap.size, 0, none⟩) P P) T ∧ TabOk cov N T s) ∧ Hid (RW wb wr)) (fun i _ _ _ _ => P - (intOf i).toNat)
      case atStart => exact ⟨1, Nat.le_refl _, by rw [HPP.out]; exact Nat.two_pow_pos N, rfl, HT0, HBT2⟩
      case round =>
        obtain ⟨s, hs1, hsP, rfl, htab, hrw⟩ := hrel
        by_cases hlt : s < P
        · have HLT := Lib.hid hlt
          obtain ⟨T, hT, hTok⟩ := htab.out
          have HT := Lib.hid hT
          have HTOK := Lib.hid hTok
          obtain ⟨bb, hbN, hbit⟩ := has_bit (s := s) (N := N) (by omega) (by rw [← HPP.out]; exact hlt)
          have HBI := Lib.hid (And.intro hbN hbit)
          have s4096 : s < 4096 := by omega
          have hV0 : Hid (∀ u, u < 0 → s.testBit u = false) := fun u hu => absurd hu (by omega)
          clear hT hTok hbN hbit htab
          go_wp2_with fail
          go_loop [9] (fun t => ∃ v : Nat, v ≤ bb ∧ t = .int .i64 v ∧ Hid (∀ u, u < v → s.testBit u = false)) (fun t => N - (intOf t).toNat)
          case atStart => exact ⟨0, Nat.zero_le _, rfl, hV0⟩
          case round =>
            obtain ⟨v, hvb, rfl, hlow⟩ := hrel
            have uv : IntKind.u64.wrap (v : Int) = (v : Int) := by rw [IntKind.wrap_u64]; have := HBI.out.1; omega
            have hsb := shr_bit s v s4096
            have hv10 : v ≤ 10 := by have := HBI.out.1; omega
            cases hq : s.testBit v
            · rw [hq] at hsb
              simp only [Bool.false_eq_true, if_false] at hsb
              have HL1 : Hid (∀ u, u < v + 1 → s.testBit u = false) := fun u hu => by
                by_cases e : u = v
                · exact e ▸ hq
                · exact hlow.out u (by omega)
              have HVB : Hid (v < bb) := by
                rcases Nat.lt_or_ge v bb with q | q
                · exact q
                · have : v = bb := by omega
                  rw [this, HBI.out.2] at hq
                  cases hq
              clear hq
              go_wp2_with fail
              go_round
              case rel => exact ⟨v + 1, by have := HVB.out; omega, by go_num, HL1⟩
              case measure => have := HVB.out; have := HBI.out.1; simp [intOf]; omega
            · rw [hq] at hsb
              simp only [if_true] at hsb
              have HVS := Lib.hid hq
              clear hq
              obtain ⟨r, hr⟩ : ∃ r, r = dropN s := ⟨_, rfl⟩
              have dr : bits .and .i64 (s : Int) ((s : Int) - 1) = (r : Int) := by
                have e : (s : Int) - 1 = ((s - 1 : Nat) : Int) := by omega
                rw [e, and_nat s (s - 1) s4096 (by omega), hr]
                rfl
              have hrs : r < s := by rw [hr]; exact dropN_lt (by omega)
              have HR := Lib.hid hr
              have HRS := Lib.hid hrs
              have hTl : T.length = P := (HT.out.len rfl).symm
              have cr := HT.out.cellAt (j := r) (by omega)
              have cs := HT.out.cellAt (j := s) (by omega)
              have fs := HT.out.frozAt s
              have htr := HTOK.out r hrs
              obtain ⟨tr, htr2⟩ : ∃ tr, tr = gi T r := ⟨_, rfl⟩
              rw [← htr2] at cr htr
              have hsi : (0 : Int) ≤ (s : Int) ∧ (s : Int) < (P : Int) := by omega
              have hri : (0 : Int) ≤ (r : Int) ∧ (r : Int) < (P : Int) := by omega
              have HT1 : Hid (∃ T1, OwnI (wr.setCell ⟨wb.heap.size, s, none⟩ (.int .i64 tr)) wb.heap.size (.slice (some ⟨wb.heap.size, 0, none⟩) P P) T1 ∧ TabOk cov N T1 (s + 1)) := by
                refine ⟨_, HT.out.put1 s tr, fun i hi => ?_⟩
                rw [gi_set]
                by_cases e : i = s
                · rw [if_pos ⟨e, by omega⟩, e]
                  have h1 := tab_drop (cov := cov) (N := N) (s := s)
                  rw [← hr] at h1
                  omega
                · rw [if_neg (by omega)]
                  exact HTOK.out i (by omega)
              have HRW1 : Hid (RW wb (wr.setCell ⟨wb.heap.size, s, none⟩ (.int .i64 tr))) := Below.setCell hrw.out (Nat.le_refl _) _
              have hvN : v < N := by have := HBI.out.1; omega
              clear hr htr htr2
              go_wp2_with fail
              clear dr cr cs fs hri hrs
              generalize wr.setCell ⟨wb.heap.size, s, none⟩ (.int .i64 tr) = w9 at *
              go_loopw [11] (fun t wr => ∃ u : Nat, v + 1 ≤ u ∧ u ≤ N ∧ t = .int .i64 u ∧ Hid (∃ T1, OwnI wr wb.heap.size (.slice (some ⟨wb.heap.size, 0, none⟩) P P) T1 ∧ TabOk cov N T1 (s + 1)) ∧ Hid (RW wb wr)) (fun t _ => N - (intOf t).toNat)
              case atStart => exact ⟨v + 1, Nat.le_refl _, hvN, by go_num, HT1, HRW1⟩
              case round =>
                obtain ⟨u, huv, huN, rfl, htab, hrw⟩ := hrel
                obtain ⟨x0, x1⟩ := later2 hrw.out HBW.out.2
                by_cases hul : u < N
                · have HUL := Lib.hid (And.intro huv hul)
                  obtain ⟨mv, hmv, hmvl, hmvb⟩ := HMK.out.2 v hvN
                  have nv := ((HNS.out.later hrw.out).cellAt hvN)
                  rw [hmv] at nv
                  have HMB := Lib.hid hmvb
                  have r4096 : r < 4096 := by have := HRS.out; omega
                  have m4096 : mv < 4096 := by have := HPP.out; omega
                  have uu : IntKind.u64.wrap (u : Int) = (u : Int) := by rw [IntKind.wrap_u64]; omega
                  have hb1 := shr_bit r u r4096
                  have hb2 := shr_bit mv u m4096
                  have hvi : (0 : Int) ≤ (v : Int) ∧ (v : Int) < (N : Int) := by omega
                  clear hmv hmvl hmvb
                  cases q1 : r.testBit u
                  · rw [q1] at hb1
                    simp only [Bool.false_eq_true, if_false] at hb1
                    clear q1 hb2
                    go_wp2_with fail
                    go_roundw
                    case rel => exact ⟨u + 1, by have := HUL.out; omega, by have := HUL.out; omega, by go_num, htab, hrw⟩
                    case measure => have := HUL.out; simp [intOf]; omega
                  · rw [q1] at hb1
                    simp only [if_true] at hb1
                    cases q2 : mv.testBit u
                    · rw [q2] at hb2
                      simp only [Bool.false_eq_true, if_false] at hb2
                      clear q1 q2
                      go_wp2_with fail
                      go_roundw
                      case rel => exact ⟨u + 1, by have := HUL.out; omega, by have := HUL.out; omega, by go_num, htab, hrw⟩
                      case measure => have := HUL.out; simp [intOf]; omega
                    · rw [q2] at hb2
                      simp only [if_true] at hb2
                      have HQ1 := Lib.hid q1
                      have HED := Lib.hid (HMB.out u q2)
                      clear q1 q2
                      obtain ⟨T1, hT1, hTok1⟩ := htab.out
                      have hTl1 : T1.length = P := (hT1.len rfl).symm
                      obtain ⟨q, hq⟩ : ∃ q, q = lessN r (2 ^ u) := ⟨_, rfl⟩
                      have hu12 := pow_le10 hul hN
                      have hqs : q < s := by
                        have h1 := lessN_le r (2 ^ u)
                        have h2 := HRS.out
                        omega
                      have HQS := Lib.hid hqs
                      have hstep : cntB cov q N + 1 ≤ cntB cov s N := by
                        rw [hq, HR.out]
                        refine tab_step HVS.out hlow.out (by rw [← HR.out]; exact HQ1.out) (by rw [← HPP.out]; exact HLT.out) (by omega) ?_
                        rcases HED.out with e | e
                        · exact HCV.out v u e
                        · exact (HCV.out u v e).symm
                      have htq := hTok1 q (by omega)
                      have hts := hTok1 s (by omega)
                      have cq := hT1.cellAt (j := q) (by omega)
                      have cs := hT1.cellAt (j := s) (by omega)
                      have fs := hT1.frozAt s
                      obtain ⟨tq, htq2⟩ : ∃ tq, tq = gi T1 q := ⟨_, rfl⟩
                      obtain ⟨ts, hts2⟩ : ∃ ts, ts = gi T1 s := ⟨_, rfl⟩
                      rw [← htq2] at cq htq
                      rw [← hts2] at cs hts
                      have hcn : cntB cov s N ≤ N := Nat.le_trans (cntB_sel _ _ _) (sel_length _ _)
                      have au : bits .andNot .i64 (r : Int) ((2 : Int) ^ u) = (q : Int) := by
                        have e : ((2 ^ u : Nat) : Int) = (2 : Int) ^ u := by simp
                        rw [← e, hq]
                        exact andNot_nat r (2 ^ u) r4096 hu12.1
                      have bu : (0 : Int) ≤ (2 : Int) ^ u ∧ (2 : Int) ^ u ≤ 4096 := pow_int (k := 4096) (Nat.le_of_lt hu12.1)
                      have hqi : (0 : Int) ≤ (q : Int) ∧ (q : Int) < (P : Int) := by have := HLT.out; omega
                      have w1 : IntKind.i64.wrap (1 + tq) = 1 + tq := by rw [IntKind.wrap_i64]; omega
                      have i2u : IntKind.i64.wrap ((2 : Int) ^ u) = (2 : Int) ^ u := by rw [IntKind.wrap_i64]; omega
                      have cqd := cell_later (RW.refl wr).drew cq
                      have csd := cell_later (RW.refl wr).drew cs
                      have HT9 := Lib.hid hT1
                      have HTK9 := Lib.hid hTok1
                      have HNUM := Lib.hid (And.intro htq (And.intro hts hstep))
                      clear hT1 hTok1 hq hu12 hqs hstep htq hts htq2 hts2 hcn hTl1
                      go_wp2_with fail
                      refine wp_region_held_drew (S := fun w' => w'.cell? ⟨wb.heap.size, q, none⟩ = some (.int .i64 tq)) (by kernel_rfl) cq (fun hHeld => ?_)
                      refine wpAnyH_take (i := 0) (oi := ?oiz1x0) (v := ?vz1x0) ?hiz1x0 (by kernel_rfl) (by kernel_rfl) (by kernel_rfl) ?hQz1x0 ?hyz1x0 (by assumption) ?restz1x0
                      case hiz1x0 => first | (simp only [List.getElem?_toArray, List.getElem?_cons_zero, List.getElem?_cons_succ]; rfl) | rfl
                      case hQz1x0 => exact fun _ _ _ h => h
                      case hyz1x0 => (refine Or.inl ⟨by rfl, ?_⟩; intro w hSw; (try dsimp only at hSw); go_simp; (try with_reducible rfl))
                      simp only [Act.put, List.setIfInBounds_toArray, List.set_cons_zero, List.set_cons_succ]
                      refine wpAnyH_take (i := 1) (oi := ?oiz2x1) (v := ?vz2x1) ?hiz2x1 (by kernel_rfl) (by kernel_rfl) (by kernel_rfl) ?hQz2x1 ?hyz2x1 (by assumption) ?restz2x1
                      case hiz2x1 => first | (simp only [List.getElem?_toArray, List.getElem?_cons_zero, List.getElem?_cons_succ]; rfl) | rfl
                      case hQz2x1 => exact fun _ _ _ h => h
                      case hyz2x1 => (refine Or.inl ⟨by rfl, ?_⟩; intro w hSw; (try dsimp only at hSw); go_simp; (try with_reducible rfl))
                      simp only [Act.put, List.setIfInBounds_toArray, List.set_cons_zero, List.set_cons_succ]
                      refine wpAnyH_take (i := 2) (oi := ?oiz3x2) (v := ?vz3x2) ?hiz3x2 (by kernel_rfl) (by kernel_rfl) (by kernel_rfl) ?hQz3x2 ?hyz3x2 (by assumption) ?restz3x2
                      case hiz3x2 => first | (simp only [List.getElem?_toArray, List.getElem?_cons_zero, List.getElem?_cons_succ]; rfl) | rfl
                      case hQz3x2 => exact fun _ _ _ h => h
                      case hyz3x2 => (refine Or.inl ⟨by rfl, ?_⟩; intro w hSw; (try dsimp only at hSw); go_simp; (try with_reducible rfl))
                      simp only [Act.put, List.setIfInBounds_toArray, List.set_cons_zero, List.set_cons_succ]
                      refine wpAnyH_take (i := 3) (oi := ?oiz4x3) (v := ?vz4x3) ?hiz4x3 (by kernel_rfl) (by kernel_rfl) (by kernel_rfl) ?hQz4x3 ?hyz4x3 (by assumption) ?restz4x3
                      case hiz4x3 => first | (simp only [List.getElem?_toArray, List.getElem?_cons_zero, List.getElem?_cons_succ]; rfl) | rfl
                      case hQz4x3 => exact fun _ _ _ h => h
                      case hyz4x3 => (refine Or.inl ⟨by rfl, ?_⟩; intro w hSw; (try dsimp only at hSw); go_simp; (try with_reducible rfl))
                      simp only [Act.put, List.setIfInBounds_toArray, List.set_cons_zero, List.set_cons_succ]
                      refine wpAnyH_take (i := 4) (oi := ?oiz5x4) (v := ?vz5x4) ?hiz5x4 (by kernel_rfl) (by kernel_rfl) (by kernel_rfl) ?hQz5x4 ?hyz5x4 (by assumption) ?restz5x4
                      case hiz5x4 => first | (simp only [List.getElem?_toArray, List.getElem?_cons_zero, List.getElem?_cons_succ]; rfl) | rfl
                      case hQz5x4 => exact fun _ _ _ h => h
                      case hyz5x4 => (refine Or.inl ⟨by rfl, ?_⟩; intro w hSw; (try dsimp only at hSw); go_simp; (try with_reducible rfl))
                      simp only [Act.put, List.setIfInBounds_toArray, List.set_cons_zero, List.set_cons_succ]
                      refine wpAnyH_take (i := 6) (oi := ?oiz6x6) (v := ?vz6x6) ?hiz6x6 (by kernel_rfl) (by kernel_rfl) (by kernel_rfl) ?hQz6x6 ?hyz6x6 (by assumption) ?restz6x6
                      case hiz6x6 => first | (simp only [List.getElem?_toArray, List.getElem?_cons_zero, List.getElem?_cons_succ]; rfl) | rfl
                      case hQz6x6 => exact fun _ _ _ h => h
                      case hyz6x6 => (refine Or.inl ⟨by rfl, ?_⟩; intro w hSw; (try dsimp only at hSw); go_simp; (try with_reducible rfl))
                      simp only [Act.put, List.setIfInBounds_toArray, List.set_cons_zero, List.set_cons_succ]
                      refine wpAnyH_take (i := 7) (oi := ?oiz7x7) (v := ?vz7x7) ?hiz7x7 (by kernel_rfl) (by kernel_rfl) (by kernel_rfl) ?hQz7x7 ?hyz7x7 (by assumption) ?restz7x7
                      case hiz7x7 => first | (simp only [List.getElem?_toArray, List.getElem?_cons_zero, List.getElem?_cons_succ]; rfl) | rfl
                      case hQz7x7 => exact fun _ _ _ h => h
                      case hyz7x7 => (refine Or.inl ⟨by rfl, ?_⟩; intro w hSw; (try dsimp only at hSw); go_simp; (try with_reducible rfl))
                      simp only [Act.put, List.setIfInBounds_toArray, List.set_cons_zero, List.set_cons_succ]
                      refine wpAnyH_take (i := 8) (oi := ?oiz8x8) (v := ?vz8x8) ?hiz8x8 (by kernel_rfl) (by kernel_rfl) (by kernel_rfl) ?hQz8x8 ?hyz8x8 (by assumption) ?restz8x8
                      case hiz8x8 => first | (simp only [List.getElem?_toArray, List.getElem?_cons_zero, List.getElem?_cons_succ]; rfl) | rfl
                      case hQz8x8 => exact fun _ _ _ h => h
                      case hyz8x8 => (refine Or.inl ⟨by rfl, ?_⟩; intro w hSw; (try dsimp only at hSw); go_simp; (try with_reducible rfl))
                      simp only [Act.put, List.setIfInBounds_toArray, List.set_cons_zero, List.set_cons_succ]
                      refine wpAnyH_take (i := 9) (oi := ?oiz9x9) (v := ?vz9x9) ?hiz9x9 (by kernel_rfl) (by kernel_rfl) (by kernel_rfl) ?hQz9x9 ?hyz9x9 (by assumption) ?restz9x9
                      case hiz9x9 => first | (simp only [List.getElem?_toArray, List.getElem?_cons_zero, List.getElem?_cons_succ]; rfl) | rfl
                      case hQz9x9 => exact fun _ _ _ h => h
                      case hyz9x9 => (refine Or.inl ⟨by rfl, ?_⟩; intro w hSw; (try dsimp only at hSw); go_simp; (try with_reducible rfl))
                      simp only [Act.put, List.setIfInBounds_toArray, List.set_cons_zero, List.set_cons_succ]
                      refine wpAnyH_take (i := 10) (oi := ?oiz10x10) (v := ?vz10x10) ?hiz10x10 (by kernel_rfl) (by kernel_rfl) (by kernel_rfl) ?hQz10x10 ?hyz10x10 (by assumption) ?restz10x10
                      case hiz10x10 => first | (simp only [List.getElem?_toArray, List.getElem?_cons_zero, List.getElem?_cons_succ]; rfl) | rfl
                      case hQz10x10 => exact fun _ _ _ h => h
                      case hyz10x10 => (refine Or.inl ⟨by rfl, ?_⟩; intro w hSw; (try dsimp only at hSw); go_simp; (try with_reducible rfl))
                      simp only [Act.put, List.setIfInBounds_toArray, List.set_cons_zero, List.set_cons_succ]
                      refine wpAnyH_take (i := 11) (oi := ?oiz11x11) (v := ?vz11x11) ?hiz11x11 (by kernel_rfl) (by kernel_rfl) (by kernel_rfl) ?hQz11x11 ?hyz11x11 (by assumption) ?restz11x11
                      case hiz11x11 => first | (simp only [List.getElem?_toArray, List.getElem?_cons_zero, List.getElem?_cons_succ]; rfl) | rfl
                      case hQz11x11 => exact fun _ _ _ h => h
                      case hyz11x11 => (refine Or.inl ⟨by rfl, ?_⟩; intro w hSw; (try dsimp only at hSw); go_simp; (try with_reducible rfl))
                      simp only [Act.put, List.setIfInBounds_toArray, List.set_cons_zero, List.set_cons_succ]
                      refine wpAnyH_take (i := 12) (oi := ?oiz12x12) (v := ?vz12x12) ?hiz12x12 (by kernel_rfl) (by kernel_rfl) (by kernel_rfl) ?hQz12x12 ?hyz12x12 (by assumption) ?restz12x12
                      case hiz12x12 => first | (simp only [List.getElem?_toArray, List.getElem?_cons_zero, List.getElem?_cons_succ]; rfl) | rfl
                      case hQz12x12 => exact fun _ _ _ h => h
                      case hyz12x12 => (refine Or.inl ⟨by rfl, ?_⟩; intro w hSw; (try dsimp only at hSw); go_simp; (try with_reducible rfl))
                      simp only [Act.put, List.setIfInBounds_toArray, List.set_cons_zero, List.set_cons_succ]
                      refine wpAnyH_take (i := 13) (oi := ?oiz13x13) (v := ?vz13x13) ?hiz13x13 (by kernel_rfl) (by kernel_rfl) (by kernel_rfl) ?hQz13x13 ?hyz13x13 (by assumption) ?restz13x13
                      case hiz13x13 => first | (simp only [List.getElem?_toArray, List.getElem?_cons_zero, List.getElem?_cons_succ]; rfl) | rfl
                      case hQz13x13 => exact fun _ _ _ h => h
                      case hyz13x13 => (refine Or.inl ⟨by rfl, ?_⟩; intro w hSw; (try dsimp only at hSw); go_simp; (try with_reducible rfl))
                      simp only [Act.put, List.setIfInBounds_toArray, List.set_cons_zero, List.set_cons_succ]
                      refine wpAnyH_take (i := 14) (oi := ?oiz14x14) (v := ?vz14x14) ?hiz14x14 (by kernel_rfl) (by kernel_rfl) (by kernel_rfl) ?hQz14x14 ?hyz14x14 (by assumption) ?restz14x14
                      case hiz14x14 => first | (simp only [List.getElem?_toArray, List.getElem?_cons_zero, List.getElem?_cons_succ]; rfl) | rfl
                      case hQz14x14 => exact fun _ _ _ h => h
                      case hyz14x14 => (refine Or.inl ⟨by rfl, ?_⟩; intro w hSw; (try dsimp only at hSw); go_simp; (try with_reducible rfl))
                      simp only [Act.put, List.setIfInBounds_toArray, List.set_cons_zero, List.set_cons_succ]
                      refine wpAnyH_ready (rs := [5]) (by kernel_rfl) (by simp) ?_
                      refine AllReadyH.cons rfl (fun K hK => ?_) AllReadyH.nil
                      go_simp
                      refine hK.out _ _ cqd (fun hHeld => ?_)
                      clear hK K
                      (try simp only [Act.put, List.setIfInBounds_toArray, List.set_cons_zero, List.set_cons_succ])
                      refine wpAnyH_ready (rs := [15]) (by kernel_rfl) (by simp) ?_
                      refine AllReadyH.cons rfl (fun K hK => ?_) AllReadyH.nil
                      go_simp
                      obtain ⟨mx, hmx⟩ : ∃ mx, mx = (if ts < 1 + tq then 1 + tq else ts) := ⟨_, rfl⟩
                      rw [← hmx]
                      have HMX : Hid (0 ≤ mx ∧ mx ≤ cntB cov s N) := by
                        have := HNUM.out
                        unfold Hid
                        split at hmx <;> omega
                      clear hmx
                      have hTl2 : T1.length = P := (HT9.out.len rfl).symm
                      have HTN : Hid (∃ T1, OwnI (wr.setCell ⟨wb.heap.size, s, none⟩ (.int .i64 mx)).drew wb.heap.size (.slice (some ⟨wb.heap.size, 0, none⟩) P P) T1 ∧ TabOk cov N T1 (s + 1)) := by
                        refine ⟨_, (HT9.out.put1 s mx).later (RW.refl _).drew, fun i hi => ?_⟩
                        rw [gi_set]
                        by_cases e : i = s
                        · rw [if_pos ⟨e, by have := HLT.out; omega⟩, e]
                          exact HMX.out
                        · rw [if_neg (by omega)]
                          exact HTK9.out i hi
                      have HRWN : Hid (RW wb (wr.setCell ⟨wb.heap.size, s, none⟩ (.int .i64 mx)).drew) := below_draws (Below.setCell hrw.out (Nat.le_refl _) _) 1
                      have cqn : (wr.setCell ⟨wb.heap.size, s, none⟩ (.int .i64 mx)).cell? ⟨wb.heap.size, q, none⟩ = some (.int .i64 tq) := (World.cell?_setCell_other wr ⟨wb.heap.size, s, none⟩ ⟨wb.heap.size, q, none⟩ _ (by intro e; injection e with e1 e2; have := HQS.out; omega)).trans cq
                      have cqn2 := cell_later (RW.refl (wr.setCell ⟨wb.heap.size, s, none⟩ (.int .i64 mx))).drew cqn
                      refine hK.out _ _ cqd (fun hHeld => ?_)
                      clear hK K
                      (try simp only [Act.put, List.setIfInBounds_toArray, List.set_cons_zero, List.set_cons_succ])
                      refine wpAnyH_take (i := 16) (oi := ?oiz101x16) (v := ?vz101x16) ?hiz101x16 (by kernel_rfl) (by kernel_rfl) (by kernel_rfl) ?hQz101x16 ?hyz101x16 (by assumption) ?restz101x16
                      case hiz101x16 => first | (simp only [List.getElem?_toArray, List.getElem?_cons_zero, List.getElem?_cons_succ]; rfl) | rfl
                      case hQz101x16 => exact fun _ _ _ h => h
                      case hyz101x16 => (refine Or.inl ⟨by rfl, ?_⟩; intro w hSw; (try dsimp only at hSw); go_simp; (try with_reducible rfl))
                      simp only [Act.put, List.setIfInBounds_toArray, List.set_cons_zero, List.set_cons_succ]
                      refine wpAnyH_ready (rs := [17]) (by kernel_rfl) (by simp) ?_
                      refine AllReadyH.cons rfl (fun K hK => ?_) AllReadyH.nil
                      go_simp
                      first | refine hK.out _ _ cqn2 (fun hHeld => ?_) | refine hK.out _ _ cqn (fun hHeld => ?_)
                      clear hK K
                      (try simp only [Act.put, List.setIfInBounds_toArray, List.set_cons_zero, List.set_cons_succ])
                      refine wpAnyH_done (by kernel_rfl) ?_ _
                      clear cq cs cqd csd cqn cqn2 fs au bu w1 i2u
                      go_wp2_with fail
                      go_roundw
                      case rel => exact ⟨u + 1, by have := HUL.out; omega, by have := HUL.out; omega, by go_num, HTN, HRWN⟩
                      case measure => have := HUL.out; simp [intOf]; omega
                · obtain rfl : u = N := by omega
                  have hd : decide ((u : Int) < (u : Int)) = false := by rw [decide_eq_false_iff_not]; omega
                  clear hul
                  go_wp2_with fail
                  clear hd
                  go_roundw
                  case rel => exact ⟨s + 1, by omega, by have := HLT.out; omega, by go_num, htab, hrw⟩
                  case measure => have := HLT.out; simp [intOf]; omega
        · obtain rfl : s = P := by omega
          have hd : decide ((s : Int) < (s : Int)) = false := by rw [decide_eq_false_iff_not]; omega
          clear hlt
          go_wp2_with fail
          go_ret
          obtain ⟨T, hT, hTok⟩ := htab.out
          have hTl : T.length = s := (hT.len rfl).symm
          have hbase : w.heap.size ≤ wb.heap.size := HBW.out.1.size
          rw [← HPP.out]
          exact ⟨_, T, rfl, row_weaken hT hbase, hTl, hTok, bel_trans HBW.out.1 hrw.out⟩

set_option maxHeartbeats 4000000 in
set_option maxRecDepth 100000 in
theorem number_any {A : Option Addr} {n c N : Nat} {es : List Ed} (cov : Nat → Bool) (w : World) (h : ReadE w A n es) (hr : rightB N es = true) (hN : N ≤ 10) (hcov : ∀ x y : Nat, ((x : Int), (y : Int)) ∈ es → cov x = true ∨ cov y = true) :
    Calls Try.prog 43 #[.agg #[.int .i64 N, .slice A n c]] w fun e w' => ∃ x : Int, e = .returned (.int .i64 x) ∧ 0 ≤ x ∧ x ≤ (sel cov N).length ∧ Below w.heap.size w w' := by
  have hb1 := bel_alloc w (gcells N A n c)
  have ht := table_any (c := c) cov (w.alloc (gcells N A n c)) (h.below hb1) hr hN hcov
  have HB1 := Lib.hid hb1
  have HX := Lib.hid (boxg w N A n c)
  have hN12 : 2 ^ N ≤ 1024 := Nat.pow_le_pow_right (by decide) hN
  have hN0 : 0 < 2 ^ N := Nat.two_pow_pos N
  clear hb1 h hr hcov
  generalize 2 ^ N = P at *
  obtain ⟨x0, x1⟩ := HX.out
  go_enter Try.func43, Try.ntmps43
  go_wp2_with fail
  clear x0 x1
  refine ht.mono ?_
  rintro e w2 ⟨v, T, rfl, o2, hl, hok, hb2⟩
  have HB2 := Lib.hid (bel_trans HB1.out hb2)
  obtain ⟨A2, c2, rfl, -, -, hr2⟩ := OwnI.read o2
  rw [hl] at hr2 ⊢
  obtain ⟨b, o, rfl, hc⟩ := hr2.2.2 (by omega)
  have hcl := hc (P - 1) (by omega)
  have hb := hok (P - 1) (by omega)
  have HNM : Hid (0 ≤ gi T (P - 1) ∧ gi T (P - 1) ≤ (sel cov N).length) := by
    have := cntB_sel cov (P - 1) N
    unfold Hid
    omega
  have hpi : (0 : Int) ≤ (P : Int) - 1 ∧ (P : Int) - 1 < (P : Int) := by omega
  have hpn : ((P : Int) - 1).toNat = P - 1 := by omega
  clear o2 hok hb2 hr2 hc hb ht hl
  generalize gi T (P - 1) = x at *
  go_wp2_with fail
  go_ret
  exact ⟨x, rfl, HNM.out.1, HNM.out.2, HB2.out⟩

end Go.Proofs.Ytnldfjoadmehcaa
