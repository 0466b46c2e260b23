/- The walk of the statement SidesCycles. -/
import Derived.Test.YtnldfjoadmehcaaSdMore
set_option linter.unusedVariables false
set_option linter.unusedSimpArgs false
namespace Go.Proofs.Ytnldfjoadmehcaa
open Go.RowKit

theorem cyc_num (k0 m0 : Int) : ∃ n N : Nat, 3 ≤ n ∧ n ≤ 62 ∧ n ≤ N ∧ N ≤ 66 ∧ wrap64 (3 + wrap64 ((IntKind.u64.wrap k0).tmod 60)) = n ∧ wrap64 ((n : Int) + wrap64 ((IntKind.u64.wrap m0).tmod 5)) = N := by
  have h0 : 0 ≤ IntKind.u64.wrap k0 := by rw [IntKind.wrap_u64]; omega
  have h1 := Int.tmod_lt_of_pos (IntKind.u64.wrap k0) (show (0 : Int) < 60 by omega)
  have h2 := Int.tmod_nonneg 60 h0
  have g0 : 0 ≤ IntKind.u64.wrap m0 := by rw [IntKind.wrap_u64]; omega
  have g1 := Int.tmod_lt_of_pos (IntKind.u64.wrap m0) (show (0 : Int) < 5 by omega)
  have g2 := Int.tmod_nonneg 5 g0
  refine ⟨(3 + (IntKind.u64.wrap k0).tmod 60).toNat, (3 + (IntKind.u64.wrap k0).tmod 60).toNat + ((IntKind.u64.wrap m0).tmod 5).toNat, by omega, by omega, by omega, by omega, ?_, ?_⟩
  · unfold wrap64; omega
  · unfold wrap64; omega

set_option maxHeartbeats 16000000 in
set_option maxRecDepth 100000 in
theorem sidesCycles_any (k0 m0 : Int) (w : World) :
    Calls Try.prog 16 #[.int .i64 k0, .int .i64 m0] w fun e w' => e = .returned (.bool true) ∧ Below w.heap.size w w' := by
  have HAW : Hid (∀ W, Calls Try.prog 58 #[] W fun e w' => e = .returned (.bool true) ∧ Below W.heap.size W w') := fun W => awake4_any W
  obtain ⟨n, N, hn3, hn62, hnN, hN, e1, e2⟩ := cyc_num k0 m0
  go_enter Try.func16, Try.ntmps16
  go_wp2_with fail
  rw [e1, e2]
  have hs0 : GC w N (.slice none 0 0) [] (w.alloc (gcells N none 0 0)) := ⟨bel_alloc _ _, by simp, heap_alloc_new _ _, OwnE.nil _ _⟩
  have hr0 : rightB (N : Int) [] = true := by
    unfold rightB
    simp [allTo]
    omega
  have HS0 := Lib.hid hs0
  have HP0 : Hid (rightB (N : Int) [] = true ∧ ([] : List Ed).length = 0 ∧ CycK n [] 0) := ⟨hr0, rfl, cyc_none n⟩
  have HN : Hid (3 ≤ n ∧ n ≤ 62 ∧ n ≤ N ∧ N ≤ 66) := ⟨hn3, hn62, hnN, hN⟩
  clear hs0 hr0 e1 e2 hn62 hnN hN
  generalize w.alloc (gcells N none 0 0) = w1 at *
  generalize IntKind.u64.wrap k0 = k1 at *
  generalize IntKind.u64.wrap m0 = m1 at *
  go_loopw [6] (fun i wr => ∃ (k : Nat) (v : Value) (es : List Ed), k ≤ n ∧ i = .int .i64 k ∧ Hid (GC w N v es wr) ∧ Hid (rightB (N : Int) es = true ∧ es.length = k ∧ CycK n es k)) (fun i _ => n - (intOf i).toNat)
  case atStart => exact ⟨0, _, [], by omega, rfl, HS0, HP0⟩
  case round =>
    obtain ⟨k, v, es, hk, rfl, hsg, hre⟩ := hrel
    obtain ⟨A1, c1, rfl, hc1, -, hR⟩ := OwnE.read hsg.out.2.2.2
    obtain ⟨g0, g1⟩ := GC.cells hsg.out
    obtain ⟨f0, f1⟩ := GC.froz hsg.out
    have hsz := GC.size hsg.out
    by_cases hlt : k < n
    · have HLT := Lib.hid hlt
      have hnn : n ≤ 62 := HN.out.2.1
      have ew : IntKind.i64.wrap ((k : Int) + 1) = (k : Int) + 1 := by rw [IntKind.wrap_i64]; omega
      obtain ⟨nx, hnx⟩ : ∃ nx, nx = (k + 1) % n := ⟨_, rfl⟩
      have hnm : nx < n := by rw [hnx]; exact Nat.mod_lt _ (by omega)
      have hnk : nx ≠ k := by rw [hnx, cyc_succ hlt]; split <;> omega
      have tm1 : ((k : Int) + 1).tmod (n : Int) = (nx : Int) := by
        rw [hnx, Int.tmod_eq_emod_of_nonneg (by omega)]
        simp
      have tm2 : ((k : Int) + 1) % (n : Int) = (nx : Int) := by
        rw [hnx]
        simp
      have ew2 : IntKind.i64.wrap (nx : Int) = (nx : Int) := by rw [IntKind.wrap_i64]; omega
      have hm0 : ¬ n = 0 := by omega
      have HSS : Hid (wr.cell? ⟨w.heap.size, 0, none⟩ = some (.int .i64 N) ∧ wr.cell? ⟨w.heap.size, 1, none⟩ = some (.slice A1 es.length c1)) := ⟨g0, g1⟩
      have hfr := cyc_free (rightB_iff.1 hre.out.1).2.2.2 hre.out.2.2 hlt hn3
      rw [← hnx] at hfr
      have hadd := fun W (hW : ReadE W A1 es.length es) =>
        add_sure (m := (N : Int)) (a := (k : Int)) (b := (nx : Int)) (c := c1) hre.out.1 hc1 (by have := HN.out; simp [isB]; omega) (by have := HN.out; simp [isB]; omega) (by omega) hfr (by have := hre.out.2.1; omega) W hW
      have HCN : Hid (rightB (N : Int) (putE es (turnE (k : Int) (nx : Int))) = true → (putE es (turnE (k : Int) (nx : Int))).length = es.length + 1 → (rightB (N : Int) (putE es (turnE (k : Int) (nx : Int))) = true ∧ (putE es (turnE (k : Int) (nx : Int))).length = k + 1 ∧ CycK n (putE es (turnE (k : Int) (nx : Int))) (k + 1))) := fun a b => ⟨a, by rw [b, hre.out.2.1], by subst hnx; exact cyc_step (rightB_iff.1 hre.out.1).2.2.2 (rightB_iff.1 a).2.2.2 hre.out.2.2⟩
      clear hlt hk hnn hfr hnx hnm hnk
      generalize putE es (turnE (k : Int) (nx : Int)) = es9 at *
      go_wp2_with fail
      go_region_held3 (fun w' => w'.cell? ⟨w.heap.size, 0, none⟩ = some (.int .i64 N) ∧ w'.cell? ⟨w.heap.size, 1, none⟩ = some (.slice A1 es.length c1) ∧ RW wr w')
        (first | exact RW.two HSS.out (RW.refl wr).drew | exact RW.two HSS.out (RW.later (And.right (And.right (by assumption))) hb9) | exact RW.two HSS.out (RW.alloc hs9 _) | exact RW.two HSS.out (RW.alloc (RW.refl wr).drew _) | exact RW.two HSS.out (RW.alloc (RW.refl wr) _).drew | exact RW.two HSS.out (RW.set2 hs9) | fail)
        (first
          | (go_at_call 64; refine (hadd _ (hR.below (And.right (And.right (by assumption))))).mono ?_; rintro e w9 ⟨A9, c9, rfl, own9, hrb9, hlen9, hb9⟩; have hs9 : RW wr w9 := RW.later (And.right (And.right (by assumption))) hb9; try (have n0 := (newcells hb9).1); try (have n1 := (newcells hb9).2.1); try (have n2 := (newcells hb9).2.2.1); try (have n3 := (newcells hb9).2.2.2))
          | fail)
      · have own8 : OwnE (w9.alloc (.cells #[.int .i64 N, .slice A9 (es.length + 1) c9] 26)) (w.heap.size + 1) (.slice A9 (es.length + 1) c9) es9 := own_alloc (row_weaken own9 (by simp; omega)) _
        have rw8 : RW wr (w9.alloc (.cells #[.int .i64 N, .slice A9 (es.length + 1) c9] 26)) := RW.alloc hs9 _
        have sg8 := GC.later hsg.out rw8
        have d0 : (w9.alloc (.cells #[.int .i64 N, .slice A9 (es.length + 1) c9] 26)).cell? ⟨w9.heap.size, 0, none⟩ = some (.int .i64 N) := (cell_blk (heap_alloc_new _ _) 0).trans rfl
        have d1 : (w9.alloc (.cells #[.int .i64 N, .slice A9 (es.length + 1) c9] 26)).cell? ⟨w9.heap.size, 1, none⟩ = some (.slice A9 (es.length + 1) c9) := (cell_blk (heap_alloc_new _ _) 1).trans rfl
        obtain ⟨g80, g81⟩ := GC.cells sg8
        obtain ⟨f80, f81⟩ := GC.froz sg8
        have SGN := Lib.hid (GC.store (m' := (N : Int)) sg8 own8)
        have HPN := Lib.hid (HCN.out hrb9 hlen9)
        clear sg8 own8 rw8
        go_wp2_with fail
        go_roundw
        case rel => exact ⟨k + 1, _, es9, by have := HLT.out; omega, by go_num, SGN, HPN⟩
        case measure => have := HLT.out; simp [intOf]; omega
      · have own8 : OwnE ((w9.setCell ⟨wr.heap.size, 0, none⟩ (.int .i64 N)).setCell ⟨wr.heap.size, 1, none⟩ (.slice A9 (es.length + 1) c9)) (w.heap.size + 1) (.slice A9 (es.length + 1) c9) es9 := row_weaken (own_set2 own9 (by simp; omega)) (by simp; omega)
        have rw8 : RW wr ((w9.setCell ⟨wr.heap.size, 0, none⟩ (.int .i64 N)).setCell ⟨wr.heap.size, 1, none⟩ (.slice A9 (es.length + 1) c9)) := RW.set2 hs9
        have sg8 := GC.later hsg.out rw8
        have d0 : ((w9.setCell ⟨wr.heap.size, 0, none⟩ (.int .i64 N)).setCell ⟨wr.heap.size, 1, none⟩ (.slice A9 (es.length + 1) c9)).cell? ⟨wr.heap.size, 0, none⟩ = some (.int .i64 N) := (cell_blk (Go.Proofs.YtnldfjoadmehcaaW.PrintWords.blk_put (cs := #[.int .i64 N, .slice none 0 0]) (Go.Proofs.YtnldfjoadmehcaaW.PrintWords.blk_put (cs := #[.int .i64 0, .slice none 0 0]) (newblk hb9) 0 _ rfl) 1 _ rfl) 0).trans rfl
        have d1 : ((w9.setCell ⟨wr.heap.size, 0, none⟩ (.int .i64 N)).setCell ⟨wr.heap.size, 1, none⟩ (.slice A9 (es.length + 1) c9)).cell? ⟨wr.heap.size, 1, none⟩ = some (.slice A9 (es.length + 1) c9) := (cell_blk (Go.Proofs.YtnldfjoadmehcaaW.PrintWords.blk_put (cs := #[.int .i64 N, .slice none 0 0]) (Go.Proofs.YtnldfjoadmehcaaW.PrintWords.blk_put (cs := #[.int .i64 0, .slice none 0 0]) (newblk hb9) 0 _ rfl) 1 _ rfl) 1).trans rfl
        obtain ⟨g80, g81⟩ := GC.cells sg8
        obtain ⟨f80, f81⟩ := GC.froz sg8
        have SGN := Lib.hid (GC.store (m' := (N : Int)) sg8 own8)
        have HPN := Lib.hid (HCN.out hrb9 hlen9)
        clear sg8 own8 rw8
        go_wp2_with fail
        go_roundw
        case rel => exact ⟨k + 1, _, es9, by have := HLT.out; omega, by go_num, SGN, HPN⟩
        case measure => have := HLT.out; simp [intOf]; omega
    · obtain rfl : k = n := by omega
      have d : decide ((k : Int) < (k : Int)) = false := by rw [decide_eq_false_iff_not]; omega
      have HE := Lib.hid hR
      have HX : Hid (wr.cell? ⟨w.heap.size, 0, none⟩ = some (.int .i64 N) ∧ wr.cell? ⟨w.heap.size, 1, none⟩ = some (.slice A1 es.length c1)) := ⟨g0, g1⟩
      have HB := Lib.hid hsg.out.1
      clear hsg hR hlt hk hsz f0 f1
      go_wp2_with fail
      refine (sof_full (c := c1) (N : Int) wr HE.out).mono ?_
      rintro e w2 ⟨A6, n6, c6, xs, A7, n7, c7, r, er, rfl, rx, rr, hc7, hpl, hb2⟩
      have RX := Lib.hid rx
      have RR := Lib.hid rr
      have HC7 := Lib.hid hc7
      have HX2 := Lib.hid (later2 hb2 HX.out)
      have HE2 := Lib.hid (HE.out.below hb2)
      have HB2 := Lib.hid (bel_trans HB.out hb2)
      have HPL := Lib.hid hpl
      clear rx rr hc7 hpl hb2 g0 g1
      by_cases hev : k % 2 = 0
      · have q := cyc_yes hre.out.1 hre.out.2.2 hev hn3 HN.out.2.2.1 HPL.out
        obtain ⟨q1, q2, q3, q4⟩ := q
        subst q1 q4
        obtain rfl : n6 = N := by rw [← RX.out.1]; exact q2
        obtain rfl : n7 = 0 := RR.out.1.symm
        have tm1 : ((k : Int)).tmod 2 = 0 := by rw [Int.tmod_eq_emod_of_nonneg (by omega)]; omega
        have tm2 : ((k : Int)) % 2 = 0 := by omega
        go_wp2_with fail
        refine (HAW.out _).mono ?_
        rintro e w3 ⟨rfl, hb3⟩
        have HB3 := Lib.hid (bel_trans HB2.out hb3)
        obtain ⟨x0, x1⟩ := later2 hb3 HX2.out
        have hN1 : (0 : Int) ≤ 1 ∧ (1 : Int) < (n6 : Int) := by have := HN.out; omega
        obtain ⟨b, o, rfl, hc⟩ := (RX.out.below hb3).2.2 (by omega)
        have z1 := hc 1 (by omega)
        rw [q3] at z1
        clear hc hb3
        go_wp2_with fail
        go_ret
        exact ⟨rfl, HB3.out⟩
      · have q := cyc_no hre.out.1 hre.out.2.2 (by omega) hn3 HPL.out
        obtain ⟨q1, q2, q3, q4⟩ := q
        subst q1 q4
        obtain rfl : n6 = 0 := RX.out.1.symm
        obtain rfl : n7 = k := by rw [← RR.out.1]; exact q2
        have tm1 : ((n7 : Int)).tmod 2 = 1 := by rw [Int.tmod_eq_emod_of_nonneg (by omega)]; omega
        have tm2 : ((n7 : Int)) % 2 = 1 := by omega
        have hcy : ∀ W, RW w2 W → Calls Try.prog 62 #[.agg #[.int .i64 N, .slice A1 es.length c1], .slice A7 n7 c7] W fun e w' => e = .returned (.bool true) ∧ Below W.heap.size W w' := fun W r => by
          have := riscyc_any (c := c1) (N : Int) W (HE2.out.below r) (RR.out.below r) HC7.out
          rw [q3] at this
          exact this
        have HCY := Lib.hid hcy
        clear hcy q3
        go_wp2_with fail
        refine (HAW.out _).mono ?_
        rintro e w3 ⟨rfl, hb3⟩
        have HB3 := Lib.hid (bel_trans HB2.out hb3)
        have HR3 : Hid (RW w2 w3) := hb3
        obtain ⟨x0, x1⟩ := later2 hb3 HX2.out
        clear hb3
        go_wp2_with fail
        refine (HCY.out _ HR3.out).mono ?_
        rintro e w4 ⟨rfl, hb4⟩
        have HB4 := Lib.hid (bel_trans HB3.out hb4)
        clear hb4
        go_wp2_with fail
        go_ret
        exact ⟨rfl, HB4.out⟩

theorem sidesCycles_walk (k m : Int) (w : World) (_ : -9223372036854775808 ≤ k ∧ k ≤ 9223372036854775807) (_ : -9223372036854775808 ≤ m ∧ m ≤ 9223372036854775807) :
    Calls Try.prog 16 #[.int .i64 k, .int .i64 m] w fun e w' => e = .returned (.bool true) ∧ Below w.heap.size w w' := sidesCycles_any k m w

end Go.Proofs.Ytnldfjoadmehcaa
