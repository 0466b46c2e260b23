/- TopEfforts -/
import Derived.Test.YtbnipgajhpbolaaGreatDoorTe47
import Derived.Test.YtbnipgajhpbolaaGreatDoorTe48
import Derived.Test.YtbnipgajhpbolaaGreatDoorTe06
import Derived.Test.YtbnipgajhpbolaaGreatDoorTe49
set_option linter.unusedVariables false
set_option linter.unusedSimpArgs false
namespace Go.Proofs.YtbnipgajhpbolaaGreatDoor

section
open Go.RowKit
theorem itoa_small {w : World} {M : Int} (hM : M < 100) : ItoaL w M := fun n W h0 h1 _ => by
  obtain ⟨i, rfl⟩ : ∃ i : Nat, n = i := ⟨n.toNat, by omega⟩
  have hi : i < 100 := by omega
  refine (Tryz.strconv_Itoa_small i hi W).mono fun e w' q => ?_
  obtain ⟨rfl, rfl⟩ := q
  refine ⟨⟨_, rfl, ?_⟩, Below.refl _ _⟩
  show (Lib.decDigits i).toArray.size ≤ 20
  rw [List.size_toArray, Lib.decDigits_length]
  by_cases h : i < 10
  · rw [Lib.nDigits_small h]; decide
  · rw [Lib.nDigits_big h, Lib.nDigits_small (by omega)]; decide

theorem eff_nums0 {rd lk rd2 lk2 : Int} (r1 : 0 ≤ rd) (r3 : 0 ≤ lk) (q1 : 0 ≤ rd2) (q3 : 0 ≤ lk2) : decide (0 ≤ rd) = true ∧ decide (0 ≤ lk) = true ∧ decide (0 ≤ rd2) = true ∧ decide (0 ≤ lk2) = true := ⟨decide_eq_true r1, decide_eq_true r3, decide_eq_true q1, decide_eq_true q3⟩
theorem eff_nums1 {M E : Nat} (hM : M ≤ 400) (hE : E ≤ 400) : IntKind.i64.wrap ((M : Int) + 1) = (M : Int) + 1 ∧ IntKind.i64.wrap (8 * (E : Int)) = 8 * (E : Int) ∧ IntKind.i64.wrap (32 * (E : Int)) = 32 * (E : Int) ∧ wrap64 (8 * (E : Int)) = 8 * (E : Int) ∧ wrap64 (32 * (E : Int)) = 32 * (E : Int) ∧ wrap64 ((M : Int) / 2 + 1) = (M : Int) / 2 + 1 ∧ IntKind.i64.wrap ((M : Int) / 2 + 1) = (M : Int) / 2 + 1 ∧ wrap64 ((M : Int) / 2) = (M : Int) / 2 := by
  refine ⟨?_, ?_, ?_, ?_, ?_, ?_, ?_, ?_⟩
  · rw [IntKind.wrap_i64]; omega
  · rw [IntKind.wrap_i64]; omega
  · rw [IntKind.wrap_i64]; omega
  · unfold wrap64; omega
  · unfold wrap64; omega
  · unfold wrap64; omega
  · rw [IntKind.wrap_i64]; omega
  · unfold wrap64; omega
theorem eff_nums2 {M E : Nat} {rd lk rd2 lk2 : Int} (r2 : 2 * rd ≤ M + 2) (r4 : lk ≤ 2 * E) (q2 : 2 * rd2 ≤ M + 2) (q4 : lk2 ≤ 4 * E) : decide (rd ≤ (M : Int) + 1) = true ∧ decide (lk ≤ 8 * (E : Int)) = true ∧ decide (rd2 ≤ (M : Int) / 2 + 1) = true ∧ decide (lk2 ≤ 32 * (E : Int)) = true :=
  ⟨decide_eq_true (by omega), decide_eq_true (by omega), decide_eq_true (by omega), decide_eq_true (by omega)⟩

set_option maxHeartbeats 32000000 in
set_option maxRecDepth 100000 in
theorem topEff_any {A : Option Addr} {n c : Nat} {zs : List Int} {mx : Int} (N S C : Int) (w : World) (h : ReadI w A n zs) (hm : w.cell? ⟨0, 0, none⟩ = some (.int .i64 mx)) :
    Calls Tryz.prog 5 #[.int .i64 N, .int .i64 S, .int .i64 C, .slice A n c] w fun e w' => e = .returned (.bool true) ∧ Below w.heap.size w w' := by
  have HH := Lib.hid h
  have HM := Lib.hid hm
  have hlo := long_any N S C w
  clear h hm
  go_enter Tryz.func5, Tryz.ntmps5
  go_wp2_with fail
  refine hlo.mono ?_
  rintro e w1 ⟨g, m, es, rfl, m1, m2, m3, m4, v, rfl, o1, hb1⟩
  clear hlo
  obtain ⟨M, rfl⟩ : ∃ M : Nat, m = M := ⟨m.toNat, by omega⟩
  obtain ⟨A1, c1, rfl, -, -, -⟩ := OwnE.read o1
  have hba := bel_alloc w1 (.cells #[.int .i64 M, .slice A1 es.length c1] 25)
  have hnw := heap_alloc_new w1 (.cells #[.int .i64 M, .slice A1 es.length c1] 25)
  have HG : Hid ((w1.alloc (.cells #[.int .i64 M, .slice A1 es.length c1] 25)).heap[w1.heap.size]? = some (.cells #[.int .i64 M, .slice A1 es.length c1] 25 (0, 0)) ∧ OwnE (w1.alloc (.cells #[.int .i64 M, .slice A1 es.length c1] 25)) w.heap.size (.slice A1 es.length c1) es ∧ Below w.heap.size w (w1.alloc (.cells #[.int .i64 M, .slice A1 es.length c1] 25)) ∧ rightB M es = true ∧ M ≤ 400 ∧ es.length ≤ 400) := ⟨hnw, row_below (row_weaken o1 (by omega)) hba, bel_trans hb1 hba, m4, by omega, m3⟩
  have HZ : Hid (w.heap.size ≤ w1.heap.size) := hb1.size
  clear o1 hba hnw m4 m1 m2 m3 hb1
  by_cases hn : 2 < n
  · have t0 : decide (2 < (n : Int)) = true := decide_eq_true (by omega)
    clear hn
    go_wp2_with fail
    generalize (w1.alloc (.cells #[.int .i64 M, .slice A1 es.length c1] 25)) = w2 at *
    refine (small_any (c := c) N 60 90 w2 (HH.out.below HG.out.2.2.1) (by decide) (by decide)).mono ?_
    rintro e w3 ⟨g3, m', es', rfl, m1, m2, m3, m4, v3, rfl, o3, hb3⟩
    obtain ⟨M', rfl⟩ : ∃ M' : Nat, m' = M' := ⟨m'.toNat, by omega⟩
    obtain ⟨A3, c3, rfl, -, -, -⟩ := OwnE.read o3
    have hg3 := blk_later HG.out.1 hb3
    have hlt := blk_lt HG.out.1
    have HG3 := Lib.hid hg3
    have d0 : w3.cell? ⟨w1.heap.size, 0, none⟩ = some (.int .i64 M) := (cell_blk hg3 0).trans rfl
    have d1 : w3.cell? ⟨w1.heap.size, 1, none⟩ = some (.slice A1 es.length c1) := (cell_blk hg3 1).trans rfl
    have f0 := frozen_blk hg3 0
    have f1 := frozen_blk hg3 1
    have HG4 : Hid (((w3.setCell ⟨w1.heap.size, 0, none⟩ (.int .i64 M')).setCell ⟨w1.heap.size, 1, none⟩ (.slice A3 es'.length c3)).heap[w1.heap.size]? = some (.cells #[.int .i64 M', .slice A3 es'.length c3] 25 (0, 0)) ∧ OwnE ((w3.setCell ⟨w1.heap.size, 0, none⟩ (.int .i64 M')).setCell ⟨w1.heap.size, 1, none⟩ (.slice A3 es'.length c3)) w.heap.size (.slice A3 es'.length c3) es' ∧ Below w.heap.size w ((w3.setCell ⟨w1.heap.size, 0, none⟩ (.int .i64 M')).setCell ⟨w1.heap.size, 1, none⟩ (.slice A3 es'.length c3)) ∧ rightB M' es' = true ∧ M' ≤ 400 ∧ es'.length ≤ 400) := by
      have hz := HZ.out
      have hb := Below.trans HG.out.2.2.1 (hb3.mono HG.out.2.2.1.size)
      refine ⟨Go.Proofs.YtbnipgajhpbolaaGreatDoorW.PrintWords.blk_put (cs := #[.int .i64 M', .slice A1 es.length c1]) (Go.Proofs.YtbnipgajhpbolaaGreatDoorW.PrintWords.blk_put hg3 0 _ rfl) 1 _ rfl, row_weaken (own_set2 o3 (by omega)) (by omega), ?_, m4, by omega, by omega⟩
      exact Below.setCell (p := ⟨w1.heap.size, 1, none⟩) (Below.setCell (p := ⟨w1.heap.size, 0, none⟩) hb hz _) hz _
    clear hg3 hlt HG
    go_wp2_with fail
    clear d0 d1 f0 f1 HG3 o3 hb3 m1 m2 m3 m4
    generalize ((w3.setCell ⟨w1.heap.size, 0, none⟩ (.int .i64 M')).setCell ⟨w1.heap.size, 1, none⟩ (.slice A3 es'.length c3)) = w4 at *
    have hg4 := HG4.out.1
    have k0 : w4.cell? ⟨w1.heap.size, 0, none⟩ = some (.int .i64 M') := (cell_blk hg4 0).trans rfl
    have k1 : w4.cell? ⟨w1.heap.size, 1, none⟩ = some (.slice A3 es'.length c3) := (cell_blk hg4 1).trans rfl
    have HRD : Hid (ReadE w4 A3 es'.length es') := by
      obtain ⟨A', c', e, -, -, r⟩ := OwnE.read HG4.out.2.1
      simp only [Value.slice.injEq] at e
      obtain ⟨rfl, -, -⟩ := e
      exact r
    clear hg4
    have hsl := slargest_any (c := c3) (N := M') w4 HRD.out HG4.out.2.2.2.1
    refine hsl.mono ?_
    rintro e w5 ⟨av, rd, lk, ms, t, rfl, o5, k5, hb5, r1, r2, r3, r4, i5, d5⟩
    clear k0 k1 hsl
    have hb6 := bel_trans hb5 (bel_alloc w5 (.cells #[.int .i64 rd, .int .i64 lk] 50))
    have HX6 := Lib.hid (heap_alloc_new w5 (.cells #[.int .i64 rd, .int .i64 lk] 50))
    have HO6 := Lib.hid (own_later o5 (bel_alloc w5 (.cells #[.int .i64 rd, .int .i64 lk] 50)))
    have HK5 := Lib.hid (And.intro k5 (And.intro i5 d5))
    have HR5 := Lib.hid (And.intro r1 (And.intro r2 (And.intro r3 r4)))
    have hg6 := blk_later HG4.out.1 hb6
    have HB6 := Lib.hid hb6
    have HG6 := Lib.hid hg6
    have k0 : (w5.alloc (.cells #[.int .i64 rd, .int .i64 lk] 50)).cell? ⟨w1.heap.size, 0, none⟩ = some (.int .i64 M') := (cell_blk hg6 0).trans rfl
    have k1 : (w5.alloc (.cells #[.int .i64 rd, .int .i64 lk] 50)).cell? ⟨w1.heap.size, 1, none⟩ = some (.slice A3 es'.length c3) := (cell_blk hg6 1).trans rfl
    have hpl := plargest_any (c := c3) (N := M') (w5.alloc (.cells #[.int .i64 rd, .int .i64 lk] 50)) (HRD.out.below hb6) HG4.out.2.2.2.1
    clear o5 k5 hb5 r1 r2 r3 r4 i5 d5 hb6 hg6
    go_wp2_with fail
    refine hpl.mono ?_
    rintro e w7 ⟨bv, rd2, lk2, ms2, t2, rfl, o7, k7, hb7, q1, q2, q3, q4, i7, d7⟩
    clear k0 k1 hpl
    have hb8 := bel_trans hb7 (bel_alloc w7 (.cells #[.int .i64 rd2, .int .i64 lk2] 50))
    have HY8 := Lib.hid (heap_alloc_new w7 (.cells #[.int .i64 rd2, .int .i64 lk2] 50))
    have HO8 := Lib.hid (And.intro (own_later HO6.out hb8) (own_later o7 (bel_alloc w7 (.cells #[.int .i64 rd2, .int .i64 lk2] 50))))
    have HK7 := Lib.hid (And.intro k7 (And.intro i7 d7))
    have HR7 := Lib.hid (And.intro q1 (And.intro q2 (And.intro q3 q4)))
    have HB8 := Lib.hid (bel_trans HB6.out hb8)
    have HG8 := Lib.hid (blk_later HG6.out hb8)
    have HX8 := Lib.hid (blk_later HX6.out hb8)
    clear o7 k7 hb7 q1 q2 q3 q4 i7 d7 hb8
    have hAW := awake_any (mx := mx) (w7.alloc (.cells #[.int .i64 rd2, .int .i64 lk2] 50)) (cell_later (bel_trans HG4.out.2.2.1 HB8.out) HM.out) (fun W _ => itoa_small (by decide))
    have HS : Hid ((edgesM ms).length = (edgesM ms2).length) := top_same (rightB_iff.1 HG4.out.2.2.2.1).2.2.2 HK5.out.1 HK7.out.1 HK5.out.2.1 HK5.out.2.2 HK7.out.2.1 HK7.out.2.2
    go_wp2_with fail
    refine hAW.mono ?_
    rintro e w9 ⟨rfl, hb9⟩
    have HB9 := Lib.hid (bel_trans HB8.out hb9)
    have hg9 := blk_later HG8.out hb9
    have hx9 := blk_later HX8.out hb9
    have hy9 := blk_later HY8.out hb9
    have ho9 := And.intro (own_later HO8.out.1 hb9) (own_later HO8.out.2 hb9)
    clear hAW hb9
    go_wp2_with fail
    obtain ⟨B1, d1, rfl, -, -, hr1⟩ := OwnI.read ho9.1
    obtain ⟨B2, d2, rfl, -, -, hr2⟩ := OwnI.read ho9.2
    have HL1 : Hid (ms.length ≤ 1000000 ∧ ms2.length ≤ 1000000) := by
      have h1 := HK5.out.1.1
      have h2 := HK7.out.1.1
      have h3 := HG4.out.2.2.2.2.1
      exact ⟨by omega, by omega⟩
    have HR2 := Lib.hid hr2
    have HE9 := Lib.hid (And.intro hg9 (And.intro hx9 hy9))
    clear ho9 hr2 hg9 hx9 hy9
    have hs1 := rsize_any (c := d1) w9 hr1 HL1.out.1
    clear hr1
    refine hs1.mono ?_
    rintro e w10 ⟨rfl, hb10⟩
    have hs2 := rsize_any (c := d2) w10 (HR2.out.below hb10) HL1.out.2
    clear hs1
    go_wp2_with fail
    refine hs2.mono ?_
    rintro e w11 ⟨rfl, hb11⟩
    rw [← HS.out]
    have hb := bel_trans hb10 hb11
    have HB11 := Lib.hid (bel_trans HG4.out.2.2.1 (bel_trans HB9.out hb))
    have hg := blk_later HE9.out.1 hb
    have hx := blk_later HE9.out.2.1 hb
    have hy := blk_later HE9.out.2.2 hb
    have x0 : w11.cell? ⟨w5.heap.size, 0, none⟩ = some (.int .i64 rd) := (cell_blk hx 0).trans rfl
    have x1 : w11.cell? ⟨w5.heap.size, 1, none⟩ = some (.int .i64 lk) := (cell_blk hx 1).trans rfl
    have y0 : w11.cell? ⟨w7.heap.size, 0, none⟩ = some (.int .i64 rd2) := (cell_blk hy 0).trans rfl
    have y1 : w11.cell? ⟨w7.heap.size, 1, none⟩ = some (.int .i64 lk2) := (cell_blk hy 1).trans rfl
    have g0 : w11.cell? ⟨w1.heap.size, 0, none⟩ = some (.int .i64 M') := (cell_blk hg 0).trans rfl
    have g1 : w11.cell? ⟨w1.heap.size, 1, none⟩ = some (.slice A3 es'.length c3) := (cell_blk hg 1).trans rfl
    obtain ⟨r1, r2, r3, r4⟩ := HR5.out
    obtain ⟨q1, q2, q3, q4⟩ := HR7.out
    have hM := HG4.out.2.2.2.2
    generalize es'.length = E at *
    generalize (edgesM ms).length = K at *
    obtain ⟨u1, u2, u3, u4⟩ := eff_nums0 r1 r3 q1 q3
    obtain ⟨v1, v2, v3, v4, v5, v6, v7, v8⟩ := eff_nums1 (M := M') (E := E) hM.1 hM.2
    obtain ⟨u5, u6, u7, u8⟩ := eff_nums2 (M := M') (E := E) r2 r4 q2 q4
    clear hs2 hg hx hy hb hb10 hb11 r1 r2 r3 r4 q1 q2 q3 q4 HS HR5 HR7 hM HL1 HR2 HE9
    go_wp2_with fail
    go_ret
    exact ⟨rfl, HB11.out⟩
  · have t0 : decide (2 < (n : Int)) = false := decide_eq_false (by omega)
    clear hn
    go_wp2_with fail
    generalize (w1.alloc (.cells #[.int .i64 M, .slice A1 es.length c1] 25)) = w4 at *
    obtain ⟨M', hM⟩ : ∃ M', M' = M := ⟨M, rfl⟩
    subst hM
    obtain ⟨es', hE⟩ : ∃ es', es' = es := ⟨es, rfl⟩
    subst hE
    obtain ⟨A3, hA⟩ : ∃ A3, A3 = A1 := ⟨A1, rfl⟩
    subst hA
    obtain ⟨c3, hC⟩ : ∃ c3, c3 = c1 := ⟨c1, rfl⟩
    subst hC
    have HG4 := HG
    clear HG
    have hg4 := HG4.out.1
    have k0 : w4.cell? ⟨w1.heap.size, 0, none⟩ = some (.int .i64 M') := (cell_blk hg4 0).trans rfl
    have k1 : w4.cell? ⟨w1.heap.size, 1, none⟩ = some (.slice A3 es'.length c3) := (cell_blk hg4 1).trans rfl
    have HRD : Hid (ReadE w4 A3 es'.length es') := by
      obtain ⟨A', c', e, -, -, r⟩ := OwnE.read HG4.out.2.1
      simp only [Value.slice.injEq] at e
      obtain ⟨rfl, -, -⟩ := e
      exact r
    clear hg4
    have hsl := slargest_any (c := c3) (N := M') w4 HRD.out HG4.out.2.2.2.1
    refine hsl.mono ?_
    rintro e w5 ⟨av, rd, lk, ms, t, rfl, o5, k5, hb5, r1, r2, r3, r4, i5, d5⟩
    clear k0 k1 hsl
    have hb6 := bel_trans hb5 (bel_alloc w5 (.cells #[.int .i64 rd, .int .i64 lk] 50))
    have HX6 := Lib.hid (heap_alloc_new w5 (.cells #[.int .i64 rd, .int .i64 lk] 50))
    have HO6 := Lib.hid (own_later o5 (bel_alloc w5 (.cells #[.int .i64 rd, .int .i64 lk] 50)))
    have HK5 := Lib.hid (And.intro k5 (And.intro i5 d5))
    have HR5 := Lib.hid (And.intro r1 (And.intro r2 (And.intro r3 r4)))
    have hg6 := blk_later HG4.out.1 hb6
    have HB6 := Lib.hid hb6
    have HG6 := Lib.hid hg6
    have k0 : (w5.alloc (.cells #[.int .i64 rd, .int .i64 lk] 50)).cell? ⟨w1.heap.size, 0, none⟩ = some (.int .i64 M') := (cell_blk hg6 0).trans rfl
    have k1 : (w5.alloc (.cells #[.int .i64 rd, .int .i64 lk] 50)).cell? ⟨w1.heap.size, 1, none⟩ = some (.slice A3 es'.length c3) := (cell_blk hg6 1).trans rfl
    have hpl := plargest_any (c := c3) (N := M') (w5.alloc (.cells #[.int .i64 rd, .int .i64 lk] 50)) (HRD.out.below hb6) HG4.out.2.2.2.1
    clear o5 k5 hb5 r1 r2 r3 r4 i5 d5 hb6 hg6
    go_wp2_with fail
    refine hpl.mono ?_
    rintro e w7 ⟨bv, rd2, lk2, ms2, t2, rfl, o7, k7, hb7, q1, q2, q3, q4, i7, d7⟩
    clear k0 k1 hpl
    have hb8 := bel_trans hb7 (bel_alloc w7 (.cells #[.int .i64 rd2, .int .i64 lk2] 50))
    have HY8 := Lib.hid (heap_alloc_new w7 (.cells #[.int .i64 rd2, .int .i64 lk2] 50))
    have HO8 := Lib.hid (And.intro (own_later HO6.out hb8) (own_later o7 (bel_alloc w7 (.cells #[.int .i64 rd2, .int .i64 lk2] 50))))
    have HK7 := Lib.hid (And.intro k7 (And.intro i7 d7))
    have HR7 := Lib.hid (And.intro q1 (And.intro q2 (And.intro q3 q4)))
    have HB8 := Lib.hid (bel_trans HB6.out hb8)
    have HG8 := Lib.hid (blk_later HG6.out hb8)
    have HX8 := Lib.hid (blk_later HX6.out hb8)
    clear o7 k7 hb7 q1 q2 q3 q4 i7 d7 hb8
    have hAW := awake_any (mx := mx) (w7.alloc (.cells #[.int .i64 rd2, .int .i64 lk2] 50)) (cell_later (bel_trans HG4.out.2.2.1 HB8.out) HM.out) (fun W _ => itoa_small (by decide))
    have HS : Hid ((edgesM ms).length = (edgesM ms2).length) := top_same (rightB_iff.1 HG4.out.2.2.2.1).2.2.2 HK5.out.1 HK7.out.1 HK5.out.2.1 HK5.out.2.2 HK7.out.2.1 HK7.out.2.2
    go_wp2_with fail
    refine hAW.mono ?_
    rintro e w9 ⟨rfl, hb9⟩
    have HB9 := Lib.hid (bel_trans HB8.out hb9)
    have hg9 := blk_later HG8.out hb9
    have hx9 := blk_later HX8.out hb9
    have hy9 := blk_later HY8.out hb9
    have ho9 := And.intro (own_later HO8.out.1 hb9) (own_later HO8.out.2 hb9)
    clear hAW hb9
    go_wp2_with fail
    obtain ⟨B1, d1, rfl, -, -, hr1⟩ := OwnI.read ho9.1
    obtain ⟨B2, d2, rfl, -, -, hr2⟩ := OwnI.read ho9.2
    have HL1 : Hid (ms.length ≤ 1000000 ∧ ms2.length ≤ 1000000) := by
      have h1 := HK5.out.1.1
      have h2 := HK7.out.1.1
      have h3 := HG4.out.2.2.2.2.1
      exact ⟨by omega, by omega⟩
    have HR2 := Lib.hid hr2
    have HE9 := Lib.hid (And.intro hg9 (And.intro hx9 hy9))
    clear ho9 hr2 hg9 hx9 hy9
    have hs1 := rsize_any (c := d1) w9 hr1 HL1.out.1
    clear hr1
    refine hs1.mono ?_
    rintro e w10 ⟨rfl, hb10⟩
    have hs2 := rsize_any (c := d2) w10 (HR2.out.below hb10) HL1.out.2
    clear hs1
    go_wp2_with fail
    refine hs2.mono ?_
    rintro e w11 ⟨rfl, hb11⟩
    rw [← HS.out]
    have hb := bel_trans hb10 hb11
    have HB11 := Lib.hid (bel_trans HG4.out.2.2.1 (bel_trans HB9.out hb))
    have hg := blk_later HE9.out.1 hb
    have hx := blk_later HE9.out.2.1 hb
    have hy := blk_later HE9.out.2.2 hb
    have x0 : w11.cell? ⟨w5.heap.size, 0, none⟩ = some (.int .i64 rd) := (cell_blk hx 0).trans rfl
    have x1 : w11.cell? ⟨w5.heap.size, 1, none⟩ = some (.int .i64 lk) := (cell_blk hx 1).trans rfl
    have y0 : w11.cell? ⟨w7.heap.size, 0, none⟩ = some (.int .i64 rd2) := (cell_blk hy 0).trans rfl
    have y1 : w11.cell? ⟨w7.heap.size, 1, none⟩ = some (.int .i64 lk2) := (cell_blk hy 1).trans rfl
    have g0 : w11.cell? ⟨w1.heap.size, 0, none⟩ = some (.int .i64 M') := (cell_blk hg 0).trans rfl
    have g1 : w11.cell? ⟨w1.heap.size, 1, none⟩ = some (.slice A3 es'.length c3) := (cell_blk hg 1).trans rfl
    obtain ⟨r1, r2, r3, r4⟩ := HR5.out
    obtain ⟨q1, q2, q3, q4⟩ := HR7.out
    have hM := HG4.out.2.2.2.2
    generalize es'.length = E at *
    generalize (edgesM ms).length = K at *
    obtain ⟨u1, u2, u3, u4⟩ := eff_nums0 r1 r3 q1 q3
    obtain ⟨v1, v2, v3, v4, v5, v6, v7, v8⟩ := eff_nums1 (M := M') (E := E) hM.1 hM.2
    obtain ⟨u5, u6, u7, u8⟩ := eff_nums2 (M := M') (E := E) r2 r4 q2 q4
    clear hs2 hg hx hy hb hb10 hb11 r1 r2 r3 r4 q1 q2 q3 q4 HS HR5 HR7 hM HL1 HR2 HE9
    go_wp2_with fail
    go_ret
    exact ⟨rfl, HB11.out⟩
end

end Go.Proofs.YtbnipgajhpbolaaGreatDoor
