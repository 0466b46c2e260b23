/- The walk of play.Long -/
import Derived.Test.YtbnipgajhpbolaaGreatDoorTe06
import Derived.Test.YtbnipgajhpbolaaGreatDoorTe28
import Derived.Test.YtbnipgajhpbolaaGreatDoorTe07
set_option linter.unusedVariables false
set_option linter.unusedSimpArgs false
namespace Go.Proofs.YtbnipgajhpbolaaGreatDoor

section
open Go.RowKit
theorem SG.low {w W W' : World} {m : Int} (h : SG w m (.slice none 0 0) [] W) (g : Below (w.heap.size + 2) W W') : SG w m (.slice none 0 0) [] W' := by
  obtain ⟨h1, h2, h3, h4, h5⟩ := h
  exact ⟨Below.trans h1 (Below.mono g (by omega)), by have := g.size; omega, (g.block _ (by omega)).trans h3, (g.block _ (by omega)).trans h4, OwnE.nil _ _⟩

set_option maxHeartbeats 16000000 in
set_option maxRecDepth 100000 in
theorem long_any (N S C : Int) (w : World) :
    Calls Tryz.prog 14 #[.int .i64 N, .int .i64 S, .int .i64 C] w fun e w' => ∃ g m es, e = .returned g ∧ 3 ≤ m ∧ m ≤ 302 ∧ es.length ≤ 400 ∧ rightB m es = true ∧ RetG w w' (w.heap.size + 2) g m es := by
  have hm : 0 ≤ wrap64 ((IntKind.u64.wrap N).tmod 300) ∧ wrap64 ((IntKind.u64.wrap N).tmod 300) < 300 := by
    have h0 : 0 ≤ IntKind.u64.wrap N := by rw [IntKind.wrap_u64]; omega
    have h1 := Int.tmod_lt_of_pos (IntKind.u64.wrap N) (show (0 : Int) < 300 by omega)
    have h2 := Int.tmod_nonneg 300 h0
    unfold wrap64
    omega
  have hc : 0 ≤ wrap64 ((IntKind.u64.wrap C).tmod 60) ∧ wrap64 ((IntKind.u64.wrap C).tmod 60) < 60 := by
    have h0 : 0 ≤ IntKind.u64.wrap C := by rw [IntKind.wrap_u64]; omega
    have h1 := Int.tmod_lt_of_pos (IntKind.u64.wrap C) (show (0 : Int) < 60 by omega)
    have h2 := Int.tmod_nonneg 60 h0
    unfold wrap64
    omega
  go_enter Tryz.func14, Tryz.ntmps14
  go_wp2_with fail
  obtain ⟨cc, hcc⟩ : ∃ cc : Nat, wrap64 ((IntKind.u64.wrap C).tmod 60) = (cc : Int) := ⟨(wrap64 ((IntKind.u64.wrap C).tmod 60)).toNat, by omega⟩
  have hc : cc < 60 := by omega
  obtain ⟨m, hmm⟩ : ∃ m : Nat, 3 + wrap64 ((IntKind.u64.wrap N).tmod 300) = (m : Int) := ⟨(3 + wrap64 ((IntKind.u64.wrap N).tmod 300)).toNat, by omega⟩
  rw [hmm]
  have hm3 : 3 ≤ m ∧ m ≤ 302 := by omega
  obtain ⟨q, hqq⟩ : ∃ q : Nat, wrap64 (2 + wrap64 ((IntKind.u64.wrap S).tmod (m : Int))) = (q : Int) ∧ q ≤ 400 := by
    have h0 : 0 ≤ IntKind.u64.wrap S := by rw [IntKind.wrap_u64]; omega
    have h1 := Int.tmod_lt_of_pos (IntKind.u64.wrap S) (show (0 : Int) < m by omega)
    have h2 := Int.tmod_nonneg (m : Int) h0
    refine ⟨(wrap64 (2 + wrap64 ((IntKind.u64.wrap S).tmod (m : Int)))).toNat, ?_, ?_⟩
    · unfold wrap64; omega
    · unfold wrap64; omega
  rw [hqq.1]
  have HQ := Lib.hid hqq.2
  clear hqq
  have hs0 : SG w m (.slice none 0 0) [] ((w.alloc (gcells 0 none 0 0)).alloc (gcells m none 0 0)) := by
    have e : (w.alloc (gcells 0 none 0 0)).heap.size = w.heap.size + 1 := by simp
    refine ⟨Below.alloc (Below.alloc (Below.refl _ _) (Nat.le_refl _) _) (by simp) _, by simp, ?_, ?_, OwnE.nil _ _⟩
    · rw [heap_alloc_old _ _ (show w.heap.size < (w.alloc (gcells 0 none 0 0)).heap.size by simp)]
      exact heap_alloc_new _ _
    · have := heap_alloc_new (w.alloc (gcells 0 none 0 0)) (gcells m none 0 0)
      rwa [e] at this
  have hr0 : rightB m [] = true := by
    unfold rightB
    simp [allTo]
    omega
  have HS0 := Lib.hid hs0
  have HM := Lib.hid hm3
  have HC := Lib.hid hc
  have hm0 : ¬ m = 0 := by omega
  clear hs0 hmm hm hc hm3
  generalize ((w.alloc (gcells 0 none 0 0)).alloc (gcells m none 0 0)) = w0 at *
  go_loopw [7, 9] (fun v7 i wr => ∃ (k : Nat) (l : List Ed), k ≤ 302 ∧ i = .int .i64 k ∧ Hid ((k : Int) ≤ m) ∧ Hid (SG w m (.slice none 0 0) [] wr ∧ OwnE wr (w.heap.size + 2) v7 l ∧ l.length = k)) (fun _ i _ => 302 - (intOf i).toNat)
  case atStart => exact ⟨0, [], by omega, rfl, by have := HM.out; unfold Hid; omega, HS0.out, OwnE.nil _ _, rfl⟩
  case round =>
    obtain ⟨k, l, hk, rfl, hkm, hin⟩ := hrel
    obtain ⟨A7, c7, rfl, -, -, -⟩ := OwnE.read hin.out.2.1
    by_cases q1 : k < m
    · have Q1 := Lib.hid q1
      have hk1 : IntKind.i64.wrap ((k : Int) + 1) = (k : Int) + 1 := by rw [IntKind.wrap_i64]; omega
      have hk2 : wrap64 ((k : Int) + 1) = (k : Int) + 1 := by unfold wrap64; omega
      have HOL := Lib.hid hin.out.2.1
      have HLL := Lib.hid hin.out.2.2
      generalize hll : l.length = n7 at *
      have HLN := Lib.hid hll
      have HKL := Lib.hid hk
      have HSG := Lib.hid hin.out.1
      clear hll hk hin
      go_wp2_with (at_builtin; refine list_appE (w.heap.size + 2) rfl _ _ rfl (.slice A7 n7 c7) l [_] rfl (own_alloc HOL.out _) (by have := HSG.out.2.1; simp; omega) _ 1 1 rfl (readE_new _ _ _ _) (by have h0 := HLN.out; have h1 := HLL.out; have h2 := HKL.out; omega) ?_; intro v1 w11 o1 g1 a1)
      have HG : Hid (Below (w.heap.size + 2) wr w11) := by
        have h1 := HSG.out.2.1
        have hb := bel_alloc wr (.cells #[.int .i64 (k : Int), .int .i64 (((k : Int) + 1) % (m : Int))] 57)
        refine ⟨g1.os.trans hb.os, g1.tape.trans hb.tape, g1.output.trans hb.output, Nat.le_trans hb.size g1.size, fun q hq => ?_⟩
        rw [g1.block q (by have := hb.size; omega) (fun e => by have := (World.ownsRow.lt HOL.out q e.symm).1; omega)]
        exact hb.block q (by omega)
      have HI : Hid (SG w m (.slice none 0 0) [] w11 ∧ OwnE w11 (w.heap.size + 2) v1 (l ++ [((k : Int), ((k : Int) + 1) % m)]) ∧ (l ++ [((k : Int), ((k : Int) + 1) % m)]).length = k + 1) := by
        refine ⟨HSG.out.low HG.out, o1, ?_⟩
        have := HLL.out
        have := HLN.out
        simp
        omega
      clear o1 g1 a1
      go_wp2_with fail
      go_roundw
      case rel => exact ⟨k + 1, _, by have := Q1.out; have := HM.out; omega, by go_num, by have := Q1.out; unfold Hid; omega, HI⟩
      case measure => have := Q1.out; have := HM.out; simp only [intOf, Int.toNat_natCast]; omega
    · have q1' : m ≤ k := by omega
      have HI0 : Hid (SG w m (.slice none 0 0) [] wr ∧ ∃ l' : List Ed, OwnE wr (w.heap.size + 2) (.slice A7 l.length c7) l' ∧ l'.length = k + 0) := ⟨hin.out.1, l, hin.out.2.1, hin.out.2.2⟩
      have HKL := Lib.hid hk
      clear q1 hk hin
      generalize l.length = n7 at *
      go_wp2_with fail
      clear q1'
      generalize decide (k < m) = d30 at *
      go_loopw [7, 10] (fun v7 i wr => ∃ (j : Nat) (l : List Ed), j ≤ 60 ∧ i = .int .i64 j ∧ Hid (SG w m (.slice none 0 0) [] wr ∧ OwnE wr (w.heap.size + 2) v7 l ∧ l.length = k + j)) (fun _ i _ => 60 - (intOf i).toNat)
      case atStart =>
        obtain ⟨h1, l', h2, h3⟩ := HI0.out
        exact ⟨0, l', by omega, rfl, h1, h2, h3⟩
      case round =>
        clear HI0
        obtain ⟨j, l, hj, rfl, hin⟩ := hrel
        obtain ⟨A8, c8, rfl, -, -, -⟩ := OwnE.read hin.out.2.1
        by_cases q2 : j < cc
        · have Q2 := Lib.hid q2
          have hj2 : IntKind.i64.wrap ((j : Int) + 1) = (j : Int) + 1 := by rw [IntKind.wrap_i64]; omega
          have HOL := Lib.hid hin.out.2.1
          have HLL := Lib.hid hin.out.2.2
          generalize hll : l.length = n8 at *
          have HLN := Lib.hid hll
          have HSG := Lib.hid hin.out.1
          have HJ := Lib.hid hj
          have hq4 := HQ.out
          have hm3 := HM.out
          obtain ⟨r1, hr1⟩ : ∃ r, r = (j * 7) % m := ⟨_, rfl⟩
          obtain ⟨r2, hr2⟩ : ∃ r, r = (j * 7 + q) % m := ⟨_, rfl⟩
          have hrm1 : r1 < m := by rw [hr1]; exact Nat.mod_lt _ (by omega)
          have hrm2 : r2 < m := by rw [hr2]; exact Nat.mod_lt _ (by omega)
          have s7 : IntKind.i64.wrap ((j : Int) * 7) = (j : Int) * 7 := by rw [IntKind.wrap_i64]; omega
          have s8 : IntKind.i64.wrap ((j : Int) * 7 + (q : Int)) = (j : Int) * 7 + (q : Int) := by rw [IntKind.wrap_i64]; omega
          have tm1 : ((j : Int) * 7).tmod (m : Int) = (r1 : Int) := by rw [hr1, Int.tmod_eq_emod_of_nonneg (by omega)]; simp
          have tm2 : ((j : Int) * 7) % (m : Int) = (r1 : Int) := by rw [hr1]; simp
          have tm3 : ((j : Int) * 7 + (q : Int)).tmod (m : Int) = (r2 : Int) := by rw [hr2, Int.tmod_eq_emod_of_nonneg (by omega)]; simp
          have tm4 : ((j : Int) * 7 + (q : Int)) % (m : Int) = (r2 : Int) := by rw [hr2]; simp
          have ew2 : IntKind.i64.wrap (r1 : Int) = (r1 : Int) := by rw [IntKind.wrap_i64]; omega
          have ew3 : IntKind.i64.wrap (r2 : Int) = (r2 : Int) := by rw [IntKind.wrap_i64]; omega
          clear hr1 hr2 hrm1 hrm2 hq4 hm3
          clear hll hj hin
          go_wp2_with fail
          go_region_law (first
            | (refine step_appE (w.heap.size + 2) (by rfl) _ _ (by rfl) (.slice A8 n8 c8) l [_] (by rfl) (own_alloc_d HOL.out _) (by have := HSG.out.2.1; simp; omega) _ 1 1 (by rfl) (ReadE.box1d _ _ _ _) (by have h0 := HLN.out; have h1 := HLL.out; have h2 := HKL.out; have h3 := HJ.out; omega) ?_; intro v1 w11 o1 g1 a1)
            | fail)
          all_goals
            have HG : Hid (Below (w.heap.size + 2) wr w11) := by
              have h1 := HSG.out.2.1
              have hb := (RW.alloc (RW.refl wr) (.cells #[.int .i64 (r1 : Int), .int .i64 (r2 : Int)] 57)).drew
              refine ⟨g1.os.trans hb.os, g1.tape.trans hb.tape, g1.output.trans hb.output, Nat.le_trans hb.size g1.size, fun q hq => ?_⟩
              rw [g1.block q (by have := hb.size; omega) (fun e => by have := (World.ownsRow.lt HOL.out q e.symm).1; omega)]
              exact hb.block q (by omega)
            have HI : Hid (SG w m (.slice none 0 0) [] w11 ∧ OwnE w11 (w.heap.size + 2) v1 (l ++ [((r1 : Int), (r2 : Int))]) ∧ (l ++ [((r1 : Int), (r2 : Int))]).length = k + (j + 1)) := by
              refine ⟨HSG.out.low HG.out, o1, ?_⟩
              have := HLL.out
              have := HLN.out
              simp
              omega
            clear o1 g1 a1 s7 s8 tm1 tm2 tm3 tm4 ew2 ew3
            go_wp2_with fail
            go_roundw
            case rel => exact ⟨j + 1, _, by have := Q2.out; omega, by go_num, HI⟩
            case measure => have := Q2.out; simp only [intOf, Int.toNat_natCast]; omega
        · have q2' : cc ≤ j := by omega
          have HOL0 := Lib.hid hin.out.2.1
          have HSG := Lib.hid hin.out.1
          have HJ := Lib.hid hj
          have HLL := Lib.hid hin.out.2.2
          have hRD := hin.out.2.1
          obtain ⟨A8', c8', e8, -, -, hrd⟩ := OwnE.read hRD
          simp only [Value.slice.injEq] at e8
          obtain ⟨rfl, -, rfl⟩ := e8
          have HRD := Lib.hid hrd
          generalize hll : l.length = n8 at *
          have HLN := Lib.hid hll
          have HNL : Hid (n8 ≤ 362) := by have h1 := HLL.out; have h2 := HKL.out; have h3 := HJ.out; unfold Hid; omega
          clear hll q2 hj hin hRD hrd
          have hle0 : (([] : List Ed).length : Int) ≤ (0 : Nat) := by simp
          go_wp2_with fail
          clear q2' hcc
          generalize decide (j < cc) = d47 at *
          go_loopw [11] (fun i wr => ∃ (k : Nat) (v : Value) (es : List Ed), k ≤ n8 ∧ i = .int .i64 k ∧ Hid (SG w m v es wr) ∧ Hid (rightB m es = true) ∧ Hid ((es.length : Int) ≤ (k : Int)) ∧ Hid (OwnE wr (w.heap.size + 2) (.slice A8 n8 c8) l)) (fun i _ => n8 - (intOf i).toNat)
          case atStart => exact ⟨0, _, [], by omega, rfl, HSG.out, hr0, hle0, HOL0.out⟩
          case round =>
            clear hle0
            obtain ⟨k, v, es, hk, rfl, hsg, hre, hle, HOL⟩ := hrel
            obtain ⟨A1, c1, rfl, hc1, -, hR⟩ := OwnE.read hsg.out.2.2.2.2
            obtain ⟨g0, g1⟩ := SG.cells hsg.out
            obtain ⟨f0, f1⟩ := SG.froz hsg.out
            obtain ⟨r0, r1, r2, r3⟩ := SG.res hsg.out
            have hk1 : wrap64 ((k : Int) + 1) = (k : Int) + 1 := by have := HNL.out; unfold wrap64; omega
            have hsz := SG.size hsg.out
            by_cases q4 : k < n8
            · have Q4 := Lib.hid q4
              obtain ⟨A9', c9', e9, -, -, hrd⟩ := OwnE.read HOL.out
              rw [HLN.out] at e9 hrd
              simp only [Value.slice.injEq] at e9
              obtain ⟨rfl, -, rfl⟩ := e9
              obtain ⟨b, o, rfl, hcz⟩ := hrd.2.2 (by omega)
              obtain ⟨z0, z1⟩ := hcz k q4
              have j0 : (0 : Int) ≤ (k : Int) ∧ (k : Int) < (n8 : Int) := by omega
              have ew : IntKind.i64.wrap ((k : Int) + 1) = (k : Int) + 1 := by rw [IntKind.wrap_i64]; have := HNL.out; omega
              clear hcz hrd hk
              generalize (ge l k).1 = x1 at *
              generalize (ge l k).2 = x2 at *
              have HSS : Hid (wr.cell? ⟨w.heap.size + 1, 0, none⟩ = some (.int .i64 m) ∧ wr.cell? ⟨w.heap.size + 1, 1, none⟩ = some (.slice A1 es.length c1) ∧ wr.cell? ⟨b, o + k * 2, none⟩ = some (.int .i64 x1) ∧ wr.cell? ⟨b, o + k * 2 + 1, none⟩ = some (.int .i64 x2)) := ⟨g0, g1, z0, z1⟩
              have hadd := fun a b W (hW : ReadE W A1 es.length es) => add_soft (c := c1) hre.out hc1 a b W hW
              go_wp2_with fail
              go_region_held3 (fun w' => w'.cell? ⟨w.heap.size + 1, 0, none⟩ = some (.int .i64 m) ∧ w'.cell? ⟨w.heap.size + 1, 1, none⟩ = some (.slice A1 es.length c1) ∧ w'.cell? ⟨b, o + k * 2, none⟩ = some (.int .i64 x1) ∧ w'.cell? ⟨b, o + k * 2 + 1, none⟩ = some (.int .i64 x2) ∧ RW wr w')
                (first | exact RW.all HSS.out (RW.refl wr).drew | exact RW.all HSS.out (RW.later (And.right (And.right (And.right (And.right (by assumption))))) hb9) | exact RW.all HSS.out (RW.alloc hs9 _) | exact RW.all HSS.out (RW.alloc (RW.refl wr).drew _) | exact RW.all HSS.out (RW.alloc (RW.refl wr) _).drew | exact RW.all HSS.out (RW.set2 hs9) | fail)
                (first
                  | (go_at_call 20; refine (hadd _ _ _ (hR.below (And.right (And.right (And.right (And.right (by assumption))))))).mono ?_; rintro e w9 ⟨m9, A9, l9, c9, es9, er, rfl, hok, own9, hb9⟩; have hs9 : RW wr w9 := RW.later (And.right (And.right (And.right (And.right (by assumption))))) hb9; try (have n0 := (newcells hb9).1); try (have n1 := (newcells hb9).2.1); try (have n2 := (newcells hb9).2.2.1); try (have n3 := (newcells hb9).2.2.2))
                  | fail)
              · have own8 : OwnE (w9.alloc (.cells #[.int .i64 m9, .slice A9 l9 c9] 25)) (w.heap.size + 2) (.slice A9 l9 c9) es9 := own_alloc (row_weaken own9 (by simp; omega)) _
                have rw8 : RW wr (w9.alloc (.cells #[.int .i64 m9, .slice A9 l9 c9] 25)) := RW.alloc hs9 _
                have sg8 := SG.later hsg.out rw8
                have d0 : (w9.alloc (.cells #[.int .i64 m9, .slice A9 l9 c9] 25)).cell? ⟨w9.heap.size, 0, none⟩ = some (.int .i64 m9) := (cell_blk (heap_alloc_new _ _) 0).trans rfl
                have d1 : (w9.alloc (.cells #[.int .i64 m9, .slice A9 l9 c9] 25)).cell? ⟨w9.heap.size, 1, none⟩ = some (.slice A9 l9 c9) := (cell_blk (heap_alloc_new _ _) 1).trans rfl
                obtain ⟨g80, g81⟩ := SG.cells sg8
                obtain ⟨f80, f81⟩ := SG.froz sg8
                have SG8 := Lib.hid sg8
                by_cases he : er = 0
                · obtain ⟨e1, e2, e3⟩ := hok.out he
                  subst he
                  subst e1
                  have SGN := Lib.hid (SG.store (m' := (m : Int)) sg8 own8)
                  have OWL := Lib.hid (own_set2 (g := w.heap.size + 1) (u := .int .i64 (m : Int)) (v := .slice A9 l9 c9) (row_below HOL.out rw8) (Nat.lt_succ_self _))
                  clear sg8 own8 rw8
                  go_wp2_with fail
                  go_roundw
                  case rel => exact ⟨k + 1, _, es9, by have := Q4.out; omega, by go_num, SGN, e2, by have := hle.out; unfold Hid; omega, OWL⟩
                  case measure => have := Q4.out; simp only [intOf, Int.toNat_natCast]; omega
                · have he' : (er == 0) = false := by simpa using he
                  have OWL := Lib.hid (row_below HOL.out rw8)
                  clear sg8 own8 rw8 he
                  go_wp2_with fail
                  go_roundw
                  case rel => exact ⟨k + 1, _, es, by have := Q4.out; omega, by go_num, SG8, hre, by have := hle.out; unfold Hid; omega, OWL⟩
                  case measure => have := Q4.out; simp only [intOf, Int.toNat_natCast]; omega
              · have own8 : OwnE ((w9.setCell ⟨wr.heap.size, 0, none⟩ (.int .i64 m9)).setCell ⟨wr.heap.size, 1, none⟩ (.slice A9 l9 c9)) (w.heap.size + 2) (.slice A9 l9 c9) es9 := row_weaken (own_set2 own9 (by simp; omega)) (by simp; omega)
                have rw8 : RW wr ((w9.setCell ⟨wr.heap.size, 0, none⟩ (.int .i64 m9)).setCell ⟨wr.heap.size, 1, none⟩ (.slice A9 l9 c9)) := RW.set2 hs9
                have sg8 := SG.later hsg.out rw8
                have d0 : ((w9.setCell ⟨wr.heap.size, 0, none⟩ (.int .i64 m9)).setCell ⟨wr.heap.size, 1, none⟩ (.slice A9 l9 c9)).cell? ⟨wr.heap.size, 0, none⟩ = some (.int .i64 m9) := (cell_blk (Go.Proofs.YtbnipgajhpbolaaGreatDoorW.PrintWords.blk_put (cs := #[.int .i64 m9, .slice none 0 0]) (Go.Proofs.YtbnipgajhpbolaaGreatDoorW.PrintWords.blk_put (cs := #[.int .i64 0, .slice none 0 0]) (newblk hb9) 0 _ rfl) 1 _ rfl) 0).trans rfl
                have d1 : ((w9.setCell ⟨wr.heap.size, 0, none⟩ (.int .i64 m9)).setCell ⟨wr.heap.size, 1, none⟩ (.slice A9 l9 c9)).cell? ⟨wr.heap.size, 1, none⟩ = some (.slice A9 l9 c9) := (cell_blk (Go.Proofs.YtbnipgajhpbolaaGreatDoorW.PrintWords.blk_put (cs := #[.int .i64 m9, .slice none 0 0]) (Go.Proofs.YtbnipgajhpbolaaGreatDoorW.PrintWords.blk_put (cs := #[.int .i64 0, .slice none 0 0]) (newblk hb9) 0 _ rfl) 1 _ rfl) 1).trans rfl
                obtain ⟨g80, g81⟩ := SG.cells sg8
                obtain ⟨f80, f81⟩ := SG.froz sg8
                have SG8 := Lib.hid sg8
                by_cases he : er = 0
                · obtain ⟨e1, e2, e3⟩ := hok.out he
                  subst he
                  subst e1
                  have SGN := Lib.hid (SG.store (m' := (m : Int)) sg8 own8)
                  have OWL := Lib.hid (own_set2 (g := w.heap.size + 1) (u := .int .i64 (m : Int)) (v := .slice A9 l9 c9) (row_below HOL.out rw8) (Nat.lt_succ_self _))
                  clear sg8 own8 rw8
                  go_wp2_with fail
                  go_roundw
                  case rel => exact ⟨k + 1, _, es9, by have := Q4.out; omega, by go_num, SGN, e2, by have := hle.out; unfold Hid; omega, OWL⟩
                  case measure => have := Q4.out; simp only [intOf, Int.toNat_natCast]; omega
                · have he' : (er == 0) = false := by simpa using he
                  have OWL := Lib.hid (row_below HOL.out rw8)
                  clear sg8 own8 rw8 he
                  go_wp2_with fail
                  go_roundw
                  case rel => exact ⟨k + 1, _, es, by have := Q4.out; omega, by go_num, SG8, hre, by have := hle.out; unfold Hid; omega, OWL⟩
                  case measure => have := Q4.out; simp only [intOf, Int.toNat_natCast]; omega
            · have q4' : n8 ≤ k := by omega
              have hk9 : k = n8 := by omega
              have HK9 := Lib.hid hk9
              clear q4 hk hk9
              have HST : Hid (SG w m (.slice A1 es.length c1) es wr) := hsg.out
              have HEND : Hid (((wr.setCell ⟨w.heap.size, 0, none⟩ (.int .i64 m)).setCell ⟨w.heap.size, 1, none⟩ (.slice A1 es.length c1)).heap[w.heap.size]? = some (.cells #[.int .i64 m, .slice A1 es.length c1] 25 (0, 0))) :=
                Go.Proofs.YtbnipgajhpbolaaGreatDoorW.PrintWords.blk_put (cs := #[.int .i64 m, .slice none 0 0]) (Go.Proofs.YtbnipgajhpbolaaGreatDoorW.PrintWords.blk_put (cs := #[.int .i64 0, .slice none 0 0]) HST.out.2.2.1 0 _ rfl) 1 _ rfl
              have HBEL : Hid (Below w.heap.size w ((wr.setCell ⟨w.heap.size, 0, none⟩ (.int .i64 m)).setCell ⟨w.heap.size, 1, none⟩ (.slice A1 es.length c1))) := Below.setCell (Below.setCell HST.out.1 (Nat.le_refl _) _) (Nat.le_refl _) _
              have HOWN : Hid (OwnE ((wr.setCell ⟨w.heap.size, 0, none⟩ (.int .i64 m)).setCell ⟨w.heap.size, 1, none⟩ (.slice A1 es.length c1)) (w.heap.size + 2) (.slice A1 es.length c1) es) := own_set2 HST.out.2.2.2.2 (by omega)
              clear hR hsg HST
              go_wp2_with fail
              (try simp only [Exit.inBlock, Exit.then])
              refine bodyPost_ret (results_cell_row rfl _ _ w.heap.size 25 #[.int .i64 m, .slice A1 es.length c1] (0, 0) _ rfl HEND.out Tryz.underlying25 rfl (by kernel_rfl)) rfl ?_
              exact ⟨_, m, es, rfl, by have := HM.out; omega, by have := HM.out; omega, by have h1 := hle.out; have h2 := HNL.out; have h3 := HK9.out; omega, hre.out, _, rfl, HOWN.out, HBEL.out⟩
end

end Go.Proofs.YtbnipgajhpbolaaGreatDoor
