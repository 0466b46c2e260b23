/- The walk of play.Mates. -/
import Derived.Test.YtnldfjoadmehcaaOf
import Derived.Test.YtnldfjoadmehcaaSubPure
import Derived.Test.YtnldfjoadmehcaaMRight
set_option linter.unusedVariables false
set_option linter.unusedSimpArgs false
namespace Go.Proofs.Ytnldfjoadmehcaa
open Go.RowKit

theorem made_own (w : World) (M : Nat) (hM : M ≤ 4096) : OwnI (w.alloc (.cells (madeCells #[.int .i64 0] M) 3)) w.heap.size (.slice (some ⟨w.heap.size, 0, none⟩) M M) (List.replicate M 0) := by
  have e : (madeCells #[.int .i64 0] M).toList = nums (List.replicate M 0) := by
    refine List.ext_getElem (by simp [madeCells, nums]) fun i h1 h2 => ?_
    simp [madeCells, nums, Nat.mod_one]
  unfold OwnI
  rw [← e, List.length_replicate]
  exact World.ownsRow_lit w _ M (Nat.le_refl _) (by unfold maxLen; omega) (by simp [madeCells])

/-- The index that a number means among n. -/
theorem idx_of (p : Int) (n : Nat) (hn : 0 < n) (h9 : n ≤ 9223372036854775807) : ∃ q : Nat, q < n ∧ (IntKind.u64.wrap p).tmod (n : Int) = q := by
  have h0 : 0 ≤ IntKind.u64.wrap p := by rw [IntKind.wrap_u64]; omega
  have h1 := Int.tmod_lt_of_pos (IntKind.u64.wrap p) (show (0 : Int) < n by omega)
  have h2 := Int.tmod_nonneg (n : Int) h0
  exact ⟨((IntKind.u64.wrap p).tmod n).toNat, by omega, by omega⟩

set_option maxHeartbeats 16000000 in
set_option maxRecDepth 100000 in
theorem pmates_any {A B : Option Addr} {n c m d M : Nat} {es : List Ed} {ps : List Int} (w : World) (h : ReadE w A n es) (hr : rightB M es = true) (hp : ReadI w B m ps) :
    Calls Try.prog 45 #[.agg #[.int .i64 M, .slice A n c], .slice B m d] w fun e w' => ∃ v ms, e = .returned v ∧ OwnI w' (w.heap.size + 1) v ms ∧ MatchN M es ms ∧ Below w.heap.size w w' := by
  obtain ⟨r1, r2, r3, r4⟩ := rightB_iff.1 hr
  have hM : M ≤ 4096 := by omega
  have hn9 := h.2.1
  have hm9 := hp.2.1
  have hb1 := bel_alloc w (gcells M A n c)
  have HX := Lib.hid (boxg w M A n c)
  have HB1 := Lib.hid hb1
  have HE := Lib.hid h
  have HP := Lib.hid hp
  have HRB := Lib.hid hr
  have HRI := Lib.hid r4
  have HEL := Lib.hid h.1
  have HS1 : Hid ((w.alloc (gcells M A n c)).heap.size = w.heap.size + 1) := by simp [Hid]
  clear h hr hp hb1 r1 r2 r3 r4
  have hmk := run_make_row' 22 3 (.int .i64 0) 8 Try.underlying22 (by kernel_rfl) rfl .i64 .i64 M (by omega) (by omega) (w.alloc (gcells M A n c))
  obtain ⟨x0, x1⟩ := HX.out
  go_enter Try.func45, Try.ntmps45
  go_wp2_with fail
  clear hmk x0 x1
  have hmo := made_own (w.alloc (gcells M A n c)) M hM
  have HB2 := Lib.hid (bel_trans HB1.out (bel_alloc (w.alloc (gcells M A n c)) (.cells (madeCells #[.int .i64 0] M) 3)))
  have HX2 := Lib.hid (later2 (bel_alloc (w.alloc (gcells M A n c)) (.cells (madeCells #[.int .i64 0] M) 3)) HX.out)
  rw [HS1.out] at hmo
  generalize (w.alloc (gcells M A n c)).alloc (.cells (madeCells #[.int .i64 0] M) 3) = w2 at *
  have HO2 : Hid (∃ ms, OwnI w2 (w.heap.size + 1) (.slice (some ⟨w.heap.size + 1, 0, none⟩) M M) ms ∧ ∀ j, j < 0 → gi ms j = -1) := ⟨_, hmo, fun j hj => absurd hj (by omega)⟩
  have HBX : Hid (Below w.heap.size w w2 ∧ w2.cell? ⟨w.heap.size, 0, none⟩ = some (.int .i64 M) ∧ w2.cell? ⟨w.heap.size, 1, none⟩ = some (.slice A n c)) := ⟨HB2.out, HX2.out⟩
  clear hmo
  go_loopw [6, 14] (fun _ i wr => ∃ k : Nat, k ≤ M ∧ i = .int .i64 k ∧ Hid (∃ ms, OwnI wr (w.heap.size + 1) (.slice (some ⟨w.heap.size + 1, 0, none⟩) M M) ms ∧ ∀ j, j < k → gi ms j = -1) ∧ Hid (Below w.heap.size w wr ∧ wr.cell? ⟨w.heap.size, 0, none⟩ = some (.int .i64 M) ∧ wr.cell? ⟨w.heap.size, 1, none⟩ = some (.slice A n c))) (fun _ i _ => M - (intOf i).toNat)
  case atStart => exact ⟨0, Nat.zero_le _, rfl, HO2, HBX⟩
  case round =>
    obtain ⟨k, hk, rfl, hown, hb⟩ := hrel
    by_cases hlt : k < M
    · have HLT := Lib.hid hlt
      obtain ⟨ms, ho, hmn⟩ := hown.out
      have HO := Lib.hid ho
      have cg1 := ho.cellAt hlt
      have fg1 := ho.frozAt k
      have hki : (0 : Int) ≤ (k : Int) ∧ (k : Int) < (M : Int) := by omega
      have HO3 : Hid (∃ ms, OwnI (wr.setCell ⟨w.heap.size + 1, k, none⟩ (.int .i64 (-1))) (w.heap.size + 1) (.slice (some ⟨w.heap.size + 1, 0, none⟩) M M) ms ∧ ∀ j, j < k + 1 → gi ms j = -1) := by
        refine ⟨_, ho.put1 k (-1), fun j hj => ?_⟩
        rw [gi_set]
        have hl := ho.len rfl
        by_cases e : j = k
        · rw [if_pos ⟨e, by omega⟩]
        · rw [if_neg (by omega)]
          exact hmn j (by omega)
      have HB3 : Hid (Below w.heap.size w (wr.setCell ⟨w.heap.size + 1, k, none⟩ (.int .i64 (-1))) ∧ (wr.setCell ⟨w.heap.size + 1, k, none⟩ (.int .i64 (-1))).cell? ⟨w.heap.size, 0, none⟩ = some (.int .i64 M) ∧ (wr.setCell ⟨w.heap.size + 1, k, none⟩ (.int .i64 (-1))).cell? ⟨w.heap.size, 1, none⟩ = some (.slice A n c)) :=
        ⟨Below.setCell hb.out.1 (by show w.heap.size ≤ w.heap.size + 1; omega) _, (grown_set _ _ _ _).cell hb.out.2.1 (by intro e; injection e with e; have h2 : w.heap.size = w.heap.size + 1 := e; omega), (grown_set _ _ _ _).cell hb.out.2.2 (by intro e; injection e with e; have h2 : w.heap.size = w.heap.size + 1 := e; omega)⟩
      clear hown ho hmn
      go_wp2_with fail
      clear cg1 fg1
      go_roundw
      case rel => exact ⟨k + 1, by have := HLT.out; omega, by go_num, HO3, HB3⟩
      case measure => have := HLT.out; simp [intOf]; omega
    · obtain rfl : k = M := by omega
      have hd : decide ((k : Int) < (k : Int)) = false := by rw [decide_eq_false_iff_not]; omega
      have HOM : Hid (∃ ms, OwnI wr (w.heap.size + 1) (.slice (some ⟨w.heap.size + 1, 0, none⟩) k k) ms ∧ MatchN k es ms) := by
        obtain ⟨ms, ho, hmn⟩ := hown.out
        have hl := ho.len rfl
        exact ⟨ms, ho, hl.symm, fun v hv => .inl (hmn v hv)⟩
      have HBW := hb
      clear hlt hk hown hb HO2 HBX HB2 HX2
      go_wp2_with fail
      clear hd
      go_loopw [7, 8] (fun i _ wr => ∃ j : Nat, j ≤ m ∧ j ≤ 100 ∧ i = .int .i64 j ∧ Hid (∃ ms, OwnI wr (w.heap.size + 1) (.slice (some ⟨w.heap.size + 1, 0, none⟩) k k) ms ∧ MatchN k es ms) ∧ Hid (Below w.heap.size w wr ∧ wr.cell? ⟨w.heap.size, 0, none⟩ = some (.int .i64 k) ∧ wr.cell? ⟨w.heap.size, 1, none⟩ = some (.slice A n c))) (fun i _ _ => m - (intOf i).toNat)
      case atStart => exact ⟨0, Nat.zero_le _, by omega, rfl, HOM, HBW⟩
      case round =>
        obtain ⟨j, hj, hj1, rfl, hown, hb⟩ := hrel
        obtain ⟨x0, x1⟩ := hb.out.2
        have HEND : Hid (∃ ms, OwnI wr (w.heap.size + 1) (.slice (some ⟨w.heap.size + 1, 0, none⟩) k k) ms ∧ MatchN k es ms) := hown.out
        by_cases hlt : j < m
        · have HLT := Lib.hid hlt
          by_cases h100 : j < 100
          · have d100 : decide ((j : Int) < 100) = true := by rw [decide_eq_true_eq]; omega
            by_cases hn0 : 0 < n
            · have d0 : decide ((0 : Int) < (n : Int)) = true := by rw [decide_eq_true_eq]; omega
              obtain ⟨ms, ho, hmn⟩ := hown.out
              obtain ⟨b', o', rfl, hcp⟩ := (HP.out.below hb.out.1).2.2 (by omega)
              have hcj := hcp j hlt
              obtain ⟨p, hp⟩ : ∃ p, p = gi ps j := ⟨_, rfl⟩
              rw [← hp] at hcj
              obtain ⟨q, hqn, hq⟩ := idx_of p n hn0 hn9
              obtain ⟨b, o, rfl, hc⟩ := (HE.out.below hb.out.1).2.2 (by omega)
              obtain ⟨hc1, hc2⟩ := hc q hqn
              have hke : q < es.length := by have := HEL.out; omega
              obtain ⟨x, y, he, hxy, hyM⟩ := edge_nat (HRI.out.1 _ (show ge es q ∈ es by rw [ge_get hke]; exact List.getElem_mem _))
              have hmem : ((x : Int), (y : Int)) ∈ es := by rw [← he, ge_get hke]; exact List.getElem_mem _
              have HNR : Hid ((y : Int) ∈ nearV es x) := mem_nearV.2 (.inr hmem)
              rw [he] at hc1 hc2
              simp only [] at hc1 hc2
              have hxM : x < k := by omega
              have HXY := Lib.hid (And.intro hxM (And.intro hyM hxy))
              have hji : (0 : Int) ≤ (j : Int) ∧ (j : Int) < (m : Int) := by omega
              have hqi : (0 : Int) ≤ (q : Int) ∧ (q : Int) < (n : Int) := by omega
              have HC := Lib.hid (And.intro hc1 hc2)
              have HCJ := Lib.hid hcj
              have HH1 := Lib.hid (And.intro hlt h100)
              have um : IntKind.u64.wrap (n : Int) = (n : Int) := by rw [IntKind.wrap_u64]; omega
              have hn1 : ((n : Int) == 0) = false := by simp; omega
              have hn2 : ¬ n = 0 := by omega
              have HO := Lib.hid (And.intro ho hmn)
              clear hc hp he hmem hcp hke hxy h100 hlt hown hn0 ho hmn hxM
              have uq : IntKind.u64.wrap (q : Int) = (q : Int) := by rw [IntKind.wrap_u64]; omega
              have iq : IntKind.i64.wrap (q : Int) = (q : Int) := by rw [IntKind.wrap_i64]; omega
              go_wp2_with fail
              have HSS : Hid (wr.cell? ⟨w.heap.size, 1, none⟩ = some (.slice (some ⟨b, o, none⟩) n c) ∧ wr.cell? ⟨b', o' + j, none⟩ = some (.int .i64 p) ∧ wr.cell? ⟨b, o + q * 2, none⟩ = some (.int .i64 (x : Int)) ∧ wr.cell? ⟨b, o + q * 2 + 1, none⟩ = some (.int .i64 (y : Int))) := ⟨x1, hcj, hc1, hc2⟩
              go_region_held3 (fun w' => w'.cell? ⟨w.heap.size, 1, none⟩ = some (.slice (some ⟨b, o, none⟩) n c) ∧ w'.cell? ⟨b', o' + j, none⟩ = some (.int .i64 p) ∧ w'.cell? ⟨b, o + q * 2, none⟩ = some (.int .i64 (x : Int)) ∧ w'.cell? ⟨b, o + q * 2 + 1, none⟩ = some (.int .i64 (y : Int)) ∧ RW wr w')
                (first | assumption | exact RW.four HSS.out (RW.refl wr).drew | exact RW.four HSS.out (RW.alloc (RW.refl wr).drew _) | exact RW.four HSS.out (RW.alloc (RW.refl wr) _).drew | fail) (fail)
              have HD5 : Hid (RW wr (wr.alloc (.cells #[.int .i64 (x : Int), .int .i64 (y : Int)] 41)).drew) := (RW.alloc (RW.refl wr) _).drew
              have HXE : Hid ((wr.alloc (.cells #[.int .i64 (x : Int), .int .i64 (y : Int)] 41)).drew.cell? ⟨wr.heap.size, 0, none⟩ = some (.int .i64 (x : Int)) ∧ (wr.alloc (.cells #[.int .i64 (x : Int), .int .i64 (y : Int)] 41)).drew.cell? ⟨wr.heap.size, 1, none⟩ = some (.int .i64 (y : Int))) := ⟨(cell_blk (heap_alloc_new wr _) 0).trans rfl, (cell_blk (heap_alloc_new wr _) 1).trans rfl⟩
              have HGW : Hid (w.heap.size + 1 < wr.heap.size) := HO.out.1.lt.2
              clear x0 x1 hc1 hc2 hcj um uq iq hq hn1 hn2 hqi hqn hyM
              generalize (wr.alloc (.cells #[.int .i64 (x : Int), .int .i64 (y : Int)] 41)).drew = w5 at *
              have HO5 := Lib.hid (HO.out.1.later HD5.out)
              have HB5 : Hid (Below w.heap.size w w5 ∧ w5.cell? ⟨w.heap.size, 0, none⟩ = some (.int .i64 k) ∧ w5.cell? ⟨w.heap.size, 1, none⟩ = some (.slice (some ⟨b, o, none⟩) n c)) := ⟨bel_trans hb.out.1 HD5.out, later2 HD5.out hb.out.2⟩
              have cg1 := HO5.out.cellAt HXY.out.1
              have cg2 := HO5.out.cellAt HXY.out.2.1
              have hxi : (0 : Int) ≤ (x : Int) ∧ (x : Int) < (k : Int) := by have := HXY.out; omega
              have hyi : (0 : Int) ≤ (y : Int) ∧ (y : Int) < (k : Int) := by have := HXY.out; omega
              obtain ⟨u, hu⟩ : ∃ u, u = gi ms x := ⟨_, rfl⟩
              obtain ⟨v, hv⟩ : ∃ v, v = gi ms y := ⟨_, rfl⟩
              rw [← hu] at cg1
              rw [← hv] at cg2
              have HU := Lib.hid hu
              have HV := Lib.hid hv
              obtain ⟨z0, z1⟩ := HXE.out
              have HSAME : Hid (∃ ms, OwnI w5 (w.heap.size + 1) (.slice (some ⟨w.heap.size + 1, 0, none⟩) k k) ms ∧ MatchN k es ms) := ⟨ms, HO5.out, HO.out.2⟩
              clear hu hv
              by_cases q1 : u < 0
              · by_cases q2 : v < 0
                · have HMN : Hid (MatchN k es ((ms.set x (y : Int)).set y (x : Int))) := match_put HO.out.2 HXY.out.1 HXY.out.2.1 (by have := HXY.out; omega) HNR.out (by rw [← HU.out]; exact q1) (by rw [← HV.out]; exact q2)
                  have fg1 := HO5.out.frozAt x
                  have cg3 := (HO5.out.put1 x (y : Int)).cellAt HXY.out.2.1
                  have fg3 := (HO5.out.put1 x (y : Int)).frozAt y
                  have HST1 : Hid ((w5.setCell ⟨w.heap.size + 1, x, none⟩ (.int .i64 (y : Int))).cell? ⟨wr.heap.size, 0, none⟩ = some (.int .i64 (x : Int)) ∧ (w5.setCell ⟨w.heap.size + 1, x, none⟩ (.int .i64 (y : Int))).cell? ⟨wr.heap.size, 1, none⟩ = some (.int .i64 (y : Int))) :=
                    ⟨(grown_set _ _ _ _).cell HXE.out.1 (by intro e; injection e with e; have h1 := HGW.out; have h2 : wr.heap.size = w.heap.size + 1 := e; omega), (grown_set _ _ _ _).cell HXE.out.2 (by intro e; injection e with e; have h1 := HGW.out; have h2 : wr.heap.size = w.heap.size + 1 := e; omega)⟩
                  have HST2 : Hid (((w5.setCell ⟨w.heap.size + 1, x, none⟩ (.int .i64 (y : Int))).setCell ⟨w.heap.size + 1, y, none⟩ (.int .i64 (x : Int))).cell? ⟨wr.heap.size, 0, none⟩ = some (.int .i64 (x : Int)) ∧ ((w5.setCell ⟨w.heap.size + 1, x, none⟩ (.int .i64 (y : Int))).setCell ⟨w.heap.size + 1, y, none⟩ (.int .i64 (x : Int))).cell? ⟨wr.heap.size, 1, none⟩ = some (.int .i64 (y : Int))) :=
                    ⟨(grown_set2 _ _ _ _ _ _).cell HXE.out.1 (by intro e; injection e with e; have h1 := HGW.out; have h2 : wr.heap.size = w.heap.size + 1 := e; omega), (grown_set2 _ _ _ _ _ _).cell HXE.out.2 (by intro e; injection e with e; have h1 := HGW.out; have h2 : wr.heap.size = w.heap.size + 1 := e; omega)⟩
                  go_wp2_with fail
                  go_region_held3 (fun w' => w'.cell? ⟨wr.heap.size, 0, none⟩ = some (.int .i64 (x : Int)) ∧ w'.cell? ⟨wr.heap.size, 1, none⟩ = some (.int .i64 (y : Int)))
                    (first | assumption | exact HXE.out | exact HST1.out | exact HST2.out | fail) (fail)
                  have HO9 : Hid (∃ ms, OwnI ((w5.setCell ⟨w.heap.size + 1, x, none⟩ (.int .i64 (y : Int))).setCell ⟨w.heap.size + 1, y, none⟩ (.int .i64 (x : Int))).drew (w.heap.size + 1) (.slice (some ⟨w.heap.size + 1, 0, none⟩) k k) ms ∧ MatchN k es ms) := ⟨_, ((HO5.out.put1 x (y : Int)).put1 y (x : Int)).later (RW.refl _).drew, HMN.out⟩
                  have HB9 : Hid (Below w.heap.size w ((w5.setCell ⟨w.heap.size + 1, x, none⟩ (.int .i64 (y : Int))).setCell ⟨w.heap.size + 1, y, none⟩ (.int .i64 (x : Int))).drew ∧ ((w5.setCell ⟨w.heap.size + 1, x, none⟩ (.int .i64 (y : Int))).setCell ⟨w.heap.size + 1, y, none⟩ (.int .i64 (x : Int))).drew.cell? ⟨w.heap.size, 0, none⟩ = some (.int .i64 k) ∧ ((w5.setCell ⟨w.heap.size + 1, x, none⟩ (.int .i64 (y : Int))).setCell ⟨w.heap.size + 1, y, none⟩ (.int .i64 (x : Int))).drew.cell? ⟨w.heap.size, 1, none⟩ = some (.slice (some ⟨b, o, none⟩) n c)) :=
                    ⟨below_draws (Below.setCell (Below.setCell HB5.out.1 (by show w.heap.size ≤ w.heap.size + 1; omega) _) (by show w.heap.size ≤ w.heap.size + 1; omega) _) 1,
                      later2 (RW.refl _).drew ⟨(grown_set2 _ _ _ _ _ _).cell HB5.out.2.1 (by intro e; injection e with e; have h2 : w.heap.size = w.heap.size + 1 := e; omega), (grown_set2 _ _ _ _ _ _).cell HB5.out.2.2 (by intro e; injection e with e; have h2 : w.heap.size = w.heap.size + 1 := e; omega)⟩⟩
                  clear HST1 HST2 fg1 cg3 fg3 cg1 cg2 z0 z1
                  go_wp2_with fail
                  go_roundw
                  case rel => exact ⟨j + 1, by have := HH1.out; omega, by have := HH1.out; omega, by go_num, HO9, HB9⟩
                  case measure => have := HH1.out; simp [intOf]; omega
                · have d2 : decide (v < 0) = false := decide_eq_false q2
                  go_wp2_with fail
                  clear cg1 cg2 z0 z1
                  go_roundw
                  case rel => exact ⟨j + 1, by have := HH1.out; omega, by have := HH1.out; omega, by go_num, HSAME, HB5⟩
                  case measure => have := HH1.out; simp [intOf]; omega
              · have d1 : decide (u < 0) = false := decide_eq_false q1
                go_wp2_with fail
                clear cg1 cg2 z0 z1
                go_roundw
                case rel => exact ⟨j + 1, by have := HH1.out; omega, by have := HH1.out; omega, by go_num, HSAME, HB5⟩
                case measure => have := HH1.out; simp [intOf]; omega
            · obtain rfl : n = 0 := by omega
              have hd : decide ((0 : Int) < (0 : Int)) = false := by decide
              clear hown hn0
              go_wp2_with fail
              go_ret
              obtain ⟨ms, ho, hmn⟩ := HEND.out
              exact ⟨_, ms, rfl, ho, hmn, hb.out.1⟩
          · have hd : decide ((j : Int) < 100) = false := by rw [decide_eq_false_iff_not]; omega
            clear hown h100
            go_wp2_with fail
            go_ret
            obtain ⟨ms, ho, hmn⟩ := HEND.out
            exact ⟨_, ms, rfl, ho, hmn, hb.out.1⟩
        · obtain rfl : j = m := by omega
          have hd : decide ((j : Int) < (j : Int)) = false := by rw [decide_eq_false_iff_not]; omega
          clear hown hlt
          go_wp2_with fail
          go_ret
          obtain ⟨ms, ho, hmn⟩ := HEND.out
          exact ⟨_, ms, rfl, ho, hmn, hb.out.1⟩

end Go.Proofs.Ytnldfjoadmehcaa
