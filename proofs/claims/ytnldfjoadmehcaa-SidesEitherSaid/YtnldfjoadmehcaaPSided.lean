/- The walk of play.Sided. -/
import Derived.Test.YtnldfjoadmehcaaSdMore
set_option linter.unusedVariables false
set_option linter.unusedSimpArgs false
namespace Go.Proofs.Ytnldfjoadmehcaa
open Go.RowKit

theorem sided_num (n0 l0 : Int) : ∃ m L : Nat, 2 ≤ m ∧ m ≤ 16 ∧ 1 ≤ L ∧ L < m ∧ wrap64 (2 + wrap64 ((IntKind.u64.wrap n0).tmod 15)) = m ∧ wrap64 (1 + wrap64 ((IntKind.u64.wrap l0).tmod ((m : Int) - 1))) = L := by
  have h0 : 0 ≤ IntKind.u64.wrap n0 := by rw [IntKind.wrap_u64]; omega
  have h1 := Int.tmod_lt_of_pos (IntKind.u64.wrap n0) (show (0 : Int) < 15 by omega)
  have h2 := Int.tmod_nonneg 15 h0
  obtain ⟨m, hm⟩ : ∃ m : Nat, (m : Int) = 2 + (IntKind.u64.wrap n0).tmod 15 := ⟨(2 + (IntKind.u64.wrap n0).tmod 15).toNat, by omega⟩
  have g0 : 0 ≤ IntKind.u64.wrap l0 := by rw [IntKind.wrap_u64]; omega
  have g1 := Int.tmod_lt_of_pos (IntKind.u64.wrap l0) (show (0 : Int) < (m : Int) - 1 by omega)
  have g2 := Int.tmod_nonneg ((m : Int) - 1) g0
  refine ⟨m, (1 + (IntKind.u64.wrap l0).tmod ((m : Int) - 1)).toNat, by omega, by omega, by omega, by omega, ?_, ?_⟩
  · unfold wrap64; omega
  · unfold wrap64; omega

/-- Add of an edge that crosses. -/
theorem add_cross {m a b L : Nat} {es : List Ed} {A : Option Addr} {l c : Nat} (hr : rightB (m : Int) es = true) (hx : Cross L es) (hc : l ≤ c) (ha : a < L) (hb : L ≤ b) (W : World) (h : ReadE W A l es) :
    Calls Try.prog 64 #[.agg #[.int .i64 (m : Int), .slice A l c], .int .i64 (a : Int), .int .i64 (b : Int)] W fun e w' =>
      ∃ m' A' l' c' es' er, e = .returned (.tuple #[.agg #[.int .i64 m', .slice A' l' c'], .int .i64 er]) ∧ Hid (er = 0 → m' = (m : Int) ∧ rightB (m : Int) es' = true ∧ Cross L es') ∧ OwnE w' (W.heap.size + 2) (.slice A' l' c') es' ∧ Below W.heap.size W w' := by
  refine (add_any (m : Int) a b W h hc).mono ?_
  rintro e w' ⟨g, rfl, v, rfl, own, hbl⟩
  obtain ⟨A', c', rfl, -, -, -⟩ := OwnE.read own
  refine ⟨_, _, _, _, _, _, rfl, fun h0 => ?_, own, hbl⟩
  obtain ⟨h1, h2, -⟩ := add_ok hr h0
  obtain ⟨h4, -⟩ := add_put hr h0
  rw [h4] at h2 ⊢
  exact ⟨h1, h2, cross_put (rightB_iff.1 hr).2.2.2 (rightB_iff.1 h2).2.2.2 hx ha hb⟩

set_option maxHeartbeats 8000000 in
set_option maxRecDepth 100000 in
theorem psided_any {A : Option Addr} {n c : Nat} {zs : List Int} (n0 l0 : Int) (w : World) (h : ReadI w A n zs) :
    Calls Try.prog 63 #[.int .i64 n0, .int .i64 l0, .slice A n c, .int .i64 16] w fun e w' => ∃ g, ∃ (m L : Nat) (es : List Ed), e = .returned g ∧ 2 ≤ m ∧ m ≤ 16 ∧ rightB (m : Int) es = true ∧ Cross L es ∧ RetG w w' (w.heap.size + 2) g m es := by
  have hn := h.2.1
  have H1 := Lib.hid h.1
  obtain ⟨m, L, hm2, hm16, hL1, hLm, e1, e2⟩ := sided_num n0 l0
  have s1 : IntKind.i64.wrap ((m : Int) - 1) = (m : Int) - 1 := by rw [IntKind.wrap_i64]; omega
  have s2 : IntKind.u64.wrap ((m : Int) - 1) = (m : Int) - 1 := by rw [IntKind.wrap_u64]; omega
  have s3 : ¬ (m : Int) - 1 = 0 := by omega
  have s4 : wrap64 ((m : Int) - 1) = (m : Int) - 1 := by unfold wrap64; omega
  go_enter Try.func63, Try.ntmps63
  go_wp2_with fail
  (try simp only [e1, e2, s4])
  clear e1 e2 s1 s2 s3 s4
  have hs0 : SG w m (.slice none 0 0) [] ((w.alloc (gcells 0 none 0 0)).alloc (gcells m none 0 0)) := by
    have e : (w.alloc (gcells 0 none 0 0)).heap.size = w.heap.size + 1 := by simp
    refine ⟨Below.alloc (Below.alloc (Below.refl _ _) (Nat.le_refl _) _) (by simp) _, by simp, ?_, ?_, OwnE.nil _ _⟩
    · rw [heap_alloc_old _ _ (show w.heap.size < (w.alloc (gcells 0 none 0 0)).heap.size by simp)]
      exact heap_alloc_new _ _
    · have := heap_alloc_new (w.alloc (gcells 0 none 0 0)) (gcells m none 0 0)
      rwa [e] at this
  have hr0 : rightB (m : Int) [] = true := by
    unfold rightB
    simp [allTo]
    omega
  have HS0 := Lib.hid hs0
  clear hs0
  have HP0 : Hid (rightB (m : Int) [] = true ∧ Cross L []) := ⟨hr0, cross_none L⟩
  have HM : Hid (2 ≤ m ∧ m ≤ 16 ∧ 1 ≤ L ∧ L < m) := ⟨hm2, hm16, hL1, hLm⟩
  obtain ⟨D, hD⟩ : ∃ D, D = m - L := ⟨_, rfl⟩
  have HD : Hid (D + L = m ∧ 0 < D) := by unfold Hid; omega
  clear hm2 hm16 hL1 hLm hr0 hD
  go_loopw [10] (fun i wr => ∃ (k : Nat) (v : Value) (es : List Ed), k ≤ 402 ∧ i = .int .i64 k ∧ Hid (SG w m v es wr) ∧ Hid (rightB (m : Int) es = true ∧ Cross L es)) (fun i _ => 402 - (intOf i).toNat)
  case atStart => exact ⟨0, _, [], by omega, rfl, HS0, HP0⟩
  case round =>
    obtain ⟨k, v, es, hk, rfl, hsg, hre⟩ := hrel
    obtain ⟨A1, c1, rfl, hc1, -, hR⟩ := OwnE.read hsg.out.2.2.2.2
    obtain ⟨g0, g1⟩ := SG.cells hsg.out
    obtain ⟨f0, f1⟩ := SG.froz hsg.out
    obtain ⟨r0, r1, r2, r3⟩ := SG.res hsg.out
    have hk1 : wrap64 ((k : Int) + 1) = (k : Int) + 1 := by unfold wrap64; omega
    have hsz := SG.size hsg.out
    by_cases q1 : (k : Int) + 1 < n
    · have q1' : decide ((k : Int) + 1 < n) = true := by rw [decide_eq_true_eq]; omega
      by_cases q4 : (k : Int) < 400
      · have q4' : decide ((k : Int) < 400) = true := by rw [decide_eq_true_eq]; omega
        have Q4 := Lib.hid q4
        clear q4 hk
        obtain ⟨b, o, rfl, hcz⟩ := (h.below hsg.out.1).2.2 (by omega)
        have z0 := hcz k (by omega)
        have z1 := hcz (k + 1) (by omega)
        have j0 : (0 : Int) ≤ (k : Int) ∧ (k : Int) < (n : Int) := by omega
        have j1 : (0 : Int) ≤ (k : Int) + 1 ∧ (k : Int) + 1 < (n : Int) := by omega
        have ew : IntKind.i64.wrap ((k : Int) + 1) = (k : Int) + 1 := by rw [IntKind.wrap_i64]; have := Q4.out; omega
        have hk2 : wrap64 ((k : Int) + 2) = ((k + 2 : Nat) : Int) := by unfold wrap64; have := Q4.out; omega
        clear hcz
        generalize gi zs k = x1 at *
        generalize gi zs (k + 1) = x2 at *
        obtain ⟨p, hpL, hp⟩ := idx_of x1 L (by have := HM.out; omega) (by have := HM.out; omega)
        obtain ⟨q, hqD, hq⟩ := idx_of x2 D (by have := HD.out; omega) (by have := HM.out; have := HD.out; omega)
        have uL : IntKind.u64.wrap (L : Int) = (L : Int) := by rw [IntKind.wrap_u64]; have := HM.out; omega
        have nL : ¬ L = 0 := by have := HM.out; omega
        have sD : IntKind.i64.wrap ((m : Int) - (L : Int)) = (D : Int) := by rw [IntKind.wrap_i64]; have := HM.out; have := HD.out; omega
        have uD : IntKind.u64.wrap (D : Int) = (D : Int) := by rw [IntKind.wrap_u64]; have := HM.out; have := HD.out; omega
        have nD : ¬ D = 0 := by have := HD.out; omega
        have nL1 : ((L : Int) == 0) = false := by simpa using nL
        have nD1 : ((D : Int) == 0) = false := by simpa using nD
        have up : IntKind.u64.wrap (p : Int) = (p : Int) := by rw [IntKind.wrap_u64]; have := HM.out; omega
        have uq : IntKind.u64.wrap (q : Int) = (q : Int) := by rw [IntKind.wrap_u64]; have := HM.out; have := HD.out; omega
        have ip : IntKind.i64.wrap (p : Int) = (p : Int) := by rw [IntKind.wrap_i64]; have := HM.out; omega
        have iq : IntKind.i64.wrap (q : Int) = (q : Int) := by rw [IntKind.wrap_i64]; have := HM.out; have := HD.out; omega
        have ib : IntKind.i64.wrap ((L : Int) + (q : Int)) = ((L + q : Nat) : Int) := by rw [IntKind.wrap_i64]; have := HM.out; have := HD.out; omega
        have hadd := fun W (hW : ReadE W A1 es.length es) => add_cross (m := m) (a := p) (b := L + q) (c := c1) hre.out.1 hre.out.2 hc1 hpL (Nat.le_add_right _ _) W hW
        have HSS : Hid (wr.cell? ⟨w.heap.size + 1, 0, none⟩ = some (.int .i64 m) ∧ wr.cell? ⟨w.heap.size + 1, 1, none⟩ = some (.slice A1 es.length c1) ∧ wr.cell? ⟨b, o + k, none⟩ = some (.int .i64 x1) ∧ wr.cell? ⟨b, o + (k + 1), none⟩ = some (.int .i64 x2)) := ⟨g0, g1, z0, z1⟩
        clear hpL hqD
        generalize hbq : ((L + q : Nat) : Int) = bq at *
        clear hbq
        go_wp2_with fail
        go_region_held3 (fun w' => w'.cell? ⟨w.heap.size + 1, 0, none⟩ = some (.int .i64 m) ∧ w'.cell? ⟨w.heap.size + 1, 1, none⟩ = some (.slice A1 es.length c1) ∧ w'.cell? ⟨b, o + k, none⟩ = some (.int .i64 x1) ∧ w'.cell? ⟨b, o + (k + 1), none⟩ = some (.int .i64 x2) ∧ RW wr w')
          (first | exact RW.all HSS.out (RW.refl wr).drew | exact RW.all HSS.out (RW.later (And.right (And.right (And.right (And.right (by assumption))))) hb9) | exact RW.all HSS.out (RW.alloc hs9 _) | exact RW.all HSS.out (RW.alloc (RW.refl wr).drew _) | exact RW.all HSS.out (RW.alloc (RW.refl wr) _).drew | exact RW.all HSS.out (RW.set2 hs9) | fail)
          (first
            | (go_at_call 64; refine (hadd _ (hR.below (And.right (And.right (And.right (And.right (by assumption))))))).mono ?_; rintro e w9 ⟨m9, A9, l9, c9, es9, er, rfl, hok, own9, hb9⟩; have hs9 : RW wr w9 := RW.later (And.right (And.right (And.right (And.right (by assumption))))) hb9; try (have n0 := (newcells hb9).1); try (have n1 := (newcells hb9).2.1); try (have n2 := (newcells hb9).2.2.1); try (have n3 := (newcells hb9).2.2.2))
            | fail)
        · have own8 : OwnE (w9.alloc (.cells #[.int .i64 m9, .slice A9 l9 c9] 26)) (w.heap.size + 2) (.slice A9 l9 c9) es9 := own_alloc (row_weaken own9 (by simp; omega)) _
          have rw8 : RW wr (w9.alloc (.cells #[.int .i64 m9, .slice A9 l9 c9] 26)) := RW.alloc hs9 _
          have sg8 := SG.later hsg.out rw8
          have d0 : (w9.alloc (.cells #[.int .i64 m9, .slice A9 l9 c9] 26)).cell? ⟨w9.heap.size, 0, none⟩ = some (.int .i64 m9) := (cell_blk (heap_alloc_new _ _) 0).trans rfl
          have d1 : (w9.alloc (.cells #[.int .i64 m9, .slice A9 l9 c9] 26)).cell? ⟨w9.heap.size, 1, none⟩ = some (.slice A9 l9 c9) := (cell_blk (heap_alloc_new _ _) 1).trans rfl
          obtain ⟨g80, g81⟩ := SG.cells sg8
          obtain ⟨f80, f81⟩ := SG.froz sg8
          have SG8 := Lib.hid sg8
          by_cases he : er = 0
          · obtain ⟨e1, e2, e3⟩ := hok.out he
            subst he
            subst e1
            have SGN := Lib.hid (SG.store (m' := (m : Int)) sg8 own8)
            clear sg8 own8 rw8
            go_wp2_with fail
            go_roundw
            case rel => exact ⟨k + 2, _, es9, by have := Q4.out; omega, by first | rfl | rw [hk2] | (simp; done), SGN, ⟨e2, e3⟩⟩
            case measure => have := Q4.out; (try rw [hk2]); simp only [intOf]; omega
          · have he' : (er == 0) = false := by simpa using he
            clear sg8 own8 rw8 he
            go_wp2_with fail
            go_roundw
            case rel => exact ⟨k + 2, _, es, by have := Q4.out; omega, by first | rfl | rw [hk2] | (simp; done), SG8, hre⟩
            case measure => have := Q4.out; (try rw [hk2]); simp only [intOf]; omega
        · have own8 : OwnE ((w9.setCell ⟨wr.heap.size, 0, none⟩ (.int .i64 m9)).setCell ⟨wr.heap.size, 1, none⟩ (.slice A9 l9 c9)) (w.heap.size + 2) (.slice A9 l9 c9) es9 := row_weaken (own_set2 own9 (by simp; omega)) (by simp; omega)
          have rw8 : RW wr ((w9.setCell ⟨wr.heap.size, 0, none⟩ (.int .i64 m9)).setCell ⟨wr.heap.size, 1, none⟩ (.slice A9 l9 c9)) := RW.set2 hs9
          have sg8 := SG.later hsg.out rw8
          have d0 : ((w9.setCell ⟨wr.heap.size, 0, none⟩ (.int .i64 m9)).setCell ⟨wr.heap.size, 1, none⟩ (.slice A9 l9 c9)).cell? ⟨wr.heap.size, 0, none⟩ = some (.int .i64 m9) := (cell_blk (Go.Proofs.YtnldfjoadmehcaaW.PrintWords.blk_put (cs := #[.int .i64 m9, .slice none 0 0]) (Go.Proofs.YtnldfjoadmehcaaW.PrintWords.blk_put (cs := #[.int .i64 0, .slice none 0 0]) (newblk hb9) 0 _ rfl) 1 _ rfl) 0).trans rfl
          have d1 : ((w9.setCell ⟨wr.heap.size, 0, none⟩ (.int .i64 m9)).setCell ⟨wr.heap.size, 1, none⟩ (.slice A9 l9 c9)).cell? ⟨wr.heap.size, 1, none⟩ = some (.slice A9 l9 c9) := (cell_blk (Go.Proofs.YtnldfjoadmehcaaW.PrintWords.blk_put (cs := #[.int .i64 m9, .slice none 0 0]) (Go.Proofs.YtnldfjoadmehcaaW.PrintWords.blk_put (cs := #[.int .i64 0, .slice none 0 0]) (newblk hb9) 0 _ rfl) 1 _ rfl) 1).trans rfl
          obtain ⟨g80, g81⟩ := SG.cells sg8
          obtain ⟨f80, f81⟩ := SG.froz sg8
          have SG8 := Lib.hid sg8
          by_cases he : er = 0
          · obtain ⟨e1, e2, e3⟩ := hok.out he
            subst he
            subst e1
            have SGN := Lib.hid (SG.store (m' := (m : Int)) sg8 own8)
            clear sg8 own8 rw8
            go_wp2_with fail
            go_roundw
            case rel => exact ⟨k + 2, _, es9, by have := Q4.out; omega, by first | rfl | rw [hk2] | (simp; done), SGN, ⟨e2, e3⟩⟩
            case measure => have := Q4.out; (try rw [hk2]); simp only [intOf]; omega
          · have he' : (er == 0) = false := by simpa using he
            clear sg8 own8 rw8 he
            go_wp2_with fail
            go_roundw
            case rel => exact ⟨k + 2, _, es, by have := Q4.out; omega, by first | rfl | rw [hk2] | (simp; done), SG8, hre⟩
            case measure => have := Q4.out; (try rw [hk2]); simp only [intOf]; omega
      · have q4' : decide ((k : Int) < 400) = false := by rw [decide_eq_false_iff_not]; omega
        clear q4 hk
        have HST : Hid (SG w m (.slice A1 es.length c1) es wr) := hsg.out
        have HEND : Hid (((wr.setCell ⟨w.heap.size, 0, none⟩ (.int .i64 m)).setCell ⟨w.heap.size, 1, none⟩ (.slice A1 es.length c1)).heap[w.heap.size]? = some (.cells #[.int .i64 m, .slice A1 es.length c1] 26 (0, 0))) :=
          Go.Proofs.YtnldfjoadmehcaaW.PrintWords.blk_put (cs := #[.int .i64 m, .slice none 0 0]) (Go.Proofs.YtnldfjoadmehcaaW.PrintWords.blk_put (cs := #[.int .i64 0, .slice none 0 0]) HST.out.2.2.1 0 _ rfl) 1 _ rfl
        have HBEL : Hid (Below w.heap.size w ((wr.setCell ⟨w.heap.size, 0, none⟩ (.int .i64 m)).setCell ⟨w.heap.size, 1, none⟩ (.slice A1 es.length c1))) := Below.setCell (Below.setCell HST.out.1 (Nat.le_refl _) _) (Nat.le_refl _) _
        have HOWN : Hid (OwnE ((wr.setCell ⟨w.heap.size, 0, none⟩ (.int .i64 m)).setCell ⟨w.heap.size, 1, none⟩ (.slice A1 es.length c1)) (w.heap.size + 2) (.slice A1 es.length c1) es) := own_set2 HST.out.2.2.2.2 (by omega)
        clear hR hsg HST
        go_wp2_with fail
        (try simp only [Exit.inBlock, Exit.then])
        refine bodyPost_ret (results_cell_row rfl _ _ w.heap.size 26 #[.int .i64 m, .slice A1 es.length c1] (0, 0) _ rfl HEND.out Try.underlying26 rfl (by kernel_rfl)) rfl ?_
        exact ⟨_, m, L, es, rfl, HM.out.1, HM.out.2.1, hre.out.1, hre.out.2, _, rfl, HOWN.out, HBEL.out⟩
    · have q1' : decide ((k : Int) + 1 < n) = false := by rw [decide_eq_false_iff_not]; omega
      clear q1 hk
      have HST : Hid (SG w m (.slice A1 es.length c1) es wr) := hsg.out
      have HEND : Hid (((wr.setCell ⟨w.heap.size, 0, none⟩ (.int .i64 m)).setCell ⟨w.heap.size, 1, none⟩ (.slice A1 es.length c1)).heap[w.heap.size]? = some (.cells #[.int .i64 m, .slice A1 es.length c1] 26 (0, 0))) :=
        Go.Proofs.YtnldfjoadmehcaaW.PrintWords.blk_put (cs := #[.int .i64 m, .slice none 0 0]) (Go.Proofs.YtnldfjoadmehcaaW.PrintWords.blk_put (cs := #[.int .i64 0, .slice none 0 0]) HST.out.2.2.1 0 _ rfl) 1 _ rfl
      have HBEL : Hid (Below w.heap.size w ((wr.setCell ⟨w.heap.size, 0, none⟩ (.int .i64 m)).setCell ⟨w.heap.size, 1, none⟩ (.slice A1 es.length c1))) := Below.setCell (Below.setCell HST.out.1 (Nat.le_refl _) _) (Nat.le_refl _) _
      have HOWN : Hid (OwnE ((wr.setCell ⟨w.heap.size, 0, none⟩ (.int .i64 m)).setCell ⟨w.heap.size, 1, none⟩ (.slice A1 es.length c1)) (w.heap.size + 2) (.slice A1 es.length c1) es) := own_set2 HST.out.2.2.2.2 (by omega)
      clear hR hsg HST
      go_wp2_with fail
      (try simp only [Exit.inBlock, Exit.then])
      refine bodyPost_ret (results_cell_row rfl _ _ w.heap.size 26 #[.int .i64 m, .slice A1 es.length c1] (0, 0) _ rfl HEND.out Try.underlying26 rfl (by kernel_rfl)) rfl ?_
      exact ⟨_, m, L, es, rfl, HM.out.1, HM.out.2.1, hre.out.1, hre.out.2, _, rfl, HOWN.out, HBEL.out⟩

/-- A graph of two sides that Sided makes. -/
theorem sided_open {A : Option Addr} {n c : Nat} {zs : List Int} (n0 l0 : Int) (w : World) (h : ReadI w A n zs) :
    Calls Try.prog 63 #[.int .i64 n0, .int .i64 l0, .slice A n c, .int .i64 16] w fun e w' => ∃ (M l k : Nat) (B : Option Addr) (es : List Ed) (t : List Int), e = .returned (.agg #[.int .i64 (M : Int), .slice B l k]) ∧ 2 ≤ M ∧ M ≤ 16 ∧ rightB (M : Int) es = true ∧ TwoCol M es t ∧ ReadE w' B l es ∧ l ≤ k ∧ Below w.heap.size w w' :=
  (psided_any (c := c) n0 l0 w h).mono fun e w' ⟨g, m, L, es, he, h0, h1, h2, h3, v, hg, ho, hb⟩ => by
    obtain ⟨B, k, hv, hk, -, hr⟩ := OwnE.read ho
    exact ⟨m, es.length, k, B, es, _, by rw [he, hg, hv], h0, h1, h2, cross_two (rightB_iff.1 h2).2.2.2 h3, hr, hk, hb⟩

end Go.Proofs.Ytnldfjoadmehcaa
