/- The walk of sides.Of, and awake. -/
import Derived.Test.YtnldfjoadmehcaaSdLay
import Derived.Test.YtnldfjoadmehcaaGRight
import Derived.Test.YtnldfjoadmehcaaRepeat
import Derived.Deep.LoopGhost
import Derived.Deep.RegionHeld3
import Derived.Test.YtnldfjoadmehcaaSdCyc
import Derived.Test.YtnldfjoadmehcaaSdPure
set_option linter.unusedVariables false
set_option linter.unusedSimpArgs false
namespace Go.Proofs.Ytnldfjoadmehcaa
open Go.RowKit

/- The walk of sides.Of. -/
theorem nearV_len (es : List Ed) (v : Int) : (nearV es v).length ≤ es.length + es.length := by
  unfold nearV
  rw [List.length_append]
  exact Nat.add_le_add (lowsE_le v es) (highsE_le v es)
theorem row_lt_G {W : World} {G base N : Nat} {vs : Nat → Value} {Ls : Nat → List Int} (r : Rows W G base N vs Ls) : G < W.heap.size := by obtain ⟨cs, h, -⟩ := r.row; exact blk_lt h

set_option maxHeartbeats 2000000 in
set_option maxRecDepth 100000 in
theorem sof_bad {A : Option Addr} {n c : Nat} {es : List Ed} (N : Int) (w : World) (h : ReadE w A n es) (hR : rightB N es = false) :
    Calls Try.prog 59 #[.agg #[.int .i64 N, .slice A n c]] w fun e w' => e = .returned (.tuple #[.slice none 0 0, .slice none 0 0, .int .i64 3]) ∧ Below w.heap.size w w' := by
  have hb1 := bel_alloc w (gcells N A n c)
  have hr := gright_any (c := c) N (w.alloc (gcells N A n c)) (h.below hb1)
  rw [hR] at hr
  have HB1 := Lib.hid hb1
  have HX := Lib.hid (boxg w N A n c)
  clear hb1 h hR
  go_enter Try.func59, Try.ntmps59
  obtain ⟨x0, x1⟩ := HX.out
  go_wp2_with fail
  refine hr.mono ?_
  rintro e w2 ⟨rfl, hb2⟩
  have HB2 := Lib.hid (bel_trans HB1.out hb2)
  clear hb2 hr x0 x1
  go_wp2_with fail
  go_ret3
  exact ⟨rfl, HB2.out⟩

/-- What Of leaves of a right graph. -/
def SOfQ (N : Nat) (es : List Ed) (W : World) (e : Ending) (w' : World) : Prop :=
  (∃ v t, e = .returned (.tuple #[v, .slice none 0 0, .int .i64 0]) ∧ OwnI w' W.heap.size v t ∧ SideOk N es t ∧ Below W.heap.size W w') ∨
  (∃ v r, e = .returned (.tuple #[.slice none 0 0, v, .int .i64 10]) ∧ OwnI w' W.heap.size v r ∧ OddRing es r ∧ Below W.heap.size W w')

set_option maxHeartbeats 32000000 in
set_option maxRecDepth 100000 in
theorem sof_any {A : Option Addr} {n c N : Nat} {es : List Ed} (w : World) (h : ReadE w A n es) (hR : rightB N es = true) :
    Calls Try.prog 59 #[.agg #[.int .i64 N, .slice A n c]] w (SOfQ N es w) := by
  obtain ⟨r1, r2, r3, r4⟩ := rightB_iff.1 hR
  have hN : N ≤ 4096 := by omega
  have hb1 := bel_alloc w (gcells N A n c)
  have hr := gright_any (c := c) N (w.alloc (gcells N A n c)) (h.below hb1)
  rw [hR] at hr
  have HB1 := Lib.hid hb1
  have HX := Lib.hid (boxg w N A n c)
  have HRI := Lib.hid r4
  have HEL : Hid (es.length ≤ 65536) := r3
  have HN := Lib.hid hN
  have HLS0 : Hid (∀ (w2 : World), Below w.heap.size w w2 → ∀ W, RW w2 W → Calls Try.prog 74 #[.int .i64 N, .slice A n c] W fun e w' =>
      ∃ vs, e = .returned (.slice (some ⟨W.heap.size, 0, none⟩) N N) ∧ Rows w' W.heap.size (W.heap.size + 1) N vs (fun v => lowsE v es ++ highsE v es) ∧ Below W.heap.size W w') := fun w2 h2 W hW =>
    lists_any N W (h.below (bel_trans h2 hW)) hN (by have := h.1; omega) fun k hk => by
      obtain ⟨x, y, he, hxy, hy⟩ := edge_nat (r4.1 _ (show ge es k ∈ es by rw [ge_get (by have := h.1; omega)]; exact List.getElem_mem _))
      rw [he]
      exact ⟨by show (0:Int) ≤ (x:Int); omega, by show (x:Int) < (N:Int); omega, by show (0:Int) ≤ (y:Int); omega, by show (y:Int) < (N:Int); omega⟩
  clear hb1 h hR r1 r2 r3 r4 hN
  go_enter Try.func59, Try.ntmps59
  obtain ⟨x0, x1⟩ := HX.out
  go_wp2_with fail
  refine hr.mono ?_
  rintro e w2 ⟨rfl, hb2⟩
  have HB2 := Lib.hid (bel_trans HB1.out hb2)
  have HX2 := Lib.hid (later2 hb2 HX.out)
  have HLS := Lib.hid (HLS0.out w2 HB2.out)
  clear hb2 hr x0 x1 HLS0
  have hmk := fun W : World => run_make_row' 22 3 (.int .i64 0) 8 Try.underlying22 (by kernel_rfl) rfl .i64 .i64 N (by have := HN.out; omega) (by have := HN.out; omega) W
  have hN := HN.out
  go_wp2_with fail
  go_cut [5] (fun s5 wx => LayBox w2 N es s5 wx)
  case first =>
    have hd0 := RW.two HX2.out (RW.refl w2).drew
    refine wp_region_held_drew (S := fun w' => w'.cell? ⟨w.heap.size, 0, none⟩ = some (.int .i64 N) ∧ w'.cell? ⟨w.heap.size, 1, none⟩ = some (.slice A n c) ∧ RW w2 w') (by kernel_rfl) hd0 (fun hHeld => ?_)
    have hr0 : RW w2 w2.drew := (RW.refl w2).drew
    generalize w2.drew = Y0 at *
    refine wpAnyH_take (i := 0) (oi := ?oiz501x0) (v := ?vz501x0) ?hiz501x0 (by kernel_rfl) (by kernel_rfl) (by kernel_rfl) ?hQz501x0 ?hyz501x0 (by assumption) ?restz501x0
    case hiz501x0 => first | (simp only [List.getElem?_toArray, List.getElem?_cons_zero, List.getElem?_cons_succ]; rfl) | rfl
    case hQz501x0 => exact fun _ _ _ h => h
    case hyz501x0 => (refine Or.inl ⟨by rfl, ?_⟩; intro w hSw; (try dsimp only at hSw); go_simp; (try with_reducible rfl))
    simp only [Act.put, List.setIfInBounds_toArray, List.set_cons_zero, List.set_cons_succ]
    refine wpAnyH_take (i := 1) (oi := ?oiz502x1) (v := ?vz502x1) ?hiz502x1 (by kernel_rfl) (by kernel_rfl) (by kernel_rfl) ?hQz502x1 ?hyz502x1 (by assumption) ?restz502x1
    case hiz502x1 => first | (simp only [List.getElem?_toArray, List.getElem?_cons_zero, List.getElem?_cons_succ]; rfl) | rfl
    case hQz502x1 => exact fun _ _ _ h => h
    case hyz502x1 => (refine Or.inl ⟨by rfl, ?_⟩; intro w hSw; (try dsimp only at hSw); go_simp; (try with_reducible rfl))
    simp only [Act.put, List.setIfInBounds_toArray, List.set_cons_zero, List.set_cons_succ]
    refine wpAnyH_take (i := 2) (oi := ?oiz503x2) (v := ?vz503x2) ?hiz503x2 (by kernel_rfl) (by kernel_rfl) (by kernel_rfl) ?hQz503x2 ?hyz503x2 (by assumption) ?restz503x2
    case hiz503x2 => first | (simp only [List.getElem?_toArray, List.getElem?_cons_zero, List.getElem?_cons_succ]; rfl) | rfl
    case hQz503x2 => exact fun _ _ _ h => h
    case hyz503x2 => (refine Or.inl ⟨by rfl, ?_⟩; intro w hSw; (try dsimp only at hSw); go_simp; (try with_reducible rfl))
    simp only [Act.put, List.setIfInBounds_toArray, List.set_cons_zero, List.set_cons_succ]
    refine wpAnyH_take (i := 3) (oi := ?oiz504x3) (v := ?vz504x3) ?hiz504x3 (by kernel_rfl) (by kernel_rfl) (by kernel_rfl) ?hQz504x3 ?hyz504x3 (by assumption) ?restz504x3
    case hiz504x3 => first | (simp only [List.getElem?_toArray, List.getElem?_cons_zero, List.getElem?_cons_succ]; rfl) | rfl
    case hQz504x3 => exact fun _ _ _ h => h
    case hyz504x3 => (refine Or.inl ⟨by rfl, ?_⟩; intro w hSw; (try dsimp only at hSw); go_simp; (try with_reducible rfl))
    simp only [Act.put, List.setIfInBounds_toArray, List.set_cons_zero, List.set_cons_succ]
    refine wpAnyH_take (i := 6) (oi := ?oiz505x6) (v := ?vz505x6) ?hiz505x6 (by kernel_rfl) (by kernel_rfl) (by kernel_rfl) ?hQz505x6 ?hyz505x6 (by assumption) ?restz505x6
    case hiz505x6 => first | (simp only [List.getElem?_toArray, List.getElem?_cons_zero, List.getElem?_cons_succ]; rfl) | rfl
    case hQz505x6 => exact fun _ _ _ h => h
    case hyz505x6 => (refine Or.inl ⟨by rfl, ?_⟩; intro w hSw; (try dsimp only at hSw); go_simp; (try with_reducible rfl))
    simp only [Act.put, List.setIfInBounds_toArray, List.set_cons_zero, List.set_cons_succ]
    refine wpAnyH_take (i := 7) (oi := ?oiz506x7) (v := ?vz506x7) ?hiz506x7 (by kernel_rfl) (by kernel_rfl) (by kernel_rfl) ?hQz506x7 ?hyz506x7 (by assumption) ?restz506x7
    case hiz506x7 => first | (simp only [List.getElem?_toArray, List.getElem?_cons_zero, List.getElem?_cons_succ]; rfl) | rfl
    case hQz506x7 => exact fun _ _ _ h => h
    case hyz506x7 => (refine Or.inl ⟨by rfl, ?_⟩; intro w hSw; (try dsimp only at hSw); go_simp; (try with_reducible rfl))
    simp only [Act.put, List.setIfInBounds_toArray, List.set_cons_zero, List.set_cons_succ]
    refine wpAnyH_take (i := 9) (oi := ?oiz507x9) (v := ?vz507x9) ?hiz507x9 (by kernel_rfl) (by kernel_rfl) (by kernel_rfl) ?hQz507x9 ?hyz507x9 (by assumption) ?restz507x9
    case hiz507x9 => first | (simp only [List.getElem?_toArray, List.getElem?_cons_zero, List.getElem?_cons_succ]; rfl) | rfl
    case hQz507x9 => exact fun _ _ _ h => h
    case hyz507x9 => (refine Or.inl ⟨by rfl, ?_⟩; intro w hSw; (try dsimp only at hSw); go_simp; (try with_reducible rfl))
    simp only [Act.put, List.setIfInBounds_toArray, List.set_cons_zero, List.set_cons_succ]
    refine wpAnyH_take (i := 10) (oi := ?oiz508x10) (v := ?vz508x10) ?hiz508x10 (by kernel_rfl) (by kernel_rfl) (by kernel_rfl) ?hQz508x10 ?hyz508x10 (by assumption) ?restz508x10
    case hiz508x10 => first | (simp only [List.getElem?_toArray, List.getElem?_cons_zero, List.getElem?_cons_succ]; rfl) | rfl
    case hQz508x10 => exact fun _ _ _ h => h
    case hyz508x10 => (refine Or.inl ⟨by rfl, ?_⟩; intro w hSw; (try dsimp only at hSw); go_simp; (try with_reducible rfl))
    simp only [Act.put, List.setIfInBounds_toArray, List.set_cons_zero, List.set_cons_succ]
    refine wpAnyH_ready (rs := [4, 5, 11]) (by kernel_rfl) (by simp) ?_
    refine AllReadyH.cons rfl (fun K hK => ?_) (AllReadyH.cons rfl (fun K hK => ?_) (AllReadyH.cons rfl (fun K hK => ?_) AllReadyH.nil))
    all_goals go_simp
    · go_at_call 74
      refine (HLS.out Y0 hr0).mono ?_
      rintro e Y1 ⟨vs, rfl, hrows, hb1⟩
      have hS1 := RW.two HX2.out (RW.later hr0 hb1)
      have hr1 := RW.later hr0 hb1
      (try go_wp2_with fail)
      refine hK.out _ _ hS1 (fun hHeld => ?_)
      clear hK K
      (try simp only [Act.put, List.setIfInBounds_toArray, List.set_cons_zero, List.set_cons_succ])
      refine wpAnyH_ready (rs := [5, 11]) (by kernel_rfl) (by simp) ?_
      refine AllReadyH.cons rfl (fun K hK => ?_) (AllReadyH.cons rfl (fun K hK => ?_) AllReadyH.nil)
      all_goals go_simp
      · have hz5 : (Y1.alloc (.cells #[.int .i64 (-1)] 3)).cell? ⟨Y1.heap.size, 0, none⟩ = some (.int .i64 (-1)) := cell_blk (g := Y1.heap.size) (t := 3) (cs := #[.int .i64 (-1)]) (by show (Y1.heap.push _)[Y1.heap.size]? = _; rw [Array.getElem?_push_size]) 0
        have hb2 : RW Y1 (Y1.alloc (.cells #[.int .i64 (-1)] 3)) := bel_alloc _ _
        have hS2 := RW.two HX2.out (RW.later hr1 hb2)
        refine hK.out _ _ hS2 (fun hHeld => ?_)
        clear hK K
        (try simp only [Act.put, List.setIfInBounds_toArray, List.set_cons_zero, List.set_cons_succ])
        have hr2 := RW.later hr1 hb2
        generalize Y1.alloc (.cells #[.int .i64 (-1)] 3) = Y2 at *
        refine wpAnyH_ready (rs := [8, 11]) (by kernel_rfl) (by simp) ?_
        refine AllReadyH.cons rfl (fun K hK => ?_) (AllReadyH.cons rfl (fun K hK => ?_) AllReadyH.nil)
        all_goals go_simp
        · go_at_call 87
          refine (repeat_any (-1) N hN Y2 hz5).mono ?_
          rintro e Y3 ⟨vS, rfl, hown, hb3⟩
          have hS3 := RW.two HX2.out (RW.later hr2 hb3)
          have hr3 := RW.later hr2 hb3
          obtain ⟨SA, Sn, Sc, rfl⟩ := hown.shape
          (try go_wp2_with fail)
          refine hK.out _ _ hS3 (fun hHeld => ?_)
          clear hK K
          (try simp only [Act.put, List.setIfInBounds_toArray, List.set_cons_zero, List.set_cons_succ])
          refine wpAnyH_ready (rs := [11]) (by kernel_rfl) (by simp) ?_
          refine AllReadyH.cons rfl (fun K hK => ?_) AllReadyH.nil
          all_goals go_simp
          · have hf11 := made_own Y3 N hN
            have hb4 : RW Y3 (Y3.alloc (.cells (madeCells #[.int .i64 0] N) 3)) := bel_alloc _ _
            have hs11 : Y3.heap.size < (Y3.alloc (.cells (madeCells #[.int .i64 0] N) 3)).heap.size := by show Y3.heap.size < (Y3.heap.push _).size; rw [Array.size_push]; omega
            have hS4 := RW.two HX2.out (RW.later hr3 hb4)
            refine hK.out _ _ hS4 (fun hHeld => ?_)
            clear hK K
            (try simp only [Act.put, List.setIfInBounds_toArray, List.set_cons_zero, List.set_cons_succ])
            have hr4 := RW.later hr3 hb4
            generalize Y3.alloc (.cells (madeCells #[.int .i64 0] N) 3) = Y4 at *
            refine wpAnyH_take (i := 12) (oi := ?oiz509x12) (v := ?vz509x12) ?hiz509x12 (by kernel_rfl) (by kernel_rfl) (by kernel_rfl) ?hQz509x12 ?hyz509x12 (by assumption) ?restz509x12
            case hiz509x12 => first | (simp only [List.getElem?_toArray, List.getElem?_cons_zero, List.getElem?_cons_succ]; rfl) | rfl
            case hQz509x12 => exact fun _ _ _ h => h
            case hyz509x12 => (refine Or.inl ⟨by rfl, ?_⟩; intro w hSw; (try dsimp only at hSw); go_simp; (try with_reducible rfl))
            simp only [Act.put, List.setIfInBounds_toArray, List.set_cons_zero, List.set_cons_succ]
            refine wpAnyH_ready (rs := [13]) (by kernel_rfl) (by simp) ?_
            refine AllReadyH.cons rfl (fun K hK => ?_) AllReadyH.nil
            all_goals go_simp
            · have hq1 := Below.size hb1
              have hq2 := Below.size hb2
              have hq3 := Below.size hb3
              have hq4 := Below.size hb4
              have hbox := layBox_of (d := Y4) hr0 (hrows.congr fun i hi => rfl) hb1 (RW.later (RW.later (RW.later (RW.refl Y1) hb2) hb3) hb4) (Nat.lt_of_lt_of_le (row_lt_G hrows) (Nat.le_refl _)) hr2 hown hb3 (RW.later (RW.refl Y3) hb4) hr3 hf11 hb4 (RW.refl Y4) (by omega) (by omega) (by omega)
              refine hK.out _ _ ?sb509 (fun hHeld => ?_)
              case sb509 => exact RW.two HX2.out (RW.later hr4 (bel_alloc _ _))
              clear hK K
              (try simp only [Act.put, List.setIfInBounds_toArray, List.set_cons_zero, List.set_cons_succ])
              refine wpAnyH_take (i := 14) (oi := ?oiz510x14) (v := ?vz510x14) ?hiz510x14 (by kernel_rfl) (by kernel_rfl) (by kernel_rfl) ?hQz510x14 ?hyz510x14 (by assumption) ?restz510x14
              case hiz510x14 => first | (simp only [List.getElem?_toArray, List.getElem?_cons_zero, List.getElem?_cons_succ]; rfl) | rfl
              case hQz510x14 => exact fun _ _ _ h => h
              case hyz510x14 => (refine Or.inl ⟨by rfl, ?_⟩; intro w hSw; (try dsimp only at hSw); go_simp; (try with_reducible rfl))
              simp only [Act.put, List.setIfInBounds_toArray, List.set_cons_zero, List.set_cons_succ]
              refine wpAnyH_done (by kernel_rfl) ?_ _
              (try go_wp2_with fail)
              go_meet
              exact hbox
        · have hf11 := made_own Y2 N hN
          have hb3 : RW Y2 (Y2.alloc (.cells (madeCells #[.int .i64 0] N) 3)) := bel_alloc _ _
          have hs11 : Y2.heap.size < (Y2.alloc (.cells (madeCells #[.int .i64 0] N) 3)).heap.size := by show Y2.heap.size < (Y2.heap.push _).size; rw [Array.size_push]; omega
          have hS3 := RW.two HX2.out (RW.later hr2 hb3)
          refine hK.out _ _ hS3 (fun hHeld => ?_)
          clear hK K
          (try simp only [Act.put, List.setIfInBounds_toArray, List.set_cons_zero, List.set_cons_succ])
          have hr3 := RW.later hr2 hb3
          generalize Y2.alloc (.cells (madeCells #[.int .i64 0] N) 3) = Y3 at *
          refine wpAnyH_ready (rs := [8]) (by kernel_rfl) (by simp) ?_
          refine AllReadyH.cons rfl (fun K hK => ?_) AllReadyH.nil
          all_goals go_simp
          · go_at_call 87
            refine (repeat_any (-1) N hN Y3 (cell_later hb3 hz5)).mono ?_
            rintro e Y4 ⟨vS, rfl, hown, hb4⟩
            have hS4 := RW.two HX2.out (RW.later hr3 hb4)
            have hr4 := RW.later hr3 hb4
            obtain ⟨SA, Sn, Sc, rfl⟩ := hown.shape
            (try go_wp2_with fail)
            refine hK.out _ _ hS4 (fun hHeld => ?_)
            clear hK K
            (try simp only [Act.put, List.setIfInBounds_toArray, List.set_cons_zero, List.set_cons_succ])
            refine wpAnyH_take (i := 12) (oi := ?oiz511x12) (v := ?vz511x12) ?hiz511x12 (by kernel_rfl) (by kernel_rfl) (by kernel_rfl) ?hQz511x12 ?hyz511x12 (by assumption) ?restz511x12
            case hiz511x12 => first | (simp only [List.getElem?_toArray, List.getElem?_cons_zero, List.getElem?_cons_succ]; rfl) | rfl
            case hQz511x12 => exact fun _ _ _ h => h
            case hyz511x12 => (refine Or.inl ⟨by rfl, ?_⟩; intro w hSw; (try dsimp only at hSw); go_simp; (try with_reducible rfl))
            simp only [Act.put, List.setIfInBounds_toArray, List.set_cons_zero, List.set_cons_succ]
            refine wpAnyH_ready (rs := [13]) (by kernel_rfl) (by simp) ?_
            refine AllReadyH.cons rfl (fun K hK => ?_) AllReadyH.nil
            all_goals go_simp
            · have hq1 := Below.size hb1
              have hq2 := Below.size hb2
              have hq3 := Below.size hb3
              have hq4 := Below.size hb4
              have hbox := layBox_of (d := Y4) hr0 (hrows.congr fun i hi => rfl) hb1 (RW.later (RW.later (RW.later (RW.refl Y1) hb2) hb3) hb4) (Nat.lt_of_lt_of_le (row_lt_G hrows) (Nat.le_refl _)) hr3 hown hb4 (RW.refl Y4) hr2 hf11 hb3 (RW.later (RW.refl Y3) hb4) (by omega) (by omega) (by omega)
              refine hK.out _ _ ?sb511 (fun hHeld => ?_)
              case sb511 => exact RW.two HX2.out (RW.later hr4 (bel_alloc _ _))
              clear hK K
              (try simp only [Act.put, List.setIfInBounds_toArray, List.set_cons_zero, List.set_cons_succ])
              refine wpAnyH_take (i := 14) (oi := ?oiz512x14) (v := ?vz512x14) ?hiz512x14 (by kernel_rfl) (by kernel_rfl) (by kernel_rfl) ?hQz512x14 ?hyz512x14 (by assumption) ?restz512x14
              case hiz512x14 => first | (simp only [List.getElem?_toArray, List.getElem?_cons_zero, List.getElem?_cons_succ]; rfl) | rfl
              case hQz512x14 => exact fun _ _ _ h => h
              case hyz512x14 => (refine Or.inl ⟨by rfl, ?_⟩; intro w hSw; (try dsimp only at hSw); go_simp; (try with_reducible rfl))
              simp only [Act.put, List.setIfInBounds_toArray, List.set_cons_zero, List.set_cons_succ]
              refine wpAnyH_done (by kernel_rfl) ?_ _
              (try go_wp2_with fail)
              go_meet
              exact hbox
      · have hf11 := made_own Y1 N hN
        have hb2 : RW Y1 (Y1.alloc (.cells (madeCells #[.int .i64 0] N) 3)) := bel_alloc _ _
        have hs11 : Y1.heap.size < (Y1.alloc (.cells (madeCells #[.int .i64 0] N) 3)).heap.size := by show Y1.heap.size < (Y1.heap.push _).size; rw [Array.size_push]; omega
        have hS2 := RW.two HX2.out (RW.later hr1 hb2)
        refine hK.out _ _ hS2 (fun hHeld => ?_)
        clear hK K
        (try simp only [Act.put, List.setIfInBounds_toArray, List.set_cons_zero, List.set_cons_succ])
        have hr2 := RW.later hr1 hb2
        generalize Y1.alloc (.cells (madeCells #[.int .i64 0] N) 3) = Y2 at *
        refine wpAnyH_ready (rs := [5]) (by kernel_rfl) (by simp) ?_
        refine AllReadyH.cons rfl (fun K hK => ?_) AllReadyH.nil
        all_goals go_simp
        · have hz5 : (Y2.alloc (.cells #[.int .i64 (-1)] 3)).cell? ⟨Y2.heap.size, 0, none⟩ = some (.int .i64 (-1)) := cell_blk (g := Y2.heap.size) (t := 3) (cs := #[.int .i64 (-1)]) (by show (Y2.heap.push _)[Y2.heap.size]? = _; rw [Array.getElem?_push_size]) 0
          have hb3 : RW Y2 (Y2.alloc (.cells #[.int .i64 (-1)] 3)) := bel_alloc _ _
          have hS3 := RW.two HX2.out (RW.later hr2 hb3)
          refine hK.out _ _ hS3 (fun hHeld => ?_)
          clear hK K
          (try simp only [Act.put, List.setIfInBounds_toArray, List.set_cons_zero, List.set_cons_succ])
          have hr3 := RW.later hr2 hb3
          generalize Y2.alloc (.cells #[.int .i64 (-1)] 3) = Y3 at *
          refine wpAnyH_ready (rs := [8]) (by kernel_rfl) (by simp) ?_
          refine AllReadyH.cons rfl (fun K hK => ?_) AllReadyH.nil
          all_goals go_simp
          · go_at_call 87
            refine (repeat_any (-1) N hN Y3 hz5).mono ?_
            rintro e Y4 ⟨vS, rfl, hown, hb4⟩
            have hS4 := RW.two HX2.out (RW.later hr3 hb4)
            have hr4 := RW.later hr3 hb4
            obtain ⟨SA, Sn, Sc, rfl⟩ := hown.shape
            (try go_wp2_with fail)
            refine hK.out _ _ hS4 (fun hHeld => ?_)
            clear hK K
            (try simp only [Act.put, List.setIfInBounds_toArray, List.set_cons_zero, List.set_cons_succ])
            refine wpAnyH_take (i := 12) (oi := ?oiz513x12) (v := ?vz513x12) ?hiz513x12 (by kernel_rfl) (by kernel_rfl) (by kernel_rfl) ?hQz513x12 ?hyz513x12 (by assumption) ?restz513x12
            case hiz513x12 => first | (simp only [List.getElem?_toArray, List.getElem?_cons_zero, List.getElem?_cons_succ]; rfl) | rfl
            case hQz513x12 => exact fun _ _ _ h => h
            case hyz513x12 => (refine Or.inl ⟨by rfl, ?_⟩; intro w hSw; (try dsimp only at hSw); go_simp; (try with_reducible rfl))
            simp only [Act.put, List.setIfInBounds_toArray, List.set_cons_zero, List.set_cons_succ]
            refine wpAnyH_ready (rs := [13]) (by kernel_rfl) (by simp) ?_
            refine AllReadyH.cons rfl (fun K hK => ?_) AllReadyH.nil
            all_goals go_simp
            · have hq1 := Below.size hb1
              have hq2 := Below.size hb2
              have hq3 := Below.size hb3
              have hq4 := Below.size hb4
              have hbox := layBox_of (d := Y4) hr0 (hrows.congr fun i hi => rfl) hb1 (RW.later (RW.later (RW.later (RW.refl Y1) hb2) hb3) hb4) (Nat.lt_of_lt_of_le (row_lt_G hrows) (Nat.le_refl _)) hr3 hown hb4 (RW.refl Y4) hr1 hf11 hb2 (RW.later (RW.later (RW.refl Y2) hb3) hb4) (by omega) (by omega) (by omega)
              refine hK.out _ _ ?sb513 (fun hHeld => ?_)
              case sb513 => exact RW.two HX2.out (RW.later hr4 (bel_alloc _ _))
              clear hK K
              (try simp only [Act.put, List.setIfInBounds_toArray, List.set_cons_zero, List.set_cons_succ])
              refine wpAnyH_take (i := 14) (oi := ?oiz514x14) (v := ?vz514x14) ?hiz514x14 (by kernel_rfl) (by kernel_rfl) (by kernel_rfl) ?hQz514x14 ?hyz514x14 (by assumption) ?restz514x14
              case hiz514x14 => first | (simp only [List.getElem?_toArray, List.getElem?_cons_zero, List.getElem?_cons_succ]; rfl) | rfl
              case hQz514x14 => exact fun _ _ _ h => h
              case hyz514x14 => (refine Or.inl ⟨by rfl, ?_⟩; intro w hSw; (try dsimp only at hSw); go_simp; (try with_reducible rfl))
              simp only [Act.put, List.setIfInBounds_toArray, List.set_cons_zero, List.set_cons_succ]
              refine wpAnyH_done (by kernel_rfl) ?_ _
              (try go_wp2_with fail)
              go_meet
              exact hbox
    · have hz5 : (Y0.alloc (.cells #[.int .i64 (-1)] 3)).cell? ⟨Y0.heap.size, 0, none⟩ = some (.int .i64 (-1)) := cell_blk (g := Y0.heap.size) (t := 3) (cs := #[.int .i64 (-1)]) (by show (Y0.heap.push _)[Y0.heap.size]? = _; rw [Array.getElem?_push_size]) 0
      have hb1 : RW Y0 (Y0.alloc (.cells #[.int .i64 (-1)] 3)) := bel_alloc _ _
      have hS1 := RW.two HX2.out (RW.later hr0 hb1)
      refine hK.out _ _ hS1 (fun hHeld => ?_)
      clear hK K
      (try simp only [Act.put, List.setIfInBounds_toArray, List.set_cons_zero, List.set_cons_succ])
      have hr1 := RW.later hr0 hb1
      generalize Y0.alloc (.cells #[.int .i64 (-1)] 3) = Y1 at *
      refine wpAnyH_ready (rs := [4, 11]) (by kernel_rfl) (by simp) ?_
      refine AllReadyH.cons rfl (fun K hK => ?_) (AllReadyH.cons rfl (fun K hK => ?_) AllReadyH.nil)
      all_goals go_simp
      · go_at_call 74
        refine (HLS.out Y1 hr1).mono ?_
        rintro e Y2 ⟨vs, rfl, hrows, hb2⟩
        have hS2 := RW.two HX2.out (RW.later hr1 hb2)
        have hr2 := RW.later hr1 hb2
        (try go_wp2_with fail)
        refine hK.out _ _ hS2 (fun hHeld => ?_)
        clear hK K
        (try simp only [Act.put, List.setIfInBounds_toArray, List.set_cons_zero, List.set_cons_succ])
        refine wpAnyH_ready (rs := [8, 11]) (by kernel_rfl) (by simp) ?_
        refine AllReadyH.cons rfl (fun K hK => ?_) (AllReadyH.cons rfl (fun K hK => ?_) AllReadyH.nil)
        all_goals go_simp
        · go_at_call 87
          refine (repeat_any (-1) N hN Y2 (cell_later hb2 hz5)).mono ?_
          rintro e Y3 ⟨vS, rfl, hown, hb3⟩
          have hS3 := RW.two HX2.out (RW.later hr2 hb3)
          have hr3 := RW.later hr2 hb3
          obtain ⟨SA, Sn, Sc, rfl⟩ := hown.shape
          (try go_wp2_with fail)
          refine hK.out _ _ hS3 (fun hHeld => ?_)
          clear hK K
          (try simp only [Act.put, List.setIfInBounds_toArray, List.set_cons_zero, List.set_cons_succ])
          refine wpAnyH_ready (rs := [11]) (by kernel_rfl) (by simp) ?_
          refine AllReadyH.cons rfl (fun K hK => ?_) AllReadyH.nil
          all_goals go_simp
          · have hf11 := made_own Y3 N hN
            have hb4 : RW Y3 (Y3.alloc (.cells (madeCells #[.int .i64 0] N) 3)) := bel_alloc _ _
            have hs11 : Y3.heap.size < (Y3.alloc (.cells (madeCells #[.int .i64 0] N) 3)).heap.size := by show Y3.heap.size < (Y3.heap.push _).size; rw [Array.size_push]; omega
            have hS4 := RW.two HX2.out (RW.later hr3 hb4)
            refine hK.out _ _ hS4 (fun hHeld => ?_)
            clear hK K
            (try simp only [Act.put, List.setIfInBounds_toArray, List.set_cons_zero, List.set_cons_succ])
            have hr4 := RW.later hr3 hb4
            generalize Y3.alloc (.cells (madeCells #[.int .i64 0] N) 3) = Y4 at *
            refine wpAnyH_take (i := 12) (oi := ?oiz515x12) (v := ?vz515x12) ?hiz515x12 (by kernel_rfl) (by kernel_rfl) (by kernel_rfl) ?hQz515x12 ?hyz515x12 (by assumption) ?restz515x12
            case hiz515x12 => first | (simp only [List.getElem?_toArray, List.getElem?_cons_zero, List.getElem?_cons_succ]; rfl) | rfl
            case hQz515x12 => exact fun _ _ _ h => h
            case hyz515x12 => (refine Or.inl ⟨by rfl, ?_⟩; intro w hSw; (try dsimp only at hSw); go_simp; (try with_reducible rfl))
            simp only [Act.put, List.setIfInBounds_toArray, List.set_cons_zero, List.set_cons_succ]
            refine wpAnyH_ready (rs := [13]) (by kernel_rfl) (by simp) ?_
            refine AllReadyH.cons rfl (fun K hK => ?_) AllReadyH.nil
            all_goals go_simp
            · have hq1 := Below.size hb1
              have hq2 := Below.size hb2
              have hq3 := Below.size hb3
              have hq4 := Below.size hb4
              have hbox := layBox_of (d := Y4) hr1 (hrows.congr fun i hi => rfl) hb2 (RW.later (RW.later (RW.refl Y2) hb3) hb4) (Nat.lt_of_lt_of_le (row_lt_G hrows) (Nat.le_refl _)) hr2 hown hb3 (RW.later (RW.refl Y3) hb4) hr3 hf11 hb4 (RW.refl Y4) (by omega) (by omega) (by omega)
              refine hK.out _ _ ?sb515 (fun hHeld => ?_)
              case sb515 => exact RW.two HX2.out (RW.later hr4 (bel_alloc _ _))
              clear hK K
              (try simp only [Act.put, List.setIfInBounds_toArray, List.set_cons_zero, List.set_cons_succ])
              refine wpAnyH_take (i := 14) (oi := ?oiz516x14) (v := ?vz516x14) ?hiz516x14 (by kernel_rfl) (by kernel_rfl) (by kernel_rfl) ?hQz516x14 ?hyz516x14 (by assumption) ?restz516x14
              case hiz516x14 => first | (simp only [List.getElem?_toArray, List.getElem?_cons_zero, List.getElem?_cons_succ]; rfl) | rfl
              case hQz516x14 => exact fun _ _ _ h => h
              case hyz516x14 => (refine Or.inl ⟨by rfl, ?_⟩; intro w hSw; (try dsimp only at hSw); go_simp; (try with_reducible rfl))
              simp only [Act.put, List.setIfInBounds_toArray, List.set_cons_zero, List.set_cons_succ]
              refine wpAnyH_done (by kernel_rfl) ?_ _
              (try go_wp2_with fail)
              go_meet
              exact hbox
        · have hf11 := made_own Y2 N hN
          have hb3 : RW Y2 (Y2.alloc (.cells (madeCells #[.int .i64 0] N) 3)) := bel_alloc _ _
          have hs11 : Y2.heap.size < (Y2.alloc (.cells (madeCells #[.int .i64 0] N) 3)).heap.size := by show Y2.heap.size < (Y2.heap.push _).size; rw [Array.size_push]; omega
          have hS3 := RW.two HX2.out (RW.later hr2 hb3)
          refine hK.out _ _ hS3 (fun hHeld => ?_)
          clear hK K
          (try simp only [Act.put, List.setIfInBounds_toArray, List.set_cons_zero, List.set_cons_succ])
          have hr3 := RW.later hr2 hb3
          generalize Y2.alloc (.cells (madeCells #[.int .i64 0] N) 3) = Y3 at *
          refine wpAnyH_ready (rs := [8]) (by kernel_rfl) (by simp) ?_
          refine AllReadyH.cons rfl (fun K hK => ?_) AllReadyH.nil
          all_goals go_simp
          · go_at_call 87
            refine (repeat_any (-1) N hN Y3 (cell_later hb3 (cell_later hb2 hz5))).mono ?_
            rintro e Y4 ⟨vS, rfl, hown, hb4⟩
            have hS4 := RW.two HX2.out (RW.later hr3 hb4)
            have hr4 := RW.later hr3 hb4
            obtain ⟨SA, Sn, Sc, rfl⟩ := hown.shape
            (try go_wp2_with fail)
            refine hK.out _ _ hS4 (fun hHeld => ?_)
            clear hK K
            (try simp only [Act.put, List.setIfInBounds_toArray, List.set_cons_zero, List.set_cons_succ])
            refine wpAnyH_take (i := 12) (oi := ?oiz517x12) (v := ?vz517x12) ?hiz517x12 (by kernel_rfl) (by kernel_rfl) (by kernel_rfl) ?hQz517x12 ?hyz517x12 (by assumption) ?restz517x12
            case hiz517x12 => first | (simp only [List.getElem?_toArray, List.getElem?_cons_zero, List.getElem?_cons_succ]; rfl) | rfl
            case hQz517x12 => exact fun _ _ _ h => h
            case hyz517x12 => (refine Or.inl ⟨by rfl, ?_⟩; intro w hSw; (try dsimp only at hSw); go_simp; (try with_reducible rfl))
            simp only [Act.put, List.setIfInBounds_toArray, List.set_cons_zero, List.set_cons_succ]
            refine wpAnyH_ready (rs := [13]) (by kernel_rfl) (by simp) ?_
            refine AllReadyH.cons rfl (fun K hK => ?_) AllReadyH.nil
            all_goals go_simp
            · have hq1 := Below.size hb1
              have hq2 := Below.size hb2
              have hq3 := Below.size hb3
              have hq4 := Below.size hb4
              have hbox := layBox_of (d := Y4) hr1 (hrows.congr fun i hi => rfl) hb2 (RW.later (RW.later (RW.refl Y2) hb3) hb4) (Nat.lt_of_lt_of_le (row_lt_G hrows) (Nat.le_refl _)) hr3 hown hb4 (RW.refl Y4) hr2 hf11 hb3 (RW.later (RW.refl Y3) hb4) (by omega) (by omega) (by omega)
              refine hK.out _ _ ?sb517 (fun hHeld => ?_)
              case sb517 => exact RW.two HX2.out (RW.later hr4 (bel_alloc _ _))
              clear hK K
              (try simp only [Act.put, List.setIfInBounds_toArray, List.set_cons_zero, List.set_cons_succ])
              refine wpAnyH_take (i := 14) (oi := ?oiz518x14) (v := ?vz518x14) ?hiz518x14 (by kernel_rfl) (by kernel_rfl) (by kernel_rfl) ?hQz518x14 ?hyz518x14 (by assumption) ?restz518x14
              case hiz518x14 => first | (simp only [List.getElem?_toArray, List.getElem?_cons_zero, List.getElem?_cons_succ]; rfl) | rfl
              case hQz518x14 => exact fun _ _ _ h => h
              case hyz518x14 => (refine Or.inl ⟨by rfl, ?_⟩; intro w hSw; (try dsimp only at hSw); go_simp; (try with_reducible rfl))
              simp only [Act.put, List.setIfInBounds_toArray, List.set_cons_zero, List.set_cons_succ]
              refine wpAnyH_done (by kernel_rfl) ?_ _
              (try go_wp2_with fail)
              go_meet
              exact hbox
      · have hf11 := made_own Y1 N hN
        have hb2 : RW Y1 (Y1.alloc (.cells (madeCells #[.int .i64 0] N) 3)) := bel_alloc _ _
        have hs11 : Y1.heap.size < (Y1.alloc (.cells (madeCells #[.int .i64 0] N) 3)).heap.size := by show Y1.heap.size < (Y1.heap.push _).size; rw [Array.size_push]; omega
        have hS2 := RW.two HX2.out (RW.later hr1 hb2)
        refine hK.out _ _ hS2 (fun hHeld => ?_)
        clear hK K
        (try simp only [Act.put, List.setIfInBounds_toArray, List.set_cons_zero, List.set_cons_succ])
        have hr2 := RW.later hr1 hb2
        generalize Y1.alloc (.cells (madeCells #[.int .i64 0] N) 3) = Y2 at *
        refine wpAnyH_ready (rs := [4]) (by kernel_rfl) (by simp) ?_
        refine AllReadyH.cons rfl (fun K hK => ?_) AllReadyH.nil
        all_goals go_simp
        · go_at_call 74
          refine (HLS.out Y2 hr2).mono ?_
          rintro e Y3 ⟨vs, rfl, hrows, hb3⟩
          have hS3 := RW.two HX2.out (RW.later hr2 hb3)
          have hr3 := RW.later hr2 hb3
          (try go_wp2_with fail)
          refine hK.out _ _ hS3 (fun hHeld => ?_)
          clear hK K
          (try simp only [Act.put, List.setIfInBounds_toArray, List.set_cons_zero, List.set_cons_succ])
          refine wpAnyH_ready (rs := [8]) (by kernel_rfl) (by simp) ?_
          refine AllReadyH.cons rfl (fun K hK => ?_) AllReadyH.nil
          all_goals go_simp
          · go_at_call 87
            refine (repeat_any (-1) N hN Y3 (cell_later hb3 (cell_later hb2 hz5))).mono ?_
            rintro e Y4 ⟨vS, rfl, hown, hb4⟩
            have hS4 := RW.two HX2.out (RW.later hr3 hb4)
            have hr4 := RW.later hr3 hb4
            obtain ⟨SA, Sn, Sc, rfl⟩ := hown.shape
            (try go_wp2_with fail)
            refine hK.out _ _ hS4 (fun hHeld => ?_)
            clear hK K
            (try simp only [Act.put, List.setIfInBounds_toArray, List.set_cons_zero, List.set_cons_succ])
            refine wpAnyH_take (i := 12) (oi := ?oiz519x12) (v := ?vz519x12) ?hiz519x12 (by kernel_rfl) (by kernel_rfl) (by kernel_rfl) ?hQz519x12 ?hyz519x12 (by assumption) ?restz519x12
            case hiz519x12 => first | (simp only [List.getElem?_toArray, List.getElem?_cons_zero, List.getElem?_cons_succ]; rfl) | rfl
            case hQz519x12 => exact fun _ _ _ h => h
            case hyz519x12 => (refine Or.inl ⟨by rfl, ?_⟩; intro w hSw; (try dsimp only at hSw); go_simp; (try with_reducible rfl))
            simp only [Act.put, List.setIfInBounds_toArray, List.set_cons_zero, List.set_cons_succ]
            refine wpAnyH_ready (rs := [13]) (by kernel_rfl) (by simp) ?_
            refine AllReadyH.cons rfl (fun K hK => ?_) AllReadyH.nil
            all_goals go_simp
            · have hq1 := Below.size hb1
              have hq2 := Below.size hb2
              have hq3 := Below.size hb3
              have hq4 := Below.size hb4
              have hbox := layBox_of (d := Y4) hr2 (hrows.congr fun i hi => rfl) hb3 (RW.later (RW.refl Y3) hb4) (Nat.lt_of_lt_of_le (row_lt_G hrows) (Nat.le_refl _)) hr3 hown hb4 (RW.refl Y4) hr1 hf11 hb2 (RW.later (RW.later (RW.refl Y2) hb3) hb4) (by omega) (by omega) (by omega)
              refine hK.out _ _ ?sb519 (fun hHeld => ?_)
              case sb519 => exact RW.two HX2.out (RW.later hr4 (bel_alloc _ _))
              clear hK K
              (try simp only [Act.put, List.setIfInBounds_toArray, List.set_cons_zero, List.set_cons_succ])
              refine wpAnyH_take (i := 14) (oi := ?oiz520x14) (v := ?vz520x14) ?hiz520x14 (by kernel_rfl) (by kernel_rfl) (by kernel_rfl) ?hQz520x14 ?hyz520x14 (by assumption) ?restz520x14
              case hiz520x14 => first | (simp only [List.getElem?_toArray, List.getElem?_cons_zero, List.getElem?_cons_succ]; rfl) | rfl
              case hQz520x14 => exact fun _ _ _ h => h
              case hyz520x14 => (refine Or.inl ⟨by rfl, ?_⟩; intro w hSw; (try dsimp only at hSw); go_simp; (try with_reducible rfl))
              simp only [Act.put, List.setIfInBounds_toArray, List.set_cons_zero, List.set_cons_succ]
              refine wpAnyH_done (by kernel_rfl) ?_ _
              (try go_wp2_with fail)
              go_meet
              exact hbox
    · have hf11 := made_own Y0 N hN
      have hb1 : RW Y0 (Y0.alloc (.cells (madeCells #[.int .i64 0] N) 3)) := bel_alloc _ _
      have hs11 : Y0.heap.size < (Y0.alloc (.cells (madeCells #[.int .i64 0] N) 3)).heap.size := by show Y0.heap.size < (Y0.heap.push _).size; rw [Array.size_push]; omega
      have hS1 := RW.two HX2.out (RW.later hr0 hb1)
      refine hK.out _ _ hS1 (fun hHeld => ?_)
      clear hK K
      (try simp only [Act.put, List.setIfInBounds_toArray, List.set_cons_zero, List.set_cons_succ])
      have hr1 := RW.later hr0 hb1
      generalize Y0.alloc (.cells (madeCells #[.int .i64 0] N) 3) = Y1 at *
      refine wpAnyH_ready (rs := [4, 5]) (by kernel_rfl) (by simp) ?_
      refine AllReadyH.cons rfl (fun K hK => ?_) (AllReadyH.cons rfl (fun K hK => ?_) AllReadyH.nil)
      all_goals go_simp
      · go_at_call 74
        refine (HLS.out Y1 hr1).mono ?_
        rintro e Y2 ⟨vs, rfl, hrows, hb2⟩
        have hS2 := RW.two HX2.out (RW.later hr1 hb2)
        have hr2 := RW.later hr1 hb2
        (try go_wp2_with fail)
        refine hK.out _ _ hS2 (fun hHeld => ?_)
        clear hK K
        (try simp only [Act.put, List.setIfInBounds_toArray, List.set_cons_zero, List.set_cons_succ])
        refine wpAnyH_ready (rs := [5]) (by kernel_rfl) (by simp) ?_
        refine AllReadyH.cons rfl (fun K hK => ?_) AllReadyH.nil
        all_goals go_simp
        · have hz5 : (Y2.alloc (.cells #[.int .i64 (-1)] 3)).cell? ⟨Y2.heap.size, 0, none⟩ = some (.int .i64 (-1)) := cell_blk (g := Y2.heap.size) (t := 3) (cs := #[.int .i64 (-1)]) (by show (Y2.heap.push _)[Y2.heap.size]? = _; rw [Array.getElem?_push_size]) 0
          have hb3 : RW Y2 (Y2.alloc (.cells #[.int .i64 (-1)] 3)) := bel_alloc _ _
          have hS3 := RW.two HX2.out (RW.later hr2 hb3)
          refine hK.out _ _ hS3 (fun hHeld => ?_)
          clear hK K
          (try simp only [Act.put, List.setIfInBounds_toArray, List.set_cons_zero, List.set_cons_succ])
          have hr3 := RW.later hr2 hb3
          generalize Y2.alloc (.cells #[.int .i64 (-1)] 3) = Y3 at *
          refine wpAnyH_ready (rs := [8]) (by kernel_rfl) (by simp) ?_
          refine AllReadyH.cons rfl (fun K hK => ?_) AllReadyH.nil
          all_goals go_simp
          · go_at_call 87
            refine (repeat_any (-1) N hN Y3 hz5).mono ?_
            rintro e Y4 ⟨vS, rfl, hown, hb4⟩
            have hS4 := RW.two HX2.out (RW.later hr3 hb4)
            have hr4 := RW.later hr3 hb4
            obtain ⟨SA, Sn, Sc, rfl⟩ := hown.shape
            (try go_wp2_with fail)
            refine hK.out _ _ hS4 (fun hHeld => ?_)
            clear hK K
            (try simp only [Act.put, List.setIfInBounds_toArray, List.set_cons_zero, List.set_cons_succ])
            refine wpAnyH_take (i := 12) (oi := ?oiz521x12) (v := ?vz521x12) ?hiz521x12 (by kernel_rfl) (by kernel_rfl) (by kernel_rfl) ?hQz521x12 ?hyz521x12 (by assumption) ?restz521x12
            case hiz521x12 => first | (simp only [List.getElem?_toArray, List.getElem?_cons_zero, List.getElem?_cons_succ]; rfl) | rfl
            case hQz521x12 => exact fun _ _ _ h => h
            case hyz521x12 => (refine Or.inl ⟨by rfl, ?_⟩; intro w hSw; (try dsimp only at hSw); go_simp; (try with_reducible rfl))
            simp only [Act.put, List.setIfInBounds_toArray, List.set_cons_zero, List.set_cons_succ]
            refine wpAnyH_ready (rs := [13]) (by kernel_rfl) (by simp) ?_
            refine AllReadyH.cons rfl (fun K hK => ?_) AllReadyH.nil
            all_goals go_simp
            · have hq1 := Below.size hb1
              have hq2 := Below.size hb2
              have hq3 := Below.size hb3
              have hq4 := Below.size hb4
              have hbox := layBox_of (d := Y4) hr1 (hrows.congr fun i hi => rfl) hb2 (RW.later (RW.later (RW.refl Y2) hb3) hb4) (Nat.lt_of_lt_of_le (row_lt_G hrows) (Nat.le_refl _)) hr3 hown hb4 (RW.refl Y4) hr0 hf11 hb1 (RW.later (RW.later (RW.later (RW.refl Y1) hb2) hb3) hb4) (by omega) (by omega) (by omega)
              refine hK.out _ _ ?sb521 (fun hHeld => ?_)
              case sb521 => exact RW.two HX2.out (RW.later hr4 (bel_alloc _ _))
              clear hK K
              (try simp only [Act.put, List.setIfInBounds_toArray, List.set_cons_zero, List.set_cons_succ])
              refine wpAnyH_take (i := 14) (oi := ?oiz522x14) (v := ?vz522x14) ?hiz522x14 (by kernel_rfl) (by kernel_rfl) (by kernel_rfl) ?hQz522x14 ?hyz522x14 (by assumption) ?restz522x14
              case hiz522x14 => first | (simp only [List.getElem?_toArray, List.getElem?_cons_zero, List.getElem?_cons_succ]; rfl) | rfl
              case hQz522x14 => exact fun _ _ _ h => h
              case hyz522x14 => (refine Or.inl ⟨by rfl, ?_⟩; intro w hSw; (try dsimp only at hSw); go_simp; (try with_reducible rfl))
              simp only [Act.put, List.setIfInBounds_toArray, List.set_cons_zero, List.set_cons_succ]
              refine wpAnyH_done (by kernel_rfl) ?_ _
              (try go_wp2_with fail)
              go_meet
              exact hbox
      · have hz5 : (Y1.alloc (.cells #[.int .i64 (-1)] 3)).cell? ⟨Y1.heap.size, 0, none⟩ = some (.int .i64 (-1)) := cell_blk (g := Y1.heap.size) (t := 3) (cs := #[.int .i64 (-1)]) (by show (Y1.heap.push _)[Y1.heap.size]? = _; rw [Array.getElem?_push_size]) 0
        have hb2 : RW Y1 (Y1.alloc (.cells #[.int .i64 (-1)] 3)) := bel_alloc _ _
        have hS2 := RW.two HX2.out (RW.later hr1 hb2)
        refine hK.out _ _ hS2 (fun hHeld => ?_)
        clear hK K
        (try simp only [Act.put, List.setIfInBounds_toArray, List.set_cons_zero, List.set_cons_succ])
        have hr2 := RW.later hr1 hb2
        generalize Y1.alloc (.cells #[.int .i64 (-1)] 3) = Y2 at *
        refine wpAnyH_ready (rs := [4]) (by kernel_rfl) (by simp) ?_
        refine AllReadyH.cons rfl (fun K hK => ?_) AllReadyH.nil
        all_goals go_simp
        · go_at_call 74
          refine (HLS.out Y2 hr2).mono ?_
          rintro e Y3 ⟨vs, rfl, hrows, hb3⟩
          have hS3 := RW.two HX2.out (RW.later hr2 hb3)
          have hr3 := RW.later hr2 hb3
          (try go_wp2_with fail)
          refine hK.out _ _ hS3 (fun hHeld => ?_)
          clear hK K
          (try simp only [Act.put, List.setIfInBounds_toArray, List.set_cons_zero, List.set_cons_succ])
          refine wpAnyH_ready (rs := [8]) (by kernel_rfl) (by simp) ?_
          refine AllReadyH.cons rfl (fun K hK => ?_) AllReadyH.nil
          all_goals go_simp
          · go_at_call 87
            refine (repeat_any (-1) N hN Y3 (cell_later hb3 hz5)).mono ?_
            rintro e Y4 ⟨vS, rfl, hown, hb4⟩
            have hS4 := RW.two HX2.out (RW.later hr3 hb4)
            have hr4 := RW.later hr3 hb4
            obtain ⟨SA, Sn, Sc, rfl⟩ := hown.shape
            (try go_wp2_with fail)
            refine hK.out _ _ hS4 (fun hHeld => ?_)
            clear hK K
            (try simp only [Act.put, List.setIfInBounds_toArray, List.set_cons_zero, List.set_cons_succ])
            refine wpAnyH_take (i := 12) (oi := ?oiz523x12) (v := ?vz523x12) ?hiz523x12 (by kernel_rfl) (by kernel_rfl) (by kernel_rfl) ?hQz523x12 ?hyz523x12 (by assumption) ?restz523x12
            case hiz523x12 => first | (simp only [List.getElem?_toArray, List.getElem?_cons_zero, List.getElem?_cons_succ]; rfl) | rfl
            case hQz523x12 => exact fun _ _ _ h => h
            case hyz523x12 => (refine Or.inl ⟨by rfl, ?_⟩; intro w hSw; (try dsimp only at hSw); go_simp; (try with_reducible rfl))
            simp only [Act.put, List.setIfInBounds_toArray, List.set_cons_zero, List.set_cons_succ]
            refine wpAnyH_ready (rs := [13]) (by kernel_rfl) (by simp) ?_
            refine AllReadyH.cons rfl (fun K hK => ?_) AllReadyH.nil
            all_goals go_simp
            · have hq1 := Below.size hb1
              have hq2 := Below.size hb2
              have hq3 := Below.size hb3
              have hq4 := Below.size hb4
              have hbox := layBox_of (d := Y4) hr2 (hrows.congr fun i hi => rfl) hb3 (RW.later (RW.refl Y3) hb4) (Nat.lt_of_lt_of_le (row_lt_G hrows) (Nat.le_refl _)) hr3 hown hb4 (RW.refl Y4) hr0 hf11 hb1 (RW.later (RW.later (RW.later (RW.refl Y1) hb2) hb3) hb4) (by omega) (by omega) (by omega)
              refine hK.out _ _ ?sb523 (fun hHeld => ?_)
              case sb523 => exact RW.two HX2.out (RW.later hr4 (bel_alloc _ _))
              clear hK K
              (try simp only [Act.put, List.setIfInBounds_toArray, List.set_cons_zero, List.set_cons_succ])
              refine wpAnyH_take (i := 14) (oi := ?oiz524x14) (v := ?vz524x14) ?hiz524x14 (by kernel_rfl) (by kernel_rfl) (by kernel_rfl) ?hQz524x14 ?hyz524x14 (by assumption) ?restz524x14
              case hiz524x14 => first | (simp only [List.getElem?_toArray, List.getElem?_cons_zero, List.getElem?_cons_succ]; rfl) | rfl
              case hQz524x14 => exact fun _ _ _ h => h
              case hyz524x14 => (refine Or.inl ⟨by rfl, ?_⟩; intro w hSw; (try dsimp only at hSw); go_simp; (try with_reducible rfl))
              simp only [Act.put, List.setIfInBounds_toArray, List.set_cons_zero, List.set_cons_succ]
              refine wpAnyH_done (by kernel_rfl) ?_ _
              (try go_wp2_with fail)
              go_meet
              exact hbox
  case rest =>
    obtain ⟨L, G, base, vs, vS, vF, K, wh, rfl, hlay, hrows, hKG, hKi⟩ := hcut
    have HRW := Lib.hid hrows
    have HKK := Lib.hid (And.intro hKG hKi)
    have HST0 : Hid (∃ sd fr v, LayW K wh w2 wc L (.slice (some ⟨G, 0, none⟩) N N) vS vF v sd fr [] ∧ TreeI N es sd fr ∧ QueI N es sd [] ∧ DoneTo sd 0) := ⟨_, _, _, hlay, TreeI.none, QueI.none, fun x hx => absurd hx (by omega)⟩
    obtain ⟨x0, x1⟩ := later2 hlay.below HX2.out
    clear hlay hrows hKG hKi hmk hN
    go_wp2_with fail
    go_loopw [32] (fun i wr => ∃ k : Nat, k ≤ N ∧ i = .int .i64 k ∧ Hid (∃ sd fr v, LayW K wh w2 wr L (.slice (some ⟨G, 0, none⟩) N N) vS vF v sd fr [] ∧ TreeI N es sd fr ∧ QueI N es sd [] ∧ DoneTo sd k)) (fun i _ => N - (intOf i).toNat)
    case atStart => exact ⟨0, Nat.zero_le _, rfl, HST0⟩
    case round =>
      clear x0 x1
      obtain ⟨k, hk, rfl, hst⟩ := hrel
      by_cases hlt : k < N
      · have HLT := Lib.hid hlt
        have hk4 : k < 4096 := by have := HN.out; omega
        obtain ⟨sd, fr, v, hlay, htree, hque, hdone⟩ := hst.out
        obtain ⟨S, C, eS, hS1, hS2, -⟩ := own_slice hlay.ownS (by rw [htree.len]; omega)
        obtain ⟨F, C', eF, hF1, hF2, -⟩ := own_slice hlay.ownF (by rw [htree.frl]; omega)
        rw [htree.len] at eS
        rw [htree.frl] at eF
        subst eS eF
        have x1 := hlay.c1
        have c1 := hlay.ownS.cellAt hlt
        have hki : (0 : Int) ≤ (k : Int) ∧ (k : Int) < (N : Int) := by omega
        have HLY := Lib.hid hlay
        have HTR := Lib.hid htree
        have HQE := Lib.hid hque
        have HDN := Lib.hid hdone
        obtain ⟨x, hx⟩ : ∃ x, x = gi sd k := ⟨_, rfl⟩
        rw [← hx] at c1
        have HXE := Lib.hid hx
        have HXV := Lib.hid (htree.val k hlt)
        clear hst hlay htree hque hdone hS1 hS2 hF1 hF2 hx hlt
        by_cases q : x = -1
        · have HX1 : Hid (gi sd k = -1) := by unfold Hid; rw [← HXE.out]; exact q
          rw [q] at c1
          clear q
          go_wp2_with fail
          refine (put_new (a := 0) (b := -1) HLY.out HLT.out HX1.out (by simp)).mono ?_
          rintro e w4 ⟨rfl, v4, hl4⟩
          have hneg : gi sd k < 0 := by rw [HX1.out]; omega
          have HS4 : Hid (∃ sd4 fr4 q4 v4, LayW K wh w2 w4 L (.slice (some ⟨G, 0, none⟩) N N) (.slice (some ⟨S, 0, none⟩) N C) (.slice (some ⟨F, 0, none⟩) N C') v4 sd4 fr4 q4 ∧ TreeI N es sd4 fr4 ∧ QueI N es sd4 q4 ∧ DoneTo sd4 (k + 1)) :=
            ⟨_, _, _, _, hl4, HTR.out.start (HQE.out.closed HRI.out) HDN.out HLT.out hneg, HQE.out.start HTR.out.len HLT.out hneg, (mid_start HTR.out.mid (HQE.out.closed HRI.out) HDN.out HLT.out hneg).2.1⟩
          obtain ⟨sd4, fr4, q4, v4, h41, h42, h43, h44⟩ := HS4.out
          have H41 := Lib.hid h41
          have H42 := Lib.hid h42
          have H43 := Lib.hid h43
          have H44 := Lib.hid h44
          clear hl4 hneg HS4 h41 h42 h43 h44 x1 c1 HLY HTR HQE HDN HXE HXV HX1
          go_wp2_with fail
          go_loopg [8] (2 * unc N sd4 + q4.length) (fun m _ wr => ∃ sd fr q v, Hid (LayW K wh w2 wr L (.slice (some ⟨G, 0, none⟩) N N) (.slice (some ⟨S, 0, none⟩) N C) (.slice (some ⟨F, 0, none⟩) N C') v sd fr q) ∧ Hid (TreeI N es sd fr) ∧ Hid (QueI N es sd q) ∧ Hid (DoneTo sd (k + 1)) ∧ Hid (m = 2 * unc N sd + q.length))
          case atStart => exact ⟨sd4, fr4, q4, _, H41, H42, H43, H44, rfl⟩
          case round =>
            clear H41 H42 H43 H44
            obtain ⟨sd, fr, q, v, hly, htr, hqe, hdn, hms⟩ := hrel
            obtain ⟨QA, Qc, rfl⟩ := hly.out.que.shape
            have x3 := hly.out.c3
            rcases q with _ | ⟨z, q'⟩
            · have HS5 : Hid (∃ sd fr v, LayW K wh w2 wr L (.slice (some ⟨G, 0, none⟩) N N) (.slice (some ⟨S, 0, none⟩) N C) (.slice (some ⟨F, 0, none⟩) N C') v sd fr [] ∧ TreeI N es sd fr ∧ QueI N es sd [] ∧ DoneTo sd (k + 1)) := ⟨_, _, _, hly.out, htr.out, hqe.out, hdn.out⟩
              simp only [List.length_nil] at x3
              go_wp2_with fail
              clear x3
              go_roundw
              case rel => exact ⟨k + 1, by have := HLT.out; omega, by go_num, HS5⟩
              case measure => have := HLT.out; simp [intOf]; omega
            · obtain ⟨u, rfl, hqu⟩ := hqe.out.pop
              obtain ⟨g, off, cap, v1, e1, hcell, hrun, hq1, hob, A1, c1, rfl⟩ := QI.pop hly.out.que
              have HL5 := Lib.hid (hly.out.requeue (World.grownBy.refl _ _) hq1 (.inl (by rw [hob, e1]; rfl)))
              have f3 := hly.out.fz
              have hrun2 := hrun
              simp only [List.length_cons] at x3
              rw [List.length_cons] at e1
              injection e1 with e1 e2 e3
              subst e1 e3
              have HU := Lib.hid hqu
              have huN := hqu.udo.1
              have HUN := Lib.hid huN
              have hui : (0 : Int) ≤ (u : Int) ∧ (u : Int) < (N : Int) := by omega
              obtain ⟨NA, Nc, eN, -, -, -⟩ := OwnI.read (HRW.out.own u huN)
              have HEN := Lib.hid eN
              obtain ⟨k1, k2⟩ := rows_keep2 HRW.out HKK.out.1 HKK.out.2 (fun k hk => (HL5.out.keep k hk).2.2.2.2.2) huN
              rw [eN] at k1
              have x05 := HL5.out.c0
              have HMS : Hid (2 * unc N sd + (q'.length + 1) = _) := hms.out.symm
              have HN0 : Hid (QueU N es sd q' u 0 ∧ 2 * unc N sd + q'.length ≤ 2 * unc N sd + q'.length) := ⟨hqu, Nat.le_refl _⟩
              clear hqe hqu k2 eN hq1 hob hrun
              go_wp2_with fail
              clear x3 f3 x05 k1 hcell hrun2
              go_loopw [74] (fun i wr => ∃ j : Nat, j ≤ (nearV es u).length ∧ i = .int .i64 j ∧ Hid (∃ sd' fr' q1 v', LayW K wh w2 wr L (.slice (some ⟨G, 0, none⟩) N N) (.slice (some ⟨S, 0, none⟩) N C) (.slice (some ⟨F, 0, none⟩) N C') v' sd' fr' q1 ∧ TreeI N es sd' fr' ∧ QueU N es sd' q1 u j ∧ DoneTo sd' (k + 1) ∧ 2 * unc N sd' + q1.length ≤ 2 * unc N sd + q'.length)) (fun i _ => (nearV es u).length - (intOf i).toNat)
              case atStart => exact ⟨0, Nat.zero_le _, rfl, ⟨_, _, _, _, HL5.out, htr.out, HN0.out.1, hdn.out, HN0.out.2⟩⟩
              case round =>
                obtain ⟨j, hj, rfl, hst⟩ := hrel
                by_cases hjn : j < (nearV es u).length
                · obtain ⟨sd', fr', q1, v', h1, h2, h3, h4, h5⟩ := hst.out
                  have HJN := Lib.hid hjn
                  have hmem : gi (nearV es u) j ∈ nearV es u := by rw [gi_at hjn]; exact List.getElem_mem _
                  obtain ⟨m1, m2, -, -, -⟩ := near_in HRI.out hmem
                  obtain ⟨y, hy⟩ : ∃ y : Nat, gi (nearV es u) j = y := ⟨(gi (nearV es u) j).toNat, by omega⟩
                  have hyN : y < N := by omega
                  have hnx : Nxt es u y := by unfold Nxt; rw [← hy]; exact hmem
                  have k2 := (rows_keep2 HRW.out HKK.out.1 HKK.out.2 (fun k hk => (h1.keep k hk).2.2.2.2.2) HUN.out).2
                  rw [HEN.out] at k2
                  obtain ⟨A', c', e', -, -, hrd⟩ := OwnI.read k2
                  injection e' with e1 e2 e3
                  subst e1
                  obtain ⟨b, o, rfl, hc⟩ := hrd.2.2 (by omega)
                  have hcj := hc j hjn
                  rw [hy] at hcj
                  have hji : (0 : Int) ≤ (j : Int) ∧ (j : Int) < ((nearV es u).length : Int) := by omega
                  have hj4 : j < 200000 := by
                    have := nearV_len es u
                    have := HEL.out
                    omega
                  have x1 := h1.c1
                  have cu := h1.ownS.cellAt HUN.out
                  have h0u := h3.udo.2
                  have hvu := h2.val u HUN.out
                  obtain ⟨a, ha⟩ : ∃ a, a = gi sd' u := ⟨_, rfl⟩
                  rw [← ha] at cu h0u hvu
                  have w1 : IntKind.i64.wrap (1 - a) = 1 - a := by rw [IntKind.wrap_i64]; omega
                  have HA := Lib.hid ha
                  have HAV : Hid (a = 0 ∨ a = 1) := by unfold Hid; omega
                  have H1 := Lib.hid h1
                  have H2 := Lib.hid h2
                  have H3 := Lib.hid h3
                  have H4 := Lib.hid h4
                  have H5 := Lib.hid h5
                  have HY := Lib.hid (And.intro hy (And.intro hyN hnx))
                  have HHY := Lib.hid hcj
                  clear h1 h2 h3 h4 h5 hst hmem m1 m2 hy k2 hrd hc e2 e3 ha h0u hvu hnx hyN HEN
                  by_cases hX : gi sd' y = -1
                  · have hX2 := Lib.hid hX
                    clear hX
                    go_wp2_with fail
                    refine (put_new (a := 1 - a) (b := (u : Int)) H1.out HY.out.2.1 hX2.out (by have := H3.out.room; have := HN.out; omega)).mono ?_
                    rintro e w6 ⟨rfl, v6, hl6⟩
                    have hneg : gi sd' y < 0 := by rw [hX2.out]; omega
                    have HNEW : Hid (∃ sd' fr' q1 v', LayW K wh w2 w6 L (.slice (some ⟨G, 0, none⟩) N N) (.slice (some ⟨S, 0, none⟩) N C) (.slice (some ⟨F, 0, none⟩) N C') v' sd' fr' q1 ∧ TreeI N es sd' fr' ∧ QueU N es sd' q1 u (j + 1) ∧ DoneTo sd' (k + 1) ∧ 2 * unc N sd' + q1.length ≤ 2 * unc N sd + q'.length) := by
                      have hv := HAV.out
                      have t1 := H2.out.put HRI.out HY.out.2.2 (by rw [← HA.out]; omega) hneg
                      have t2 := H3.out.put H2.out.len HY.out.2.1 HY.out.1 hneg (by rw [← HA.out]; exact hv)
                      rw [← HA.out] at t1 t2
                      have t3 := unc_set H2.out.len HY.out.2.1 hneg (show (0 : Int) ≤ 1 - a by omega)
                      refine ⟨_, _, _, _, hl6, t1, t2, done_set H4.out (by omega), ?_⟩
                      have := H5.out
                      rw [List.length_append, List.length_singleton]
                      omega
                    clear hl6 hneg hcj x1 cu w1
                    go_wp2_with fail
                    go_roundw
                    case rel => exact ⟨j + 1, by have := HJN.out; omega, by go_num, HNEW⟩
                    case measure => have := HJN.out; simp [intOf]; omega
                  · have hX2 := Lib.hid hX
                    clear hX
                    go_wp2_with fail
                    refine (put_old (a := 1 - a) (b := (u : Int)) H1.out HY.out.2.1 hX2.out).mono ?_
                    rintro e w6 ⟨rfl, e6⟩
                    subst e6
                    clear hcj x1 cu w1
                    have HYV := Lib.hid (H2.out.val y HY.out.2.1)
                    by_cases hp : gi sd' y = 1 - a
                    · have HNEW : Hid (∃ sd' fr' q1 v', LayW K wh w2 w6 L (.slice (some ⟨G, 0, none⟩) N N) (.slice (some ⟨S, 0, none⟩) N C) (.slice (some ⟨F, 0, none⟩) N C') v' sd' fr' q1 ∧ TreeI N es sd' fr' ∧ QueU N es sd' q1 u (j + 1) ∧ DoneTo sd' (k + 1) ∧ 2 * unc N sd' + q1.length ≤ 2 * unc N sd + q'.length) := by
                        have hv := HAV.out
                        exact ⟨_, _, _, _, H1.out, H2.out, H3.out.pass HY.out.1 (by rw [hp]; omega) (by rw [hp, ← HA.out]; omega), H4.out, H5.out⟩
                      rw [hp]
                      clear hp
                      go_wp2_with fail
                      go_roundw
                      case rel => exact ⟨j + 1, by have := HJN.out; omega, by go_num, HNEW⟩
                      case measure => have := HJN.out; simp [intOf]; omega
                    · have d9 : (gi sd' y == 1 - a) = false := by rw [beq_eq_false_iff_ne]; exact hp
                      rw [d9]
                      have hcy : Calls Try.prog 89 #[.pointer (some ⟨L, 0, none⟩), .int .i64 u, .int .i64 y] w6 fun e w' => ∃ x r, e = .returned x ∧ OwnI w' w6.heap.size x r ∧ OddRing es r ∧ Below w6.heap.size w6 w' := by
                        have hyv := HYV.out
                        have hv := HAV.out
                        have hx := hX2.out
                        have hs : gi sd' u = gi sd' y := by rw [← HA.out]; omega
                        obtain ⟨la, u1, l1, -⟩ := H2.out.up u HUN.out (by rw [← HA.out]; omega)
                        obtain ⟨lb, u2, l2, -⟩ := H2.out.up y HY.out.2.1 (by omega)
                        exact cycle_any w6 HRI.out H1.out.c2 H1.out.ownF HN.out u1 u2 (by omega) (by omega) HY.out.2.2 hs (H2.out.cut HRI.out u1 u2 HY.out.2.2)
                      clear hp d9
                      go_wp2_with fail
                      refine hcy.mono ?_
                      rintro e w7 ⟨x7, r7, rfl, o7, hodd, b7⟩
                      have HB6 := Lib.hid (bel_trans HB2.out H1.out.below)
                      obtain ⟨RA, Rn, Rc, rfl⟩ := o7.shape
                      clear hcy
                      go_wp2_with fail
                      go_ret3
                      exact .inr ⟨_, _, rfl, row_weaken o7 HB6.out.size, hodd, bel_trans HB6.out b7⟩
                · obtain rfl : j = (nearV es u).length := by omega
                  obtain ⟨sd', fr', q1, v', h1, h2, h3, h4, h5⟩ := hst.out
                  have H1 := Lib.hid h1
                  have H2 := Lib.hid h2
                  have H3 := Lib.hid (h3.end HRI.out)
                  have H4 := Lib.hid h4
                  have H5 := Lib.hid h5
                  clear h1 h2 h3 h4 h5 hst hj hjn
                  go_wp2_with fail
                  go_roundg (2 * unc N sd' + q1.length)
                  case rel => exact ⟨sd', fr', q1, v', H1, H2, H3, H4, rfl⟩
                  case measure => have h1 := hms.out; have h5 := H5.out; simp at h1; omega
        · have d1 : (x == -1) = false := by rw [beq_eq_false_iff_ne]; exact q
          have HS4 : Hid (∃ sd fr v, LayW K wh w2 wr L (.slice (some ⟨G, 0, none⟩) N N) (.slice (some ⟨S, 0, none⟩) N C) (.slice (some ⟨F, 0, none⟩) N C') v sd fr [] ∧ TreeI N es sd fr ∧ QueI N es sd [] ∧ DoneTo sd (k + 1)) := ⟨_, _, _, HLY.out, HTR.out, HQE.out, fun z hz => by
            by_cases e : z = k
            · subst e
              have h1 := HXV.out
              rw [← HXE.out] at h1 ⊢
              omega
            · exact HDN.out z (by omega)⟩
          clear HXE HXV q
          go_wp2_with fail
          clear x1 c1 d1
          go_roundw
          case rel => exact ⟨k + 1, by have := HLT.out; omega, by go_num, HS4⟩
          case measure => have := HLT.out; simp [intOf]; omega
      · obtain rfl : k = N := by omega
        have hd : decide ((k : Int) < (k : Int)) = false := by rw [decide_eq_false_iff_not]; omega
        obtain ⟨sd, fr, v, hlay, htree, hque, hdone⟩ := hst.out
        have x1 := hlay.c1
        obtain ⟨SA, Sn, Sc, rfl⟩ := hlay.ownS.shape
        have HFIN : Hid (OwnI wr w.heap.size (.slice SA Sn Sc) sd ∧ SideOk k es sd ∧ Below w.heap.size w wr) := ⟨row_weaken hlay.ownS HB2.out.size, tree_two HRI.out htree hque hdone, bel_trans HB2.out hlay.below⟩
        clear hlay htree hque hdone hst hlt hk
        go_wp2_with fail
        go_ret3
        exact .inl ⟨_, _, rfl, HFIN.out⟩

/- The walk of awake, of the statements of layer 4. -/
theorem cyc_awake : isCycB 3 [(0, 1), (0, 2), (1, 2)] [0, 1, 2] = true := by decide
theorem right4_awake : rightB 3 [(0, 1), (0, 2), (1, 2)] = true := by decide
theorem ring_awake : OddRing [(0, 1), (0, 2), (1, 2)] [0, 1, 2] := by
  obtain ⟨h1, h2⟩ := (cyc_ring (N := 3) right4_awake).1 cyc_awake
  exact ⟨h1, h2, rfl⟩
theorem sof_awake {W w' : World} {e : Ending} (h : SOfQ 3 [(0, 1), (0, 2), (1, 2)] W e w') : ∃ A c, e = .returned (.tuple #[.slice none 0 0, .slice A 3 c, .int .i64 10]) ∧ Below W.heap.size W w' := by
  have hr := (rightB_iff.1 right4_awake).2.2.2
  rcases h with ⟨v, t, -, -, hs, -⟩ | ⟨v, r, e, ho, hodd, hb⟩
  · exact absurd hs.1 (odd_none (N := 3) hr ring_awake)
  · have h1 := hodd.1.le (N := 3) hr
    have h2 := hodd.2.1
    have h3 : r.length = 3 := by omega
    obtain ⟨A, c, e2, -⟩ := OwnI.read ho
    rw [h3] at e2
    exact ⟨A, c, by rw [e, e2], hb⟩

set_option maxHeartbeats 4000000 in
set_option maxRecDepth 100000 in
theorem awake4_any (w : World) : Calls Try.prog 58 #[] w fun e w' => e = .returned (.bool true) ∧ Below w.heap.size w w' := by
  have hW : ReadE ((w.alloc (.cells #[.int .i64 0, .int .i64 1, .int .i64 0, .int .i64 2, .int .i64 1, .int .i64 2] 41)).alloc (gcells 3 (some ⟨w.heap.size, 0, none⟩) 3 3)) (some ⟨w.heap.size, 0, none⟩) 3 [(0, 1), (0, 2), (1, 2)] :=
    (ReadE.lit w _ [(0, 1), (0, 2), (1, 2)] (by decide)).below (bel_alloc _ _)
  have hX := boxg (w.alloc (.cells #[.int .i64 0, .int .i64 1, .int .i64 0, .int .i64 2, .int .i64 1, .int .i64 2] 41)) 3 (some ⟨w.heap.size, 0, none⟩) 3 3
  have hS : (w.alloc (.cells #[.int .i64 0, .int .i64 1, .int .i64 0, .int .i64 2, .int .i64 1, .int .i64 2] 41)).heap.size = w.heap.size + 1 := by simp
  rw [hS] at hX
  have hb : Below w.heap.size w ((w.alloc (.cells #[.int .i64 0, .int .i64 1, .int .i64 0, .int .i64 2, .int .i64 1, .int .i64 2] 41)).alloc (gcells 3 (some ⟨w.heap.size, 0, none⟩) 3 3)) := bel_trans (bel_alloc _ _) (bel_alloc _ _)
  have HB := Lib.hid hb
  have HX := Lib.hid hX
  have HW := Lib.hid hW
  have hk := sof_any (c := 3) (N := 3) _ hW right4_awake
  clear hW hb hS hX
  go_enter Try.func58, Try.ntmps58
  go_wp2_with fail
  generalize (w.alloc (.cells #[.int .i64 0, .int .i64 1, .int .i64 0, .int .i64 2, .int .i64 1, .int .i64 2] 41)).alloc (gcells 3 (some ⟨w.heap.size, 0, none⟩) 3 3) = w1 at *
  refine hk.mono ?_
  intro e w2 hq
  obtain ⟨A2, c2, rfl, hb1⟩ := sof_awake hq
  obtain ⟨y0, y1⟩ := later2 hb1 HX.out
  have hb2 : Below w2.heap.size w2 (w2.alloc (.cells #[.int .i64 0, .int .i64 1, .int .i64 2] 3)) := bel_alloc _ _
  have hp := siscyc_any (c := 3) (d := 3) 3 _ ((HW.out.below hb1).below hb2) (ReadI.lit w2 3 [0, 1, 2] (by decide)) (by decide) (by decide)
  rw [cyc_awake] at hp
  have HB2 := Lib.hid (bel_trans HB.out (bel_trans hb1 hb2))
  clear hk hb1 hb2 hq
  simp only [List.length_cons, List.length_nil] at *
  go_wp2_with fail
  refine hp.mono ?_
  rintro e w4 ⟨rfl, hd⟩
  have HB4 := Lib.hid (bel_trans HB2.out hd)
  clear hp hd
  go_wp2_with fail
  go_ret
  exact ⟨rfl, HB4.out⟩

end Go.Proofs.Ytnldfjoadmehcaa
