/- The walk of graph.Lists -/
import Derived.Test.YtbnipgajhpbolaaGreatDoorTe10
set_option linter.unusedVariables false
set_option linter.unusedSimpArgs false
namespace Go.Proofs.YtbnipgajhpbolaaGreatDoor

section
open Go.RowKit
theorem Rows.congr {W : World} {G base N : Nat} {vs : Nat → Value} {L L' : Nat → List Int} (r : Rows W G base N vs L) (h : ∀ i, i < N → L i = L' i) : Rows W G base N vs L' :=
  ⟨r.row, fun i hi => h i hi ▸ r.own i hi, r.apart, r.off⟩

set_option maxHeartbeats 8000000 in
set_option maxRecDepth 100000 in
theorem lists_any {A : Option Addr} {n c : Nat} {es : List Ed} (N : Nat) (w : World) (h : ReadE w A n es) (hN : N ≤ 4096) (hn6 : n ≤ 65536) (hin : ∀ k, k < n → 0 ≤ (ge es k).1 ∧ (ge es k).1 < N ∧ 0 ≤ (ge es k).2 ∧ (ge es k).2 < N) :
    Calls Tryz.prog 34 #[.int .i64 N, .slice A n c] w fun e w' =>
      ∃ vs, e = .returned (.slice (some ⟨w.heap.size, 0, none⟩) N N) ∧ Rows w' w.heap.size (w.heap.size + 1) N vs (fun v => lowsE v es ++ highsE v es) ∧ Below w.heap.size w w' := by
  have hmk := run_make_row' 34 22 (.slice none 0 0) 24 Tryz.underlying34 (by kernel_rfl) rfl .i64 .i64 N (by omega) (by omega) w
  have hbA := bel_alloc w (.cells (madeCells #[.slice none 0 0] N) 22)
  have HEA := Lib.hid (h.below hbA)
  have HBA := Lib.hid hbA
  have HL := Lib.hid h.1
  have HE := Lib.hid h
  have HIN := Lib.hid hin
  have hn := h.2.1
  have HR0 : Hid (Rows (w.alloc (.cells (madeCells #[.slice none 0 0] N) 22)) w.heap.size (w.heap.size + 1) N (fun _ => .slice none 0 0) (fun v => lowsE v (es.take 0))) := by
    refine ⟨RowF.made w N _ _, fun i hi => ?_, (fun i j _ _ _ k hk => by cases hk), (fun i hi e => by cases e)⟩
    rw [List.take_zero]
    exact ownI_empty _ _
  generalize hW1 : w.alloc (.cells (madeCells #[.slice none 0 0] N) 22) = w1 at *
  have HW1 : Hid (w.heap.size < w1.heap.size) := by rw [← hW1]; simp [Hid]
  clear hW1 h hin hbA
  go_enter Tryz.func34, Tryz.ntmps34
  go_wp2_with fail
  go_loopw [14] (fun i wr => ∃ (k : Nat) (vs : Nat → Value), k ≤ n ∧ i = .int .i64 k ∧ Hid (Rows wr w.heap.size (w.heap.size + 1) N vs (fun v => lowsE v (es.take k))) ∧ Hid (Below w.heap.size w wr)) (fun i _ => n - (intOf i).toNat)
  case atStart => exact ⟨0, _, Nat.zero_le _, rfl, HR0, HBA⟩
  case round =>
    obtain ⟨k, vs, hk, rfl, hrw, hb⟩ := hrel
    by_cases hlt : k < n
    · obtain ⟨b, o, rfl, hc⟩ := (HE.out.below hb.out).2.2 (by omega)
      obtain ⟨hc1, hc2⟩ := hc k hlt
      obtain ⟨i0, i1, i2, i3⟩ := HIN.out k hlt
      obtain ⟨x, hx⟩ : ∃ x : Nat, (ge es k).1 = x := ⟨(ge es k).1.toNat, by omega⟩
      obtain ⟨y, hy⟩ : ∃ y : Nat, (ge es k).2 = y := ⟨(ge es k).2.toNat, by omega⟩
      have hS := fun v => lowsE_succ v (es := es) (k := k) (by have := HL.out; omega)
      rw [hx, hy] at hS
      have HS := Lib.hid hS
      have HLT := Lib.hid hlt
      rw [hx] at hc1 i0 i1
      rw [hy] at hc2 i2 i3
      have hxN : x < N := by omega
      have hyN : y < N := by omega
      have yi : (0 : Int) ≤ (y : Int) ∧ (y : Int) < (N : Int) := by omega
      have HCY := RowF.cell hrw.out.row hyN
      clear hc hS i0 i1 i2 i3 hx hy
      go_wp2_with fail
      obtain ⟨w5, hw5⟩ : ∃ z, z = wr.alloc (.cells #[.int .i64 (x : Int), .int .i64 (y : Int)] 57) := ⟨_, rfl⟩
      have HW5 := Lib.hid hw5
      have hb5 : Below wr.heap.size wr w5 := by rw [hw5]; exact bel_alloc _ _
      have HB5 := Lib.hid hb5
      have HX5 : Hid (w5.cell? ⟨wr.heap.size, 0, none⟩ = some (.int .i64 (x : Int)) ∧ w5.cell? ⟨wr.heap.size, 1, none⟩ = some (.int .i64 (y : Int))) := by
        rw [hw5]
        exact ⟨(cell_blk (heap_alloc_new _ _) 0).trans rfl, (cell_blk (heap_alloc_new _ _) 1).trans rfl⟩
      have HR5 := Lib.hid (hrw.out.later hb5)
      have HCY5 := cell_later hb5 HCY
      have HLN : Hid ((lowsE y (es.take k)).length + 1 ≤ 1000000000) := by
        have h1 := lowsE_le y es
        have h2 := highsE_le y es
        have h3 := lowsE_le y (es.take k)
        have h4 := HL.out
        rw [List.length_take] at h3
        unfold Hid
        (try rw [List.length_append])
        omega
      have HSZ : Hid (w.heap.size + 1 ≤ (w5.drew.alloc (.cells #[.int .i64 (x : Int)] 3)).heap.size) := by
        have h1 := HR5.out.row.lt
        have h2 := Below.size (bel_alloc w5.drew (.cells #[.int .i64 (x : Int)] 3))
        have h3 : w5.drew.heap.size = w5.heap.size := rfl
        unfold Hid
        omega
      have HR5D := Lib.hid (HR5.out.later (RW.refl w5).drew)
      have HR7 := Lib.hid (HR5D.out.later (bel_alloc w5.drew (.cells #[.int .i64 (x : Int)] 3)))
      have HCY7 := cell_later (bel_alloc w5 (.cells #[.int .i64 (x : Int)] 3)) HCY5
      have HCY6 := cell_later (bel_alloc w5.drew (.cells #[.int .i64 (x : Int)] 3)) (cell_later (RW.refl w5).drew HCY5)
      have HNE : Hid (∀ q, (vs y).ownBlock = some q → q < wr.heap.size) := fun q hq => own_lt (hrw.out.own y hyN) hq
      rw [← hw5]
      clear hw5 hb5
      refine wp_region_held_drew (S := fun w' => w'.cell? ⟨wr.heap.size, 0, none⟩ = some (.int .i64 (x : Int)) ∧ w'.cell? ⟨wr.heap.size, 1, none⟩ = some (.int .i64 (y : Int))) (by kernel_rfl) HX5.out (fun hHeld => ?_)
      refine wpAnyH_take (i := 0) (oi := ?oiz1x0) (v := ?vz1x0) ?hiz1x0 (by kernel_rfl) (by kernel_rfl) (by kernel_rfl) ?hQz1x0 ?hyz1x0 (by assumption) ?restz1x0
      case hiz1x0 => first | (simp only [List.getElem?_toArray, List.getElem?_cons_zero, List.getElem?_cons_succ]; rfl) | rfl
      case hQz1x0 => exact fun _ _ _ h => h
      case hyz1x0 => (refine Or.inl ⟨by rfl, ?_⟩; intro w hSw; (try dsimp only at hSw); go_simp; (try with_reducible rfl))
      simp only [Act.put, List.setIfInBounds_toArray, List.set_cons_zero, List.set_cons_succ]
      refine wpAnyH_take (i := 1) (oi := ?oiz2x1) (v := ?vz2x1) ?hiz2x1 (by kernel_rfl) (by kernel_rfl) (by kernel_rfl) ?hQz2x1 ?hyz2x1 (by assumption) ?restz2x1
      case hiz2x1 => first | (simp only [List.getElem?_toArray, List.getElem?_cons_zero, List.getElem?_cons_succ]; rfl) | rfl
      case hQz2x1 => exact fun _ _ _ h => h
      case hyz2x1 => (refine Or.inl ⟨by rfl, ?_⟩; intro w hSw; (try dsimp only at hSw); go_simp; (try with_reducible rfl))
      simp only [Act.put, List.setIfInBounds_toArray, List.set_cons_zero, List.set_cons_succ]
      refine wpAnyH_take (i := 2) (oi := ?oiz3x2) (v := ?vz3x2) ?hiz3x2 (by kernel_rfl) (by kernel_rfl) (by kernel_rfl) ?hQz3x2 ?hyz3x2 (by assumption) ?restz3x2
      case hiz3x2 => first | (simp only [List.getElem?_toArray, List.getElem?_cons_zero, List.getElem?_cons_succ]; rfl) | rfl
      case hQz3x2 => exact fun _ _ _ h => h
      case hyz3x2 => (refine Or.inl ⟨by rfl, ?_⟩; intro w hSw; (try dsimp only at hSw); go_simp; (try with_reducible rfl))
      simp only [Act.put, List.setIfInBounds_toArray, List.set_cons_zero, List.set_cons_succ]
      refine wpAnyH_take (i := 3) (oi := ?oiz4x3) (v := ?vz4x3) ?hiz4x3 (by kernel_rfl) (by kernel_rfl) (by kernel_rfl) ?hQz4x3 ?hyz4x3 (by assumption) ?restz4x3
      case hiz4x3 => first | (simp only [List.getElem?_toArray, List.getElem?_cons_zero, List.getElem?_cons_succ]; rfl) | rfl
      case hQz4x3 => exact fun _ _ _ h => h
      case hyz4x3 => (refine Or.inl ⟨by rfl, ?_⟩; intro w hSw; (try dsimp only at hSw); go_simp; (try with_reducible rfl))
      simp only [Act.put, List.setIfInBounds_toArray, List.set_cons_zero, List.set_cons_succ]
      refine wpAnyH_take (i := 4) (oi := ?oiz5x4) (v := ?vz5x4) ?hiz5x4 (by kernel_rfl) (by kernel_rfl) (by kernel_rfl) ?hQz5x4 ?hyz5x4 (by assumption) ?restz5x4
      case hiz5x4 => first | (simp only [List.getElem?_toArray, List.getElem?_cons_zero, List.getElem?_cons_succ]; rfl) | rfl
      case hQz5x4 => exact fun _ _ _ h => h
      case hyz5x4 => (refine Or.inl ⟨by rfl, ?_⟩; intro w hSw; (try dsimp only at hSw); go_simp; (try with_reducible rfl))
      simp only [Act.put, List.setIfInBounds_toArray, List.set_cons_zero, List.set_cons_succ]
      refine wpAnyH_take (i := 5) (oi := ?oiz6x5) (v := ?vz6x5) ?hiz6x5 (by kernel_rfl) (by kernel_rfl) (by kernel_rfl) ?hQz6x5 ?hyz6x5 (by assumption) ?restz6x5
      case hiz6x5 => first | (simp only [List.getElem?_toArray, List.getElem?_cons_zero, List.getElem?_cons_succ]; rfl) | rfl
      case hQz6x5 => exact fun _ _ _ h => h
      case hyz6x5 => (refine Or.inl ⟨by rfl, ?_⟩; intro w hSw; (try dsimp only at hSw); go_simp; (try with_reducible rfl))
      simp only [Act.put, List.setIfInBounds_toArray, List.set_cons_zero, List.set_cons_succ]
      refine wpAnyH_take (i := 6) (oi := ?oiz7x6) (v := ?vz7x6) ?hiz7x6 (by kernel_rfl) (by kernel_rfl) (by kernel_rfl) ?hQz7x6 ?hyz7x6 (by assumption) ?restz7x6
      case hiz7x6 => first | (simp only [List.getElem?_toArray, List.getElem?_cons_zero, List.getElem?_cons_succ]; rfl) | rfl
      case hQz7x6 => exact fun _ _ _ h => h
      case hyz7x6 => (refine Or.inl ⟨by rfl, ?_⟩; intro w hSw; (try dsimp only at hSw); go_simp; (try with_reducible rfl))
      simp only [Act.put, List.setIfInBounds_toArray, List.set_cons_zero, List.set_cons_succ]
      refine wpAnyH_take (i := 8) (oi := ?oiz8x8) (v := ?vz8x8) ?hiz8x8 (by kernel_rfl) (by kernel_rfl) (by kernel_rfl) ?hQz8x8 ?hyz8x8 (by assumption) ?restz8x8
      case hiz8x8 => first | (simp only [List.getElem?_toArray, List.getElem?_cons_zero, List.getElem?_cons_succ]; rfl) | rfl
      case hQz8x8 => exact fun _ _ _ h => h
      case hyz8x8 => (refine Or.inl ⟨by rfl, ?_⟩; intro w hSw; (try dsimp only at hSw); go_simp; (try with_reducible rfl))
      simp only [Act.put, List.setIfInBounds_toArray, List.set_cons_zero, List.set_cons_succ]
      refine wpAnyH_take (i := 9) (oi := ?oiz9x9) (v := ?vz9x9) ?hiz9x9 (by kernel_rfl) (by kernel_rfl) (by kernel_rfl) ?hQz9x9 ?hyz9x9 (by assumption) ?restz9x9
      case hiz9x9 => first | (simp only [List.getElem?_toArray, List.getElem?_cons_zero, List.getElem?_cons_succ]; rfl) | rfl
      case hQz9x9 => exact fun _ _ _ h => h
      case hyz9x9 => (refine Or.inl ⟨by rfl, ?_⟩; intro w hSw; (try dsimp only at hSw); go_simp; (try with_reducible rfl))
      simp only [Act.put, List.setIfInBounds_toArray, List.set_cons_zero, List.set_cons_succ]
      refine wpAnyH_ready (rs := [7, 10]) (by kernel_rfl) (by simp) ?_
      refine AllReadyH.cons rfl (fun K hK => ?_) (AllReadyH.cons rfl (fun K hK => ?_) AllReadyH.nil)
      all_goals go_simp
      · refine hK.out _ _ HX5.out (fun hHeld => ?_)
        clear hK K
        (try simp only [Act.put, List.setIfInBounds_toArray, List.set_cons_zero, List.set_cons_succ])
        refine wpAnyH_ready (rs := [10]) (by kernel_rfl) (by simp) ?_
        refine AllReadyH.cons rfl (fun K hK => ?_) AllReadyH.nil
        go_simp
        refine hK.out _ _ ⟨cell_later (bel_alloc w5.drew _) HX5.out.1, cell_later (bel_alloc w5.drew _) HX5.out.2⟩ (fun hHeld => ?_)
        clear hK K
        (try simp only [Act.put, List.setIfInBounds_toArray, List.set_cons_zero, List.set_cons_succ])
        refine wpAnyH_ready (rs := [11]) (by kernel_rfl) (by simp) ?_
        refine AllReadyH.cons rfl (fun K hK => ?_) AllReadyH.nil
        refine step_appI (w := w5.drew.alloc (.cells #[.int .i64 (x : Int)] 3)) (w.heap.size + 1) (by rfl) _ _ (by rfl) (vs y) (lowsE y (es.take k)) [(x : Int)] (by rfl) (own_later (HR5D.out.own y hyN) (bel_alloc w5.drew _)) HSZ.out (some ⟨w5.heap.size, 0, none⟩) 1 1 (by rfl) (ReadI.lit w5.drew 3 [(x : Int)] (by simp)) HLN.out ?_
        intro v1 w8 own8 g8 hat8
        obtain ⟨A1, n1, cc1, rfl⟩ := OwnI.shape own8
        have hx8 : w8.cell? ⟨wr.heap.size, 0, none⟩ = some (.int .i64 (x : Int)) ∧ w8.cell? ⟨wr.heap.size, 1, none⟩ = some (.int .i64 (y : Int)) := ⟨g8.cell (cell_later (bel_alloc w5.drew _) HX5.out.1) (fun e => absurd (HNE.out _ e.symm) (by simp)), g8.cell (cell_later (bel_alloc w5.drew _) HX5.out.2) (fun e => absurd (HNE.out _ e.symm) (by simp))⟩
        have HX8 := Lib.hid hx8
        have HRP := Lib.hid (HR7.out.put hyN own8 g8 (by rcases hat8 with q | q; exact .inl q; exact .inr ⟨_, q, Nat.le_refl _⟩))
        have r8 := (HR7.out.row.grown g8 (fun e => HR7.out.off y hyN e.symm))
        have c8 := r8.cell hyN
        have f8 := r8.froz y
        have HB8 : Hid (Below w.heap.size w w8) := Below.grown (below_after (below_after (below_after hb.out (by have := hrw.out.row.lt; omega) HB5.out) (by have := HR5.out.row.lt; omega) (RW.refl w5).drew) (by have := HR5D.out.row.lt; omega) (bel_alloc w5.drew _)) g8 (by have := HSZ.out; omega) (fun q hq => by have := row_base (HR7.out.own y hyN) q hq; omega)
        clear own8 hat8 r8
        refine hK.out _ _ hx8 (fun hHeld => ?_)
        clear hK K
        (try simp only [Act.put, List.setIfInBounds_toArray, List.set_cons_zero, List.set_cons_succ])
        refine wpAnyH_take (i := 12) (oi := ?oiz10x12) (v := ?vz10x12) ?hiz10x12 (by kernel_rfl) (by kernel_rfl) (by kernel_rfl) ?hQz10x12 ?hyz10x12 (by assumption) ?restz10x12
        case hiz10x12 => first | (simp only [List.getElem?_toArray, List.getElem?_cons_zero, List.getElem?_cons_succ]; rfl) | rfl
        case hQz10x12 => exact fun _ _ _ h => h
        case hyz10x12 => (refine Or.inl ⟨by rfl, ?_⟩; intro w hSw; (try dsimp only at hSw); go_simp; (try with_reducible rfl))
        simp only [Act.put, List.setIfInBounds_toArray, List.set_cons_zero, List.set_cons_succ]
        refine wpAnyH_ready (rs := [13]) (by kernel_rfl) (by simp) ?_
        refine AllReadyH.cons rfl (fun K hK => ?_) AllReadyH.nil
        go_simp
        refine hK.out _ _ ⟨(World.cell?_setCell_other w8 ⟨w.heap.size, y, none⟩ ⟨wr.heap.size, 0, none⟩ (.slice A1 n1 cc1) (by intro e; injection e with e1; have := hrw.out.row.lt; omega)).trans HX8.out.1, (World.cell?_setCell_other w8 ⟨w.heap.size, y, none⟩ ⟨wr.heap.size, 1, none⟩ (.slice A1 n1 cc1) (by intro e; injection e with e1; have := hrw.out.row.lt; omega)).trans HX8.out.2⟩ (fun hHeld => ?_)
        clear hK K
        (try simp only [Act.put, List.setIfInBounds_toArray, List.set_cons_zero, List.set_cons_succ])
        refine wpAnyH_done (by kernel_rfl) ?_ _
        have HRN : Hid (Rows (w8.setCell ⟨w.heap.size, y, none⟩ (.slice A1 n1 cc1)) w.heap.size (w.heap.size + 1) N (fun j => if j = y then .slice A1 n1 cc1 else vs j) (fun v => lowsE v (es.take (k + 1)))) := HRP.out.congr (fun j hj => by
          by_cases q : j = y
          · subst q
            rw [if_pos rfl, HS.out, if_pos rfl]
          · rw [if_neg q, HS.out, if_neg (by omega)])
        have HBN : Hid (Below w.heap.size w (w8.setCell ⟨w.heap.size, y, none⟩ (.slice A1 n1 cc1))) := Below.setCell HB8.out (Nat.le_refl _) _
        clear HX8 HRP c8 f8 HB8 hx8 g8 HCY7 HCY6 HCY5 HCY
        go_wp2_with fail
        go_roundw
        case rel => exact ⟨k + 1, _, by have := HLT.out; omega, by go_num, HRN, HBN⟩
        case measure => have := HLT.out; simp [intOf]; omega
      · refine hK.out _ _ ⟨cell_later (bel_alloc w5.drew _) HX5.out.1, cell_later (bel_alloc w5.drew _) HX5.out.2⟩ (fun hHeld => ?_)
        clear hK K
        (try simp only [Act.put, List.setIfInBounds_toArray, List.set_cons_zero, List.set_cons_succ])
        refine wpAnyH_ready (rs := [7]) (by kernel_rfl) (by simp) ?_
        refine AllReadyH.cons rfl (fun K hK => ?_) AllReadyH.nil
        go_simp
        refine hK.out _ _ ⟨cell_later (bel_alloc w5.drew _) HX5.out.1, cell_later (bel_alloc w5.drew _) HX5.out.2⟩ (fun hHeld => ?_)
        clear hK K
        (try simp only [Act.put, List.setIfInBounds_toArray, List.set_cons_zero, List.set_cons_succ])
        refine wpAnyH_ready (rs := [11]) (by kernel_rfl) (by simp) ?_
        refine AllReadyH.cons rfl (fun K hK => ?_) AllReadyH.nil
        refine step_appI (w := w5.drew.alloc (.cells #[.int .i64 (x : Int)] 3)) (w.heap.size + 1) (by rfl) _ _ (by rfl) (vs y) (lowsE y (es.take k)) [(x : Int)] (by rfl) (own_later (HR5D.out.own y hyN) (bel_alloc w5.drew _)) HSZ.out (some ⟨w5.heap.size, 0, none⟩) 1 1 (by rfl) (ReadI.lit w5.drew 3 [(x : Int)] (by simp)) HLN.out ?_
        intro v1 w8 own8 g8 hat8
        obtain ⟨A1, n1, cc1, rfl⟩ := OwnI.shape own8
        have hx8 : w8.cell? ⟨wr.heap.size, 0, none⟩ = some (.int .i64 (x : Int)) ∧ w8.cell? ⟨wr.heap.size, 1, none⟩ = some (.int .i64 (y : Int)) := ⟨g8.cell (cell_later (bel_alloc w5.drew _) HX5.out.1) (fun e => absurd (HNE.out _ e.symm) (by simp)), g8.cell (cell_later (bel_alloc w5.drew _) HX5.out.2) (fun e => absurd (HNE.out _ e.symm) (by simp))⟩
        have HX8 := Lib.hid hx8
        have HRP := Lib.hid (HR7.out.put hyN own8 g8 (by rcases hat8 with q | q; exact .inl q; exact .inr ⟨_, q, Nat.le_refl _⟩))
        have r8 := (HR7.out.row.grown g8 (fun e => HR7.out.off y hyN e.symm))
        have c8 := r8.cell hyN
        have f8 := r8.froz y
        have HB8 : Hid (Below w.heap.size w w8) := Below.grown (below_after (below_after (below_after hb.out (by have := hrw.out.row.lt; omega) HB5.out) (by have := HR5.out.row.lt; omega) (RW.refl w5).drew) (by have := HR5D.out.row.lt; omega) (bel_alloc w5.drew _)) g8 (by have := HSZ.out; omega) (fun q hq => by have := row_base (HR7.out.own y hyN) q hq; omega)
        clear own8 hat8 r8
        refine hK.out _ _ hx8 (fun hHeld => ?_)
        clear hK K
        (try simp only [Act.put, List.setIfInBounds_toArray, List.set_cons_zero, List.set_cons_succ])
        refine wpAnyH_take (i := 12) (oi := ?oiz11x12) (v := ?vz11x12) ?hiz11x12 (by kernel_rfl) (by kernel_rfl) (by kernel_rfl) ?hQz11x12 ?hyz11x12 (by assumption) ?restz11x12
        case hiz11x12 => first | (simp only [List.getElem?_toArray, List.getElem?_cons_zero, List.getElem?_cons_succ]; rfl) | rfl
        case hQz11x12 => exact fun _ _ _ h => h
        case hyz11x12 => (refine Or.inl ⟨by rfl, ?_⟩; intro w hSw; (try dsimp only at hSw); go_simp; (try with_reducible rfl))
        simp only [Act.put, List.setIfInBounds_toArray, List.set_cons_zero, List.set_cons_succ]
        refine wpAnyH_ready (rs := [13]) (by kernel_rfl) (by simp) ?_
        refine AllReadyH.cons rfl (fun K hK => ?_) AllReadyH.nil
        go_simp
        refine hK.out _ _ ⟨(World.cell?_setCell_other w8 ⟨w.heap.size, y, none⟩ ⟨wr.heap.size, 0, none⟩ (.slice A1 n1 cc1) (by intro e; injection e with e1; have := hrw.out.row.lt; omega)).trans HX8.out.1, (World.cell?_setCell_other w8 ⟨w.heap.size, y, none⟩ ⟨wr.heap.size, 1, none⟩ (.slice A1 n1 cc1) (by intro e; injection e with e1; have := hrw.out.row.lt; omega)).trans HX8.out.2⟩ (fun hHeld => ?_)
        clear hK K
        (try simp only [Act.put, List.setIfInBounds_toArray, List.set_cons_zero, List.set_cons_succ])
        refine wpAnyH_done (by kernel_rfl) ?_ _
        have HRN : Hid (Rows (w8.setCell ⟨w.heap.size, y, none⟩ (.slice A1 n1 cc1)) w.heap.size (w.heap.size + 1) N (fun j => if j = y then .slice A1 n1 cc1 else vs j) (fun v => lowsE v (es.take (k + 1)))) := HRP.out.congr (fun j hj => by
          by_cases q : j = y
          · subst q
            rw [if_pos rfl, HS.out, if_pos rfl]
          · rw [if_neg q, HS.out, if_neg (by omega)])
        have HBN : Hid (Below w.heap.size w (w8.setCell ⟨w.heap.size, y, none⟩ (.slice A1 n1 cc1))) := Below.setCell HB8.out (Nat.le_refl _) _
        clear HX8 HRP c8 f8 HB8 hx8 g8 HCY7 HCY6 HCY5 HCY
        go_wp2_with fail
        go_roundw
        case rel => exact ⟨k + 1, _, by have := HLT.out; omega, by go_num, HRN, HBN⟩
        case measure => have := HLT.out; simp [intOf]; omega
    · obtain rfl : n = k := by omega
      have hd : decide ((n : Int) < (n : Int)) = false := by rw [decide_eq_false_iff_not]; omega
      have HR1 : Hid (Rows wr w.heap.size (w.heap.size + 1) N vs (fun v => lowsE v es ++ highsE v (es.take 0))) := hrw.out.congr (fun j hj => by
        rw [List.take_zero, List.take_of_length_le (by have := HL.out; omega)]
        simp [highsE])
      have HB1 := hb
      clear hlt hk hrw hb HR0
      go_wp2_with fail
      clear hd
      go_loopw [34] (fun i wr => ∃ (k : Nat) (vs : Nat → Value), k ≤ n ∧ i = .int .i64 k ∧ Hid (Rows wr w.heap.size (w.heap.size + 1) N vs (fun v => lowsE v es ++ highsE v (es.take k))) ∧ Hid (Below w.heap.size w wr)) (fun i _ => n - (intOf i).toNat)
      case atStart => exact ⟨0, _, Nat.zero_le _, rfl, HR1, HB1⟩
      case round =>
        obtain ⟨k, vs, hk, rfl, hrw, hb⟩ := hrel
        by_cases hlt : k < n
        · obtain ⟨b, o, rfl, hc⟩ := (HE.out.below hb.out).2.2 (by omega)
          obtain ⟨hc1, hc2⟩ := hc k hlt
          obtain ⟨i0, i1, i2, i3⟩ := HIN.out k hlt
          obtain ⟨x, hx⟩ : ∃ x : Nat, (ge es k).1 = x := ⟨(ge es k).1.toNat, by omega⟩
          obtain ⟨y, hy⟩ : ∃ y : Nat, (ge es k).2 = y := ⟨(ge es k).2.toNat, by omega⟩
          have hS := fun v => highsE_succ v (es := es) (k := k) (by have := HL.out; omega)
          rw [hx, hy] at hS
          have HS := Lib.hid hS
          have HLT := Lib.hid hlt
          rw [hx] at hc1 i0 i1
          rw [hy] at hc2 i2 i3
          have hxN : x < N := by omega
          have hyN : y < N := by omega
          have yi : (0 : Int) ≤ (x : Int) ∧ (x : Int) < (N : Int) := by omega
          have HCY := RowF.cell hrw.out.row hxN
          clear hc hS i0 i1 i2 i3 hx hy
          go_wp2_with fail
          obtain ⟨w5, hw5⟩ : ∃ z, z = wr.alloc (.cells #[.int .i64 (x : Int), .int .i64 (y : Int)] 57) := ⟨_, rfl⟩
          have HW5 := Lib.hid hw5
          have hb5 : Below wr.heap.size wr w5 := by rw [hw5]; exact bel_alloc _ _
          have HB5 := Lib.hid hb5
          have HX5 : Hid (w5.cell? ⟨wr.heap.size, 0, none⟩ = some (.int .i64 (x : Int)) ∧ w5.cell? ⟨wr.heap.size, 1, none⟩ = some (.int .i64 (y : Int))) := by
            rw [hw5]
            exact ⟨(cell_blk (heap_alloc_new _ _) 0).trans rfl, (cell_blk (heap_alloc_new _ _) 1).trans rfl⟩
          have HR5 := Lib.hid (hrw.out.later hb5)
          have HCY5 := cell_later hb5 HCY
          have HLN : Hid ((lowsE x es ++ highsE x (es.take k)).length + 1 ≤ 1000000000) := by
            have h1 := lowsE_le x es
            have h2 := highsE_le x es
            have h3 := highsE_le x (es.take k)
            have h4 := HL.out
            rw [List.length_take] at h3
            unfold Hid
            (try rw [List.length_append])
            omega
          have HSZ : Hid (w.heap.size + 1 ≤ (w5.drew.alloc (.cells #[.int .i64 (y : Int)] 3)).heap.size) := by
            have h1 := HR5.out.row.lt
            have h2 := Below.size (bel_alloc w5.drew (.cells #[.int .i64 (y : Int)] 3))
            have h3 : w5.drew.heap.size = w5.heap.size := rfl
            unfold Hid
            omega
          have HR5D := Lib.hid (HR5.out.later (RW.refl w5).drew)
          have HR7 := Lib.hid (HR5D.out.later (bel_alloc w5.drew (.cells #[.int .i64 (y : Int)] 3)))
          have HCY7 := cell_later (bel_alloc w5 (.cells #[.int .i64 (y : Int)] 3)) HCY5
          have HCY6 := cell_later (bel_alloc w5.drew (.cells #[.int .i64 (y : Int)] 3)) (cell_later (RW.refl w5).drew HCY5)
          have HNE : Hid (∀ q, (vs x).ownBlock = some q → q < wr.heap.size) := fun q hq => own_lt (hrw.out.own x hxN) hq
          rw [← hw5]
          clear hw5 hb5
          refine wp_region_held_drew (S := fun w' => w'.cell? ⟨wr.heap.size, 0, none⟩ = some (.int .i64 (x : Int)) ∧ w'.cell? ⟨wr.heap.size, 1, none⟩ = some (.int .i64 (y : Int))) (by kernel_rfl) HX5.out (fun hHeld => ?_)
          refine wpAnyH_take (i := 0) (oi := ?oiz12x0) (v := ?vz12x0) ?hiz12x0 (by kernel_rfl) (by kernel_rfl) (by kernel_rfl) ?hQz12x0 ?hyz12x0 (by assumption) ?restz12x0
          case hiz12x0 => first | (simp only [List.getElem?_toArray, List.getElem?_cons_zero, List.getElem?_cons_succ]; rfl) | rfl
          case hQz12x0 => exact fun _ _ _ h => h
          case hyz12x0 => (refine Or.inl ⟨by rfl, ?_⟩; intro w hSw; (try dsimp only at hSw); go_simp; (try with_reducible rfl))
          simp only [Act.put, List.setIfInBounds_toArray, List.set_cons_zero, List.set_cons_succ]
          refine wpAnyH_take (i := 1) (oi := ?oiz13x1) (v := ?vz13x1) ?hiz13x1 (by kernel_rfl) (by kernel_rfl) (by kernel_rfl) ?hQz13x1 ?hyz13x1 (by assumption) ?restz13x1
          case hiz13x1 => first | (simp only [List.getElem?_toArray, List.getElem?_cons_zero, List.getElem?_cons_succ]; rfl) | rfl
          case hQz13x1 => exact fun _ _ _ h => h
          case hyz13x1 => (refine Or.inl ⟨by rfl, ?_⟩; intro w hSw; (try dsimp only at hSw); go_simp; (try with_reducible rfl))
          simp only [Act.put, List.setIfInBounds_toArray, List.set_cons_zero, List.set_cons_succ]
          refine wpAnyH_take (i := 2) (oi := ?oiz14x2) (v := ?vz14x2) ?hiz14x2 (by kernel_rfl) (by kernel_rfl) (by kernel_rfl) ?hQz14x2 ?hyz14x2 (by assumption) ?restz14x2
          case hiz14x2 => first | (simp only [List.getElem?_toArray, List.getElem?_cons_zero, List.getElem?_cons_succ]; rfl) | rfl
          case hQz14x2 => exact fun _ _ _ h => h
          case hyz14x2 => (refine Or.inl ⟨by rfl, ?_⟩; intro w hSw; (try dsimp only at hSw); go_simp; (try with_reducible rfl))
          simp only [Act.put, List.setIfInBounds_toArray, List.set_cons_zero, List.set_cons_succ]
          refine wpAnyH_take (i := 3) (oi := ?oiz15x3) (v := ?vz15x3) ?hiz15x3 (by kernel_rfl) (by kernel_rfl) (by kernel_rfl) ?hQz15x3 ?hyz15x3 (by assumption) ?restz15x3
          case hiz15x3 => first | (simp only [List.getElem?_toArray, List.getElem?_cons_zero, List.getElem?_cons_succ]; rfl) | rfl
          case hQz15x3 => exact fun _ _ _ h => h
          case hyz15x3 => (refine Or.inl ⟨by rfl, ?_⟩; intro w hSw; (try dsimp only at hSw); go_simp; (try with_reducible rfl))
          simp only [Act.put, List.setIfInBounds_toArray, List.set_cons_zero, List.set_cons_succ]
          refine wpAnyH_take (i := 4) (oi := ?oiz16x4) (v := ?vz16x4) ?hiz16x4 (by kernel_rfl) (by kernel_rfl) (by kernel_rfl) ?hQz16x4 ?hyz16x4 (by assumption) ?restz16x4
          case hiz16x4 => first | (simp only [List.getElem?_toArray, List.getElem?_cons_zero, List.getElem?_cons_succ]; rfl) | rfl
          case hQz16x4 => exact fun _ _ _ h => h
          case hyz16x4 => (refine Or.inl ⟨by rfl, ?_⟩; intro w hSw; (try dsimp only at hSw); go_simp; (try with_reducible rfl))
          simp only [Act.put, List.setIfInBounds_toArray, List.set_cons_zero, List.set_cons_succ]
          refine wpAnyH_take (i := 5) (oi := ?oiz17x5) (v := ?vz17x5) ?hiz17x5 (by kernel_rfl) (by kernel_rfl) (by kernel_rfl) ?hQz17x5 ?hyz17x5 (by assumption) ?restz17x5
          case hiz17x5 => first | (simp only [List.getElem?_toArray, List.getElem?_cons_zero, List.getElem?_cons_succ]; rfl) | rfl
          case hQz17x5 => exact fun _ _ _ h => h
          case hyz17x5 => (refine Or.inl ⟨by rfl, ?_⟩; intro w hSw; (try dsimp only at hSw); go_simp; (try with_reducible rfl))
          simp only [Act.put, List.setIfInBounds_toArray, List.set_cons_zero, List.set_cons_succ]
          refine wpAnyH_take (i := 6) (oi := ?oiz18x6) (v := ?vz18x6) ?hiz18x6 (by kernel_rfl) (by kernel_rfl) (by kernel_rfl) ?hQz18x6 ?hyz18x6 (by assumption) ?restz18x6
          case hiz18x6 => first | (simp only [List.getElem?_toArray, List.getElem?_cons_zero, List.getElem?_cons_succ]; rfl) | rfl
          case hQz18x6 => exact fun _ _ _ h => h
          case hyz18x6 => (refine Or.inl ⟨by rfl, ?_⟩; intro w hSw; (try dsimp only at hSw); go_simp; (try with_reducible rfl))
          simp only [Act.put, List.setIfInBounds_toArray, List.set_cons_zero, List.set_cons_succ]
          refine wpAnyH_take (i := 8) (oi := ?oiz19x8) (v := ?vz19x8) ?hiz19x8 (by kernel_rfl) (by kernel_rfl) (by kernel_rfl) ?hQz19x8 ?hyz19x8 (by assumption) ?restz19x8
          case hiz19x8 => first | (simp only [List.getElem?_toArray, List.getElem?_cons_zero, List.getElem?_cons_succ]; rfl) | rfl
          case hQz19x8 => exact fun _ _ _ h => h
          case hyz19x8 => (refine Or.inl ⟨by rfl, ?_⟩; intro w hSw; (try dsimp only at hSw); go_simp; (try with_reducible rfl))
          simp only [Act.put, List.setIfInBounds_toArray, List.set_cons_zero, List.set_cons_succ]
          refine wpAnyH_take (i := 9) (oi := ?oiz20x9) (v := ?vz20x9) ?hiz20x9 (by kernel_rfl) (by kernel_rfl) (by kernel_rfl) ?hQz20x9 ?hyz20x9 (by assumption) ?restz20x9
          case hiz20x9 => first | (simp only [List.getElem?_toArray, List.getElem?_cons_zero, List.getElem?_cons_succ]; rfl) | rfl
          case hQz20x9 => exact fun _ _ _ h => h
          case hyz20x9 => (refine Or.inl ⟨by rfl, ?_⟩; intro w hSw; (try dsimp only at hSw); go_simp; (try with_reducible rfl))
          simp only [Act.put, List.setIfInBounds_toArray, List.set_cons_zero, List.set_cons_succ]
          refine wpAnyH_ready (rs := [7, 10]) (by kernel_rfl) (by simp) ?_
          refine AllReadyH.cons rfl (fun K hK => ?_) (AllReadyH.cons rfl (fun K hK => ?_) AllReadyH.nil)
          all_goals go_simp
          · refine hK.out _ _ HX5.out (fun hHeld => ?_)
            clear hK K
            (try simp only [Act.put, List.setIfInBounds_toArray, List.set_cons_zero, List.set_cons_succ])
            refine wpAnyH_ready (rs := [10]) (by kernel_rfl) (by simp) ?_
            refine AllReadyH.cons rfl (fun K hK => ?_) AllReadyH.nil
            go_simp
            refine hK.out _ _ ⟨cell_later (bel_alloc w5.drew _) HX5.out.1, cell_later (bel_alloc w5.drew _) HX5.out.2⟩ (fun hHeld => ?_)
            clear hK K
            (try simp only [Act.put, List.setIfInBounds_toArray, List.set_cons_zero, List.set_cons_succ])
            refine wpAnyH_ready (rs := [11]) (by kernel_rfl) (by simp) ?_
            refine AllReadyH.cons rfl (fun K hK => ?_) AllReadyH.nil
            refine step_appI (w := w5.drew.alloc (.cells #[.int .i64 (y : Int)] 3)) (w.heap.size + 1) (by rfl) _ _ (by rfl) (vs x) (lowsE x es ++ highsE x (es.take k)) [(y : Int)] (by rfl) (own_later (HR5D.out.own x hxN) (bel_alloc w5.drew _)) HSZ.out (some ⟨w5.heap.size, 0, none⟩) 1 1 (by rfl) (ReadI.lit w5.drew 3 [(y : Int)] (by simp)) HLN.out ?_
            intro v1 w8 own8 g8 hat8
            obtain ⟨A1, n1, cc1, rfl⟩ := OwnI.shape own8
            have hx8 : w8.cell? ⟨wr.heap.size, 0, none⟩ = some (.int .i64 (x : Int)) ∧ w8.cell? ⟨wr.heap.size, 1, none⟩ = some (.int .i64 (y : Int)) := ⟨g8.cell (cell_later (bel_alloc w5.drew _) HX5.out.1) (fun e => absurd (HNE.out _ e.symm) (by simp)), g8.cell (cell_later (bel_alloc w5.drew _) HX5.out.2) (fun e => absurd (HNE.out _ e.symm) (by simp))⟩
            have HX8 := Lib.hid hx8
            have HRP := Lib.hid (HR7.out.put hxN own8 g8 (by rcases hat8 with q | q; exact .inl q; exact .inr ⟨_, q, Nat.le_refl _⟩))
            have r8 := (HR7.out.row.grown g8 (fun e => HR7.out.off x hxN e.symm))
            have c8 := r8.cell hxN
            have f8 := r8.froz x
            have HB8 : Hid (Below w.heap.size w w8) := Below.grown (below_after (below_after (below_after hb.out (by have := hrw.out.row.lt; omega) HB5.out) (by have := HR5.out.row.lt; omega) (RW.refl w5).drew) (by have := HR5D.out.row.lt; omega) (bel_alloc w5.drew _)) g8 (by have := HSZ.out; omega) (fun q hq => by have := row_base (HR7.out.own x hxN) q hq; omega)
            clear own8 hat8 r8
            refine hK.out _ _ hx8 (fun hHeld => ?_)
            clear hK K
            (try simp only [Act.put, List.setIfInBounds_toArray, List.set_cons_zero, List.set_cons_succ])
            refine wpAnyH_take (i := 12) (oi := ?oiz21x12) (v := ?vz21x12) ?hiz21x12 (by kernel_rfl) (by kernel_rfl) (by kernel_rfl) ?hQz21x12 ?hyz21x12 (by assumption) ?restz21x12
            case hiz21x12 => first | (simp only [List.getElem?_toArray, List.getElem?_cons_zero, List.getElem?_cons_succ]; rfl) | rfl
            case hQz21x12 => exact fun _ _ _ h => h
            case hyz21x12 => (refine Or.inl ⟨by rfl, ?_⟩; intro w hSw; (try dsimp only at hSw); go_simp; (try with_reducible rfl))
            simp only [Act.put, List.setIfInBounds_toArray, List.set_cons_zero, List.set_cons_succ]
            refine wpAnyH_ready (rs := [13]) (by kernel_rfl) (by simp) ?_
            refine AllReadyH.cons rfl (fun K hK => ?_) AllReadyH.nil
            go_simp
            refine hK.out _ _ ⟨(World.cell?_setCell_other w8 ⟨w.heap.size, x, none⟩ ⟨wr.heap.size, 0, none⟩ (.slice A1 n1 cc1) (by intro e; injection e with e1; have := hrw.out.row.lt; omega)).trans HX8.out.1, (World.cell?_setCell_other w8 ⟨w.heap.size, x, none⟩ ⟨wr.heap.size, 1, none⟩ (.slice A1 n1 cc1) (by intro e; injection e with e1; have := hrw.out.row.lt; omega)).trans HX8.out.2⟩ (fun hHeld => ?_)
            clear hK K
            (try simp only [Act.put, List.setIfInBounds_toArray, List.set_cons_zero, List.set_cons_succ])
            refine wpAnyH_done (by kernel_rfl) ?_ _
            have HRN : Hid (Rows (w8.setCell ⟨w.heap.size, x, none⟩ (.slice A1 n1 cc1)) w.heap.size (w.heap.size + 1) N (fun j => if j = x then .slice A1 n1 cc1 else vs j) (fun v => lowsE v es ++ highsE v (es.take (k + 1)))) := HRP.out.congr (fun j hj => by
              by_cases q : j = x
              · subst q
                rw [if_pos rfl, HS.out, if_pos rfl]; simp
              · rw [if_neg q, HS.out, if_neg (by omega)])
            have HBN : Hid (Below w.heap.size w (w8.setCell ⟨w.heap.size, x, none⟩ (.slice A1 n1 cc1))) := Below.setCell HB8.out (Nat.le_refl _) _
            clear HX8 HRP c8 f8 HB8 hx8 g8 HCY7 HCY6 HCY5 HCY
            go_wp2_with fail
            go_roundw
            case rel => exact ⟨k + 1, _, by have := HLT.out; omega, by go_num, HRN, HBN⟩
            case measure => have := HLT.out; simp [intOf]; omega
          · refine hK.out _ _ ⟨cell_later (bel_alloc w5.drew _) HX5.out.1, cell_later (bel_alloc w5.drew _) HX5.out.2⟩ (fun hHeld => ?_)
            clear hK K
            (try simp only [Act.put, List.setIfInBounds_toArray, List.set_cons_zero, List.set_cons_succ])
            refine wpAnyH_ready (rs := [7]) (by kernel_rfl) (by simp) ?_
            refine AllReadyH.cons rfl (fun K hK => ?_) AllReadyH.nil
            go_simp
            refine hK.out _ _ ⟨cell_later (bel_alloc w5.drew _) HX5.out.1, cell_later (bel_alloc w5.drew _) HX5.out.2⟩ (fun hHeld => ?_)
            clear hK K
            (try simp only [Act.put, List.setIfInBounds_toArray, List.set_cons_zero, List.set_cons_succ])
            refine wpAnyH_ready (rs := [11]) (by kernel_rfl) (by simp) ?_
            refine AllReadyH.cons rfl (fun K hK => ?_) AllReadyH.nil
            refine step_appI (w := w5.drew.alloc (.cells #[.int .i64 (y : Int)] 3)) (w.heap.size + 1) (by rfl) _ _ (by rfl) (vs x) (lowsE x es ++ highsE x (es.take k)) [(y : Int)] (by rfl) (own_later (HR5D.out.own x hxN) (bel_alloc w5.drew _)) HSZ.out (some ⟨w5.heap.size, 0, none⟩) 1 1 (by rfl) (ReadI.lit w5.drew 3 [(y : Int)] (by simp)) HLN.out ?_
            intro v1 w8 own8 g8 hat8
            obtain ⟨A1, n1, cc1, rfl⟩ := OwnI.shape own8
            have hx8 : w8.cell? ⟨wr.heap.size, 0, none⟩ = some (.int .i64 (x : Int)) ∧ w8.cell? ⟨wr.heap.size, 1, none⟩ = some (.int .i64 (y : Int)) := ⟨g8.cell (cell_later (bel_alloc w5.drew _) HX5.out.1) (fun e => absurd (HNE.out _ e.symm) (by simp)), g8.cell (cell_later (bel_alloc w5.drew _) HX5.out.2) (fun e => absurd (HNE.out _ e.symm) (by simp))⟩
            have HX8 := Lib.hid hx8
            have HRP := Lib.hid (HR7.out.put hxN own8 g8 (by rcases hat8 with q | q; exact .inl q; exact .inr ⟨_, q, Nat.le_refl _⟩))
            have r8 := (HR7.out.row.grown g8 (fun e => HR7.out.off x hxN e.symm))
            have c8 := r8.cell hxN
            have f8 := r8.froz x
            have HB8 : Hid (Below w.heap.size w w8) := Below.grown (below_after (below_after (below_after hb.out (by have := hrw.out.row.lt; omega) HB5.out) (by have := HR5.out.row.lt; omega) (RW.refl w5).drew) (by have := HR5D.out.row.lt; omega) (bel_alloc w5.drew _)) g8 (by have := HSZ.out; omega) (fun q hq => by have := row_base (HR7.out.own x hxN) q hq; omega)
            clear own8 hat8 r8
            refine hK.out _ _ hx8 (fun hHeld => ?_)
            clear hK K
            (try simp only [Act.put, List.setIfInBounds_toArray, List.set_cons_zero, List.set_cons_succ])
            refine wpAnyH_take (i := 12) (oi := ?oiz22x12) (v := ?vz22x12) ?hiz22x12 (by kernel_rfl) (by kernel_rfl) (by kernel_rfl) ?hQz22x12 ?hyz22x12 (by assumption) ?restz22x12
            case hiz22x12 => first | (simp only [List.getElem?_toArray, List.getElem?_cons_zero, List.getElem?_cons_succ]; rfl) | rfl
            case hQz22x12 => exact fun _ _ _ h => h
            case hyz22x12 => (refine Or.inl ⟨by rfl, ?_⟩; intro w hSw; (try dsimp only at hSw); go_simp; (try with_reducible rfl))
            simp only [Act.put, List.setIfInBounds_toArray, List.set_cons_zero, List.set_cons_succ]
            refine wpAnyH_ready (rs := [13]) (by kernel_rfl) (by simp) ?_
            refine AllReadyH.cons rfl (fun K hK => ?_) AllReadyH.nil
            go_simp
            refine hK.out _ _ ⟨(World.cell?_setCell_other w8 ⟨w.heap.size, x, none⟩ ⟨wr.heap.size, 0, none⟩ (.slice A1 n1 cc1) (by intro e; injection e with e1; have := hrw.out.row.lt; omega)).trans HX8.out.1, (World.cell?_setCell_other w8 ⟨w.heap.size, x, none⟩ ⟨wr.heap.size, 1, none⟩ (.slice A1 n1 cc1) (by intro e; injection e with e1; have := hrw.out.row.lt; omega)).trans HX8.out.2⟩ (fun hHeld => ?_)
            clear hK K
            (try simp only [Act.put, List.setIfInBounds_toArray, List.set_cons_zero, List.set_cons_succ])
            refine wpAnyH_done (by kernel_rfl) ?_ _
            have HRN : Hid (Rows (w8.setCell ⟨w.heap.size, x, none⟩ (.slice A1 n1 cc1)) w.heap.size (w.heap.size + 1) N (fun j => if j = x then .slice A1 n1 cc1 else vs j) (fun v => lowsE v es ++ highsE v (es.take (k + 1)))) := HRP.out.congr (fun j hj => by
              by_cases q : j = x
              · subst q
                rw [if_pos rfl, HS.out, if_pos rfl]; simp
              · rw [if_neg q, HS.out, if_neg (by omega)])
            have HBN : Hid (Below w.heap.size w (w8.setCell ⟨w.heap.size, x, none⟩ (.slice A1 n1 cc1))) := Below.setCell HB8.out (Nat.le_refl _) _
            clear HX8 HRP c8 f8 HB8 hx8 g8 HCY7 HCY6 HCY5 HCY
            go_wp2_with fail
            go_roundw
            case rel => exact ⟨k + 1, _, by have := HLT.out; omega, by go_num, HRN, HBN⟩
            case measure => have := HLT.out; simp [intOf]; omega
        · obtain rfl : k = n := by omega
          have hd : decide ((k : Int) < (k : Int)) = false := by rw [decide_eq_false_iff_not]; omega
          clear hlt hk
          go_wp2_with fail
          go_ret
          refine ⟨vs, rfl, hrw.out.congr (fun j hj => ?_), hb.out⟩
          rw [List.take_of_length_le (by have := HL.out; omega)]
end

end Go.Proofs.YtbnipgajhpbolaaGreatDoor
