/- The walk of play.Small; cmp.Compare, cmp.Or, and the order of edges; the walk of graph.Right -/
import Derived.Test.YtbnipgajhpbolaaGreatDoorTe05
import Derived.Deep.RegionWith
set_option linter.unusedVariables false
set_option linter.unusedSimpArgs false
namespace Go.Proofs.YtbnipgajhpbolaaGreatDoor

section
open Go.RowKit
/-- The result's variable, the graph's variable, and what came later. -/
def SG (w : World) (m : Int) (v : Value) (es : List Ed) (W : World) : Prop :=
  Below w.heap.size w W ∧ w.heap.size + 2 ≤ W.heap.size ∧ W.heap[w.heap.size]? = some (gcells 0 none 0 0) ∧ W.heap[w.heap.size + 1]? = some (.cells #[.int .i64 m, v] 25 (0, 0)) ∧ OwnE W (w.heap.size + 2) v es
section
variable {w W W' : World} {m : Int} {v : Value} {es : List Ed}
theorem SG.later (h : SG w m v es W) (g : Below W.heap.size W W') : SG w m v es W' := by
  obtain ⟨h1, h2, h3, h4, h5⟩ := h
  exact ⟨below_after h1 h1.size g, by have := g.size; omega, (g.block _ (by omega)).trans h3, (g.block _ (by omega)).trans h4, row_below h5 g⟩
theorem SG.drew (h : SG w m v es W) : SG w m v es W.drew := h.later ((Drawn.refl _).drew.below _)
theorem SG.size (h : SG w m v es W) : w.heap.size + 2 ≤ W.heap.size := h.2.1
theorem SG.cells (h : SG w m v es W) : W.cell? ⟨w.heap.size + 1, 0, none⟩ = some (.int .i64 m) ∧ W.cell? ⟨w.heap.size + 1, 1, none⟩ = some v := ⟨(cell_blk h.2.2.2.1 0).trans rfl, (cell_blk h.2.2.2.1 1).trans rfl⟩
theorem SG.froz (h : SG w m v es W) : W.frozen? ⟨w.heap.size + 1, 0, none⟩ = false ∧ W.frozen? ⟨w.heap.size + 1, 1, none⟩ = false := ⟨frozen_blk h.2.2.2.1 0, frozen_blk h.2.2.2.1 1⟩
theorem SG.res (h : SG w m v es W) : W.cell? ⟨w.heap.size, 0, none⟩ = some (.int .i64 0) ∧ W.cell? ⟨w.heap.size, 1, none⟩ = some (.slice none 0 0) ∧ W.frozen? ⟨w.heap.size, 0, none⟩ = false ∧ W.frozen? ⟨w.heap.size, 1, none⟩ = false :=
  ⟨(cell_blk h.2.2.1 0).trans rfl, (cell_blk h.2.2.1 1).trans rfl, frozen_blk h.2.2.1 0, frozen_blk h.2.2.1 1⟩
theorem SG.ess (h : SG w m v es W) {p q : Addr} {x y : Value} (hp : W.cell? p = some x) (hq : W.cell? q = some y) : W.cell? ⟨w.heap.size + 1, 0, none⟩ = some (.int .i64 m) ∧ W.cell? ⟨w.heap.size + 1, 1, none⟩ = some v ∧ W.cell? p = some x ∧ W.cell? q = some y ∧ SG w m v es W := ⟨h.cells.1, h.cells.2, hp, hq, h⟩
theorem SG.next {p q : Addr} {x y : Value} (g : Below W.heap.size W W') (h : W.cell? ⟨w.heap.size + 1, 0, none⟩ = some (.int .i64 m) ∧ W.cell? ⟨w.heap.size + 1, 1, none⟩ = some v ∧ W.cell? p = some x ∧ W.cell? q = some y ∧ SG w m v es W) :
    W'.cell? ⟨w.heap.size + 1, 0, none⟩ = some (.int .i64 m) ∧ W'.cell? ⟨w.heap.size + 1, 1, none⟩ = some v ∧ W'.cell? p = some x ∧ W'.cell? q = some y ∧ SG w m v es W' :=
  (h.2.2.2.2.later g).ess (cell_later g h.2.2.1) (cell_later g h.2.2.2.1)
theorem SG.read {A : Option Addr} {c : Nat} (h : SG w m (.slice A es.length c) es W) : ReadE W A es.length es := by
  obtain ⟨A', c', e, -, -, hr⟩ := OwnE.read h.2.2.2.2
  injection e with e1 e2 e3
  rw [e1]
  exact hr
/-- What stands in the graph's variable is another graph now. -/
theorem SG.store {m' : Int} {v' : Value} {es' : List Ed} (h : SG w m v es W) (o : OwnE W (w.heap.size + 2) v' es') : SG w m' v' es' ((W.setCell ⟨w.heap.size + 1, 0, none⟩ (.int .i64 m')).setCell ⟨w.heap.size + 1, 1, none⟩ v') := by
  obtain ⟨h1, h2, h3, h4, h5⟩ := h
  refine ⟨Below.setCell (Below.setCell h1 (Nat.le_succ _) _) (Nat.le_succ _) _, by simpa [World.setCell] using h2, ?_, ?_, own_set2 o (Nat.lt_succ_self _)⟩
  · rw [Below.heap_setCell _ _ _ _ (by simp), Below.heap_setCell _ _ _ _ (by simp)]
    exact h3
  · exact Go.Proofs.YtbnipgajhpbolaaGreatDoorW.PrintWords.blk_put (cs := #[.int .i64 m', v]) (Go.Proofs.YtbnipgajhpbolaaGreatDoorW.PrintWords.blk_put (cs := #[.int .i64 m, v]) h4 0 _ rfl) 1 _ rfl
end

/-- What came later than a world, in a region. -/
def RW (wr W : World) : Prop := Below wr.heap.size wr W
section
variable {w wr W W' : World}
theorem RW.refl (wr : World) : RW wr wr := Below.refl _ _
theorem RW.later (r : RW wr W) (g : Below W.heap.size W W') : RW wr W' := below_after r (Below.size r) g
theorem RW.drew (r : RW wr W) : RW wr W.drew := r.later ((Drawn.refl _).drew.below _)
theorem RW.alloc (r : RW wr W) (o : Obj) : RW wr (W.alloc o) := r.later ((Below.refl _ _).alloc (Nat.le_refl _) _)
theorem RW.set2 {u v : Value} (r : RW wr W) : RW wr ((W.setCell ⟨wr.heap.size, 0, none⟩ u).setCell ⟨wr.heap.size, 1, none⟩ v) := Below.setCell (Below.setCell r (Nat.le_refl _) _) (Nat.le_refl _) _
theorem RW.all {a1 a2 a3 a4 : Addr} {v1 v2 v3 v4 : Value} (h : wr.cell? a1 = some v1 ∧ wr.cell? a2 = some v2 ∧ wr.cell? a3 = some v3 ∧ wr.cell? a4 = some v4) (r : RW wr W) :
    W.cell? a1 = some v1 ∧ W.cell? a2 = some v2 ∧ W.cell? a3 = some v3 ∧ W.cell? a4 = some v4 ∧ RW wr W := ⟨cell_later r h.1, cell_later r h.2.1, cell_later r h.2.2.1, cell_later r h.2.2.2, r⟩
theorem newblk {t : TypeId} {x y : Value} (g : Below (wr.alloc (.cells #[x, y] t)).drew.heap.size (wr.alloc (.cells #[x, y] t)).drew W') : W'.heap[wr.heap.size]? = some (.cells #[x, y] t (0, 0)) :=
  (g.block _ (by simp)).trans (heap_alloc_new wr (.cells #[x, y] t))
theorem newcells {t : TypeId} {x y : Value} (g : Below (wr.alloc (.cells #[x, y] t)).drew.heap.size (wr.alloc (.cells #[x, y] t)).drew W') :
    W'.cell? ⟨wr.heap.size, 0, none⟩ = some x ∧ W'.cell? ⟨wr.heap.size, 1, none⟩ = some y ∧ W'.frozen? ⟨wr.heap.size, 0, none⟩ = false ∧ W'.frozen? ⟨wr.heap.size, 1, none⟩ = false := by
  have h1 : W'.heap[wr.heap.size]? = some (.cells #[x, y] t (0, 0)) := (g.block _ (by simp)).trans (heap_alloc_new wr (.cells #[x, y] t))
  exact ⟨(cell_blk h1 0).trans rfl, (cell_blk h1 1).trans rfl, frozen_blk h1 0, frozen_blk h1 1⟩
end

/-- Add, as Small needs it. -/
theorem add_soft {m : Int} {es : List Ed} {A : Option Addr} {l c : Nat} (hr : rightB m es = true) (hc : l ≤ c) (a b : Int) (W : World) (h : ReadE W A l es) :
    Calls Tryz.prog 20 #[.agg #[.int .i64 m, .slice A l c], .int .i64 a, .int .i64 b] W fun e w' =>
      ∃ m' A' l' c' es' er, e = .returned (.tuple #[.agg #[.int .i64 m', .slice A' l' c'], .int .i64 er]) ∧ Hid (er = 0 → m' = m ∧ rightB m es' = true ∧ es'.length = es.length + 1) ∧ OwnE w' (W.heap.size + 2) (.slice A' l' c') es' ∧ Below W.heap.size W w' := by
  refine (add_any m a b W h hc).mono ?_
  rintro e w' ⟨g, rfl, v, rfl, own, hb⟩
  obtain ⟨A', c', rfl, -, -, -⟩ := OwnE.read own
  exact ⟨_, _, _, _, _, _, rfl, add_ok hr, own, hb⟩

set_option maxHeartbeats 8000000 in
set_option maxRecDepth 100000 in
theorem small_any {A : Option Addr} {n c : Nat} {zs : List Int} (N V E : Int) (w : World) (h : ReadI w A n zs) (hV : 0 ≤ V ∧ V ≤ 1000) (hE : 0 ≤ E ∧ E ≤ 1000) :
    Calls Tryz.prog 7 #[.int .i64 N, .slice A n c, .int .i64 V, .int .i64 E] w fun e w' => ∃ g m es, e = .returned g ∧ 0 ≤ m ∧ m ≤ V ∧ es.length ≤ E.toNat ∧ rightB m es = true ∧ RetG w w' (w.heap.size + 2) g m es := by
  have hn := h.2.1
  have H1 := Lib.hid h.1
  have hm : 0 ≤ wrap64 ((IntKind.u64.wrap N).tmod (V + 1)) ∧ wrap64 ((IntKind.u64.wrap N).tmod (V + 1)) ≤ V := by
    have h0 : 0 ≤ IntKind.u64.wrap N := by rw [IntKind.wrap_u64]; omega
    have h1 := Int.tmod_lt_of_pos (IntKind.u64.wrap N) (show (0 : Int) < V + 1 by omega)
    have h2 := Int.tmod_nonneg (V + 1) h0
    unfold wrap64
    omega
  go_enter Tryz.func7, Tryz.ntmps7
  go_wp2_with fail
  generalize wrap64 ((IntKind.u64.wrap N).tmod (V + 1)) = m at *
  have hs0 : SG w m (.slice none 0 0) [] ((w.alloc (gcells 0 none 0 0)).alloc (gcells m none 0 0)) := by
    have e : (w.alloc (gcells 0 none 0 0)).heap.size = w.heap.size + 1 := by simp
    refine ⟨Below.alloc (Below.alloc (Below.refl _ _) (Nat.le_refl _) _) (by simp) _, by simp, ?_, ?_, OwnE.nil _ _⟩
    · rw [heap_alloc_old _ _ (show w.heap.size < (w.alloc (gcells 0 none 0 0)).heap.size by simp)]
      exact heap_alloc_new _ _
    · have := heap_alloc_new (w.alloc (gcells 0 none 0 0)) (gcells m none 0 0)
      rwa [e] at this
  have hr0 : rightB m [] = true := by
    unfold rightB
    simp [allTo]
    omega
  have HS0 := Lib.hid hs0
  clear hs0
  have HM := Lib.hid hm
  have HVE := Lib.hid (And.intro hV hE)
  clear hm hV hE
  go_loopw [10] (fun i wr => ∃ (k : Nat) (v : Value) (es : List Ed), k ≤ 402 ∧ i = .int .i64 k ∧ Hid (SG w m v es wr) ∧ Hid (rightB m es = true) ∧ Hid ((es.length : Int) ≤ E)) (fun i _ => 402 - (intOf i).toNat)
  case atStart => exact ⟨0, _, [], by omega, rfl, HS0, hr0, by have := HVE.out.2.1; unfold Hid; simpa using this⟩
  case round =>
    obtain ⟨k, v, es, hk, rfl, hsg, hre, hle⟩ := hrel
    obtain ⟨A1, c1, rfl, hc1, -, hR⟩ := OwnE.read hsg.out.2.2.2.2
    obtain ⟨g0, g1⟩ := SG.cells hsg.out
    obtain ⟨f0, f1⟩ := SG.froz hsg.out
    obtain ⟨r0, r1, r2, r3⟩ := SG.res hsg.out
    have hk1 : wrap64 ((k : Int) + 1) = (k : Int) + 1 := by unfold wrap64; omega
    have hsz := SG.size hsg.out
    by_cases q1 : (k : Int) + 1 < n
    · have q1' : decide ((k : Int) + 1 < n) = true := by rw [decide_eq_true_eq]; omega
      by_cases q2 : (es.length : Int) < E
      · have q2' : decide ((es.length : Int) < E) = true := by rw [decide_eq_true_eq]; omega
        by_cases q3 : 0 < m
        · have q3' : decide (0 < m) = true := by rw [decide_eq_true_eq]; omega
          by_cases q4 : (k : Int) < 400
          · have q4' : decide ((k : Int) < 400) = true := by rw [decide_eq_true_eq]; omega
            have Q4 := Lib.hid q4
            have Q2 := Lib.hid q2
            clear q4 q2 hk
            obtain ⟨b, o, rfl, hcz⟩ := (h.below hsg.out.1).2.2 (by omega)
            have z0 := hcz k (by omega)
            have z1 := hcz (k + 1) (by omega)
            have j0 : (0 : Int) ≤ (k : Int) ∧ (k : Int) < (n : Int) := by omega
            have j1 : (0 : Int) ≤ (k : Int) + 1 ∧ (k : Int) + 1 < (n : Int) := by omega
            have ew : IntKind.i64.wrap ((k : Int) + 1) = (k : Int) + 1 := by rw [IntKind.wrap_i64]; have := Q4.out; omega
            have hk2 : wrap64 ((k : Int) + 2) = ((k + 2 : Nat) : Int) := by unfold wrap64; have := Q4.out; omega
            have um : IntKind.u64.wrap m = m := by rw [IntKind.wrap_u64]; have := HM.out; have := HVE.out; omega
            have hm0 : m ≠ 0 := by omega
            have hm1 : (m == 0) = false := by simpa using hm0
            clear hcz
            generalize gi zs k = x1 at *
            generalize gi zs (k + 1) = x2 at *
            have HSS : Hid (wr.cell? ⟨w.heap.size + 1, 0, none⟩ = some (.int .i64 m) ∧ wr.cell? ⟨w.heap.size + 1, 1, none⟩ = some (.slice A1 es.length c1) ∧ wr.cell? ⟨b, o + k, none⟩ = some (.int .i64 x1) ∧ wr.cell? ⟨b, o + (k + 1), none⟩ = some (.int .i64 x2)) := ⟨g0, g1, z0, z1⟩
            have hadd := fun a b W (hW : ReadE W A1 es.length es) => add_soft (c := c1) hre.out hc1 a b W hW
            go_wp2_with fail
            go_region_held3 (fun w' => w'.cell? ⟨w.heap.size + 1, 0, none⟩ = some (.int .i64 m) ∧ w'.cell? ⟨w.heap.size + 1, 1, none⟩ = some (.slice A1 es.length c1) ∧ w'.cell? ⟨b, o + k, none⟩ = some (.int .i64 x1) ∧ w'.cell? ⟨b, o + (k + 1), none⟩ = some (.int .i64 x2) ∧ RW wr w')
              (first | exact RW.all HSS.out (RW.refl wr).drew | exact RW.all HSS.out (RW.later (And.right (And.right (And.right (And.right (by assumption))))) hb9) | exact RW.all HSS.out (RW.alloc hs9 _) | exact RW.all HSS.out (RW.alloc (RW.refl wr).drew _) | exact RW.all HSS.out (RW.alloc (RW.refl wr) _).drew | exact RW.all HSS.out (RW.set2 hs9) | fail)
              (first
                | (go_at_call 20; refine (hadd _ _ _ (hR.below (And.right (And.right (And.right (And.right (by assumption))))))).mono ?_; rintro e w9 ⟨m9, A9, l9, c9, es9, er, rfl, hok, own9, hb9⟩; have hs9 : RW wr w9 := RW.later (And.right (And.right (And.right (And.right (by assumption))))) hb9; try (have n0 := (newcells hb9).1); try (have n1 := (newcells hb9).2.1); try (have n2 := (newcells hb9).2.2.1); try (have n3 := (newcells hb9).2.2.2))
                | fail)
            · have own8 : OwnE (w9.alloc (.cells #[.int .i64 m9, .slice A9 l9 c9] 25)) (w.heap.size + 2) (.slice A9 l9 c9) es9 := own_alloc (row_weaken own9 (by simp; omega)) _
              have rw8 : RW wr (w9.alloc (.cells #[.int .i64 m9, .slice A9 l9 c9] 25)) := RW.alloc hs9 _
              have sg8 := SG.later hsg.out rw8
              have d0 : (w9.alloc (.cells #[.int .i64 m9, .slice A9 l9 c9] 25)).cell? ⟨w9.heap.size, 0, none⟩ = some (.int .i64 m9) := (cell_blk (heap_alloc_new _ _) 0).trans rfl
              have d1 : (w9.alloc (.cells #[.int .i64 m9, .slice A9 l9 c9] 25)).cell? ⟨w9.heap.size, 1, none⟩ = some (.slice A9 l9 c9) := (cell_blk (heap_alloc_new _ _) 1).trans rfl
              obtain ⟨g80, g81⟩ := SG.cells sg8
              obtain ⟨f80, f81⟩ := SG.froz sg8
              have SG8 := Lib.hid sg8
              by_cases he : er = 0
              · obtain ⟨e1, e2, e3⟩ := hok.out he
                subst he
                subst e1
                have SGN := Lib.hid (SG.store (m' := m9) sg8 own8)
                clear sg8 own8 rw8
                go_wp2_with fail
                go_roundw
                case rel => exact ⟨k + 2, _, es9, by have := Q4.out; omega, by first | rfl | rw [hk2] | (simp; done), SGN, e2, by have := Q2.out; unfold Hid; omega⟩
                case measure => have := Q4.out; (try rw [hk2]); simp only [intOf]; omega
              · have he' : (er == 0) = false := by simpa using he
                clear sg8 own8 rw8 he
                go_wp2_with fail
                go_roundw
                case rel => exact ⟨k + 2, _, es, by have := Q4.out; omega, by first | rfl | rw [hk2] | (simp; done), SG8, hre, hle⟩
                case measure => have := Q4.out; (try rw [hk2]); simp only [intOf]; omega
            · have own8 : OwnE ((w9.setCell ⟨wr.heap.size, 0, none⟩ (.int .i64 m9)).setCell ⟨wr.heap.size, 1, none⟩ (.slice A9 l9 c9)) (w.heap.size + 2) (.slice A9 l9 c9) es9 := row_weaken (own_set2 own9 (by simp; omega)) (by simp; omega)
              have rw8 : RW wr ((w9.setCell ⟨wr.heap.size, 0, none⟩ (.int .i64 m9)).setCell ⟨wr.heap.size, 1, none⟩ (.slice A9 l9 c9)) := RW.set2 hs9
              have sg8 := SG.later hsg.out rw8
              have d0 : ((w9.setCell ⟨wr.heap.size, 0, none⟩ (.int .i64 m9)).setCell ⟨wr.heap.size, 1, none⟩ (.slice A9 l9 c9)).cell? ⟨wr.heap.size, 0, none⟩ = some (.int .i64 m9) := (cell_blk (Go.Proofs.YtbnipgajhpbolaaGreatDoorW.PrintWords.blk_put (cs := #[.int .i64 m9, .slice none 0 0]) (Go.Proofs.YtbnipgajhpbolaaGreatDoorW.PrintWords.blk_put (cs := #[.int .i64 0, .slice none 0 0]) (newblk hb9) 0 _ rfl) 1 _ rfl) 0).trans rfl
              have d1 : ((w9.setCell ⟨wr.heap.size, 0, none⟩ (.int .i64 m9)).setCell ⟨wr.heap.size, 1, none⟩ (.slice A9 l9 c9)).cell? ⟨wr.heap.size, 1, none⟩ = some (.slice A9 l9 c9) := (cell_blk (Go.Proofs.YtbnipgajhpbolaaGreatDoorW.PrintWords.blk_put (cs := #[.int .i64 m9, .slice none 0 0]) (Go.Proofs.YtbnipgajhpbolaaGreatDoorW.PrintWords.blk_put (cs := #[.int .i64 0, .slice none 0 0]) (newblk hb9) 0 _ rfl) 1 _ rfl) 1).trans rfl
              obtain ⟨g80, g81⟩ := SG.cells sg8
              obtain ⟨f80, f81⟩ := SG.froz sg8
              have SG8 := Lib.hid sg8
              by_cases he : er = 0
              · obtain ⟨e1, e2, e3⟩ := hok.out he
                subst he
                subst e1
                have SGN := Lib.hid (SG.store (m' := m9) sg8 own8)
                clear sg8 own8 rw8
                go_wp2_with fail
                go_roundw
                case rel => exact ⟨k + 2, _, es9, by have := Q4.out; omega, by first | rfl | rw [hk2] | (simp; done), SGN, e2, by have := Q2.out; unfold Hid; omega⟩
                case measure => have := Q4.out; (try rw [hk2]); simp only [intOf]; omega
              · have he' : (er == 0) = false := by simpa using he
                clear sg8 own8 rw8 he
                go_wp2_with fail
                go_roundw
                case rel => exact ⟨k + 2, _, es, by have := Q4.out; omega, by first | rfl | rw [hk2] | (simp; done), SG8, hre, hle⟩
                case measure => have := Q4.out; (try rw [hk2]); simp only [intOf]; omega
          · have q4' : decide ((k : Int) < 400) = false := by rw [decide_eq_false_iff_not]; omega
            clear q4 hk
            have HST : Hid (SG w m (.slice A1 es.length c1) es wr) := hsg.out
            have HEND : Hid (((wr.setCell ⟨w.heap.size, 0, none⟩ (.int .i64 m)).setCell ⟨w.heap.size, 1, none⟩ (.slice A1 es.length c1)).heap[w.heap.size]? = some (.cells #[.int .i64 m, .slice A1 es.length c1] 25 (0, 0))) :=
              Go.Proofs.YtbnipgajhpbolaaGreatDoorW.PrintWords.blk_put (cs := #[.int .i64 m, .slice none 0 0]) (Go.Proofs.YtbnipgajhpbolaaGreatDoorW.PrintWords.blk_put (cs := #[.int .i64 0, .slice none 0 0]) HST.out.2.2.1 0 _ rfl) 1 _ rfl
            have HBEL : Hid (Below w.heap.size w ((wr.setCell ⟨w.heap.size, 0, none⟩ (.int .i64 m)).setCell ⟨w.heap.size, 1, none⟩ (.slice A1 es.length c1))) := Below.setCell (Below.setCell HST.out.1 (Nat.le_refl _) _) (Nat.le_refl _) _
            have HOWN : Hid (OwnE ((wr.setCell ⟨w.heap.size, 0, none⟩ (.int .i64 m)).setCell ⟨w.heap.size, 1, none⟩ (.slice A1 es.length c1)) (w.heap.size + 2) (.slice A1 es.length c1) es) := own_set2 HST.out.2.2.2.2 (by omega)
            clear hR hsg HST
            go_wp2_with fail
            (try simp only [Exit.inBlock, Exit.then])
            refine bodyPost_ret (results_cell_row rfl _ _ w.heap.size 25 #[.int .i64 m, .slice A1 es.length c1] (0, 0) _ rfl HEND.out Tryz.underlying25 rfl (by kernel_rfl)) rfl ?_
            exact ⟨_, m, es, rfl, HM.out.1, HM.out.2, by have := hle.out; omega, hre.out, _, rfl, HOWN.out, HBEL.out⟩
        · have q3' : decide (0 < m) = false := by rw [decide_eq_false_iff_not]; omega
          clear q3 hk
          have HST : Hid (SG w m (.slice A1 es.length c1) es wr) := hsg.out
          have HEND : Hid (((wr.setCell ⟨w.heap.size, 0, none⟩ (.int .i64 m)).setCell ⟨w.heap.size, 1, none⟩ (.slice A1 es.length c1)).heap[w.heap.size]? = some (.cells #[.int .i64 m, .slice A1 es.length c1] 25 (0, 0))) :=
            Go.Proofs.YtbnipgajhpbolaaGreatDoorW.PrintWords.blk_put (cs := #[.int .i64 m, .slice none 0 0]) (Go.Proofs.YtbnipgajhpbolaaGreatDoorW.PrintWords.blk_put (cs := #[.int .i64 0, .slice none 0 0]) HST.out.2.2.1 0 _ rfl) 1 _ rfl
          have HBEL : Hid (Below w.heap.size w ((wr.setCell ⟨w.heap.size, 0, none⟩ (.int .i64 m)).setCell ⟨w.heap.size, 1, none⟩ (.slice A1 es.length c1))) := Below.setCell (Below.setCell HST.out.1 (Nat.le_refl _) _) (Nat.le_refl _) _
          have HOWN : Hid (OwnE ((wr.setCell ⟨w.heap.size, 0, none⟩ (.int .i64 m)).setCell ⟨w.heap.size, 1, none⟩ (.slice A1 es.length c1)) (w.heap.size + 2) (.slice A1 es.length c1) es) := own_set2 HST.out.2.2.2.2 (by omega)
          clear hR hsg HST
          go_wp2_with fail
          (try simp only [Exit.inBlock, Exit.then])
          refine bodyPost_ret (results_cell_row rfl _ _ w.heap.size 25 #[.int .i64 m, .slice A1 es.length c1] (0, 0) _ rfl HEND.out Tryz.underlying25 rfl (by kernel_rfl)) rfl ?_
          exact ⟨_, m, es, rfl, HM.out.1, HM.out.2, by have := hle.out; omega, hre.out, _, rfl, HOWN.out, HBEL.out⟩
      · have q2' : decide ((es.length : Int) < E) = false := by rw [decide_eq_false_iff_not]; omega
        clear q2 hk
        have HST : Hid (SG w m (.slice A1 es.length c1) es wr) := hsg.out
        have HEND : Hid (((wr.setCell ⟨w.heap.size, 0, none⟩ (.int .i64 m)).setCell ⟨w.heap.size, 1, none⟩ (.slice A1 es.length c1)).heap[w.heap.size]? = some (.cells #[.int .i64 m, .slice A1 es.length c1] 25 (0, 0))) :=
          Go.Proofs.YtbnipgajhpbolaaGreatDoorW.PrintWords.blk_put (cs := #[.int .i64 m, .slice none 0 0]) (Go.Proofs.YtbnipgajhpbolaaGreatDoorW.PrintWords.blk_put (cs := #[.int .i64 0, .slice none 0 0]) HST.out.2.2.1 0 _ rfl) 1 _ rfl
        have HBEL : Hid (Below w.heap.size w ((wr.setCell ⟨w.heap.size, 0, none⟩ (.int .i64 m)).setCell ⟨w.heap.size, 1, none⟩ (.slice A1 es.length c1))) := Below.setCell (Below.setCell HST.out.1 (Nat.le_refl _) _) (Nat.le_refl _) _
        have HOWN : Hid (OwnE ((wr.setCell ⟨w.heap.size, 0, none⟩ (.int .i64 m)).setCell ⟨w.heap.size, 1, none⟩ (.slice A1 es.length c1)) (w.heap.size + 2) (.slice A1 es.length c1) es) := own_set2 HST.out.2.2.2.2 (by omega)
        clear hR hsg HST
        go_wp2_with fail
        (try simp only [Exit.inBlock, Exit.then])
        refine bodyPost_ret (results_cell_row rfl _ _ w.heap.size 25 #[.int .i64 m, .slice A1 es.length c1] (0, 0) _ rfl HEND.out Tryz.underlying25 rfl (by kernel_rfl)) rfl ?_
        exact ⟨_, m, es, rfl, HM.out.1, HM.out.2, by have := hle.out; omega, hre.out, _, rfl, HOWN.out, HBEL.out⟩
    · have q1' : decide ((k : Int) + 1 < n) = false := by rw [decide_eq_false_iff_not]; omega
      clear q1 hk
      have HST : Hid (SG w m (.slice A1 es.length c1) es wr) := hsg.out
      have HEND : Hid (((wr.setCell ⟨w.heap.size, 0, none⟩ (.int .i64 m)).setCell ⟨w.heap.size, 1, none⟩ (.slice A1 es.length c1)).heap[w.heap.size]? = some (.cells #[.int .i64 m, .slice A1 es.length c1] 25 (0, 0))) :=
        Go.Proofs.YtbnipgajhpbolaaGreatDoorW.PrintWords.blk_put (cs := #[.int .i64 m, .slice none 0 0]) (Go.Proofs.YtbnipgajhpbolaaGreatDoorW.PrintWords.blk_put (cs := #[.int .i64 0, .slice none 0 0]) HST.out.2.2.1 0 _ rfl) 1 _ rfl
      have HBEL : Hid (Below w.heap.size w ((wr.setCell ⟨w.heap.size, 0, none⟩ (.int .i64 m)).setCell ⟨w.heap.size, 1, none⟩ (.slice A1 es.length c1))) := Below.setCell (Below.setCell HST.out.1 (Nat.le_refl _) _) (Nat.le_refl _) _
      have HOWN : Hid (OwnE ((wr.setCell ⟨w.heap.size, 0, none⟩ (.int .i64 m)).setCell ⟨w.heap.size, 1, none⟩ (.slice A1 es.length c1)) (w.heap.size + 2) (.slice A1 es.length c1) es) := own_set2 HST.out.2.2.2.2 (by omega)
      clear hR hsg HST
      go_wp2_with fail
      (try simp only [Exit.inBlock, Exit.then])
      refine bodyPost_ret (results_cell_row rfl _ _ w.heap.size 25 #[.int .i64 m, .slice A1 es.length c1] (0, 0) _ rfl HEND.out Tryz.underlying25 rfl (by kernel_rfl)) rfl ?_
      exact ⟨_, m, es, rfl, HM.out.1, HM.out.2, by have := hle.out; omega, hre.out, _, rfl, HOWN.out, HBEL.out⟩
end

section
open Go.RowKit
def cmpI (a b : Int) : Int := if a < b then -1 else if b < a then 1 else 0
def cmpE (a b : Ed) : Int := if cmpI a.1 b.1 ≠ 0 then cmpI a.1 b.1 else cmpI a.2 b.2
theorem cmpE_lt {a b : Ed} : cmpE a b < 0 ↔ ahead a b = true := by
  rw [ahead_iff]
  unfold cmpE cmpI
  repeat' split
  all_goals omega
theorem cmpE_eq {a b : Ed} : cmpE a b = 0 ↔ a = b := by
  rw [Prod.ext_iff]
  unfold cmpE cmpI
  repeat' split
  all_goals omega

theorem nan_any (x : Int) (w : World) : Calls Tryz.prog 77 #[.int .i64 x] w fun e w' => e = .returned (.bool false) ∧ w = w' := by
  go_enter Tryz.func77, Tryz.ntmps77
  go_wp2_with fail
  go_ret
  exact ⟨by simp, rfl⟩

theorem cmp_any (x y : Int) (w : World) : Calls Tryz.prog 58 #[.int .i64 x, .int .i64 y] w fun e w' => e = .returned (.int .i64 (cmpI x y)) ∧ w = w' := by
  unfold cmpI
  by_cases h1 : x < y
  · have h1' : decide (x < y) = true := by simpa using h1
    rw [if_pos h1]
    go_enter Tryz.func58, Tryz.ntmps58
    go_wp2_with fail
    refine (nan_any x _).mono ?_
    rintro e w1 ⟨rfl, rfl⟩
    go_wp2_with fail
    refine (nan_any y _).mono ?_
    rintro e w1 ⟨rfl, rfl⟩
    go_wp2_with fail
    go_ret
    exact ⟨rfl, rfl⟩
  · have h1' : decide (x < y) = false := by simpa using h1
    rw [if_neg h1]
    by_cases h2 : y < x
    · have h2' : decide (y < x) = true := by simpa using h2
      rw [if_pos h2]
      go_enter Tryz.func58, Tryz.ntmps58
      go_wp2_with fail
      refine (nan_any x _).mono ?_
      rintro e w1 ⟨rfl, rfl⟩
      go_wp2_with fail
      refine (nan_any y _).mono ?_
      rintro e w1 ⟨rfl, rfl⟩
      go_wp2_with fail
      go_ret
      exact ⟨rfl, rfl⟩
    · have h2' : decide (y < x) = false := by simpa using h2
      rw [if_neg h2]
      go_enter Tryz.func58, Tryz.ntmps58
      go_wp2_with fail
      refine (nan_any x _).mono ?_
      rintro e w1 ⟨rfl, rfl⟩
      go_wp2_with fail
      refine (nan_any y _).mono ?_
      rintro e w1 ⟨rfl, rfl⟩
      go_wp2_with fail
      go_ret
      exact ⟨rfl, rfl⟩

theorem or_any {b : Nat} (x y : Int) (w : World) (h0 : w.cell? ⟨b, 0, none⟩ = some (.int .i64 x)) (h1 : w.cell? ⟨b, 1, none⟩ = some (.int .i64 y)) :
    Calls Tryz.prog 57 #[.slice (some ⟨b, 0, none⟩) 2 2] w fun e w' => e = .returned (.int .i64 (if x ≠ 0 then x else y)) ∧ w = w' := by
  by_cases hx : x = 0
  · subst hx
    rw [if_neg (by simp)]
    by_cases hy : y = 0
    · subst hy
      go_enter Tryz.func57, Tryz.ntmps57
      go_wp2_with fail
      go_loopw [8] (fun i wr => ∃ k : Nat, k ≤ 2 ∧ i = .int .i64 k ∧ w = wr) (fun i _ => 2 - (intOf i).toNat)
      case atStart => exact ⟨0, by omega, rfl, rfl⟩
      case round =>
        obtain ⟨k, hk, rfl, rfl⟩ := hrel
        obtain rfl | rfl | rfl : k = 0 ∨ k = 1 ∨ k = 2 := by omega
        · go_wp2_with fail
          go_roundw
          case rel => exact ⟨1, by omega, rfl, by trivial⟩
          case measure => simp [intOf]
        · go_wp2_with fail
          go_roundw
          case rel => exact ⟨2, by omega, rfl, by trivial⟩
          case measure => simp [intOf]
        · go_wp2_with fail
          go_ret
          exact ⟨rfl, rfl⟩
    · have hy' : (y == 0) = false := by simpa using hy
      go_enter Tryz.func57, Tryz.ntmps57
      go_wp2_with fail
      go_loopw [8] (fun i wr => ∃ k : Nat, k ≤ 1 ∧ i = .int .i64 k ∧ w = wr) (fun i _ => 2 - (intOf i).toNat)
      case atStart => exact ⟨0, by omega, rfl, rfl⟩
      case round =>
        obtain ⟨k, hk, rfl, rfl⟩ := hrel
        obtain rfl | rfl : k = 0 ∨ k = 1 := by omega
        · go_wp2_with fail
          go_roundw
          case rel => exact ⟨1, by omega, rfl, by trivial⟩
          case measure => simp [intOf]
        · go_wp2_with fail
          go_ret
          exact ⟨rfl, rfl⟩
  · have hx' : (x == 0) = false := by simpa using hx
    rw [if_pos hx]
    go_enter Tryz.func57, Tryz.ntmps57
    go_wp2_with fail
    go_loopw [8] (fun i wr => i = .int .i64 0 ∧ w = wr) (fun i _ => 2 - (intOf i).toNat)
    case atStart => exact ⟨rfl, rfl⟩
    case round =>
      obtain ⟨rfl, rfl⟩ := hrel
      go_wp2_with fail
      go_ret
      exact ⟨rfl, rfl⟩

theorem newi (W : World) (x y : Value) (t : TypeId) : (W.alloc (.cells #[x, y] t)).drew.cell? ⟨W.heap.size, 0, none⟩ = some x ∧ (W.alloc (.cells #[x, y] t)).drew.cell? ⟨W.heap.size, 1, none⟩ = some y := by
  have h : (W.alloc (.cells #[x, y] t)).drew.heap[W.heap.size]? = some (.cells #[x, y] t (0, 0)) := heap_alloc_new W _
  exact ⟨(cell_blk h 0).trans rfl, (cell_blk h 1).trans rfl⟩

def CS (w : World) (a1 a2 b1 b2 : Int) (W : World) : Prop := W.cell? ⟨w.heap.size + 1, 0, none⟩ = some (.int .i64 a1) ∧ W.cell? ⟨w.heap.size + 1, 1, none⟩ = some (.int .i64 a2) ∧ W.cell? ⟨w.heap.size + 1 + 1, 0, none⟩ = some (.int .i64 b1) ∧ W.cell? ⟨w.heap.size + 1 + 1, 1, none⟩ = some (.int .i64 b2)
theorem CS.start (w : World) (a1 a2 b1 b2 : Int) : CS w a1 a2 b1 b2 (((w.alloc (.cells #[] 90)).alloc (.cells #[.int .i64 a1, .int .i64 a2] 57)).alloc (.cells #[.int .i64 b1, .int .i64 b2] 57)) := by
  have h1 := heap_alloc_new (w.alloc (.cells #[] 90)) (.cells #[.int .i64 a1, .int .i64 a2] 57)
  have h2 := heap_alloc_new ((w.alloc (.cells #[] 90)).alloc (.cells #[.int .i64 a1, .int .i64 a2] 57)) (.cells #[.int .i64 b1, .int .i64 b2] 57)
  have e1 : (w.alloc (.cells #[] 90)).heap.size = w.heap.size + 1 := by simp
  have e2 : ((w.alloc (.cells #[] 90)).alloc (.cells #[.int .i64 a1, .int .i64 a2] 57)).heap.size = w.heap.size + 1 + 1 := by simp
  rw [e1] at h1
  rw [e2] at h2
  have h3 := heap_alloc_old ((w.alloc (.cells #[] 90)).alloc (.cells #[.int .i64 a1, .int .i64 a2] 57)) (.cells #[.int .i64 b1, .int .i64 b2] 57) (show w.heap.size + 1 < _ by rw [e2]; omega)
  have h1' := h3.trans h1
  exact ⟨(cell_blk h1' 0).trans rfl, (cell_blk h1' 1).trans rfl, (cell_blk h2 0).trans rfl, (cell_blk h2 1).trans rfl⟩

set_option maxHeartbeats 4000000 in
set_option maxRecDepth 100000 in
theorem compare_any (a b : Ed) (w : World) : Calls Tryz.prog 46 #[.agg #[], .agg #[.int .i64 a.1, .int .i64 a.2], .agg #[.int .i64 b.1, .int .i64 b.2]] w fun e w' => e = .returned (.int .i64 (cmpE a b)) ∧ Below w.heap.size w w' := by
  obtain ⟨a1, a2⟩ := a
  obtain ⟨b1, b2⟩ := b
  have HE : Hid (cmpE (a1, a2) (b1, b2) = if cmpI a1 b1 ≠ 0 then cmpI a1 b1 else cmpI a2 b2) := rfl
  have hbel : Below w.heap.size w (((w.alloc (.cells #[] 90)).alloc (.cells #[.int .i64 a1, .int .i64 a2] 57)).alloc (.cells #[.int .i64 b1, .int .i64 b2] 57)) := Below.alloc (Below.alloc (Below.alloc (Below.refl _ _) (Nat.le_refl _) _) (by simp) _) (by simp; omega) _
  have HBEL := Lib.hid hbel
  clear hbel
  have hcs : Hid (CS w a1 a2 b1 b2 (((w.alloc (.cells #[] 90)).alloc (.cells #[.int .i64 a1, .int .i64 a2] 57)).alloc (.cells #[.int .i64 b1, .int .i64 b2] 57))) := CS.start w a1 a2 b1 b2
  have hc1 := fun W => cmp_any a1 b1 W
  have hc2 := fun W => cmp_any a2 b2 W
  generalize cmpI a1 b1 = c1 at *
  generalize cmpI a2 b2 = c2 at *
  have hor := fun (b : Nat) W h0 h1 => or_any (b := b) c1 c2 W h0 h1
  generalize (if c1 ≠ 0 then c1 else c2) = r at *
  go_enter Tryz.func46, Tryz.ntmps46
  go_wp2_with fail
  generalize hW3 : ((w.alloc (.cells #[] 90)).alloc (.cells #[.int .i64 a1, .int .i64 a2] 57)).alloc (.cells #[.int .i64 b1, .int .i64 b2] 57) = w3 at *
  go_region_held3 (fun w' => w'.cell? ⟨w.heap.size + 1, 0, none⟩ = some (.int .i64 a1) ∧ w'.cell? ⟨w.heap.size + 1, 1, none⟩ = some (.int .i64 a2) ∧ w'.cell? ⟨w.heap.size + 1 + 1, 0, none⟩ = some (.int .i64 b1) ∧ w'.cell? ⟨w.heap.size + 1 + 1, 1, none⟩ = some (.int .i64 b2) ∧ RW w3 w')
    (first | assumption | exact RW.all hcs.out (RW.refl w3).drew | exact RW.all hcs.out (RW.alloc (And.right (And.right (And.right (And.right (by assumption))))) _) | fail)
    (first
      | (go_at_call_of 58 a1; refine (hc1 _).mono ?_; rintro e w9 ⟨rfl, rfl⟩)
      | (go_at_call_of 58 a2; refine (hc2 _).mono ?_; rintro e w9 ⟨rfl, rfl⟩)
      | (go_at_call 57; refine (hor _ _ (newi _ _ _ _).1 (newi _ _ _ _).2).mono ?_; rintro e w9 ⟨rfl, rfl⟩)
      | fail)
  all_goals
    have hfin : RW w3 _ := And.right (And.right (And.right (And.right (by assumption))))
    go_wp2_with fail
    go_ret
    exact ⟨by rw [HE.out]; rfl, Below.trans HBEL.out (Below.mono hfin (Below.size HBEL.out))⟩
end

end Go.Proofs.YtbnipgajhpbolaaGreatDoor
