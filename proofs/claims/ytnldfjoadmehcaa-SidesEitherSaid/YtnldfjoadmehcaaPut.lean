/- The walks of the reference's Has, put and Add. -/
import Derived.Test.YtnldfjoadmehcaaEApp
set_option linter.unusedVariables false
set_option linter.unusedSimpArgs false
namespace Go.Proofs.Ytnldfjoadmehcaa
open Go.RowKit
attribute [local go_sem high] eqE

theorem has2_any {A : Option Addr} {n c : Nat} {es : List Ed} {N : Int} (a b : Int) (w : World) (h : ReadE w A n es) :
    Calls Try.prog 25 #[.agg #[.int .i64 N, .slice A n c], .int .i64 a, .int .i64 b] w fun e w' => e = .returned (.bool (hasB N es a b)) ∧ Below w.heap.size w w' := by
  have hb0 : Below (w.heap.size + 1) (w.alloc (gcells N A n c)) (w.alloc (gcells N A n c)) := Below.refl _ _
  have HB0 := Lib.hid hb0
  have HR0 := h.box hb0
  clear hb0
  unfold hasB
  go_enter Try.func25, Try.ntmps25
  go_wp2_with fail
  refine (index_any a b _ HR0).mono ?_
  rintro e w1 ⟨rfl, hb1⟩
  go_wp2_with fail
  go_ret
  exact ⟨rfl, below_box (Below.trans HB0 (hb1.mono (by simp)))⟩

/-- Where an edge goes in: behind the first so many. -/
def putK (es : List Ed) (e : Ed) : Nat → Nat
  | 0 => 0
  | k + 1 => if ahead e (ge es k) then putK es e k else k + 1
def putE (es : List Ed) (e : Ed) : List Ed := es.take (putK es e es.length) ++ [e] ++ es.drop (putK es e es.length)
theorem putK_le (es : List Ed) (e : Ed) : ∀ k, putK es e k ≤ k
  | 0 => Nat.le_refl _
  | k + 1 => by
    rw [putK]
    split
    · exact Nat.le_succ_of_le (putK_le es e k)
    · exact Nat.le_refl _

abbrev ecell2 (e1 e2 : Int) : Obj := .cells #[.int .i64 e1, .int .i64 e2] 41

/-- The world in which an edge's variable was made first, and what came later. -/
def EB (w : World) (e1 e2 : Int) (w' : World) : Prop := Below (w.heap.size + 1) (w.alloc (ecell2 e1 e2)) w'
theorem EB.refl (w : World) (e1 e2 : Int) : EB w e1 e2 (w.alloc (ecell2 e1 e2)) := Below.refl _ _
theorem EB.later {w W w8 : World} {e1 e2 : Int} (h : EB w e1 e2 W) (g : Below W.heap.size W w8) : EB w e1 e2 w8 := below_after h (by have := Below.size h; simp at this; exact this) g
theorem EB.draws {w W : World} {e1 e2 : Int} (h : EB w e1 e2 W) (n : Nat) : EB w e1 e2 (W.drewN n) := below_draws h n
theorem EB.size {w W : World} {e1 e2 : Int} (h : EB w e1 e2 W) : w.heap.size + 1 ≤ W.heap.size := by have := Below.size h; simp at this; exact this
theorem EB.grown {w W w8 : World} {e1 e2 : Int} {row : Option Nat} (h : EB w e1 e2 W) (g : W.grownBy w8 row) (hr : ∀ k, row = some k → w.heap.size + 1 ≤ k) : EB w e1 e2 w8 := Below.grown h g h.size hr
theorem EB.cells {w W : World} {e1 e2 : Int} (h : EB w e1 e2 W) : W.cell? ⟨w.heap.size, 0, none⟩ = some (.int .i64 e1) ∧ W.cell? ⟨w.heap.size, 1, none⟩ = some (.int .i64 e2) := by
  have k := heap_alloc_new w (ecell2 e1 e2)
  refine ⟨?_, ?_⟩
  · rw [Below.cell h (p := ⟨w.heap.size, 0, none⟩) (by simp), cell_blk k]
    rfl
  · rw [Below.cell h (p := ⟨w.heap.size, 1, none⟩) (by simp), cell_blk k]
    rfl
theorem EB.bel {w W : World} {e1 e2 : Int} (h : EB w e1 e2 W) : Below w.heap.size w W := below_box h
/-- What a region's step keeps of it. -/
def ES (w : World) (e1 e2 : Int) (W : World) : Prop := W.cell? ⟨w.heap.size, 0, none⟩ = some (.int .i64 e1) ∧ W.cell? ⟨w.heap.size, 1, none⟩ = some (.int .i64 e2) ∧ EB w e1 e2 W
theorem EB.es {w W : World} {e1 e2 : Int} (h : EB w e1 e2 W) : W.cell? ⟨w.heap.size, 0, none⟩ = some (.int .i64 e1) ∧ W.cell? ⟨w.heap.size, 1, none⟩ = some (.int .i64 e2) ∧ EB w e1 e2 W := ⟨h.cells.1, h.cells.2, h⟩
theorem ReadE.box1 (w : World) (e1 e2 : Int) (t : TypeId) : ReadE (w.alloc (.cells #[.int .i64 e1, .int .i64 e2] t)) (some ⟨w.heap.size, 0, none⟩) 1 [(e1, e2)] := by
  refine ⟨rfl, by omega, fun _ => ⟨_, _, rfl, fun j hj => ?_⟩⟩
  obtain rfl : j = 0 := by omega
  have k := heap_alloc_new w (.cells #[.int .i64 e1, .int .i64 e2] t)
  exact ⟨(cell_blk k 0).trans rfl, (cell_blk k 1).trans rfl⟩
theorem ReadE.box1d (w : World) (e1 e2 : Int) (t : TypeId) : ReadE (w.alloc (.cells #[.int .i64 e1, .int .i64 e2] t)).drew (some ⟨w.heap.size, 0, none⟩) 1 [(e1, e2)] := (ReadE.box1 w e1 e2 t).drawn (Drawn.refl _).drew
theorem own_alloc {w : World} {base e size n : Nat} {v : Value} {xs : List Value} (h : w.ownsRow base e size v n xs) (o : Obj) : (w.alloc o).ownsRow base e size v n xs := row_below h ((Below.refl _ _).alloc (Nat.le_refl _) _)
theorem keepP {w W w8 : World} {e1 e2 : Int} {a1 a2 a3 a4 : Addr} {v1 v2 v3 v4 : Value} (g : Below W.heap.size W w8) (h : W.cell? a1 = some v1 ∧ W.cell? a2 = some v2 ∧ W.cell? a3 = some v3 ∧ W.cell? a4 = some v4 ∧ EB w e1 e2 W) :
    w8.cell? a1 = some v1 ∧ w8.cell? a2 = some v2 ∧ w8.cell? a3 = some v3 ∧ w8.cell? a4 = some v4 ∧ EB w e1 e2 w8 :=
  ⟨cell_later g h.1, cell_later g h.2.1, cell_later g h.2.2.1, cell_later g h.2.2.2.1, h.2.2.2.2.later g⟩

set_option maxHeartbeats 4000000 in
set_option maxRecDepth 100000 in
theorem put_any {A : Option Addr} {n c : Nat} {es : List Ed} (e1 e2 : Int) (w : World) (h : ReadE w A n es) (hc : n ≤ c) (hn6 : n ≤ 65536) :
    Calls Try.prog 91 #[.slice A n c, .agg #[.int .i64 e1, .int .i64 e2]] w fun e w' => ∃ v, e = .returned v ∧ OwnE w' (w.heap.size + 1) v (putE es (e1, e2)) ∧ Below w.heap.size w w' := by
  have hn := h.2.1
  have H1 := Lib.hid h.1
  have HB0 : Hid (EB w e1 e2 (w.alloc (ecell2 e1 e2))) := EB.refl w e1 e2
  have HK : Hid (putE es (e1, e2) = es.take (putK es (e1, e2) n) ++ [(e1, e2)] ++ es.drop (putK es (e1, e2) n)) := by unfold Hid putE; rw [H1.out]
  go_enter Try.func91, Try.ntmps91
  go_wp2_with fail
  go_loopw [5] (fun i wr => ∃ k : Nat, k ≤ n ∧ i = .int .i64 k ∧ Hid (putK es (e1, e2) n = putK es (e1, e2) k) ∧ EB w e1 e2 wr) (fun i _ => (intOf i).toNat)
  case atStart => exact ⟨n, Nat.le_refl _, rfl, rfl, HB0⟩
  case round =>
    obtain ⟨k, hk, rfl, hks, hbr⟩ := hrel
    obtain ⟨g0, g1⟩ := hbr.cells
    have hRw := h.below hbr.bel
    rcases Nat.eq_zero_or_pos k with rfl | hk0
    · have HKS : Hid (putK es (e1, e2) n = 0) := hks.out.trans rfl
      go_wp2_with fail
      go_quiet (fail)
      go_wp2_with fail
      have hto := cutE_to A n c (0) 0 (by omega) (by omega)
      obtain ⟨A', hfr, hA'⟩ := cutE_from A n c (0) 0 (by omega) (by omega) hc
      have HA' := Lib.hid hA'
      clear hA'
      have hp : putE es (e1, e2) = es.take (0) ++ [(e1, e2)] ++ es.drop (0) := by rw [HK.out, HKS.out]
      have HP := Lib.hid hp
      clear hp
      have HS2 : Hid (ES w e1 e2 (wr.drewN nq).drew) := (EB.draws (hbr.draws nq) 1).es
      go_region_held3 (fun w' => w'.cell? ⟨w.heap.size, 0, none⟩ = some (.int .i64 e1) ∧ w'.cell? ⟨w.heap.size, 1, none⟩ = some (.int .i64 e2) ∧ EB w e1 e2 w')
        (first | exact HS2.out | exact (EB.later (And.right (And.right (by assumption))) ((Below.refl _ _).alloc (Nat.le_refl _) _)).es | exact (EB.grown (And.right (And.right (by assumption))) g13 (row_base own2)).es | exact (EB.grown (And.right (And.right (by assumption))) g12 (row_base own1)).es | exact (EB.grown (And.right (And.right (by assumption))) g11 (by intro k hk; simp [Value.ownBlock] at hk)).es | fail)
        (first
          | (refine step_appE (w.heap.size + 1) (by rfl) _ _ (by rfl) (.slice none 0 0) [] (es.take (0)) (by rfl) (OwnE.nil _ _) (EB.size (And.right (And.right (by assumption)))) A (0) c (by rfl) (ReadE.take (h.below (EB.bel (And.right (And.right (by assumption))))) (0) (by omega)) (by simp only [List.nil_append, List.length_append, List.length_take, List.length_cons, List.length_nil]; omega) ?_; intro v1 w11 own1 g11 hat1; try (first | have bx1 := ReadE.grown (ReadE.box1 _ e1 e2 _) g11 (by intro b' o' e'; simp [Value.ownBlock]) | have bx1 := ReadE.grown (ReadE.box1d _ e1 e2 _) g11 (by intro b' o' e'; simp [Value.ownBlock])))
          | (refine step_appE (w.heap.size + 1) (by rfl) _ _ (by rfl) v1 ([] ++ es.take (0)) [(e1, e2)] (by rfl) (by first | exact own1 | exact own_alloc own1 _) (EB.size (And.right (And.right (by assumption)))) _ 1 1 (by rfl) (by first | exact ReadE.box1 _ e1 e2 _ | exact bx1) (by simp only [List.nil_append, List.length_append, List.length_take, List.length_cons, List.length_nil]; omega) ?_; intro v2 w12 own2 g12 hat2)
          | (refine step_appE (w.heap.size + 1) (by rfl) _ _ (by rfl) v2 ([] ++ es.take (0) ++ [(e1, e2)]) (es.drop (0)) (by rfl) own2 (EB.size (And.right (And.right (by assumption)))) A' (n - (0)) (c - (0)) (by rfl) (ReadE.drop (h.below (EB.bel (And.right (And.right (by assumption))))) (0) (by omega) HA'.out) (by simp only [List.nil_append, List.length_append, List.length_take, List.length_cons, List.length_nil]; omega) ?_; intro v3 w13 own3 g13 hat3)
          | fail)
      all_goals
        have hfin3 : EB w e1 e2 w13 := And.right (And.right (by assumption))
        go_wp2_with fail
        go_ret
        exact ⟨_, rfl, by rw [HP.out]; simpa using own3, hfin3.bel⟩
    · obtain ⟨j, rfl⟩ : ∃ j, k = j + 1 := ⟨k - 1, by omega⟩
      obtain ⟨b, o, rfl, hcs⟩ := hRw.2.2 (by omega)
      obtain ⟨hd1, hd2⟩ := hcs j (by omega)
      have hca := fun w => ahead_any (e1, e2) (ge es j) w
      have hup : Hid (putK es (e1, e2) (j + 1) = if ahead (e1, e2) (ge es j) then putK es (e1, e2) j else j + 1) := rfl
      clear hcs
      generalize ge es j = ej at *
      obtain ⟨f1, f2⟩ := ej
      have k0 : decide ((0 : Int) < (j : Int) + 1) = true := by rw [decide_eq_true_eq]; omega
      have ew : IntKind.i64.wrap ((j : Int) + 1 - 1) = (j : Int) := by rw [IntKind.wrap_i64]; omega
      have ew2 : IntKind.i64.wrap (j : Int) = (j : Int) := by rw [IntKind.wrap_i64]; omega
      have j1 : (0 : Int) ≤ (j : Int) ∧ (j : Int) < (n : Int) := by omega
      have HS1 : Hid (wr.drew.cell? ⟨w.heap.size, 0, none⟩ = some (.int .i64 e1) ∧ wr.drew.cell? ⟨w.heap.size, 1, none⟩ = some (.int .i64 e2) ∧ wr.drew.cell? ⟨b, o + j * 2, none⟩ = some (.int .i64 f1) ∧ wr.drew.cell? ⟨b, o + j * 2 + 1, none⟩ = some (.int .i64 f2) ∧ EB w e1 e2 wr.drew) := ⟨g0, g1, hd1, hd2, hbr.draws 1⟩
      cases hah : ahead (e1, e2) (f1, f2)
      all_goals
        rw [hah] at hca
        have HAH := Lib.hid hah
        clear hah
        go_wp2_with fail
        go_region_held3 (fun w' => w'.cell? ⟨w.heap.size, 0, none⟩ = some (.int .i64 e1) ∧ w'.cell? ⟨w.heap.size, 1, none⟩ = some (.int .i64 e2) ∧ w'.cell? ⟨b, o + j * 2, none⟩ = some (.int .i64 f1) ∧ w'.cell? ⟨b, o + j * 2 + 1, none⟩ = some (.int .i64 f2) ∧ EB w e1 e2 w')
          (first | exact HS1.out | exact keepP hb9 (by assumption))
          ((go_at_call 96; refine (hca _).mono ?_; rintro e w9 ⟨rfl, hb9⟩))
        have hfin : EB w e1 e2 w9 := And.right (And.right (And.right (And.right (by assumption))))
        go_wp2_with fail
        first
          | exact ⟨⟨j, by omega, rfl, by unfold Hid; rw [hks.out, hup.out, HAH.out]; simp, hfin⟩, by simp [intOf]⟩
          | skip
      have HKS : Hid (putK es (e1, e2) n = j + 1) := by unfold Hid; rw [hks.out, hup.out, HAH.out]; simp
      have hto := cutE_to (some ⟨b, o, none⟩) n c (j + 1) ((j : Int) + 1) (by omega) (by omega)
      obtain ⟨A', hfr, hA'⟩ := cutE_from (some ⟨b, o, none⟩) n c (j + 1) ((j : Int) + 1) (by omega) (by omega) hc
      have HA' := Lib.hid hA'
      clear hA'
      have hp : putE es (e1, e2) = es.take (j + 1) ++ [(e1, e2)] ++ es.drop (j + 1) := by rw [HK.out, HKS.out]
      have HP := Lib.hid hp
      clear hp
      have HS2 : Hid (ES w e1 e2 (w9).drew) := (EB.draws hfin 1).es
      go_region_held3 (fun w' => w'.cell? ⟨w.heap.size, 0, none⟩ = some (.int .i64 e1) ∧ w'.cell? ⟨w.heap.size, 1, none⟩ = some (.int .i64 e2) ∧ EB w e1 e2 w')
        (first | exact HS2.out | exact (EB.later (And.right (And.right (by assumption))) ((Below.refl _ _).alloc (Nat.le_refl _) _)).es | exact (EB.grown (And.right (And.right (by assumption))) g13 (row_base own2)).es | exact (EB.grown (And.right (And.right (by assumption))) g12 (row_base own1)).es | exact (EB.grown (And.right (And.right (by assumption))) g11 (by intro k hk; simp [Value.ownBlock] at hk)).es | fail)
        (first
          | (refine step_appE (w.heap.size + 1) (by rfl) _ _ (by rfl) (.slice none 0 0) [] (es.take (j + 1)) (by rfl) (OwnE.nil _ _) (EB.size (And.right (And.right (by assumption)))) (some ⟨b, o, none⟩) (j + 1) c (by rfl) (ReadE.take (h.below (EB.bel (And.right (And.right (by assumption))))) (j + 1) (by omega)) (by simp only [List.nil_append, List.length_append, List.length_take, List.length_cons, List.length_nil]; omega) ?_; intro v1 w11 own1 g11 hat1; try (first | have bx1 := ReadE.grown (ReadE.box1 _ e1 e2 _) g11 (by intro b' o' e'; simp [Value.ownBlock]) | have bx1 := ReadE.grown (ReadE.box1d _ e1 e2 _) g11 (by intro b' o' e'; simp [Value.ownBlock])))
          | (refine step_appE (w.heap.size + 1) (by rfl) _ _ (by rfl) v1 ([] ++ es.take (j + 1)) [(e1, e2)] (by rfl) (by first | exact own1 | exact own_alloc own1 _) (EB.size (And.right (And.right (by assumption)))) _ 1 1 (by rfl) (by first | exact ReadE.box1 _ e1 e2 _ | exact bx1) (by simp only [List.nil_append, List.length_append, List.length_take, List.length_cons, List.length_nil]; omega) ?_; intro v2 w12 own2 g12 hat2)
          | (refine step_appE (w.heap.size + 1) (by rfl) _ _ (by rfl) v2 ([] ++ es.take (j + 1) ++ [(e1, e2)]) (es.drop (j + 1)) (by rfl) own2 (EB.size (And.right (And.right (by assumption)))) A' (n - (j + 1)) (c - (j + 1)) (by rfl) (ReadE.drop (h.below (EB.bel (And.right (And.right (by assumption))))) (j + 1) (by omega) HA'.out) (by simp only [List.nil_append, List.length_append, List.length_take, List.length_cons, List.length_nil]; omega) ?_; intro v3 w13 own3 g13 hat3)
          | fail)
      all_goals
        have hfin3 : EB w e1 e2 w13 := And.right (And.right (by assumption))
        go_wp2_with fail
        go_ret
        exact ⟨_, rfl, by rw [HP.out]; simpa using own3, hfin3.bel⟩

end Go.Proofs.Ytnldfjoadmehcaa
