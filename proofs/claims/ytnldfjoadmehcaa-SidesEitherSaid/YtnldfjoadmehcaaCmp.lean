/- cmp.Compare, cmp.Or, and the order of edges; the walk of graph.Right. -/
import Derived.Test.YtnldfjoadmehcaaSmall
import Derived.Deep.RegionWith
set_option linter.unusedVariables false
set_option linter.unusedSimpArgs false
namespace Go.Proofs.Ytnldfjoadmehcaa
open Go.RowKit

def cmpI (a b : Int) : Int := if a < b then -1 else if b < a then 1 else 0
def cmpE (a b : Ed) : Int := if cmpI a.1 b.1 ≠ 0 then cmpI a.1 b.1 else cmpI a.2 b.2
theorem cmpE_lt {a b : Ed} : cmpE a b < 0 ↔ ahead a b = true := by
  rw [ahead_iff]
  unfold cmpE cmpI
  repeat' split
  all_goals omega
theorem cmpE_eq {a b : Ed} : cmpE a b = 0 ↔ a = b := by
  rw [Prod.ext_iff]
  unfold cmpE cmpI
  repeat' split
  all_goals omega

theorem nan_any (x : Int) (w : World) : Calls Try.prog 107 #[.int .i64 x] w fun e w' => e = .returned (.bool false) ∧ w = w' := by
  go_enter Try.func107, Try.ntmps107
  go_wp2_with fail
  go_ret
  exact ⟨by simp, rfl⟩

theorem cmp_any (x y : Int) (w : World) : Calls Try.prog 102 #[.int .i64 x, .int .i64 y] w fun e w' => e = .returned (.int .i64 (cmpI x y)) ∧ w = w' := by
  unfold cmpI
  by_cases h1 : x < y
  · have h1' : decide (x < y) = true := by simpa using h1
    rw [if_pos h1]
    go_enter Try.func102, Try.ntmps102
    go_wp2_with fail
    refine (nan_any x _).mono ?_
    rintro e w1 ⟨rfl, rfl⟩
    go_wp2_with fail
    refine (nan_any y _).mono ?_
    rintro e w1 ⟨rfl, rfl⟩
    go_wp2_with fail
    go_ret
    exact ⟨rfl, rfl⟩
  · have h1' : decide (x < y) = false := by simpa using h1
    rw [if_neg h1]
    by_cases h2 : y < x
    · have h2' : decide (y < x) = true := by simpa using h2
      rw [if_pos h2]
      go_enter Try.func102, Try.ntmps102
      go_wp2_with fail
      refine (nan_any x _).mono ?_
      rintro e w1 ⟨rfl, rfl⟩
      go_wp2_with fail
      refine (nan_any y _).mono ?_
      rintro e w1 ⟨rfl, rfl⟩
      go_wp2_with fail
      go_ret
      exact ⟨rfl, rfl⟩
    · have h2' : decide (y < x) = false := by simpa using h2
      rw [if_neg h2]
      go_enter Try.func102, Try.ntmps102
      go_wp2_with fail
      refine (nan_any x _).mono ?_
      rintro e w1 ⟨rfl, rfl⟩
      go_wp2_with fail
      refine (nan_any y _).mono ?_
      rintro e w1 ⟨rfl, rfl⟩
      go_wp2_with fail
      go_ret
      exact ⟨rfl, rfl⟩

theorem or_any {b : Nat} (x y : Int) (w : World) (h0 : w.cell? ⟨b, 0, none⟩ = some (.int .i64 x)) (h1 : w.cell? ⟨b, 1, none⟩ = some (.int .i64 y)) :
    Calls Try.prog 101 #[.slice (some ⟨b, 0, none⟩) 2 2] w fun e w' => e = .returned (.int .i64 (if x ≠ 0 then x else y)) ∧ w = w' := by
  by_cases hx : x = 0
  · subst hx
    rw [if_neg (by simp)]
    by_cases hy : y = 0
    · subst hy
      go_enter Try.func101, Try.ntmps101
      go_wp2_with fail
      go_loopw [8] (fun i wr => ∃ k : Nat, k ≤ 2 ∧ i = .int .i64 k ∧ w = wr) (fun i _ => 2 - (intOf i).toNat)
      case atStart => exact ⟨0, by omega, rfl, rfl⟩
      case round =>
        obtain ⟨k, hk, rfl, rfl⟩ := hrel
        obtain rfl | rfl | rfl : k = 0 ∨ k = 1 ∨ k = 2 := by omega
        · go_wp2_with fail
          go_roundw
          case rel => exact ⟨1, by omega, rfl, by trivial⟩
          case measure => simp [intOf]
        · go_wp2_with fail
          go_roundw
          case rel => exact ⟨2, by omega, rfl, by trivial⟩
          case measure => simp [intOf]
        · go_wp2_with fail
          go_ret
          exact ⟨rfl, rfl⟩
    · have hy' : (y == 0) = false := by simpa using hy
      go_enter Try.func101, Try.ntmps101
      go_wp2_with fail
      go_loopw [8] (fun i wr => ∃ k : Nat, k ≤ 1 ∧ i = .int .i64 k ∧ w = wr) (fun i _ => 2 - (intOf i).toNat)
      case atStart => exact ⟨0, by omega, rfl, rfl⟩
      case round =>
        obtain ⟨k, hk, rfl, rfl⟩ := hrel
        obtain rfl | rfl : k = 0 ∨ k = 1 := by omega
        · go_wp2_with fail
          go_roundw
          case rel => exact ⟨1, by omega, rfl, by trivial⟩
          case measure => simp [intOf]
        · go_wp2_with fail
          go_ret
          exact ⟨rfl, rfl⟩
  · have hx' : (x == 0) = false := by simpa using hx
    rw [if_pos hx]
    go_enter Try.func101, Try.ntmps101
    go_wp2_with fail
    go_loopw [8] (fun i wr => i = .int .i64 0 ∧ w = wr) (fun i _ => 2 - (intOf i).toNat)
    case atStart => exact ⟨rfl, rfl⟩
    case round =>
      obtain ⟨rfl, rfl⟩ := hrel
      go_wp2_with fail
      go_ret
      exact ⟨rfl, rfl⟩

theorem newi (W : World) (x y : Value) (t : TypeId) : (W.alloc (.cells #[x, y] t)).drew.cell? ⟨W.heap.size, 0, none⟩ = some x ∧ (W.alloc (.cells #[x, y] t)).drew.cell? ⟨W.heap.size, 1, none⟩ = some y := by
  have h : (W.alloc (.cells #[x, y] t)).drew.heap[W.heap.size]? = some (.cells #[x, y] t (0, 0)) := heap_alloc_new W _
  exact ⟨(cell_blk h 0).trans rfl, (cell_blk h 1).trans rfl⟩

def CS (w : World) (a1 a2 b1 b2 : Int) (W : World) : Prop := W.cell? ⟨w.heap.size + 1, 0, none⟩ = some (.int .i64 a1) ∧ W.cell? ⟨w.heap.size + 1, 1, none⟩ = some (.int .i64 a2) ∧ W.cell? ⟨w.heap.size + 1 + 1, 0, none⟩ = some (.int .i64 b1) ∧ W.cell? ⟨w.heap.size + 1 + 1, 1, none⟩ = some (.int .i64 b2)
theorem CS.start (w : World) (a1 a2 b1 b2 : Int) : CS w a1 a2 b1 b2 (((w.alloc (.cells #[] 109)).alloc (.cells #[.int .i64 a1, .int .i64 a2] 41)).alloc (.cells #[.int .i64 b1, .int .i64 b2] 41)) := by
  have h1 := heap_alloc_new (w.alloc (.cells #[] 109)) (.cells #[.int .i64 a1, .int .i64 a2] 41)
  have h2 := heap_alloc_new ((w.alloc (.cells #[] 109)).alloc (.cells #[.int .i64 a1, .int .i64 a2] 41)) (.cells #[.int .i64 b1, .int .i64 b2] 41)
  have e1 : (w.alloc (.cells #[] 109)).heap.size = w.heap.size + 1 := by simp
  have e2 : ((w.alloc (.cells #[] 109)).alloc (.cells #[.int .i64 a1, .int .i64 a2] 41)).heap.size = w.heap.size + 1 + 1 := by simp
  rw [e1] at h1
  rw [e2] at h2
  have h3 := heap_alloc_old ((w.alloc (.cells #[] 109)).alloc (.cells #[.int .i64 a1, .int .i64 a2] 41)) (.cells #[.int .i64 b1, .int .i64 b2] 41) (show w.heap.size + 1 < _ by rw [e2]; omega)
  have h1' := h3.trans h1
  exact ⟨(cell_blk h1' 0).trans rfl, (cell_blk h1' 1).trans rfl, (cell_blk h2 0).trans rfl, (cell_blk h2 1).trans rfl⟩

set_option maxHeartbeats 4000000 in
set_option maxRecDepth 100000 in
theorem compare_any (a b : Ed) (w : World) : Calls Try.prog 94 #[.agg #[], .agg #[.int .i64 a.1, .int .i64 a.2], .agg #[.int .i64 b.1, .int .i64 b.2]] w fun e w' => e = .returned (.int .i64 (cmpE a b)) ∧ Below w.heap.size w w' := by
  obtain ⟨a1, a2⟩ := a
  obtain ⟨b1, b2⟩ := b
  have HE : Hid (cmpE (a1, a2) (b1, b2) = if cmpI a1 b1 ≠ 0 then cmpI a1 b1 else cmpI a2 b2) := rfl
  have hbel : Below w.heap.size w (((w.alloc (.cells #[] 109)).alloc (.cells #[.int .i64 a1, .int .i64 a2] 41)).alloc (.cells #[.int .i64 b1, .int .i64 b2] 41)) := Below.alloc (Below.alloc (Below.alloc (Below.refl _ _) (Nat.le_refl _) _) (by simp) _) (by simp; omega) _
  have HBEL := Lib.hid hbel
  clear hbel
  have hcs : Hid (CS w a1 a2 b1 b2 (((w.alloc (.cells #[] 109)).alloc (.cells #[.int .i64 a1, .int .i64 a2] 41)).alloc (.cells #[.int .i64 b1, .int .i64 b2] 41))) := CS.start w a1 a2 b1 b2
  have hc1 := fun W => cmp_any a1 b1 W
  have hc2 := fun W => cmp_any a2 b2 W
  generalize cmpI a1 b1 = c1 at *
  generalize cmpI a2 b2 = c2 at *
  have hor := fun (b : Nat) W h0 h1 => or_any (b := b) c1 c2 W h0 h1
  generalize (if c1 ≠ 0 then c1 else c2) = r at *
  go_enter Try.func94, Try.ntmps94
  go_wp2_with fail
  generalize hW3 : ((w.alloc (.cells #[] 109)).alloc (.cells #[.int .i64 a1, .int .i64 a2] 41)).alloc (.cells #[.int .i64 b1, .int .i64 b2] 41) = w3 at *
  go_region_held3 (fun w' => w'.cell? ⟨w.heap.size + 1, 0, none⟩ = some (.int .i64 a1) ∧ w'.cell? ⟨w.heap.size + 1, 1, none⟩ = some (.int .i64 a2) ∧ w'.cell? ⟨w.heap.size + 1 + 1, 0, none⟩ = some (.int .i64 b1) ∧ w'.cell? ⟨w.heap.size + 1 + 1, 1, none⟩ = some (.int .i64 b2) ∧ RW w3 w')
    (first | assumption | exact RW.all hcs.out (RW.refl w3).drew | exact RW.all hcs.out (RW.alloc (And.right (And.right (And.right (And.right (by assumption))))) _) | fail)
    (first
      | (go_at_call_of 102 a1; refine (hc1 _).mono ?_; rintro e w9 ⟨rfl, rfl⟩)
      | (go_at_call_of 102 a2; refine (hc2 _).mono ?_; rintro e w9 ⟨rfl, rfl⟩)
      | (go_at_call 101; refine (hor _ _ (newi _ _ _ _).1 (newi _ _ _ _).2).mono ?_; rintro e w9 ⟨rfl, rfl⟩)
      | fail)
  all_goals
    have hfin : RW w3 _ := And.right (And.right (And.right (And.right (by assumption))))
    go_wp2_with fail
    go_ret
    exact ⟨by rw [HE.out]; rfl, Below.trans HBEL.out (Below.mono hfin (Below.size HBEL.out))⟩

end Go.Proofs.Ytnldfjoadmehcaa
