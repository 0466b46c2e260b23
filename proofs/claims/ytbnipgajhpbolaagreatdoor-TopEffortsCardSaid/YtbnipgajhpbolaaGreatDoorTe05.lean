/- The walk of the reference's Add; Graphs, plainly: what a right one is, and what put keeps -/
import Derived.Test.YtbnipgajhpbolaaGreatDoorTe03
import Derived.Test.YtbnipgajhpbolaaGreatDoorWWords
set_option linter.unusedVariables false
set_option linter.unusedSimpArgs false
namespace Go.Proofs.YtbnipgajhpbolaaGreatDoor

section
open Go.RowKit
def addP (N : Int) (es : List Ed) (a b : Int) : Int × List Ed × Int :=
  if rightB N es = false then (0, [], 3)
  else if (isB N a && isB N b) = false then (0, [], 4)
  else if a = b then (0, [], 5)
  else if hasB N es a b = true then (0, [], 6)
  else if 65536 ≤ es.length then (0, [], 8)
  else (N, putE es (turnE a b), 0)

/-- A graph that a call hands back. -/
def RetG (w w' : World) (base : Nat) (g : Value) (N : Int) (es : List Ed) : Prop := ∃ v, g = .agg #[.int .i64 N, v] ∧ OwnE w' base v es ∧ Below w.heap.size w w'

/-- The variable of the argument, and that of the result, and what came later. -/
def GZ (w : World) (N : Int) (A : Option Addr) (n c : Nat) (W : World) : Prop := Below (w.heap.size + 2) ((w.alloc (gcells N A n c)).alloc (gcells 0 none 0 0)) W
theorem GZ.size {w W : World} {N : Int} {A : Option Addr} {n c : Nat} (h : GZ w N A n c W) : w.heap.size + 2 ≤ W.heap.size := by have := Below.size h; simp at this; exact this
theorem GZ.gb {w W : World} {N : Int} {A : Option Addr} {n c : Nat} (h : GZ w N A n c W) : Below (w.heap.size + 1) (w.alloc (gcells N A n c)) W :=
  (Below.alloc (Below.refl _ _) (by simp) _).trans (h.mono (by omega))
theorem GZ.later {w W W' : World} {N : Int} {A : Option Addr} {n c : Nat} (h : GZ w N A n c W) (g : Below W.heap.size W W') : GZ w N A n c W' := below_after h h.size g
theorem GZ.blk {w W : World} {N : Int} {A : Option Addr} {n c : Nat} (h : GZ w N A n c W) : W.heap[w.heap.size + 1]? = some (gcells 0 none 0 0) := by
  rw [Below.block h (w.heap.size + 1) (by omega)]
  have := heap_alloc_new (w.alloc (gcells N A n c)) (gcells 0 none 0 0)
  simpa using this

theorem GZ.res {w W : World} {N : Int} {A : Option Addr} {n c : Nat} (h : GZ w N A n c W) :
    W.cell? ⟨w.heap.size + 1, 0, none⟩ = some (.int .i64 0) ∧ W.cell? ⟨w.heap.size + 1, 1, none⟩ = some (.slice none 0 0) ∧ W.frozen? ⟨w.heap.size + 1, 0, none⟩ = false ∧ W.frozen? ⟨w.heap.size + 1, 1, none⟩ = false :=
  ⟨(cell_blk h.blk 0).trans rfl, (cell_blk h.blk 1).trans rfl, frozen_blk h.blk 0, frozen_blk h.blk 1⟩

/-- The same, whatever lies in the result. -/
def GY (w : World) (N : Int) (A : Option Addr) (n c : Nat) (W : World) : Prop := Below (w.heap.size + 1) (w.alloc (gcells N A n c)) W ∧ w.heap.size + 2 ≤ W.heap.size ∧ ∃ x y, W.heap[w.heap.size + 1]? = some (.cells #[x, y] 25 (0, 0))
section
variable {w W : World} {N : Int} {A : Option Addr} {n c : Nat}
theorem GY.bel (h : GY w N A n c W) : Below w.heap.size w W := below_box h.1
theorem GY.size (h : GY w N A n c W) : w.heap.size + 2 ≤ W.heap.size := h.2.1
theorem GY.es (h : GY w N A n c W) : W.cell? ⟨w.heap.size, 0, none⟩ = some (.int .i64 N) ∧ W.cell? ⟨w.heap.size, 1, none⟩ = some (.slice A n c) ∧ GY w N A n c W := ⟨(gbox h.1).1, (gbox h.1).2, h⟩
theorem GY.later {W' : World} (h : GY w N A n c W) (g : Below W.heap.size W W') : GY w N A n c W' := by
  obtain ⟨h1, h2, x, y, h3⟩ := h
  exact ⟨below_after h1 (by omega) g, by have := g.size; omega, x, y, (g.block _ (by omega)).trans h3⟩
theorem GY.res (h : GY w N A n c W) : ∃ x y, W.cell? ⟨w.heap.size + 1, 0, none⟩ = some x ∧ W.cell? ⟨w.heap.size + 1, 1, none⟩ = some y ∧ W.frozen? ⟨w.heap.size + 1, 0, none⟩ = false ∧ W.frozen? ⟨w.heap.size + 1, 1, none⟩ = false := by
  obtain ⟨h1, h2, x, y, h3⟩ := h
  exact ⟨x, y, (cell_blk h3 0).trans rfl, (cell_blk h3 1).trans rfl, frozen_blk h3 0, frozen_blk h3 1⟩
theorem GY.end (h : GY w N A n c W) (u v : Value) : ((W.setCell ⟨w.heap.size + 1, 0, none⟩ u).setCell ⟨w.heap.size + 1, 1, none⟩ v).heap[w.heap.size + 1]? = some (.cells #[u, v] 25 (0, 0)) := by
  obtain ⟨h1, h2, x, y, h3⟩ := h
  exact Go.Proofs.YtbnipgajhpbolaaGreatDoorW.PrintWords.blk_put (cs := #[u, y]) (Go.Proofs.YtbnipgajhpbolaaGreatDoorW.PrintWords.blk_put (cs := #[x, y]) h3 0 _ rfl) 1 _ rfl
theorem GY.store (h : GY w N A n c W) (u v : Value) : GY w N A n c ((W.setCell ⟨w.heap.size + 1, 0, none⟩ u).setCell ⟨w.heap.size + 1, 1, none⟩ v) :=
  ⟨Below.setCell (Below.setCell h.1 (Nat.le_refl _) _) (Nat.le_refl _) _, by simpa [World.setCell] using h.2.1, u, v, h.end u v⟩
theorem own_set2 {base e size m g : Nat} {u v x : Value} {xs : List Value} (h : W.ownsRow base e size x m xs) (hg : g < base) : ((W.setCell ⟨g, 0, none⟩ u).setCell ⟨g, 1, none⟩ v).ownsRow base e size x m xs := by
  refine h.kept (row := some g) ⟨rfl, rfl, rfl, by simp [World.setCell], fun k hk hne => ?_⟩ ?_
  · have hk2 : k ≠ g := fun e => hne (by rw [e])
    rw [Below.heap_setCell _ _ _ _ hk2, Below.heap_setCell _ _ _ _ hk2]
  · right
    intro e
    have := row_base h g e
    omega
end

set_option maxHeartbeats 4000000 in
set_option maxRecDepth 100000 in
theorem add_any {A : Option Addr} {n c : Nat} {es : List Ed} (N a b : Int) (w : World) (h : ReadE w A n es) (hc : n ≤ c) :
    Calls Tryz.prog 20 #[.agg #[.int .i64 N, .slice A n c], .int .i64 a, .int .i64 b] w fun e w' => ∃ g, e = .returned (.tuple #[g, .int .i64 (addP N es a b).2.2]) ∧ RetG w w' (w.heap.size + 2) g (addP N es a b).1 (addP N es a b).2.1 := by
  have hn := h.2.1
  have H1 := Lib.hid h.1
  have hz0 : GZ w N A n c ((w.alloc (gcells N A n c)).alloc (gcells 0 none 0 0)) := Below.refl _ _
  have HZ0 := Lib.hid hz0
  have HR0 := h.below (below_box hz0.gb)
  clear hz0
  obtain ⟨g00, g01⟩ := gbox (GZ.gb HZ0)
  by_cases hr : rightB N es = false
  · have hP : Hid (addP N es a b = (0, [], 3)) := by unfold Hid addP; rw [if_pos hr]
    have HRR := Lib.hid hr
    clear hr
    go_enter Tryz.func20, Tryz.ntmps20
    go_wp2_with fail
    refine (right_any N _ HR0).mono ?_
    rintro e w1 ⟨rfl, hb⟩
    have z1 : GZ w N A n c w1 := (GZ.later HZ0 (Below.refl _ _)).later hb
    have Hz1 := gbox z1.gb
    obtain ⟨gz10, gz11⟩ := Hz1
    obtain ⟨rz10, rz11, rz12, rz13⟩ := GZ.res z1
    have Sz1 := z1.size
    have Rz1 := h.below (below_box z1.gb)
    clear hb
    rw [HRR.out]
    have HEND : Hid (((w1.setCell ⟨w.heap.size + 1, 0, none⟩ (.int .i64 0)).setCell ⟨w.heap.size + 1, 1, none⟩ (.slice none 0 0)).heap[w.heap.size + 1]? = some (gcells 0 none 0 0)) := Go.Proofs.YtbnipgajhpbolaaGreatDoorW.PrintWords.blk_put (Go.Proofs.YtbnipgajhpbolaaGreatDoorW.PrintWords.blk_put (GZ.blk z1) 0 _ rfl) 1 _ rfl
    have HBEL : Hid (Below w.heap.size w ((w1.setCell ⟨w.heap.size + 1, 0, none⟩ (.int .i64 0)).setCell ⟨w.heap.size + 1, 1, none⟩ (.slice none 0 0))) := Below.setCell (Below.setCell (below_box z1.gb) (by simp) _) (by simp) _
    go_wp2_with fail
    (try simp only [Exit.inBlock, Exit.then])
    refine bodyPost_ret (Go.Proofs.YtbnipgajhpbolaaGreatDoorW.PrintWords.results_ct rfl _ _ (w.heap.size + 1) 25 #[.int .i64 0, .slice none 0 0] (0, 0) _ rfl HEND.out Tryz.underlying25 rfl (by kernel_rfl)) rfl ?_
    rw [hP.out]
    exact ⟨_, rfl, _, rfl, OwnE.nil _ _, HBEL.out⟩
  have HRR : Hid (rightB N es = true) := by simpa [Hid] using hr
  have HP1 : Hid (addP N es a b = if (isB N a && isB N b) = false then (0, [], 4) else if a = b then (0, [], 5) else if hasB N es a b = true then (0, [], 6) else if 65536 ≤ es.length then (0, [], 8) else (N, putE es (turnE a b), 0)) := by unfold Hid; rw [addP, if_neg hr]
  clear hr
  by_cases ha : isB N a = false
  · have hP : Hid (addP N es a b = (0, [], 4)) := by unfold Hid; rw [HP1.out, ha]; rfl
    have HA := Lib.hid ha
    clear ha
    go_enter Tryz.func20, Tryz.ntmps20
    go_wp2_with fail
    refine (right_any N _ HR0).mono ?_
    rintro e w1 ⟨rfl, hb⟩
    have z1 : GZ w N A n c w1 := (GZ.later HZ0 (Below.refl _ _)).later hb
    have Hz1 := gbox z1.gb
    obtain ⟨gz10, gz11⟩ := Hz1
    obtain ⟨rz10, rz11, rz12, rz13⟩ := GZ.res z1
    have Sz1 := z1.size
    have Rz1 := h.below (below_box z1.gb)
    clear hb
    rw [HRR.out]
    go_wp2_with fail
    refine (is_any a _).mono ?_
    rintro e w2 ⟨rfl, hb⟩
    have z2 : GZ w N A n c w2 := z1.later hb
    have Hz2 := gbox z2.gb
    obtain ⟨gz20, gz21⟩ := Hz2
    obtain ⟨rz20, rz21, rz22, rz23⟩ := GZ.res z2
    have Sz2 := z2.size
    have Rz2 := h.below (below_box z2.gb)
    clear hb
    rw [HA.out]
    have HEND : Hid (((w2.setCell ⟨w.heap.size + 1, 0, none⟩ (.int .i64 0)).setCell ⟨w.heap.size + 1, 1, none⟩ (.slice none 0 0)).heap[w.heap.size + 1]? = some (gcells 0 none 0 0)) := Go.Proofs.YtbnipgajhpbolaaGreatDoorW.PrintWords.blk_put (Go.Proofs.YtbnipgajhpbolaaGreatDoorW.PrintWords.blk_put (GZ.blk z2) 0 _ rfl) 1 _ rfl
    have HBEL : Hid (Below w.heap.size w ((w2.setCell ⟨w.heap.size + 1, 0, none⟩ (.int .i64 0)).setCell ⟨w.heap.size + 1, 1, none⟩ (.slice none 0 0))) := Below.setCell (Below.setCell (below_box z2.gb) (by simp) _) (by simp) _
    go_wp2_with fail
    (try simp only [Exit.inBlock, Exit.then])
    refine bodyPost_ret (Go.Proofs.YtbnipgajhpbolaaGreatDoorW.PrintWords.results_ct rfl _ _ (w.heap.size + 1) 25 #[.int .i64 0, .slice none 0 0] (0, 0) _ rfl HEND.out Tryz.underlying25 rfl (by kernel_rfl)) rfl ?_
    rw [hP.out]
    exact ⟨_, rfl, _, rfl, OwnE.nil _ _, HBEL.out⟩
  have HA : Hid (isB N a = true) := by simpa [Hid] using ha
  clear ha
  by_cases hb : isB N b = false
  · have hP : Hid (addP N es a b = (0, [], 4)) := by unfold Hid; rw [HP1.out, HA.out, hb]; rfl
    have HB := Lib.hid hb
    clear hb
    go_enter Tryz.func20, Tryz.ntmps20
    go_wp2_with fail
    refine (right_any N _ HR0).mono ?_
    rintro e w1 ⟨rfl, hb⟩
    have z1 : GZ w N A n c w1 := (GZ.later HZ0 (Below.refl _ _)).later hb
    have Hz1 := gbox z1.gb
    obtain ⟨gz10, gz11⟩ := Hz1
    obtain ⟨rz10, rz11, rz12, rz13⟩ := GZ.res z1
    have Sz1 := z1.size
    have Rz1 := h.below (below_box z1.gb)
    clear hb
    rw [HRR.out]
    go_wp2_with fail
    refine (is_any a _).mono ?_
    rintro e w2 ⟨rfl, hb⟩
    have z2 : GZ w N A n c w2 := z1.later hb
    have Hz2 := gbox z2.gb
    obtain ⟨gz20, gz21⟩ := Hz2
    obtain ⟨rz20, rz21, rz22, rz23⟩ := GZ.res z2
    have Sz2 := z2.size
    have Rz2 := h.below (below_box z2.gb)
    clear hb
    rw [HA.out]
    go_wp2_with fail
    refine (is_any b _).mono ?_
    rintro e w3 ⟨rfl, hb⟩
    have z3 : GZ w N A n c w3 := z2.later hb
    have Hz3 := gbox z3.gb
    obtain ⟨gz30, gz31⟩ := Hz3
    obtain ⟨rz30, rz31, rz32, rz33⟩ := GZ.res z3
    have Sz3 := z3.size
    have Rz3 := h.below (below_box z3.gb)
    clear hb
    rw [HB.out]
    have HEND : Hid (((w3.setCell ⟨w.heap.size + 1, 0, none⟩ (.int .i64 0)).setCell ⟨w.heap.size + 1, 1, none⟩ (.slice none 0 0)).heap[w.heap.size + 1]? = some (gcells 0 none 0 0)) := Go.Proofs.YtbnipgajhpbolaaGreatDoorW.PrintWords.blk_put (Go.Proofs.YtbnipgajhpbolaaGreatDoorW.PrintWords.blk_put (GZ.blk z3) 0 _ rfl) 1 _ rfl
    have HBEL : Hid (Below w.heap.size w ((w3.setCell ⟨w.heap.size + 1, 0, none⟩ (.int .i64 0)).setCell ⟨w.heap.size + 1, 1, none⟩ (.slice none 0 0))) := Below.setCell (Below.setCell (below_box z3.gb) (by simp) _) (by simp) _
    go_wp2_with fail
    (try simp only [Exit.inBlock, Exit.then])
    refine bodyPost_ret (Go.Proofs.YtbnipgajhpbolaaGreatDoorW.PrintWords.results_ct rfl _ _ (w.heap.size + 1) 25 #[.int .i64 0, .slice none 0 0] (0, 0) _ rfl HEND.out Tryz.underlying25 rfl (by kernel_rfl)) rfl ?_
    rw [hP.out]
    exact ⟨_, rfl, _, rfl, OwnE.nil _ _, HBEL.out⟩
  have HB : Hid (isB N b = true) := by simpa [Hid] using hb
  clear hb
  have HP2 : Hid (addP N es a b = if a = b then (0, [], 5) else if hasB N es a b = true then (0, [], 6) else if 65536 ≤ es.length then (0, [], 8) else (N, putE es (turnE a b), 0)) := by unfold Hid; rw [HP1.out, HA.out, HB.out]; rfl
  clear HP1
  by_cases hab : a = b
  · have hP : Hid (addP N es a b = (0, [], 5)) := by unfold Hid; rw [HP2.out, if_pos hab]
    subst hab
    go_enter Tryz.func20, Tryz.ntmps20
    go_wp2_with fail
    refine (right_any N _ HR0).mono ?_
    rintro e w1 ⟨rfl, hb⟩
    have z1 : GZ w N A n c w1 := (GZ.later HZ0 (Below.refl _ _)).later hb
    have Hz1 := gbox z1.gb
    obtain ⟨gz10, gz11⟩ := Hz1
    obtain ⟨rz10, rz11, rz12, rz13⟩ := GZ.res z1
    have Sz1 := z1.size
    have Rz1 := h.below (below_box z1.gb)
    clear hb
    rw [HRR.out]
    go_wp2_with fail
    refine (is_any a _).mono ?_
    rintro e w2 ⟨rfl, hb⟩
    have z2 : GZ w N A n c w2 := z1.later hb
    have Hz2 := gbox z2.gb
    obtain ⟨gz20, gz21⟩ := Hz2
    obtain ⟨rz20, rz21, rz22, rz23⟩ := GZ.res z2
    have Sz2 := z2.size
    have Rz2 := h.below (below_box z2.gb)
    clear hb
    rw [HA.out]
    go_wp2_with fail
    refine (is_any a _).mono ?_
    rintro e w3 ⟨rfl, hb⟩
    have z3 : GZ w N A n c w3 := z2.later hb
    have Hz3 := gbox z3.gb
    obtain ⟨gz30, gz31⟩ := Hz3
    obtain ⟨rz30, rz31, rz32, rz33⟩ := GZ.res z3
    have Sz3 := z3.size
    have Rz3 := h.below (below_box z3.gb)
    clear hb
    rw [HA.out]
    have HEND : Hid (((w3.setCell ⟨w.heap.size + 1, 0, none⟩ (.int .i64 0)).setCell ⟨w.heap.size + 1, 1, none⟩ (.slice none 0 0)).heap[w.heap.size + 1]? = some (gcells 0 none 0 0)) := Go.Proofs.YtbnipgajhpbolaaGreatDoorW.PrintWords.blk_put (Go.Proofs.YtbnipgajhpbolaaGreatDoorW.PrintWords.blk_put (GZ.blk z3) 0 _ rfl) 1 _ rfl
    have HBEL : Hid (Below w.heap.size w ((w3.setCell ⟨w.heap.size + 1, 0, none⟩ (.int .i64 0)).setCell ⟨w.heap.size + 1, 1, none⟩ (.slice none 0 0))) := Below.setCell (Below.setCell (below_box z3.gb) (by simp) _) (by simp) _
    go_wp2_with fail
    (try simp only [Exit.inBlock, Exit.then])
    refine bodyPost_ret (Go.Proofs.YtbnipgajhpbolaaGreatDoorW.PrintWords.results_ct rfl _ _ (w.heap.size + 1) 25 #[.int .i64 0, .slice none 0 0] (0, 0) _ rfl HEND.out Tryz.underlying25 rfl (by kernel_rfl)) rfl ?_
    rw [hP.out]
    exact ⟨_, rfl, _, rfl, OwnE.nil _ _, HBEL.out⟩
  have hab2 : (a == b) = false := by simpa using hab
  have HP3 : Hid (addP N es a b = if hasB N es a b = true then (0, [], 6) else if 65536 ≤ es.length then (0, [], 8) else (N, putE es (turnE a b), 0)) := by unfold Hid; rw [HP2.out, if_neg hab]
  clear HP2 hab
  by_cases hh : hasB N es a b = true
  · have hP : Hid (addP N es a b = (0, [], 6)) := by unfold Hid; rw [HP3.out, if_pos hh]
    have HH := Lib.hid hh
    clear hh
    go_enter Tryz.func20, Tryz.ntmps20
    go_wp2_with fail
    refine (right_any N _ HR0).mono ?_
    rintro e w1 ⟨rfl, hb⟩
    have z1 : GZ w N A n c w1 := (GZ.later HZ0 (Below.refl _ _)).later hb
    have Hz1 := gbox z1.gb
    obtain ⟨gz10, gz11⟩ := Hz1
    obtain ⟨rz10, rz11, rz12, rz13⟩ := GZ.res z1
    have Sz1 := z1.size
    have Rz1 := h.below (below_box z1.gb)
    clear hb
    rw [HRR.out]
    go_wp2_with fail
    refine (is_any a _).mono ?_
    rintro e w2 ⟨rfl, hb⟩
    have z2 : GZ w N A n c w2 := z1.later hb
    have Hz2 := gbox z2.gb
    obtain ⟨gz20, gz21⟩ := Hz2
    obtain ⟨rz20, rz21, rz22, rz23⟩ := GZ.res z2
    have Sz2 := z2.size
    have Rz2 := h.below (below_box z2.gb)
    clear hb
    rw [HA.out]
    go_wp2_with fail
    refine (is_any b _).mono ?_
    rintro e w3 ⟨rfl, hb⟩
    have z3 : GZ w N A n c w3 := z2.later hb
    have Hz3 := gbox z3.gb
    obtain ⟨gz30, gz31⟩ := Hz3
    obtain ⟨rz30, rz31, rz32, rz33⟩ := GZ.res z3
    have Sz3 := z3.size
    have Rz3 := h.below (below_box z3.gb)
    clear hb
    rw [HB.out]
    go_wp2_with fail
    refine (has2_any a b _ Rz3).mono ?_
    rintro e w4 ⟨rfl, hb⟩
    have z4 : GZ w N A n c w4 := z3.later hb
    have Hz4 := gbox z4.gb
    obtain ⟨gz40, gz41⟩ := Hz4
    obtain ⟨rz40, rz41, rz42, rz43⟩ := GZ.res z4
    have Sz4 := z4.size
    have Rz4 := h.below (below_box z4.gb)
    clear hb
    rw [HH.out]
    have HEND : Hid (((w4.setCell ⟨w.heap.size + 1, 0, none⟩ (.int .i64 0)).setCell ⟨w.heap.size + 1, 1, none⟩ (.slice none 0 0)).heap[w.heap.size + 1]? = some (gcells 0 none 0 0)) := Go.Proofs.YtbnipgajhpbolaaGreatDoorW.PrintWords.blk_put (Go.Proofs.YtbnipgajhpbolaaGreatDoorW.PrintWords.blk_put (GZ.blk z4) 0 _ rfl) 1 _ rfl
    have HBEL : Hid (Below w.heap.size w ((w4.setCell ⟨w.heap.size + 1, 0, none⟩ (.int .i64 0)).setCell ⟨w.heap.size + 1, 1, none⟩ (.slice none 0 0))) := Below.setCell (Below.setCell (below_box z4.gb) (by simp) _) (by simp) _
    go_wp2_with fail
    (try simp only [Exit.inBlock, Exit.then])
    refine bodyPost_ret (Go.Proofs.YtbnipgajhpbolaaGreatDoorW.PrintWords.results_ct rfl _ _ (w.heap.size + 1) 25 #[.int .i64 0, .slice none 0 0] (0, 0) _ rfl HEND.out Tryz.underlying25 rfl (by kernel_rfl)) rfl ?_
    rw [hP.out]
    exact ⟨_, rfl, _, rfl, OwnE.nil _ _, HBEL.out⟩
  have HH : Hid (hasB N es a b = false) := by simpa [Hid] using hh
  clear hh
  by_cases hl : 65536 ≤ n
  · have hP : Hid (addP N es a b = (0, [], 8)) := by unfold Hid; rw [HP3.out, HH.out, H1.out]; simp [hl]
    have hl2 : (65536 : Int) ≤ (n : Int) := by omega
    go_enter Tryz.func20, Tryz.ntmps20
    go_wp2_with fail
    refine (right_any N _ HR0).mono ?_
    rintro e w1 ⟨rfl, hb⟩
    have z1 : GZ w N A n c w1 := (GZ.later HZ0 (Below.refl _ _)).later hb
    have Hz1 := gbox z1.gb
    obtain ⟨gz10, gz11⟩ := Hz1
    obtain ⟨rz10, rz11, rz12, rz13⟩ := GZ.res z1
    have Sz1 := z1.size
    have Rz1 := h.below (below_box z1.gb)
    clear hb
    rw [HRR.out]
    go_wp2_with fail
    refine (is_any a _).mono ?_
    rintro e w2 ⟨rfl, hb⟩
    have z2 : GZ w N A n c w2 := z1.later hb
    have Hz2 := gbox z2.gb
    obtain ⟨gz20, gz21⟩ := Hz2
    obtain ⟨rz20, rz21, rz22, rz23⟩ := GZ.res z2
    have Sz2 := z2.size
    have Rz2 := h.below (below_box z2.gb)
    clear hb
    rw [HA.out]
    go_wp2_with fail
    refine (is_any b _).mono ?_
    rintro e w3 ⟨rfl, hb⟩
    have z3 : GZ w N A n c w3 := z2.later hb
    have Hz3 := gbox z3.gb
    obtain ⟨gz30, gz31⟩ := Hz3
    obtain ⟨rz30, rz31, rz32, rz33⟩ := GZ.res z3
    have Sz3 := z3.size
    have Rz3 := h.below (below_box z3.gb)
    clear hb
    rw [HB.out]
    go_wp2_with fail
    refine (has2_any a b _ Rz3).mono ?_
    rintro e w4 ⟨rfl, hb⟩
    have z4 : GZ w N A n c w4 := z3.later hb
    have Hz4 := gbox z4.gb
    obtain ⟨gz40, gz41⟩ := Hz4
    obtain ⟨rz40, rz41, rz42, rz43⟩ := GZ.res z4
    have Sz4 := z4.size
    have Rz4 := h.below (below_box z4.gb)
    clear hb
    rw [HH.out]
    have HEND : Hid (((w4.setCell ⟨w.heap.size + 1, 0, none⟩ (.int .i64 0)).setCell ⟨w.heap.size + 1, 1, none⟩ (.slice none 0 0)).heap[w.heap.size + 1]? = some (gcells 0 none 0 0)) := Go.Proofs.YtbnipgajhpbolaaGreatDoorW.PrintWords.blk_put (Go.Proofs.YtbnipgajhpbolaaGreatDoorW.PrintWords.blk_put (GZ.blk z4) 0 _ rfl) 1 _ rfl
    have HBEL : Hid (Below w.heap.size w ((w4.setCell ⟨w.heap.size + 1, 0, none⟩ (.int .i64 0)).setCell ⟨w.heap.size + 1, 1, none⟩ (.slice none 0 0))) := Below.setCell (Below.setCell (below_box z4.gb) (by simp) _) (by simp) _
    go_wp2_with fail
    (try simp only [Exit.inBlock, Exit.then])
    refine bodyPost_ret (Go.Proofs.YtbnipgajhpbolaaGreatDoorW.PrintWords.results_ct rfl _ _ (w.heap.size + 1) 25 #[.int .i64 0, .slice none 0 0] (0, 0) _ rfl HEND.out Tryz.underlying25 rfl (by kernel_rfl)) rfl ?_
    rw [hP.out]
    exact ⟨_, rfl, _, rfl, OwnE.nil _ _, HBEL.out⟩
  have hP : Hid (addP N es a b = (N, putE es (turnE a b), 0)) := by unfold Hid; rw [HP3.out, HH.out, H1.out]; simp [hl]
  have hl3 : decide ((65536 : Int) ≤ (n : Int)) = false := by rw [decide_eq_false_iff_not]; omega
  have HL : Hid (n < 65536) := by unfold Hid; omega
  clear hl
  go_enter Tryz.func20, Tryz.ntmps20
  go_wp2_with fail
  refine (right_any N _ HR0).mono ?_
  rintro e w1 ⟨rfl, hb⟩
  have z1 : GZ w N A n c w1 := (GZ.later HZ0 (Below.refl _ _)).later hb
  have Hz1 := gbox z1.gb
  obtain ⟨gz10, gz11⟩ := Hz1
  obtain ⟨rz10, rz11, rz12, rz13⟩ := GZ.res z1
  have Sz1 := z1.size
  have Rz1 := h.below (below_box z1.gb)
  clear hb
  rw [HRR.out]
  go_wp2_with fail
  refine (is_any a _).mono ?_
  rintro e w2 ⟨rfl, hb⟩
  have z2 : GZ w N A n c w2 := z1.later hb
  have Hz2 := gbox z2.gb
  obtain ⟨gz20, gz21⟩ := Hz2
  obtain ⟨rz20, rz21, rz22, rz23⟩ := GZ.res z2
  have Sz2 := z2.size
  have Rz2 := h.below (below_box z2.gb)
  clear hb
  rw [HA.out]
  go_wp2_with fail
  refine (is_any b _).mono ?_
  rintro e w3 ⟨rfl, hb⟩
  have z3 : GZ w N A n c w3 := z2.later hb
  have Hz3 := gbox z3.gb
  obtain ⟨gz30, gz31⟩ := Hz3
  obtain ⟨rz30, rz31, rz32, rz33⟩ := GZ.res z3
  have Sz3 := z3.size
  have Rz3 := h.below (below_box z3.gb)
  clear hb
  rw [HB.out]
  go_wp2_with fail
  refine (has2_any a b _ Rz3).mono ?_
  rintro e w4 ⟨rfl, hb⟩
  have z4 : GZ w N A n c w4 := z3.later hb
  have Hz4 := gbox z4.gb
  obtain ⟨gz40, gz41⟩ := Hz4
  obtain ⟨rz40, rz41, rz42, rz43⟩ := GZ.res z4
  have Sz4 := z4.size
  have Rz4 := h.below (below_box z4.gb)
  clear hb
  rw [HH.out]
  go_wp2_with fail
  have hgy : GY w N A n c w4.drew := ⟨z4.gb.trans ((Drawn.refl _).drew.below _), Sz4, _, _, z4.blk⟩
  have HGY := Lib.hid hgy
  have hput := fun W (hW : ReadE W A n es) => put_any (turnE a b).1 (turnE a b).2 W hW hc (by have := HL.out; omega)
  have htu := fun W => turned_any a b W
  have HPT : Hid (putE es (turnE a b) = putE es ((turnE a b).1, (turnE a b).2)) := rfl
  clear z1 z2 z3 z4 hgy rz10 rz11 rz12 rz13 rz20 rz21 rz22 rz23 rz30 rz31 rz32 rz33 rz40 rz41 rz42 rz43 gz10 gz11 gz20 gz21 gz30 gz31 Rz1 Rz2 Rz3 Rz4
  generalize turnE a b = te at *
  obtain ⟨t1, t2⟩ := te
  go_region_held3 (fun w' => w'.cell? ⟨w.heap.size, 0, none⟩ = some (.int .i64 N) ∧ w'.cell? ⟨w.heap.size, 1, none⟩ = some (.slice A n c) ∧ GY w N A n c w')
    (first | exact (GY.es HGY.out) | exact (GY.later (And.right (And.right (by assumption))) hb10).es | exact (GY.later (And.right (And.right (by assumption))) hb9).es | exact (GY.store (And.right (And.right (by assumption))) _ _).es | fail)
    (first
      | (go_at_call 40; refine (htu _).mono ?_; rintro e w9 ⟨rfl, hb9⟩)
      | (go_at_call 39; refine (hput _ (h.below (GY.bel (And.right (And.right (by assumption)))))).mono ?_; rintro e w10 ⟨v, rfl, own10, hb10⟩; have hY10 := GY.later (And.right (And.right (by assumption))) hb10; have own11 := row_weaken own10 (Nat.le_trans (GY.size (And.right (And.right (by assumption)))) (Nat.le_succ _)); obtain ⟨x0, y0, r0, r1, r2, r3⟩ := GY.res hY10; obtain ⟨A10, c10, rfl, -, -, -⟩ := OwnE.read own10)
      | fail)
  all_goals
    have HEND := hY10.end (.int .i64 N) (.slice A10 (putE es (t1, t2)).length c10)
    have HBEL := (hY10.store (.int .i64 N) (.slice A10 (putE es (t1, t2)).length c10)).bel
    have HOWN := own_set2 (u := .int .i64 N) (v := .slice A10 (putE es (t1, t2)).length c10) own11 (Nat.lt_succ_self (w.heap.size + 1))
    have HEND := Lib.hid HEND
    have HBEL := Lib.hid HBEL
    have HOWN := Lib.hid HOWN
    go_wp2_with fail
    (try simp only [Exit.inBlock, Exit.then])
    refine bodyPost_ret (Go.Proofs.YtbnipgajhpbolaaGreatDoorW.PrintWords.results_ct rfl _ _ (w.heap.size + 1) 25 #[.int .i64 N, .slice A10 (putE es (t1, t2)).length c10] (0, 0) _ rfl HEND.out Tryz.underlying25 rfl (by kernel_rfl)) rfl ?_
    rw [hP.out]
    exact ⟨_, rfl, _, rfl, HOWN.out, HBEL.out⟩
end

section
open Go.RowKit
theorem ahead_iff {a b : Ed} : ahead a b = true ↔ a.1 < b.1 ∨ (a.1 = b.1 ∧ a.2 < b.2) := by
  unfold ahead
  simp
theorem ahead_trans {a b c : Ed} (h : ahead a b = true) (k : ahead b c = true) : ahead a c = true := by
  rw [ahead_iff] at *
  omega
theorem ahead_total {a b : Ed} (h : ahead a b = false) (hne : a ≠ b) : ahead b a = true := by
  rw [ahead_iff]
  have h2 : ¬ (a.1 < b.1 ∨ (a.1 = b.1 ∧ a.2 < b.2)) := by
    rw [← ahead_iff, h]
    simp
  have h3 : a.1 ≠ b.1 ∨ a.2 ≠ b.2 := by
    by_cases e : a.1 = b.1
    · right
      intro e2
      exact hne (Prod.ext e e2)
    · exact .inl e
  omega
theorem ahead_irrefl (a : Ed) : ahead a a = false := by
  cases h : ahead a a
  · rfl
  · rw [ahead_iff] at h
    omega

/-- A graph's edges rise, and join vertices. -/
def Rise (N : Int) (es : List Ed) : Prop := (∀ e ∈ es, edgeOk N e = true) ∧ es.Pairwise fun a b => ahead a b = true

theorem allTo_iff {N : Int} {es : List Ed} : ∀ k, allTo N es k = true ↔ ∀ i, i < k → okAt N es i = true
  | 0 => by simp [allTo]
  | k + 1 => by
    rw [allTo, Bool.and_eq_true, allTo_iff k]
    constructor
    · rintro ⟨h1, h2⟩ i hi
      by_cases e : i = k
      · exact e ▸ h2
      · exact h1 i (by omega)
    · intro h
      exact ⟨fun i hi => h i (by omega), h k (by omega)⟩

theorem ge_get {es : List Ed} {i : Nat} (h : i < es.length) : ge es i = es[i] := by simp [ge, h]

theorem rise_of {N : Int} {es : List Ed} (h : ∀ i, i < es.length → okAt N es i = true) : Rise N es := by
  have step : ∀ i, i + 1 < es.length → ahead (ge es i) (ge es (i + 1)) = true := fun i hi => by
    have := h (i + 1) hi
    unfold okAt at this
    simp at this
    exact this.2
  refine ⟨fun e he => ?_, List.pairwise_iff_getElem.2 fun i j hi hj hij => ?_⟩
  · obtain ⟨i, hi, rfl⟩ := List.getElem_of_mem he
    have := h i hi
    unfold okAt at this
    simp only [Bool.and_eq_true] at this
    rw [← ge_get hi]
    exact this.1
  · obtain ⟨d, rfl⟩ : ∃ d, j = i + 1 + d := ⟨j - (i + 1), by omega⟩
    rw [← ge_get hi, ← ge_get hj]
    clear hij
    induction d with
    | zero => exact step i hj
    | succ d ih => exact ahead_trans (ih (by omega)) (step (i + 1 + d) hj)

theorem of_rise {N : Int} {es : List Ed} (h : Rise N es) : ∀ i, i < es.length → okAt N es i = true := fun i hi => by
  unfold okAt
  rw [Bool.and_eq_true, ge_get hi]
  refine ⟨h.1 _ (List.getElem_mem hi), ?_⟩
  rcases Nat.eq_zero_or_pos i with rfl | hp
  · rfl
  · rw [ge_get (show i - 1 < es.length by omega)]
    simp [List.pairwise_iff_getElem.1 h.2 (i - 1) i (by omega) hi (by omega)]

/-- What it is to be a graph. -/
theorem rightB_iff {N : Int} {es : List Ed} : rightB N es = true ↔ 0 ≤ N ∧ N ≤ 4096 ∧ es.length ≤ 65536 ∧ Rise N es := by
  unfold rightB
  simp only [Bool.and_eq_true, decide_eq_true_eq, allTo_iff]
  exact ⟨fun ⟨a, b, c, d⟩ => ⟨a, b, c, rise_of d⟩, fun ⟨a, b, c, d⟩ => ⟨a, b, c, of_rise d⟩⟩

theorem putK_spec {es : List Ed} {e : Ed} : ∀ k, k ≤ es.length → (∀ i, putK es e k ≤ i → i < k → ahead e (ge es i) = true) ∧ (0 < putK es e k → ahead e (ge es (putK es e k - 1)) = false)
  | 0, _ => ⟨fun i _ h => absurd h (by omega), fun h => absurd h (by simp [putK])⟩
  | k + 1, hk => by
    obtain ⟨h1, h2⟩ := putK_spec (es := es) (e := e) k (by omega)
    rw [putK]
    cases ha : ahead e (ge es k)
    · simp only [Bool.false_eq_true, if_false]
      exact ⟨fun i a b => absurd a (by omega), fun _ => ha⟩
    · simp only [if_true]
      refine ⟨fun i a b => ?_, h2⟩
      by_cases e' : i = k
      · exact e' ▸ ha
      · exact h1 i a (by omega)

theorem rise_put {N : Int} {es : List Ed} {e : Ed} (h : Rise N es) (he : edgeOk N e = true) (hn : e ∉ es) : Rise N (putE es e) := by
  obtain ⟨h1, h2⟩ := h
  obtain ⟨p1, p2⟩ := putK_spec (es := es) (e := e) es.length (Nat.le_refl _)
  have pl := putK_le es e es.length
  unfold putE
  generalize putK es e es.length = p at *
  have hsplit := List.take_append_drop p es
  have hpw : (es.take p ++ es.drop p).Pairwise fun a b => ahead a b = true := by rw [hsplit]; exact h2
  rw [List.pairwise_append] at hpw
  obtain ⟨q1, q2, q3⟩ := hpw
  have before : ∀ x ∈ es.take p, ahead x e = true := fun x hx => by
    obtain ⟨i, hi, rfl⟩ := List.getElem_of_mem hx
    have hi' : i < p := by simp at hi; omega
    have hlen : i < es.length := by simp at hi; omega
    rw [List.getElem_take]
    have hl1 : p - 1 < es.length := by omega
    have ha := p2 (by omega)
    rw [ge_get hl1] at ha
    have hne : e ≠ es[p - 1] := fun eq => hn (eq ▸ List.getElem_mem hl1)
    have hb := ahead_total ha hne
    by_cases e2 : i = p - 1
    · subst e2
      exact hb
    · exact ahead_trans (List.pairwise_iff_getElem.1 h2 i (p - 1) hlen hl1 (by omega)) hb
  have after : ∀ x ∈ es.drop p, ahead e x = true := fun x hx => by
    obtain ⟨i, hi, rfl⟩ := List.getElem_of_mem hx
    have hi' : p + i < es.length := by simp at hi; omega
    have := p1 (p + i) (by omega) hi'
    rw [ge_get hi'] at this
    simpa using this
  refine ⟨fun x hx => ?_, ?_⟩
  · simp only [List.mem_append, List.mem_singleton] at hx
    rcases hx with (hx | rfl) | hx
    · exact h1 x (List.mem_of_mem_take hx)
    · exact he
    · exact h1 x (List.mem_of_mem_drop hx)
  · rw [List.append_assoc, List.pairwise_append]
    refine ⟨q1, ?_, fun a ha b hb => ?_⟩
    · rw [List.singleton_append, List.pairwise_cons]
      exact ⟨after, q2⟩
    · rw [List.singleton_append, List.mem_cons] at hb
      rcases hb with rfl | hb
      · exact before a ha
      · exact q3 a ha b hb

theorem putE_length (es : List Ed) (e : Ed) : (putE es e).length = es.length + 1 := by
  have := putK_le es e es.length
  unfold putE
  simp
  omega

theorem turnE_ok {N a b : Int} (ha : isB N a = true) (hb : isB N b = true) (hne : a ≠ b) : edgeOk N (turnE a b) = true := by
  unfold isB at ha hb
  simp at ha hb
  unfold turnE edgeOk
  split
  · simp
    omega
  · simp
    omega

theorem atE_mem {es : List Ed} {e : Ed} : 0 ≤ atE es e ↔ e ∈ es := by
  unfold atE
  by_cases h : es.contains e = true
  · rw [if_pos h]
    exact ⟨fun _ => by simpa using h, fun _ => Int.natCast_nonneg _⟩
  · rw [if_neg h]
    exact ⟨fun k => absurd k (by omega), fun k => absurd (by simpa using k) h⟩

theorem hasB_iff {N a b : Int} {es : List Ed} (hr : rightB N es = true) : hasB N es a b = true ↔ turnE a b ∈ es := by
  unfold hasB indexB
  rw [hr, if_pos rfl, decide_eq_true_eq]
  exact atE_mem

theorem add_ok {m a b : Int} {es : List Ed} (hr : rightB m es = true) (h : (addP m es a b).2.2 = 0) : (addP m es a b).1 = m ∧ rightB m (addP m es a b).2.1 = true ∧ (addP m es a b).2.1.length = es.length + 1 := by
  unfold addP at *
  rw [if_neg (by rw [hr]; simp)] at *
  by_cases h1 : (isB m a && isB m b) = false
  · rw [if_pos h1] at h
    simp at h
  rw [if_neg h1] at *
  by_cases h2 : a = b
  · rw [if_pos h2] at h
    simp at h
  rw [if_neg h2] at *
  by_cases h3 : hasB m es a b = true
  · rw [if_pos h3] at h
    simp at h
  rw [if_neg h3] at *
  by_cases h4 : 65536 ≤ es.length
  · rw [if_pos h4] at h
    simp at h
  rw [if_neg h4] at *
  have hm : turnE a b ∉ es := fun k => h3 ((hasB_iff hr).2 k)
  obtain ⟨r1, r2, r3, r4⟩ := rightB_iff.1 hr
  simp only [Bool.not_eq_false, Bool.and_eq_true] at h1
  exact ⟨rfl, rightB_iff.2 ⟨r1, r2, by simp only [putE_length]; omega, rise_put r4 (turnE_ok h1.1 h1.2 h2) hm⟩, putE_length _ _⟩
end

end Go.Proofs.YtbnipgajhpbolaaGreatDoor
