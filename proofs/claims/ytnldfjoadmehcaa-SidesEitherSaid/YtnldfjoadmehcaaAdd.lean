/- The walk of the reference's Add. -/
import Derived.Test.YtnldfjoadmehcaaPut
import Derived.Test.YtnldfjoadmehcaaWWords
set_option linter.unusedVariables false
set_option linter.unusedSimpArgs false
namespace Go.Proofs.Ytnldfjoadmehcaa
open Go.RowKit

def addP (N : Int) (es : List Ed) (a b : Int) : Int × List Ed × Int :=
  if rightB N es = false then (0, [], 3)
  else if (isB N a && isB N b) = false then (0, [], 4)
  else if a = b then (0, [], 5)
  else if hasB N es a b = true then (0, [], 6)
  else if 65536 ≤ es.length then (0, [], 8)
  else (N, putE es (turnE a b), 0)

/-- A graph that a call hands back. -/
def RetG (w w' : World) (base : Nat) (g : Value) (N : Int) (es : List Ed) : Prop := ∃ v, g = .agg #[.int .i64 N, v] ∧ OwnE w' base v es ∧ Below w.heap.size w w'

/-- The variable of the argument, and that of the result, and what came later. -/
def GZ (w : World) (N : Int) (A : Option Addr) (n c : Nat) (W : World) : Prop := Below (w.heap.size + 2) ((w.alloc (gcells N A n c)).alloc (gcells 0 none 0 0)) W
theorem GZ.size {w W : World} {N : Int} {A : Option Addr} {n c : Nat} (h : GZ w N A n c W) : w.heap.size + 2 ≤ W.heap.size := by have := Below.size h; simp at this; exact this
theorem GZ.gb {w W : World} {N : Int} {A : Option Addr} {n c : Nat} (h : GZ w N A n c W) : Below (w.heap.size + 1) (w.alloc (gcells N A n c)) W :=
  (Below.alloc (Below.refl _ _) (by simp) _).trans (h.mono (by omega))
theorem GZ.later {w W W' : World} {N : Int} {A : Option Addr} {n c : Nat} (h : GZ w N A n c W) (g : Below W.heap.size W W') : GZ w N A n c W' := below_after h h.size g
theorem GZ.blk {w W : World} {N : Int} {A : Option Addr} {n c : Nat} (h : GZ w N A n c W) : W.heap[w.heap.size + 1]? = some (gcells 0 none 0 0) := by
  rw [Below.block h (w.heap.size + 1) (by omega)]
  have := heap_alloc_new (w.alloc (gcells N A n c)) (gcells 0 none 0 0)
  simpa using this

theorem GZ.res {w W : World} {N : Int} {A : Option Addr} {n c : Nat} (h : GZ w N A n c W) :
    W.cell? ⟨w.heap.size + 1, 0, none⟩ = some (.int .i64 0) ∧ W.cell? ⟨w.heap.size + 1, 1, none⟩ = some (.slice none 0 0) ∧ W.frozen? ⟨w.heap.size + 1, 0, none⟩ = false ∧ W.frozen? ⟨w.heap.size + 1, 1, none⟩ = false :=
  ⟨(cell_blk h.blk 0).trans rfl, (cell_blk h.blk 1).trans rfl, frozen_blk h.blk 0, frozen_blk h.blk 1⟩

/-- The same, whatever lies in the result. -/
def GY (w : World) (N : Int) (A : Option Addr) (n c : Nat) (W : World) : Prop := Below (w.heap.size + 1) (w.alloc (gcells N A n c)) W ∧ w.heap.size + 2 ≤ W.heap.size ∧ ∃ x y, W.heap[w.heap.size + 1]? = some (.cells #[x, y] 26 (0, 0))
section
variable {w W : World} {N : Int} {A : Option Addr} {n c : Nat}
theorem GY.bel (h : GY w N A n c W) : Below w.heap.size w W := below_box h.1
theorem GY.size (h : GY w N A n c W) : w.heap.size + 2 ≤ W.heap.size := h.2.1
theorem GY.es (h : GY w N A n c W) : W.cell? ⟨w.heap.size, 0, none⟩ = some (.int .i64 N) ∧ W.cell? ⟨w.heap.size, 1, none⟩ = some (.slice A n c) ∧ GY w N A n c W := ⟨(gbox h.1).1, (gbox h.1).2, h⟩
theorem GY.later {W' : World} (h : GY w N A n c W) (g : Below W.heap.size W W') : GY w N A n c W' := by
  obtain ⟨h1, h2, x, y, h3⟩ := h
  exact ⟨below_after h1 (by omega) g, by have := g.size; omega, x, y, (g.block _ (by omega)).trans h3⟩
theorem GY.res (h : GY w N A n c W) : ∃ x y, W.cell? ⟨w.heap.size + 1, 0, none⟩ = some x ∧ W.cell? ⟨w.heap.size + 1, 1, none⟩ = some y ∧ W.frozen? ⟨w.heap.size + 1, 0, none⟩ = false ∧ W.frozen? ⟨w.heap.size + 1, 1, none⟩ = false := by
  obtain ⟨h1, h2, x, y, h3⟩ := h
  exact ⟨x, y, (cell_blk h3 0).trans rfl, (cell_blk h3 1).trans rfl, frozen_blk h3 0, frozen_blk h3 1⟩
theorem GY.end (h : GY w N A n c W) (u v : Value) : ((W.setCell ⟨w.heap.size + 1, 0, none⟩ u).setCell ⟨w.heap.size + 1, 1, none⟩ v).heap[w.heap.size + 1]? = some (.cells #[u, v] 26 (0, 0)) := by
  obtain ⟨h1, h2, x, y, h3⟩ := h
  exact Go.Proofs.YtnldfjoadmehcaaW.PrintWords.blk_put (cs := #[u, y]) (Go.Proofs.YtnldfjoadmehcaaW.PrintWords.blk_put (cs := #[x, y]) h3 0 _ rfl) 1 _ rfl
theorem GY.store (h : GY w N A n c W) (u v : Value) : GY w N A n c ((W.setCell ⟨w.heap.size + 1, 0, none⟩ u).setCell ⟨w.heap.size + 1, 1, none⟩ v) :=
  ⟨Below.setCell (Below.setCell h.1 (Nat.le_refl _) _) (Nat.le_refl _) _, by simpa [World.setCell] using h.2.1, u, v, h.end u v⟩
theorem own_set2 {base e size m g : Nat} {u v x : Value} {xs : List Value} (h : W.ownsRow base e size x m xs) (hg : g < base) : ((W.setCell ⟨g, 0, none⟩ u).setCell ⟨g, 1, none⟩ v).ownsRow base e size x m xs := by
  refine h.kept (row := some g) ⟨rfl, rfl, rfl, by simp [World.setCell], fun k hk hne => ?_⟩ ?_
  · have hk2 : k ≠ g := fun e => hne (by rw [e])
    rw [Below.heap_setCell _ _ _ _ hk2, Below.heap_setCell _ _ _ _ hk2]
  · right
    intro e
    have := row_base h g e
    omega
end

set_option maxHeartbeats 4000000 in
set_option maxRecDepth 100000 in
theorem add_any {A : Option Addr} {n c : Nat} {es : List Ed} (N a b : Int) (w : World) (h : ReadE w A n es) (hc : n ≤ c) :
    Calls Try.prog 64 #[.agg #[.int .i64 N, .slice A n c], .int .i64 a, .int .i64 b] w fun e w' => ∃ g, e = .returned (.tuple #[g, .int .i64 (addP N es a b).2.2]) ∧ RetG w w' (w.heap.size + 2) g (addP N es a b).1 (addP N es a b).2.1 := by
  have hn := h.2.1
  have H1 := Lib.hid h.1
  have hz0 : GZ w N A n c ((w.alloc (gcells N A n c)).alloc (gcells 0 none 0 0)) := Below.refl _ _
  have HZ0 := Lib.hid hz0
  have HR0 := h.below (below_box hz0.gb)
  clear hz0
  obtain ⟨g00, g01⟩ := gbox (GZ.gb HZ0)
  by_cases hr : rightB N es = false
  · have hP : Hid (addP N es a b = (0, [], 3)) := by unfold Hid addP; rw [if_pos hr]
    have HRR := Lib.hid hr
    clear hr
    go_enter Try.func64, Try.ntmps64
    go_wp2_with fail
    refine (right_any N _ HR0).mono ?_
    rintro e w1 ⟨rfl, hb⟩
    have z1 : GZ w N A n c w1 := (GZ.later HZ0 (Below.refl _ _)).later hb
    have Hz1 := gbox z1.gb
    obtain ⟨gz10, gz11⟩ := Hz1
    obtain ⟨rz10, rz11, rz12, rz13⟩ := GZ.res z1
    have Sz1 := z1.size
    have Rz1 := h.below (below_box z1.gb)
    clear hb
    rw [HRR.out]
    have HEND : Hid (((w1.setCell ⟨w.heap.size + 1, 0, none⟩ (.int .i64 0)).setCell ⟨w.heap.size + 1, 1, none⟩ (.slice none 0 0)).heap[w.heap.size + 1]? = some (gcells 0 none 0 0)) := Go.Proofs.YtnldfjoadmehcaaW.PrintWords.blk_put (Go.Proofs.YtnldfjoadmehcaaW.PrintWords.blk_put (GZ.blk z1) 0 _ rfl) 1 _ rfl
    have HBEL : Hid (Below w.heap.size w ((w1.setCell ⟨w.heap.size + 1, 0, none⟩ (.int .i64 0)).setCell ⟨w.heap.size + 1, 1, none⟩ (.slice none 0 0))) := Below.setCell (Below.setCell (below_box z1.gb) (by simp) _) (by simp) _
    go_wp2_with fail
    (try simp only [Exit.inBlock, Exit.then])
    refine bodyPost_ret (Go.Proofs.YtnldfjoadmehcaaW.PrintWords.results_ct rfl _ _ (w.heap.size + 1) 26 #[.int .i64 0, .slice none 0 0] (0, 0) _ rfl HEND.out Try.underlying26 rfl (by kernel_rfl)) rfl ?_
    rw [hP.out]
    exact ⟨_, rfl, _, rfl, OwnE.nil _ _, HBEL.out⟩
  have HRR : Hid (rightB N es = true) := by simpa [Hid] using hr
  have HP1 : Hid (addP N es a b = if (isB N a && isB N b) = false then (0, [], 4) else if a = b then (0, [], 5) else if hasB N es a b = true then (0, [], 6) else if 65536 ≤ es.length then (0, [], 8) else (N, putE es (turnE a b), 0)) := by unfold Hid; rw [addP, if_neg hr]
  clear hr
  by_cases ha : isB N a = false
  · have hP : Hid (addP N es a b = (0, [], 4)) := by unfold Hid; rw [HP1.out, ha]; rfl
    have HA := Lib.hid ha
    clear ha
    go_enter Try.func64, Try.ntmps64
    go_wp2_with fail
    refine (right_any N _ HR0).mono ?_
    rintro e w1 ⟨rfl, hb⟩
    have z1 : GZ w N A n c w1 := (GZ.later HZ0 (Below.refl _ _)).later hb
    have Hz1 := gbox z1.gb
    obtain ⟨gz10, gz11⟩ := Hz1
    obtain ⟨rz10, rz11, rz12, rz13⟩ := GZ.res z1
    have Sz1 := z1.size
    have Rz1 := h.below (below_box z1.gb)
    clear hb
    rw [HRR.out]
    go_wp2_with fail
    refine (is_any a _).mono ?_
    rintro e w2 ⟨rfl, hb⟩
    have z2 : GZ w N A n c w2 := z1.later hb
    have Hz2 := gbox z2.gb
    obtain ⟨gz20, gz21⟩ := Hz2
    obtain ⟨rz20, rz21, rz22, rz23⟩ := GZ.res z2
    have Sz2 := z2.size
    have Rz2 := h.below (below_box z2.gb)
    clear hb
    rw [HA.out]
    have HEND : Hid (((w2.setCell ⟨w.heap.size + 1, 0, none⟩ (.int .i64 0)).setCell ⟨w.heap.size + 1, 1, none⟩ (.slice none 0 0)).heap[w.heap.size + 1]? = some (gcells 0 none 0 0)) := Go.Proofs.YtnldfjoadmehcaaW.PrintWords.blk_put (Go.Proofs.YtnldfjoadmehcaaW.PrintWords.blk_put (GZ.blk z2) 0 _ rfl) 1 _ rfl
    have HBEL : Hid (Below w.heap.size w ((w2.setCell ⟨w.heap.size + 1, 0, none⟩ (.int .i64 0)).setCell ⟨w.heap.size + 1, 1, none⟩ (.slice none 0 0))) := Below.setCell (Below.setCell (below_box z2.gb) (by simp) _) (by simp) _
    go_wp2_with fail
    (try simp only [Exit.inBlock, Exit.then])
    refine bodyPost_ret (Go.Proofs.YtnldfjoadmehcaaW.PrintWords.results_ct rfl _ _ (w.heap.size + 1) 26 #[.int .i64 0, .slice none 0 0] (0, 0) _ rfl HEND.out Try.underlying26 rfl (by kernel_rfl)) rfl ?_
    rw [hP.out]
    exact ⟨_, rfl, _, rfl, OwnE.nil _ _, HBEL.out⟩
  have HA : Hid (isB N a = true) := by simpa [Hid] using ha
  clear ha
  by_cases hb : isB N b = false
  · have hP : Hid (addP N es a b = (0, [], 4)) := by unfold Hid; rw [HP1.out, HA.out, hb]; rfl
    have HB := Lib.hid hb
    clear hb
    go_enter Try.func64, Try.ntmps64
    go_wp2_with fail
    refine (right_any N _ HR0).mono ?_
    rintro e w1 ⟨rfl, hb⟩
    have z1 : GZ w N A n c w1 := (GZ.later HZ0 (Below.refl _ _)).later hb
    have Hz1 := gbox z1.gb
    obtain ⟨gz10, gz11⟩ := Hz1
    obtain ⟨rz10, rz11, rz12, rz13⟩ := GZ.res z1
    have Sz1 := z1.size
    have Rz1 := h.below (below_box z1.gb)
    clear hb
    rw [HRR.out]
    go_wp2_with fail
    refine (is_any a _).mono ?_
    rintro e w2 ⟨rfl, hb⟩
    have z2 : GZ w N A n c w2 := z1.later hb
    have Hz2 := gbox z2.gb
    obtain ⟨gz20, gz21⟩ := Hz2
    obtain ⟨rz20, rz21, rz22, rz23⟩ := GZ.res z2
    have Sz2 := z2.size
    have Rz2 := h.below (below_box z2.gb)
    clear hb
    rw [HA.out]
    go_wp2_with fail
    refine (is_any b _).mono ?_
    rintro e w3 ⟨rfl, hb⟩
    have z3 : GZ w N A n c w3 := z2.later hb
    have Hz3 := gbox z3.gb
    obtain ⟨gz30, gz31⟩ := Hz3
    obtain ⟨rz30, rz31, rz32, rz33⟩ := GZ.res z3
    have Sz3 := z3.size
    have Rz3 := h.below (below_box z3.gb)
    clear hb
    rw [HB.out]
    have HEND : Hid (((w3.setCell ⟨w.heap.size + 1, 0, none⟩ (.int .i64 0)).setCell ⟨w.heap.size + 1, 1, none⟩ (.slice none 0 0)).heap[w.heap.size + 1]? = some (gcells 0 none 0 0)) := Go.Proofs.YtnldfjoadmehcaaW.PrintWords.blk_put (Go.Proofs.YtnldfjoadmehcaaW.PrintWords.blk_put (GZ.blk z3) 0 _ rfl) 1 _ rfl
    have HBEL : Hid (Below w.heap.size w ((w3.setCell ⟨w.heap.size + 1, 0, none⟩ (.int .i64 0)).setCell ⟨w.heap.size + 1, 1, none⟩ (.slice none 0 0))) := Below.setCell (Below.setCell (below_box z3.gb) (by simp) _) (by simp) _
    go_wp2_with fail
    (try simp only [Exit.inBlock, Exit.then])
    refine bodyPost_ret (Go.Proofs.YtnldfjoadmehcaaW.PrintWords.results_ct rfl _ _ (w.heap.size + 1) 26 #[.int .i64 0, .slice none 0 0] (0, 0) _ rfl HEND.out Try.underlying26 rfl (by kernel_rfl)) rfl ?_
    rw [hP.out]
    exact ⟨_, rfl, _, rfl, OwnE.nil _ _, HBEL.out⟩
  have HB : Hid (isB N b = true) := by simpa [Hid] using hb
  clear hb
  have HP2 : Hid (addP N es a b = if a = b then (0, [], 5) else if hasB N es a b = true then (0, [], 6) else if 65536 ≤ es.length then (0, [], 8) else (N, putE es (turnE a b), 0)) := by unfold Hid; rw [HP1.out, HA.out, HB.out]; rfl
  clear HP1
  by_cases hab : a = b
  · have hP : Hid (addP N es a b = (0, [], 5)) := by unfold Hid; rw [HP2.out, if_pos hab]
    subst hab
    go_enter Try.func64, Try.ntmps64
    go_wp2_with fail
    refine (right_any N _ HR0).mono ?_
    rintro e w1 ⟨rfl, hb⟩
    have z1 : GZ w N A n c w1 := (GZ.later HZ0 (Below.refl _ _)).later hb
    have Hz1 := gbox z1.gb
    obtain ⟨gz10, gz11⟩ := Hz1
    obtain ⟨rz10, rz11, rz12, rz13⟩ := GZ.res z1
    have Sz1 := z1.size
    have Rz1 := h.below (below_box z1.gb)
    clear hb
    rw [HRR.out]
    go_wp2_with fail
    refine (is_any a _).mono ?_
    rintro e w2 ⟨rfl, hb⟩
    have z2 : GZ w N A n c w2 := z1.later hb
    have Hz2 := gbox z2.gb
    obtain ⟨gz20, gz21⟩ := Hz2
    obtain ⟨rz20, rz21, rz22, rz23⟩ := GZ.res z2
    have Sz2 := z2.size
    have Rz2 := h.below (below_box z2.gb)
    clear hb
    rw [HA.out]
    go_wp2_with fail
    refine (is_any a _).mono ?_
    rintro e w3 ⟨rfl, hb⟩
    have z3 : GZ w N A n c w3 := z2.later hb
    have Hz3 := gbox z3.gb
    obtain ⟨gz30, gz31⟩ := Hz3
    obtain ⟨rz30, rz31, rz32, rz33⟩ := GZ.res z3
    have Sz3 := z3.size
    have Rz3 := h.below (below_box z3.gb)
    clear hb
    rw [HA.out]
    have HEND : Hid (((w3.setCell ⟨w.heap.size + 1, 0, none⟩ (.int .i64 0)).setCell ⟨w.heap.size + 1, 1, none⟩ (.slice none 0 0)).heap[w.heap.size + 1]? = some (gcells 0 none 0 0)) := Go.Proofs.YtnldfjoadmehcaaW.PrintWords.blk_put (Go.Proofs.YtnldfjoadmehcaaW.PrintWords.blk_put (GZ.blk z3) 0 _ rfl) 1 _ rfl
    have HBEL : Hid (Below w.heap.size w ((w3.setCell ⟨w.heap.size + 1, 0, none⟩ (.int .i64 0)).setCell ⟨w.heap.size + 1, 1, none⟩ (.slice none 0 0))) := Below.setCell (Below.setCell (below_box z3.gb) (by simp) _) (by simp) _
    go_wp2_with fail
    (try simp only [Exit.inBlock, Exit.then])
    refine bodyPost_ret (Go.Proofs.YtnldfjoadmehcaaW.PrintWords.results_ct rfl _ _ (w.heap.size + 1) 26 #[.int .i64 0, .slice none 0 0] (0, 0) _ rfl HEND.out Try.underlying26 rfl (by kernel_rfl)) rfl ?_
    rw [hP.out]
    exact ⟨_, rfl, _, rfl, OwnE.nil _ _, HBEL.out⟩
  have hab2 : (a == b) = false := by simpa using hab
  have HP3 : Hid (addP N es a b = if hasB N es a b = true then (0, [], 6) else if 65536 ≤ es.length then (0, [], 8) else (N, putE es (turnE a b), 0)) := by unfold Hid; rw [HP2.out, if_neg hab]
  clear HP2 hab
  by_cases hh : hasB N es a b = true
  · have hP : Hid (addP N es a b = (0, [], 6)) := by unfold Hid; rw [HP3.out, if_pos hh]
    have HH := Lib.hid hh
    clear hh
    go_enter Try.func64, Try.ntmps64
    go_wp2_with fail
    refine (right_any N _ HR0).mono ?_
    rintro e w1 ⟨rfl, hb⟩
    have z1 : GZ w N A n c w1 := (GZ.later HZ0 (Below.refl _ _)).later hb
    have Hz1 := gbox z1.gb
    obtain ⟨gz10, gz11⟩ := Hz1
    obtain ⟨rz10, rz11, rz12, rz13⟩ := GZ.res z1
    have Sz1 := z1.size
    have Rz1 := h.below (below_box z1.gb)
    clear hb
    rw [HRR.out]
    go_wp2_with fail
    refine (is_any a _).mono ?_
    rintro e w2 ⟨rfl, hb⟩
    have z2 : GZ w N A n c w2 := z1.later hb
    have Hz2 := gbox z2.gb
    obtain ⟨gz20, gz21⟩ := Hz2
    obtain ⟨rz20, rz21, rz22, rz23⟩ := GZ.res z2
    have Sz2 := z2.size
    have Rz2 := h.below (below_box z2.gb)
    clear hb
    rw [HA.out]
    go_wp2_with fail
    refine (is_any b _).mono ?_
    rintro e w3 ⟨rfl, hb⟩
    have z3 : GZ w N A n c w3 := z2.later hb
    have Hz3 := gbox z3.gb
    obtain ⟨gz30, gz31⟩ := Hz3
    obtain ⟨rz30, rz31, rz32, rz33⟩ := GZ.res z3
    have Sz3 := z3.size
    have Rz3 := h.below (below_box z3.gb)
    clear hb
    rw [HB.out]
    go_wp2_with fail
    refine (has2_any a b _ Rz3).mono ?_
    rintro e w4 ⟨rfl, hb⟩
    have z4 : GZ w N A n c w4 := z3.later hb
    have Hz4 := gbox z4.gb
    obtain ⟨gz40, gz41⟩ := Hz4
    obtain ⟨rz40, rz41, rz42, rz43⟩ := GZ.res z4
    have Sz4 := z4.size
    have Rz4 := h.below (below_box z4.gb)
    clear hb
    rw [HH.out]
    have HEND : Hid (((w4.setCell ⟨w.heap.size + 1, 0, none⟩ (.int .i64 0)).setCell ⟨w.heap.size + 1, 1, none⟩ (.slice none 0 0)).heap[w.heap.size + 1]? = some (gcells 0 none 0 0)) := Go.Proofs.YtnldfjoadmehcaaW.PrintWords.blk_put (Go.Proofs.YtnldfjoadmehcaaW.PrintWords.blk_put (GZ.blk z4) 0 _ rfl) 1 _ rfl
    have HBEL : Hid (Below w.heap.size w ((w4.setCell ⟨w.heap.size + 1, 0, none⟩ (.int .i64 0)).setCell ⟨w.heap.size + 1, 1, none⟩ (.slice none 0 0))) := Below.setCell (Below.setCell (below_box z4.gb) (by simp) _) (by simp) _
    go_wp2_with fail
    (try simp only [Exit.inBlock, Exit.then])
    refine bodyPost_ret (Go.Proofs.YtnldfjoadmehcaaW.PrintWords.results_ct rfl _ _ (w.heap.size + 1) 26 #[.int .i64 0, .slice none 0 0] (0, 0) _ rfl HEND.out Try.underlying26 rfl (by kernel_rfl)) rfl ?_
    rw [hP.out]
    exact ⟨_, rfl, _, rfl, OwnE.nil _ _, HBEL.out⟩
  have HH : Hid (hasB N es a b = false) := by simpa [Hid] using hh
  clear hh
  by_cases hl : 65536 ≤ n
  · have hP : Hid (addP N es a b = (0, [], 8)) := by unfold Hid; rw [HP3.out, HH.out, H1.out]; simp [hl]
    have hl2 : (65536 : Int) ≤ (n : Int) := by omega
    go_enter Try.func64, Try.ntmps64
    go_wp2_with fail
    refine (right_any N _ HR0).mono ?_
    rintro e w1 ⟨rfl, hb⟩
    have z1 : GZ w N A n c w1 := (GZ.later HZ0 (Below.refl _ _)).later hb
    have Hz1 := gbox z1.gb
    obtain ⟨gz10, gz11⟩ := Hz1
    obtain ⟨rz10, rz11, rz12, rz13⟩ := GZ.res z1
    have Sz1 := z1.size
    have Rz1 := h.below (below_box z1.gb)
    clear hb
    rw [HRR.out]
    go_wp2_with fail
    refine (is_any a _).mono ?_
    rintro e w2 ⟨rfl, hb⟩
    have z2 : GZ w N A n c w2 := z1.later hb
    have Hz2 := gbox z2.gb
    obtain ⟨gz20, gz21⟩ := Hz2
    obtain ⟨rz20, rz21, rz22, rz23⟩ := GZ.res z2
    have Sz2 := z2.size
    have Rz2 := h.below (below_box z2.gb)
    clear hb
    rw [HA.out]
    go_wp2_with fail
    refine (is_any b _).mono ?_
    rintro e w3 ⟨rfl, hb⟩
    have z3 : GZ w N A n c w3 := z2.later hb
    have Hz3 := gbox z3.gb
    obtain ⟨gz30, gz31⟩ := Hz3
    obtain ⟨rz30, rz31, rz32, rz33⟩ := GZ.res z3
    have Sz3 := z3.size
    have Rz3 := h.below (below_box z3.gb)
    clear hb
    rw [HB.out]
    go_wp2_with fail
    refine (has2_any a b _ Rz3).mono ?_
    rintro e w4 ⟨rfl, hb⟩
    have z4 : GZ w N A n c w4 := z3.later hb
    have Hz4 := gbox z4.gb
    obtain ⟨gz40, gz41⟩ := Hz4
    obtain ⟨rz40, rz41, rz42, rz43⟩ := GZ.res z4
    have Sz4 := z4.size
    have Rz4 := h.below (below_box z4.gb)
    clear hb
    rw [HH.out]
    have HEND : Hid (((w4.setCell ⟨w.heap.size + 1, 0, none⟩ (.int .i64 0)).setCell ⟨w.heap.size + 1, 1, none⟩ (.slice none 0 0)).heap[w.heap.size + 1]? = some (gcells 0 none 0 0)) := Go.Proofs.YtnldfjoadmehcaaW.PrintWords.blk_put (Go.Proofs.YtnldfjoadmehcaaW.PrintWords.blk_put (GZ.blk z4) 0 _ rfl) 1 _ rfl
    have HBEL : Hid (Below w.heap.size w ((w4.setCell ⟨w.heap.size + 1, 0, none⟩ (.int .i64 0)).setCell ⟨w.heap.size + 1, 1, none⟩ (.slice none 0 0))) := Below.setCell (Below.setCell (below_box z4.gb) (by simp) _) (by simp) _
    go_wp2_with fail
    (try simp only [Exit.inBlock, Exit.then])
    refine bodyPost_ret (Go.Proofs.YtnldfjoadmehcaaW.PrintWords.results_ct rfl _ _ (w.heap.size + 1) 26 #[.int .i64 0, .slice none 0 0] (0, 0) _ rfl HEND.out Try.underlying26 rfl (by kernel_rfl)) rfl ?_
    rw [hP.out]
    exact ⟨_, rfl, _, rfl, OwnE.nil _ _, HBEL.out⟩
  have hP : Hid (addP N es a b = (N, putE es (turnE a b), 0)) := by unfold Hid; rw [HP3.out, HH.out, H1.out]; simp [hl]
  have hl3 : decide ((65536 : Int) ≤ (n : Int)) = false := by rw [decide_eq_false_iff_not]; omega
  have HL : Hid (n < 65536) := by unfold Hid; omega
  clear hl
  go_enter Try.func64, Try.ntmps64
  go_wp2_with fail
  refine (right_any N _ HR0).mono ?_
  rintro e w1 ⟨rfl, hb⟩
  have z1 : GZ w N A n c w1 := (GZ.later HZ0 (Below.refl _ _)).later hb
  have Hz1 := gbox z1.gb
  obtain ⟨gz10, gz11⟩ := Hz1
  obtain ⟨rz10, rz11, rz12, rz13⟩ := GZ.res z1
  have Sz1 := z1.size
  have Rz1 := h.below (below_box z1.gb)
  clear hb
  rw [HRR.out]
  go_wp2_with fail
  refine (is_any a _).mono ?_
  rintro e w2 ⟨rfl, hb⟩
  have z2 : GZ w N A n c w2 := z1.later hb
  have Hz2 := gbox z2.gb
  obtain ⟨gz20, gz21⟩ := Hz2
  obtain ⟨rz20, rz21, rz22, rz23⟩ := GZ.res z2
  have Sz2 := z2.size
  have Rz2 := h.below (below_box z2.gb)
  clear hb
  rw [HA.out]
  go_wp2_with fail
  refine (is_any b _).mono ?_
  rintro e w3 ⟨rfl, hb⟩
  have z3 : GZ w N A n c w3 := z2.later hb
  have Hz3 := gbox z3.gb
  obtain ⟨gz30, gz31⟩ := Hz3
  obtain ⟨rz30, rz31, rz32, rz33⟩ := GZ.res z3
  have Sz3 := z3.size
  have Rz3 := h.below (below_box z3.gb)
  clear hb
  rw [HB.out]
  go_wp2_with fail
  refine (has2_any a b _ Rz3).mono ?_
  rintro e w4 ⟨rfl, hb⟩
  have z4 : GZ w N A n c w4 := z3.later hb
  have Hz4 := gbox z4.gb
  obtain ⟨gz40, gz41⟩ := Hz4
  obtain ⟨rz40, rz41, rz42, rz43⟩ := GZ.res z4
  have Sz4 := z4.size
  have Rz4 := h.below (below_box z4.gb)
  clear hb
  rw [HH.out]
  go_wp2_with fail
  have hgy : GY w N A n c w4.drew := ⟨z4.gb.trans ((Drawn.refl _).drew.below _), Sz4, _, _, z4.blk⟩
  have HGY := Lib.hid hgy
  have hput := fun W (hW : ReadE W A n es) => put_any (turnE a b).1 (turnE a b).2 W hW hc (by have := HL.out; omega)
  have htu := fun W => turned_any a b W
  have HPT : Hid (putE es (turnE a b) = putE es ((turnE a b).1, (turnE a b).2)) := rfl
  clear z1 z2 z3 z4 hgy rz10 rz11 rz12 rz13 rz20 rz21 rz22 rz23 rz30 rz31 rz32 rz33 rz40 rz41 rz42 rz43 gz10 gz11 gz20 gz21 gz30 gz31 Rz1 Rz2 Rz3 Rz4
  generalize turnE a b = te at *
  obtain ⟨t1, t2⟩ := te
  go_region_held3 (fun w' => w'.cell? ⟨w.heap.size, 0, none⟩ = some (.int .i64 N) ∧ w'.cell? ⟨w.heap.size, 1, none⟩ = some (.slice A n c) ∧ GY w N A n c w')
    (first | exact (GY.es HGY.out) | exact (GY.later (And.right (And.right (by assumption))) hb10).es | exact (GY.later (And.right (And.right (by assumption))) hb9).es | exact (GY.store (And.right (And.right (by assumption))) _ _).es | fail)
    (first
      | (go_at_call 92; refine (htu _).mono ?_; rintro e w9 ⟨rfl, hb9⟩)
      | (go_at_call 91; refine (hput _ (h.below (GY.bel (And.right (And.right (by assumption)))))).mono ?_; rintro e w10 ⟨v, rfl, own10, hb10⟩; have hY10 := GY.later (And.right (And.right (by assumption))) hb10; have own11 := row_weaken own10 (Nat.le_trans (GY.size (And.right (And.right (by assumption)))) (Nat.le_succ _)); obtain ⟨x0, y0, r0, r1, r2, r3⟩ := GY.res hY10; obtain ⟨A10, c10, rfl, -, -, -⟩ := OwnE.read own10)
      | fail)
  all_goals
    have HEND := hY10.end (.int .i64 N) (.slice A10 (putE es (t1, t2)).length c10)
    have HBEL := (hY10.store (.int .i64 N) (.slice A10 (putE es (t1, t2)).length c10)).bel
    have HOWN := own_set2 (u := .int .i64 N) (v := .slice A10 (putE es (t1, t2)).length c10) own11 (Nat.lt_succ_self (w.heap.size + 1))
    have HEND := Lib.hid HEND
    have HBEL := Lib.hid HBEL
    have HOWN := Lib.hid HOWN
    go_wp2_with fail
    (try simp only [Exit.inBlock, Exit.then])
    refine bodyPost_ret (Go.Proofs.YtnldfjoadmehcaaW.PrintWords.results_ct rfl _ _ (w.heap.size + 1) 26 #[.int .i64 N, .slice A10 (putE es (t1, t2)).length c10] (0, 0) _ rfl HEND.out Try.underlying26 rfl (by kernel_rfl)) rfl ?_
    rw [hP.out]
    exact ⟨_, rfl, _, rfl, HOWN.out, HBEL.out⟩

end Go.Proofs.Ytnldfjoadmehcaa
