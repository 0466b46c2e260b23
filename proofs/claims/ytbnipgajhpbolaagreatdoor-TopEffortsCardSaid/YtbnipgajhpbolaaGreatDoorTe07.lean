/- The walk of graph.Right; The walks of the functions that hold lists of edges, and graphs, against each other; Rows of one cell each, that a function made and writes; Words that the walks share: what came later than a world, boxes, lists that are owned; The walks of math/bits.Mul64 and Mul, at 1 and a small number; The walks of math/bits.Mul and of slices.Repeat of one number; The walk of mates.None -/
import Derived.Test.YtbnipgajhpbolaaGreatDoorTe06
import Derived.Deep.OwnRows
import Derived.Deep.RegionWith
import Derived.Deep.DeepCutAuto
import Derived.Laws.BitsLemmas
import Derived.Laws.CopyOwn
import Derived.Deep.RegionLaw
set_option linter.unusedVariables false
set_option linter.unusedSimpArgs false
namespace Go.Proofs.YtbnipgajhpbolaaGreatDoor

section
open Go.RowKit
def C6 (W : World) (a1 : Addr) (v1 : Value) (a2 : Addr) (v2 : Value) (a3 : Addr) (v3 : Value) (a4 : Addr) (v4 : Value) (a5 : Addr) (v5 : Value) (a6 : Addr) (v6 : Value) : Prop :=
  W.cell? a1 = some v1 ∧ W.cell? a2 = some v2 ∧ W.cell? a3 = some v3 ∧ W.cell? a4 = some v4 ∧ W.cell? a5 = some v5 ∧ W.cell? a6 = some v6
theorem C6.all {wr W : World} {a1 a2 a3 a4 a5 a6 : Addr} {v1 v2 v3 v4 v5 v6 : Value} (h : C6 wr a1 v1 a2 v2 a3 v3 a4 v4 a5 v5 a6 v6) (r : RW wr W) :
    W.cell? a1 = some v1 ∧ W.cell? a2 = some v2 ∧ W.cell? a3 = some v3 ∧ W.cell? a4 = some v4 ∧ W.cell? a5 = some v5 ∧ W.cell? a6 = some v6 ∧ RW wr W :=
  ⟨cell_later r h.1, cell_later r h.2.1, cell_later r h.2.2.1, cell_later r h.2.2.2.1, cell_later r h.2.2.2.2.1, cell_later r h.2.2.2.2.2, r⟩

set_option maxHeartbeats 4000000 in
set_option maxRecDepth 100000 in
theorem gright_any {A : Option Addr} {n c : Nat} {es : List Ed} (N : Int) (w : World) (h : ReadE w A n es) :
    Calls Tryz.prog 31 #[.agg #[.int .i64 N, .slice A n c]] w fun e w' => e = .returned (.bool (rightB N es)) ∧ Below w.heap.size w w' := by
  have hn := h.2.1
  have H1 := Lib.hid h.1
  have hb0 : Below (w.heap.size + 1) (w.alloc (gcells N A n c)) (w.alloc (gcells N A n c)) := Below.refl _ _
  have HB0 := Lib.hid hb0
  clear hb0
  by_cases hN0 : N < 0
  · have hf : rightB N es = false := by unfold rightB; simp; omega
    rw [hf]
    clear hf
    go_enter Tryz.func31, Tryz.ntmps31
    go_wp2
    go_ret
    exact ⟨rfl, below_box HB0⟩
  by_cases hN1 : 4096 < N
  · have hf : rightB N es = false := by unfold rightB; simp; omega
    rw [hf]
    clear hf
    go_enter Tryz.func31, Tryz.ntmps31
    go_wp2
    go_ret
    exact ⟨rfl, below_box HB0⟩
  by_cases hn1 : 65536 < n
  · have hf : rightB N es = false := by unfold rightB; have := H1.out; simp; omega
    rw [hf]
    have hn1' : (65536 : Int) < (n : Int) := by omega
    clear hf
    go_enter Tryz.func31, Tryz.ntmps31
    go_wp2
    go_ret
    exact ⟨rfl, below_box HB0⟩
  have HR : Hid (rightB N es = allTo N es n) := by
    unfold Hid rightB
    rw [H1.out]
    simp [show 0 ≤ N from by omega, show N ≤ 4096 from by omega, show n ≤ 65536 from by omega]
  go_enter Tryz.func31, Tryz.ntmps31
  go_wp2
  go_loopw [25] (fun i wr => ∃ k : Nat, k ≤ n ∧ i = .int .i64 k ∧ Hid (allTo N es k = true) ∧ Below (w.heap.size + 1) (w.alloc (gcells N A n c)) wr) (fun i _ => n - (intOf i).toNat)
  case atStart => exact ⟨0, Nat.zero_le _, rfl, rfl, HB0⟩
  case round =>
    obtain ⟨k, hk, rfl, hall, hbr⟩ := hrel
    obtain ⟨g0, g1⟩ := gbox hbr
    have hrs := hbr.size
    simp at hrs
    have hlt0 : w.heap.size < wr.heap.size := by omega
    clear hrs
    by_cases hlt : k < n
    · obtain ⟨b, o, rfl, hc⟩ := (h.box hbr).2.2 (by omega)
      obtain ⟨hc1, hc2⟩ := hc k hlt
      cases hok : edgeOk N (ge es k)
      · have hfin : Hid (rightB N es = false) := rightB_false (k := k) (by unfold okAt; rw [hok]; rfl) (by have := H1.out; omega)
        clear hc
        have hbe : Hid (Below w.heap.size w (wr.alloc (.cells #[.int .i64 (ge es k).1, .int .i64 (ge es k).2] 57))) := (below_box hbr).alloc (by omega) _
        generalize ge es k = ek at *
        obtain ⟨e1, e2⟩ := ek
        simp only [edgeOk, Bool.and_eq_false_iff, decide_eq_false_iff_not] at hok
        by_cases q1 : e1 < 0
        · clear hok
          go_wp2_with fail
          go_region
          go_wp2_with fail
          go_ret
          exact ⟨by rw [hfin.out]; rfl, Below.trans hbe.out ((Drawn.refl _).drew.below _)⟩
        · have q1' : decide (e1 < 0) = false := by rw [decide_eq_false_iff_not]; exact q1
          have Q1 := Lib.hid q1
          by_cases q2 : e2 ≤ e1
          · have q2' : decide (e2 ≤ e1) = true := by rw [decide_eq_true_eq]; exact q2
            clear hok q1 q2
            go_wp2_with fail
            go_region
            go_wp2_with fail
            go_ret
            exact ⟨by rw [hfin.out]; rfl, Below.trans hbe.out ((Drawn.refl _).drew.below _)⟩
          · have q3 : N ≤ e2 := by omega
            have q2' : decide (e2 ≤ e1) = false := by rw [decide_eq_false_iff_not]; exact q2
            have q3' : decide (N ≤ e2) = true := by rw [decide_eq_true_eq]; exact q3
            clear hok q1 q2 q3
            go_wp2_with fail
            go_region
            go_wp2_with fail
            go_ret
            exact ⟨by rw [hfin.out]; rfl, Below.trans hbe.out ((Drawn.refl _).drew.below _)⟩
      · have hbe : Hid (Below (w.heap.size + 1) (w.alloc (gcells N (some ⟨b, o, none⟩) n c)) (wr.alloc (.cells #[.int .i64 (ge es k).1, .int .i64 (ge es k).2] 57))) := hbr.alloc (by omega) _
        have HE : Hid (edgeOk N (ge es k) = true) := hok
        generalize hek : ge es k = ek at *
        obtain ⟨e1, e2⟩ := ek
        simp only [edgeOk, Bool.and_eq_true, decide_eq_true_eq] at hok
        obtain ⟨q1, q2, q3⟩ := hok
        have q1' : decide (e1 < 0) = false := by rw [decide_eq_false_iff_not]; omega
        have q2' : decide (e2 ≤ e1) = false := by rw [decide_eq_false_iff_not]; omega
        have q3' : decide (N ≤ e2) = false := by rw [decide_eq_false_iff_not]; omega
        clear q1 q2 q3
        have HK := Lib.hid hek
        clear hek
        rcases Nat.eq_zero_or_pos k with rfl | hk0
        · have hstep : Hid (allTo N es (0 + 1) = true) := by
            unfold Hid
            rw [allTo, okAt, HK.out, HE.out]
            rfl
          clear hc
          simp only [Nat.zero_mul, Nat.add_zero] at hc1 hc2
          go_wp2_with fail
          go_region
          go_wp2
          go_roundw
          case rel => exact ⟨0 + 1, by omega, by go_num, hstep, Below.trans hbe ((Drawn.refl _).drew.below _)⟩
          case measure => simp [intOf]; omega
        · obtain ⟨j, rfl⟩ : ∃ j, k = j + 1 := ⟨k - 1, by omega⟩
          obtain ⟨hd1, hd2⟩ := hc j (by omega)
          have hca := fun W => compare_any (ge es j) (e1, e2) W
          have hstep : ahead (ge es j) (e1, e2) = true → allTo N es (j + 1 + 1) = true := fun h => by
            rw [allTo, hall.out, okAt, HK.out, HE.out]
            simp [h]
          have hstop : ahead (ge es j) (e1, e2) = false → rightB N es = false := fun h =>
            rightB_false (k := j + 1) (by rw [okAt, HK.out, HE.out]; simp [h]) (by have := H1.out; omega)
          have HST := Lib.hid hstep
          have HSP := Lib.hid hstop
          clear hc hstep hstop
          generalize ge es j = ej at *
          obtain ⟨f1, f2⟩ := ej
          have k0 : decide ((0 : Int) < (j : Int) + 1) = true := by rw [decide_eq_true_eq]; omega
          have ew : IntKind.i64.wrap ((j : Int) + 1 - 1) = (j : Int) := by rw [IntKind.wrap_i64]; omega
          have ew2 : IntKind.i64.wrap (j : Int) = (j : Int) := by rw [IntKind.wrap_i64]; omega
          have j1 : (0 : Int) ≤ (j : Int) ∧ (j : Int) < (n : Int) := by omega
          have hcc : ∀ q, ahead (f1, f2) (e1, e2) = q → decide (0 ≤ cmpE (f1, f2) (e1, e2)) = !q := fun q hq => by
            have := cmpE_lt (a := (f1, f2)) (b := (e1, e2))
            rw [hq] at this
            cases q <;> simp at this ⊢ <;> omega
          generalize cmpE (f1, f2) (e1, e2) = r at *
          have hnw := heap_alloc_new wr (.cells #[.int .i64 e1, .int .i64 e2] 57)
          have hbn : Below wr.heap.size wr (wr.alloc (.cells #[.int .i64 e1, .int .i64 e2] 57)) := Below.alloc (Below.refl _ _) (Nat.le_refl _) _
          have HS1 : Hid (C6 (wr.alloc (.cells #[.int .i64 e1, .int .i64 e2] 57)) ⟨w.heap.size, 0, none⟩ (.int .i64 N) ⟨w.heap.size, 1, none⟩ (.slice (some ⟨b, o, none⟩) n c) ⟨b, o + j * 2, none⟩ (.int .i64 f1) ⟨b, o + j * 2 + 1, none⟩ (.int .i64 f2) ⟨wr.heap.size, 0, none⟩ (.int .i64 e1) ⟨wr.heap.size, 1, none⟩ (.int .i64 e2)) :=
            ⟨cell_later hbn g0, cell_later hbn g1, cell_later hbn hd1, cell_later hbn hd2, (cell_blk hnw 0).trans rfl, (cell_blk hnw 1).trans rfl⟩
          clear hnw hbn
          cases hah : ahead (f1, f2) (e1, e2)
          all_goals
            have hcq := hcc _ hah
            simp only [Bool.not_true, Bool.not_false] at hcq
            have HAH := Lib.hid hah
            clear hah hcc
            go_wp2_with fail
            generalize hW0 : wr.alloc (.cells #[.int .i64 e1, .int .i64 e2] 57) = w0 at *
            go_region_held3 (fun w' => w'.cell? ⟨w.heap.size, 0, none⟩ = some (.int .i64 N) ∧ w'.cell? ⟨w.heap.size, 1, none⟩ = some (.slice (some ⟨b, o, none⟩) n c) ∧ w'.cell? ⟨b, o + j * 2, none⟩ = some (.int .i64 f1) ∧ w'.cell? ⟨b, o + j * 2 + 1, none⟩ = some (.int .i64 f2) ∧ w'.cell? ⟨wr.heap.size, 0, none⟩ = some (.int .i64 e1) ∧ w'.cell? ⟨wr.heap.size, 1, none⟩ = some (.int .i64 e2) ∧ RW w0 w')
              (first | exact C6.all HS1.out (RW.refl w0).drew | exact C6.all HS1.out (RW.later (And.right (And.right (And.right (And.right (And.right (And.right (by assumption))))))) hb9) | fail)
              ((go_at_call 46; refine (hca _).mono ?_; rintro e w9 ⟨rfl, hb9⟩))
            have hfin : RW w0 w9 := And.right (And.right (And.right (And.right (And.right (And.right (by assumption))))))
            have hfin2 := hbe.out.trans (hfin.mono (by have := Below.size hbe.out; simp at this; exact this))
            go_wp2_with fail
            first
              | exact ⟨⟨j + 1 + 1, by omega, by go_num, HST.out HAH.out, hfin2⟩, by simp [intOf]; omega⟩
              | (go_ret
                 exact ⟨by rw [HSP.out HAH.out]; rfl, below_box hfin2⟩)
    · have hfin : Hid (rightB N es = true) := by
        unfold Hid
        rw [HR.out, show n = k from by omega]
        exact hall
      go_wp2
      go_ret
      exact ⟨by rw [hfin.out]; rfl, below_box hbr⟩
end

section
open Go.RowKit
attribute [local go_sem high] eqE

theorem take_succE {xs : List Ed} {k : Nat} (h : k < xs.length) : xs.take (k + 1) = xs.take k ++ [ge xs k] := by
  rw [List.take_succ_eq_append_getElem h]
  simp [ge, List.getD_eq_getElem?_getD, h]
end

section
open Go.RowKit
/-- In block g lie n cells; number j is f j. -/
def RowF (w : World) (g : Nat) (t : TypeId) (n : Nat) (f : Nat → Value) : Prop := ∃ cs : Array Value, w.heap[g]? = some (.cells cs t (0, 0)) ∧ cs.size = n ∧ ∀ j, j < n → cs[j]? = some (f j)
section
variable {w w' : World} {g n : Nat} {t : TypeId} {f : Nat → Value}
theorem RowF.cell (h : RowF w g t n f) {j : Nat} (hj : j < n) : w.cell? ⟨g, j, none⟩ = some (f j) := by
  obtain ⟨cs, h1, h2, h3⟩ := h
  rw [cell_blk h1]
  exact h3 j hj
theorem RowF.froz (h : RowF w g t n f) (j : Nat) : w.frozen? ⟨g, j, none⟩ = false := by
  obtain ⟨cs, h1, h2, h3⟩ := h
  exact frozen_blk h1 j
theorem RowF.lt (h : RowF w g t n f) : g < w.heap.size := by
  obtain ⟨cs, h1, h2, h3⟩ := h
  exact (Array.getElem?_eq_some_iff.1 h1).1
theorem RowF.later (h : RowF w g t n f) (b : Below w.heap.size w w') : RowF w' g t n f := by
  have hl := h.lt
  obtain ⟨cs, h1, h2, h3⟩ := h
  exact ⟨cs, (b.block g hl).trans h1, h2, h3⟩
theorem RowF.grown {row : Option Nat} (h : RowF w g t n f) (b : w.grownBy w' row) (hr : some g ≠ row) : RowF w' g t n f := by
  have hl := h.lt
  obtain ⟨cs, h1, h2, h3⟩ := h
  exact ⟨cs, (b.block g hl hr).trans h1, h2, h3⟩
theorem RowF.set (h : RowF w g t n f) (j : Nat) (v : Value) : RowF (w.setCell ⟨g, j, none⟩ v) g t n (fun i => if i = j then v else f i) := by
  obtain ⟨cs, h1, h2, h3⟩ := h
  refine ⟨cs.setIfInBounds j v, ?_, by simpa using h2, fun i hi => ?_⟩
  · simp [World.setCell, Array.getElem?_modify, h1]
  · rw [Array.getElem?_setIfInBounds]
    by_cases e : i = j
    · subst e
      simp [h2, hi]
    · rw [if_neg (fun k => e k.symm)]
      simp only [if_neg e]
      exact h3 i hi
theorem RowF.made (w : World) (n : Nat) (t : TypeId) (z : Value) : RowF (w.alloc (.cells (madeCells #[z] n) t)) w.heap.size t n (fun _ => z) := by
  refine ⟨_, heap_alloc_new w _, ?_, fun j hj => ?_⟩
  · rw [← Array.length_toList, toList_madeCells_one, List.length_replicate]
  · rw [← Array.getElem?_toList, toList_madeCells_one, List.getElem?_replicate, if_pos hj]
theorem RowF.congr {f' : Nat → Value} (h : RowF w g t n f) (e : ∀ j, j < n → f j = f' j) : RowF w g t n f' := by
  obtain ⟨cs, h1, h2, h3⟩ := h
  exact ⟨cs, h1, h2, fun j hj => (h3 j hj).trans (by rw [e j hj])⟩
end
end

section
open Go.RowKit
theorem OwnE.shape {w : World} {base : Nat} {v : Value} {es : List Ed} (h : OwnE w base v es) : ∃ A n c, v = .slice A n c := by
  obtain ⟨A, c, e, -⟩ := OwnE.read h
  exact ⟨A, _, c, e⟩
theorem OwnI.shape {w : World} {base : Nat} {v : Value} {xs : List Int} (h : OwnI w base v xs) : ∃ A n c, v = .slice A n c := by
  obtain ⟨A, c, e, -⟩ := OwnI.read h
  exact ⟨A, _, c, e⟩
theorem grown_set (w : World) (h j : Nat) (v : Value) : w.grownBy (w.setCell ⟨h, j, none⟩ v) (some h) :=
  ⟨rfl, rfl, rfl, by simp [World.setCell], fun k _ hk => Below.heap_setCell w _ _ k (fun e => hk (by rw [e]))⟩
theorem own_set1 {W : World} {base e size m g j : Nat} {u x : Value} {xs : List Value} (h : W.ownsRow base e size x m xs) (hg : g < base) : (W.setCell ⟨g, j, none⟩ u).ownsRow base e size x m xs := by
  refine h.kept (row := some g) (grown_set _ _ _ _) (.inr fun e => ?_)
  have := row_base h g e
  omega
/-- Edges are collected in the field of a graph that lies in the first block behind w2. -/
def KR (w2 : World) (m : Int) (v : Value) (es : List Ed) (W : World) : Prop :=
  Below w2.heap.size w2 W ∧ w2.heap.size + 1 ≤ W.heap.size ∧ W.heap[w2.heap.size]? = some (.cells #[.int .i64 m, v] 25 (0, 0)) ∧ OwnE W (w2.heap.size + 1) v es
theorem KR.later {w2 W W' : World} {m : Int} {v : Value} {es : List Ed} (h : KR w2 m v es W) (g : Below W.heap.size W W') : KR w2 m v es W' :=
  ⟨below_after h.1 (Below.size h.1) g, Nat.le_trans h.2.1 (Below.size g), (g.block _ h.2.1).trans h.2.2.1, row_below h.2.2.2 g⟩
theorem KR.cells {w2 W : World} {m : Int} {v : Value} {es : List Ed} (h : KR w2 m v es W) : W.cell? ⟨w2.heap.size, 0, none⟩ = some (.int .i64 m) ∧ W.cell? ⟨w2.heap.size, 1, none⟩ = some v ∧ W.frozen? ⟨w2.heap.size, 0, none⟩ = false ∧ W.frozen? ⟨w2.heap.size, 1, none⟩ = false :=
  ⟨(cell_blk h.2.2.1 0).trans rfl, (cell_blk h.2.2.1 1).trans rfl, frozen_blk h.2.2.1 0, frozen_blk h.2.2.1 1⟩
/-- The one edge in the box is appended, and the field stored. -/
theorem KR.store {w2 W W1 : World} {m : Int} {v v1 : Value} {es es1 : List Ed} (h : KR w2 m v es W) (hg : W.grownBy W1 v.ownBlock) (ho : OwnE W1 (w2.heap.size + 1) v1 es1) :
    KR w2 m v1 es1 (W1.setCell ⟨w2.heap.size, 1, none⟩ v1) ∧ W1.cell? ⟨w2.heap.size, 1, none⟩ = some v ∧ W1.frozen? ⟨w2.heap.size, 1, none⟩ = false := by
  have hb : W1.heap[w2.heap.size]? = some (.cells #[.int .i64 m, v] 25 (0, 0)) := (hg.block _ h.2.1 fun e => by have := row_base h.2.2.2 _ e.symm; omega).trans h.2.2.1
  have h1 : Below w2.heap.size w2 W1 := Below.grown h.1 hg (by have := h.2.1; omega) fun k hk => by have := row_base h.2.2.2 k hk; omega
  refine ⟨⟨Below.setCell h1 (Nat.le_refl _) _, ?_, Go.Proofs.YtbnipgajhpbolaaGreatDoorW.PrintWords.blk_put hb 1 _ rfl, own_set1 ho (by omega)⟩, (cell_blk hb 1).trans rfl, frozen_blk hb 1⟩
  have := hg.size
  have := h.2.1
  simp [World.setCell]
  omega
/-- append(v, y) of a number, where the heap's size is spelled otherwise. -/
theorem app_intz {ops : Array Oper} {rest : List Oper} {o : Oper} {a : Act} {Q : Exit → Act → World → Prop} {W : World} (base z : Nat) (hz : z = W.heap.size) (hgd : o.guard = none) (s x : Operand)
    (ho : o.op = .call { callee := .builtin .append, args := #[s, x], argTypes := #[22, 22] })
    (v : Value) (xs : List Int) (y : Int) (hs : a.eval s = v) (hx : a.eval x = .slice (some ⟨z, 0, none⟩) 1 1)
    (HO : OwnI W base v xs) (hbase : base ≤ W.heap.size) (hl : xs.length ≤ 1000000000)
    (h : ∀ v1 w1, OwnI w1 base v1 (xs ++ [y]) → Below base W w1 → W.grownBy w1 v.ownBlock → wpList Tryz.prog ops Q rest (a.put o.dst v1) w1) :
    wpList Tryz.prog ops Q (o :: rest) a (W.alloc (.cells #[.int .i64 y] 3)) := by
  subst hz
  exact app_int base hgd s x ho v xs y hs hx HO (Below.refl _ _) hbase hl fun v1 w1 h1 h2 h3 _ => h v1 w1 h1 h2 h3
/-- append(v, e) of an edge. -/
theorem app_edge {ops : Array Oper} {rest : List Oper} {o : Oper} {a : Act} {Q : Exit → Act → World → Prop} {W : World} (base z : Nat) (hz : z = W.heap.size) (hgd : o.guard = none) (s x : Operand)
    (ho : o.op = .call { callee := .builtin .append, args := #[s, x], argTypes := #[23, 23] })
    (v : Value) (xs : List Ed) (y1 y2 : Int) (hs : a.eval s = v) (hx : a.eval x = .slice (some ⟨z, 0, none⟩) 1 1)
    (HO : OwnE W base v xs) (hbase : base ≤ W.heap.size) (hl : xs.length ≤ 1000000000)
    (h : ∀ v1 w1, OwnE w1 base v1 (xs ++ [(y1, y2)]) → Below base W w1 → W.grownBy w1 v.ownBlock → wpList Tryz.prog ops Q rest (a.put o.dst v1) w1) :
    wpList Tryz.prog ops Q (o :: rest) a (W.alloc (.cells #[.int .i64 y1, .int .i64 y2] 57)) := by
  subst hz
  refine app_cells base hgd s x 23 57 (.agg #[.int .i64 0, .int .i64 0]) 2 16 ho Tryz.underlying23 infoEdge rfl (by decide) (by decide) v xs.length (ecells xs) [.int .i64 y1, .int .i64 y2] hs hx rfl (by simp [Value.oneCell']) HO (Below.refl _ _) hbase (by omega) ?_
  intro v1 w1 h1 h2 h3 _
  refine h v1 w1 ?_ h2 h3
  unfold OwnE
  rw [ecells_append]
  simpa [ecells] using h1
/-- A block that is laid whole. -/
theorem ReadE.ofblk {W : World} {g : Nat} {t : TypeId} {cs : Array Value} (es : List Ed) (hg : W.heap[g]? = some (.cells cs t (0, 0))) (hcs : cs.toList = ecells es) (hl : es.length ≤ 1000000) : ReadE W (some ⟨g, 0, none⟩) es.length es := by
  refine ⟨rfl, by omega, fun _ => ⟨g, 0, rfl, fun j hj => ?_⟩⟩
  obtain ⟨h1, h2⟩ := ecells_at es j hj
  rw [← hcs] at h1 h2
  rw [Array.getElem?_toList] at h1 h2
  rw [show 0 + j * 2 = j * 2 from by omega]
  exact ⟨(cell_blk hg _).trans h1, (cell_blk hg _).trans h2⟩
theorem ReadI.ofblk {W : World} {g : Nat} {t : TypeId} {cs : Array Value} (xs : List Int) (hg : W.heap[g]? = some (.cells cs t (0, 0))) (hcs : cs.toList = nums xs) (hl : xs.length ≤ 1000000) : ReadI W (some ⟨g, 0, none⟩) xs.length xs := by
  refine ⟨rfl, by omega, fun _ => ⟨g, 0, rfl, fun j hj => ?_⟩⟩
  rw [show 0 + j = j from by omega, cell_blk hg, ← Array.getElem?_toList, hcs]
  simp [nums, gi, List.getD_eq_getElem?_getD, hj]
theorem ReadE.lit (W : World) (t : TypeId) (es : List Ed) (hl : es.length ≤ 1000000) : ReadE (W.alloc (.cells (ecells es).toArray t)) (some ⟨W.heap.size, 0, none⟩) es.length es := ReadE.ofblk es (heap_alloc_new _ _) rfl hl
theorem ReadI.lit (W : World) (t : TypeId) (xs : List Int) (hl : xs.length ≤ 1000000) : ReadI (W.alloc (.cells (nums xs).toArray t)) (some ⟨W.heap.size, 0, none⟩) xs.length xs := ReadI.ofblk xs (heap_alloc_new _ _) rfl hl
theorem gi_mem {xs : List Int} {a : Nat} (h : a < xs.length) : gi xs a ∈ xs := by
  simp [gi, List.getD_eq_getElem?_getD, h]
theorem boxg (W : World) (N : Int) (A : Option Addr) (n c : Nat) : (W.alloc (gcells N A n c)).cell? ⟨W.heap.size, 0, none⟩ = some (.int .i64 N) ∧ (W.alloc (gcells N A n c)).cell? ⟨W.heap.size, 1, none⟩ = some (.slice A n c) :=
  ⟨(cell_blk (heap_alloc_new _ _) 0).trans rfl, (cell_blk (heap_alloc_new _ _) 1).trans rfl⟩
theorem later2 {W W' : World} {a b : Addr} {x y : Value} (hb : Below W.heap.size W W') (h : W.cell? a = some x ∧ W.cell? b = some y) : W'.cell? a = some x ∧ W'.cell? b = some y := ⟨cell_later hb h.1, cell_later hb h.2⟩
theorem bel_alloc (W : World) (o : Obj) : Below W.heap.size W (W.alloc o) := (Below.refl _ _).alloc (Nat.le_refl _) _
theorem bel_trans {a b c : World} (h : Below a.heap.size a b) (k : Below b.heap.size b c) : Below a.heap.size a c := below_after h h.size k
theorem readI_own {w : World} {base : Nat} {A : Option Addr} {n c : Nat} {xs : List Int} (h : OwnI w base (.slice A n c) xs) : ReadI w A xs.length xs := by
  obtain ⟨A', c', e, -, -, r⟩ := OwnI.read h
  injection e with e1 e2 e3
  subst e1
  exact r
/-- Two cells that stay, and what came later. -/
theorem RW.two {w0 W : World} {a1 a2 : Addr} {v1 v2 : Value} (h : w0.cell? a1 = some v1 ∧ w0.cell? a2 = some v2) (r : RW w0 W) : W.cell? a1 = some v1 ∧ W.cell? a2 = some v2 ∧ RW w0 W := ⟨cell_later r h.1, cell_later r h.2, r⟩
theorem blk_lt {w : World} {H : Nat} {o : Obj} (h : w.heap[H]? = some o) : H < w.heap.size := (Array.getElem?_eq_some_iff.1 h).1
theorem blk_later {w w' : World} {H : Nat} {o : Obj} (h : w.heap[H]? = some o) (g : Below w.heap.size w w') : w'.heap[H]? = some o := (g.block _ (blk_lt h)).trans h
theorem RW.grown {w0 W W1 : World} {row : Option Nat} (r : RW w0 W) (g : W.grownBy W1 row) (hr : ∀ k, row = some k → w0.heap.size ≤ k) : RW w0 W1 := Below.grown r g (Below.size r) hr
theorem RW.three {w0 W : World} {a1 a2 a3 : Addr} {v1 v2 v3 : Value} (h : w0.cell? a1 = some v1 ∧ w0.cell? a2 = some v2 ∧ w0.cell? a3 = some v3) (r : RW w0 W) : W.cell? a1 = some v1 ∧ W.cell? a2 = some v2 ∧ W.cell? a3 = some v3 ∧ RW w0 W := ⟨cell_later r h.1, cell_later r h.2.1, cell_later r h.2.2, r⟩
theorem own_alloc_d {w : World} {base e size n : Nat} {v : Value} {xs : List Value} (h : w.ownsRow base e size v n xs) (o : Obj) : (w.alloc o).drew.ownsRow base e size v n xs := row_below (own_alloc h o) ((Drawn.refl _).drew.below _)
end

section
open Go.RowKit
theorem wraps_u64' (n : Int) (h₀ : 0 ≤ n) (h₁ : n < 2 ^ 64) : IntKind.u64.wrap n = n := by rw [IntKind.wrap_u64]; omega
theorem mask32 (x : Int) (h₀ : 0 ≤ x) (h₁ : x < 4294967296) : bits .and .u64 x 4294967295 = x := by
  have := bits_mask .u64 64 (by decide) wraps_u64' 32 (by decide) x h₀ (by omega)
  rw [show ((2 : Int) ^ 32 - 1) = 4294967295 from by decide] at this
  rw [this]
  omega
theorem mul64_any (N : Nat) (hN : N ≤ 4096) (w : World) : Calls Tryz.prog 113 #[.int .u64 1, .int .u64 N] w fun e w' => e = .returned (.tuple #[.int .u64 0, .int .u64 N]) ∧ w = w' := by
  go_enter Tryz.func113, Tryz.ntmps113
  go_wp2_with fail
  go_ret2
  have m1 := mask32 1 (by omega) (by omega)
  have m2 := mask32 N (by omega) (by omega)
  have m0 := mask32 0 (by omega) (by omega)
  have d0 : (N : Int) / 4294967296 = 0 := by omega
  have wN : IntKind.u64.wrap (N : Int) = N := by rw [IntKind.wrap_u64]; omega
  have w0 : IntKind.u64.wrap 0 = 0 := by rw [IntKind.wrap_u64]; omega
  simp [m1, m2, m0, d0, wN, w0]
end

section
open Go.RowKit
theorem mul_any (N : Nat) (hN : N ≤ 4096) (w : World) : Calls Tryz.prog 78 #[.int .u64 1, .int .u64 N] w fun e w' => e = .returned (.tuple #[.int .u64 0, .int .u64 N]) ∧ w = w' := by
  go_enter Tryz.func78, Tryz.ntmps78
  go_wp2_with fail
  refine (mul64_any N hN _).mono ?_
  rintro e w' ⟨rfl, rfl⟩
  go_wp2_with fail
  go_ret2
  exact ⟨rfl, rfl⟩

/-- The first k are z, the others still zero. -/
def repK (z : Int) (N k : Nat) : List Value := List.replicate k (.int .i64 z) ++ List.replicate (N - k) (.int .i64 0)
theorem repK_length (z : Int) (N k : Nat) (h : k ≤ N) : (repK z N k).length = N := by simp [repK]; omega
theorem repK_at (z : Int) (N k j : Nat) (h : j < k) : (repK z N k)[j]? = some (.int .i64 z) := by
  unfold repK
  rw [List.getElem?_append_left (by simpa using h)]
  simp [h]
theorem repK_splice (z : Int) (N k m : Nat) (h : k + m ≤ N) : splice (repK z N k) k (List.replicate m (.int .i64 z)) = repK z N (k + m) := by
  unfold splice repK
  rw [List.take_append_of_le_length (by simp), List.take_of_length_le (by simp), List.length_replicate, List.drop_append, List.drop_of_length_le (by simp), List.nil_append, List.length_replicate, List.drop_replicate, ← List.append_assoc]
  rw [List.replicate_append_replicate]
  congr 2
  omega
theorem rep_own {W : World} {g base : Nat} {z : Int} {N : Nat} (h : W.heap[g]? = some (.cells (repK z N N).toArray 3 (0, 0))) (hb : base ≤ g) (hN : N ≤ 4096) : OwnI W base (.slice (some ⟨g, 0, none⟩) N N) (List.replicate N z) := by
  have e : repK z N N = nums (List.replicate N z) := by simp [repK, nums]
  unfold OwnI
  rw [List.length_replicate]
  refine ⟨by simp [nums], .inr ⟨g, N, (repK z N N).toArray, rfl, hb, h, Nat.le_refl _, by unfold maxLen; omega, by rw [List.size_toArray, repK_length _ _ _ (Nat.le_refl _)]; omega, ?_⟩⟩
  rw [List.take_of_length_le (by simp [repK_length])]
  simpa using e

theorem rep_cells {W : World} {g : Nat} {z : Int} {N n : Nat} (m : Nat) (h : W.heap[g]? = some (.cells (repK z N n).toArray 3 (0, 0))) (hm : m ≤ n) : ∀ j v, (List.replicate m (Value.int .i64 z))[j]? = some v → W.cell? ((⟨g, 0, none⟩ : Addr).add j) = some v := fun j v hv => by
  have hj : j < m := by
    have := (List.getElem?_eq_some_iff.1 hv).1
    simpa using this
  rw [List.getElem?_replicate, if_pos hj] at hv
  rw [addr_add, Nat.zero_add]
  refine (cell_blk h j).trans ?_
  rw [← hv]
  simpa using repK_at z N n j (by omega)

set_option maxHeartbeats 2000000 in
set_option maxRecDepth 100000 in
theorem repeat_any {b o c : Nat} (z : Int) (N : Nat) (hN : N ≤ 4096) (w : World) (h : w.cell? ⟨b, o, none⟩ = some (.int .i64 z)) :
    Calls Tryz.prog 59 #[.slice (some ⟨b, o, none⟩) 1 c, .int .i64 N] w fun e w' => ∃ v, e = .returned v ∧ OwnI w' w.heap.size v (List.replicate N z) ∧ Below w.heap.size w w' := by
  have hmk := run_make_row' 22 3 (.int .i64 0) 8 Tryz.underlying22 (by kernel_rfl) rfl .i64 .i64 N (by omega) (by omega) w
  have HSZ : Hid ((Tryz.prog.info? 3).map (·.size) = some 1) := by unfold Hid; kernel_rfl
  have hbA := bel_alloc w (.cells (madeCells #[.int .i64 0] N) 3)
  have HB0 := Lib.hid hbA
  have HC0 := Lib.hid (cell_later hbA h)
  have HG0 : Hid ((w.alloc (.cells (madeCells #[.int .i64 0] N) 3)).heap[w.heap.size]? = some (.cells (repK z N 0).toArray 3 (0, 0))) := by
    unfold Hid
    rw [heap_alloc_new, show madeCells #[Value.int .i64 0] N = (repK z N 0).toArray from by
      apply Array.toList_inj.1
      rw [toList_madeCells_one]
      simp [repK]]
  have hN0 : decide ((N : Int) < 0) = false := by rw [decide_eq_false_iff_not]; omega
  clear hbA h
  go_enter Tryz.func59, Tryz.ntmps59
  go_wp2_with fail
  refine (mul_any N hN _).mono ?_
  rintro e w' ⟨rfl, rfl⟩
  have hbig : decide (9223372036854775807 < (N : Int)) = false := by rw [decide_eq_false_iff_not]; omega
  generalize hW0 : w.alloc (.cells (madeCells #[.int .i64 0] N) 3) = w0 at *
  have HW0 := Lib.hid hW0
  clear hW0
  have HP0 : Hid (∀ j v, (List.replicate (min 1 N) (Value.int .i64 z))[j]? = some v → w0.cell? ((⟨b, o, none⟩ : Addr).add j) = some v) := fun j v hv => by
    have hj : j < min 1 N := by
      have := (List.getElem?_eq_some_iff.1 hv).1
      simpa using this
    obtain rfl : j = 0 := by omega
    rw [List.getElem?_replicate, if_pos hj] at hv
    rw [addr_add, Nat.add_zero, HC0.out]
    exact hv
  go_wp2_with (refine wpList_copy_splice rfl (.tmp 31) (.tmp 32) 22 22 rfl 3 Tryz.underlying22 HSZ.out (some ⟨w.heap.size, 0, none⟩) (some ⟨b, o, none⟩) N N 1 c rfl rfl w.heap.size 0 (repK z N 0) 3 HG0.out (List.replicate (min 1 N) (.int .i64 z)) List.length_replicate (fun _ => ⟨rfl, ⟨b, o, none⟩, rfl, HP0.out⟩) (by rw [repK_length _ _ _ (Nat.zero_le _), List.length_replicate]; omega) (fun v hv => by have e := List.eq_of_mem_replicate hv; subst e; rfl) w.heap.size w HB0.out (Nat.le_refl _) ?_; intro w2 hg2 hb2)
  have HG2 : Hid (w2.heap[w.heap.size]? = some (.cells (repK z N (min 1 N)).toArray 3 (0, 0))) := by
    have := hg2.out
    rw [repK_splice z N 0 (min 1 N) (by omega), Nat.zero_add] at this
    exact this
  have HB2 := Lib.hid hb2
  clear hg2 hb2
  clear HC0 HP0 HG0 HB0
  go_wp2_with fail
  go_loopw [8] (fun x wr => ∃ n : Nat, n ≤ N ∧ (0 < N → 0 < n) ∧ x = .int .i64 n ∧ Hid (wr.heap[w.heap.size]? = some (.cells (repK z N n).toArray 3 (0, 0))) ∧ Hid (Below w.heap.size w wr)) (fun x _ => N - (intOf x).toNat)
  case atStart => exact ⟨min 1 N, by omega, by omega, rfl, HG2, HB2⟩
  case round =>
    obtain ⟨n, hn, hn0, rfl, hg, hb⟩ := hrel
    have hn0' : N = 0 ∨ 0 < n := by omega
    clear hn0
    by_cases hlt : n < N
    · have hd : decide ((n : Int) < (N : Int)) = true := by rw [decide_eq_true_eq]; omega
      obtain ⟨ad, hA1, hA2⟩ := cut_from w.heap.size 0 N N n (n : Int) rfl (by omega) (Nat.le_refl _)
      have hcut := fun W => cut_to (some ⟨w.heap.size, 0, none⟩) N N n (n : Int) rfl (by omega) W
      obtain ⟨m, hm⟩ : ∃ m, m = min n (N - n) := ⟨_, rfl⟩
      have ew : IntKind.i64.wrap ((n : Int) + (m : Int)) = (n : Int) + (m : Int) := by rw [IntKind.wrap_i64]; omega
      have HM := Lib.hid hm
      have HAD : Hid (some ad = some ⟨w.heap.size, n, none⟩) := by
        have := hA2 hlt
        rw [Nat.zero_add] at this
        exact this
      have HGD : Hid (wr.drew.heap[w.heap.size]? = some (.cells (repK z N n).toArray 3 (0, 0))) := hg.out
      have HBD : Hid (Below w.heap.size w wr.drew) := hb.out.drew
      have HCS := Lib.hid (rep_cells m HGD.out (by omega))
      have HLT := Lib.hid hlt
      have pn : (0 : Int) ≤ (n : Int) := by omega
      clear hA2 hm hlt hg hb
      go_wp2_with fail
      go_region_law (first
        | (refine step_copy_splice rfl (.tmp 41) (.tmp 44) 22 22 rfl 3 Tryz.underlying22 HSZ.out (some ad) (some ⟨w.heap.size, 0, none⟩) (N - n) (N - n) n N (by simp [Act.eval, Act.put]) (by simp [Act.eval, Act.put]) w.heap.size n (repK z N n) 3 HGD.out (List.replicate m (.int .i64 z)) (List.length_replicate.trans HM.out) (fun _ => ⟨HAD.out, ⟨w.heap.size, 0, none⟩, rfl, HCS.out⟩) (by rw [repK_length _ _ _ (by have := HLT.out; omega), List.length_replicate]; have := HM.out; have := HLT.out; omega) (fun v hv => by have e := List.eq_of_mem_replicate hv; subst e; rfl) w.heap.size w HBD.out (Nat.le_refl _) ?_; intro w4 hg4 hb4)
        | fail)
      all_goals
        have HG4 : Hid (w4.heap[w.heap.size]? = some (.cells (repK z N (n + m)).toArray 3 (0, 0))) := by
          have := hg4.out
          rw [repK_splice z N n m (by have := HM.out; have := HLT.out; omega)] at this
          exact this
        have HB4 := Lib.hid hb4
        clear hg4 hb4
        (try go_simp)
        go_wp2_with fail
        go_roundw
        case rel => exact ⟨n + m, by have := HM.out; have := HLT.out; omega, by omega, by go_num, HG4, HB4⟩
        case measure => have := HM.out; have := HLT.out; simp [intOf]; omega
    · obtain rfl : n = N := by omega
      have hd : decide ((n : Int) < (n : Int)) = false := by rw [decide_eq_false_iff_not]; omega
      clear hlt hn
      go_wp2_with fail
      go_ret
      exact ⟨_, rfl, rep_own hg.out (Nat.le_refl _) hN, hb.out⟩
end

section
open Go.RowKit
/-- What mates.None answers. -/
def noneL (N : Int) (es : List Ed) : List Int := if rightB N es then List.replicate N.toNat (-1) else []

theorem ownI_empty (w : World) (base : Nat) : OwnI w base (.slice none 0 0) [] := ⟨rfl, .inl ⟨rfl, rfl⟩⟩

set_option maxHeartbeats 2000000 in
set_option maxRecDepth 100000 in
theorem matesNone_any {A : Option Addr} {n c : Nat} {es : List Ed} (N : Int) (w : World) (h : ReadE w A n es) :
    Calls Tryz.prog 47 #[.agg #[.int .i64 N, .slice A n c]] w fun e w' => ∃ v, e = .returned v ∧ OwnI w' w.heap.size v (noneL N es) ∧ Below w.heap.size w w' := by
  have hb1 := bel_alloc w (gcells N A n c)
  obtain ⟨x0, x1⟩ := boxg w N A n c
  have hr := gright_any (c := c) N (w.alloc (gcells N A n c)) (h.below hb1)
  have HB1 := Lib.hid hb1
  have HX := Lib.hid (And.intro x0 x1)
  clear hb1 h
  go_enter Tryz.func47, Tryz.ntmps47
  go_wp2_with fail
  refine hr.mono ?_
  rintro e w2 ⟨rfl, hb2⟩
  have HB2 := Lib.hid (bel_trans HB1.out hb2)
  have x02 := cell_later hb2 HX.out.1
  clear hb2 hr x0 x1
  cases hR : rightB N es
  · have HN : Hid (noneL N es = []) := by unfold Hid noneL; rw [hR]; rfl
    clear hR
    go_wp2_with fail
    go_ret
    rw [HN.out]
    exact ⟨_, rfl, ownI_empty _ _, HB2.out⟩
  · obtain ⟨g0, g1, -⟩ := rightB_iff.1 hR
    obtain ⟨m, rfl⟩ : ∃ m : Nat, N = m := ⟨N.toNat, by omega⟩
    have hm : m ≤ 4096 := by omega
    have HN : Hid (noneL (m : Int) es = List.replicate m (-1)) := by unfold Hid noneL; rw [hR]; simp
    have hrep := repeat_any (c := 1) (-1) m hm (w2.alloc (.cells #[.int .i64 (-1)] 3)) ((cell_blk (heap_alloc_new w2 (.cells #[.int .i64 (-1)] 3)) 0).trans rfl)
    have HBA := Lib.hid (bel_alloc w2 (.cells #[.int .i64 (-1)] 3))
    have x03 := cell_later HBA.out x02
    clear hR g0 g1
    go_wp2_with fail
    refine hrep.mono ?_
    rintro e w4 ⟨v, rfl, own, hb4⟩
    have HB4 := Lib.hid (bel_trans HB2.out (bel_trans HBA.out hb4))
    have HO := Lib.hid (row_weaken own (Nat.le_trans (Below.size HB2.out) (Below.size HBA.out)))
    clear own hb4 hrep
    go_wp2_with fail
    go_ret
    rw [HN.out]
    exact ⟨_, rfl, HO.out, HB4.out⟩
end

end Go.Proofs.YtbnipgajhpbolaaGreatDoor
