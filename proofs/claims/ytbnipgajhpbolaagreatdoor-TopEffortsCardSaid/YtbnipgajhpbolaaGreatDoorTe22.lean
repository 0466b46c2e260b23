/- The walk of forest.New -/
import Derived.Test.YtbnipgajhpbolaaGreatDoorTe21
set_option linter.unusedVariables false
set_option linter.unusedSimpArgs false
namespace Go.Proofs.YtbnipgajhpbolaaGreatDoor

section
open Go.RowKit
/-- A region whose makes may come in whatever order. -/
theorem makes_any {P : Program} {ops : Array Oper} {Q : Exit → Act → World → Prop} {md : Region.Mode} (K F0 : Nat) (ix : Nat → Nat) (A : (Nat → Value) → Act) (L : (Nat → Bool) → Array Bool) (mk : Nat → Nat → Value) (ob : Nat → Obj) (w0 : World)
    (hready : ∀ b : Nat → Bool, (∃ k, k < K ∧ b k = false) → Region.ready md ops (L b) ≠ [] ∧ ∀ i ∈ Region.ready md ops (L b), ∃ k, k < K ∧ b k = false ∧ i = ix k)
    (hstep : ∀ k, k < K → ∀ (x : Nat → Value) (W : World) (R : Act → World → Prop), RW w0 W → R (A (upd x k (mk k W.heap.size))) (W.alloc (ob k)) → wpOp P ops Q (ix k) R (A x) W)
    (hset : ∀ (b : Nat → Bool) k, k < K → (L b).setIfInBounds (ix k) true = L (upd b k true))
    (hall : ∀ b : Nat → Bool, (∀ k, k < K → b k = true) → L b = L fun _ => true)
    (hnew : ∀ k, ∀ W : World, (W.alloc (ob k)).heap[W.heap.size]? = some (ob k))
    (hfin : ∀ (x : Nat → Value) (W : World) (gg : Nat → Nat), RW w0 W → (∀ k, k < K → x k = mk k (gg k) ∧ w0.heap.size ≤ gg k ∧ W.heap[gg k]? = some (ob k)) → (∀ j k, j < K → k < K → gg j = gg k → j = k) → wpAnyH P md ops Q (fun _ => True) F0 (L fun _ => true) (A x) W) :
    ∀ (n : Nat) (b : Nat → Bool) (x : Nat → Value) (W : World) (gg : Nat → Nat), n = (sel (fun k => !b k) K).length → RW w0 W → (∀ k, k < K → b k = true → x k = mk k (gg k) ∧ w0.heap.size ≤ gg k ∧ W.heap[gg k]? = some (ob k)) → (∀ j k, j < K → k < K → b j = true → b k = true → gg j = gg k → j = k) → wpAnyH P md ops Q (fun _ => True) (F0 + n) (L b) (A x) W := by
  intro n
  induction n with
  | zero =>
    intro b x W gg hn hr h1 h2
    have hb : ∀ k, k < K → b k = true := fun k hk => by
      cases q : b k
      · have : ((k : Nat) : Int) ∈ sel (fun k => !b k) K := mem_sel.2 ⟨k, hk, by simp [q], rfl⟩
        have := List.length_pos_of_mem this
        omega
      · rfl
    rw [hall b hb]
    exact hfin x W gg hr (fun k hk => h1 k hk (hb k hk)) (fun j k hj hk => h2 j k hj hk (hb j hj) (hb k hk))
  | succ n ih =>
    intro b x W gg hn hr h1 h2
    have hex : ∃ k, k < K ∧ b k = false := by
      refine Classical.byContradiction fun q => ?_
      have e : sel (fun k => !b k) K = [] := List.eq_nil_iff_forall_not_mem.2 fun a ha => by
        obtain ⟨j, j1, j2, -⟩ := mem_sel.1 ha
        exact q ⟨j, j1, by simpa using j2⟩
      rw [e] at hn
      simp at hn
    obtain ⟨r1, r2⟩ := hready b hex
    refine ⟨fun h => absurd h r1, fun i hi => ?_⟩
    obtain ⟨k, hk, hbk, rfl⟩ := r2 i hi
    refine hstep k hk x W _ hr ⟨trivial, ?_⟩
    rw [hset b k hk]
    have hge : w0.heap.size ≤ W.heap.size := hr.size
    refine ih _ _ _ (upd gg k W.heap.size) ?_ (RW.alloc hr _) (fun j hj hbj => ?_) (fun i j hi hj hbi hbj e => ?_)
    · have e1 := sel_or (fun k => !b k) (fun j => j == k) (fun j => !(upd b k true) j) (fun j => by
        by_cases q : j = k
        · subst q; simp [hbk, upd_eq]
        · have : (j == k) = false := beq_eq_false_iff_ne.2 q
          rw [this, upd_ne _ _ q]; simp) (fun j a => by
        have : j = k := by simpa using a
        subst this
        rw [upd_eq]; rfl) K
      rw [sel_one, if_pos hk] at e1
      omega
    · by_cases q : j = k
      · subst q
        rw [upd_eq, upd_eq]
        exact ⟨rfl, hge, hnew j W⟩
      · rw [upd_ne _ _ q] at hbj
        rw [upd_ne _ _ q, upd_ne _ _ q]
        obtain ⟨a1, a2, a3⟩ := h1 j hj hbj
        exact ⟨a1, a2, by rw [heap_alloc_old _ _ (Array.getElem?_eq_some_iff.1 a3).1]; exact a3⟩
    · have lt : ∀ j, j < K → b j = true → gg j < W.heap.size := fun j hj hb => (Array.getElem?_eq_some_iff.1 (h1 j hj hb).2.2).1
      by_cases q1 : i = k
      · by_cases q2 : j = k
        · rw [q1, q2]
        · rw [upd_ne _ _ q2] at hbj e
          rw [q1, upd_eq] at e
          have := lt j hj hbj
          omega
      · rw [upd_ne _ _ q1] at hbi e
        by_cases q2 : j = k
        · rw [q2, upd_eq] at e
          have := lt i hi hbi
          omega
        · rw [upd_ne _ _ q2] at hbj e
          exact h2 i j hi hj hbi hbj e

theorem run_make_pairs (n : Nat) (hn : n ≤ 65536) (w : World) :
    (Instr.makeSlice 102 (.int .i64 (n : Int)) (.int .i64 (n : Int))).run Tryz.prog w = .ok (.slice (some ⟨w.heap.size, 0, none⟩) n n) (w.alloc (.cells (madeCells #[.int .i64 0, .int .i64 0] (n * 2)) 135)) := by
  have hinfo : (Tryz.prog.info? 135).map (fun i => (i.zero, i.size, i.bytes)) = some (some (.agg #[.int .i64 0, .int .i64 0]), 2, 16) := by kernel_rfl
  obtain ⟨i, hi, hzz⟩ := Option.map_eq_some_iff.1 hinfo
  simp only [Prod.mk.injEq] at hzz
  obtain ⟨hz, hs, hb⟩ := hzz
  have hr := run_make (P := Tryz.prog) w 102 135 i _ Tryz.underlying102 hi hz .i64 .i64 n n (by omega) (Int.le_refl _) (by rw [hb]; omega) (by omega)
  simp only [Int.toNat_natCast, hs] at hr
  exact hr

/-- The temporaries of forest.New, while it makes its columns. -/
def newA (nv mv : Value) (N : Nat) (x : Nat → Value) : Act := { tmps := #[nv, mv, undef, undef, .pointer none, .int .i64 N, undef, undef, nv, .int .i64 N, nv, mv, .int .i64 N, x 0, .int .i64 N, x 1, .int .i64 N, x 2, .int .i64 N, x 3, .int .i64 N, x 4, .int .i64 N, x 5, .int .i64 N, x 6, .int .i64 N, x 7, .int .i64 N, x 8, .int .i64 N, x 9, .int .i64 N, x 10, undef, undef, undef, undef, undef, undef, undef, undef, undef, undef, undef, undef, undef, undef, undef, undef, undef, undef, undef, undef, undef, undef, undef, undef, undef, undef, undef, undef, undef, undef, undef, undef, undef, undef, undef, undef, undef, undef, undef, undef, undef, undef, undef], defers := [] }
def newL (b : Nat → Bool) : Array Bool := #[true, true, true, b 0, true, b 1, true, b 2, true, b 3, true, b 4, true, b 5, true, b 6, true, b 7, true, b 8, true, b 9, true, b 10, false, false, false]
def newMk (N : Nat) (_ : Nat) (h : Nat) : Value := .slice (some ⟨h, 0, none⟩) N N
def newOb (N : Nat) : Nat → Obj
  | 1 => .cells (madeCells #[.bool false] N) 4
  | 7 => .cells (madeCells #[.bool false] N) 4
  | 6 => .cells (madeCells #[.int .i64 0, .int .i64 0] (N * 2)) 135
  | _ => .cells (madeCells #[.int .i64 0] N) 3
theorem newL_all (b : Nat → Bool) (h : ∀ k, k < 11 → b k = true) : newL b = newL fun _ => true := by
  unfold newL
  rw [h 0 (by omega), h 1 (by omega), h 2 (by omega), h 3 (by omega), h 4 (by omega), h 5 (by omega), h 6 (by omega), h 7 (by omega), h 8 (by omega), h 9 (by omega), h 10 (by omega)]
theorem newL_set (b : Nat → Bool) (k : Nat) (hk : k < 11) : (newL b).setIfInBounds (3 + 2 * k) true = newL (upd b k true) := by
  rcases (show k = 0 ∨ k = 1 ∨ k = 2 ∨ k = 3 ∨ k = 4 ∨ k = 5 ∨ k = 6 ∨ k = 7 ∨ k = 8 ∨ k = 9 ∨ k = 10 by omega) with rfl | rfl | rfl | rfl | rfl | rfl | rfl | rfl | rfl | rfl | rfl
  all_goals rfl

theorem made_col {W : World} {G N : Nat} {z : Value} {t : TypeId} (h : W.heap[G]? = some (.cells (madeCells #[z] N) t)) : Col W G t N fun _ => z :=
  ⟨_, h, size_madeCells _ _, fun v hv => by simp [madeCells, hv, Nat.mod_one]⟩
theorem made_col2 {W : World} {G N : Nat} {t : TypeId} (h : W.heap[G]? = some (.cells (madeCells #[.int .i64 0, .int .i64 0] (N * 2)) t)) : Col2 W G t N (fun _ => 0) fun _ => 0 := by
  have key : ∀ j, j < N * 2 → (madeCells #[.int .i64 0, .int .i64 0] (N * 2))[j]? = some (.int .i64 0) := fun j hj => by
    have h2 : j % 2 = 0 ∨ j % 2 = 1 := by omega
    rcases h2 with h2 | h2 <;> simp [madeCells, hj, h2]
  exact ⟨_, h, size_madeCells _ _, fun v hv => ⟨key _ (by omega), key _ (by omega)⟩⟩
/-- A forest of which nothing is known. -/
def fm0 : Fm := ⟨fun _ => 0, fun _ => false, fun _ => 0, fun _ => 0, fun _ => 0, fun _ => 0, fun _ => 0, fun _ => 0, fun _ => false, fun _ => 0, fun _ => 0, fun _ => 0, 0, .slice none 0 0, [], 0⟩
theorem fw_new {base N : Nat} {nv mv : Value} {W : World} {gg : Nat → Nat} (hb : base ≤ W.heap.size) (h1 : ∀ k, k < 11 → base ≤ gg k ∧ W.heap[gg k]? = some (newOb N k)) (h2 : ∀ j k, j < 11 → k < 11 → gg j = gg k → j = k) :
    FW base N W.heap.size (fun k => gg (k - 2)) nv mv fm0 (W.alloc (.cells #[nv, mv, .slice (some ⟨gg 0, 0, none⟩) N N, .slice (some ⟨gg 1, 0, none⟩) N N, .slice (some ⟨gg 2, 0, none⟩) N N, .slice (some ⟨gg 3, 0, none⟩) N N, .slice (some ⟨gg 4, 0, none⟩) N N, .slice (some ⟨gg 5, 0, none⟩) N N, .slice (some ⟨gg 6, 0, none⟩) N N, .slice (some ⟨gg 7, 0, none⟩) N N, .slice (some ⟨gg 8, 0, none⟩) N N, .slice (some ⟨gg 9, 0, none⟩) N N, .slice (some ⟨gg 10, 0, none⟩) N N, .int .i64 0, .slice none 0 0, .int .i64 0] 107)) := by
  have lt : ∀ k, k < 11 → gg k < W.heap.size := fun k hk => (Array.getElem?_eq_some_iff.1 (h1 k hk).2).1
  have h1 : ∀ k, k < 11 → base ≤ gg k ∧ (W.alloc (.cells #[nv, mv, .slice (some ⟨gg 0, 0, none⟩) N N, .slice (some ⟨gg 1, 0, none⟩) N N, .slice (some ⟨gg 2, 0, none⟩) N N, .slice (some ⟨gg 3, 0, none⟩) N N, .slice (some ⟨gg 4, 0, none⟩) N N, .slice (some ⟨gg 5, 0, none⟩) N N, .slice (some ⟨gg 6, 0, none⟩) N N, .slice (some ⟨gg 7, 0, none⟩) N N, .slice (some ⟨gg 8, 0, none⟩) N N, .slice (some ⟨gg 9, 0, none⟩) N N, .slice (some ⟨gg 10, 0, none⟩) N N, .int .i64 0, .slice none 0 0, .int .i64 0] 107)).heap[gg k]? = some (newOb N k) := fun k hk => ⟨(h1 k hk).1, by rw [heap_alloc_old _ _ (lt k hk)]; exact (h1 k hk).2⟩
  refine ⟨hb, heap_alloc_new _ _, fun k a b => ⟨(h1 (k - 2) (by omega)).1, by have := lt (k - 2) (by omega); show gg (k - 2) ≠ _; omega⟩, fun j k a b c d e => by have := h2 (j - 2) (k - 2) (by omega) (by omega) e; omega, made_col (h1 0 (by decide)).2, made_col (h1 1 (by decide)).2, made_col (h1 2 (by decide)).2, made_col (h1 3 (by decide)).2, made_col (h1 4 (by decide)).2, made_col (h1 5 (by decide)).2, made_col (h1 7 (by decide)).2, made_col (h1 8 (by decide)).2, made_col (h1 9 (by decide)).2, made_col (h1 10 (by decide)).2, made_col2 (h1 6 (by decide)).2, QI.nil _ _, fun q e => by cases e⟩
/-- How far New has come. -/
def NewI (N : Nat) (mt : Nat → Int) (s : Fm) (k : Nat) : Prop :=
  (∀ v, v < k → s.up v = v ∧ s.ba v = v ∧ (mt v = -1 → s.rt v = v ∧ s.ou v = true ∧ s.lab v = 1) ∧ (mt v ≠ -1 → s.rt v = -1 ∧ s.ou v = false ∧ s.lab v = 0)) ∧ (∀ v, k ≤ v → s.ou v = false ∧ s.lab v = 0) ∧ (∀ z, s.gn z = false ∧ s.ma z = 0) ∧ s.tu = 0 ∧ s.lk = 0 ∧ s.wl = sel (fun v => mt v == -1) k


set_option maxHeartbeats 16000000 in
set_option maxRecDepth 100000 in
theorem fnew_any {A : Option Addr} {N c : Nat} {M : Option Addr} {mc : Nat} (mt : Nat → Int) (w : World) (hN : N ≤ 65536) (hm : MR w.heap.size N (.slice M N mc) mt w) :
    Calls Tryz.prog 51 #[.slice A N c, .slice M N mc] w fun e w' => ∃ F g s, e = .returned (.pointer (some ⟨F, 0, none⟩)) ∧ FW w.heap.size N F g (.slice A N c) (.slice M N mc) s w' ∧ NewI N mt s N ∧ Below w.heap.size w w' := by
  have HM := Lib.hid hm
  go_enter Tryz.func51, Tryz.ntmps51
  go_wp2_with fail
  refine wp_region_held_drew (S := fun _ => True) (by kernel_rfl) trivial (fun hHeld => ?_)
  refine wpAnyH_take (i := 0) (oi := ?oiz901x0) (v := ?vz901x0) ?hiz901x0 (by kernel_rfl) (by kernel_rfl) (by kernel_rfl) ?hQz901x0 ?hyz901x0 (by assumption) ?restz901x0
  case hiz901x0 => first | (simp only [List.getElem?_toArray, List.getElem?_cons_zero, List.getElem?_cons_succ]; rfl) | rfl
  case hQz901x0 => exact fun _ _ _ h => h
  case hyz901x0 => (refine Or.inl ⟨by rfl, ?_⟩; intro w hSw; (try dsimp only at hSw); go_simp; (try with_reducible rfl))
  simp only [Act.put, List.setIfInBounds_toArray, List.set_cons_zero, List.set_cons_succ]
  refine wpAnyH_take (i := 1) (oi := ?oiz902x1) (v := ?vz902x1) ?hiz902x1 (by kernel_rfl) (by kernel_rfl) (by kernel_rfl) ?hQz902x1 ?hyz902x1 (by assumption) ?restz902x1
  case hiz902x1 => first | (simp only [List.getElem?_toArray, List.getElem?_cons_zero, List.getElem?_cons_succ]; rfl) | rfl
  case hQz902x1 => exact fun _ _ _ h => h
  case hyz902x1 => (refine Or.inl ⟨by rfl, ?_⟩; intro w hSw; (try dsimp only at hSw); go_simp; (try with_reducible rfl))
  simp only [Act.put, List.setIfInBounds_toArray, List.set_cons_zero, List.set_cons_succ]
  refine wpAnyH_take (i := 2) (oi := ?oiz903x2) (v := ?vz903x2) ?hiz903x2 (by kernel_rfl) (by kernel_rfl) (by kernel_rfl) ?hQz903x2 ?hyz903x2 (by assumption) ?restz903x2
  case hiz903x2 => first | (simp only [List.getElem?_toArray, List.getElem?_cons_zero, List.getElem?_cons_succ]; rfl) | rfl
  case hQz903x2 => exact fun _ _ _ h => h
  case hyz903x2 => (refine Or.inl ⟨by rfl, ?_⟩; intro w hSw; (try dsimp only at hSw); go_simp; (try with_reducible rfl))
  simp only [Act.put, List.setIfInBounds_toArray, List.set_cons_zero, List.set_cons_succ]
  refine wpAnyH_take (i := 4) (oi := ?oiz904x4) (v := ?vz904x4) ?hiz904x4 (by kernel_rfl) (by kernel_rfl) (by kernel_rfl) ?hQz904x4 ?hyz904x4 (by assumption) ?restz904x4
  case hiz904x4 => first | (simp only [List.getElem?_toArray, List.getElem?_cons_zero, List.getElem?_cons_succ]; rfl) | rfl
  case hQz904x4 => exact fun _ _ _ h => h
  case hyz904x4 => (refine Or.inl ⟨by rfl, ?_⟩; intro w hSw; (try dsimp only at hSw); go_simp; (try with_reducible rfl))
  simp only [Act.put, List.setIfInBounds_toArray, List.set_cons_zero, List.set_cons_succ]
  refine wpAnyH_take (i := 6) (oi := ?oiz905x6) (v := ?vz905x6) ?hiz905x6 (by kernel_rfl) (by kernel_rfl) (by kernel_rfl) ?hQz905x6 ?hyz905x6 (by assumption) ?restz905x6
  case hiz905x6 => first | (simp only [List.getElem?_toArray, List.getElem?_cons_zero, List.getElem?_cons_succ]; rfl) | rfl
  case hQz905x6 => exact fun _ _ _ h => h
  case hyz905x6 => (refine Or.inl ⟨by rfl, ?_⟩; intro w hSw; (try dsimp only at hSw); go_simp; (try with_reducible rfl))
  simp only [Act.put, List.setIfInBounds_toArray, List.set_cons_zero, List.set_cons_succ]
  refine wpAnyH_take (i := 8) (oi := ?oiz906x8) (v := ?vz906x8) ?hiz906x8 (by kernel_rfl) (by kernel_rfl) (by kernel_rfl) ?hQz906x8 ?hyz906x8 (by assumption) ?restz906x8
  case hiz906x8 => first | (simp only [List.getElem?_toArray, List.getElem?_cons_zero, List.getElem?_cons_succ]; rfl) | rfl
  case hQz906x8 => exact fun _ _ _ h => h
  case hyz906x8 => (refine Or.inl ⟨by rfl, ?_⟩; intro w hSw; (try dsimp only at hSw); go_simp; (try with_reducible rfl))
  simp only [Act.put, List.setIfInBounds_toArray, List.set_cons_zero, List.set_cons_succ]
  refine wpAnyH_take (i := 10) (oi := ?oiz907x10) (v := ?vz907x10) ?hiz907x10 (by kernel_rfl) (by kernel_rfl) (by kernel_rfl) ?hQz907x10 ?hyz907x10 (by assumption) ?restz907x10
  case hiz907x10 => first | (simp only [List.getElem?_toArray, List.getElem?_cons_zero, List.getElem?_cons_succ]; rfl) | rfl
  case hQz907x10 => exact fun _ _ _ h => h
  case hyz907x10 => (refine Or.inl ⟨by rfl, ?_⟩; intro w hSw; (try dsimp only at hSw); go_simp; (try with_reducible rfl))
  simp only [Act.put, List.setIfInBounds_toArray, List.set_cons_zero, List.set_cons_succ]
  refine wpAnyH_take (i := 12) (oi := ?oiz908x12) (v := ?vz908x12) ?hiz908x12 (by kernel_rfl) (by kernel_rfl) (by kernel_rfl) ?hQz908x12 ?hyz908x12 (by assumption) ?restz908x12
  case hiz908x12 => first | (simp only [List.getElem?_toArray, List.getElem?_cons_zero, List.getElem?_cons_succ]; rfl) | rfl
  case hQz908x12 => exact fun _ _ _ h => h
  case hyz908x12 => (refine Or.inl ⟨by rfl, ?_⟩; intro w hSw; (try dsimp only at hSw); go_simp; (try with_reducible rfl))
  simp only [Act.put, List.setIfInBounds_toArray, List.set_cons_zero, List.set_cons_succ]
  refine wpAnyH_take (i := 14) (oi := ?oiz909x14) (v := ?vz909x14) ?hiz909x14 (by kernel_rfl) (by kernel_rfl) (by kernel_rfl) ?hQz909x14 ?hyz909x14 (by assumption) ?restz909x14
  case hiz909x14 => first | (simp only [List.getElem?_toArray, List.getElem?_cons_zero, List.getElem?_cons_succ]; rfl) | rfl
  case hQz909x14 => exact fun _ _ _ h => h
  case hyz909x14 => (refine Or.inl ⟨by rfl, ?_⟩; intro w hSw; (try dsimp only at hSw); go_simp; (try with_reducible rfl))
  simp only [Act.put, List.setIfInBounds_toArray, List.set_cons_zero, List.set_cons_succ]
  refine wpAnyH_take (i := 16) (oi := ?oiz910x16) (v := ?vz910x16) ?hiz910x16 (by kernel_rfl) (by kernel_rfl) (by kernel_rfl) ?hQz910x16 ?hyz910x16 (by assumption) ?restz910x16
  case hiz910x16 => first | (simp only [List.getElem?_toArray, List.getElem?_cons_zero, List.getElem?_cons_succ]; rfl) | rfl
  case hQz910x16 => exact fun _ _ _ h => h
  case hyz910x16 => (refine Or.inl ⟨by rfl, ?_⟩; intro w hSw; (try dsimp only at hSw); go_simp; (try with_reducible rfl))
  simp only [Act.put, List.setIfInBounds_toArray, List.set_cons_zero, List.set_cons_succ]
  refine wpAnyH_take (i := 18) (oi := ?oiz911x18) (v := ?vz911x18) ?hiz911x18 (by kernel_rfl) (by kernel_rfl) (by kernel_rfl) ?hQz911x18 ?hyz911x18 (by assumption) ?restz911x18
  case hiz911x18 => first | (simp only [List.getElem?_toArray, List.getElem?_cons_zero, List.getElem?_cons_succ]; rfl) | rfl
  case hQz911x18 => exact fun _ _ _ h => h
  case hyz911x18 => (refine Or.inl ⟨by rfl, ?_⟩; intro w hSw; (try dsimp only at hSw); go_simp; (try with_reducible rfl))
  simp only [Act.put, List.setIfInBounds_toArray, List.set_cons_zero, List.set_cons_succ]
  refine wpAnyH_take (i := 20) (oi := ?oiz912x20) (v := ?vz912x20) ?hiz912x20 (by kernel_rfl) (by kernel_rfl) (by kernel_rfl) ?hQz912x20 ?hyz912x20 (by assumption) ?restz912x20
  case hiz912x20 => first | (simp only [List.getElem?_toArray, List.getElem?_cons_zero, List.getElem?_cons_succ]; rfl) | rfl
  case hQz912x20 => exact fun _ _ _ h => h
  case hyz912x20 => (refine Or.inl ⟨by rfl, ?_⟩; intro w hSw; (try dsimp only at hSw); go_simp; (try with_reducible rfl))
  simp only [Act.put, List.setIfInBounds_toArray, List.set_cons_zero, List.set_cons_succ]
  refine wpAnyH_take (i := 22) (oi := ?oiz913x22) (v := ?vz913x22) ?hiz913x22 (by kernel_rfl) (by kernel_rfl) (by kernel_rfl) ?hQz913x22 ?hyz913x22 (by assumption) ?restz913x22
  case hiz913x22 => first | (simp only [List.getElem?_toArray, List.getElem?_cons_zero, List.getElem?_cons_succ]; rfl) | rfl
  case hQz913x22 => exact fun _ _ _ h => h
  case hyz913x22 => (refine Or.inl ⟨by rfl, ?_⟩; intro w hSw; (try dsimp only at hSw); go_simp; (try with_reducible rfl))
  simp only [Act.put, List.setIfInBounds_toArray, List.set_cons_zero, List.set_cons_succ]
  refine makes_any 11 3 (fun k => 3 + 2 * k) (newA (.slice A N c) (.slice M N mc) N) newL (newMk N) (newOb N) w.drew ?hready ?hstep newL_set newL_all (fun _ _ => heap_alloc_new _ _) ?hfin 11 (fun _ => false) (fun _ => undef) _ (fun _ => 0) (by decide) (RW.refl _) (fun _ _ h => by cases h) (fun _ _ _ _ h => by cases h)
  case hready =>
    intro b hex
    refine ⟨?_, fun i hi => ?_⟩
    · obtain ⟨k, hk, hb⟩ := hex
      rcases (show k = 0 ∨ k = 1 ∨ k = 2 ∨ k = 3 ∨ k = 4 ∨ k = 5 ∨ k = 6 ∨ k = 7 ∨ k = 8 ∨ k = 9 ∨ k = 10 by omega) with rfl | rfl | rfl | rfl | rfl | rfl | rfl | rfl | rfl | rfl | rfl
      · refine List.ne_nil_of_mem (a := 3) (mem_ready.2 ⟨hb, _, rfl, fun e he _ => ?_⟩); change e ∈ #[_, _] at he; simp only [List.mem_toArray, List.mem_cons, List.not_mem_nil, or_false] at he; rcases he with rfl | rfl <;> rfl
      · refine List.ne_nil_of_mem (a := 5) (mem_ready.2 ⟨hb, _, rfl, fun e he _ => ?_⟩); change e ∈ #[_, _] at he; simp only [List.mem_toArray, List.mem_cons, List.not_mem_nil, or_false] at he; rcases he with rfl | rfl <;> rfl
      · refine List.ne_nil_of_mem (a := 7) (mem_ready.2 ⟨hb, _, rfl, fun e he _ => ?_⟩); change e ∈ #[_, _] at he; simp only [List.mem_toArray, List.mem_cons, List.not_mem_nil, or_false] at he; rcases he with rfl | rfl <;> rfl
      · refine List.ne_nil_of_mem (a := 9) (mem_ready.2 ⟨hb, _, rfl, fun e he _ => ?_⟩); change e ∈ #[_, _] at he; simp only [List.mem_toArray, List.mem_cons, List.not_mem_nil, or_false] at he; rcases he with rfl | rfl <;> rfl
      · refine List.ne_nil_of_mem (a := 11) (mem_ready.2 ⟨hb, _, rfl, fun e he _ => ?_⟩); change e ∈ #[_, _] at he; simp only [List.mem_toArray, List.mem_cons, List.not_mem_nil, or_false] at he; rcases he with rfl | rfl <;> rfl
      · refine List.ne_nil_of_mem (a := 13) (mem_ready.2 ⟨hb, _, rfl, fun e he _ => ?_⟩); change e ∈ #[_, _] at he; simp only [List.mem_toArray, List.mem_cons, List.not_mem_nil, or_false] at he; rcases he with rfl | rfl <;> rfl
      · refine List.ne_nil_of_mem (a := 15) (mem_ready.2 ⟨hb, _, rfl, fun e he _ => ?_⟩); change e ∈ #[_, _] at he; simp only [List.mem_toArray, List.mem_cons, List.not_mem_nil, or_false] at he; rcases he with rfl | rfl <;> rfl
      · refine List.ne_nil_of_mem (a := 17) (mem_ready.2 ⟨hb, _, rfl, fun e he _ => ?_⟩); change e ∈ #[_, _] at he; simp only [List.mem_toArray, List.mem_cons, List.not_mem_nil, or_false] at he; rcases he with rfl | rfl <;> rfl
      · refine List.ne_nil_of_mem (a := 19) (mem_ready.2 ⟨hb, _, rfl, fun e he _ => ?_⟩); change e ∈ #[_, _] at he; simp only [List.mem_toArray, List.mem_cons, List.not_mem_nil, or_false] at he; rcases he with rfl | rfl <;> rfl
      · refine List.ne_nil_of_mem (a := 21) (mem_ready.2 ⟨hb, _, rfl, fun e he _ => ?_⟩); change e ∈ #[_, _] at he; simp only [List.mem_toArray, List.mem_cons, List.not_mem_nil, or_false] at he; rcases he with rfl | rfl <;> rfl
      · refine List.ne_nil_of_mem (a := 23) (mem_ready.2 ⟨hb, _, rfl, fun e he _ => ?_⟩); change e ∈ #[_, _] at he; simp only [List.mem_toArray, List.mem_cons, List.not_mem_nil, or_false] at he; rcases he with rfl | rfl <;> rfl
    · obtain ⟨h1, o, h2, h3⟩ := mem_ready.1 hi
      have hi27 : i < 27 := Classical.byContradiction fun q => by
        rw [Array.getD_eq_getD_getElem?, Array.getElem?_eq_none (by show 27 ≤ i; omega)] at h1
        cases h1
      have no : ∀ e ∈ o.after, Region.binds Region.Mode.any e = true → (newL b).getD e.on false = true := h3
      rcases (show i = 0 ∨ i = 1 ∨ i = 2 ∨ i = 3 ∨ i = 4 ∨ i = 5 ∨ i = 6 ∨ i = 7 ∨ i = 8 ∨ i = 9 ∨ i = 10 ∨ i = 11 ∨ i = 12 ∨ i = 13 ∨ i = 14 ∨ i = 15 ∨ i = 16 ∨ i = 17 ∨ i = 18 ∨ i = 19 ∨ i = 20 ∨ i = 21 ∨ i = 22 ∨ i = 23 ∨ i = 24 ∨ i = 25 ∨ i = 26 by omega) with rfl | rfl | rfl | rfl | rfl | rfl | rfl | rfl | rfl | rfl | rfl | rfl | rfl | rfl | rfl | rfl | rfl | rfl | rfl | rfl | rfl | rfl | rfl | rfl | rfl | rfl | rfl
      · exact absurd (show true = false from h1) (by decide)
      · exact absurd (show true = false from h1) (by decide)
      · exact absurd (show true = false from h1) (by decide)
      · exact ⟨0, by omega, h1, rfl⟩
      · exact absurd (show true = false from h1) (by decide)
      · exact ⟨1, by omega, h1, rfl⟩
      · exact absurd (show true = false from h1) (by decide)
      · exact ⟨2, by omega, h1, rfl⟩
      · exact absurd (show true = false from h1) (by decide)
      · exact ⟨3, by omega, h1, rfl⟩
      · exact absurd (show true = false from h1) (by decide)
      · exact ⟨4, by omega, h1, rfl⟩
      · exact absurd (show true = false from h1) (by decide)
      · exact ⟨5, by omega, h1, rfl⟩
      · exact absurd (show true = false from h1) (by decide)
      · exact ⟨6, by omega, h1, rfl⟩
      · exact absurd (show true = false from h1) (by decide)
      · exact ⟨7, by omega, h1, rfl⟩
      · exact absurd (show true = false from h1) (by decide)
      · exact ⟨8, by omega, h1, rfl⟩
      · exact absurd (show true = false from h1) (by decide)
      · exact ⟨9, by omega, h1, rfl⟩
      · exact absurd (show true = false from h1) (by decide)
      · exact ⟨10, by omega, h1, rfl⟩
      · exfalso; cases h2; obtain ⟨k, hk, hb⟩ := hex; rcases (show k = 0 ∨ k = 1 ∨ k = 2 ∨ k = 3 ∨ k = 4 ∨ k = 5 ∨ k = 6 ∨ k = 7 ∨ k = 8 ∨ k = 9 ∨ k = 10 by omega) with rfl | rfl | rfl | rfl | rfl | rfl | rfl | rfl | rfl | rfl | rfl
        · have := no _ (Array.mem_of_getElem? (i := 2) rfl) (by rfl); rw [show (newL b).getD _ false = b 0 from rfl, hb] at this; cases this
        · have := no _ (Array.mem_of_getElem? (i := 3) rfl) (by rfl); rw [show (newL b).getD _ false = b 1 from rfl, hb] at this; cases this
        · have := no _ (Array.mem_of_getElem? (i := 4) rfl) (by rfl); rw [show (newL b).getD _ false = b 2 from rfl, hb] at this; cases this
        · have := no _ (Array.mem_of_getElem? (i := 5) rfl) (by rfl); rw [show (newL b).getD _ false = b 3 from rfl, hb] at this; cases this
        · have := no _ (Array.mem_of_getElem? (i := 6) rfl) (by rfl); rw [show (newL b).getD _ false = b 4 from rfl, hb] at this; cases this
        · have := no _ (Array.mem_of_getElem? (i := 7) rfl) (by rfl); rw [show (newL b).getD _ false = b 5 from rfl, hb] at this; cases this
        · have := no _ (Array.mem_of_getElem? (i := 8) rfl) (by rfl); rw [show (newL b).getD _ false = b 6 from rfl, hb] at this; cases this
        · have := no _ (Array.mem_of_getElem? (i := 9) rfl) (by rfl); rw [show (newL b).getD _ false = b 7 from rfl, hb] at this; cases this
        · have := no _ (Array.mem_of_getElem? (i := 10) rfl) (by rfl); rw [show (newL b).getD _ false = b 8 from rfl, hb] at this; cases this
        · have := no _ (Array.mem_of_getElem? (i := 11) rfl) (by rfl); rw [show (newL b).getD _ false = b 9 from rfl, hb] at this; cases this
        · have := no _ (Array.mem_of_getElem? (i := 12) rfl) (by rfl); rw [show (newL b).getD _ false = b 10 from rfl, hb] at this; cases this
      · exfalso; cases h2; have := no _ (Array.mem_of_getElem? (i := 0) rfl) (by rfl); exact absurd (show false = true from this) (by decide)
      · exfalso; cases h2; have := no _ (Array.mem_of_getElem? (i := 0) rfl) (by rfl); exact absurd (show false = true from this) (by decide)
  case hstep =>
    intro k hk x W R hr hR
    have hmkI := run_make_row' 22 3 (.int .i64 0) 8 Tryz.underlying22 (by kernel_rfl) rfl .i64 .i64 N (by omega) (by omega) W
    have hmkB := run_make_row' 68 4 (.bool false) 1 Tryz.underlying68 (by kernel_rfl) rfl .i64 .i64 N (by omega) (by omega) W
    have hmkP := run_make_pairs N hN W
    clear hr hm
    rcases (show k = 0 ∨ k = 1 ∨ k = 2 ∨ k = 3 ∨ k = 4 ∨ k = 5 ∨ k = 6 ∨ k = 7 ∨ k = 8 ∨ k = 9 ∨ k = 10 by omega) with rfl | rfl | rfl | rfl | rfl | rfl | rfl | rfl | rfl | rfl | rfl
    all_goals
      unfold newA
      refine wpOp_step rfl (fun K' hK => ?_)
      go_simp
      exact hK _ _ hR
  case hfin =>
    intro x W gg hr h1 h2
    have hfw := fw_new (base := w.heap.size) (N := N) (nv := .slice A N c) (mv := .slice M N mc) (W := W) (gg := gg) hr.size (fun k hk => (h1 k hk).2) h2
    have e0 : x 0 = .slice (some ⟨gg 0, 0, none⟩) N N := (h1 0 (by decide)).1
    have e1 : x 1 = .slice (some ⟨gg 1, 0, none⟩) N N := (h1 1 (by decide)).1
    have e2 : x 2 = .slice (some ⟨gg 2, 0, none⟩) N N := (h1 2 (by decide)).1
    have e3 : x 3 = .slice (some ⟨gg 3, 0, none⟩) N N := (h1 3 (by decide)).1
    have e4 : x 4 = .slice (some ⟨gg 4, 0, none⟩) N N := (h1 4 (by decide)).1
    have e5 : x 5 = .slice (some ⟨gg 5, 0, none⟩) N N := (h1 5 (by decide)).1
    have e6 : x 6 = .slice (some ⟨gg 6, 0, none⟩) N N := (h1 6 (by decide)).1
    have e7 : x 7 = .slice (some ⟨gg 7, 0, none⟩) N N := (h1 7 (by decide)).1
    have e8 : x 8 = .slice (some ⟨gg 8, 0, none⟩) N N := (h1 8 (by decide)).1
    have e9 : x 9 = .slice (some ⟨gg 9, 0, none⟩) N N := (h1 9 (by decide)).1
    have e10 : x 10 = .slice (some ⟨gg 10, 0, none⟩) N N := (h1 10 (by decide)).1
    have HBW : Hid (Below w.heap.size w (W.alloc (.cells #[.slice A N c, .slice M N mc, .slice (some ⟨gg 0, 0, none⟩) N N, .slice (some ⟨gg 1, 0, none⟩) N N, .slice (some ⟨gg 2, 0, none⟩) N N, .slice (some ⟨gg 3, 0, none⟩) N N, .slice (some ⟨gg 4, 0, none⟩) N N, .slice (some ⟨gg 5, 0, none⟩) N N, .slice (some ⟨gg 6, 0, none⟩) N N, .slice (some ⟨gg 7, 0, none⟩) N N, .slice (some ⟨gg 8, 0, none⟩) N N, .slice (some ⟨gg 9, 0, none⟩) N N, .slice (some ⟨gg 10, 0, none⟩) N N, .int .i64 0, .slice none 0 0, .int .i64 0] 107))) := RW.later (RW.refl w).drew (RW.later hr (bel_alloc W _))
    unfold newA newL
    rw [e0, e1, e2, e3, e4, e5, e6, e7, e8, e9, e10]
    have HFW := Lib.hid hfw
    clear hfw h1 h2 hr hm e0 e1 e2 e3 e4 e5 e6 e7 e8 e9 e10
    refine wpAnyH_take (i := 24) (oi := ?oiz914x24) (v := ?vz914x24) ?hiz914x24 (by kernel_rfl) (by kernel_rfl) (by kernel_rfl) ?hQz914x24 ?hyz914x24 (by assumption) ?restz914x24
    case hiz914x24 => first | (simp only [List.getElem?_toArray, List.getElem?_cons_zero, List.getElem?_cons_succ]; rfl) | rfl
    case hQz914x24 => exact fun _ _ _ h => h
    case hyz914x24 => (refine Or.inl ⟨by rfl, ?_⟩; intro w hSw; (try dsimp only at hSw); go_simp; (try with_reducible rfl))
    simp only [Act.put, List.setIfInBounds_toArray, List.set_cons_zero, List.set_cons_succ]
    refine wpAnyH_ready (rs := [25]) (by kernel_rfl) (by simp) ?_
    refine AllReadyH.cons rfl (fun K hK => ?_) AllReadyH.nil
    go_simp
    refine hK.out _ _ trivial (fun hHeld => ?_)
    clear hK K
    (try simp only [Act.put, List.setIfInBounds_toArray, List.set_cons_zero, List.set_cons_succ])
    refine wpAnyH_take (i := 26) (oi := ?oiz915x26) (v := ?vz915x26) ?hiz915x26 (by kernel_rfl) (by kernel_rfl) (by kernel_rfl) ?hQz915x26 ?hyz915x26 (by assumption) ?restz915x26
    case hiz915x26 => first | (simp only [List.getElem?_toArray, List.getElem?_cons_zero, List.getElem?_cons_succ]; rfl) | rfl
    case hQz915x26 => exact fun _ _ _ h => h
    case hyz915x26 => (refine Or.inl ⟨by rfl, ?_⟩; intro w hSw; (try dsimp only at hSw); go_simp; (try with_reducible rfl))
    simp only [Act.put, List.setIfInBounds_toArray, List.set_cons_zero, List.set_cons_succ]
    refine wpAnyH_done (by kernel_rfl) ?_ _
    generalize W.alloc (.cells #[.slice A N c, .slice M N mc, .slice (some ⟨gg 0, 0, none⟩) N N, .slice (some ⟨gg 1, 0, none⟩) N N, .slice (some ⟨gg 2, 0, none⟩) N N, .slice (some ⟨gg 3, 0, none⟩) N N, .slice (some ⟨gg 4, 0, none⟩) N N, .slice (some ⟨gg 5, 0, none⟩) N N, .slice (some ⟨gg 6, 0, none⟩) N N, .slice (some ⟨gg 7, 0, none⟩) N N, .slice (some ⟨gg 8, 0, none⟩) N N, .slice (some ⟨gg 9, 0, none⟩) N N, .slice (some ⟨gg 10, 0, none⟩) N N, .int .i64 0, .slice none 0 0, .int .i64 0] 107) = w2 at *
    generalize W.heap.size = F at *
    generalize (fun k => gg (k - 2)) = g at *
    have HN0 : Hid (∃ s, FW w.heap.size N F g (.slice A N c) (.slice M N mc) s w2 ∧ NewI N mt s 0) := ⟨fm0, HFW.out, fun v hv => absurd hv (by omega), fun v _ => ⟨rfl, rfl⟩, fun z => ⟨rfl, rfl⟩, rfl, rfl, rfl⟩
    clear HFW
    go_wp2_with fail
    go_loopw [7, 37] (fun _ i wr => ∃ k : Nat, k ≤ N ∧ i = .int .i64 k ∧ Hid (∃ s, FW w.heap.size N F g (.slice A N c) (.slice M N mc) s wr ∧ NewI N mt s k) ∧ Hid (Below w.heap.size w wr)) (fun _ i _ => N - (intOf i).toNat)
    case atStart => exact ⟨0, Nat.zero_le _, rfl, HN0, HBW⟩
    case round =>
      obtain ⟨k, hk, rfl, hn, hb⟩ := hrel
      by_cases hlt : k < N
      · have HLT := Lib.hid hlt
        obtain ⟨s, hf, hni⟩ := hn.out
        have HNI := Lib.hid hni
        have hki : (0 : Int) ≤ (k : Int) ∧ (k : Int) < (N : Int) := by omega
        have p1 := hf.put_up k (k : Int)
        have p2 := p1.put_ba k (k : Int)
        have p3 := p2.put_rt k (-1)
        have k1 := hf.c_up hlt
        have f1 := hf.up.froz k
        have k2 := p1.c_ba hlt
        have f2 := p1.ba.froz k
        have f2' := hf.ba.froz k
        have k3 := p2.c_rt hlt
        have f3 := p2.rt.froz k
        have f3' := hf.rt.froz k
        dsimp only at k2 k3
        have S0 : Hid (wr.drew.cell? ⟨F, 10, none⟩ = some (.slice (some ⟨g 10, 0, none⟩) N N) ∧ wr.drew.cell? ⟨F, 11, none⟩ = some (.slice (some ⟨g 11, 0, none⟩) N N) ∧ wr.drew.cell? ⟨F, 7, none⟩ = some (.slice (some ⟨g 7, 0, none⟩) N N)) := ⟨hf.h10, hf.h11, hf.h7⟩
        have S1 : Hid ((wr.setCell ⟨g 10, k, none⟩ (.int .i64 k)).drew.cell? ⟨F, 10, none⟩ = some (.slice (some ⟨g 10, 0, none⟩) N N) ∧ (wr.setCell ⟨g 10, k, none⟩ (.int .i64 k)).drew.cell? ⟨F, 11, none⟩ = some (.slice (some ⟨g 11, 0, none⟩) N N) ∧ (wr.setCell ⟨g 10, k, none⟩ (.int .i64 k)).drew.cell? ⟨F, 7, none⟩ = some (.slice (some ⟨g 7, 0, none⟩) N N)) := ⟨p1.h10, p1.h11, p1.h7⟩
        have S2 : Hid (((wr.setCell ⟨g 10, k, none⟩ (.int .i64 k)).setCell ⟨g 11, k, none⟩ (.int .i64 k)).drew.cell? ⟨F, 10, none⟩ = some (.slice (some ⟨g 10, 0, none⟩) N N) ∧ ((wr.setCell ⟨g 10, k, none⟩ (.int .i64 k)).setCell ⟨g 11, k, none⟩ (.int .i64 k)).drew.cell? ⟨F, 11, none⟩ = some (.slice (some ⟨g 11, 0, none⟩) N N) ∧ ((wr.setCell ⟨g 10, k, none⟩ (.int .i64 k)).setCell ⟨g 11, k, none⟩ (.int .i64 k)).drew.cell? ⟨F, 7, none⟩ = some (.slice (some ⟨g 7, 0, none⟩) N N)) := ⟨p2.h10, p2.h11, p2.h7⟩
        have S3 : Hid ((((wr.setCell ⟨g 10, k, none⟩ (.int .i64 k)).setCell ⟨g 11, k, none⟩ (.int .i64 k)).setCell ⟨g 7, k, none⟩ (.int .i64 (-1))).drew.cell? ⟨F, 10, none⟩ = some (.slice (some ⟨g 10, 0, none⟩) N N) ∧ (((wr.setCell ⟨g 10, k, none⟩ (.int .i64 k)).setCell ⟨g 11, k, none⟩ (.int .i64 k)).setCell ⟨g 7, k, none⟩ (.int .i64 (-1))).drew.cell? ⟨F, 11, none⟩ = some (.slice (some ⟨g 11, 0, none⟩) N N) ∧ (((wr.setCell ⟨g 10, k, none⟩ (.int .i64 k)).setCell ⟨g 11, k, none⟩ (.int .i64 k)).setCell ⟨g 7, k, none⟩ (.int .i64 (-1))).drew.cell? ⟨F, 7, none⟩ = some (.slice (some ⟨g 7, 0, none⟩) N N)) := ⟨p3.h10, p3.h11, p3.h7⟩
        have H3 : Hid (FW w.heap.size N F g (.slice A N c) (.slice M N mc) { s with up := upd s.up k (k : Int), ba := upd s.ba k (k : Int), rt := upd s.rt k (-1) } (((wr.setCell ⟨g 10, k, none⟩ (.int .i64 k)).setCell ⟨g 11, k, none⟩ (.int .i64 k)).setCell ⟨g 7, k, none⟩ (.int .i64 (-1))).drew ∧ Below w.heap.size w (((wr.setCell ⟨g 10, k, none⟩ (.int .i64 k)).setCell ⟨g 11, k, none⟩ (.int .i64 k)).setCell ⟨g 7, k, none⟩ (.int .i64 (-1))).drew) :=
          ⟨p3.later (RW.refl _).drew, below_draws (Below.setCell (Below.setCell (Below.setCell hb.out (hf.far 10 (by decide) (by decide)).1 _) (hf.far 11 (by decide) (by decide)).1 _) (hf.far 7 (by decide) (by decide)).1 _) 1⟩
        clear hn hf hni p1 p2 p3 hlt hk
        go_wp2_with fail
        go_region_held3 (fun w' => w'.cell? ⟨F, 10, none⟩ = some (.slice (some ⟨g 10, 0, none⟩) N N) ∧ w'.cell? ⟨F, 11, none⟩ = some (.slice (some ⟨g 11, 0, none⟩) N N) ∧ w'.cell? ⟨F, 7, none⟩ = some (.slice (some ⟨g 7, 0, none⟩) N N))
          (first | assumption | exact S0.out | exact S1.out | exact S2.out | exact S3.out | fail) (fail)
        clear S0 S1 S2 S3 k1 k2 k3 f1 f2 f2' f3 f3'
        generalize (((wr.setCell ⟨g 10, k, none⟩ (.int .i64 k)).setCell ⟨g 11, k, none⟩ (.int .i64 k)).setCell ⟨g 7, k, none⟩ (.int .i64 (-1))).drew = w3 at *
        obtain ⟨mb', mo', mc', hmv, m1, m2⟩ := (HM.out.below H3.out.2).open (by have := HLT.out; omega)
        simp only [Value.slice.injEq] at hmv
        obtain ⟨rfl, -, hmc⟩ := hmv
        subst hmc
        have cm := m2 k HLT.out
        by_cases hmk : mt k = -1
        · rw [hmk] at cm
          have p4 := H3.out.1.put_rt k (k : Int)
          have c7 := H3.out.1.h7
          have k4 := H3.out.1.c_rt HLT.out
          have f4 := H3.out.1.rt.froz k
          dsimp only at k4
          have H4 : Hid (FW w.heap.size N F g (.slice A N c) (.slice (some ⟨mb', mo', none⟩) N mc) { s with up := upd s.up k (k : Int), ba := upd s.ba k (k : Int), rt := upd (upd s.rt k (-1)) k (k : Int) } (w3.setCell ⟨g 7, k, none⟩ (.int .i64 k)) ∧ Below w.heap.size w (w3.setCell ⟨g 7, k, none⟩ (.int .i64 k))) := ⟨p4, Below.setCell H3.out.2 (H3.out.1.far 7 (by decide) (by decide)).1 _⟩
          have hra := fraise_any (v := k) _ H4.out.1 H4.out.2.size HLT.out 0 1 (by
            show s.wl.length ≤ 1000000
            rw [HNI.out.2.2.2.2.2]
            have := sel_length (fun v => mt v == -1) k
            have := HLT.out
            omega)
          have HRA := Lib.hid hra
          clear p4 hra m2
          go_wp2_with fail
          refine HRA.out.mono ?_
          rintro e w5 ⟨rfl, v1, a1, a2⟩
          have HB5 : Hid (Below w.heap.size w w5) := Below.trans H4.out.2 (Fr.below (s := { s with up := upd s.up k (k : Int), ba := upd s.ba k (k : Int), rt := upd (upd s.rt k (-1)) k (k : Int) }) a2 H4.out.1 H4.out.2.size)
          have HN5 : Hid (∃ s, FW w.heap.size N F g (.slice A N c) (.slice (some ⟨mb', mo', none⟩) N mc) s w5 ∧ NewI N mt s (k + 1)) := by
            refine ⟨_, a1, ?_⟩
            obtain ⟨n1, n2, n3, n4, n5, n6⟩ := HNI.out
            have hl := (n2 k (Nat.le_refl _)).2
            refine ⟨fun v hv => ?_, fun v hv => ?_, n3, n4, n5, ?_⟩
            · unfold Fm.raise
              simp only [hl, if_true]
              by_cases q : v = k
              · subst q
                simp only [upd_eq]
                exact ⟨trivial, trivial, fun _ => ⟨trivial, trivial, trivial⟩, fun q => absurd hmk q⟩
              · simp only [upd_ne _ _ q]
                exact n1 v (by omega)
            · unfold Fm.raise
              have q : v ≠ k := by omega
              simp only [hl, if_true, upd_ne _ _ q]
              exact n2 v (by omega)
            · show s.wl ++ [(k : Int)] = _
              rw [n6]
              conv => rhs; rw [sel]
              rw [if_pos (by simp [hmk])]
          clear a1 a2 HRA c7 k4 f4 cm
          go_wp2_with fail
          go_roundw
          case rel => exact ⟨k + 1, by have := HLT.out; omega, by go_num, HN5, HB5⟩
          case measure => have := HLT.out; simp [intOf]; omega
        · have hmb : (mt k == -1) = false := by simpa using hmk
          have HN5 : Hid (∃ s, FW w.heap.size N F g (.slice A N c) (.slice (some ⟨mb', mo', none⟩) N mc) s w3 ∧ NewI N mt s (k + 1)) := by
            refine ⟨_, H3.out.1, ?_⟩
            obtain ⟨n1, n2, n3, n4, n5, n6⟩ := HNI.out
            refine ⟨fun v hv => ?_, fun v hv => n2 v (by omega), n3, n4, n5, ?_⟩
            · by_cases q : v = k
              · subst q
                simp only [upd_eq]
                exact ⟨trivial, trivial, fun q => absurd q hmk, fun _ => ⟨trivial, n2 v (Nat.le_refl _)⟩⟩
              · simp only [upd_ne _ _ q]
                exact n1 v (by omega)
            · show s.wl = _
              rw [n6]
              conv => rhs; rw [sel]
              rw [if_neg (by simp [hmk])]
          have HB5 := Lib.hid H3.out.2
          clear m2 hmk
          generalize mt k = mk at *
          go_wp2_with fail
          go_roundw
          case rel => exact ⟨k + 1, by have := HLT.out; omega, by go_num, HN5, HB5⟩
          case measure => have := HLT.out; simp [intOf]; omega
      · obtain rfl : k = N := by omega
        have hd : decide ((k : Int) < (k : Int)) = false := by rw [decide_eq_false_iff_not]; omega
        have HE := Lib.hid hn.out
        clear hn hlt hk
        go_wp2_with fail
        go_ret
        obtain ⟨s, hf, hni⟩ := HE.out
        exact ⟨F, g, s, rfl, hf, hni, hb.out⟩
end

end Go.Proofs.YtbnipgajhpbolaaGreatDoor
