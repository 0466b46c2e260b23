/- The forest in memory: its columns, how they are read and written -/
import Derived.Test.YtbnipgajhpbolaaGreatDoorTe09
import Derived.Test.YtbnipgajhpbolaaGreatDoorTe12
set_option linter.unusedVariables false
set_option linter.unusedSimpArgs false
namespace Go.Proofs.YtbnipgajhpbolaaGreatDoor

section
open Go.RowKit
/-- A block of n values. -/
def Col (W : World) (g : Nat) (t : TypeId) (n : Nat) (f : Nat → Value) : Prop := ∃ cur : Array Value, W.heap[g]? = some (.cells cur t (0, 0)) ∧ cur.size = n ∧ ∀ v, v < n → cur[v]? = some (f v)
section
variable {W W' : World} {g n : Nat} {t : TypeId} {f : Nat → Value}
theorem Col.lt (h : Col W g t n f) : g < W.heap.size := by obtain ⟨cur, h1, -⟩ := h; exact blk_lt h1
theorem Col.at (h : Col W g t n f) {v : Nat} (hv : v < n) : W.cell? ⟨g, v, none⟩ = some (f v) := by
  obtain ⟨cur, h1, h2, h3⟩ := h
  rw [cell_blk h1]
  exact h3 v hv
theorem Col.froz (h : Col W g t n f) (v : Nat) : W.frozen? ⟨g, v, none⟩ = false := by obtain ⟨cur, h1, -⟩ := h; exact frozen_blk h1 v
theorem Col.later (h : Col W g t n f) (b : Below W.heap.size W W') : Col W' g t n f := by
  obtain ⟨cur, h1, h2⟩ := h
  exact ⟨cur, blk_later h1 b, h2⟩
theorem Col.far (h : Col W g t n f) {G j : Nat} {x : Value} (hne : g ≠ G) : Col (W.setCell ⟨G, j, none⟩ x) g t n f := by
  obtain ⟨cur, h1, h2⟩ := h
  exact ⟨cur, (Below.heap_setCell _ _ _ _ hne).trans h1, h2⟩
theorem Col.put (h : Col W g t n f) (j : Nat) (x : Value) : Col (W.setCell ⟨g, j, none⟩ x) g t n (upd f j x) := by
  obtain ⟨cur, h1, h2, h3⟩ := h
  refine ⟨cur.setIfInBounds j x, Go.Proofs.YtbnipgajhpbolaaGreatDoorW.PrintWords.blk_put h1 j x rfl, by rw [Array.size_setIfInBounds]; exact h2, fun v hv => ?_⟩
  rw [Array.getElem?_setIfInBounds]
  by_cases e : j = v
  · subst e
    rw [if_pos rfl, if_pos (by omega), upd_eq]
  · rw [if_neg e, upd_ne _ _ (Ne.symm e)]
    exact h3 v hv
theorem Col.congr {f' : Nat → Value} (h : Col W g t n f) (e : ∀ v, v < n → f v = f' v) : Col W g t n f' := by
  obtain ⟨cur, h1, h2, h3⟩ := h
  exact ⟨cur, h1, h2, fun v hv => by rw [← e v hv]; exact h3 v hv⟩
end
/-- A block of pairs. -/
def Col2 (W : World) (g : Nat) (t : TypeId) (n : Nat) (f1 f2 : Nat → Int) : Prop := ∃ cur : Array Value, W.heap[g]? = some (.cells cur t (0, 0)) ∧ cur.size = n * 2 ∧ ∀ v, v < n → cur[v * 2]? = some (.int .i64 (f1 v)) ∧ cur[v * 2 + 1]? = some (.int .i64 (f2 v))
section
variable {W W' : World} {g n : Nat} {t : TypeId} {f1 f2 : Nat → Int}
theorem Col2.lt (h : Col2 W g t n f1 f2) : g < W.heap.size := by obtain ⟨cur, h1, -⟩ := h; exact blk_lt h1
theorem Col2.at (h : Col2 W g t n f1 f2) {v : Nat} (hv : v < n) : W.cell? ⟨g, v * 2, none⟩ = some (.int .i64 (f1 v)) ∧ W.cell? ⟨g, v * 2 + 1, none⟩ = some (.int .i64 (f2 v)) := by
  obtain ⟨cur, h1, h2, h3⟩ := h
  rw [cell_blk h1, cell_blk h1]
  exact h3 v hv
theorem Col2.froz (h : Col2 W g t n f1 f2) (v : Nat) : W.frozen? ⟨g, v, none⟩ = false := by obtain ⟨cur, h1, -⟩ := h; exact frozen_blk h1 v
theorem Col2.later (h : Col2 W g t n f1 f2) (b : Below W.heap.size W W') : Col2 W' g t n f1 f2 := by
  obtain ⟨cur, h1, h2⟩ := h
  exact ⟨cur, blk_later h1 b, h2⟩
theorem Col2.far (h : Col2 W g t n f1 f2) {G j : Nat} {x : Value} (hne : g ≠ G) : Col2 (W.setCell ⟨G, j, none⟩ x) g t n f1 f2 := by
  obtain ⟨cur, h1, h2⟩ := h
  exact ⟨cur, (Below.heap_setCell _ _ _ _ hne).trans h1, h2⟩
theorem Col2.put (h : Col2 W g t n f1 f2) (j : Nat) (x y : Int) : Col2 ((W.setCell ⟨g, j * 2, none⟩ (.int .i64 x)).setCell ⟨g, j * 2 + 1, none⟩ (.int .i64 y)) g t n (upd f1 j x) (upd f2 j y) := by
  obtain ⟨cur, h1, h2, h3⟩ := h
  refine ⟨(cur.setIfInBounds (j * 2) (.int .i64 x)).setIfInBounds (j * 2 + 1) (.int .i64 y), Go.Proofs.YtbnipgajhpbolaaGreatDoorW.PrintWords.blk_put (Go.Proofs.YtbnipgajhpbolaaGreatDoorW.PrintWords.blk_put h1 (j * 2) _ rfl) (j * 2 + 1) _ rfl, by rw [Array.size_setIfInBounds, Array.size_setIfInBounds]; exact h2, fun v hv => ?_⟩
  obtain ⟨a, b⟩ := h3 v hv
  rw [Array.getElem?_setIfInBounds, Array.getElem?_setIfInBounds, Array.getElem?_setIfInBounds, Array.getElem?_setIfInBounds, Array.size_setIfInBounds]
  by_cases e : j = v
  · subst e
    rw [if_neg (by omega), if_pos rfl, if_pos (by omega), if_pos rfl, if_pos (by omega), upd_eq, upd_eq]
    exact ⟨rfl, rfl⟩
  · rw [if_neg (by omega), if_neg (by omega), if_neg (by omega), if_neg (by omega), upd_ne _ _ (Ne.symm e), upd_ne _ _ (Ne.symm e)]
    exact ⟨a, b⟩
end

/-- What a forest holds. -/
structure Fm where
  lab : Nat → Int
  ou : Nat → Bool
  ev : Nat → Int
  od : Nat → Int
  pd : Nat → Int
  rt : Nat → Int
  b1 : Nat → Int
  b2 : Nat → Int
  gn : Nat → Bool
  up : Nat → Int
  ba : Nat → Int
  ma : Nat → Int
  tu : Int
  wv : Value
  wl : List Int
  lk : Int

/-- The forest's variable, and its columns. -/
structure FW (base N F : Nat) (g : Nat → Nat) (nv mv : Value) (s : Fm) (W : World) : Prop where
  low : base ≤ F
  hdr : W.heap[F]? = some (.cells #[nv, mv, .slice (some ⟨g 2, 0, none⟩) N N, .slice (some ⟨g 3, 0, none⟩) N N, .slice (some ⟨g 4, 0, none⟩) N N, .slice (some ⟨g 5, 0, none⟩) N N, .slice (some ⟨g 6, 0, none⟩) N N, .slice (some ⟨g 7, 0, none⟩) N N, .slice (some ⟨g 8, 0, none⟩) N N, .slice (some ⟨g 9, 0, none⟩) N N, .slice (some ⟨g 10, 0, none⟩) N N, .slice (some ⟨g 11, 0, none⟩) N N, .slice (some ⟨g 12, 0, none⟩) N N, .int .i64 s.tu, s.wv, .int .i64 s.lk] 107 (0, 0))
  far : ∀ k, 2 ≤ k → k ≤ 12 → base ≤ g k ∧ g k ≠ F
  inj : ∀ j k, 2 ≤ j → j ≤ 12 → 2 ≤ k → k ≤ 12 → g j = g k → j = k
  lab : Col W (g 2) 3 N fun v => Value.int .i64 (s.lab v)
  ou : Col W (g 3) 4 N fun v => Value.bool (s.ou v)
  ev : Col W (g 4) 3 N fun v => Value.int .i64 (s.ev v)
  od : Col W (g 5) 3 N fun v => Value.int .i64 (s.od v)
  pd : Col W (g 6) 3 N fun v => Value.int .i64 (s.pd v)
  rt : Col W (g 7) 3 N fun v => Value.int .i64 (s.rt v)
  gn : Col W (g 9) 4 N fun v => Value.bool (s.gn v)
  up : Col W (g 10) 3 N fun v => Value.int .i64 (s.up v)
  ba : Col W (g 11) 3 N fun v => Value.int .i64 (s.ba v)
  ma : Col W (g 12) 3 N fun v => Value.int .i64 (s.ma v)
  br : Col2 W (g 8) 135 N s.b1 s.b2
  wq : QI W base s.wv s.wl
  wne : ∀ q, s.wv.ownBlock = some q → q ≠ F ∧ ∀ k, 2 ≤ k → k ≤ 12 → q ≠ g k
section
variable {base N F : Nat} {g : Nat → Nat} {nv mv : Value} {s : Fm} {W W' : World}
theorem FW.lt (h : FW base N F g nv mv s W) : F < W.heap.size := blk_lt h.hdr
theorem FW.ne (h : FW base N F g nv mv s W) {j k : Nat} (h1 : 2 ≤ j) (h2 : j ≤ 12) (h3 : 2 ≤ k) (h4 : k ≤ 12) (hjk : j ≠ k) : g j ≠ g k := fun e => hjk (h.inj j k h1 h2 h3 h4 e)
theorem FW.later (h : FW base N F g nv mv s W) (b : Below W.heap.size W W') : FW base N F g nv mv s W' :=
  ⟨h.low, blk_later h.hdr b, h.far, h.inj, h.lab.later b, h.ou.later b, h.ev.later b, h.od.later b, h.pd.later b, h.rt.later b, h.gn.later b, h.up.later b, h.ba.later b, h.ma.later b, h.br.later b, h.wq.later b, h.wne⟩
theorem FW.h0 (h : FW base N F g nv mv s W) : W.cell? ⟨F, 0, none⟩ = some (nv) := (cell_blk h.hdr 0).trans rfl
theorem FW.h1 (h : FW base N F g nv mv s W) : W.cell? ⟨F, 1, none⟩ = some (mv) := (cell_blk h.hdr 1).trans rfl
theorem FW.h2 (h : FW base N F g nv mv s W) : W.cell? ⟨F, 2, none⟩ = some (.slice (some ⟨g 2, 0, none⟩) N N) := (cell_blk h.hdr 2).trans rfl
theorem FW.h3 (h : FW base N F g nv mv s W) : W.cell? ⟨F, 3, none⟩ = some (.slice (some ⟨g 3, 0, none⟩) N N) := (cell_blk h.hdr 3).trans rfl
theorem FW.h4 (h : FW base N F g nv mv s W) : W.cell? ⟨F, 4, none⟩ = some (.slice (some ⟨g 4, 0, none⟩) N N) := (cell_blk h.hdr 4).trans rfl
theorem FW.h5 (h : FW base N F g nv mv s W) : W.cell? ⟨F, 5, none⟩ = some (.slice (some ⟨g 5, 0, none⟩) N N) := (cell_blk h.hdr 5).trans rfl
theorem FW.h6 (h : FW base N F g nv mv s W) : W.cell? ⟨F, 6, none⟩ = some (.slice (some ⟨g 6, 0, none⟩) N N) := (cell_blk h.hdr 6).trans rfl
theorem FW.h7 (h : FW base N F g nv mv s W) : W.cell? ⟨F, 7, none⟩ = some (.slice (some ⟨g 7, 0, none⟩) N N) := (cell_blk h.hdr 7).trans rfl
theorem FW.h8 (h : FW base N F g nv mv s W) : W.cell? ⟨F, 8, none⟩ = some (.slice (some ⟨g 8, 0, none⟩) N N) := (cell_blk h.hdr 8).trans rfl
theorem FW.h9 (h : FW base N F g nv mv s W) : W.cell? ⟨F, 9, none⟩ = some (.slice (some ⟨g 9, 0, none⟩) N N) := (cell_blk h.hdr 9).trans rfl
theorem FW.h10 (h : FW base N F g nv mv s W) : W.cell? ⟨F, 10, none⟩ = some (.slice (some ⟨g 10, 0, none⟩) N N) := (cell_blk h.hdr 10).trans rfl
theorem FW.h11 (h : FW base N F g nv mv s W) : W.cell? ⟨F, 11, none⟩ = some (.slice (some ⟨g 11, 0, none⟩) N N) := (cell_blk h.hdr 11).trans rfl
theorem FW.h12 (h : FW base N F g nv mv s W) : W.cell? ⟨F, 12, none⟩ = some (.slice (some ⟨g 12, 0, none⟩) N N) := (cell_blk h.hdr 12).trans rfl
theorem FW.h13 (h : FW base N F g nv mv s W) : W.cell? ⟨F, 13, none⟩ = some (.int .i64 s.tu) := (cell_blk h.hdr 13).trans rfl
theorem FW.h14 (h : FW base N F g nv mv s W) : W.cell? ⟨F, 14, none⟩ = some (s.wv) := (cell_blk h.hdr 14).trans rfl
theorem FW.h15 (h : FW base N F g nv mv s W) : W.cell? ⟨F, 15, none⟩ = some (.int .i64 s.lk) := (cell_blk h.hdr 15).trans rfl
theorem FW.hfroz (h : FW base N F g nv mv s W) (i : Nat) : W.frozen? ⟨F, i, none⟩ = false := frozen_blk h.hdr i
theorem FW.c_lab (h : FW base N F g nv mv s W) {v : Nat} (hv : v < N) : W.cell? ⟨g 2, v, none⟩ = some (Value.int .i64 (s.lab v)) := h.lab.at hv
theorem FW.put_lab (h : FW base N F g nv mv s W) (v : Nat) (x : Int) : FW base N F g nv mv { s with lab := upd s.lab v x } (W.setCell ⟨g 2, v, none⟩ (Value.int .i64 (x))) :=
  ⟨h.low, (Below.heap_setCell _ _ _ _ (h.far 2 (by decide) (by decide)).2.symm).trans h.hdr, h.far, h.inj, (h.lab.put v _).congr fun z _ => by unfold upd; dsimp only; split <;> rfl, h.ou.far (h.ne (by decide) (by decide) (by decide) (by decide) (by decide)), h.ev.far (h.ne (by decide) (by decide) (by decide) (by decide) (by decide)), h.od.far (h.ne (by decide) (by decide) (by decide) (by decide) (by decide)), h.pd.far (h.ne (by decide) (by decide) (by decide) (by decide) (by decide)), h.rt.far (h.ne (by decide) (by decide) (by decide) (by decide) (by decide)), h.gn.far (h.ne (by decide) (by decide) (by decide) (by decide) (by decide)), h.up.far (h.ne (by decide) (by decide) (by decide) (by decide) (by decide)), h.ba.far (h.ne (by decide) (by decide) (by decide) (by decide) (by decide)), h.ma.far (h.ne (by decide) (by decide) (by decide) (by decide) (by decide)), h.br.far (h.ne (by decide) (by decide) (by decide) (by decide) (by decide)), h.wq.grown (grown_set _ _ _ _) (fun q hq e => (h.wne q hq).2 2 (by decide) (by decide) (Option.some.inj e)), h.wne⟩
theorem FW.c_ou (h : FW base N F g nv mv s W) {v : Nat} (hv : v < N) : W.cell? ⟨g 3, v, none⟩ = some (Value.bool (s.ou v)) := h.ou.at hv
theorem FW.put_ou (h : FW base N F g nv mv s W) (v : Nat) (x : Bool) : FW base N F g nv mv { s with ou := upd s.ou v x } (W.setCell ⟨g 3, v, none⟩ (Value.bool (x))) :=
  ⟨h.low, (Below.heap_setCell _ _ _ _ (h.far 3 (by decide) (by decide)).2.symm).trans h.hdr, h.far, h.inj, h.lab.far (h.ne (by decide) (by decide) (by decide) (by decide) (by decide)), (h.ou.put v _).congr fun z _ => by unfold upd; dsimp only; split <;> rfl, h.ev.far (h.ne (by decide) (by decide) (by decide) (by decide) (by decide)), h.od.far (h.ne (by decide) (by decide) (by decide) (by decide) (by decide)), h.pd.far (h.ne (by decide) (by decide) (by decide) (by decide) (by decide)), h.rt.far (h.ne (by decide) (by decide) (by decide) (by decide) (by decide)), h.gn.far (h.ne (by decide) (by decide) (by decide) (by decide) (by decide)), h.up.far (h.ne (by decide) (by decide) (by decide) (by decide) (by decide)), h.ba.far (h.ne (by decide) (by decide) (by decide) (by decide) (by decide)), h.ma.far (h.ne (by decide) (by decide) (by decide) (by decide) (by decide)), h.br.far (h.ne (by decide) (by decide) (by decide) (by decide) (by decide)), h.wq.grown (grown_set _ _ _ _) (fun q hq e => (h.wne q hq).2 3 (by decide) (by decide) (Option.some.inj e)), h.wne⟩
theorem FW.c_ev (h : FW base N F g nv mv s W) {v : Nat} (hv : v < N) : W.cell? ⟨g 4, v, none⟩ = some (Value.int .i64 (s.ev v)) := h.ev.at hv
theorem FW.put_ev (h : FW base N F g nv mv s W) (v : Nat) (x : Int) : FW base N F g nv mv { s with ev := upd s.ev v x } (W.setCell ⟨g 4, v, none⟩ (Value.int .i64 (x))) :=
  ⟨h.low, (Below.heap_setCell _ _ _ _ (h.far 4 (by decide) (by decide)).2.symm).trans h.hdr, h.far, h.inj, h.lab.far (h.ne (by decide) (by decide) (by decide) (by decide) (by decide)), h.ou.far (h.ne (by decide) (by decide) (by decide) (by decide) (by decide)), (h.ev.put v _).congr fun z _ => by unfold upd; dsimp only; split <;> rfl, h.od.far (h.ne (by decide) (by decide) (by decide) (by decide) (by decide)), h.pd.far (h.ne (by decide) (by decide) (by decide) (by decide) (by decide)), h.rt.far (h.ne (by decide) (by decide) (by decide) (by decide) (by decide)), h.gn.far (h.ne (by decide) (by decide) (by decide) (by decide) (by decide)), h.up.far (h.ne (by decide) (by decide) (by decide) (by decide) (by decide)), h.ba.far (h.ne (by decide) (by decide) (by decide) (by decide) (by decide)), h.ma.far (h.ne (by decide) (by decide) (by decide) (by decide) (by decide)), h.br.far (h.ne (by decide) (by decide) (by decide) (by decide) (by decide)), h.wq.grown (grown_set _ _ _ _) (fun q hq e => (h.wne q hq).2 4 (by decide) (by decide) (Option.some.inj e)), h.wne⟩
theorem FW.c_od (h : FW base N F g nv mv s W) {v : Nat} (hv : v < N) : W.cell? ⟨g 5, v, none⟩ = some (Value.int .i64 (s.od v)) := h.od.at hv
theorem FW.put_od (h : FW base N F g nv mv s W) (v : Nat) (x : Int) : FW base N F g nv mv { s with od := upd s.od v x } (W.setCell ⟨g 5, v, none⟩ (Value.int .i64 (x))) :=
  ⟨h.low, (Below.heap_setCell _ _ _ _ (h.far 5 (by decide) (by decide)).2.symm).trans h.hdr, h.far, h.inj, h.lab.far (h.ne (by decide) (by decide) (by decide) (by decide) (by decide)), h.ou.far (h.ne (by decide) (by decide) (by decide) (by decide) (by decide)), h.ev.far (h.ne (by decide) (by decide) (by decide) (by decide) (by decide)), (h.od.put v _).congr fun z _ => by unfold upd; dsimp only; split <;> rfl, h.pd.far (h.ne (by decide) (by decide) (by decide) (by decide) (by decide)), h.rt.far (h.ne (by decide) (by decide) (by decide) (by decide) (by decide)), h.gn.far (h.ne (by decide) (by decide) (by decide) (by decide) (by decide)), h.up.far (h.ne (by decide) (by decide) (by decide) (by decide) (by decide)), h.ba.far (h.ne (by decide) (by decide) (by decide) (by decide) (by decide)), h.ma.far (h.ne (by decide) (by decide) (by decide) (by decide) (by decide)), h.br.far (h.ne (by decide) (by decide) (by decide) (by decide) (by decide)), h.wq.grown (grown_set _ _ _ _) (fun q hq e => (h.wne q hq).2 5 (by decide) (by decide) (Option.some.inj e)), h.wne⟩
theorem FW.c_pd (h : FW base N F g nv mv s W) {v : Nat} (hv : v < N) : W.cell? ⟨g 6, v, none⟩ = some (Value.int .i64 (s.pd v)) := h.pd.at hv
theorem FW.put_pd (h : FW base N F g nv mv s W) (v : Nat) (x : Int) : FW base N F g nv mv { s with pd := upd s.pd v x } (W.setCell ⟨g 6, v, none⟩ (Value.int .i64 (x))) :=
  ⟨h.low, (Below.heap_setCell _ _ _ _ (h.far 6 (by decide) (by decide)).2.symm).trans h.hdr, h.far, h.inj, h.lab.far (h.ne (by decide) (by decide) (by decide) (by decide) (by decide)), h.ou.far (h.ne (by decide) (by decide) (by decide) (by decide) (by decide)), h.ev.far (h.ne (by decide) (by decide) (by decide) (by decide) (by decide)), h.od.far (h.ne (by decide) (by decide) (by decide) (by decide) (by decide)), (h.pd.put v _).congr fun z _ => by unfold upd; dsimp only; split <;> rfl, h.rt.far (h.ne (by decide) (by decide) (by decide) (by decide) (by decide)), h.gn.far (h.ne (by decide) (by decide) (by decide) (by decide) (by decide)), h.up.far (h.ne (by decide) (by decide) (by decide) (by decide) (by decide)), h.ba.far (h.ne (by decide) (by decide) (by decide) (by decide) (by decide)), h.ma.far (h.ne (by decide) (by decide) (by decide) (by decide) (by decide)), h.br.far (h.ne (by decide) (by decide) (by decide) (by decide) (by decide)), h.wq.grown (grown_set _ _ _ _) (fun q hq e => (h.wne q hq).2 6 (by decide) (by decide) (Option.some.inj e)), h.wne⟩
theorem FW.c_rt (h : FW base N F g nv mv s W) {v : Nat} (hv : v < N) : W.cell? ⟨g 7, v, none⟩ = some (Value.int .i64 (s.rt v)) := h.rt.at hv
theorem FW.put_rt (h : FW base N F g nv mv s W) (v : Nat) (x : Int) : FW base N F g nv mv { s with rt := upd s.rt v x } (W.setCell ⟨g 7, v, none⟩ (Value.int .i64 (x))) :=
  ⟨h.low, (Below.heap_setCell _ _ _ _ (h.far 7 (by decide) (by decide)).2.symm).trans h.hdr, h.far, h.inj, h.lab.far (h.ne (by decide) (by decide) (by decide) (by decide) (by decide)), h.ou.far (h.ne (by decide) (by decide) (by decide) (by decide) (by decide)), h.ev.far (h.ne (by decide) (by decide) (by decide) (by decide) (by decide)), h.od.far (h.ne (by decide) (by decide) (by decide) (by decide) (by decide)), h.pd.far (h.ne (by decide) (by decide) (by decide) (by decide) (by decide)), (h.rt.put v _).congr fun z _ => by unfold upd; dsimp only; split <;> rfl, h.gn.far (h.ne (by decide) (by decide) (by decide) (by decide) (by decide)), h.up.far (h.ne (by decide) (by decide) (by decide) (by decide) (by decide)), h.ba.far (h.ne (by decide) (by decide) (by decide) (by decide) (by decide)), h.ma.far (h.ne (by decide) (by decide) (by decide) (by decide) (by decide)), h.br.far (h.ne (by decide) (by decide) (by decide) (by decide) (by decide)), h.wq.grown (grown_set _ _ _ _) (fun q hq e => (h.wne q hq).2 7 (by decide) (by decide) (Option.some.inj e)), h.wne⟩
theorem FW.c_gn (h : FW base N F g nv mv s W) {v : Nat} (hv : v < N) : W.cell? ⟨g 9, v, none⟩ = some (Value.bool (s.gn v)) := h.gn.at hv
theorem FW.put_gn (h : FW base N F g nv mv s W) (v : Nat) (x : Bool) : FW base N F g nv mv { s with gn := upd s.gn v x } (W.setCell ⟨g 9, v, none⟩ (Value.bool (x))) :=
  ⟨h.low, (Below.heap_setCell _ _ _ _ (h.far 9 (by decide) (by decide)).2.symm).trans h.hdr, h.far, h.inj, h.lab.far (h.ne (by decide) (by decide) (by decide) (by decide) (by decide)), h.ou.far (h.ne (by decide) (by decide) (by decide) (by decide) (by decide)), h.ev.far (h.ne (by decide) (by decide) (by decide) (by decide) (by decide)), h.od.far (h.ne (by decide) (by decide) (by decide) (by decide) (by decide)), h.pd.far (h.ne (by decide) (by decide) (by decide) (by decide) (by decide)), h.rt.far (h.ne (by decide) (by decide) (by decide) (by decide) (by decide)), (h.gn.put v _).congr fun z _ => by unfold upd; dsimp only; split <;> rfl, h.up.far (h.ne (by decide) (by decide) (by decide) (by decide) (by decide)), h.ba.far (h.ne (by decide) (by decide) (by decide) (by decide) (by decide)), h.ma.far (h.ne (by decide) (by decide) (by decide) (by decide) (by decide)), h.br.far (h.ne (by decide) (by decide) (by decide) (by decide) (by decide)), h.wq.grown (grown_set _ _ _ _) (fun q hq e => (h.wne q hq).2 9 (by decide) (by decide) (Option.some.inj e)), h.wne⟩
theorem FW.c_up (h : FW base N F g nv mv s W) {v : Nat} (hv : v < N) : W.cell? ⟨g 10, v, none⟩ = some (Value.int .i64 (s.up v)) := h.up.at hv
theorem FW.put_up (h : FW base N F g nv mv s W) (v : Nat) (x : Int) : FW base N F g nv mv { s with up := upd s.up v x } (W.setCell ⟨g 10, v, none⟩ (Value.int .i64 (x))) :=
  ⟨h.low, (Below.heap_setCell _ _ _ _ (h.far 10 (by decide) (by decide)).2.symm).trans h.hdr, h.far, h.inj, h.lab.far (h.ne (by decide) (by decide) (by decide) (by decide) (by decide)), h.ou.far (h.ne (by decide) (by decide) (by decide) (by decide) (by decide)), h.ev.far (h.ne (by decide) (by decide) (by decide) (by decide) (by decide)), h.od.far (h.ne (by decide) (by decide) (by decide) (by decide) (by decide)), h.pd.far (h.ne (by decide) (by decide) (by decide) (by decide) (by decide)), h.rt.far (h.ne (by decide) (by decide) (by decide) (by decide) (by decide)), h.gn.far (h.ne (by decide) (by decide) (by decide) (by decide) (by decide)), (h.up.put v _).congr fun z _ => by unfold upd; dsimp only; split <;> rfl, h.ba.far (h.ne (by decide) (by decide) (by decide) (by decide) (by decide)), h.ma.far (h.ne (by decide) (by decide) (by decide) (by decide) (by decide)), h.br.far (h.ne (by decide) (by decide) (by decide) (by decide) (by decide)), h.wq.grown (grown_set _ _ _ _) (fun q hq e => (h.wne q hq).2 10 (by decide) (by decide) (Option.some.inj e)), h.wne⟩
theorem FW.c_ba (h : FW base N F g nv mv s W) {v : Nat} (hv : v < N) : W.cell? ⟨g 11, v, none⟩ = some (Value.int .i64 (s.ba v)) := h.ba.at hv
theorem FW.put_ba (h : FW base N F g nv mv s W) (v : Nat) (x : Int) : FW base N F g nv mv { s with ba := upd s.ba v x } (W.setCell ⟨g 11, v, none⟩ (Value.int .i64 (x))) :=
  ⟨h.low, (Below.heap_setCell _ _ _ _ (h.far 11 (by decide) (by decide)).2.symm).trans h.hdr, h.far, h.inj, h.lab.far (h.ne (by decide) (by decide) (by decide) (by decide) (by decide)), h.ou.far (h.ne (by decide) (by decide) (by decide) (by decide) (by decide)), h.ev.far (h.ne (by decide) (by decide) (by decide) (by decide) (by decide)), h.od.far (h.ne (by decide) (by decide) (by decide) (by decide) (by decide)), h.pd.far (h.ne (by decide) (by decide) (by decide) (by decide) (by decide)), h.rt.far (h.ne (by decide) (by decide) (by decide) (by decide) (by decide)), h.gn.far (h.ne (by decide) (by decide) (by decide) (by decide) (by decide)), h.up.far (h.ne (by decide) (by decide) (by decide) (by decide) (by decide)), (h.ba.put v _).congr fun z _ => by unfold upd; dsimp only; split <;> rfl, h.ma.far (h.ne (by decide) (by decide) (by decide) (by decide) (by decide)), h.br.far (h.ne (by decide) (by decide) (by decide) (by decide) (by decide)), h.wq.grown (grown_set _ _ _ _) (fun q hq e => (h.wne q hq).2 11 (by decide) (by decide) (Option.some.inj e)), h.wne⟩
theorem FW.c_ma (h : FW base N F g nv mv s W) {v : Nat} (hv : v < N) : W.cell? ⟨g 12, v, none⟩ = some (Value.int .i64 (s.ma v)) := h.ma.at hv
theorem FW.put_ma (h : FW base N F g nv mv s W) (v : Nat) (x : Int) : FW base N F g nv mv { s with ma := upd s.ma v x } (W.setCell ⟨g 12, v, none⟩ (Value.int .i64 (x))) :=
  ⟨h.low, (Below.heap_setCell _ _ _ _ (h.far 12 (by decide) (by decide)).2.symm).trans h.hdr, h.far, h.inj, h.lab.far (h.ne (by decide) (by decide) (by decide) (by decide) (by decide)), h.ou.far (h.ne (by decide) (by decide) (by decide) (by decide) (by decide)), h.ev.far (h.ne (by decide) (by decide) (by decide) (by decide) (by decide)), h.od.far (h.ne (by decide) (by decide) (by decide) (by decide) (by decide)), h.pd.far (h.ne (by decide) (by decide) (by decide) (by decide) (by decide)), h.rt.far (h.ne (by decide) (by decide) (by decide) (by decide) (by decide)), h.gn.far (h.ne (by decide) (by decide) (by decide) (by decide) (by decide)), h.up.far (h.ne (by decide) (by decide) (by decide) (by decide) (by decide)), h.ba.far (h.ne (by decide) (by decide) (by decide) (by decide) (by decide)), (h.ma.put v _).congr fun z _ => by unfold upd; dsimp only; split <;> rfl, h.br.far (h.ne (by decide) (by decide) (by decide) (by decide) (by decide)), h.wq.grown (grown_set _ _ _ _) (fun q hq e => (h.wne q hq).2 12 (by decide) (by decide) (Option.some.inj e)), h.wne⟩
theorem FW.put_br (h : FW base N F g nv mv s W) (v : Nat) (x y : Int) : FW base N F g nv mv { s with b1 := upd s.b1 v x, b2 := upd s.b2 v y } ((W.setCell ⟨g 8, v * 2, none⟩ (.int .i64 x)).setCell ⟨g 8, v * 2 + 1, none⟩ (.int .i64 y)) :=
  ⟨h.low, (Below.heap_setCell _ _ _ _ (h.far 8 (by decide) (by decide)).2.symm).trans ((Below.heap_setCell _ _ _ _ (h.far 8 (by decide) (by decide)).2.symm).trans h.hdr), h.far, h.inj, (h.lab.far (h.ne (by decide) (by decide) (by decide) (by decide) (by decide))).far (h.ne (by decide) (by decide) (by decide) (by decide) (by decide)), (h.ou.far (h.ne (by decide) (by decide) (by decide) (by decide) (by decide))).far (h.ne (by decide) (by decide) (by decide) (by decide) (by decide)), (h.ev.far (h.ne (by decide) (by decide) (by decide) (by decide) (by decide))).far (h.ne (by decide) (by decide) (by decide) (by decide) (by decide)), (h.od.far (h.ne (by decide) (by decide) (by decide) (by decide) (by decide))).far (h.ne (by decide) (by decide) (by decide) (by decide) (by decide)), (h.pd.far (h.ne (by decide) (by decide) (by decide) (by decide) (by decide))).far (h.ne (by decide) (by decide) (by decide) (by decide) (by decide)), (h.rt.far (h.ne (by decide) (by decide) (by decide) (by decide) (by decide))).far (h.ne (by decide) (by decide) (by decide) (by decide) (by decide)), (h.gn.far (h.ne (by decide) (by decide) (by decide) (by decide) (by decide))).far (h.ne (by decide) (by decide) (by decide) (by decide) (by decide)), (h.up.far (h.ne (by decide) (by decide) (by decide) (by decide) (by decide))).far (h.ne (by decide) (by decide) (by decide) (by decide) (by decide)), (h.ba.far (h.ne (by decide) (by decide) (by decide) (by decide) (by decide))).far (h.ne (by decide) (by decide) (by decide) (by decide) (by decide)), (h.ma.far (h.ne (by decide) (by decide) (by decide) (by decide) (by decide))).far (h.ne (by decide) (by decide) (by decide) (by decide) (by decide)), h.br.put v x y, (h.wq.grown (grown_set _ _ _ _) (fun q hq e => (h.wne q hq).2 8 (by decide) (by decide) (Option.some.inj e))).grown (grown_set _ _ _ _) (fun q hq e => (h.wne q hq).2 8 (by decide) (by decide) (Option.some.inj e)), h.wne⟩
theorem FW.put_tu (h : FW base N F g nv mv s W) (x : Int) : FW base N F g nv mv { s with tu := x } (W.setCell ⟨F, 13, none⟩ (.int .i64 x)) :=
  ⟨h.low, Go.Proofs.YtbnipgajhpbolaaGreatDoorW.PrintWords.blk_put h.hdr 13 _ rfl, h.far, h.inj, h.lab.far (h.far 2 (by decide) (by decide)).2, h.ou.far (h.far 3 (by decide) (by decide)).2, h.ev.far (h.far 4 (by decide) (by decide)).2, h.od.far (h.far 5 (by decide) (by decide)).2, h.pd.far (h.far 6 (by decide) (by decide)).2, h.rt.far (h.far 7 (by decide) (by decide)).2, h.gn.far (h.far 9 (by decide) (by decide)).2, h.up.far (h.far 10 (by decide) (by decide)).2, h.ba.far (h.far 11 (by decide) (by decide)).2, h.ma.far (h.far 12 (by decide) (by decide)).2, h.br.far (h.far 8 (by decide) (by decide)).2, h.wq.grown (grown_set _ _ _ _) (fun q hq e => (h.wne q hq).1 (Option.some.inj e)), h.wne⟩
theorem FW.put_lk (h : FW base N F g nv mv s W) (x : Int) : FW base N F g nv mv { s with lk := x } (W.setCell ⟨F, 15, none⟩ (.int .i64 x)) :=
  ⟨h.low, Go.Proofs.YtbnipgajhpbolaaGreatDoorW.PrintWords.blk_put h.hdr 15 _ rfl, h.far, h.inj, h.lab.far (h.far 2 (by decide) (by decide)).2, h.ou.far (h.far 3 (by decide) (by decide)).2, h.ev.far (h.far 4 (by decide) (by decide)).2, h.od.far (h.far 5 (by decide) (by decide)).2, h.pd.far (h.far 6 (by decide) (by decide)).2, h.rt.far (h.far 7 (by decide) (by decide)).2, h.gn.far (h.far 9 (by decide) (by decide)).2, h.up.far (h.far 10 (by decide) (by decide)).2, h.ba.far (h.far 11 (by decide) (by decide)).2, h.ma.far (h.far 12 (by decide) (by decide)).2, h.br.far (h.far 8 (by decide) (by decide)).2, h.wq.grown (grown_set _ _ _ _) (fun q hq e => (h.wne q hq).1 (Option.some.inj e)), h.wne⟩
theorem FW.put_wv (h : FW base N F g nv mv s W) (x : Value) (l : List Int) (hq : QI W base x l) (hne : ∀ q, x.ownBlock = some q → q ≠ F ∧ ∀ k, 2 ≤ k → k ≤ 12 → q ≠ g k) : FW base N F g nv mv { s with wv := x, wl := l } (W.setCell ⟨F, 14, none⟩ x) :=
  ⟨h.low, Go.Proofs.YtbnipgajhpbolaaGreatDoorW.PrintWords.blk_put h.hdr 14 _ rfl, h.far, h.inj, h.lab.far (h.far 2 (by decide) (by decide)).2, h.ou.far (h.far 3 (by decide) (by decide)).2, h.ev.far (h.far 4 (by decide) (by decide)).2, h.od.far (h.far 5 (by decide) (by decide)).2, h.pd.far (h.far 6 (by decide) (by decide)).2, h.rt.far (h.far 7 (by decide) (by decide)).2, h.gn.far (h.far 9 (by decide) (by decide)).2, h.up.far (h.far 10 (by decide) (by decide)).2, h.ba.far (h.far 11 (by decide) (by decide)).2, h.ma.far (h.far 12 (by decide) (by decide)).2, h.br.far (h.far 8 (by decide) (by decide)).2, hq.grown (grown_set _ _ _ _) (fun q e1 e => (hne q e1).1 (Option.some.inj e)), hne⟩
theorem Col.grow {W W1 : World} {g n : Nat} {t : TypeId} {f : Nat → Value} {row : Option Nat} (h : Col W g t n f) (gr : W.grownBy W1 row) (hne : row = some g → False) : Col W1 g t n f := by
  obtain ⟨cur, h1, h2⟩ := h
  exact ⟨cur, (gr.block g (blk_lt h1) (fun e => hne e.symm)).trans h1, h2⟩
theorem Col2.grow {W W1 : World} {g n : Nat} {t : TypeId} {f1 f2 : Nat → Int} {row : Option Nat} (h : Col2 W g t n f1 f2) (gr : W.grownBy W1 row) (hne : row = some g → False) : Col2 W1 g t n f1 f2 := by
  obtain ⟨cur, h1, h2⟩ := h
  exact ⟨cur, (gr.block g (blk_lt h1) (fun e => hne e.symm)).trans h1, h2⟩
theorem FW.app {W1 : World} {v1 : Value} {l : List Int} (h : FW base N F g nv mv s W) (gr : W.grownBy W1 s.wv.ownBlock) (hq : QI W1 base v1 l) (hat : v1.ownBlock = s.wv.ownBlock ∨ ∃ b, v1.ownBlock = some b ∧ W.heap.size ≤ b) : FW base N F g nv mv { s with wv := v1, wl := l } (W1.setCell ⟨F, 14, none⟩ v1) := by
  have hne : ∀ q, v1.ownBlock = some q → q ≠ F ∧ ∀ k, 2 ≤ k → k ≤ 12 → q ≠ g k := fun q e => by
    rcases hat with k | ⟨b, k1, k2⟩
    · exact h.wne q (by rw [← k]; exact e)
    · have : q = b := Option.some.inj (e.symm.trans k1)
      subst this
      have hF := h.lt
      refine ⟨by omega, fun j h1 h2 => ?_⟩
      have hj : g j < W.heap.size := by
        rcases (show j = 2 ∨ j = 3 ∨ j = 4 ∨ j = 5 ∨ j = 6 ∨ j = 7 ∨ j = 8 ∨ j = 9 ∨ j = 10 ∨ j = 11 ∨ j = 12 by omega) with rfl | rfl | rfl | rfl | rfl | rfl | rfl | rfl | rfl | rfl | rfl
        · exact h.lab.lt
        · exact h.ou.lt
        · exact h.ev.lt
        · exact h.od.lt
        · exact h.pd.lt
        · exact h.rt.lt
        · exact h.br.lt
        · exact h.gn.lt
        · exact h.up.lt
        · exact h.ba.lt
        · exact h.ma.lt
      omega
  have h1 : FW base N F g nv mv { s with wv := s.wv, wl := s.wl } W := h
  exact ⟨h.low, Go.Proofs.YtbnipgajhpbolaaGreatDoorW.PrintWords.blk_put ((gr.block F h.lt (fun e => (h.wne _ e.symm).1 rfl)).trans h.hdr) 14 _ rfl, h.far, h.inj, ((h.lab.grow gr fun q => (h.wne _ q).2 2 (by decide) (by decide) rfl)).far (h.far 2 (by decide) (by decide)).2, ((h.ou.grow gr fun q => (h.wne _ q).2 3 (by decide) (by decide) rfl)).far (h.far 3 (by decide) (by decide)).2, ((h.ev.grow gr fun q => (h.wne _ q).2 4 (by decide) (by decide) rfl)).far (h.far 4 (by decide) (by decide)).2, ((h.od.grow gr fun q => (h.wne _ q).2 5 (by decide) (by decide) rfl)).far (h.far 5 (by decide) (by decide)).2, ((h.pd.grow gr fun q => (h.wne _ q).2 6 (by decide) (by decide) rfl)).far (h.far 6 (by decide) (by decide)).2, ((h.rt.grow gr fun q => (h.wne _ q).2 7 (by decide) (by decide) rfl)).far (h.far 7 (by decide) (by decide)).2, ((h.gn.grow gr fun q => (h.wne _ q).2 9 (by decide) (by decide) rfl)).far (h.far 9 (by decide) (by decide)).2, ((h.up.grow gr fun q => (h.wne _ q).2 10 (by decide) (by decide) rfl)).far (h.far 10 (by decide) (by decide)).2, ((h.ba.grow gr fun q => (h.wne _ q).2 11 (by decide) (by decide) rfl)).far (h.far 11 (by decide) (by decide)).2, ((h.ma.grow gr fun q => (h.wne _ q).2 12 (by decide) (by decide) rfl)).far (h.far 12 (by decide) (by decide)).2, (h.br.grow gr fun q => (h.wne _ q).2 8 (by decide) (by decide) rfl).far (h.far 8 (by decide) (by decide)).2, hq.grown (grown_set _ _ _ _) (fun q e1 e => (hne q e1).1 (Option.some.inj e)), hne⟩

/-- Blocks that the forest's own. -/
def FK (F : Nat) (g : Nat → Nat) (v : Value) (k : Nat) : Prop := k = F ∨ (∃ j, 2 ≤ j ∧ j ≤ 12 ∧ k = g j) ∨ v.ownBlock = some k
/-- What the forest's calls leave of all else. -/
structure Fr (F : Nat) (g : Nat → Nat) (v : Value) (W : World) (v' : Value) (W' : World) : Prop where
  os : W'.os = W.os
  tape : W'.tape = W.tape
  output : W'.output = W.output
  size : W.heap.size ≤ W'.heap.size
  block : ∀ k, k < W.heap.size → ¬ FK F g v k → W'.heap[k]? = W.heap[k]?
  own : ∀ k, v'.ownBlock = some k → v.ownBlock = some k ∨ W.heap.size ≤ k
theorem Fr.refl (F : Nat) (g : Nat → Nat) (v : Value) (W : World) : Fr F g v W v W := ⟨rfl, rfl, rfl, Nat.le_refl _, fun _ _ _ => rfl, fun _ h => .inl h⟩
theorem Fr.trans {F : Nat} {g : Nat → Nat} {v v' v'' : Value} {W W' W'' : World} (h : Fr F g v W v' W') (k : Fr F g v' W' v'' W'') : Fr F g v W v'' W'' :=
  ⟨k.os.trans h.os, k.tape.trans h.tape, k.output.trans h.output, Nat.le_trans h.size k.size, fun i hi hn => (k.block i (Nat.lt_of_lt_of_le hi h.size) fun q => hn (by
    rcases q with q | q | q
    · exact .inl q
    · exact .inr (.inl q)
    · rcases h.own i q with q | q
      · exact .inr (.inr q)
      · omega)).trans (h.block i hi hn), fun i hi => by
    rcases k.own i hi with q | q
    · exact h.own i q
    · exact .inr (Nat.le_trans h.size q)⟩
theorem Fr.of {F : Nat} {g : Nat → Nat} {v : Value} {W W' : World} (b : Below W.heap.size W W') : Fr F g v W v W' := ⟨b.os, b.tape, b.output, b.size, fun k hk _ => b.block k hk, fun _ h => .inl h⟩
theorem Fr.set {F : Nat} {g : Nat → Nat} {v : Value} {W : World} {G i : Nat} {x : Value} (h : G = F ∨ ∃ j, 2 ≤ j ∧ j ≤ 12 ∧ G = g j) : Fr F g v W v (W.setCell ⟨G, i, none⟩ x) :=
  ⟨rfl, rfl, rfl, by simp [World.setCell], fun k hk hn => Below.heap_setCell _ _ _ _ fun e => hn (by
    have e2 : k = G := e
    subst e2
    rcases h with h | h
    · exact .inl h
    · exact .inr (.inl h)), fun _ h => .inl h⟩
theorem Fr.grown {F : Nat} {g : Nat → Nat} {v v' : Value} {W W' : World} (gr : W.grownBy W' v.ownBlock) (hat : v'.ownBlock = v.ownBlock ∨ ∃ b, v'.ownBlock = some b ∧ W.heap.size ≤ b) : Fr F g v W v' W' :=
  ⟨gr.os, gr.tape, gr.output, gr.size, fun k hk hn => gr.block k hk fun e => hn (.inr (.inr e.symm)), fun k hk => by
    rcases hat with q | ⟨b, q1, q2⟩
    · exact .inl (by rw [← q]; exact hk)
    · obtain rfl : k = b := Option.some.inj (hk.symm.trans q1)
      exact .inr q2⟩
/-- Below the forest all is as it was. -/
theorem Fr.below {v' : Value} {W' : World} (h : Fr F g s.wv W v' W') (k : FW base N F g nv mv s W) (hb : base ≤ W.heap.size) : Below base W W' :=
  ⟨h.os, h.tape, h.output, h.size, fun i hi => h.block i (by omega) fun q => by
    rcases q with q | ⟨j, j1, j2, q⟩ | q
    · have := k.low; omega
    · have := (k.far j j1 j2).1; omega
    · have := (k.wq.lt i q).1; omega⟩
end
end

end Go.Proofs.YtbnipgajhpbolaaGreatDoor
