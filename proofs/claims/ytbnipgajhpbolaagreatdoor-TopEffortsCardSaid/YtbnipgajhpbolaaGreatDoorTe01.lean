/- Words for lists that a call owns, or reads: what an append, a make, a store, a call leaves; The walks of the functions that hold lists of numbers against each other; Words for lists of edges that a call reads or owns; the functions ahead, turned, Is; The walk of the reference's Right: which lists of edges are graphs -/
import Derived.Test.YtbnipgajhpbolaaGreatDoorProg
import Derived.WalkKit
import Derived.WalkSpells
import Derived.Deep.OwnRows
import Derived.Maps.AppendAt
import Derived.Lib.Hide
import Derived.Deep.Draws
import Derived.Deep.QuietTactic
import Derived.BigQuiet
import Derived.Laws.BitsLemmas
import Derived.Deep.RegionHeld3
set_option linter.unusedVariables false
set_option linter.unusedSimpArgs false
namespace Go.Proofs.YtbnipgajhpbolaaGreatDoor

section
open Go.RowKit
theorem cell_blk {w : World} {g : Nat} {t : TypeId} {cs : Array Value} (h : w.heap[g]? = some (.cells cs t (0, 0))) (i : Nat) : w.cell? ⟨g, i, none⟩ = cs[i]? := cell_of_row w g i cs t (0, 0) h
theorem frozen_blk {w : World} {g : Nat} {t : TypeId} {cs : Array Value} (h : w.heap[g]? = some (.cells cs t (0, 0))) (i : Nat) : w.frozen? ⟨g, i, none⟩ = false := by simp [World.frozen?, h]

abbrev nums (xs : List Int) : List Value := xs.map (Value.int .i64)
/-- v is a list of its own, of the numbers xs. -/
def OwnI (w : World) (base : Nat) (v : Value) (xs : List Int) : Prop := w.ownsRow base 3 1 v xs.length (nums xs)
theorem infoInt : (Tryz.prog.info? 3).map (fun i => (i.zero, i.size, i.bytes)) = some (some (.int .i64 0), 1, 8) := by kernel_rfl
theorem row_base {w : World} {base e size n : Nat} {v : Value} {xs : List Value} (h : w.ownsRow base e size v n xs) (k : Nat) (hk : v.ownBlock = some k) : base ≤ k := (h.lt k hk).1
theorem row_lt {w : World} {base e size n : Nat} {v : Value} {xs : List Value} (h : w.ownsRow base e size v n xs) (k : Nat) (hk : v.ownBlock = some k) : k < w.heap.size := (h.lt k hk).2

/-- What was owned in an elder world still is, where nothing that was there has turned. -/
theorem row_below {w w1 : World} {base e size n : Nat} {v : Value} {xs : List Value} (h : w.ownsRow base e size v n xs) (hb : Below w.heap.size w w1) : w1.ownsRow base e size v n xs :=
  h.kept (row := none) ⟨hb.os, hb.tape, hb.output, hb.size, fun k hk _ => hb.block k hk⟩ (by cases v.ownBlock <;> simp)
theorem row_weaken {w : World} {base base' e size n : Nat} {v : Value} {xs : List Value} (h : w.ownsRow base e size v n xs) (hb : base' ≤ base) : w.ownsRow base' e size v n xs := by
  obtain ⟨h1, h2⟩ := h
  refine ⟨h1, ?_⟩
  rcases h2 with h2 | ⟨g, cap, cur, hv, hg, r⟩
  · exact .inl h2
  · exact .inr ⟨g, cap, cur, hv, Nat.le_trans hb hg, r⟩

theorem below_draws {B : Nat} {a w : World} (h : Below B a w) (n : Nat) : Below B a (w.drewN n) := ⟨h.os, h.tape, h.output, h.size, h.block⟩
theorem below_after {B : Nat} {w w1 w2 : World} (h : Below B w w1) (hB : B ≤ w1.heap.size) (k : Below w1.heap.size w1 w2) : Below B w w2 := h.trans (k.mono hB)

/-- The one new cell of a variadic's box, or the several. -/
theorem news_box (W : World) (ys : List Value) (t : TypeId) : ∀ j u, ys[j]? = some u → (W.alloc (.cells ys.toArray t)).cell? ((⟨W.heap.size, 0, none⟩ : Addr).add j) = some u := by
  intro j u hu
  rw [show (⟨W.heap.size, 0, none⟩ : Addr).add j = ⟨W.heap.size, j, none⟩ from by unfold Addr.add; split <;> simp_all]
  rw [cell_blk (heap_alloc_new W (.cells ys.toArray t))]
  simpa using hu

section
variable {P : Program} {ops : Array Oper} {rest : List Oper} {o : Oper} {a : Act} {Q : Exit → Act → World → Prop}

/-- append(v, x), behind 'at_builtin'; the goal's world is W with the variadic's box. -/
theorem app_cells {w0 W : World} (base : Nat) (hgd : o.guard = none) (s x : Operand) (t e : TypeId) (z : Value) (size bytes : Nat)
    (ho : o.op = .call { callee := .builtin .append, args := #[s, x], argTypes := #[t, t] })
    (ht : P.underlying t = some (.slice e)) (hinfo : (P.info? e).map (fun i => (i.zero, i.size, i.bytes)) = some (some z, size, bytes)) (hz : z.cells.size = size) (hs0 : 0 < size) (hb0 : 0 < bytes)
    (v : Value) (n : Nat) (xs ys : List Value) (hs : a.eval s = v) (hx : a.eval x = .slice (some ⟨W.heap.size, 0, none⟩) 1 1) (hys : ys.length = size) (h1 : ∀ u ∈ ys, u.oneCell' = true)
    (HO : W.ownsRow base e size v n xs) (HB : Below base w0 W) (hbase : base ≤ W.heap.size) (hl : (n + 1) * bytes ≤ 140737488355328)
    (h : ∀ v1 w1, w1.ownsRow base e size v1 (n + 1) (xs ++ ys) → Below base w0 w1 → W.grownBy w1 v.ownBlock → (v1.ownBlock = v.ownBlock ∨ ∃ b, v1.ownBlock = some b ∧ W.heap.size ≤ b) → wpList P ops Q rest (a.put o.dst v1) w1) :
    wpList P ops Q (o :: rest) a (W.alloc (.cells ys.toArray e)) := by
  obtain ⟨i0, hi, hzz⟩ := Option.map_eq_some_iff.1 hinfo
  simp only [Prod.mk.injEq] at hzz
  obtain ⟨hz0, hz1, hz2⟩ := hzz
  have hlen : n + 1 ≤ 140737488355328 := Nat.le_trans (Nat.le_mul_of_pos_right _ hb0) hl
  refine wpList_append_own_at (W.alloc (.cells ys.toArray e)) hgd s x t ho base e i0 z size bytes ht hi hz0 hz1 hz2 hz hs0 v n xs hs (HO.alloc _) ⟨W.heap.size, 0, none⟩ 1 1 ys hx (by rw [hys]; simp)
    (news_box W ys e) h1 (by simp only [maxLen]; omega) hl (by simp; omega) ?_
  intro v1 w1 hown hg _ hat
  refine h v1 w1 hown ((HB.alloc hbase _).grown hg (by simp; omega) (row_base HO)) (World.grownBy.trans (World.grownBy_alloc W _ _) hg) ?_
  rcases hat with hat | hat
  · exact .inl hat
  · exact .inr ⟨_, hat, by simp⟩
end

/-- append(v, y) of a number. -/
theorem app_int {ops : Array Oper} {rest : List Oper} {o : Oper} {a : Act} {Q : Exit → Act → World → Prop} {w0 W : World} (base : Nat) (hgd : o.guard = none) (s x : Operand)
    (ho : o.op = .call { callee := .builtin .append, args := #[s, x], argTypes := #[22, 22] })
    (v : Value) (xs : List Int) (y : Int) (hs : a.eval s = v) (hx : a.eval x = .slice (some ⟨W.heap.size, 0, none⟩) 1 1)
    (HO : OwnI W base v xs) (HB : Below base w0 W) (hbase : base ≤ W.heap.size) (hl : xs.length ≤ 1000000000)
    (h : ∀ v1 w1, OwnI w1 base v1 (xs ++ [y]) → Below base w0 w1 → W.grownBy w1 v.ownBlock → (v1.ownBlock = v.ownBlock ∨ ∃ b, v1.ownBlock = some b ∧ W.heap.size ≤ b) → wpList Tryz.prog ops Q rest (a.put o.dst v1) w1) :
    wpList Tryz.prog ops Q (o :: rest) a (W.alloc (.cells #[.int .i64 y] 3)) :=
  app_cells base hgd s x 22 3 (.int .i64 0) 1 8 ho Tryz.underlying22 infoInt rfl (by decide) (by decide) v xs.length (nums xs) [.int .i64 y] hs hx rfl (by simp [Value.oneCell']) HO HB hbase (by omega)
    fun v1 w1 hown hB hg hat => h v1 w1 (by unfold OwnI nums; simpa using hown) hB hg hat

/-- The world is the old one, but for some draws. -/
def Drawn (w w' : World) : Prop := ∃ q, w' = w.drewN q
theorem Drawn.refl (w : World) : Drawn w w := ⟨0, rfl⟩
theorem Drawn.step {w w' : World} (h : Drawn w w') (n : Nat) : Drawn w (w'.drewN n) := by
  obtain ⟨q, rfl⟩ := h
  exact ⟨q + n, by simp⟩
theorem Drawn.drew {w w' : World} (h : Drawn w w') : Drawn w w'.drew := h.step 1
theorem Drawn.trans {a b c : World} (h : Drawn a b) (k : Drawn b c) : Drawn a c := by
  obtain ⟨q, rfl⟩ := k
  exact h.step q
theorem Drawn.heap {w w' : World} (h : Drawn w w') : w'.heap = w.heap := by
  obtain ⟨q, rfl⟩ := h
  rfl
theorem Drawn.below {w w' : World} (h : Drawn w w') (B : Nat) : Below B w w' := by
  obtain ⟨q, rfl⟩ := h
  exact below_draws (Below.refl _ _) q

/-- Number k of a list. -/
def gi (xs : List Int) (k : Nat) : Int := xs.getD k 0

/-- At A lie the n numbers xs. -/
def ReadI (w : World) (A : Option Addr) (n : Nat) (xs : List Int) : Prop :=
  xs.length = n ∧ n ≤ 9223372036854775807 ∧ (0 < n → ∃ b o, A = some ⟨b, o, none⟩ ∧ ∀ j, j < n → w.cell? ⟨b, o + j, none⟩ = some (.int .i64 (gi xs j)))

theorem ReadI.below {w w1 : World} {A : Option Addr} {n : Nat} {xs : List Int} (h : ReadI w A n xs) (hb : Below w.heap.size w w1) : ReadI w1 A n xs := by
  obtain ⟨h1, h2, h3⟩ := h
  refine ⟨h1, h2, fun hn => ?_⟩
  obtain ⟨b, o, hA, hc⟩ := h3 hn
  exact ⟨b, o, hA, fun j hj => (hb.cell (p := ⟨b, o + j, none⟩) (World.block_lt_of_cell? w _ (hc j hj))).trans (hc j hj)⟩

theorem ReadI.grown {w w1 : World} {A : Option Addr} {n : Nat} {xs : List Int} {row : Option Nat} (h : ReadI w A n xs) (hg : w.grownBy w1 row) (hr : ∀ b o, A = some ⟨b, o, none⟩ → some b ≠ row) : ReadI w1 A n xs := by
  obtain ⟨h1, h2, h3⟩ := h
  refine ⟨h1, h2, fun hn => ?_⟩
  obtain ⟨b, o, hA, hc⟩ := h3 hn
  exact ⟨b, o, hA, fun j hj => hg.cell (hc j hj) (hr b o hA)⟩

theorem ReadI.drawn {w w1 : World} {A : Option Addr} {n : Nat} {xs : List Int} (h : ReadI w A n xs) (hb : Drawn w w1) : ReadI w1 A n xs := h.below (hb.below _)

theorem ReadI.nil (w : World) (A : Option Addr) : ReadI w A 0 [] := ⟨rfl, by omega, fun h => absurd h (by omega)⟩

theorem ReadI.take {w : World} {A : Option Addr} {n : Nat} {xs : List Int} (h : ReadI w A n xs) (k : Nat) (hk : k ≤ n) : ReadI w A k (xs.take k) := by
  obtain ⟨h1, h2, h3⟩ := h
  refine ⟨by rw [List.length_take]; omega, by omega, fun hn => ?_⟩
  obtain ⟨b, o, hA, hc⟩ := h3 (by omega)
  refine ⟨b, o, hA, fun j hj => ?_⟩
  rw [hc j (by omega)]
  congr 2
  simp [gi, List.getD_eq_getElem?_getD, List.getElem?_take, hj]

theorem OwnI.read {w : World} {base : Nat} {v : Value} {xs : List Int} (h : OwnI w base v xs) : ∃ A c, v = .slice A xs.length c ∧ xs.length ≤ c ∧ c ≤ maxLen ∧ ReadI w A xs.length xs := by
  have hc := fun g hg => World.ownsRow.cells (g := g) h hg
  rcases h.2 with ⟨rfl, h0⟩ | ⟨g, cap, cur, rfl, hb, hg, hn, hm, _, _⟩
  · have e : xs = [] := List.eq_nil_of_length_eq_zero h0
    subst e
    exact ⟨none, 0, rfl, Nat.le_refl _, by decide, ReadI.nil _ _⟩
  · refine ⟨_, cap, rfl, hn, hm, rfl, by unfold maxLen at hm; omega, fun _ => ⟨g, 0, rfl, fun j hj => ?_⟩⟩
    have := hc g rfl j (.int .i64 (gi xs j)) (by simp [gi, nums, List.getD_eq_getElem?_getD, hj])
    rw [show (⟨g, 0, none⟩ : Addr).add j = ⟨g, 0 + j, none⟩ from by unfold Addr.add; split <;> simp_all] at this
    exact this

/-- What lies from place k of a list on. -/
theorem ReadI.drop {w : World} {b o n : Nat} {xs : List Int} (h : ReadI w (some ⟨b, o, none⟩) n xs) (k : Nat) (hk : k ≤ n) {A : Option Addr} (hA : k < n → A = some ⟨b, o + k, none⟩) : ReadI w A (n - k) (xs.drop k) := by
  obtain ⟨h1, h2, h3⟩ := h
  refine ⟨by rw [List.length_drop]; omega, by omega, fun hn => ?_⟩
  obtain ⟨b', o', e, hc⟩ := h3 (by omega)
  injection e with e
  injection e with e1 e2
  subst e1 e2
  refine ⟨b, o + k, hA (by omega), fun j hj => ?_⟩
  have := hc (k + j) (by omega)
  rw [show o + k + j = o + (k + j) from by omega, this]
  congr 2
  simp [gi, List.getD_eq_getElem?_getD, List.getElem?_drop]

theorem ReadI.news {w : World} {ad : Addr} {n : Nat} {xs : List Int} (h : ReadI w (some ad) n xs) : ∀ j u, (nums xs)[j]? = some u → w.cell? (ad.add j) = some u := by
  intro j u hu
  have hj : j < n := by
    have := (List.getElem?_eq_some_iff.1 hu).1
    rw [← h.1]
    simpa using this
  obtain ⟨b, o, e, hc⟩ := h.2.2 (by omega)
  injection e with e
  subst e
  rw [show (⟨b, o, none⟩ : Addr).add j = ⟨b, o + j, none⟩ from by unfold Addr.add; split <;> simp_all, hc j hj]
  rw [← hu]
  have : j < xs.length := by rw [h.1]; exact hj
  simp [gi, nums, List.getD_eq_getElem?_getD, this]

/-- xs[:k] and xs[k:] of a list of numbers, as the walk meets them: laid ahead of it. -/
theorem cut_to (A : Option Addr) (n c k : Nat) (I : Int) (hI : I = k) (hk : k ≤ c) (W : World) : (Instr.slice 22 (.slice A n c) none (some (.int .i64 I)) none).run Tryz.prog W = .ok (.slice A k c) W := by
  have hel : Tryz.prog.elem 22 = 3 := by simp [Program.elem, Tryz.underlying22]
  have hu : Tryz.prog.underlying 22 = some (.slice (Tryz.prog.elem 22)) := by rw [hel]; exact Tryz.underlying22
  obtain ⟨i0, hi, hz0, hz1, hz2⟩ := info_parts infoInt
  subst hI
  rw [run_slice_h W 22 A n c hu .i64 (k : Int) (Int.natCast_nonneg _) (by omega), hel]
  simp [sizeOf, typeInfo, hi, hz1, sliced, Result.andThen]
  cases A <;> simp [Addr.add]

theorem cut_from (b o n c k : Nat) (I : Int) (hI : I = k) (hk : k ≤ n) (hc : n ≤ c) :
    ∃ ad : Addr, (∀ W : World, (Instr.slice 22 (.slice (some ⟨b, o, none⟩) n c) (some (.int .i64 I)) none none).run Tryz.prog W = .ok (.slice (some ad) (n - k) (c - k)) W) ∧ (k < n → some ad = some ⟨b, o + k, none⟩) := by
  have hel : Tryz.prog.elem 22 = 3 := by simp [Program.elem, Tryz.underlying22]
  have hu : Tryz.prog.underlying 22 = some (.slice (Tryz.prog.elem 22)) := by rw [hel]; exact Tryz.underlying22
  obtain ⟨i0, hi, hz0, hz1, hz2⟩ := info_parts infoInt
  subst hI
  refine ⟨if c = k then ⟨b, o, none⟩ else ⟨b, o + k, none⟩, fun W => ?_, fun h => by rw [if_neg (by omega)]⟩
  rw [run_slice_l W 22 (some ⟨b, o, none⟩) n c hu .i64 (k : Int) (Int.natCast_nonneg _) (by omega), hel]
  simp [sizeOf, typeInfo, hi, hz1, sliced, Result.andThen]
  split
  · rfl
  · unfold Addr.add
    split <;> simp_all
end

section
open Go.RowKit
theorem take_succ_eq {xs : List Int} {k : Nat} (h : k < xs.length) : xs.take (k + 1) = xs.take k ++ [gi xs k] := by
  rw [List.take_succ_eq_append_getElem h]
  simp [gi, List.getD_eq_getElem?_getD, h]
end

section
open Go.RowKit
abbrev Ed := Int × Int
/-- The cells of edges. -/
def ecells : List Ed → List Value
  | [] => []
  | e :: es => .int .i64 e.1 :: .int .i64 e.2 :: ecells es
theorem ecells_length : ∀ es : List Ed, (ecells es).length = es.length * 2
  | [] => rfl
  | e :: es => by simp [ecells, ecells_length es]; omega
theorem ecells_append : ∀ es fs : List Ed, ecells (es ++ fs) = ecells es ++ ecells fs
  | [], fs => rfl
  | e :: es, fs => by simp [ecells, ecells_append es fs]
/-- Edge number k of a list. -/
def ge (es : List Ed) (k : Nat) : Ed := es.getD k (0, 0)
theorem ecells_at : ∀ (es : List Ed) (k : Nat), k < es.length → (ecells es)[k * 2]? = some (.int .i64 (ge es k).1) ∧ (ecells es)[k * 2 + 1]? = some (.int .i64 (ge es k).2)
  | [], k, h => by simp at h
  | e :: es, 0, _ => by simp [ecells, ge]
  | e :: es, k + 1, h => by
    have := ecells_at es k (by simpa using h)
    rw [show (k + 1) * 2 = k * 2 + 2 from by omega]
    simpa [ecells, ge] using this

def OwnE (w : World) (base : Nat) (v : Value) (es : List Ed) : Prop := w.ownsRow base 57 2 v es.length (ecells es)

/-- At A lie the n edges es. -/
def ReadE (w : World) (A : Option Addr) (n : Nat) (es : List Ed) : Prop :=
  es.length = n ∧ n ≤ 9223372036854775807 ∧ (0 < n → ∃ b o, A = some ⟨b, o, none⟩ ∧ ∀ j, j < n → w.cell? ⟨b, o + j * 2, none⟩ = some (.int .i64 (ge es j).1) ∧ w.cell? ⟨b, o + j * 2 + 1, none⟩ = some (.int .i64 (ge es j).2))

theorem ReadE.below {w w1 : World} {A : Option Addr} {n : Nat} {es : List Ed} (h : ReadE w A n es) (hb : Below w.heap.size w w1) : ReadE w1 A n es := by
  obtain ⟨h1, h2, h3⟩ := h
  refine ⟨h1, h2, fun hn => ?_⟩
  obtain ⟨b, o, hA, hc⟩ := h3 hn
  exact ⟨b, o, hA, fun j hj => ⟨cell_later hb (hc j hj).1, cell_later hb (hc j hj).2⟩⟩
theorem ReadE.drawn {w w1 : World} {A : Option Addr} {n : Nat} {es : List Ed} (h : ReadE w A n es) (hb : Drawn w w1) : ReadE w1 A n es := h.below (hb.below _)
theorem ReadE.grown {w w1 : World} {A : Option Addr} {n : Nat} {es : List Ed} {row : Option Nat} (h : ReadE w A n es) (hg : w.grownBy w1 row) (hr : ∀ b o, A = some ⟨b, o, none⟩ → some b ≠ row) : ReadE w1 A n es := by
  obtain ⟨h1, h2, h3⟩ := h
  refine ⟨h1, h2, fun hn => ?_⟩
  obtain ⟨b, o, hA, hc⟩ := h3 hn
  exact ⟨b, o, hA, fun j hj => ⟨hg.cell (hc j hj).1 (hr b o hA), hg.cell (hc j hj).2 (hr b o hA)⟩⟩
theorem ReadE.nil (w : World) (A : Option Addr) : ReadE w A 0 [] := ⟨rfl, by omega, fun h => absurd h (by omega)⟩

theorem OwnE.read {w : World} {base : Nat} {v : Value} {es : List Ed} (h : OwnE w base v es) : ∃ A c, v = .slice A es.length c ∧ es.length ≤ c ∧ c ≤ maxLen ∧ ReadE w A es.length es := by
  have hc := fun g hg => World.ownsRow.cells (g := g) h hg
  rcases h.2 with ⟨rfl, h0⟩ | ⟨g, cap, cur, rfl, hb, hg, hn, hm, hs, ht⟩
  · have e : es = [] := List.eq_nil_of_length_eq_zero h0
    subst e
    exact ⟨none, 0, rfl, Nat.le_refl _, by decide, ReadE.nil _ _⟩
  · have h2 : es.length ≤ 9223372036854775807 := by
      unfold maxLen at hm
      omega
    refine ⟨_, cap, rfl, hn, hm, rfl, h2, fun _ => ⟨g, 0, rfl, fun j hj => ?_⟩⟩
    obtain ⟨e1, e2⟩ := ecells_at es j hj
    have c1 := hc g rfl _ _ e1
    have c2 := hc g rfl _ _ e2
    rw [show (⟨g, 0, none⟩ : Addr).add (j * 2) = ⟨g, 0 + j * 2, none⟩ from by unfold Addr.add; split <;> simp_all] at c1
    rw [show (⟨g, 0, none⟩ : Addr).add (j * 2 + 1) = ⟨g, 0 + j * 2 + 1, none⟩ from by unfold Addr.add; simp] at c2
    exact ⟨c1, c2⟩

/-- Does an edge stand ahead of another one? -/
def ahead (a b : Ed) : Bool := decide (a.1 < b.1) || (a.1 == b.1 && decide (a.2 < b.2))

theorem ahead_any (a b : Ed) (w : World) : Calls Tryz.prog 44 #[.agg #[.int .i64 a.1, .int .i64 a.2], .agg #[.int .i64 b.1, .int .i64 b.2]] w fun e w' => e = .returned (.bool (ahead a b)) ∧ Below w.heap.size w w' := by
  obtain ⟨a1, a2⟩ := a
  obtain ⟨b1, b2⟩ := b
  unfold ahead
  simp only []
  have hb : Below w.heap.size w ((w.alloc (.cells #[.int .i64 a1, .int .i64 a2] 57)).alloc (.cells #[.int .i64 b1, .int .i64 b2] 57)) := ((Below.refl _ _).alloc (Nat.le_refl _) _).alloc (by simp) _
  have HB := Lib.hid hb
  clear hb
  by_cases h1 : a1 < b1
  · have h1' : decide (a1 < b1) = true := by simpa using h1
    go_enter Tryz.func44, Tryz.ntmps44
    go_wp2
    go_ret
    exact ⟨by simp [h1], HB⟩
  · have h1' : decide (a1 < b1) = false := by simpa using h1
    by_cases h2 : a1 = b1
    · subst h2
      go_enter Tryz.func44, Tryz.ntmps44
      go_wp2
      go_ret
      exact ⟨by simp, HB⟩
    · have h2' : (a1 == b1) = false := by simpa using h2
      go_enter Tryz.func44, Tryz.ntmps44
      go_wp2
      go_ret
      exact ⟨by simp [h2'], HB⟩
end

section
open Go.RowKit
def edgeOk (n : Int) (e : Ed) : Bool := decide (0 ≤ e.1) && (decide (e.1 < e.2) && decide (e.2 < n))
def okAt (n : Int) (es : List Ed) (i : Nat) : Bool := edgeOk n (ge es i) && (i == 0 || ahead (ge es (i - 1)) (ge es i))
def allTo (n : Int) (es : List Ed) : Nat → Bool
  | 0 => true
  | i + 1 => allTo n es i && okAt n es i
/-- Is it a graph? -/
def rightB (n : Int) (es : List Ed) : Bool := decide (0 ≤ n) && (decide (n ≤ 4096) && (decide (es.length ≤ 65536) && allTo n es es.length))

theorem allTo_false {n : Int} {es : List Ed} {k : Nat} (h : okAt n es k = false) : ∀ m, k < m → allTo n es m = false
  | 0, hm => absurd hm (by omega)
  | m + 1, hm => by
    rw [allTo]
    by_cases e : k = m
    · subst e
      simp [h]
    · rw [allTo_false h m (by omega)]
      rfl

theorem rightB_false {n : Int} {es : List Ed} {k : Nat} (h : okAt n es k = false) (hk : k < es.length) : rightB n es = false := by
  unfold rightB
  rw [allTo_false h _ hk]
  simp

/-- The variable that holds a graph. -/
abbrev gcells (N : Int) (A : Option Addr) (n c : Nat) : Obj := .cells #[.int .i64 N, .slice A n c] 25

theorem gbox {w wr : World} {N : Int} {A : Option Addr} {n c : Nat} (hb : Below (w.heap.size + 1) (w.alloc (gcells N A n c)) wr) :
    wr.cell? ⟨w.heap.size, 0, none⟩ = some (.int .i64 N) ∧ wr.cell? ⟨w.heap.size, 1, none⟩ = some (.slice A n c) := by
  have h := heap_alloc_new w (gcells N A n c)
  refine ⟨?_, ?_⟩
  · rw [hb.cell (p := ⟨w.heap.size, 0, none⟩) (by simp), cell_blk h]
    rfl
  · rw [hb.cell (p := ⟨w.heap.size, 1, none⟩) (by simp), cell_blk h]
    rfl

theorem below_box {w wr : World} {o : Obj} (hb : Below (w.heap.size + 1) (w.alloc o) wr) : Below w.heap.size w wr :=
  (Below.alloc (Below.refl _ _) (Nat.le_refl _) o).trans (hb.mono (by omega))

theorem ReadE.box {w wr : World} {o : Obj} {A : Option Addr} {n : Nat} {es : List Ed} (h : ReadE w A n es) (hb : Below (w.heap.size + 1) (w.alloc o) wr) : ReadE wr A n es := h.below (below_box hb)

def GB (w : World) (N : Int) (A : Option Addr) (n c : Nat) (w' : World) : Prop := Below (w.heap.size + 1) (w.alloc (gcells N A n c)) w'
theorem keep6 {w w0 w' : World} {N : Int} {A : Option Addr} {n c : Nat} {a1 a2 a3 a4 a5 : Addr} {v1 v2 v3 v4 v5 : Value} (hb : Below w.heap.size w w') (h : w.cell? a1 = some v1 ∧ w.cell? a2 = some v2 ∧ w.cell? a3 = some v3 ∧ w.cell? a4 = some v4 ∧ w.cell? a5 = some v5 ∧ GB w0 N A n c w) :
    w'.cell? a1 = some v1 ∧ w'.cell? a2 = some v2 ∧ w'.cell? a3 = some v3 ∧ w'.cell? a4 = some v4 ∧ w'.cell? a5 = some v5 ∧ GB w0 N A n c w' :=
  ⟨cell_later hb h.1, cell_later hb h.2.1, cell_later hb h.2.2.1, cell_later hb h.2.2.2.1, cell_later hb h.2.2.2.2.1, Below.trans h.2.2.2.2.2 (hb.mono (by have := Below.size h.2.2.2.2.2; simp at this; omega))⟩

set_option maxHeartbeats 1000000 in
theorem right_any {A : Option Addr} {n c : Nat} {es : List Ed} (N : Int) (w : World) (h : ReadE w A n es) :
    Calls Tryz.prog 27 #[.agg #[.int .i64 N, .slice A n c]] w fun e w' => e = .returned (.bool (rightB N es)) ∧ Below w.heap.size w w' := by
  have hn := h.2.1
  have H1 := Lib.hid h.1
  have hb0 : Below (w.heap.size + 1) (w.alloc (gcells N A n c)) (w.alloc (gcells N A n c)) := Below.refl _ _
  have HB0 := Lib.hid hb0
  clear hb0
  by_cases hN0 : N < 0
  · have hf : rightB N es = false := by unfold rightB; simp; omega
    rw [hf]
    clear hf
    go_enter Tryz.func27, Tryz.ntmps27
    go_wp2
    go_ret
    exact ⟨rfl, below_box HB0⟩
  by_cases hN1 : 4096 < N
  · have hf : rightB N es = false := by unfold rightB; simp; omega
    rw [hf]
    clear hf
    go_enter Tryz.func27, Tryz.ntmps27
    go_wp2
    go_ret
    exact ⟨rfl, below_box HB0⟩
  by_cases hn1 : 65536 < n
  · have hf : rightB N es = false := by unfold rightB; have := H1.out; simp; omega
    rw [hf]
    have hn1' : (65536 : Int) < (n : Int) := by omega
    clear hf
    go_enter Tryz.func27, Tryz.ntmps27
    go_wp2
    go_ret
    exact ⟨rfl, below_box HB0⟩
  have HR : Hid (rightB N es = allTo N es n) := by
    unfold Hid rightB
    rw [H1.out]
    simp [show 0 ≤ N from by omega, show N ≤ 4096 from by omega, show n ≤ 65536 from by omega]
  go_enter Tryz.func27, Tryz.ntmps27
  go_wp2
  go_loopw [3] (fun i wr => ∃ k : Nat, k ≤ n ∧ i = .int .i64 k ∧ Hid (allTo N es k = true) ∧ Below (w.heap.size + 1) (w.alloc (gcells N A n c)) wr) (fun i _ => n - (intOf i).toNat)
  case atStart => exact ⟨0, Nat.zero_le _, rfl, rfl, HB0⟩
  case round =>
    obtain ⟨k, hk, rfl, hall, hbr⟩ := hrel
    obtain ⟨g0, g1⟩ := gbox hbr
    have hrs := hbr.size
    simp at hrs
    have hlt0 : w.heap.size < wr.heap.size := by omega
    clear hrs
    by_cases hlt : k < n
    · obtain ⟨b, o, rfl, hc⟩ := (h.box hbr).2.2 (by omega)
      obtain ⟨hc1, hc2⟩ := hc k hlt
      cases hok : edgeOk N (ge es k)
      · have hfin : Hid (rightB N es = false) := rightB_false (k := k) (by unfold okAt; rw [hok]; rfl) (by have := H1.out; omega)
        clear hc
        have hbe : Hid (Below w.heap.size w (wr.alloc (.cells #[.int .i64 (ge es k).1, .int .i64 (ge es k).2] 57))) := (below_box hbr).alloc (by omega) _
        generalize ge es k = ek at *
        obtain ⟨e1, e2⟩ := ek
        simp only [edgeOk, Bool.and_eq_false_iff, decide_eq_false_iff_not] at hok
        by_cases q1 : e1 < 0
        · clear hok
          go_wp2
          go_ret
          exact ⟨by rw [hfin.out]; rfl, hbe⟩
        · have q1' : decide (e1 < 0) = false := by simpa using q1
          by_cases q2 : e2 ≤ e1
          · clear hok
            go_wp2
            go_ret
            exact ⟨by rw [hfin.out]; rfl, hbe⟩
          · have q3 : N ≤ e2 := by omega
            clear hok
            go_wp2
            go_ret
            exact ⟨by rw [hfin.out]; rfl, hbe⟩
      · have hbe : Hid (Below (w.heap.size + 1) (w.alloc (gcells N (some ⟨b, o, none⟩) n c)) (wr.alloc (.cells #[.int .i64 (ge es k).1, .int .i64 (ge es k).2] 57))) := hbr.alloc (by omega) _
        have HE : Hid (edgeOk N (ge es k) = true) := hok
        generalize hek : ge es k = ek at *
        obtain ⟨e1, e2⟩ := ek
        simp only [edgeOk, Bool.and_eq_true, decide_eq_true_eq] at hok
        obtain ⟨q1, q2, q3⟩ := hok
        have HK := Lib.hid hek
        clear hek
        rcases Nat.eq_zero_or_pos k with rfl | hk0
        · have hstep : Hid (allTo N es (0 + 1) = true) := by
            unfold Hid
            rw [allTo, okAt, HK.out, HE.out]
            rfl
          clear hc
          simp only [Nat.zero_mul, Nat.add_zero] at hc1 hc2
          go_wp2_with fail
          go_quiet (fail)
          go_wp2
          go_roundw
          case rel => exact ⟨0 + 1, by omega, by go_num, hstep, below_draws hbe _⟩
          case measure => simp [intOf]; omega
        · obtain ⟨j, rfl⟩ : ∃ j, k = j + 1 := ⟨k - 1, by omega⟩
          obtain ⟨hd1, hd2⟩ := hc j (by omega)
          have hca := fun w => ahead_any (ge es j) (e1, e2) w
          have hstep : ahead (ge es j) (e1, e2) = true → allTo N es (j + 1 + 1) = true := fun h => by
            rw [allTo, hall.out, okAt, HK.out, HE.out]
            simp [h]
          have hstop : ahead (ge es j) (e1, e2) = false → rightB N es = false := fun h =>
            rightB_false (k := j + 1) (by rw [okAt, HK.out, HE.out]; simp [h]) (by have := H1.out; omega)
          have HST := Lib.hid hstep
          have HSP := Lib.hid hstop
          clear hc hstep hstop
          generalize ge es j = ej at *
          obtain ⟨f1, f2⟩ := ej
          have k0 : decide ((0 : Int) < (j : Int) + 1) = true := by rw [decide_eq_true_eq]; omega
          have ew : IntKind.i64.wrap ((j : Int) + 1 - 1) = (j : Int) := by rw [IntKind.wrap_i64]; omega
          have ew2 : IntKind.i64.wrap (j : Int) = (j : Int) := by rw [IntKind.wrap_i64]; omega
          have j1 : (0 : Int) ≤ (j : Int) ∧ (j : Int) < (n : Int) := by omega
          have hS : Hid ((wr.alloc (.cells #[.int .i64 e1, .int .i64 e2] 57)).drew.cell? ⟨w.heap.size, 1, none⟩ = some (.slice (some ⟨b, o, none⟩) n c) ∧ (wr.alloc (.cells #[.int .i64 e1, .int .i64 e2] 57)).drew.cell? ⟨b, o + j * 2, none⟩ = some (.int .i64 f1) ∧ (wr.alloc (.cells #[.int .i64 e1, .int .i64 e2] 57)).drew.cell? ⟨b, o + j * 2 + 1, none⟩ = some (.int .i64 f2) ∧ (wr.alloc (.cells #[.int .i64 e1, .int .i64 e2] 57)).drew.cell? ⟨wr.heap.size, 0, none⟩ = some (.int .i64 e1) ∧ (wr.alloc (.cells #[.int .i64 e1, .int .i64 e2] 57)).drew.cell? ⟨wr.heap.size, 1, none⟩ = some (.int .i64 e2) ∧ GB w N (some ⟨b, o, none⟩) n c (wr.alloc (.cells #[.int .i64 e1, .int .i64 e2] 57)).drew) := by
            have hbn : Below wr.heap.size wr (wr.alloc (.cells #[.int .i64 e1, .int .i64 e2] 57)).drew := (Below.alloc (Below.refl _ _) (Nat.le_refl _) _).trans ((Drawn.refl _).drew.below _)
            have hnw := heap_alloc_new wr (.cells #[.int .i64 e1, .int .i64 e2] 57)
            refine ⟨cell_later hbn g1, cell_later hbn hd1, cell_later hbn hd2, ?_, ?_, hbe.trans ((Drawn.refl _).drew.below _)⟩
            · exact (cell_blk hnw 0).trans rfl
            · exact (cell_blk hnw 1).trans rfl
          cases hah : ahead (f1, f2) (e1, e2)
          all_goals
            rw [hah] at hca
            have HAH := Lib.hid hah
            clear hah
            go_wp2_with fail
            go_region_held3 (fun w' => w'.cell? ⟨w.heap.size, 1, none⟩ = some (.slice (some ⟨b, o, none⟩) n c) ∧ w'.cell? ⟨b, o + j * 2, none⟩ = some (.int .i64 f1) ∧ w'.cell? ⟨b, o + j * 2 + 1, none⟩ = some (.int .i64 f2) ∧ w'.cell? ⟨wr.heap.size, 0, none⟩ = some (.int .i64 e1) ∧ w'.cell? ⟨wr.heap.size, 1, none⟩ = some (.int .i64 e2) ∧ GB w N (some ⟨b, o, none⟩) n c w')
              (first | exact hS.out | exact keep6 hb9 (by assumption))
              ((go_at_call 44; refine (hca _).mono ?_; rintro e w9 ⟨rfl, hb9⟩))
            have hfin : GB w N (some ⟨b, o, none⟩) n c w9 := And.right (And.right (And.right (And.right (And.right (by assumption)))))
            go_wp2
            first
              | exact ⟨⟨j + 1 + 1, by omega, by go_num, HST.out HAH.out, hfin⟩, by simp [intOf]; omega⟩
              | (go_ret
                 exact ⟨by rw [HSP.out HAH.out]; rfl, below_box hfin⟩)
    · have hfin : Hid (rightB N es = true) := by
        unfold Hid
        rw [HR.out, show n = k from by omega]
        exact hall
      go_wp2
      go_ret
      exact ⟨by rw [hfin.out]; rfl, below_box hbr⟩
end

end Go.Proofs.YtbnipgajhpbolaaGreatDoor
