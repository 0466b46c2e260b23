/- What Add adds, a cycle's sides and rings, the plain laws of the last three Sides statements, a graph in a variable. -/
import Derived.Test.YtnldfjoadmehcaaSdPure
import Derived.Test.YtnldfjoadmehcaaSdTell
import Derived.Test.YtnldfjoadmehcaaSmall
import Derived.Test.YtnldfjoadmehcaaTools
set_option linter.unusedVariables false
set_option linter.unusedSimpArgs false
namespace Go.Proofs.Ytnldfjoadmehcaa
open Go.RowKit

/- What Add adds, for the sides. -/
theorem add_put {m a b : Int} {es : List Ed} (hr : rightB m es = true) (h : (addP m es a b).2.2 = 0) : (addP m es a b).2.1 = putE es (turnE a b) ∧ a ≠ b ∧ isB m a = true ∧ isB m b = true := by
  unfold addP at *
  rw [if_neg (by rw [hr]; simp)] at *
  by_cases h1 : (isB m a && isB m b) = false
  · rw [if_pos h1] at h
    simp at h
  rw [if_neg h1] at *
  by_cases h2 : a = b
  · rw [if_pos h2] at h
    simp at h
  rw [if_neg h2] at *
  by_cases h3 : hasB m es a b = true
  · rw [if_pos h3] at h
    simp at h
  rw [if_neg h3] at *
  by_cases h4 : 65536 ≤ es.length
  · rw [if_pos h4] at h
    simp at h
  rw [if_neg h4] at *
  simp only [Bool.not_eq_false, Bool.and_eq_true] at h1
  exact ⟨rfl, h2, h1.1, h1.2⟩
theorem add_zero {m a b : Int} {es : List Ed} (hr : rightB m es = true) (ha : isB m a = true) (hb : isB m b = true) (hab : a ≠ b) (hn : turnE a b ∉ es) (hl : es.length < 65536) : (addP m es a b).2.2 = 0 := by
  unfold addP
  rw [if_neg (by rw [hr]; simp), if_neg (by rw [ha, hb]; simp), if_neg hab, if_neg (fun k => hn ((hasB_iff hr).1 k)), if_neg (by omega)]
theorem nxt_put {N : Nat} {es : List Ed} {a b x y : Nat} (hr : Rise N es) (hr' : Rise N (putE es (turnE a b))) : Nxt (putE es (turnE a b)) x y ↔ Nxt es x y ∨ (x = a ∧ y = b) ∨ (x = b ∧ y = a) := by
  unfold Nxt
  rw [← mem_turn hr', ← mem_turn hr, mem_putE]
  constructor
  · rintro (h | h)
    · right
      unfold turnE at h
      split at h <;> split at h <;> simp only [Prod.mk.injEq] at h <;> omega
    · exact .inl h
  · rintro (h | ⟨rfl, rfl⟩ | ⟨rfl, rfl⟩)
    · exact .inr h
    · exact .inl rfl
    · left
      unfold turnE
      split <;> split <;> simp only [Prod.mk.injEq] <;> omega
/-- An odd ring that one more edge makes holds both its ends. -/
theorem ring_both {N : Nat} {es : List Ed} {a b : Nat} {t c : List Int} (hr : Rise N es) (hr' : Rise N (putE es (turnE a b))) (ht : TwoCol N es t) (h : OddRing (putE es (turnE a b)) c) : (a : Int) ∈ c ∧ (b : Int) ∈ c := by
  have hmem : ∀ i, i < c.length → gi c i ∈ c := fun i hi => by rw [gi_at hi]; exact List.getElem_mem _
  have key : ∀ z : Nat, (z = a ∨ z = b) → (z : Int) ∉ c → False := fun z hz hn => by
    refine odd_none hr (c := c) (t := t) ⟨⟨h.1.nod, fun i hi => ?_⟩, h.2⟩ ht
    obtain ⟨x, y, e1, e2, e3⟩ := h.1.nxt i hi
    have m1 := hmem i hi
    have m2 := hmem ((i + 1) % c.length) (Nat.mod_lt _ (by omega))
    refine ⟨x, y, e1, e2, ?_⟩
    have n1 : x ≠ z := fun q => hn (by rw [← q, ← e1]; exact m1)
    have n2 : y ≠ z := fun q => hn (by rw [← q, ← e2]; exact m2)
    rcases (nxt_put hr hr').1 e3 with q | ⟨q1, q2⟩ | ⟨q1, q2⟩
    · exact q
    · omega
    · omega
  exact ⟨Classical.byContradiction fun q => key a (.inl rfl) q, Classical.byContradiction fun q => key b (.inr rfl) q⟩
/-- The first k edges of a cycle of n. -/
def CycK (n : Nat) (es : List Ed) (k : Nat) : Prop := ∀ x y : Nat, Nxt es x y ↔ ∃ i, i < k ∧ ((x = i ∧ y = (i + 1) % n) ∨ (y = i ∧ x = (i + 1) % n))
theorem cyc_none (n : Nat) : CycK n [] 0 := fun x y => ⟨fun h => (by cases h), fun ⟨i, hi, _⟩ => absurd hi (by omega)⟩
theorem cyc_step {N n k : Nat} {es : List Ed} (hr : Rise N es) (hr' : Rise N (putE es (turnE k ((k + 1) % n : Nat)))) (h : CycK n es k) : CycK n (putE es (turnE k ((k + 1) % n : Nat))) (k + 1) := fun x y => by
  rw [nxt_put hr hr', h x y]
  constructor
  · rintro (⟨i, hi, q⟩ | ⟨rfl, rfl⟩ | ⟨rfl, rfl⟩)
    · exact ⟨i, by omega, q⟩
    · exact ⟨_, Nat.lt_succ_self _, .inl ⟨rfl, rfl⟩⟩
    · exact ⟨_, Nat.lt_succ_self _, .inr ⟨rfl, rfl⟩⟩
  · rintro ⟨i, hi, q⟩
    by_cases e : i = k
    · subst e
      rcases q with ⟨a, b⟩ | ⟨a, b⟩
      · exact .inr (.inl ⟨a, b⟩)
      · exact .inr (.inr ⟨b, a⟩)
    · exact .inl ⟨i, by omega, q⟩
theorem cyc_succ {n i : Nat} (hi : i < n) : (i + 1) % n = if i + 1 < n then i + 1 else 0 := by
  split
  · exact Nat.mod_eq_of_lt (by assumption)
  · rw [show i + 1 = n from by omega, Nat.mod_self]
theorem cyc_free {N n k : Nat} {es : List Ed} (hr : Rise N es) (h : CycK n es k) (hk : k < n) (h3 : 3 ≤ n) : turnE k ((k + 1) % n : Nat) ∉ es := fun hm => by
  obtain ⟨i, hi, q⟩ := (h k ((k + 1) % n)).1 ((mem_turn hr).1 hm)
  rw [cyc_succ hk, cyc_succ (show i < n by omega)] at q
  rcases q with ⟨q, -⟩ | ⟨q1, q2⟩
  · omega
  · split at q1 <;> split at q2 <;> omega
/-- A cycle of an even number: its sides. -/
theorem cyc_even {N n : Nat} {es : List Ed} (h : CycK n es n) (hn : n % 2 = 0) (h3 : 3 ≤ n) : TwoCol N es ((List.range N).map fun v => if v < n then ((v % 2 : Nat) : Int) else 0) ∨ ¬ n ≤ N := by
  by_cases hnN : n ≤ N
  · left
    have hg : ∀ v, v < N → gi ((List.range N).map fun v => if v < n then ((v % 2 : Nat) : Int) else 0) v = if v < n then ((v % 2 : Nat) : Int) else 0 := fun v hv => by
      simp [gi, List.getD_eq_getElem?_getD, hv]
    refine ⟨by simp, fun v hv => ?_, fun x y e => ?_⟩
    · rw [hg v hv]
      split <;> omega
    · obtain ⟨i, hi, q⟩ := (h x y).1 e
      rw [cyc_succ hi] at q
      rcases q with ⟨rfl, q⟩ | ⟨rfl, q⟩
      · rw [hg _ (by omega), hg _ (by split at q <;> omega)]
        split at q <;> subst q <;> simp <;> omega
      · rw [hg _ (by split at q <;> omega), hg _ (by omega)]
        split at q <;> subst q <;> simp <;> omega
  · exact .inr hnN
theorem gi_rangeMap (f : Nat → Int) {N v : Nat} (hv : v < N) : gi ((List.range N).map f) v = f v := by simp [gi, List.getD_eq_getElem?_getD, hv]
theorem cyc_odd {N n : Nat} {es : List Ed} (h : CycK n es n) (hn : n % 2 = 1) (h3 : 3 ≤ n) : OddRing es ((List.range n).map fun v : Nat => (v : Int)) := by
  refine ⟨⟨?_, fun i hi => ?_⟩, by simpa using h3, by simpa using hn⟩
  · refine List.pairwise_iff_getElem.2 fun i j hi hj hij e => ?_
    simp at e
    omega
  · simp only [List.length_map, List.length_range] at hi ⊢
    have := Nat.mod_lt (i + 1) (show 0 < n by omega)
    exact ⟨i, (i + 1) % n, gi_rangeMap _ hi, gi_rangeMap _ this, (h _ _).2 ⟨i, hi, .inl ⟨rfl, rfl⟩⟩⟩
theorem le_nodup : ∀ {n : Nat} {l : List Int}, (∀ x : Nat, x < n → (x : Int) ∈ l) → n ≤ l.length
  | 0, l, _ => Nat.zero_le _
  | n + 1, l, h => by
    have h1 := le_nodup (n := n) (l := l.erase (n : Int)) fun x hx => (List.mem_erase_of_ne (by omega)).2 (h x (by omega))
    have h2 := h n (by omega)
    rw [List.length_erase_of_mem h2] at h1
    have := List.length_pos_of_mem h2
    omega
/-- The odd ring of an odd cycle is all of it. -/
theorem cyc_len {N n : Nat} {es : List Ed} {c : List Int} (hr : Rise N es) (h : CycK n es n) (hc : OddRing es c) : c.length = n := by
  have hmem : ∀ i, i < c.length → gi c i ∈ c := fun i hi => by rw [gi_at hi]; exact List.getElem_mem _
  have hadj : ∀ x y : Nat, Nxt es x y → x < n ∧ y < n := fun x y e => by
    obtain ⟨i, hi, q⟩ := (h x y).1 e
    rw [cyc_succ hi] at q
    rcases q with ⟨rfl, q⟩ | ⟨rfl, q⟩ <;> split at q <;> omega
  have h1 : c.length ≤ n := nodup_le hc.1.nod fun x hx => by
    obtain ⟨i, hi, rfl⟩ := List.getElem_of_mem hx
    obtain ⟨a, b, e, -, hab⟩ := hc.1.nxt i hi
    rw [gi_at hi] at e
    have := (hadj a b hab).1
    omega
  have h2 : n ≤ c.length := le_nodup fun z hz => Classical.byContradiction fun hn => by
    have hR : Rise N (es.filter fun e => decide (e.1 ≠ (z : Int)) && decide (e.2 ≠ (z : Int))) := ⟨fun e he => hr.1 e (List.mem_filter.1 he).1, hr.2.filter _⟩
    have hN : ∀ x y : Nat, Nxt (es.filter fun e => decide (e.1 ≠ (z : Int)) && decide (e.2 ≠ (z : Int))) x y ↔ Nxt es x y ∧ x ≠ z ∧ y ≠ z := fun x y => by
      unfold Nxt
      rw [mem_nearV, mem_nearV, List.mem_filter, List.mem_filter]
      simp only [Bool.and_eq_true, decide_eq_true_eq]
      constructor
      · rintro (⟨a, b, d⟩ | ⟨a, b, d⟩)
        · exact ⟨.inl a, by omega, by omega⟩
        · exact ⟨.inr a, by omega, by omega⟩
      · rintro ⟨a | a, b, d⟩
        · exact .inl ⟨a, by omega, by omega⟩
        · exact .inr ⟨a, by omega, by omega⟩
    refine odd_none hR (c := c) (t := (List.range N).map fun v => if z ≤ v then (((v - z) % 2 : Nat) : Int) else (((v + n - z) % 2 : Nat) : Int)) ⟨⟨hc.1.nod, fun i hi => ?_⟩, hc.2⟩ ⟨by simp, fun v hv => ?_, fun x y e => ?_⟩
    · obtain ⟨x, y, e1, e2, e3⟩ := hc.1.nxt i hi
      have m1 := hmem i hi
      have m2 := hmem ((i + 1) % c.length) (Nat.mod_lt _ (by omega))
      exact ⟨x, y, e1, e2, (hN x y).2 ⟨e3, fun q => hn (by rw [← q, ← e1]; exact m1), fun q => hn (by rw [← q, ← e2]; exact m2)⟩⟩
    · rw [gi_rangeMap _ hv]
      split <;> omega
    · obtain ⟨e1, e2, e3⟩ := (hN x y).1 e
      obtain ⟨b1, b2, -⟩ := e1.lt hr
      obtain ⟨i, hi, q⟩ := (h x y).1 e1
      rw [gi_rangeMap _ b1, gi_rangeMap _ b2]
      rw [cyc_succ hi] at q
      rcases q with ⟨rfl, q⟩ | ⟨rfl, q⟩ <;> split at q <;> split <;> split <;> omega
  omega

/- The plain laws of SidesCycles, SidesEither, SidesBeside. -/
theorem pl_cases {N : Nat} {es : List Ed} {xs r : List Int} {er : Int} (hR : rightB N es = true) (h : SPl N es xs r er) : (SideOk N es xs ∧ r = [] ∧ er = 0) ∨ (xs = [] ∧ OddRing es r ∧ er = 10) := by
  rcases h with ⟨h1, -⟩ | ⟨M, e, -, h2⟩
  · rw [h1] at hR; cases hR
  · have : M = N := by omega
    subst this
    exact h2
theorem cyc_yes {N n : Nat} {es : List Ed} {xs r : List Int} {er : Int} (hR : rightB N es = true) (h : CycK n es n) (hn : n % 2 = 0) (h3 : 3 ≤ n) (hnN : n ≤ N) (hp : SPl N es xs r er) : er = 0 ∧ xs.length = N ∧ gi xs 1 = 1 ∧ r = [] := by
  have hr := (rightB_iff.1 hR).2.2.2
  have ht : TwoCol N es ((List.range N).map fun v => if v < n then ((v % 2 : Nat) : Int) else 0) := (cyc_even (N := N) h hn h3).resolve_right (by omega)
  rcases pl_cases hR hp with ⟨⟨a1, a2⟩, b, c⟩ | ⟨-, b, -⟩
  · refine ⟨c, a1.len, ?_, b⟩
    obtain ⟨q, w, m⟩ := a2 1 (by omega)
    have e : Nxt es 0 1 := (h 0 1).2 ⟨0, by omega, .inl ⟨rfl, by rw [cyc_succ (by omega), if_pos (by omega)]⟩⟩
    have w2 : Way es 0 1 true := .step (.here 0) e
    have : q = 0 := by have := m _ _ (w.trans w2.symm); omega
    subst this
    have := two_parity hr ht w w2 (by omega)
    simpa using this
  · exact absurd ht (odd_none hr b)
theorem cyc_no {N n : Nat} {es : List Ed} {xs r : List Int} {er : Int} (hR : rightB N es = true) (h : CycK n es n) (hn : n % 2 = 1) (h3 : 3 ≤ n) (hp : SPl N es xs r er) : er = 10 ∧ r.length = n ∧ isCycB N es r = true ∧ xs = [] := by
  have hr := (rightB_iff.1 hR).2.2.2
  rcases pl_cases hR hp with ⟨⟨a1, -⟩, -⟩ | ⟨a, b, c⟩
  · exact absurd a1 (odd_none hr (cyc_odd (N := N) h hn h3))
  · exact ⟨c, cyc_len hr h b, (cyc_ring hR).2 ⟨b.1, b.2.1⟩, a⟩

/-- Each edge joins one below left and one that is not. -/
def Cross (left : Nat) (es : List Ed) : Prop := ∀ x y : Nat, Nxt es x y → (x < left ∧ left ≤ y) ∨ (y < left ∧ left ≤ x)
theorem cross_none (left : Nat) : Cross left [] := fun x y h => by cases h
theorem cross_put {N left a b : Nat} {es : List Ed} (hr : Rise N es) (hr' : Rise N (putE es (turnE a b))) (h : Cross left es) (ha : a < left) (hb : left ≤ b) : Cross left (putE es (turnE a b)) := fun x y e => by
  rcases (nxt_put hr hr').1 e with q | ⟨q1, q2⟩ | ⟨q1, q2⟩
  · exact h x y q
  · omega
  · omega
theorem cross_two {N left : Nat} {es : List Ed} (hr : Rise N es) (h : Cross left es) : TwoCol N es ((List.range N).map fun v : Nat => if v < left then (0 : Int) else 1) := by
  refine ⟨by simp, fun v hv => ?_, fun x y e => ?_⟩
  · rw [gi_rangeMap _ hv]
    split
    · exact .inl rfl
    · exact .inr rfl
  · obtain ⟨b1, b2, -⟩ := e.lt hr
    rw [gi_rangeMap _ b1, gi_rangeMap _ b2]
    rcases h x y e with ⟨q1, q2⟩ | ⟨q1, q2⟩
    · rw [if_pos q1, if_neg (by omega)]; decide
    · rw [if_neg (by omega), if_pos q1]; decide
theorem two_yes {N : Nat} {es : List Ed} {xs r t : List Int} {er : Int} (hR : rightB N es = true) (ht : TwoCol N es t) (hp : SPl N es xs r er) : er = 0 ∧ TwoCol N es xs := by
  rcases pl_cases hR hp with ⟨⟨a1, -⟩, -, c⟩ | ⟨-, b, -⟩
  · exact ⟨c, a1⟩
  · exact absurd ht (odd_none (rightB_iff.1 hR).2.2.2 b)
theorem two_edge {N : Nat} {es : List Ed} {xs : List Int} (hr : Rise N es) (ht : TwoCol N es xs) {x y : Nat} (hm : ((x : Int), (y : Int)) ∈ es) : (gi xs x == gi xs y) = false ∧ decide (gi xs x < 0) = false ∧ decide (1 < gi xs x) = false := by
  have e := (nxt_edge hr).2 (.inl hm)
  obtain ⟨h1, -, -⟩ := e.lt hr
  have h2 := ht.val x h1
  refine ⟨by simpa using ht.dif _ _ e, decide_eq_false (by omega), decide_eq_false (by omega)⟩
theorem either_end {N a b : Nat} {es : List Ed} {xs r t : List Int} {er : Int} (hR : rightB N es = true) (hR' : rightB N (putE es (turnE a b)) = true) (ht : TwoCol N es t) (hp : SPl N (putE es (turnE a b)) xs r er) :
    (er = 0 ∧ r.length = 0) ∨ (er = 10 ∧ isCycB N (putE es (turnE a b)) r = true ∧ r.length % 2 = 1 ∧ (a : Int) ∈ r ∧ (b : Int) ∈ r) := by
  rcases pl_cases hR' hp with ⟨-, b, c⟩ | ⟨-, b, c⟩
  · exact .inl ⟨c, by rw [b]; rfl⟩
  · obtain ⟨h1, h2⟩ := ring_both (rightB_iff.1 hR).2.2.2 (rightB_iff.1 hR').2.2.2 ht b
    exact .inr ⟨c, (cyc_ring hR').2 ⟨b.1, b.2.1⟩, b.2.2, h1, h2⟩

/- A graph in a variable, and what came later; what Add adds. -/
/-- The graph's variable, and what came later. -/
def GC (w : World) (m : Int) (v : Value) (es : List Ed) (W : World) : Prop :=
  Below w.heap.size w W ∧ w.heap.size + 1 ≤ W.heap.size ∧ W.heap[w.heap.size]? = some (.cells #[.int .i64 m, v] 26 (0, 0)) ∧ OwnE W (w.heap.size + 1) v es
section
variable {w W W' : World} {m : Int} {v : Value} {es : List Ed}
theorem GC.later (h : GC w m v es W) (g : Below W.heap.size W W') : GC w m v es W' := by
  obtain ⟨h1, h2, h3, h4⟩ := h
  exact ⟨below_after h1 h1.size g, by have := g.size; omega, (g.block _ (by omega)).trans h3, row_below h4 g⟩
theorem GC.drew (h : GC w m v es W) : GC w m v es W.drew := h.later ((Drawn.refl _).drew.below _)
theorem GC.size (h : GC w m v es W) : w.heap.size + 1 ≤ W.heap.size := h.2.1
theorem GC.cells (h : GC w m v es W) : W.cell? ⟨w.heap.size, 0, none⟩ = some (.int .i64 m) ∧ W.cell? ⟨w.heap.size, 1, none⟩ = some v := ⟨(cell_blk h.2.2.1 0).trans rfl, (cell_blk h.2.2.1 1).trans rfl⟩
theorem GC.froz (h : GC w m v es W) : W.frozen? ⟨w.heap.size, 0, none⟩ = false ∧ W.frozen? ⟨w.heap.size, 1, none⟩ = false := ⟨frozen_blk h.2.2.1 0, frozen_blk h.2.2.1 1⟩
theorem GC.store {m' : Int} {v' : Value} {es' : List Ed} (h : GC w m v es W) (o : OwnE W (w.heap.size + 1) v' es') : GC w m' v' es' ((W.setCell ⟨w.heap.size, 0, none⟩ (.int .i64 m')).setCell ⟨w.heap.size, 1, none⟩ v') := by
  obtain ⟨h1, h2, h3, h4⟩ := h
  refine ⟨Below.setCell (Below.setCell h1 (Nat.le_refl _) _) (Nat.le_refl _) _, by simpa [World.setCell] using h2, ?_, own_set2 o (Nat.lt_succ_self _)⟩
  exact Go.Proofs.YtnldfjoadmehcaaW.PrintWords.blk_put (cs := #[.int .i64 m', v]) (Go.Proofs.YtnldfjoadmehcaaW.PrintWords.blk_put (cs := #[.int .i64 m, v]) h3 0 _ rfl) 1 _ rfl
end

/-- Add of two that are not joined. -/
theorem add_sure {m a b : Int} {es : List Ed} {A : Option Addr} {l c : Nat} (hr : rightB m es = true) (hc : l ≤ c) (ha : isB m a = true) (hb : isB m b = true) (hab : a ≠ b) (hn : turnE a b ∉ es) (hl : es.length < 65536) (W : World) (h : ReadE W A l es) :
    Calls Try.prog 64 #[.agg #[.int .i64 m, .slice A l c], .int .i64 a, .int .i64 b] W fun e w' =>
      ∃ A' c', e = .returned (.tuple #[.agg #[.int .i64 m, .slice A' (es.length + 1) c'], .int .i64 0]) ∧ OwnE w' (W.heap.size + 2) (.slice A' (es.length + 1) c') (putE es (turnE a b)) ∧ rightB m (putE es (turnE a b)) = true ∧ (putE es (turnE a b)).length = es.length + 1 ∧ Below W.heap.size W w' := by
  refine (add_any m a b W h hc).mono ?_
  rintro e w' ⟨g, rfl, v, rfl, own, hbl⟩
  have h0 := add_zero hr ha hb hab hn hl
  obtain ⟨h1, h2, h3⟩ := add_ok hr h0
  obtain ⟨h4, -⟩ := add_put hr h0
  rw [h0, h1]
  rw [h4] at own h2 h3
  obtain ⟨A', c', rfl, -, -, -⟩ := OwnE.read own
  rw [h3] at own ⊢
  exact ⟨_, _, rfl, own, h2, rfl, hbl⟩

end Go.Proofs.Ytnldfjoadmehcaa
