/- A row of rows of one's own (graph.Lists) -/
import Derived.Test.YtbnipgajhpbolaaGreatDoorTe08
import Derived.Test.YtbnipgajhpbolaaGreatDoorTe07
set_option linter.unusedVariables false
set_option linter.unusedSimpArgs false
namespace Go.Proofs.YtbnipgajhpbolaaGreatDoor

section
open Go.RowKit
/-- Block G: N slices; slice i owns the numbers L i; all blocks apart. -/
structure Rows (W : World) (G base N : Nat) (vs : Nat → Value) (L : Nat → List Int) : Prop where
  row : RowF W G 22 N vs
  own : ∀ i, i < N → OwnI W base (vs i) (L i)
  apart : ∀ i j, i < N → j < N → i ≠ j → ∀ k, (vs i).ownBlock = some k → (vs j).ownBlock ≠ some k
  off : ∀ i, i < N → (vs i).ownBlock ≠ some G

/-- append(v, ys...) of numbers, as a step of a region that draws its order; nil is let in. -/
theorem step_appI {ops : Array Oper} {o : Oper} {a : Act} {w : World} {K : Act → World → Prop} {Q : Exit → Act → World → Prop} {E : Prop} (base : Nat) (hw : Region.wanted o (yielded ops a.tmps) = true) (s x : Operand)
    (ho : o.op = .call { callee := .builtin .append, args := #[s, x], argTypes := #[22, 22] }) (v : Value) (xs ys : List Int) (hs : a.eval s = v) (HO : OwnI w base v xs) (hbase : base ≤ w.heap.size)
    (A : Option Addr) (m c : Nat) (hx : a.eval x = .slice A m c) (hr : ReadI w A m ys) (hl : xs.length + m ≤ 1000000000)
    (h : ∀ v1 w1, OwnI w1 base v1 (xs ++ ys) → w.grownBy w1 v.ownBlock → (v1.ownBlock = v.ownBlock ∨ v1.ownBlock = some w.heap.size) → K (a.put o.dst v1) w1) :
    if Region.wanted o (yielded ops a.tmps) = true then Oper.wp Tryz.prog o a w K Q else E := by
  rw [if_pos hw]
  obtain ⟨v', w', hrun, h2, h3, h5⟩ := run_appI w o.type base v xs ys HO hbase A m c hr hl
  unfold Oper.wp execOp
  simp only [ho, resolve, invoke, builtin, Sem.run_bind, Sem.run_pure, Result.andThen_ok, List.map_toArray, List.map_cons, List.map_nil, hs, hx, hrun]
  exact h v' w' h2 h3 h5

theorem own_later {W W1 : World} {base : Nat} {v : Value} {xs : List Int} (h : OwnI W base v xs) (hb : Below W.heap.size W W1) : OwnI W1 base v xs := by
  unfold OwnI at *
  refine ⟨h.1, ?_⟩
  rcases h.2 with ⟨rfl, h0⟩ | ⟨g, cap, cur, rfl, hb', hg', r⟩
  · exact .inl ⟨rfl, h0⟩
  · exact .inr ⟨g, cap, cur, rfl, hb', (hb.block g (blk_lt hg')).trans hg', r⟩
theorem Rows.later {W W1 : World} {G base N : Nat} {vs : Nat → Value} {L : Nat → List Int} (r : Rows W G base N vs L) (hb : Below W.heap.size W W1) : Rows W1 G base N vs L :=
  ⟨r.row.later hb, fun i hi => own_later (r.own i hi) hb, r.apart, r.off⟩

theorem own_setCell {W : World} {base G j : Nat} {v u : Value} {xs : List Int} (h : OwnI W base v xs) (ho : v.ownBlock ≠ some G) : OwnI (W.setCell ⟨G, j, none⟩ u) base v xs :=
  own_grown h (grown_set W G j u) fun k hk e => ho (by rw [hk, e])

theorem Rows.put {W W1 : World} {G base N i : Nat} {vs : Nat → Value} {L : Nat → List Int} {v1 : Value} {ys : List Int} (r : Rows W G base N vs L) (hi : i < N) (o : OwnI W1 base v1 ys) (g : W.grownBy W1 (vs i).ownBlock)
    (hat : v1.ownBlock = (vs i).ownBlock ∨ ∃ k, v1.ownBlock = some k ∧ W.heap.size ≤ k) :
    Rows (W1.setCell ⟨G, i, none⟩ v1) G base N (fun j => if j = i then v1 else vs j) (fun j => if j = i then ys else L j) := by
  have h1 : v1.ownBlock ≠ some G := by
    rcases hat with h | ⟨k, h, hk⟩
    · rw [h]
      exact r.off i hi
    · rw [h]
      have := r.row.lt
      intro e
      injection e with e
      omega
  have h2 : ∀ j, j < N → j ≠ i → ∀ k, v1.ownBlock = some k → (vs j).ownBlock ≠ some k := fun j hj hji k hk e => by
    rcases hat with h | ⟨k0, h, h0⟩
    · rw [h] at hk
      exact r.apart i j hi hj (fun q => hji q.symm) k hk e
    · rw [h] at hk
      injection hk with hk
      have := own_lt (r.own j hj) e
      omega
  refine ⟨(r.row.grown g (fun e => r.off i hi e.symm)).set i v1, fun j hj => ?_, fun a b ha hb hab k hk => ?_, fun j hj => ?_⟩
  · by_cases q : j = i
    · simp only [q, if_true]
      exact own_setCell o h1
    · simp only [if_neg q]
      exact own_setCell (own_grown (r.own j hj) g fun k hk e => r.apart j i hj hi q k hk e.symm) (r.off j hj)
  · by_cases qa : a = i
    · have qb : b ≠ i := fun e => hab (by rw [qa, e])
      simp only [qa, if_true] at hk
      simp only [if_neg qb]
      exact h2 b hb qb k hk
    · simp only [if_neg qa] at hk
      by_cases qb : b = i
      · simp only [qb, if_true]
        intro e
        exact h2 a ha qa k e hk
      · simp only [if_neg qb]
        exact r.apart a b ha hb hab k hk
  · by_cases q : j = i
    · simp only [q, if_true]
      exact h1
    · simp only [if_neg q]
      exact r.off j hj
end

end Go.Proofs.YtbnipgajhpbolaaGreatDoor
