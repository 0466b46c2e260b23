/- append, and cuts, of lists of edges. -/
import Derived.Test.YtnldfjoadmehcaaRef
import Derived.Deep.Upon
set_option linter.unusedVariables false
set_option linter.unusedSimpArgs false
namespace Go.Proofs.Ytnldfjoadmehcaa
open Go.RowKit

theorem infoEdge : (Try.prog.info? 41).map (fun i => (i.zero, i.size, i.bytes)) = some (some (.agg #[.int .i64 0, .int .i64 0]), 2, 16) := by kernel_rfl

theorem ecells_one : ∀ es : List Ed, ∀ u ∈ ecells es, u.oneCell' = true
  | [], u, h => by cases h
  | e :: es, u, h => by
    simp only [ecells, List.mem_cons] at h
    rcases h with rfl | rfl | h
    · rfl
    · rfl
    · exact ecells_one es u h

theorem addr_add (b o j : Nat) : (⟨b, o, none⟩ : Addr).add j = ⟨b, o + j, none⟩ := by
  unfold Addr.add
  split <;> simp_all

theorem ReadE.news {w : World} {ad : Addr} {n : Nat} {es : List Ed} (h : ReadE w (some ad) n es) : ∀ j u, (ecells es)[j]? = some u → w.cell? (ad.add j) = some u := by
  intro j u hu
  have hj : j < es.length * 2 := by
    have := (List.getElem?_eq_some_iff.1 hu).1
    rwa [ecells_length] at this
  have hl := h.1
  obtain ⟨b, o, e, hc⟩ := h.2.2 (by omega)
  injection e with e
  subst e
  have h2 : j % 2 < 2 := Nat.mod_lt _ (by omega)
  obtain ⟨c1, c2⟩ := hc (j / 2) (by omega)
  obtain ⟨e1, e2⟩ := ecells_at es (j / 2) (by omega)
  rw [show (⟨b, o, none⟩ : Addr).add j = ⟨b, o + j, none⟩ from addr_add b o j]
  rcases Nat.eq_zero_or_pos (j % 2) with z | z
  · have e : j = j / 2 * 2 := by omega
    rw [e] at hu ⊢
    rw [e1] at hu
    rw [c1, ← hu]
  · have e : j = j / 2 * 2 + 1 := by omega
    rw [e] at hu ⊢
    rw [e2] at hu
    rw [← Nat.add_assoc, c2, ← hu]

theorem OwnE.nil (w : World) (base : Nat) : OwnE w base (.slice none 0 0) [] := World.ownsRow_nil _ _ _ _

/-- append(v, es...) of edges, run. -/
theorem run_appE (w : World) (ty : TypeId) (base : Nat) (v : Value) (xs ys : List Ed) (HO : OwnE w base v xs) (hbase : base ≤ w.heap.size) (A : Option Addr) (m c : Nat) (hr : ReadE w A m ys) (hl : xs.length + m ≤ 1000000000) :
    ∃ v1 w1, (Builtin.append_ #[24, 24] ty #[v, .slice A m c]).run Try.prog w = .ok v1 w1 ∧ OwnE w1 base v1 (xs ++ ys) ∧ w.grownBy w1 v.ownBlock ∧ (v1.ownBlock = v.ownBlock ∨ v1.ownBlock = some w.heap.size) := by
  obtain ⟨i0, hi, hz0, hz1, hz2⟩ := info_parts infoEdge
  cases A with
  | none =>
    have hm : m = 0 := by
      rcases Nat.eq_zero_or_pos m with h | h
      · exact h
      · obtain ⟨b, o, h, -⟩ := hr.2.2 h
        cases h
    subst hm
    have hy : ys = [] := List.eq_nil_of_length_eq_zero hr.1
    subst hy
    obtain ⟨A0, c0, rfl, hle, -, -⟩ := HO.read
    refine ⟨_, w, run_append_nothing w 24 24 ty 41 i0 Try.underlying24 hi A0 xs.length c0 hle _ (Src.ofNil w Try.underlying24 c), ?_, World.grownBy.refl _ _, .inl rfl⟩
    simpa using HO
  | some ad =>
    obtain ⟨v', w', hrun, h2, h3, _, h5⟩ := run_append_own_at (P := Try.prog) w base 24 ty 41 i0 (.agg #[.int .i64 0, .int .i64 0]) 2 16 Try.underlying24 hi hz0 hz1 hz2 rfl (by decide) v xs.length (ecells xs) HO ad m c (ecells ys) (by rw [ecells_length, hr.1]) hr.news (ecells_one ys) (by simp only [maxLen]; omega) (by omega) hbase
    refine ⟨v', w', hrun, ?_, h3, h5⟩
    unfold OwnE
    rw [ecells_append, List.length_append, hr.1]
    exact h2

/-- append(v, es...) of edges, as a step of a region that draws its order. -/
theorem step_appE {ops : Array Oper} {o : Oper} {a : Act} {w : World} {K : Act → World → Prop} {Q : Exit → Act → World → Prop} {E : Prop} (base : Nat) (hw : Region.wanted o (yielded ops a.tmps) = true) (s x : Operand)
    (ho : o.op = .call { callee := .builtin .append, args := #[s, x], argTypes := #[24, 24] }) (v : Value) (xs ys : List Ed) (hs : a.eval s = v) (HO : OwnE w base v xs) (hbase : base ≤ w.heap.size)
    (A : Option Addr) (m c : Nat) (hx : a.eval x = .slice A m c) (hr : ReadE w A m ys) (hl : xs.length + m ≤ 1000000000)
    (h : ∀ v1 w1, OwnE w1 base v1 (xs ++ ys) → w.grownBy w1 v.ownBlock → (v1.ownBlock = v.ownBlock ∨ v1.ownBlock = some w.heap.size) → K (a.put o.dst v1) w1) :
    if Region.wanted o (yielded ops a.tmps) = true then Oper.wp Try.prog o a w K Q else E := by
  rw [if_pos hw]
  obtain ⟨v', w', hrun, h2, h3, h5⟩ := run_appE w o.type base v xs ys HO hbase A m c hr hl
  unfold Oper.wp execOp
  simp only [ho, resolve, invoke, builtin, Sem.run_bind, Sem.run_pure, Result.andThen_ok, List.map_toArray, List.map_cons, List.map_nil, hs, hx, hrun]
  exact h v' w' h2 h3 h5

/-- The same in a plain region. -/
theorem list_appE {ops : Array Oper} {rest : List Oper} {o : Oper} {a : Act} {w : World} {Q : Exit → Act → World → Prop} (base : Nat) (hgd : o.guard = none) (s x : Operand)
    (ho : o.op = .call { callee := .builtin .append, args := #[s, x], argTypes := #[24, 24] }) (v : Value) (xs ys : List Ed) (hs : a.eval s = v) (HO : OwnE w base v xs) (hbase : base ≤ w.heap.size)
    (A : Option Addr) (m c : Nat) (hx : a.eval x = .slice A m c) (hr : ReadE w A m ys) (hl : xs.length + m ≤ 1000000000)
    (h : ∀ v1 w1, OwnE w1 base v1 (xs ++ ys) → w.grownBy w1 v.ownBlock → (v1.ownBlock = v.ownBlock ∨ v1.ownBlock = some w.heap.size) → wpList Try.prog ops Q rest (a.put o.dst v1) w1) :
    wpList Try.prog ops Q (o :: rest) a w := by
  refine wpList_plain hgd fun K hK => ?_
  obtain ⟨v', w', hrun, h2, h3, h5⟩ := run_appE w o.type base v xs ys HO hbase A m c hr hl
  unfold Oper.wp execOp
  simp only [ho, resolve, invoke, builtin, Sem.run_bind, Sem.run_pure, Result.andThen_ok, List.map_toArray, List.map_cons, List.map_nil, hs, hx, hrun]
  exact hK _ _ (h v' w' h2 h3 h5)

theorem ReadE.take {w : World} {A : Option Addr} {n : Nat} {es : List Ed} (h : ReadE w A n es) (k : Nat) (hk : k ≤ n) : ReadE w A k (es.take k) := by
  obtain ⟨h1, h2, h3⟩ := h
  refine ⟨by rw [List.length_take]; omega, by omega, fun hp => ?_⟩
  obtain ⟨b, o, hA, hc⟩ := h3 (by omega)
  refine ⟨b, o, hA, fun j hj => ?_⟩
  have e : ge (es.take k) j = ge es j := by simp [ge, List.getD_eq_getElem?_getD, hj]
  rw [e]
  exact hc j (by omega)
theorem ReadE.drop {w : World} {A A' : Option Addr} {n : Nat} {es : List Ed} (h : ReadE w A n es) (k : Nat) (hk : k ≤ n) (hA' : ∀ b o, A = some ⟨b, o, none⟩ → k < n → A' = some ⟨b, o + k * 2, none⟩) : ReadE w A' (n - k) (es.drop k) := by
  obtain ⟨h1, h2, h3⟩ := h
  refine ⟨by rw [List.length_drop]; omega, by omega, fun hp => ?_⟩
  obtain ⟨b, o, hA, hc⟩ := h3 (by omega)
  refine ⟨b, o + k * 2, hA' b o hA (by omega), fun j hj => ?_⟩
  have e : ge (es.drop k) j = ge es (k + j) := by simp [ge, List.getD_eq_getElem?_getD]
  rw [e]
  have := hc (k + j) (by omega)
  rw [show o + (k + j) * 2 = o + k * 2 + j * 2 from by omega] at this
  exact this

/-- es[:k] and es[k:], as the walk meets them: laid ahead of it. -/
theorem cutE_to (A : Option Addr) (n c k : Nat) (I : Int) (hI : I = k) (hk : k ≤ c) (W : World) : (Instr.slice 24 (.slice A n c) none (some (.int .i64 I)) none).run Try.prog W = .ok (.slice A k c) W := by
  have hel : Try.prog.elem 24 = 41 := by simp [Program.elem, Try.underlying24]
  have hu : Try.prog.underlying 24 = some (.slice (Try.prog.elem 24)) := by rw [hel]; exact Try.underlying24
  obtain ⟨i0, hi, hz0, hz1, hz2⟩ := info_parts infoEdge
  subst hI
  rw [run_slice_h W 24 A n c hu .i64 (k : Int) (Int.natCast_nonneg _) (by omega), hel]
  simp [sizeOf, typeInfo, hi, hz1, sliced, Result.andThen]
  cases A <;> simp [Addr.add]

theorem cutE_from (A : Option Addr) (n c k : Nat) (I : Int) (hI : I = k) (hk : k ≤ n) (hc : n ≤ c) :
    ∃ A' : Option Addr, (∀ W : World, (Instr.slice 24 (.slice A n c) (some (.int .i64 I)) none none).run Try.prog W = .ok (.slice A' (n - k) (c - k)) W) ∧ (∀ b o, A = some ⟨b, o, none⟩ → k < n → A' = some ⟨b, o + k * 2, none⟩) := by
  have hel : Try.prog.elem 24 = 41 := by simp [Program.elem, Try.underlying24]
  have hu : Try.prog.underlying 24 = some (.slice (Try.prog.elem 24)) := by rw [hel]; exact Try.underlying24
  obtain ⟨i0, hi, hz0, hz1, hz2⟩ := info_parts infoEdge
  subst hI
  refine ⟨A.map fun a => if c = k then a else a.add (k * 2), fun W => ?_, fun b o e h => ?_⟩
  · rw [run_slice_l W 24 A n c hu .i64 (k : Int) (Int.natCast_nonneg _) (by omega), hel]
    simp [sizeOf, typeInfo, hi, hz1, sliced, Result.andThen]
    cases A <;> simp
    split <;> rfl
  · subst e
    have hne : c ≠ k := by omega
    simp [hne]
    unfold Addr.add
    split <;> simp_all

end Go.Proofs.Ytnldfjoadmehcaa
