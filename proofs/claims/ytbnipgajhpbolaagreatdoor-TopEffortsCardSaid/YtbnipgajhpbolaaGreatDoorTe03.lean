/- The walks of the reference's graph functions: turned, Is, Index, Has, put, Add; append, and cuts, of lists of edges; The walks of the reference's Has, put and Add -/
import Derived.Test.YtbnipgajhpbolaaGreatDoorTe01
import Derived.Test.YtbnipgajhpbolaaGreatDoorWEqStruct
import Derived.Deep.Upon
set_option linter.unusedVariables false
set_option linter.unusedSimpArgs false
namespace Go.Proofs.YtbnipgajhpbolaaGreatDoor

section
open Go.RowKit
theorem eqE (d : Nat) (w : World) (x0 y0 : Int) (x1 y1 : Int) :
    (Op.equalIn (d + 2) 57 (.agg #[.int .i64 x0, .int .i64 x1]) (.agg #[.int .i64 y0, .int .i64 y1])).run Tryz.prog w = .ok (x0 == y0 && (x1 == y1)) w := by
  refine Go.Proofs.YtbnipgajhpbolaaGreatDoorW.PrintWords.eqA_of Tryz.underlying57 (by kernel_rfl) ?_
  refine Go.Proofs.YtbnipgajhpbolaaGreatDoorW.PrintWords.eqf_cons (by rfl) (by go_simp; rfl) (by go_simp; rfl) (by go_simp) ?_
  exact Go.Proofs.YtbnipgajhpbolaaGreatDoorW.PrintWords.eqf_last (by rfl) (by go_simp; rfl) (by go_simp; rfl) (by go_simp)
attribute [local go_sem high] eqE

/-- The lesser end first. -/
def turnE (a b : Int) : Ed := if b < a then (b, a) else (a, b)
def isB (N v : Int) : Bool := decide (0 ≤ v) && decide (v < N)
/-- The place of an edge, or -1. -/
def atE (es : List Ed) (e : Ed) : Int := if es.contains e then (es.idxOf e : Int) else -1
def indexB (N : Int) (es : List Ed) (a b : Int) : Int := if rightB N es then atE es (turnE a b) else -1
def hasB (N : Int) (es : List Ed) (a b : Int) : Bool := decide (0 ≤ indexB N es a b)

theorem atE_at {e : Ed} : ∀ {es : List Ed} {k : Nat}, (∀ j, j < k → ge es j ≠ e) → k < es.length → ge es k = e → atE es e = k
  | [], k, _, h, _ => by simp at h
  | x :: es, 0, _, _, h2 => by
    have h2 : x = e := by simpa [ge] using h2
    subst h2
    simp [atE]
  | x :: es, k + 1, h0, h1, h2 => by
    have hx : x ≠ e := by simpa [ge] using h0 0 (by omega)
    have ih := atE_at (e := e) (es := es) (k := k) (fun j hj => by simpa [ge] using h0 (j + 1) (by omega)) (by simpa using h1) (by simpa [ge] using h2)
    unfold atE at ih ⊢
    by_cases hc : es.contains e = true
    · rw [if_pos hc] at ih
      have : (x :: es).contains e = true := by
        rw [List.contains_cons, hc]
        simp
      rw [if_pos this, List.idxOf_cons]
      rw [show (x == e) = false from by simpa using hx]
      simp only [cond_false]
      omega
    · rw [if_neg hc] at ih
      omega
theorem atE_none {e : Ed} {es : List Ed} (h : ∀ j, j < es.length → ge es j ≠ e) : atE es e = -1 := by
  unfold atE
  rw [if_neg]
  intro hc
  rw [List.contains_iff_mem] at hc
  obtain ⟨j, hj, he⟩ := List.getElem_of_mem hc
  exact h j hj (by rw [← he]; simp [ge, hj])

theorem turned_any (a b : Int) (w : World) : Calls Tryz.prog 40 #[.int .i64 a, .int .i64 b] w fun e w' => e = .returned (.agg #[.int .i64 (turnE a b).1, .int .i64 (turnE a b).2]) ∧ Below w.heap.size w w' := by
  have hb : ∀ x y, Below w.heap.size w (w.alloc (.cells #[.int .i64 x, .int .i64 y] 57)) := fun x y => (Below.refl _ _).alloc (Nat.le_refl _) _
  have HB := Lib.hid hb
  clear hb
  by_cases h : b < a
  · rw [show turnE a b = (b, a) from if_pos h]
    go_enter Tryz.func40, Tryz.ntmps40
    go_wp2
    refine bodyPost_ret (results_cell_row rfl _ _ w.heap.size 57 #[.int .i64 b, .int .i64 a] (0, 0) _ rfl (heap_alloc_new _ _) Tryz.underlying57 rfl (by kernel_rfl)) rfl ?_
    exact ⟨rfl, HB _ _⟩
  · rw [show turnE a b = (a, b) from if_neg h]
    go_enter Tryz.func40, Tryz.ntmps40
    go_wp2
    refine bodyPost_ret (results_cell_row rfl _ _ w.heap.size 57 #[.int .i64 a, .int .i64 b] (0, 0) _ rfl (heap_alloc_new _ _) Tryz.underlying57 rfl (by kernel_rfl)) rfl ?_
    exact ⟨rfl, HB _ _⟩

theorem is_any {N : Int} {A : Option Addr} {n c : Nat} (v : Int) (w : World) : Calls Tryz.prog 38 #[.agg #[.int .i64 N, .slice A n c], .int .i64 v] w fun e w' => e = .returned (.bool (isB N v)) ∧ Below w.heap.size w w' := by
  have hb : Below w.heap.size w (w.alloc (gcells N A n c)) := (Below.refl _ _).alloc (Nat.le_refl _) _
  have HB := Lib.hid hb
  clear hb
  unfold isB
  by_cases h : 0 ≤ v
  · have h' : decide (0 ≤ v) = true := by simpa using h
    go_enter Tryz.func38, Tryz.ntmps38
    go_wp2
    go_ret
    exact ⟨by simp [h], HB⟩
  · have h' : decide (0 ≤ v) = false := by simpa using h
    go_enter Tryz.func38, Tryz.ntmps38
    go_wp2
    go_ret
    exact ⟨by simp [h], HB⟩


set_option maxHeartbeats 1000000 in
theorem index_any {A : Option Addr} {n c : Nat} {es : List Ed} {N : Int} (a b : Int) (w : World) (h : ReadE w A n es) :
    Calls Tryz.prog 22 #[.agg #[.int .i64 N, .slice A n c], .int .i64 a, .int .i64 b] w fun e w' => e = .returned (.int .i64 (indexB N es a b)) ∧ Below w.heap.size w w' := by
  have hn := h.2.1
  have H1 := Lib.hid h.1
  have hb0 : Below (w.heap.size + 1) (w.alloc (gcells N A n c)) (w.alloc (gcells N A n c)) := Below.refl _ _
  have HB0 := Lib.hid hb0
  have HR0 := h.box hb0
  clear hb0
  cases hr : rightB N es
  · have hf : Hid (indexB N es a b = -1) := by unfold Hid indexB; rw [hr]; rfl
    have HRR := Lib.hid hr
    clear hr
    go_enter Tryz.func22, Tryz.ntmps22
    go_wp2_with fail
    refine (right_any N _ HR0).mono ?_
    rintro e w1 ⟨rfl, hb1⟩
    rw [HRR.out]
    go_wp2_with fail
    go_ret
    exact ⟨by rw [hf.out]; rfl, below_box (Below.trans HB0 (hb1.mono (by simp)))⟩
  · have hf : Hid (indexB N es a b = atE es (turnE a b)) := by unfold Hid indexB; rw [hr]; rfl
    have HRR := Lib.hid hr
    clear hr
    go_enter Tryz.func22, Tryz.ntmps22
    go_wp2_with fail
    refine (right_any N _ HR0).mono ?_
    rintro e w1 ⟨rfl, hb1⟩
    rw [HRR.out]
    go_wp2_with fail
    refine (turned_any a b _).mono ?_
    rintro e w2 ⟨rfl, hb2⟩
    generalize turnE a b = te at *
    obtain ⟨t1, t2⟩ := te
    have hb3 : Below (w.heap.size + 1) (w.alloc (gcells N A n c)) w2 := Below.trans (Below.trans HB0 (hb1.mono (by simp))) (hb2.mono (by have := hb1.size; simp at this; omega))
    have hsz := hb3.size
    simp at hsz
    have hb4 : Below (w.heap.size + 1) (w.alloc (gcells N A n c)) (w2.alloc (.cells #[.int .i64 t1, .int .i64 t2] 57)) := hb3.alloc (by omega) _
    have HB4 := Lib.hid hb4
    have he0 : Hid ((w2.alloc (.cells #[.int .i64 t1, .int .i64 t2] 57)).cell? ⟨w2.heap.size, 0, none⟩ = some (.int .i64 t1)) := (cell_blk (heap_alloc_new _ _) 0).trans rfl
    have he1 : Hid ((w2.alloc (.cells #[.int .i64 t1, .int .i64 t2] 57)).cell? ⟨w2.heap.size, 1, none⟩ = some (.int .i64 t2)) := (cell_blk (heap_alloc_new _ _) 1).trans rfl
    clear hb3 hb4 hb1 hb2
    go_wp2_with fail
    go_loopw [8] (fun i wr => ∃ k : Nat, k ≤ n ∧ i = .int .i64 k ∧ (∀ j, j < k → ge es j ≠ (t1, t2)) ∧ Drawn (w2.alloc (.cells #[.int .i64 t1, .int .i64 t2] 57)) wr) (fun i _ => n - (intOf i).toNat)
    case atStart => exact ⟨0, Nat.zero_le _, rfl, fun _ h => absurd h (by omega), Drawn.refl _⟩
    case round =>
      obtain ⟨k, hk, rfl, hall, hdr⟩ := hrel
      have hbr : Below (w.heap.size + 1) (w.alloc (gcells N A n c)) wr := HB4.out.trans (hdr.below _)
      obtain ⟨g0, g1⟩ := gbox hbr
      have f0 := cell_later (hdr.below _) he0.out
      have f1 := cell_later (hdr.below _) he1.out
      by_cases hlt : k < n
      · obtain ⟨b, o, rfl, hc⟩ := (h.box hbr).2.2 (by omega)
        obtain ⟨hc1, hc2⟩ := hc k hlt
        have HA := Lib.hid hall
        have HBR := Lib.hid hbr
        clear hc hall hbr
        cases hq : (ge es k == (t1, t2))
        · have hne : Hid (ge es k ≠ (t1, t2)) := beq_eq_false_iff_ne.mp hq
          have HN : Hid (∀ j, j < k + 1 → ge es j ≠ (t1, t2)) := fun j hj h => by
            by_cases e : j = k
            · exact hne.out (e ▸ h)
            · exact HA.out j (by omega) h
          generalize ge es k = ek at *
          obtain ⟨e1, e2⟩ := ek
          have hq2 : (e1 == t1 && e2 == t2) = false := hq
          clear hq
          go_wp2_with fail
          go_quiet (fail)
          go_wp2_with fail
          go_roundw
          case rel => exact ⟨k + 1, by omega, by go_num, HN, hdr.step _⟩
          case measure => simp [intOf]; omega
        · have heq : Hid (ge es k = (t1, t2)) := eq_of_beq hq
          have HF : Hid (atE es (t1, t2) = k) := atE_at HA.out (by have := H1.out; omega) heq.out
          rw [heq.out] at hc1 hc2
          clear hq
          go_wp2_with fail
          go_quiet (fail)
          go_wp2_with fail
          go_ret
          exact ⟨by rw [hf.out, HF.out]; rfl, below_box (below_draws HBR.out _)⟩
      · have hfin : atE es (t1, t2) = -1 := atE_none (fun j hj => hall j (by have := H1.out; omega))
        have HF := Lib.hid hfin
        clear hfin hall
        go_wp2_with fail
        go_ret
        exact ⟨by rw [hf.out, HF.out]; rfl, below_box hbr⟩
end

section
open Go.RowKit
theorem infoEdge : (Tryz.prog.info? 57).map (fun i => (i.zero, i.size, i.bytes)) = some (some (.agg #[.int .i64 0, .int .i64 0]), 2, 16) := by kernel_rfl

theorem ecells_one : ∀ es : List Ed, ∀ u ∈ ecells es, u.oneCell' = true
  | [], u, h => by cases h
  | e :: es, u, h => by
    simp only [ecells, List.mem_cons] at h
    rcases h with rfl | rfl | h
    · rfl
    · rfl
    · exact ecells_one es u h

theorem addr_add (b o j : Nat) : (⟨b, o, none⟩ : Addr).add j = ⟨b, o + j, none⟩ := by
  unfold Addr.add
  split <;> simp_all

theorem ReadE.news {w : World} {ad : Addr} {n : Nat} {es : List Ed} (h : ReadE w (some ad) n es) : ∀ j u, (ecells es)[j]? = some u → w.cell? (ad.add j) = some u := by
  intro j u hu
  have hj : j < es.length * 2 := by
    have := (List.getElem?_eq_some_iff.1 hu).1
    rwa [ecells_length] at this
  have hl := h.1
  obtain ⟨b, o, e, hc⟩ := h.2.2 (by omega)
  injection e with e
  subst e
  have h2 : j % 2 < 2 := Nat.mod_lt _ (by omega)
  obtain ⟨c1, c2⟩ := hc (j / 2) (by omega)
  obtain ⟨e1, e2⟩ := ecells_at es (j / 2) (by omega)
  rw [show (⟨b, o, none⟩ : Addr).add j = ⟨b, o + j, none⟩ from addr_add b o j]
  rcases Nat.eq_zero_or_pos (j % 2) with z | z
  · have e : j = j / 2 * 2 := by omega
    rw [e] at hu ⊢
    rw [e1] at hu
    rw [c1, ← hu]
  · have e : j = j / 2 * 2 + 1 := by omega
    rw [e] at hu ⊢
    rw [e2] at hu
    rw [← Nat.add_assoc, c2, ← hu]

theorem OwnE.nil (w : World) (base : Nat) : OwnE w base (.slice none 0 0) [] := World.ownsRow_nil _ _ _ _

/-- append(v, es...) of edges, run. -/
theorem run_appE (w : World) (ty : TypeId) (base : Nat) (v : Value) (xs ys : List Ed) (HO : OwnE w base v xs) (hbase : base ≤ w.heap.size) (A : Option Addr) (m c : Nat) (hr : ReadE w A m ys) (hl : xs.length + m ≤ 1000000000) :
    ∃ v1 w1, (Builtin.append_ #[23, 23] ty #[v, .slice A m c]).run Tryz.prog w = .ok v1 w1 ∧ OwnE w1 base v1 (xs ++ ys) ∧ w.grownBy w1 v.ownBlock ∧ (v1.ownBlock = v.ownBlock ∨ v1.ownBlock = some w.heap.size) := by
  obtain ⟨i0, hi, hz0, hz1, hz2⟩ := info_parts infoEdge
  cases A with
  | none =>
    have hm : m = 0 := by
      rcases Nat.eq_zero_or_pos m with h | h
      · exact h
      · obtain ⟨b, o, h, -⟩ := hr.2.2 h
        cases h
    subst hm
    have hy : ys = [] := List.eq_nil_of_length_eq_zero hr.1
    subst hy
    obtain ⟨A0, c0, rfl, hle, -, -⟩ := HO.read
    refine ⟨_, w, run_append_nothing w 23 23 ty 57 i0 Tryz.underlying23 hi A0 xs.length c0 hle _ (Src.ofNil w Tryz.underlying23 c), ?_, World.grownBy.refl _ _, .inl rfl⟩
    simpa using HO
  | some ad =>
    obtain ⟨v', w', hrun, h2, h3, _, h5⟩ := run_append_own_at (P := Tryz.prog) w base 23 ty 57 i0 (.agg #[.int .i64 0, .int .i64 0]) 2 16 Tryz.underlying23 hi hz0 hz1 hz2 rfl (by decide) v xs.length (ecells xs) HO ad m c (ecells ys) (by rw [ecells_length, hr.1]) hr.news (ecells_one ys) (by simp only [maxLen]; omega) (by omega) hbase
    refine ⟨v', w', hrun, ?_, h3, h5⟩
    unfold OwnE
    rw [ecells_append, List.length_append, hr.1]
    exact h2

/-- append(v, es...) of edges, as a step of a region that draws its order. -/
theorem step_appE {ops : Array Oper} {o : Oper} {a : Act} {w : World} {K : Act → World → Prop} {Q : Exit → Act → World → Prop} {E : Prop} (base : Nat) (hw : Region.wanted o (yielded ops a.tmps) = true) (s x : Operand)
    (ho : o.op = .call { callee := .builtin .append, args := #[s, x], argTypes := #[23, 23] }) (v : Value) (xs ys : List Ed) (hs : a.eval s = v) (HO : OwnE w base v xs) (hbase : base ≤ w.heap.size)
    (A : Option Addr) (m c : Nat) (hx : a.eval x = .slice A m c) (hr : ReadE w A m ys) (hl : xs.length + m ≤ 1000000000)
    (h : ∀ v1 w1, OwnE w1 base v1 (xs ++ ys) → w.grownBy w1 v.ownBlock → (v1.ownBlock = v.ownBlock ∨ v1.ownBlock = some w.heap.size) → K (a.put o.dst v1) w1) :
    if Region.wanted o (yielded ops a.tmps) = true then Oper.wp Tryz.prog o a w K Q else E := by
  rw [if_pos hw]
  obtain ⟨v', w', hrun, h2, h3, h5⟩ := run_appE w o.type base v xs ys HO hbase A m c hr hl
  unfold Oper.wp execOp
  simp only [ho, resolve, invoke, builtin, Sem.run_bind, Sem.run_pure, Result.andThen_ok, List.map_toArray, List.map_cons, List.map_nil, hs, hx, hrun]
  exact h v' w' h2 h3 h5

/-- The same in a plain region. -/
theorem list_appE {ops : Array Oper} {rest : List Oper} {o : Oper} {a : Act} {w : World} {Q : Exit → Act → World → Prop} (base : Nat) (hgd : o.guard = none) (s x : Operand)
    (ho : o.op = .call { callee := .builtin .append, args := #[s, x], argTypes := #[23, 23] }) (v : Value) (xs ys : List Ed) (hs : a.eval s = v) (HO : OwnE w base v xs) (hbase : base ≤ w.heap.size)
    (A : Option Addr) (m c : Nat) (hx : a.eval x = .slice A m c) (hr : ReadE w A m ys) (hl : xs.length + m ≤ 1000000000)
    (h : ∀ v1 w1, OwnE w1 base v1 (xs ++ ys) → w.grownBy w1 v.ownBlock → (v1.ownBlock = v.ownBlock ∨ v1.ownBlock = some w.heap.size) → wpList Tryz.prog ops Q rest (a.put o.dst v1) w1) :
    wpList Tryz.prog ops Q (o :: rest) a w := by
  refine wpList_plain hgd fun K hK => ?_
  obtain ⟨v', w', hrun, h2, h3, h5⟩ := run_appE w o.type base v xs ys HO hbase A m c hr hl
  unfold Oper.wp execOp
  simp only [ho, resolve, invoke, builtin, Sem.run_bind, Sem.run_pure, Result.andThen_ok, List.map_toArray, List.map_cons, List.map_nil, hs, hx, hrun]
  exact hK _ _ (h v' w' h2 h3 h5)

theorem ReadE.take {w : World} {A : Option Addr} {n : Nat} {es : List Ed} (h : ReadE w A n es) (k : Nat) (hk : k ≤ n) : ReadE w A k (es.take k) := by
  obtain ⟨h1, h2, h3⟩ := h
  refine ⟨by rw [List.length_take]; omega, by omega, fun hp => ?_⟩
  obtain ⟨b, o, hA, hc⟩ := h3 (by omega)
  refine ⟨b, o, hA, fun j hj => ?_⟩
  have e : ge (es.take k) j = ge es j := by simp [ge, List.getD_eq_getElem?_getD, hj]
  rw [e]
  exact hc j (by omega)
theorem ReadE.drop {w : World} {A A' : Option Addr} {n : Nat} {es : List Ed} (h : ReadE w A n es) (k : Nat) (hk : k ≤ n) (hA' : ∀ b o, A = some ⟨b, o, none⟩ → k < n → A' = some ⟨b, o + k * 2, none⟩) : ReadE w A' (n - k) (es.drop k) := by
  obtain ⟨h1, h2, h3⟩ := h
  refine ⟨by rw [List.length_drop]; omega, by omega, fun hp => ?_⟩
  obtain ⟨b, o, hA, hc⟩ := h3 (by omega)
  refine ⟨b, o + k * 2, hA' b o hA (by omega), fun j hj => ?_⟩
  have e : ge (es.drop k) j = ge es (k + j) := by simp [ge, List.getD_eq_getElem?_getD]
  rw [e]
  have := hc (k + j) (by omega)
  rw [show o + (k + j) * 2 = o + k * 2 + j * 2 from by omega] at this
  exact this

/-- es[:k] and es[k:], as the walk meets them: laid ahead of it. -/
theorem cutE_to (A : Option Addr) (n c k : Nat) (I : Int) (hI : I = k) (hk : k ≤ c) (W : World) : (Instr.slice 23 (.slice A n c) none (some (.int .i64 I)) none).run Tryz.prog W = .ok (.slice A k c) W := by
  have hel : Tryz.prog.elem 23 = 57 := by simp [Program.elem, Tryz.underlying23]
  have hu : Tryz.prog.underlying 23 = some (.slice (Tryz.prog.elem 23)) := by rw [hel]; exact Tryz.underlying23
  obtain ⟨i0, hi, hz0, hz1, hz2⟩ := info_parts infoEdge
  subst hI
  rw [run_slice_h W 23 A n c hu .i64 (k : Int) (Int.natCast_nonneg _) (by omega), hel]
  simp [sizeOf, typeInfo, hi, hz1, sliced, Result.andThen]
  cases A <;> simp [Addr.add]

theorem cutE_from (A : Option Addr) (n c k : Nat) (I : Int) (hI : I = k) (hk : k ≤ n) (hc : n ≤ c) :
    ∃ A' : Option Addr, (∀ W : World, (Instr.slice 23 (.slice A n c) (some (.int .i64 I)) none none).run Tryz.prog W = .ok (.slice A' (n - k) (c - k)) W) ∧ (∀ b o, A = some ⟨b, o, none⟩ → k < n → A' = some ⟨b, o + k * 2, none⟩) := by
  have hel : Tryz.prog.elem 23 = 57 := by simp [Program.elem, Tryz.underlying23]
  have hu : Tryz.prog.underlying 23 = some (.slice (Tryz.prog.elem 23)) := by rw [hel]; exact Tryz.underlying23
  obtain ⟨i0, hi, hz0, hz1, hz2⟩ := info_parts infoEdge
  subst hI
  refine ⟨A.map fun a => if c = k then a else a.add (k * 2), fun W => ?_, fun b o e h => ?_⟩
  · rw [run_slice_l W 23 A n c hu .i64 (k : Int) (Int.natCast_nonneg _) (by omega), hel]
    simp [sizeOf, typeInfo, hi, hz1, sliced, Result.andThen]
    cases A <;> simp
    split <;> rfl
  · subst e
    have hne : c ≠ k := by omega
    simp [hne]
    unfold Addr.add
    split <;> simp_all
end

section
open Go.RowKit
attribute [local go_sem high] eqE

theorem has2_any {A : Option Addr} {n c : Nat} {es : List Ed} {N : Int} (a b : Int) (w : World) (h : ReadE w A n es) :
    Calls Tryz.prog 28 #[.agg #[.int .i64 N, .slice A n c], .int .i64 a, .int .i64 b] w fun e w' => e = .returned (.bool (hasB N es a b)) ∧ Below w.heap.size w w' := by
  have hb0 : Below (w.heap.size + 1) (w.alloc (gcells N A n c)) (w.alloc (gcells N A n c)) := Below.refl _ _
  have HB0 := Lib.hid hb0
  have HR0 := h.box hb0
  clear hb0
  unfold hasB
  go_enter Tryz.func28, Tryz.ntmps28
  go_wp2_with fail
  refine (index_any a b _ HR0).mono ?_
  rintro e w1 ⟨rfl, hb1⟩
  go_wp2_with fail
  go_ret
  exact ⟨rfl, below_box (Below.trans HB0 (hb1.mono (by simp)))⟩

/-- Where an edge goes in: behind the first so many. -/
def putK (es : List Ed) (e : Ed) : Nat → Nat
  | 0 => 0
  | k + 1 => if ahead e (ge es k) then putK es e k else k + 1
def putE (es : List Ed) (e : Ed) : List Ed := es.take (putK es e es.length) ++ [e] ++ es.drop (putK es e es.length)
theorem putK_le (es : List Ed) (e : Ed) : ∀ k, putK es e k ≤ k
  | 0 => Nat.le_refl _
  | k + 1 => by
    rw [putK]
    split
    · exact Nat.le_succ_of_le (putK_le es e k)
    · exact Nat.le_refl _

abbrev ecell2 (e1 e2 : Int) : Obj := .cells #[.int .i64 e1, .int .i64 e2] 57

/-- The world in which an edge's variable was made first, and what came later. -/
def EB (w : World) (e1 e2 : Int) (w' : World) : Prop := Below (w.heap.size + 1) (w.alloc (ecell2 e1 e2)) w'
theorem EB.refl (w : World) (e1 e2 : Int) : EB w e1 e2 (w.alloc (ecell2 e1 e2)) := Below.refl _ _
theorem EB.later {w W w8 : World} {e1 e2 : Int} (h : EB w e1 e2 W) (g : Below W.heap.size W w8) : EB w e1 e2 w8 := below_after h (by have := Below.size h; simp at this; exact this) g
theorem EB.draws {w W : World} {e1 e2 : Int} (h : EB w e1 e2 W) (n : Nat) : EB w e1 e2 (W.drewN n) := below_draws h n
theorem EB.size {w W : World} {e1 e2 : Int} (h : EB w e1 e2 W) : w.heap.size + 1 ≤ W.heap.size := by have := Below.size h; simp at this; exact this
theorem EB.grown {w W w8 : World} {e1 e2 : Int} {row : Option Nat} (h : EB w e1 e2 W) (g : W.grownBy w8 row) (hr : ∀ k, row = some k → w.heap.size + 1 ≤ k) : EB w e1 e2 w8 := Below.grown h g h.size hr
theorem EB.cells {w W : World} {e1 e2 : Int} (h : EB w e1 e2 W) : W.cell? ⟨w.heap.size, 0, none⟩ = some (.int .i64 e1) ∧ W.cell? ⟨w.heap.size, 1, none⟩ = some (.int .i64 e2) := by
  have k := heap_alloc_new w (ecell2 e1 e2)
  refine ⟨?_, ?_⟩
  · rw [Below.cell h (p := ⟨w.heap.size, 0, none⟩) (by simp), cell_blk k]
    rfl
  · rw [Below.cell h (p := ⟨w.heap.size, 1, none⟩) (by simp), cell_blk k]
    rfl
theorem EB.bel {w W : World} {e1 e2 : Int} (h : EB w e1 e2 W) : Below w.heap.size w W := below_box h
/-- What a region's step keeps of it. -/
def ES (w : World) (e1 e2 : Int) (W : World) : Prop := W.cell? ⟨w.heap.size, 0, none⟩ = some (.int .i64 e1) ∧ W.cell? ⟨w.heap.size, 1, none⟩ = some (.int .i64 e2) ∧ EB w e1 e2 W
theorem EB.es {w W : World} {e1 e2 : Int} (h : EB w e1 e2 W) : W.cell? ⟨w.heap.size, 0, none⟩ = some (.int .i64 e1) ∧ W.cell? ⟨w.heap.size, 1, none⟩ = some (.int .i64 e2) ∧ EB w e1 e2 W := ⟨h.cells.1, h.cells.2, h⟩
theorem ReadE.box1 (w : World) (e1 e2 : Int) (t : TypeId) : ReadE (w.alloc (.cells #[.int .i64 e1, .int .i64 e2] t)) (some ⟨w.heap.size, 0, none⟩) 1 [(e1, e2)] := by
  refine ⟨rfl, by omega, fun _ => ⟨_, _, rfl, fun j hj => ?_⟩⟩
  obtain rfl : j = 0 := by omega
  have k := heap_alloc_new w (.cells #[.int .i64 e1, .int .i64 e2] t)
  exact ⟨(cell_blk k 0).trans rfl, (cell_blk k 1).trans rfl⟩
theorem ReadE.box1d (w : World) (e1 e2 : Int) (t : TypeId) : ReadE (w.alloc (.cells #[.int .i64 e1, .int .i64 e2] t)).drew (some ⟨w.heap.size, 0, none⟩) 1 [(e1, e2)] := (ReadE.box1 w e1 e2 t).drawn (Drawn.refl _).drew
theorem own_alloc {w : World} {base e size n : Nat} {v : Value} {xs : List Value} (h : w.ownsRow base e size v n xs) (o : Obj) : (w.alloc o).ownsRow base e size v n xs := row_below h ((Below.refl _ _).alloc (Nat.le_refl _) _)
theorem keepP {w W w8 : World} {e1 e2 : Int} {a1 a2 a3 a4 : Addr} {v1 v2 v3 v4 : Value} (g : Below W.heap.size W w8) (h : W.cell? a1 = some v1 ∧ W.cell? a2 = some v2 ∧ W.cell? a3 = some v3 ∧ W.cell? a4 = some v4 ∧ EB w e1 e2 W) :
    w8.cell? a1 = some v1 ∧ w8.cell? a2 = some v2 ∧ w8.cell? a3 = some v3 ∧ w8.cell? a4 = some v4 ∧ EB w e1 e2 w8 :=
  ⟨cell_later g h.1, cell_later g h.2.1, cell_later g h.2.2.1, cell_later g h.2.2.2.1, h.2.2.2.2.later g⟩

set_option maxHeartbeats 4000000 in
set_option maxRecDepth 100000 in
theorem put_any {A : Option Addr} {n c : Nat} {es : List Ed} (e1 e2 : Int) (w : World) (h : ReadE w A n es) (hc : n ≤ c) (hn6 : n ≤ 65536) :
    Calls Tryz.prog 39 #[.slice A n c, .agg #[.int .i64 e1, .int .i64 e2]] w fun e w' => ∃ v, e = .returned v ∧ OwnE w' (w.heap.size + 1) v (putE es (e1, e2)) ∧ Below w.heap.size w w' := by
  have hn := h.2.1
  have H1 := Lib.hid h.1
  have HB0 : Hid (EB w e1 e2 (w.alloc (ecell2 e1 e2))) := EB.refl w e1 e2
  have HK : Hid (putE es (e1, e2) = es.take (putK es (e1, e2) n) ++ [(e1, e2)] ++ es.drop (putK es (e1, e2) n)) := by unfold Hid putE; rw [H1.out]
  go_enter Tryz.func39, Tryz.ntmps39
  go_wp2_with fail
  go_loopw [5] (fun i wr => ∃ k : Nat, k ≤ n ∧ i = .int .i64 k ∧ Hid (putK es (e1, e2) n = putK es (e1, e2) k) ∧ EB w e1 e2 wr) (fun i _ => (intOf i).toNat)
  case atStart => exact ⟨n, Nat.le_refl _, rfl, rfl, HB0⟩
  case round =>
    obtain ⟨k, hk, rfl, hks, hbr⟩ := hrel
    obtain ⟨g0, g1⟩ := hbr.cells
    have hRw := h.below hbr.bel
    rcases Nat.eq_zero_or_pos k with rfl | hk0
    · have HKS : Hid (putK es (e1, e2) n = 0) := hks.out.trans rfl
      go_wp2_with fail
      go_quiet (fail)
      go_wp2_with fail
      have hto := cutE_to A n c (0) 0 (by omega) (by omega)
      obtain ⟨A', hfr, hA'⟩ := cutE_from A n c (0) 0 (by omega) (by omega) hc
      have HA' := Lib.hid hA'
      clear hA'
      have hp : putE es (e1, e2) = es.take (0) ++ [(e1, e2)] ++ es.drop (0) := by rw [HK.out, HKS.out]
      have HP := Lib.hid hp
      clear hp
      have HS2 : Hid (ES w e1 e2 (wr.drewN nq).drew) := (EB.draws (hbr.draws nq) 1).es
      go_region_held3 (fun w' => w'.cell? ⟨w.heap.size, 0, none⟩ = some (.int .i64 e1) ∧ w'.cell? ⟨w.heap.size, 1, none⟩ = some (.int .i64 e2) ∧ EB w e1 e2 w')
        (first | exact HS2.out | exact (EB.later (And.right (And.right (by assumption))) ((Below.refl _ _).alloc (Nat.le_refl _) _)).es | exact (EB.grown (And.right (And.right (by assumption))) g13 (row_base own2)).es | exact (EB.grown (And.right (And.right (by assumption))) g12 (row_base own1)).es | exact (EB.grown (And.right (And.right (by assumption))) g11 (by intro k hk; simp [Value.ownBlock] at hk)).es | fail)
        (first
          | (refine step_appE (w.heap.size + 1) (by rfl) _ _ (by rfl) (.slice none 0 0) [] (es.take (0)) (by rfl) (OwnE.nil _ _) (EB.size (And.right (And.right (by assumption)))) A (0) c (by rfl) (ReadE.take (h.below (EB.bel (And.right (And.right (by assumption))))) (0) (by omega)) (by simp only [List.nil_append, List.length_append, List.length_take, List.length_cons, List.length_nil]; omega) ?_; intro v1 w11 own1 g11 hat1; try (first | have bx1 := ReadE.grown (ReadE.box1 _ e1 e2 _) g11 (by intro b' o' e'; simp [Value.ownBlock]) | have bx1 := ReadE.grown (ReadE.box1d _ e1 e2 _) g11 (by intro b' o' e'; simp [Value.ownBlock])))
          | (refine step_appE (w.heap.size + 1) (by rfl) _ _ (by rfl) v1 ([] ++ es.take (0)) [(e1, e2)] (by rfl) (by first | exact own1 | exact own_alloc own1 _) (EB.size (And.right (And.right (by assumption)))) _ 1 1 (by rfl) (by first | exact ReadE.box1 _ e1 e2 _ | exact bx1) (by simp only [List.nil_append, List.length_append, List.length_take, List.length_cons, List.length_nil]; omega) ?_; intro v2 w12 own2 g12 hat2)
          | (refine step_appE (w.heap.size + 1) (by rfl) _ _ (by rfl) v2 ([] ++ es.take (0) ++ [(e1, e2)]) (es.drop (0)) (by rfl) own2 (EB.size (And.right (And.right (by assumption)))) A' (n - (0)) (c - (0)) (by rfl) (ReadE.drop (h.below (EB.bel (And.right (And.right (by assumption))))) (0) (by omega) HA'.out) (by simp only [List.nil_append, List.length_append, List.length_take, List.length_cons, List.length_nil]; omega) ?_; intro v3 w13 own3 g13 hat3)
          | fail)
      all_goals
        have hfin3 : EB w e1 e2 w13 := And.right (And.right (by assumption))
        go_wp2_with fail
        go_ret
        exact ⟨_, rfl, by rw [HP.out]; simpa using own3, hfin3.bel⟩
    · obtain ⟨j, rfl⟩ : ∃ j, k = j + 1 := ⟨k - 1, by omega⟩
      obtain ⟨b, o, rfl, hcs⟩ := hRw.2.2 (by omega)
      obtain ⟨hd1, hd2⟩ := hcs j (by omega)
      have hca := fun w => ahead_any (e1, e2) (ge es j) w
      have hup : Hid (putK es (e1, e2) (j + 1) = if ahead (e1, e2) (ge es j) then putK es (e1, e2) j else j + 1) := rfl
      clear hcs
      generalize ge es j = ej at *
      obtain ⟨f1, f2⟩ := ej
      have k0 : decide ((0 : Int) < (j : Int) + 1) = true := by rw [decide_eq_true_eq]; omega
      have ew : IntKind.i64.wrap ((j : Int) + 1 - 1) = (j : Int) := by rw [IntKind.wrap_i64]; omega
      have ew2 : IntKind.i64.wrap (j : Int) = (j : Int) := by rw [IntKind.wrap_i64]; omega
      have j1 : (0 : Int) ≤ (j : Int) ∧ (j : Int) < (n : Int) := by omega
      have HS1 : Hid (wr.drew.cell? ⟨w.heap.size, 0, none⟩ = some (.int .i64 e1) ∧ wr.drew.cell? ⟨w.heap.size, 1, none⟩ = some (.int .i64 e2) ∧ wr.drew.cell? ⟨b, o + j * 2, none⟩ = some (.int .i64 f1) ∧ wr.drew.cell? ⟨b, o + j * 2 + 1, none⟩ = some (.int .i64 f2) ∧ EB w e1 e2 wr.drew) := ⟨g0, g1, hd1, hd2, hbr.draws 1⟩
      cases hah : ahead (e1, e2) (f1, f2)
      all_goals
        rw [hah] at hca
        have HAH := Lib.hid hah
        clear hah
        go_wp2_with fail
        go_region_held3 (fun w' => w'.cell? ⟨w.heap.size, 0, none⟩ = some (.int .i64 e1) ∧ w'.cell? ⟨w.heap.size, 1, none⟩ = some (.int .i64 e2) ∧ w'.cell? ⟨b, o + j * 2, none⟩ = some (.int .i64 f1) ∧ w'.cell? ⟨b, o + j * 2 + 1, none⟩ = some (.int .i64 f2) ∧ EB w e1 e2 w')
          (first | exact HS1.out | exact keepP hb9 (by assumption))
          ((go_at_call 44; refine (hca _).mono ?_; rintro e w9 ⟨rfl, hb9⟩))
        have hfin : EB w e1 e2 w9 := And.right (And.right (And.right (And.right (by assumption))))
        go_wp2_with fail
        first
          | exact ⟨⟨j, by omega, rfl, by unfold Hid; rw [hks.out, hup.out, HAH.out]; simp, hfin⟩, by simp [intOf]⟩
          | skip
      have HKS : Hid (putK es (e1, e2) n = j + 1) := by unfold Hid; rw [hks.out, hup.out, HAH.out]; simp
      have hto := cutE_to (some ⟨b, o, none⟩) n c (j + 1) ((j : Int) + 1) (by omega) (by omega)
      obtain ⟨A', hfr, hA'⟩ := cutE_from (some ⟨b, o, none⟩) n c (j + 1) ((j : Int) + 1) (by omega) (by omega) hc
      have HA' := Lib.hid hA'
      clear hA'
      have hp : putE es (e1, e2) = es.take (j + 1) ++ [(e1, e2)] ++ es.drop (j + 1) := by rw [HK.out, HKS.out]
      have HP := Lib.hid hp
      clear hp
      have HS2 : Hid (ES w e1 e2 (w9).drew) := (EB.draws hfin 1).es
      go_region_held3 (fun w' => w'.cell? ⟨w.heap.size, 0, none⟩ = some (.int .i64 e1) ∧ w'.cell? ⟨w.heap.size, 1, none⟩ = some (.int .i64 e2) ∧ EB w e1 e2 w')
        (first | exact HS2.out | exact (EB.later (And.right (And.right (by assumption))) ((Below.refl _ _).alloc (Nat.le_refl _) _)).es | exact (EB.grown (And.right (And.right (by assumption))) g13 (row_base own2)).es | exact (EB.grown (And.right (And.right (by assumption))) g12 (row_base own1)).es | exact (EB.grown (And.right (And.right (by assumption))) g11 (by intro k hk; simp [Value.ownBlock] at hk)).es | fail)
        (first
          | (refine step_appE (w.heap.size + 1) (by rfl) _ _ (by rfl) (.slice none 0 0) [] (es.take (j + 1)) (by rfl) (OwnE.nil _ _) (EB.size (And.right (And.right (by assumption)))) (some ⟨b, o, none⟩) (j + 1) c (by rfl) (ReadE.take (h.below (EB.bel (And.right (And.right (by assumption))))) (j + 1) (by omega)) (by simp only [List.nil_append, List.length_append, List.length_take, List.length_cons, List.length_nil]; omega) ?_; intro v1 w11 own1 g11 hat1; try (first | have bx1 := ReadE.grown (ReadE.box1 _ e1 e2 _) g11 (by intro b' o' e'; simp [Value.ownBlock]) | have bx1 := ReadE.grown (ReadE.box1d _ e1 e2 _) g11 (by intro b' o' e'; simp [Value.ownBlock])))
          | (refine step_appE (w.heap.size + 1) (by rfl) _ _ (by rfl) v1 ([] ++ es.take (j + 1)) [(e1, e2)] (by rfl) (by first | exact own1 | exact own_alloc own1 _) (EB.size (And.right (And.right (by assumption)))) _ 1 1 (by rfl) (by first | exact ReadE.box1 _ e1 e2 _ | exact bx1) (by simp only [List.nil_append, List.length_append, List.length_take, List.length_cons, List.length_nil]; omega) ?_; intro v2 w12 own2 g12 hat2)
          | (refine step_appE (w.heap.size + 1) (by rfl) _ _ (by rfl) v2 ([] ++ es.take (j + 1) ++ [(e1, e2)]) (es.drop (j + 1)) (by rfl) own2 (EB.size (And.right (And.right (by assumption)))) A' (n - (j + 1)) (c - (j + 1)) (by rfl) (ReadE.drop (h.below (EB.bel (And.right (And.right (by assumption))))) (j + 1) (by omega) HA'.out) (by simp only [List.nil_append, List.length_append, List.length_take, List.length_cons, List.length_nil]; omega) ?_; intro v3 w13 own3 g13 hat3)
          | fail)
      all_goals
        have hfin3 : EB w e1 e2 w13 := And.right (And.right (by assumption))
        go_wp2_with fail
        go_ret
        exact ⟨_, rfl, by rw [HP.out]; simpa using own3, hfin3.bel⟩
end

end Go.Proofs.YtbnipgajhpbolaaGreatDoor
