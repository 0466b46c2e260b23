/- A blossom that is closed, plainly -/
import Derived.Test.YtbnipgajhpbolaaGreatDoorTe09
set_option linter.unusedVariables false
set_option linter.unusedSimpArgs false
namespace Go.Proofs.YtbnipgajhpbolaaGreatDoor

section
open Go.RowKit
section
variable {N : Nat} {J : Nat → Nat → Prop} {mt : Nat → Int} {s t : Fo}

/-- y's way to the root is shorter than x's. -/
def Dn (mt : Nat → Int) (s : Fo) (x y : Nat) : Prop := ∃ (r : Nat) (q q' : List Int), s.rt x = r ∧ s.rt y = r ∧ Vis mt s x r q ∧ Vis mt s y r q' ∧ q'.length < q.length
theorem Dn.irr {x : Nat} (h : Dn mt s x x) : False := by
  obtain ⟨r, q, q', -, -, h1, h2, h3⟩ := h
  rw [h1.det h2] at h3
  omega
theorem Dn.trans {x y z : Nat} (h : Dn mt s x y) (k : Dn mt s y z) : Dn mt s x z := by
  obtain ⟨r, q, q', e1, e2, h1, h2, h3⟩ := h
  obtain ⟨r', p, p', f1, f2, k1, k2, k3⟩ := k
  obtain rfl : r = r' := by omega
  rw [h2.det k1] at h3
  exact ⟨r, q, p', e1, f2, h1, k2, by omega⟩
/-- Behind v's base. -/
theorem FoI.tail (hm : MtOk N J mt) (hi : FoI N J mt s) {v : Nat} (hv : v < N) (ov : s.ou v = true) {q : List Int} (k : Vis mt s v (s.B v) q) (kb : ∀ x ∈ q, ∃ y : Nat, y < N ∧ x = y ∧ s.ou y = true ∧ s.B y = s.B v) {r : Nat} {l : List Int} (er : s.rt v = r) (h : Vis mt s v r l) (hn : (l ++ [(r : Int)]).Nodup) :
    ∃ l', Vis mt s (s.B v) r l' ∧ l = q ++ l' := by
  obtain ⟨b1, b2, b3, b4, -⟩ := hi.bo v hv ov
  obtain ⟨r', l', e1, e2, e3, e4, e5, e6⟩ := hi.path (s.B v) (hi.bN v hv) b1
  obtain rfl : r = r' := by omega
  refine ⟨l', e4, h.det (k.trans e4 fun hin => ?_)⟩
  obtain ⟨y, y1, y2, y3, y4⟩ := kb _ hin
  obtain rfl : r = y := by omega
  by_cases e : s.B v = r
  · rw [e] at k
    rw [h.det k, List.nodup_append] at hn
    exact hn.2.2 _ hin _ (by simp) rfl
  · obtain ⟨o1, -⟩ := hi.ev r e2 (hi.free r e2 e3).1
    have h2 := hi.clo r e2 o1 (by omega)
    have h3 := hi.bo r e2 o1
    rw [y4] at h3
    obtain ⟨-, -, -, -, q', h5, h6⟩ := h3
    obtain ⟨m, l5, h7, -⟩ := h5.head (fun q => e q.symm)
    omega
/-- From a base up to the next one. -/
theorem FoI.down (hm : MtOk N J mt) (hi : FoI N J mt s) {x m : Nat} (hx : x < N) (ox : s.ou x = true) (bx : s.B x = x) (e : mt x = (m : Int)) :
    ∃ p : Nat, m < N ∧ p < N ∧ s.pd m = p ∧ s.ou p = true ∧ s.ou m = false ∧ s.lab m = 2 ∧ s.lab x = 1 ∧ mt m = (x : Int) ∧ s.rt m = s.rt x ∧ s.rt p = s.rt x ∧ s.rt (s.B p) = s.rt x ∧ Dn mt s x (s.B p) := by
  have lx : s.lab x = 1 := by have := (hi.bo x hx ox).2.2.1; rwa [bx] at this
  obtain ⟨m1, m2, m3, m4⟩ := hm.back hx e
  have lm : s.lab m = 2 := by
    rcases (hi.ev x hx lx).2 with k | ⟨m', k1, k2, k3⟩
    · omega
    · obtain rfl : m = m' := by omega
      exact k3
  obtain ⟨x', p, k1, k2, k3, k4, k5, k6, k7, k8, k9⟩ := hi.od m m1 lm
  obtain rfl : x = x' := by omega
  obtain ⟨b1, b2, b3, b4, q, b5, b6⟩ := hi.bo p k2 k7
  obtain ⟨r, l, e1, e2, e3, e4, e5, e6⟩ := hi.path p k2 k7
  obtain ⟨l', f1, f2⟩ := hi.tail hm k2 k7 b5 b6 e1 e4 e5
  have hxr : x ≠ r := fun q => by subst q; omega
  refine ⟨p, m1, k2, k6, k7, hi.bas x hx ox bx m e, lm, lx, m2, k5.symm, by rw [k8, k5], by rw [b4, k8, k5], r, (x : Int) :: (m : Int) :: l, l', by rw [k5, ← k8, e1], by rw [b4, e1], .even ox lx hxr e lm k6 e4, f1, ?_⟩
  rw [f2]
  simp only [List.length_cons, List.length_append]
  omega

/-- The bases from x up to b, with their mates: b is not among them. -/
inductive Chn (mt : Nat → Int) (s : Fo) (b : Nat) : Nat → List (Nat × Nat) → Prop
  | nil : Chn mt s b b []
  | cons {x m p : Nat} {l : List (Nat × Nat)} : x ≠ b → mt x = (m : Int) → s.pd m = (p : Int) → Chn mt s b (s.B p) l → Chn mt s b x ((x, m) :: l)
/-- What is known of x, on such a way. -/
structure Bse (N : Nat) (s : Fo) (x : Nat) : Prop where
  lt : x < N
  ou : s.ou x = true
  bs : s.B x = x
theorem FoI.bse (hi : FoI N J mt s) {v : Nat} (hv : v < N) (ov : s.ou v = true) : Bse N s (s.B v) := ⟨hi.bN v hv, (hi.bo v hv ov).1, (hi.bo v hv ov).2.1⟩
theorem Chn.mem (hm : MtOk N J mt) (hi : FoI N J mt s) {b x : Nat} {l : List (Nat × Nat)} (h : Chn mt s b x l) (hx : Bse N s x) :
    Bse N s b ∧ s.rt b = s.rt x ∧ (b = x ∨ Dn mt s x b) ∧ ∀ y m, (y, m) ∈ l → Bse N s y ∧ y ≠ b ∧ m < N ∧ mt y = m ∧ mt m = y ∧ s.ou m = false ∧ s.lab m = 2 ∧ s.rt m = s.rt x ∧ s.rt y = s.rt x ∧ (y = x ∨ Dn mt s x y) ∧ Dn mt s y b := by
  induction h with
  | nil => exact ⟨hx, rfl, .inl rfl, fun y m h => by cases h⟩
  | @cons x m p l h1 h2 h3 _ ih =>
    obtain ⟨p', k1, k2, k3, k4, k5, k6, k7, k8, k9, k10, k11, k12⟩ := hi.down hm hx.lt hx.ou hx.bs h2
    obtain rfl : p = p' := by omega
    obtain ⟨i1, i2, i3, i4⟩ := ih (hi.bse k2 k4)
    have hd : Dn mt s x b := by
      rcases i3 with i3 | i3
      · rw [i3]; exact k12
      · exact k12.trans i3
    refine ⟨i1, by rw [i2, k11], .inr hd, fun y m' h => ?_⟩
    rcases List.mem_cons.1 h with h | h
    · simp only [Prod.mk.injEq] at h
      obtain ⟨rfl, rfl⟩ := h
      exact ⟨hx, h1, k1, h2, k8, k5, k6, k9, rfl, .inl rfl, hd⟩
    · obtain ⟨j1, j2, j3, j4, j5, j6, j7, j8, j9, j10, j11⟩ := i4 y m' h
      refine ⟨j1, j2, j3, j4, j5, j6, j7, by rw [j8, k11], by rw [j9, k11], .inr ?_, j11⟩
      rcases j10 with j10 | j10
      · rw [j10]; exact k12
      · exact k12.trans j10
/-- A part of such a way, from y on; and the part ahead of y. -/
theorem Chn.split (hm : MtOk N J mt) (hi : FoI N J mt s) {b x y m : Nat} {l : List (Nat × Nat)} (h : Chn mt s b x l) (hx : Bse N s x) (hy : (y, m) ∈ l) :
    ∃ l1 l2, l = l1 ++ (y, m) :: l2 ∧ Chn mt s y x l1 ∧ Chn mt s b y ((y, m) :: l2) ∧ y ∉ l1.map (·.1) := by
  induction h with
  | nil => cases hy
  | @cons x m' p l h1 h2 h3 h4 ih =>
    by_cases e : y = x
    · subst e
      have : (y, m) = (y, m') := by
        rcases List.mem_cons.1 hy with h | h
        · exact h
        · obtain ⟨p', k1, k2, k3, k4, k5, k6, k7, k8, k9, k10, k11, k12⟩ := hi.down hm hx.lt hx.ou hx.bs h2
          obtain rfl : p = p' := by omega
          have := ((h4.mem hm hi (hi.bse k2 k4)).2.2.2 y m h).2.2.2.2.2.2.2.2.2.1
          rcases this with q | q
          · rw [← q] at k12; exact k12.irr.elim
          · exact (k12.trans q).irr.elim
      simp only [Prod.mk.injEq, true_and] at this
      subst this
      exact ⟨[], l, rfl, .nil, .cons h1 h2 h3 h4, by simp⟩
    · obtain ⟨p', k1, k2, k3, k4, k5, k6, k7, k8, k9, k10, k11, k12⟩ := hi.down hm hx.lt hx.ou hx.bs h2
      obtain rfl : p = p' := by omega
      have hy' : (y, m) ∈ l := by
        rcases List.mem_cons.1 hy with h | h
        · simp only [Prod.mk.injEq] at h
          exact absurd h.1 e
        · exact h
      obtain ⟨l1, l2, e1, e2, e3, e4⟩ := ih (hi.bse k2 k4) hy'
      refine ⟨(x, m') :: l1, l2, by rw [e1]; rfl, .cons (fun q => e q.symm) h2 h3 e2, e3, ?_⟩
      simp only [List.map_cons, List.mem_cons, not_or]
      exact ⟨e, e4⟩
/-- Who stands on the way from v up to b. -/
theorem FoI.seg (hm : MtOk N J mt) (hi : FoI N J mt s) {v b : Nat} (hv : v < N) (ov : s.ou v = true) {l : List (Nat × Nat)} (h : Chn mt s b (s.B v) l) :
    ∃ q, Vis mt s v b q ∧ (b : Int) ∉ q ∧ ∀ z ∈ q, ∃ y : Nat, y < N ∧ z = y ∧ s.rt y = s.rt v ∧ ((s.ou y = true ∧ (s.B y ∈ l.map (·.1) ∨ s.B y = b)) ∨ (s.ou y = false ∧ ∃ x, (x, y) ∈ l ∧ mt y = (x : Int))) := by
  generalize hx : s.B v = x at h
  induction h generalizing v with
  | nil =>
    obtain ⟨b1, b2, b3, b4, q, b5, b6⟩ := hi.bo v hv ov
    rw [hx] at b5 b6
    refine ⟨q, b5, fun hin => ?_, fun z hz => ?_⟩
    · obtain ⟨r, l, e1, e2, e3, e4, e5, e6⟩ := hi.path v hv ov
      rw [← hx] at b5 b6
      obtain ⟨l', f1, f2⟩ := hi.tail hm hv ov b5 b6 e1 e4 e5
      rw [f2, List.append_assoc, List.nodup_append] at e5
      refine e5.2.2 _ hin _ ?_ rfl
      by_cases e : s.B v = r
      · rw [← hx, e]; simp
      · obtain ⟨m, l5, -, h8⟩ := f1.head e
        rw [h8, ← hx]
        simp
    · obtain ⟨y, y1, y2, y3, y4⟩ := b6 z hz
      refine ⟨y, y1, y2, ?_, .inl ⟨y3, .inr y4⟩⟩
      have := (hi.bo y y1 y3).2.2.2.1
      rw [y4, ← hx, b4] at this
      exact this.symm
  | @cons x m p l h1 h2 h3 h4 ih =>
    have hB := hi.bse hv ov
    rw [hx] at hB
    obtain ⟨p', k1, k2, k3, k4, k5, k6, k7, k8, k9, k10, k11, k12⟩ := hi.down hm hB.lt hB.ou hB.bs h2
    obtain rfl : p = p' := by omega
    obtain ⟨q2, i1, i2, i3⟩ := ih k2 k4 rfl
    obtain ⟨b1, b2, b3, b4, q, b5, b6⟩ := hi.bo v hv ov
    rw [hx] at b5 b6 b4
    have hbb := (h4.mem hm hi (hi.bse k2 k4)).1.bs
    have hbq : (b : Int) ∉ q := fun hin => by
      obtain ⟨y, y1, y2, y3, y4⟩ := b6 _ hin
      obtain rfl : b = y := by omega
      exact h1 (by omega)
    have hbm : b ≠ m := fun q => by subst q; have := (h4.mem hm hi (hi.bse k2 k4)).1.ou; rw [k5] at this; cases this
    refine ⟨q ++ ((x : Int) :: (m : Int) :: q2), b5.trans (.even hB.ou k7 h1 h2 k6 h3 i1) hbq, fun hin => ?_, fun z hz => ?_⟩
    · simp only [List.mem_append, List.mem_cons] at hin
      rcases hin with hin | hin | hin | hin
      · exact hbq hin
      · exact h1 (by omega)
      · exact hbm (by omega)
      · exact i2 hin
    · simp only [List.mem_append, List.mem_cons] at hz
      rcases hz with hz | rfl | rfl | hz
      · obtain ⟨y, y1, y2, y3, y4⟩ := b6 z hz
        refine ⟨y, y1, y2, ?_, .inl ⟨y3, .inl (by rw [y4]; simp)⟩⟩
        have := (hi.bo y y1 y3).2.2.2.1
        rw [y4, b4] at this
        exact this.symm
      · exact ⟨x, hB.lt, rfl, b4, .inl ⟨hB.ou, .inl (by rw [hB.bs]; simp)⟩⟩
      · exact ⟨m, k1, rfl, by rw [k9, b4], .inr ⟨k5, x, by simp, k8⟩⟩
      · obtain ⟨y, y1, y2, y3, y4⟩ := i3 z hz
        refine ⟨y, y1, y2, by rw [y3, k10, b4], ?_⟩
        rcases y4 with ⟨y4, y5⟩ | ⟨y4, x', y5, y6⟩
        · refine .inl ⟨y4, ?_⟩
          rcases y5 with y5 | y5
          · exact .inl (by rw [List.map_cons]; exact List.mem_cons_of_mem _ y5)
          · exact .inr y5
        · exact .inr ⟨y4, x', List.mem_cons_of_mem _ y5, y6⟩
end
end

end Go.Proofs.YtbnipgajhpbolaaGreatDoor
