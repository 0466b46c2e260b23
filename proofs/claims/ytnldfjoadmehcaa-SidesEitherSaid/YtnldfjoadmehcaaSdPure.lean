/- Sides, plainly. -/
import Derived.Test.YtnldfjoadmehcaaMatesLaw
set_option linter.unusedVariables false
set_option linter.unusedSimpArgs false
namespace Go.Proofs.Ytnldfjoadmehcaa
open Go.RowKit

/- Sides of graphs, plainly: walks and their parity, colourings, odd cycles. -/
/-- y is next to x. -/
def Nxt (es : List Ed) (x y : Nat) : Prop := (y : Int) ∈ nearV es x
theorem Nxt.symm {es : List Ed} {x y : Nat} (h : Nxt es x y) : Nxt es y x := near_symm h
theorem Nxt.lt {N : Nat} {es : List Ed} (hr : Rise N es) {x y : Nat} (h : Nxt es x y) : x < N ∧ y < N ∧ x ≠ y := by
  have := near_in hr h
  omega
theorem nxt_edge {N : Nat} {es : List Ed} (hr : Rise N es) {x y : Nat} : Nxt es x y ↔ ((x : Int), (y : Int)) ∈ es ∨ ((y : Int), (x : Int)) ∈ es := by
  unfold Nxt
  rw [mem_nearV]
  exact or_comm

/-- A walk from one vertex to another; is the number of its edges odd? -/
inductive Way (es : List Ed) : Nat → Nat → Bool → Prop
  | here (x : Nat) : Way es x x false
  | step {x y z : Nat} {p : Bool} : Way es x y p → Nxt es y z → Way es x z (!p)
theorem Way.trans {es : List Ed} {x y z : Nat} {p q : Bool} (h : Way es x y p) (k : Way es y z q) : Way es x z (p != q) := by
  induction k with
  | here => simpa using h
  | @step y' z' q' _ e ih =>
    have := ih.step e
    rw [show (p != !q') = !(p != q') from by cases p <;> cases q' <;> rfl]
    exact this
theorem Way.symm {es : List Ed} {x y : Nat} {p : Bool} (h : Way es x y p) : Way es y x p := by
  induction h with
  | here => exact .here _
  | @step y z p _ e ih =>
    have h1 : Way es z y true := (Way.here z).step e.symm
    have := h1.trans ih
    rw [show (!p) = (true != p) from by cases p <;> rfl]
    exact this
/-- A colouring by 0 and 1. -/
structure TwoCol (N : Nat) (es : List Ed) (t : List Int) : Prop where
  len : t.length = N
  val : ∀ v, v < N → gi t v = 0 ∨ gi t v = 1
  dif : ∀ x y, Nxt es x y → gi t x ≠ gi t y
theorem two_way {N : Nat} {es : List Ed} {t : List Int} (hr : Rise N es) (h : TwoCol N es t) {x y : Nat} {p : Bool} (w : Way es x y p) (hx : x < N) : y < N ∧ gi t y = if p = true then 1 - gi t x else gi t x := by
  induction w with
  | here => exact ⟨hx, by simp⟩
  | @step y z p _ e ih =>
    obtain ⟨h1, h2⟩ := ih
    obtain ⟨-, h3, -⟩ := e.lt hr
    refine ⟨h3, ?_⟩
    have a := h.val y h1
    have b := h.val z h3
    have c := h.dif y z e
    cases p <;> simp at h2 ⊢ <;> omega
theorem two_parity {N : Nat} {es : List Ed} {t : List Int} (hr : Rise N es) (h : TwoCol N es t) {x y : Nat} {p q : Bool} (w : Way es x y p) (v : Way es x y q) (hx : x < N) : p = q := by
  have h1 := (two_way hr h w hx).2
  have h2 := (two_way hr h v hx).2
  have h3 := h.val x hx
  cases p <;> cases q <;> simp at h1 h2 ⊢ <;> omega

/-- x is coloured by the parity of a walk from the least vertex of its piece. -/
def Rooted (es : List Ed) (t : List Int) (x : Nat) : Prop := ∃ r, Way es r x (gi t x == 1) ∧ ∀ y q, Way es r y q → r ≤ y
theorem root_same {es : List Ed} {x y r s : Nat} {p q o : Bool} (h1 : Way es r x p) (m1 : ∀ y q, Way es r y q → r ≤ y) (h2 : Way es s y q) (m2 : ∀ y q, Way es s y q → s ≤ y) (hxy : Way es x y o) : r = s := by
  have a := m1 _ _ ((h1.trans hxy).trans h2.symm)
  have b := m2 _ _ ((h2.trans hxy.symm).trans h1.symm)
  omega
theorem rooted_eq {N : Nat} {es : List Ed} {s t : List Int} (hr : Rise N es) (hs : TwoCol N es s) {x : Nat} (hx : x < N) (h1 : Rooted es s x) (h2 : Rooted es t x) (hv : gi t x = 0 ∨ gi t x = 1) : gi s x = gi t x := by
  obtain ⟨r1, w1, m1⟩ := h1
  obtain ⟨r2, w2, m2⟩ := h2
  obtain rfl := root_same w1 m1 w2 m2 (Way.here x)
  have hrl : r1 < N := (two_way hr hs w1.symm hx).1
  have := two_parity hr hs w1 w2 hrl
  have a := hs.val x hx
  rcases a with a | a <;> rcases hv with b | b <;> rw [a, b] at this ⊢ <;> simp at this
theorem sides_eq {N : Nat} {es : List Ed} {s t : List Int} (hr : Rise N es) (hs : TwoCol N es s) (ht : TwoCol N es t) (h1 : ∀ x, x < N → Rooted es s x) (h2 : ∀ x, x < N → Rooted es t x) : s = t :=
  list_ext_gi (by rw [hs.len, ht.len]) fun j hj => by
    rw [hs.len] at hj
    exact rooted_eq hr hs hj (h1 j hj) (h2 j hj) (ht.val j hj)
/-- An edge whose ends the same parity comes to bars all colourings. -/
theorem clash_none {N : Nat} {es : List Ed} {s t : List Int} (hr : Rise N es) {x y : Nat} (e : Nxt es x y) (h1 : Rooted es t x) (h2 : Rooted es t y) (hxy : gi t x = gi t y) : ¬ TwoCol N es s := fun hs => by
  obtain ⟨r1, w1, m1⟩ := h1
  obtain ⟨r2, w2, m2⟩ := h2
  obtain ⟨hx, hy, -⟩ := e.lt hr
  obtain rfl := root_same w1 m1 w2 m2 ((Way.here x).step e)
  have hrl : r1 < N := (two_way hr hs w1.symm hx).1
  have := two_parity hr hs (w1.step e) w2 hrl
  rw [hxy] at this
  cases h : (gi t y == 1) <;> rw [h] at this <;> cases this

/-- A closed list of neighbours, of which none comes twice. -/
structure Ring (es : List Ed) (c : List Int) : Prop where
  nod : c.Nodup
  nxt : ∀ i, i < c.length → ∃ x y : Nat, gi c i = x ∧ gi c ((i + 1) % c.length) = y ∧ Nxt es x y
def OddRing (es : List Ed) (c : List Int) : Prop := Ring es c ∧ 3 ≤ c.length ∧ c.length % 2 = 1
theorem ring_way {es : List Ed} {c : List Int} (h : Ring es c) : ∀ i, i < c.length → ∃ x y : Nat, gi c 0 = x ∧ gi c i = y ∧ Way es x y (decide (i % 2 = 1))
  | 0, hi => by
    obtain ⟨x, y, h1, -, -⟩ := h.nxt 0 hi
    exact ⟨x, x, h1, h1, .here x⟩
  | i + 1, hi => by
    obtain ⟨x, y, h1, h2, h3⟩ := ring_way h i (by omega)
    obtain ⟨a, b, g1, g2, g3⟩ := h.nxt i (by omega)
    rw [Nat.mod_eq_of_lt hi] at g2
    have : y = a := by omega
    subst this
    refine ⟨x, b, h1, g2, ?_⟩
    have := h3.step g3
    rw [show decide ((i + 1) % 2 = 1) = !decide (i % 2 = 1) from by
      rcases Nat.mod_two_eq_zero_or_one i with q | q
      · rw [show (i + 1) % 2 = 1 from by omega, q]; rfl
      · rw [show (i + 1) % 2 = 0 from by omega, q]; rfl]
    exact this
theorem odd_none {N : Nat} {es : List Ed} {c t : List Int} (hr : Rise N es) (h : OddRing es c) : ¬ TwoCol N es t := fun ht => by
  obtain ⟨hg, h3, ho⟩ := h
  obtain ⟨x, y, h1, h2, h4⟩ := ring_way hg (c.length - 1) (by omega)
  obtain ⟨a, b, g1, g2, g3⟩ := hg.nxt (c.length - 1) (by omega)
  rw [show c.length - 1 + 1 = c.length from by omega, Nat.mod_self] at g2
  have e1 : y = a := by omega
  have e2 : x = b := by omega
  subst e1 e2
  have hx := (g3.lt hr).2.1
  have := two_parity hr ht (h4.step g3) (Way.here x) hx
  rw [show (c.length - 1) % 2 = 0 from by omega] at this
  cases this

/-- What the references', and the program's, IsCycle tells. -/
def cycAt (N : Int) (es : List Ed) (l : List Int) (i : Nat) : Bool := !(decide (gi l i ∈ l.take i)) && hasB N es (gi l i) (gi l ((i + 1) % l.length))
def cycTo (N : Int) (es : List Ed) (l : List Int) : Nat → Bool
  | 0 => true
  | i + 1 => cycTo N es l i && cycAt N es l i
def isCycB (N : Int) (es : List Ed) (l : List Int) : Bool := rightB N es && (decide (3 ≤ l.length) && cycTo N es l l.length)
theorem cycTo_iff {N : Int} {es : List Ed} {l : List Int} : ∀ {k : Nat}, cycTo N es l k = true ↔ ∀ i, i < k → cycAt N es l i = true
  | 0 => by simp [cycTo]
  | k + 1 => by
    rw [cycTo, Bool.and_eq_true, cycTo_iff]
    constructor
    · rintro ⟨h1, h2⟩ v hv
      by_cases e : v = k
      · exact e ▸ h2
      · exact h1 v (by omega)
    · intro h
      exact ⟨fun v hv => h v (by omega), h k (by omega)⟩
theorem cycTo_false {N : Int} {es : List Ed} {l : List Int} {v k : Nat} (h : cycAt N es l v = false) (hv : v < k) : cycTo N es l k = false := by
  cases q : cycTo N es l k
  · rfl
  · have := cycTo_iff.1 q v hv
    rw [h] at this
    cases this
theorem cyc_ring {N : Nat} {es : List Ed} {l : List Int} (hr : rightB N es = true) : isCycB N es l = true ↔ Ring es l ∧ 3 ≤ l.length := by
  have hR := (rightB_iff.1 hr).2.2.2
  unfold isCycB
  rw [hr, Bool.true_and, Bool.and_eq_true, decide_eq_true_eq, cycTo_iff]
  constructor
  · rintro ⟨h3, h⟩
    refine ⟨⟨?_, fun i hi => ?_⟩, h3⟩
    · refine List.pairwise_iff_getElem.2 fun i j hi hj hij e => ?_
      have := h j hj
      unfold cycAt at this
      simp only [Bool.and_eq_true, Bool.not_eq_true', decide_eq_false_iff_not] at this
      refine this.1 ?_
      rw [gi_at hj, ← e, List.mem_take_iff_getElem]
      exact ⟨i, by omega, rfl⟩
    · have := h i hi
      unfold cycAt at this
      simp only [Bool.and_eq_true] at this
      obtain ⟨x, y, h1, h2, -, -, -, h4⟩ := has_ends hr this.2
      exact ⟨x, y, h1, h2, h4⟩
  · rintro ⟨hg, h3⟩
    refine ⟨h3, fun i hi => ?_⟩
    obtain ⟨x, y, h1, h2, h4⟩ := hg.nxt i hi
    unfold cycAt
    rw [Bool.and_eq_true, Bool.not_eq_true', decide_eq_false_iff_not, h1, h2, hasB_iff hr, mem_turn hR]
    refine ⟨fun hm => ?_, h4⟩
    rw [← h1, gi_at hi, List.mem_take_iff_getElem] at hm
    obtain ⟨j, hj, e⟩ := hm
    exact (List.pairwise_iff_getElem.1 hg.nod j i (by omega) hi (by omega)) e

/- How the reference lays sides, plainly. -/
/-- Some are coloured, each by its root. -/
structure MidI (N : Nat) (es : List Ed) (sd : List Int) : Prop where
  len : sd.length = N
  val : ∀ x, x < N → gi sd x = -1 ∨ gi sd x = 0 ∨ gi sd x = 1
  root : ∀ x, x < N → 0 ≤ gi sd x → Rooted es sd x
def DoneTo (sd : List Int) (k : Nat) : Prop := ∀ x, x < k → 0 ≤ gi sd x
/-- With each coloured one its neighbours are. -/
def Closed (es : List Ed) (sd : List Int) : Prop := ∀ x y, Nxt es x y → 0 ≤ gi sd x → 0 ≤ gi sd y
/-- How many are not coloured yet. -/
def unc (N : Nat) (sd : List Int) : Nat := (sel (fun v => decide (gi sd v < 0)) N).length
theorem rooted_set {es : List Ed} {sd : List Int} {x y : Nat} {a : Int} (h : Rooted es sd x) (hxy : x ≠ y) : Rooted es (sd.set y a) x := by
  unfold Rooted at *
  rw [gi_set, if_neg (by omega)]
  exact h
theorem done_set {sd : List Int} {k y : Nat} {a : Int} (h : DoneTo sd k) (ha : 0 ≤ a) : DoneTo (sd.set y a) k := fun x hx => by
  rw [gi_set]
  split
  · exact ha
  · exact h x hx
theorem unc_set {N : Nat} {sd : List Int} (hl : sd.length = N) {y : Nat} {a : Int} (hy : y < N) (h : gi sd y < 0) (ha : 0 ≤ a) : unc N (sd.set y a) + 1 = unc N sd := by
  unfold unc
  have := sel_or (fun v => decide (gi sd v < 0)) (fun v => decide (gi (sd.set y a) v < 0)) (fun v => v == y) (fun v => by
    rw [gi_set]
    by_cases e : v = y
    · subst e
      simp [h]
    · rw [if_neg (by omega)]
      simp [e]) (fun v hv => by
    rw [gi_set] at hv
    by_cases e : v = y
    · rw [if_pos ⟨e, by omega⟩] at hv
      simp at hv
      omega
    · simpa using e) N
  rw [sel_one, if_pos hy] at this
  exact this.symm
/-- A neighbour of a coloured one is coloured. -/
theorem mid_put {N : Nat} {es : List Ed} {sd : List Int} (hr : Rise N es) (h : MidI N es sd) {x y : Nat} (e : Nxt es x y) (hx : 0 ≤ gi sd x) (hy : gi sd y < 0) : MidI N es (sd.set y (1 - gi sd x)) := by
  obtain ⟨h1, h2, h3⟩ := e.lt hr
  have hv := h.val x h1
  refine ⟨by rw [List.length_set]; exact h.len, fun z hz => ?_, fun z hz h0 => ?_⟩
  · rw [gi_set]
    split
    · omega
    · exact h.val z hz
  · by_cases q : z = y
    · subst q
      obtain ⟨r, w, m⟩ := h.root x h1 hx
      refine ⟨r, ?_, m⟩
      rw [gi_set, if_pos ⟨rfl, by rw [h.len]; exact h2⟩]
      have := w.step e
      rw [show (1 - gi sd x == 1) = !(gi sd x == 1) from by rcases hv with q | q | q <;> rw [q] <;> first | rfl | (exfalso; omega)]
      exact this
    · rw [gi_set, if_neg (by omega)] at h0
      exact rooted_set (h.root z hz h0) q
theorem way_bare {N : Nat} {es : List Ed} {sd : List Int} (hc : Closed es sd) {k y : Nat} {q : Bool} (w : Way es k y q) (hk : gi sd k < 0) : gi sd y < 0 := by
  induction w with
  | here => exact hk
  | @step y z p _ e ih =>
    by_cases q : gi sd z < 0
    · exact q
    · have := hc z y e.symm (by omega)
      omega
/-- The least of a new piece is coloured. -/
theorem mid_start {N : Nat} {es : List Ed} {sd : List Int} (h : MidI N es sd) (hc : Closed es sd) {k : Nat} (hd : DoneTo sd k) (hk : k < N) (h0 : gi sd k < 0) : MidI N es (sd.set k 0) ∧ DoneTo (sd.set k 0) (k + 1) ∧ (∀ y q, Way es k y q → k ≤ y) := by
  have hmin : ∀ y q, Way es k y q → k ≤ y := fun y q w => by
    have h1 := way_bare (N := N) hc w h0
    by_cases e : k ≤ y
    · exact e
    · have := hd y (by omega)
      omega
  refine ⟨⟨by rw [List.length_set]; exact h.len, fun z hz => ?_, fun z hz hz0 => ?_⟩, fun x hx => ?_, hmin⟩
  · rw [gi_set]
    split
    · omega
    · exact h.val z hz
  · by_cases q : z = k
    · subst q
      refine ⟨z, ?_, hmin⟩
      rw [gi_set, if_pos ⟨rfl, by rw [h.len]; exact hz⟩]
      exact .here z
    · rw [gi_set, if_neg (by omega)] at hz0
      exact rooted_set (h.root z hz hz0) q
  · rw [gi_set]
    by_cases q : x = k
    · rw [if_pos ⟨q, by rw [h.len]; exact hk⟩]
      omega
    · rw [if_neg (by omega)]
      exact hd x (by omega)
theorem mid_none {N : Nat} {es : List Ed} (hr : Rise N es) : MidI N es (List.replicate N (-1)) ∧ Closed es (List.replicate N (-1)) ∧ DoneTo (List.replicate N (-1)) 0 := by
  refine ⟨⟨by simp, fun x hx => .inl (gi_rep _ _ _ hx), fun x hx h0 => ?_⟩, fun x y e h0 => ?_, fun x hx => absurd hx (by omega)⟩
  · rw [gi_rep _ _ _ hx] at h0
    omega
  · rw [gi_rep _ _ _ (e.lt hr).1] at h0
    omega

/-- So far in a pass over the edges: what was turned, and that nothing was. -/
def PassI (N : Nat) (es : List Ed) (sd0 : List Int) (i : Nat) (ag : Bool) (sd : List Int) : Prop :=
  (ag = true → unc N sd < unc N sd0) ∧ (ag = false → sd = sd0 ∧ ∀ j, j < i → ∀ x y : Nat, ge es j = ((x : Int), (y : Int)) → (0 ≤ gi sd x ↔ 0 ≤ gi sd y))
theorem pass_start (N : Nat) (es : List Ed) (sd : List Int) : PassI N es sd 0 false sd := ⟨fun h => (by cases h), fun _ => ⟨rfl, fun j hj => absurd hj (by omega)⟩⟩
theorem pass_keep {N : Nat} {es : List Ed} {sd0 sd : List Int} {i : Nat} {ag : Bool} (h : PassI N es sd0 i ag sd) {x y : Nat} (he : ge es i = ((x : Int), (y : Int))) (hs : 0 ≤ gi sd x ↔ 0 ≤ gi sd y) : PassI N es sd0 (i + 1) ag sd := by
  refine ⟨h.1, fun q => ⟨(h.2 q).1, fun j hj a b hab => ?_⟩⟩
  by_cases e : j = i
  · subst e
    rw [he] at hab
    injection hab with h1 h2
    have h3 : x = a := by omega
    have h4 : y = b := by omega
    subst h3 h4
    exact hs
  · exact (h.2 q).2 j (by omega) a b hab
theorem pass_turn {N : Nat} {es : List Ed} {sd0 sd : List Int} {i : Nat} {ag : Bool} (h : PassI N es sd0 i ag sd) (hl : sd.length = N) {y : Nat} {a : Int} (hy : y < N) (h0 : gi sd y < 0) (ha : 0 ≤ a) : PassI N es sd0 (i + 1) true (sd.set y a) := by
  have := unc_set hl hy h0 ha
  refine ⟨fun _ => ?_, fun q => by cases q⟩
  cases ag
  · rw [(h.2 rfl).1] at this ⊢
    omega
  · have := h.1 rfl
    omega
theorem pass_closed {N : Nat} {es : List Ed} {sd0 sd : List Int} (hr : Rise N es) (h : PassI N es sd0 es.length false sd) : sd = sd0 ∧ Closed es sd := by
  obtain ⟨h1, h2⟩ := h.2 rfl
  refine ⟨h1, fun x y e h0 => ?_⟩
  rcases (nxt_edge hr).1 e with hm | hm
  · obtain ⟨j, hj, he⟩ := List.getElem_of_mem hm
    exact (h2 j hj x y (by rw [ge_get hj]; exact he)).1 h0
  · obtain ⟨j, hj, he⟩ := List.getElem_of_mem hm
    exact (h2 j hj y x (by rw [ge_get hj]; exact he)).2 h0
/-- What both lay, where there are sides. -/
def SideOk (N : Nat) (es : List Ed) (t : List Int) : Prop := TwoCol N es t ∧ ∀ x, x < N → Rooted es t x
theorem side_unique {N : Nat} {es : List Ed} {s t : List Int} (hr : Rise N es) (h : SideOk N es s) (k : SideOk N es t) : s = t := sides_eq hr h.1 k.1 h.2 k.2
theorem mid_two {N : Nat} {es : List Ed} {sd : List Int} (hr : Rise N es) (h : MidI N es sd) (hd : DoneTo sd N) (hx : ∀ j, j < es.length → ∀ x y : Nat, ge es j = ((x : Int), (y : Int)) → gi sd x ≠ gi sd y) : SideOk N es sd := by
  refine ⟨⟨h.len, fun v hv => ?_, fun x y e => ?_⟩, fun x hx => h.root x hx (hd x hx)⟩
  · have := h.val v hv
    have := hd v hv
    omega
  · rcases (nxt_edge hr).1 e with hm | hm
    · obtain ⟨j, hj, he⟩ := List.getElem_of_mem hm
      exact hx j hj x y (by rw [ge_get hj]; exact he)
    · obtain ⟨j, hj, he⟩ := List.getElem_of_mem hm
      exact fun q => hx j hj y x (by rw [ge_get hj]; exact he) q.symm

/- Paths up to the roots, and the ring that two of them close. -/
theorem gi_cons (x : Int) (l : List Int) (i : Nat) : gi (x :: l) (i + 1) = gi l i := rfl
/-- The path up from x, its root last. -/
inductive Up (es : List Ed) (sd fr : List Int) : Nat → List Int → Prop
  | root {k : Nat} : gi fr k = -1 → gi sd k = 0 → Up es sd fr k [(k : Int)]
  | step {x p : Nat} {l : List Int} : Up es sd fr p l → gi fr x = (p : Int) → Nxt es p x → gi sd x = 1 - gi sd p → Up es sd fr x ((x : Int) :: l)
theorem Up.ne {es : List Ed} {sd fr l : List Int} {x : Nat} (h : Up es sd fr x l) : 0 < l.length ∧ gi l 0 = x := by cases h <;> exact ⟨by simp, rfl⟩
theorem Up.val {es : List Ed} {sd fr l : List Int} {x : Nat} (h : Up es sd fr x l) : gi sd x = if l.length % 2 = 1 then 0 else 1 := by
  induction h with
  | root _ h => rw [h]; rfl
  | @step x p l _ _ _ h ih =>
    rw [h, ih, List.length_cons]
    rcases Nat.mod_two_eq_zero_or_one l.length with q | q
    · rw [if_neg (by omega), if_pos (by omega)]; rfl
    · rw [if_pos (by omega), if_neg (by omega)]; rfl
theorem Up.unique {es : List Ed} {sd fr l l' : List Int} {x : Nat} (h : Up es sd fr x l) (k : Up es sd fr x l') : l = l' := by
  induction h generalizing l' with
  | root h1 _ =>
    cases k with
    | root => rfl
    | step _ h _ _ => rw [h1] at h; omega
  | @step x p l _ h1 _ _ ih =>
    cases k with
    | root h _ => rw [h1] at h; omega
    | @step _ q m k1 h2 _ _ =>
      have e : p = q := by rw [h1] at h2; omega
      subst e
      rw [ih k1]
theorem Up.way {es : List Ed} {sd fr l : List Int} {x : Nat} (h : Up es sd fr x l) : ∃ k : Nat, gi l (l.length - 1) = k ∧ Way es k x (gi sd x == 1) := by
  induction h with
  | @root k _ h => exact ⟨k, rfl, by rw [h]; exact .here k⟩
  | @step x p l h0 h1 h2 h3 ih =>
    obtain ⟨k, e, w⟩ := ih
    refine ⟨k, ?_, ?_⟩
    · have := h0.ne.1
      rw [List.length_cons, show l.length + 1 - 1 = (l.length - 1) + 1 from by omega, gi_cons]
      exact e
    · have := w.step h2
      have hv := h0.val
      rw [h3, show (1 - gi sd p == 1) = !(gi sd p == 1) from by rw [hv]; split <;> rfl]
      exact this
theorem Up.at {es : List Ed} {sd fr l : List Int} {x : Nat} (h : Up es sd fr x l) : ∀ i, i < l.length → ∃ y : Nat, gi l i = y ∧ Up es sd fr y (l.drop i) := by
  induction h with
  | @root k h1 h2 =>
    intro i hi
    have : i = 0 := by simpa using hi
    subst this
    exact ⟨k, rfl, .root h1 h2⟩
  | @step x p l h0 h1 h2 h3 ih =>
    intro i hi
    cases i with
    | zero => exact ⟨x, rfl, .step h0 h1 h2 h3⟩
    | succ i =>
      rw [List.length_cons] at hi
      obtain ⟨y, e, u⟩ := ih i (by omega)
      exact ⟨y, by rw [gi_cons]; exact e, u⟩
theorem Up.next {es : List Ed} {sd fr l : List Int} {x : Nat} (h : Up es sd fr x l) : ∀ i, i + 1 < l.length → ∃ a b : Nat, gi l i = a ∧ gi l (i + 1) = b ∧ Nxt es b a := by
  induction h with
  | root h1 h2 => intro i hi; simp at hi
  | @step x p l h0 h1 h2 h3 ih =>
    intro i hi
    rw [List.length_cons] at hi
    cases i with
    | zero => exact ⟨x, p, rfl, by rw [gi_cons]; exact h0.ne.2, h2⟩
    | succ i =>
      obtain ⟨a, b, e1, e2, e⟩ := ih i (by omega)
      exact ⟨a, b, by rw [gi_cons]; exact e1, by rw [gi_cons]; exact e2, e⟩
theorem Up.meet {es : List Ed} {sd fr l l' : List Int} {x y : Nat} (h : Up es sd fr x l) (k : Up es sd fr y l') {i j : Nat} (hi : i < l.length) (hj : j < l'.length) (e : gi l i = gi l' j) : l.drop i = l'.drop j := by
  obtain ⟨a, e1, u⟩ := h.at i hi
  obtain ⟨b, e2, v⟩ := k.at j hj
  have : a = b := by omega
  subst this
  exact u.unique v
theorem gi_drop (l : List Int) (i j : Nat) : gi (l.drop i) j = gi l (i + j) := by simp [gi, List.getD_eq_getElem?_getD]
theorem Up.col {es : List Ed} {sd fr l : List Int} {x : Nat} (h : Up es sd fr x l) : 0 ≤ gi sd x := by rw [h.val]; split <;> omega
theorem Up.keep {es : List Ed} {sd fr l : List Int} {x y : Nat} {a b : Int} (h : Up es sd fr x l) (hy : gi sd y < 0) : Up es (sd.set y a) (fr.set y b) x l := by
  have hk : ∀ z, 0 ≤ gi sd z → gi (sd.set y a) z = gi sd z ∧ gi (fr.set y b) z = gi fr z := fun z hz => by
    have : z ≠ y := fun e => by subst e; omega
    rw [gi_set, gi_set, if_neg (by omega), if_neg (by omega)]
    exact ⟨rfl, rfl⟩
  induction h with
  | @root k h1 h2 =>
    obtain ⟨e1, e2⟩ := hk k (by omega)
    exact .root (by rw [e2]; exact h1) (by rw [e1]; exact h2)
  | @step x p l h0 h1 h2 h3 ih =>
    obtain ⟨e1, e2⟩ := hk x (Up.step h0 h1 h2 h3).col
    obtain ⟨e3, -⟩ := hk p h0.col
    exact .step ih (by rw [e2]; exact h1) h2 (by rw [e1, e3]; exact h3)

/-- How far two paths are cut: the last of both are the same. -/
def Cut (la lb : List Int) (p q : Nat) : Prop := 1 ≤ p ∧ 1 ≤ q ∧ p ≤ la.length ∧ q ≤ lb.length ∧ la.length - p = lb.length - q ∧ gi la (p - 1) = gi lb (q - 1)
theorem cut_step {la lb : List Int} {p q : Nat} (h : Cut la lb p q) (hp : 1 < p) (hq : 1 < q) (e : gi la (p - 2) = gi lb (q - 2)) : Cut la lb (p - 1) (q - 1) := by
  obtain ⟨h1, h2, h3, h4, h5, h6⟩ := h
  exact ⟨by omega, by omega, by omega, by omega, by omega, by rw [show p - 1 - 1 = p - 2 from by omega, show q - 1 - 1 = q - 2 from by omega]; exact e⟩
theorem ring_of {N : Nat} {es : List Ed} {sd fr la lb r : List Int} {a b p q : Nat} (hr : Rise N es) (ha : Up es sd fr a la) (hb : Up es sd fr b lb) (hab : Nxt es a b) (hs : gi sd a = gi sd b) (hc : Cut la lb p q)
    (he : ¬ (1 < p ∧ 1 < q ∧ gi la (p - 2) = gi lb (q - 2))) (hl : r.length = p + q - 1) (h1 : ∀ i, i < p → gi r i = gi la i) (h2 : ∀ i, p ≤ i → i < p + q - 1 → gi r i = gi lb (p + q - 2 - i)) : OddRing es r := by
  obtain ⟨c1, c2, c3, c4, c5, c6⟩ := hc
  have hself : ∀ {x : Nat} {l : List Int}, Up es sd fr x l → ∀ i j, i < l.length → j < l.length → gi l i = gi l j → i = j := fun u i j hi hj e => by
    have := congrArg List.length (u.meet u hi hj e)
    simp at this
    omega
  have hcross : ∀ i j, i < p → j + 1 < q → gi la i = gi lb j → False := fun i j hi hj e => by
    have h := ha.meet hb (by omega) (by omega) e
    have hlen := congrArg List.length h
    simp at hlen
    by_cases q1 : i = p - 1
    · omega
    · refine he ⟨by omega, by omega, ?_⟩
      have g := congrArg (fun l => gi l (p - 2 - i)) h
      simp only [gi_drop] at g
      rw [show i + (p - 2 - i) = p - 2 from by omega, show j + (p - 2 - i) = q - 2 from by omega] at g
      exact g
  have hne : a ≠ b := (hab.lt hr).2.2
  have hva := ha.val
  have hvb := hb.val
  have hpar : la.length % 2 = lb.length % 2 := by
    rw [hva, hvb] at hs
    rcases Nat.mod_two_eq_zero_or_one la.length with q1 | q1 <;> rcases Nat.mod_two_eq_zero_or_one lb.length with q2 | q2 <;> rw [q1, q2] at hs <;> simp at hs <;> omega
  have hpq : ¬ (p = 1 ∧ q = 1) := fun ⟨e1, e2⟩ => by
    subst e1 e2
    have e3 := ha.ne.2
    have e4 := hb.ne.2
    simp only [Nat.sub_self] at c6
    omega
  have hfar : ∀ i, p - 1 ≤ i → i < p + q - 1 → gi r i = gi lb (p + q - 2 - i) := fun i hi hj => by
    by_cases e : i = p - 1
    · subst e
      rw [h1 _ (by omega), c6]
      congr 1
      omega
    · exact h2 i (by omega) hj
  refine ⟨⟨?_, fun i hi => ?_⟩, by omega, by omega⟩
  · refine List.pairwise_iff_getElem.2 fun i j hi hj hij e => ?_
    rw [← gi_at hi, ← gi_at hj] at e
    by_cases q1 : j < p
    · rw [h1 i (by omega), h1 j q1] at e
      have := hself ha i j (by omega) (by omega) e
      omega
    · rw [h2 j (by omega) (by omega)] at e
      by_cases q2 : i < p
      · rw [h1 i q2] at e
        exact hcross i _ q2 (by omega) e
      · rw [h2 i (by omega) (by omega)] at e
        have := hself hb _ _ (by omega) (by omega) e
        omega
  · rw [hl] at hi ⊢
    by_cases q1 : i + 1 < p + q - 1
    · rw [Nat.mod_eq_of_lt q1]
      by_cases q2 : i + 1 < p
      · obtain ⟨x, y, e1, e2, e⟩ := ha.next i (by omega)
        exact ⟨x, y, by rw [h1 i (by omega)]; exact e1, by rw [h1 (i + 1) q2]; exact e2, e.symm⟩
      · obtain ⟨x, y, e1, e2, e⟩ := hb.next (p + q - 2 - (i + 1)) (by omega)
        rw [show p + q - 2 - (i + 1) + 1 = p + q - 2 - i from by omega] at e2
        exact ⟨y, x, by rw [hfar i (by omega) hi]; exact e2, by rw [hfar (i + 1) (by omega) q1]; exact e1, e⟩
    · have hi2 : i = p + q - 2 := by omega
      subst hi2
      rw [show p + q - 2 + 1 = p + q - 1 from by omega, Nat.mod_self]
      refine ⟨b, a, ?_, ?_, hab.symm⟩
      · rw [hfar _ (by omega) (by omega), Nat.sub_self]
        exact hb.ne.2
      · rw [h1 0 (by omega)]
        exact ha.ne.2

/-- What the search keeps: colours, where each came from, and the paths. -/
structure TreeI (N : Nat) (es : List Ed) (sd fr : List Int) : Prop where
  len : sd.length = N
  frl : fr.length = N
  val : ∀ x, x < N → gi sd x = -1 ∨ gi sd x = 0 ∨ gi sd x = 1
  up : ∀ x, x < N → 0 ≤ gi sd x → ∃ l, Up es sd fr x l ∧ l.length + unc N sd ≤ N ∧ ∀ r : Nat, gi l (l.length - 1) = r → ∀ y q, Way es r y q → r ≤ y
theorem TreeI.mid {N : Nat} {es : List Ed} {sd fr : List Int} (h : TreeI N es sd fr) : MidI N es sd := ⟨h.len, h.val, fun x hx h0 => by
  obtain ⟨l, u, -, m⟩ := h.up x hx h0
  obtain ⟨k, e, w⟩ := u.way
  exact ⟨k, w, m k e⟩⟩
theorem TreeI.cut {N : Nat} {es : List Ed} {sd fr la lb : List Int} (hr : Rise N es) (h : TreeI N es sd fr) {a b : Nat} (ha : Up es sd fr a la) (hb : Up es sd fr b lb) (hab : Nxt es a b) : Cut la lb la.length lb.length := by
  obtain ⟨h1, h2, -⟩ := hab.lt hr
  obtain ⟨l, u, -, m⟩ := h.up a h1 ha.col
  obtain ⟨l', u', -, m'⟩ := h.up b h2 hb.col
  obtain rfl := u.unique ha
  obtain rfl := u'.unique hb
  obtain ⟨k, e, w⟩ := u.way
  obtain ⟨k', e', w'⟩ := u'.way
  have := root_same w (m k e) w' (m' k' e') ((Way.here a).step hab)
  have g1 := u.ne.1
  have g2 := u'.ne.1
  exact ⟨by omega, by omega, Nat.le_refl _, Nat.le_refl _, by omega, by rw [e, e', this]⟩
/-- One is coloured that was not. -/
theorem TreeI.set {N : Nat} {es : List Ed} {sd fr : List Int} (h : TreeI N es sd fr) {y : Nat} {a b : Int} (hy : y < N) (h0 : gi sd y < 0) (ha : a = 0 ∨ a = 1)
    (hu : ∃ l, Up es (sd.set y a) (fr.set y b) y l ∧ l.length + unc N (sd.set y a) ≤ N ∧ ∀ r : Nat, gi l (l.length - 1) = r → ∀ y q, Way es r y q → r ≤ y) : TreeI N es (sd.set y a) (fr.set y b) := by
  have hun := unc_set h.len hy h0 (show 0 ≤ a by omega)
  refine ⟨by rw [List.length_set]; exact h.len, by rw [List.length_set]; exact h.frl, fun x hx => ?_, fun x hx hx0 => ?_⟩
  · rw [gi_set]
    split
    · omega
    · exact h.val x hx
  · by_cases e : x = y
    · subst e
      exact hu
    · rw [gi_set, if_neg (by omega)] at hx0
      obtain ⟨l, u, hl, m⟩ := h.up x hx hx0
      exact ⟨l, u.keep h0, by omega, m⟩
theorem TreeI.put {N : Nat} {es : List Ed} {sd fr : List Int} (hr : Rise N es) (h : TreeI N es sd fr) {x y : Nat} (e : Nxt es x y) (hx : 0 ≤ gi sd x) (h0 : gi sd y < 0) : TreeI N es (sd.set y (1 - gi sd x)) (fr.set y (x : Int)) := by
  obtain ⟨hxN, hyN, hne⟩ := e.lt hr
  have hv := h.val x hxN
  have hun := unc_set h.len hyN h0 (show 0 ≤ 1 - gi sd x by omega)
  refine h.set hyN h0 (by omega) ?_
  obtain ⟨l, u, hl, m⟩ := h.up x hxN hx
  refine ⟨(y : Int) :: l, .step (u.keep h0) ?_ e ?_, by rw [List.length_cons]; omega, ?_⟩
  · rw [gi_set, if_pos ⟨rfl, by rw [h.frl]; exact hyN⟩]
  · rw [gi_set, if_pos ⟨rfl, by rw [h.len]; exact hyN⟩, gi_set, if_neg (by omega)]
  · have := u.ne.1
    rw [List.length_cons, show l.length + 1 - 1 = (l.length - 1) + 1 from by omega, gi_cons]
    exact m
theorem TreeI.start {N : Nat} {es : List Ed} {sd fr : List Int} (h : TreeI N es sd fr) (hc : Closed es sd) {k : Nat} (hd : DoneTo sd k) (hk : k < N) (h0 : gi sd k < 0) : TreeI N es (sd.set k 0) (fr.set k (-1)) := by
  have hun := unc_set h.len hk h0 (show (0 : Int) ≤ 0 by omega)
  have hle : unc N sd ≤ N := sel_length _ _
  refine h.set hk h0 (.inl rfl) ⟨[(k : Int)], .root ?_ ?_, ?_, fun r e => ?_⟩
  · rw [gi_set, if_pos ⟨rfl, by rw [h.frl]; exact hk⟩]
  · rw [gi_set, if_pos ⟨rfl, by rw [h.len]; exact hk⟩]
  · simp
    omega
  · have e2 : (k : Int) = r := e
    have : r = k := by omega
    subst this
    exact (mid_start h.mid hc hd hk h0).2.2
theorem TreeI.none {N : Nat} {es : List Ed} : TreeI N es (List.replicate N (-1)) (List.replicate N 0) :=
  ⟨by simp, by simp, fun x hx => .inl (gi_rep _ _ _ hx), fun x hx h0 => by rw [gi_rep _ _ _ hx] at h0; omega⟩

/-- x has been handled: all next to it are coloured otherwise. -/
def Fit (es : List Ed) (sd : List Int) (x : Nat) : Prop := ∀ y, Nxt es x y → 0 ≤ gi sd y ∧ gi sd y ≠ gi sd x
theorem Fit.set {es : List Ed} {sd : List Int} {x y : Nat} {a : Int} (h : Fit es sd x) (hx : 0 ≤ gi sd x) (hy : gi sd y < 0) : Fit es (sd.set y a) x := fun z e => by
  obtain ⟨h1, h2⟩ := h z e
  have n1 : z ≠ y := fun q => by subst q; omega
  have n2 : x ≠ y := fun q => by subst q; omega
  rw [gi_set, gi_set, if_neg (by omega), if_neg (by omega)]
  exact ⟨h1, h2⟩
/-- The queue's state: those in it are coloured; those coloured are in it or have been handled, but for u, of whose neighbours so many have. -/
structure QueI (N : Nat) (es : List Ed) (sd q : List Int) : Prop where
  mem : ∀ z, z ∈ q → ∃ x : Nat, z = x ∧ x < N ∧ 0 ≤ gi sd x
  room : q.length + unc N sd ≤ N
  fit : ∀ x, x < N → 0 ≤ gi sd x → (x : Int) ∈ q ∨ Fit es sd x
structure QueU (N : Nat) (es : List Ed) (sd q : List Int) (u i : Nat) : Prop where
  mem : ∀ z, z ∈ q → ∃ x : Nat, z = x ∧ x < N ∧ 0 ≤ gi sd x
  room : q.length + unc N sd ≤ N
  fit : ∀ x, x < N → 0 ≤ gi sd x → x ≠ u → (x : Int) ∈ q ∨ Fit es sd x
  udo : u < N ∧ 0 ≤ gi sd u
  uto : ∀ j, j < i → ∀ y : Nat, gi (nearV es u) j = y → 0 ≤ gi sd y ∧ gi sd y ≠ gi sd u
theorem QueI.pop {N : Nat} {es : List Ed} {sd q : List Int} {z : Int} (h : QueI N es sd (z :: q)) : ∃ u : Nat, z = u ∧ QueU N es sd q u 0 := by
  obtain ⟨u, e, h1, h2⟩ := h.mem z (by simp)
  refine ⟨u, e, fun z hz => h.mem z (by simp [hz]), ?_, fun x hx h0 hne => ?_, ⟨h1, h2⟩, fun j hj => absurd hj (by omega)⟩
  · have := h.room
    rw [List.length_cons] at this
    omega
  · rcases h.fit x hx h0 with m | m
    · rw [List.mem_cons] at m
      rcases m with m | m
      · omega
      · exact .inl m
    · exact .inr m
theorem QueU.end {N : Nat} {es : List Ed} {sd q : List Int} {u : Nat} (hr : Rise N es) (h : QueU N es sd q u (nearV es u).length) : QueI N es sd q :=
  ⟨h.mem, h.room, fun x hx h0 => by
    by_cases e : x = u
    · subst e
      refine .inr fun y hy => ?_
      obtain ⟨j, hj, he⟩ := List.getElem_of_mem hy
      exact h.uto j hj y (by rw [gi_at hj]; exact he)
    · exact h.fit x hx h0 e⟩
theorem QueU.pass {N : Nat} {es : List Ed} {sd q : List Int} {u i y : Nat} (h : QueU N es sd q u i) (he : gi (nearV es u) i = y) (h0 : 0 ≤ gi sd y) (h1 : gi sd y ≠ gi sd u) : QueU N es sd q u (i + 1) :=
  ⟨h.mem, h.room, h.fit, h.udo, fun j hj z hz => by
    by_cases e : j = i
    · subst e
      have : z = y := by omega
      subst this
      exact ⟨h0, h1⟩
    · exact h.uto j (by omega) z hz⟩
theorem QueU.put {N : Nat} {es : List Ed} {sd q : List Int} {u i y : Nat} (h : QueU N es sd q u i) (hl : sd.length = N) (hyN : y < N) (he : gi (nearV es u) i = y) (h0 : gi sd y < 0) (hv : gi sd u = 0 ∨ gi sd u = 1) : QueU N es (sd.set y (1 - gi sd u)) (q ++ [(y : Int)]) u (i + 1) := by
  have hun := unc_set hl hyN h0 (show 0 ≤ 1 - gi sd u by omega)
  have hk : ∀ z, 0 ≤ gi sd z → gi (sd.set y (1 - gi sd u)) z = gi sd z := fun z hz => by
    have : z ≠ y := fun e => by subst e; omega
    rw [gi_set, if_neg (by omega)]
  have hy : gi (sd.set y (1 - gi sd u)) y = 1 - gi sd u := by rw [gi_set, if_pos ⟨rfl, by omega⟩]
  refine ⟨fun z hz => ?_, ?_, fun x hx hx0 hne => ?_, ⟨h.udo.1, by rw [hk u h.udo.2]; exact h.udo.2⟩, fun j hj z hz => ?_⟩
  · rw [List.mem_append, List.mem_singleton] at hz
    rcases hz with hz | hz
    · obtain ⟨x, e, h1, h2⟩ := h.mem z hz
      exact ⟨x, e, h1, by rw [hk x h2]; exact h2⟩
    · exact ⟨y, hz, hyN, by rw [hy]; omega⟩
  · have := h.room
    rw [List.length_append, List.length_singleton]
    omega
  · by_cases e : x = y
    · subst e
      exact .inl (by simp)
    · rw [gi_set, if_neg (by omega)] at hx0
      rcases h.fit x hx hx0 hne with m | m
      · exact .inl (by simp [m])
      · exact .inr (m.set hx0 h0)
  · by_cases e : j = i
    · subst e
      have : z = y := by omega
      subst this
      rw [hy, hk u h.udo.2]
      omega
    · obtain ⟨g1, g2⟩ := h.uto j (by omega) z hz
      rw [hk z g1, hk u h.udo.2]
      exact ⟨g1, g2⟩
theorem QueI.start {N : Nat} {es : List Ed} {sd : List Int} (h : QueI N es sd []) (hl : sd.length = N) {k : Nat} (hk : k < N) (h0 : gi sd k < 0) : QueI N es (sd.set k 0) [(k : Int)] := by
  have hun := unc_set hl hk h0 (show (0 : Int) ≤ 0 by omega)
  refine ⟨fun z hz => ?_, ?_, fun x hx hx0 => ?_⟩
  · rw [List.mem_singleton] at hz
    exact ⟨k, hz, hk, by rw [gi_set, if_pos ⟨rfl, by omega⟩]; omega⟩
  · have := h.room
    simp at this ⊢
    omega
  · by_cases e : x = k
    · subst e
      exact .inl (by simp)
    · rw [gi_set, if_neg (by omega)] at hx0
      rcases h.fit x hx hx0 with m | m
      · cases m
      · exact .inr (m.set hx0 h0)
theorem QueI.closed {N : Nat} {es : List Ed} {sd : List Int} (hr : Rise N es) (h : QueI N es sd []) : Closed es sd := fun x y e h0 => by
  rcases h.fit x (e.lt hr).1 h0 with m | m
  · cases m
  · exact (m y e).1
theorem QueI.none {N : Nat} {es : List Ed} : QueI N es (List.replicate N (-1)) [] :=
  ⟨fun z hz => (by cases hz), by rw [List.length_nil, Nat.zero_add]; exact sel_length _ _, fun x hx h0 => by rw [gi_rep _ _ _ hx] at h0; omega⟩
theorem tree_two {N : Nat} {es : List Ed} {sd fr : List Int} (hr : Rise N es) (h : TreeI N es sd fr) (hq : QueI N es sd []) (hd : DoneTo sd N) : SideOk N es sd := by
  refine ⟨⟨h.len, fun v hv => ?_, fun x y e => ?_⟩, fun x hx => h.mid.root x hx (hd x hx)⟩
  · have := h.val v hv
    have := hd v hv
    omega
  · have hx := (e.lt hr).1
    rcases hq.fit x hx (hd x hx) with m | m
    · cases m
    · exact fun q => (m y e).2 q.symm

/- Rings: how long they are. -/
theorem nodup_le : ∀ {N : Nat} {l : List Int}, l.Nodup → (∀ x ∈ l, 0 ≤ x ∧ x < N) → l.length ≤ N
  | 0, l, _, h => by
    cases l with
    | nil => exact Nat.le_refl _
    | cons a l =>
      have := h a (by simp)
      omega
  | N + 1, l, hn, h => by
    have h1 := nodup_le (N := N) (l := l.erase (N : Int)) (hn.erase _) fun x hx => by
      have h2 := (hn.mem_erase_iff).1 hx
      have h3 := h x h2.2
      have h4 := h2.1
      omega
    have h2 : l.length ≤ (l.erase (N : Int)).length + 1 := by
      rw [List.length_erase]
      split <;> omega
    omega
theorem Ring.lt {N : Nat} {es : List Ed} {r : List Int} (hr : Rise N es) (h : Ring es r) : ∀ x ∈ r, 0 ≤ x ∧ x < N := fun x hx => by
  obtain ⟨i, hi, rfl⟩ := List.getElem_of_mem hx
  obtain ⟨a, b, e, -, hab⟩ := h.nxt i hi
  rw [gi_at hi] at e
  have := (hab.lt hr).1
  omega
theorem Ring.le {N : Nat} {es : List Ed} {r : List Int} (hr : Rise N es) (h : Ring es r) : r.length ≤ N := nodup_le h.nod (h.lt hr)

end Go.Proofs.Ytnldfjoadmehcaa
