/- What is kept of a graph: names, edges, and what is joined: no program in sight. -/
import Derived.Test.YtnldfjoadmehcaaAwake5
set_option linter.unusedVariables false
set_option linter.unusedSimpArgs false
namespace Go.Proofs.Ytnldfjoadmehcaa

theorem some_sel (bits : Int) : ∀ k, someTo bits k = sel (bitB bits) k
  | 0 => rfl
  | k + 1 => by rw [someTo, sel, some_sel bits k]
theorem mem_sel {p : Nat → Bool} {x : Int} : ∀ {k : Nat}, x ∈ sel p k ↔ ∃ j : Nat, j < k ∧ p j = true ∧ x = j
  | 0 => by simp [sel]
  | k + 1 => by
    rw [sel]
    split
    · rename_i hp
      rw [List.mem_append, mem_sel (k := k)]
      constructor
      · rintro (⟨j, h1, h2, h3⟩ | h)
        · exact ⟨j, by omega, h2, h3⟩
        · exact ⟨k, by omega, hp, by simpa using h⟩
      · rintro ⟨j, h1, h2, h3⟩
        by_cases e : j = k
        · subst e
          exact .inr (by simpa using h3)
        · exact .inl ⟨j, by omega, h2, h3⟩
    · rename_i hp
      rw [mem_sel (k := k)]
      constructor
      · rintro ⟨j, h1, h2, h3⟩
        exact ⟨j, by omega, h2, h3⟩
      · rintro ⟨j, h1, h2, h3⟩
        by_cases e : j = k
        · subst e
          exact absurd h2 hp
        · exact ⟨j, by omega, h2, h3⟩
theorem mem_sel_nat {p : Nat → Bool} {k j : Nat} : (j : Int) ∈ sel p k ↔ j < k ∧ p j = true := by
  rw [mem_sel]
  constructor
  · rintro ⟨i, h1, h2, h3⟩
    obtain rfl : j = i := by omega
    exact ⟨h1, h2⟩
  · rintro ⟨h1, h2⟩
    exact ⟨j, h1, h2, rfl⟩
theorem sel_sorted (p : Nat → Bool) : ∀ k, (sel p k).Pairwise (· < ·)
  | 0 => List.Pairwise.nil
  | k + 1 => by
    rw [sel]
    split
    · rw [List.pairwise_append]
      refine ⟨sel_sorted p k, List.pairwise_singleton _ _, fun a ha b hb => ?_⟩
      obtain ⟨j, h1, h2, rfl⟩ := mem_sel.1 ha
      simp at hb
      omega
    · exact sel_sorted p k
theorem sel_nodup (p : Nat → Bool) (k : Nat) : (sel p k).Nodup := (sel_sorted p k).imp fun h => by omega
theorem sel_congr {p q : Nat → Bool} : ∀ {k : Nat}, (∀ j, j < k → p j = q j) → sel p k = sel q k
  | 0, _ => rfl
  | k + 1, h => by rw [sel, sel, sel_congr (k := k) fun j hj => h j (by omega), h k (by omega)]
theorem sel_both (p : Nat → Bool) : ∀ k, (sel p k).length + (sel (fun j => !p j) k).length = k
  | 0 => rfl
  | k + 1 => by
    have := sel_both p k
    rw [sel, sel]
    cases p k
    · simp; omega
    · simp; omega
theorem sel_mono (p : Nat → Bool) {j : Nat} : ∀ {k : Nat}, j ≤ k → (sel p j).length ≤ (sel p k).length
  | 0, h => by obtain rfl : j = 0 := by omega
               exact Nat.le_refl _
  | k + 1, h => by
    by_cases e : j = k + 1
    · subst e
      exact Nat.le_refl _
    · have := sel_mono p (j := j) (k := k) (by omega)
      rw [sel]
      split
      · simp; omega
      · exact this
theorem sel_lt {p : Nat → Bool} {j k : Nat} (hp : p j = true) (h : j < k) : (sel p j).length < (sel p k).length := by
  have := sel_mono p (j := j + 1) (k := k) h
  rw [sel, if_pos hp] at this
  simp at this
  omega
/-- The number that stands where j stands is j. -/
theorem sel_get {p : Nat → Bool} {j : Nat} (hp : p j = true) : ∀ {k : Nat}, j < k → (sel p k)[(sel p j).length]? = some (j : Int)
  | 0, h => absurd h (by omega)
  | k + 1, h => by
    by_cases e : j = k
    · subst e
      rw [sel, if_pos hp]
      simp
    · have ih := sel_get hp (k := k) (by omega)
      rw [sel]
      split
      · rw [List.getElem?_append_left (sel_lt hp (by omega))]
        exact ih
      · exact ih
theorem sel_gi {p : Nat → Bool} {j k : Nat} (hp : p j = true) (h : j < k) : gi (sel p k) (sel p j).length = j := by
  simp [gi, List.getD_eq_getElem?_getD, sel_get hp h]
/-- Each place holds a number of whom it is so, and that number's new name is the place. -/
theorem sel_at {p : Nat → Bool} {k a : Nat} (h : a < (sel p k).length) : ∃ j : Nat, gi (sel p k) a = j ∧ j < k ∧ p j = true ∧ (sel p j).length = a := by
  obtain ⟨j, h1, h2, h3⟩ := mem_sel.1 (gi_mem h)
  refine ⟨j, h3, h1, h2, ?_⟩
  have e := sel_get h2 h1
  have hl : (sel p j).length < (sel p k).length := sel_lt h2 h1
  have h4 : gi (sel p k) a = gi (sel p k) (sel p j).length := by rw [h3, sel_gi h2 h1]
  have hs := sel_sorted p k
  simp only [gi, List.getD_eq_getElem?_getD, h, hl, List.getElem?_eq_getElem, Option.getD_some] at h4
  rcases Nat.lt_trichotomy a (sel p j).length with q | q | q
  · have := List.pairwise_iff_getElem.1 hs _ _ h hl q
    omega
  · exact q.symm
  · have := List.pairwise_iff_getElem.1 hs _ _ hl h q
    omega

/-- The edges that stay: those that both ends of stay, renamed. -/
theorem keptE_eq (nm : Nat → Int) : ∀ es : List Ed, keptE nm es = (es.filter fun e => decide (0 ≤ nm e.1.toNat ∧ 0 ≤ nm e.2.toNat)).map fun e => (nm e.1.toNat, nm e.2.toNat)
  | [] => rfl
  | e :: es => by
    rw [keptE, keptE_eq nm es, List.filter_cons]
    by_cases h : 0 ≤ nm e.1.toNat ∧ 0 ≤ nm e.2.toNat
    · rw [if_pos h, if_pos (by simpa using h)]
      rfl
    · rw [if_neg h, if_neg (by simpa using h)]
theorem nmF_pos {p : Nat → Bool} {j : Nat} : 0 ≤ nmF p j ↔ p j = true := by
  unfold nmF
  split
  · rename_i h
    exact ⟨fun _ => h, fun _ => by omega⟩
  · rename_i h
    exact ⟨fun e => absurd e (by omega), fun e => absurd e h⟩
theorem nmF_yes {p : Nat → Bool} {j : Nat} (h : p j = true) : nmF p j = (sel p j).length := by unfold nmF; rw [if_pos h]
theorem mem_keptE {nm : Nat → Int} {es : List Ed} {x : Ed} : x ∈ keptE nm es ↔ ∃ e ∈ es, 0 ≤ nm e.1.toNat ∧ 0 ≤ nm e.2.toNat ∧ x = (nm e.1.toNat, nm e.2.toNat) := by
  rw [keptE_eq, List.mem_map]
  constructor
  · rintro ⟨e, h1, rfl⟩
    rw [List.mem_filter] at h1
    have := of_decide_eq_true h1.2
    exact ⟨e, h1.1, this.1, this.2, rfl⟩
  · rintro ⟨e, h1, h2, h3, rfl⟩
    exact ⟨e, List.mem_filter.2 ⟨h1, decide_eq_true ⟨h2, h3⟩⟩, rfl⟩
theorem edge_nat {M : Nat} {e : Ed} (h : edgeOk M e = true) : ∃ x y : Nat, e = ((x : Int), (y : Int)) ∧ x < y ∧ y < M := by
  obtain ⟨a, b⟩ := e
  simp only [edgeOk, Bool.and_eq_true, decide_eq_true_eq] at h
  exact ⟨a.toNat, b.toNat, by ext <;> simp <;> omega, by omega, by omega⟩
/-- What is kept is a graph. -/
theorem kept_right {p : Nat → Bool} {M : Nat} {es : List Ed} (h : rightB M es = true) : rightB (sel p M).length (keptE (nmF p) es) = true := by
  obtain ⟨h0, h1, h2, h3, h4⟩ := rightB_iff.1 h
  have hl := sel_length p M
  have hk := keptE_length (nmF p) es
  refine rightB_iff.2 ⟨by omega, by omega, by omega, fun e he => ?_, ?_⟩
  · obtain ⟨e0, m0, n1, n2, rfl⟩ := mem_keptE.1 he
    obtain ⟨x, y, rfl, hxy, hy⟩ := edge_nat (h3 e0 m0)
    simp only [Int.toNat_natCast] at n1 n2 ⊢
    have px := nmF_pos.1 n1
    have py := nmF_pos.1 n2
    rw [nmF_yes px, nmF_yes py]
    have := sel_lt px hxy
    have := sel_lt py hy
    simp only [edgeOk, Bool.and_eq_true, decide_eq_true_eq]
    omega
  · rw [keptE_eq, List.pairwise_map]
    refine List.Pairwise.imp_of_mem ?_ (h4.filter _)
    intro a b ha hb hab
    rw [List.mem_filter] at ha hb
    obtain ⟨a1, a2⟩ := ha
    obtain ⟨b1, b2⟩ := hb
    obtain ⟨x, y, rfl, hxy, hy⟩ := edge_nat (h3 a a1)
    obtain ⟨x', y', rfl, hxy', hy'⟩ := edge_nat (h3 b b1)
    simp only [Int.toNat_natCast, decide_eq_true_eq] at a2 b2 ⊢
    rw [ahead_iff] at hab ⊢
    simp only at hab ⊢
    have px := nmF_pos.1 a2.1
    have py := nmF_pos.1 a2.2
    have px' := nmF_pos.1 b2.1
    have py' := nmF_pos.1 b2.2
    rw [nmF_yes px, nmF_yes py, nmF_yes px', nmF_yes py']
    rcases hab with hab | ⟨e, hab⟩
    · have := sel_lt px (show x < x' by omega)
      omega
    · obtain rfl : x = x' := by omega
      have := sel_lt py (show y < y' by omega)
      omega
/-- Who is kept is joined as before. -/
theorem kept_joined {p : Nat → Bool} {M : Nat} {es : List Ed} (h : rightB M es = true) {a b : Nat} (ha : a < (sel p M).length) (hb : b < (sel p M).length) :
    hasB (sel p M).length (keptE (nmF p) es) a b = hasB M es (gi (sel p M) a) (gi (sel p M) b) := by
  obtain ⟨i, e1, i1, i2, i3⟩ := sel_at ha
  obtain ⟨j, f1, j1, j2, j3⟩ := sel_at hb
  rw [Bool.eq_iff_iff, hasB_iff (kept_right h), hasB_iff h, e1, f1]
  have key : ∀ x y : Nat, x < M → y < M → p x = true → p y = true → ((((sel p x).length : Int), ((sel p y).length : Int)) ∈ keptE (nmF p) es ↔ ((x : Int), (y : Int)) ∈ es) := by
    intro x y hx hy px py
    rw [mem_keptE]
    constructor
    · rintro ⟨e, he, n1, n2, e2⟩
      obtain ⟨x', y', rfl, hxy', hy'⟩ := edge_nat ((rightB_iff.1 h).2.2.2.1 e he)
      simp only [Int.toNat_natCast] at n1 n2 e2
      have px' := nmF_pos.1 n1
      have py' := nmF_pos.1 n2
      rw [nmF_yes px', nmF_yes py'] at e2
      injection e2 with q1 q2
      have r1 := sel_gi px hx
      have r2 := sel_gi px' (show x' < M by omega)
      have r3 := sel_gi py hy
      have r4 := sel_gi py' hy'
      rw [show (sel p x).length = (sel p x').length by omega] at r1
      rw [show (sel p y).length = (sel p y').length by omega] at r3
      rw [← r1, r2, ← r3, r4]
      exact he
    · intro he
      exact ⟨_, he, by simpa using nmF_pos.2 px, by simpa using nmF_pos.2 py, by simp [nmF_yes px, nmF_yes py]⟩
  by_cases hij : j < i
  · have := sel_lt j2 hij
    unfold turnE
    rw [if_pos (by omega), if_pos (by omega)]
    have := key j i j1 i1 j2 i2
    rwa [j3, i3] at this
  · have : (sel p i).length ≤ (sel p j).length := sel_mono p (by omega)
    unfold turnE
    rw [if_neg (by omega), if_neg (by omega)]
    have := key i j i1 j1 i2 j2
    rwa [j3, i3] at this

/-- A list that rises, of numbers there are, keeps itself. -/
theorem wasL_sel {p : Nat → Bool} {M : Nat} : wasL M (sel p M) true = sel p M := by
  unfold wasL
  rw [Int.toNat_natCast]
  refine sel_congr fun j hj => ?_
  unfold inB
  simp [mem_sel_nat, hj]
theorem wasL_not {p : Nat → Bool} {M : Nat} : wasL M (sel p M) false = sel (fun j => !p j) M := by
  unfold wasL
  rw [Int.toNat_natCast]
  refine sel_congr fun j hj => ?_
  unfold inB
  simp [mem_sel_nat, hj]
theorem keptE_congr {nm nm' : Nat → Int} {M : Nat} {es : List Ed} (h : rightB M es = true) (he : ∀ j, j < M → nm j = nm' j) : keptE nm es = keptE nm' es := by
  have h3 := (rightB_iff.1 h).2.2.2.1
  clear h
  induction es with
  | nil => rfl
  | cons e es ih =>
    obtain ⟨x, y, rfl, hxy, hy⟩ := edge_nat (h3 e (List.mem_cons_self ..))
    rw [keptE, keptE, ih fun e he => h3 e (List.mem_cons_of_mem _ he)]
    simp only [Int.toNat_natCast]
    rw [he x (by omega), he y (by omega)]
theorem nmF_congr {p q : Nat → Bool} {M : Nat} (h : ∀ j, j < M → p j = q j) {j : Nat} (hj : j < M) : nmF p j = nmF q j := by
  unfold nmF
  rw [h j hj, sel_congr fun i hi => h i (by omega)]
theorem stayE_sel {p : Nat → Bool} {M : Nat} {es : List Ed} (h : rightB M es = true) : stayE es (sel p M) true = keptE (nmF p) es :=
  keptE_congr h fun j hj => nmF_congr (fun j hj => by unfold inB; simp [mem_sel_nat, hj]) hj
theorem stayE_not {p : Nat → Bool} {M : Nat} {es : List Ed} (h : rightB M es = true) : stayE es (sel p M) false = keptE (nmF fun j => !p j) es :=
  keptE_congr h fun j hj => nmF_congr (fun j hj => by unfold inB; simp [mem_sel_nat, hj]) hj
theorem named_sel {p : Nat → Bool} {M : Nat} {es : List Ed} (h : rightB M es = true) : namedE M es (sel p M) = 0 := by
  unfold namedE
  rw [h]
  have h1 : (sel p M).any (fun x => !isB M x) = false := by
    rw [List.any_eq_false]
    intro x hx
    obtain ⟨j, j1, j2, rfl⟩ := mem_sel.1 hx
    simp [isB]
    omega
  rw [h1]
  simp [sel_nodup]
theorem keepR_sel {p : Nat → Bool} {M : Nat} {es : List Ed} (h : rightB M es = true) : keepR M es (sel p M) true = (((sel p M).length : Int), keptE (nmF p) es, sel p M, 0) := by
  unfold keepR
  rw [if_pos (named_sel h), wasL_sel, stayE_sel h]
theorem keepR_not {p : Nat → Bool} {M : Nat} {es : List Ed} (h : rightB M es = true) : keepR M es (sel p M) false = (((sel (fun j => !p j) M).length : Int), keptE (nmF fun j => !p j) es, sel (fun j => !p j) M, 0) := by
  unfold keepR
  rw [if_pos (named_sel h), wasL_not, stayE_not h]
theorem someL_sel {M : Nat} {bits : Int} (h : M ≤ 64) : someL M bits = sel (bitB bits) M := by
  unfold someL
  rw [Int.toNat_natCast, Nat.min_eq_left h, some_sel]

/-- Of whom it is so, and whose new name is so. -/
def both (p r : Nat → Bool) (j : Nat) : Bool := p j && r (sel p j).length
theorem both_sel (p r : Nat → Bool) (M : Nat) : ∀ k, k ≤ M → (sel r (sel p k).length).map (fun x => gi (sel p M) x.toNat) = sel (both p r) k
  | 0, _ => rfl
  | k + 1, h => by
    have ih := both_sel p r M k (by omega)
    rw [sel, sel]
    cases hp : p k
    · simp only [Bool.false_eq_true, if_false, both, hp, Bool.false_and]
      exact ih
    · simp only [if_true]
      rw [List.length_append, List.length_singleton, sel]
      cases hr : r (sel p k).length
      · simp only [Bool.false_eq_true, if_false, both, hp, hr, Bool.and_false]
        exact ih
      · simp only [if_true, both, hp, hr, Bool.and_true]
        rw [List.map_append, ih]
        simp [sel_gi hp (show k < M by omega)]
theorem nmF_both (p r : Nat → Bool) (M j : Nat) (hj : j < M) : nmF (both p r) j = if p j = true then nmF r (sel p j).length else -1 := by
  have h := congrArg List.length (both_sel p r M j (by omega))
  rw [List.length_map] at h
  unfold nmF both
  cases hp : p j
  · simp
  · simp only [Bool.true_and, if_true]
    rw [h]
    rfl
/-- What is kept of what is kept is kept at once. -/
theorem kept_twice {p r : Nat → Bool} {M : Nat} {es : List Ed} (h : rightB M es = true) : keptE (nmF r) (keptE (nmF p) es) = keptE (nmF (both p r)) es := by
  have h3 := (rightB_iff.1 h).2.2.2.1
  clear h
  induction es with
  | nil => rfl
  | cons e es ih =>
    have ih := ih fun e he => h3 e (List.mem_cons_of_mem _ he)
    obtain ⟨x, y, rfl, hxy, hy⟩ := edge_nat (h3 e (List.mem_cons_self ..))
    rw [keptE, keptE]
    simp only [Int.toNat_natCast]
    rw [nmF_both p r M x (by omega), nmF_both p r M y hy]
    cases hp : p x
    · rw [if_neg (by rw [nmF_pos, hp]; simp), ih]
      simp
    · cases hq : p y
      · rw [if_neg (by rw [nmF_pos, nmF_pos, hq]; simp), ih]
        simp
      · rw [if_pos (by rw [nmF_pos, nmF_pos, hp, hq]; simp), keptE, ih, nmF_yes hp, nmF_yes hq]
        simp

end Go.Proofs.Ytnldfjoadmehcaa
