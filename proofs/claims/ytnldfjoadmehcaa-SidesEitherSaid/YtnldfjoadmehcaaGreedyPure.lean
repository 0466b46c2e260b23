/- The first matching, plainly. -/
import Derived.Test.YtnldfjoadmehcaaFirstFree
set_option linter.unusedVariables false
set_option linter.unusedSimpArgs false
namespace Go.Proofs.Ytnldfjoadmehcaa
open Go.RowKit

theorem gi_set (xs : List Int) (i : Nat) (x : Int) (j : Nat) : gi (xs.set i x) j = if j = i ∧ i < xs.length then x else gi xs j := by
  unfold gi
  simp only [List.getD_eq_getElem?_getD, List.getElem?_set]
  by_cases h : i = j
  · subst h
    by_cases h2 : i < xs.length
    · simp [h2]
    · simp [h2]
  · rw [if_neg h, if_neg (by omega)]
theorem gi_rep (n : Nat) (x : Int) (j : Nat) (h : j < n) : gi (List.replicate n x) j = x := by
  simp [gi, List.getD_eq_getElem?_getD, h]
theorem gi_at {xs : List Int} {j : Nat} (h : j < xs.length) : gi xs j = xs[j] := by simp [gi, h]
theorem gi_app (xs ys : List Int) (j : Nat) : gi (xs ++ ys) j = if j < xs.length then gi xs j else gi ys (j - xs.length) := by
  unfold gi
  simp only [List.getD_eq_getElem?_getD, List.getElem?_append]
  split <;> rfl
theorem list_ext_gi {xs ys : List Int} (hl : xs.length = ys.length) (h : ∀ j, j < xs.length → gi xs j = gi ys j) : xs = ys := by
  refine List.ext_getElem hl fun j h1 h2 => ?_
  have := h j h1
  rwa [gi_at h1, gi_at h2] at this

/-- The neighbours of a vertex. -/
def nearV (es : List Ed) (v : Int) : List Int := lowsE v es ++ highsE v es
theorem nearL_right {N : Int} {es : List Ed} (h : rightB N es = true) (v : Int) : nearL N es v = nearV es v := by unfold nearL nearV; rw [h, if_pos rfl]
theorem mem_nearV {es : List Ed} {v x : Int} : x ∈ nearV es v ↔ (x, v) ∈ es ∨ (v, x) ∈ es := by
  unfold nearV lowsE highsE
  simp only [List.mem_append, List.mem_map, List.mem_filter, beq_iff_eq]
  constructor
  · rintro (⟨⟨a, b⟩, ⟨h1, h2⟩, h3⟩ | ⟨⟨a, b⟩, ⟨h1, h2⟩, h3⟩)
    · simp only [] at h2 h3
      subst h2 h3
      exact .inl h1
    · simp only [] at h2 h3
      subst h2 h3
      exact .inr h1
  · rintro (h | h)
    · exact .inl ⟨_, ⟨h, rfl⟩, rfl⟩
    · exact .inr ⟨_, ⟨h, rfl⟩, rfl⟩
theorem mem_turn {N : Int} {es : List Ed} (h : Rise N es) {v x : Int} : turnE v x ∈ es ↔ x ∈ nearV es v := by
  rw [mem_nearV]
  unfold turnE
  constructor
  · intro hm
    split at hm
    · exact .inl hm
    · exact .inr hm
  · rintro (hm | hm)
    · have := h.1 _ hm
      unfold edgeOk at this
      simp at this
      rw [if_pos (by omega)]
      exact hm
    · have := h.1 _ hm
      unfold edgeOk at this
      simp at this
      rw [if_neg (by omega)]
      exact hm
theorem near_in {N : Int} {es : List Ed} (h : Rise N es) {v x : Int} (hx : x ∈ nearV es v) : 0 ≤ x ∧ x < N ∧ x ≠ v ∧ 0 ≤ v ∧ v < N := by
  rcases mem_nearV.1 hx with hm | hm
  · have := h.1 _ hm
    unfold edgeOk at this
    simp at this
    omega
  · have := h.1 _ hm
    unfold edgeOk at this
    simp at this
    omega
theorem turn_symm (a b : Int) : turnE a b = turnE b a := by
  unfold turnE
  split <;> split <;> first | rfl | (exfalso; omega) | (congr 1 <;> omega)

theorem scan_spec (ms xs : List Int) : ∀ d k, (scanM ms xs d k = -1 ∧ ∀ j, k ≤ j → j < k + d → 0 ≤ gi ms (gi xs j).toNat) ∨
    (∃ i : Nat, scanM ms xs d k = i ∧ k ≤ i ∧ i < k + d ∧ gi ms (gi xs i).toNat < 0)
  | 0, k => .inl ⟨rfl, fun j h1 h2 => absurd h2 (by omega)⟩
  | d + 1, k => by
    rw [scanM]
    by_cases h : gi ms (gi xs k).toNat < 0
    · rw [if_pos h]
      exact .inr ⟨k, rfl, by omega, by omega, h⟩
    · rw [if_neg h]
      rcases scan_spec ms xs d (k + 1) with ⟨h1, h2⟩ | ⟨i, h1, h2, h3, h4⟩
      · refine .inl ⟨h1, fun j a b => ?_⟩
        by_cases e : j = k
        · subst e
          omega
        · exact h2 j (by omega) (by omega)
      · exact .inr ⟨i, h1, by omega, by omega, h4⟩

/-- What becomes of the mates at vertex v, whose neighbours are l. -/
def stepF (l : List Int) (v : Nat) (ms : List Int) : List Int :=
  if gi ms v < 0 then
    if 0 ≤ scanM ms l l.length 0 then (ms.set v (gi l (scanM ms l l.length 0).toNat)).set (gi l (scanM ms l l.length 0).toNat).toNat v else ms
  else ms
theorem stepF_length (l : List Int) (v : Nat) (ms : List Int) : (stepF l v ms).length = ms.length := by
  unfold stepF
  split
  · split
    · simp
    · rfl
  · rfl
def firstTo (N : Nat) (es : List Ed) : Nat → List Int
  | 0 => List.replicate N (-1)
  | v + 1 => stepF (nearV es v) v (firstTo N es v)
theorem firstTo_length (N : Nat) (es : List Ed) : ∀ k, (firstTo N es k).length = N
  | 0 => by simp [firstTo]
  | k + 1 => by rw [firstTo, stepF_length, firstTo_length N es k]
def firstL (N : Int) (es : List Ed) : List Int := if rightB N es then firstTo N.toNat es N.toNat else []

/-- A matching of a graph, by its mates. -/
def MatchN (N : Nat) (es : List Ed) (ms : List Int) : Prop := ms.length = N ∧ ∀ v, v < N → gi ms v = -1 ∨ ∃ w : Nat, w < N ∧ gi ms v = w ∧ (w : Int) ∈ nearV es v ∧ gi ms w = v

theorem near_symm {es : List Ed} {v x : Int} (h : x ∈ nearV es v) : v ∈ nearV es x := by
  rw [mem_nearV] at *
  exact h.symm

/-- Two that are free are matched. -/
theorem match_put {N : Nat} {es : List Ed} {ms : List Int} (h : MatchN N es ms) {a b : Nat} (ha : a < N) (hb : b < N) (hab : a ≠ b) (hm : (b : Int) ∈ nearV es a) (fa : gi ms a < 0) (fb : gi ms b < 0) : MatchN N es ((ms.set a b).set b a) := by
  obtain ⟨hl, hv⟩ := h
  refine ⟨by simp [hl], fun v hvN => ?_⟩
  simp only [gi_set, List.length_set, hl]
  by_cases e1 : v = b
  · subst e1
    refine .inr ⟨a, ha, by simp [hb], near_symm hm, ?_⟩
    rw [if_neg (by omega), if_pos ⟨rfl, ha⟩]
  · rw [if_neg (by omega)]
    by_cases e2 : v = a
    · subst e2
      refine .inr ⟨b, hb, by simp [ha], hm, ?_⟩
      rw [if_pos ⟨rfl, hb⟩]
    · rw [if_neg (by omega)]
      rcases hv v hvN with h1 | ⟨w, h1, h2, h3, h4⟩
      · exact .inl h1
      · refine .inr ⟨w, h1, h2, h3, ?_⟩
        have n1 : w ≠ b := fun e => by subst e; omega
        have n2 : w ≠ a := fun e => by subst e; omega
        rw [if_neg (by omega), if_neg (by omega)]
        exact h4

theorem step_match {N : Nat} {es : List Ed} {ms : List Int} (hr : Rise N es) (h : MatchN N es ms) {v : Nat} (hv : v < N) : MatchN N es (stepF (nearV es v) v ms) := by
  unfold stepF
  by_cases h1 : gi ms v < 0
  · rw [if_pos h1]
    rcases scan_spec ms (nearV es v) (nearV es v).length 0 with ⟨h2, h3⟩ | ⟨i, h2, h3, h4, h5⟩
    · rw [h2, if_neg (by omega)]
      exact h
    · rw [h2, if_pos (by omega), Int.toNat_natCast]
      have hm := gi_mem (xs := nearV es v) (a := i) (by omega)
      obtain ⟨q1, q2, q3, -, -⟩ := near_in hr hm
      obtain ⟨x, hx⟩ : ∃ x : Nat, gi (nearV es v) i = x := ⟨(gi (nearV es v) i).toNat, by omega⟩
      rw [hx] at hm q1 q2 q3 h5 ⊢
      rw [Int.toNat_natCast] at h5 ⊢
      exact match_put h hv (by omega) (by omega) hm h1 h5
  · rw [if_neg h1]
    exact h
theorem rep_match (N : Nat) (es : List Ed) : MatchN N es (List.replicate N (-1)) := ⟨by simp, fun v hv => .inl (gi_rep _ _ _ hv)⟩
theorem firstTo_match {N : Nat} {es : List Ed} (hr : Rise N es) : ∀ k, k ≤ N → MatchN N es (firstTo N es k)
  | 0, _ => rep_match N es
  | k + 1, hk => step_match hr (firstTo_match hr k (by omega)) (by omega)

/-- Whoever is matched stays so. -/
theorem step_stays {es : List Ed} {N : Nat} {ms : List Int} (hl : ms.length = N) {v : Nat} {u : Nat} (hu : 0 ≤ gi ms u) (hr : Rise N es) : 0 ≤ gi (stepF (nearV es v) v ms) u := by
  unfold stepF
  by_cases h1 : gi ms v < 0
  · rw [if_pos h1]
    rcases scan_spec ms (nearV es v) (nearV es v).length 0 with ⟨h2, h3⟩ | ⟨i, h2, h3, h4, h5⟩
    · rw [h2, if_neg (by omega)]
      exact hu
    · rw [h2, if_pos (by omega), Int.toNat_natCast]
      have hm := gi_mem (xs := nearV es v) (a := i) (by omega)
      obtain ⟨q1, q2, q3, -, -⟩ := near_in hr hm
      simp only [gi_set, List.length_set]
      split
      · omega
      · split
        · omega
        · exact hu
  · rw [if_neg h1]
    exact hu
/-- No free vertex below k has a free neighbour. -/
def FullTo (es : List Ed) (ms : List Int) (k : Nat) : Prop := ∀ v : Nat, v < k → gi ms v < 0 → ∀ x ∈ nearV es v, 0 ≤ gi ms x.toNat
theorem step_full {N : Nat} {es : List Ed} {ms : List Int} (hr : Rise N es) (hl : ms.length = N) {v : Nat} (hv : v < N) (h : FullTo es ms v) : FullTo es (stepF (nearV es v) v ms) (v + 1) := by
  intro u hu hf x hx
  by_cases e : u = v
  · subst e
    unfold stepF at hf ⊢
    by_cases h1 : gi ms u < 0
    · rw [if_pos h1] at hf ⊢
      rcases scan_spec ms (nearV es u) (nearV es u).length 0 with ⟨h2, h3⟩ | ⟨i, h2, h3, h4, h5⟩
      · rw [h2, if_neg (by omega)]
        obtain ⟨j, hj, he⟩ := List.getElem_of_mem hx
        have := h3 j (by omega) (by omega)
        rwa [gi_at hj, he] at this
      · exfalso
        rw [h2, if_pos (by omega), Int.toNat_natCast] at hf
        have hm := gi_mem (xs := nearV es u) (a := i) (by omega)
        obtain ⟨q1, q2, q3, -, -⟩ := near_in hr hm
        simp only [gi_set, List.length_set] at hf
        split at hf
        · omega
        · rw [if_pos ⟨by trivial, by omega⟩] at hf
          omega
    · rw [if_neg h1] at hf
      exact absurd hf h1
  · have hf0 : gi ms u < 0 := by
      by_cases q : gi ms u < 0
      · exact q
      · have := step_stays hl (v := v) (u := u) (by omega) hr
        omega
    exact step_stays hl (h u (by omega) hf0 x hx) hr
theorem firstTo_full {N : Nat} {es : List Ed} (hr : Rise N es) : ∀ k, k ≤ N → FullTo es (firstTo N es k) k
  | 0, _ => fun v hv => absurd hv (by omega)
  | k + 1, hk => step_full hr (firstTo_length N es k) (by omega) (firstTo_full hr k (by omega))

end Go.Proofs.Ytnldfjoadmehcaa
