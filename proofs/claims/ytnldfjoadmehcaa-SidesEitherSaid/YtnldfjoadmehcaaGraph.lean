/- Graphs, plainly: what a right one is, and what put keeps. -/
import Derived.Test.YtnldfjoadmehcaaAdd
set_option linter.unusedVariables false
set_option linter.unusedSimpArgs false
namespace Go.Proofs.Ytnldfjoadmehcaa
open Go.RowKit

theorem ahead_iff {a b : Ed} : ahead a b = true ↔ a.1 < b.1 ∨ (a.1 = b.1 ∧ a.2 < b.2) := by
  unfold ahead
  simp
theorem ahead_trans {a b c : Ed} (h : ahead a b = true) (k : ahead b c = true) : ahead a c = true := by
  rw [ahead_iff] at *
  omega
theorem ahead_total {a b : Ed} (h : ahead a b = false) (hne : a ≠ b) : ahead b a = true := by
  rw [ahead_iff]
  have h2 : ¬ (a.1 < b.1 ∨ (a.1 = b.1 ∧ a.2 < b.2)) := by
    rw [← ahead_iff, h]
    simp
  have h3 : a.1 ≠ b.1 ∨ a.2 ≠ b.2 := by
    by_cases e : a.1 = b.1
    · right
      intro e2
      exact hne (Prod.ext e e2)
    · exact .inl e
  omega
theorem ahead_irrefl (a : Ed) : ahead a a = false := by
  cases h : ahead a a
  · rfl
  · rw [ahead_iff] at h
    omega

/-- A graph's edges rise, and join vertices. -/
def Rise (N : Int) (es : List Ed) : Prop := (∀ e ∈ es, edgeOk N e = true) ∧ es.Pairwise fun a b => ahead a b = true

theorem allTo_iff {N : Int} {es : List Ed} : ∀ k, allTo N es k = true ↔ ∀ i, i < k → okAt N es i = true
  | 0 => by simp [allTo]
  | k + 1 => by
    rw [allTo, Bool.and_eq_true, allTo_iff k]
    constructor
    · rintro ⟨h1, h2⟩ i hi
      by_cases e : i = k
      · exact e ▸ h2
      · exact h1 i (by omega)
    · intro h
      exact ⟨fun i hi => h i (by omega), h k (by omega)⟩

theorem ge_get {es : List Ed} {i : Nat} (h : i < es.length) : ge es i = es[i] := by simp [ge, h]

theorem rise_of {N : Int} {es : List Ed} (h : ∀ i, i < es.length → okAt N es i = true) : Rise N es := by
  have step : ∀ i, i + 1 < es.length → ahead (ge es i) (ge es (i + 1)) = true := fun i hi => by
    have := h (i + 1) hi
    unfold okAt at this
    simp at this
    exact this.2
  refine ⟨fun e he => ?_, List.pairwise_iff_getElem.2 fun i j hi hj hij => ?_⟩
  · obtain ⟨i, hi, rfl⟩ := List.getElem_of_mem he
    have := h i hi
    unfold okAt at this
    simp only [Bool.and_eq_true] at this
    rw [← ge_get hi]
    exact this.1
  · obtain ⟨d, rfl⟩ : ∃ d, j = i + 1 + d := ⟨j - (i + 1), by omega⟩
    rw [← ge_get hi, ← ge_get hj]
    clear hij
    induction d with
    | zero => exact step i hj
    | succ d ih => exact ahead_trans (ih (by omega)) (step (i + 1 + d) hj)

theorem of_rise {N : Int} {es : List Ed} (h : Rise N es) : ∀ i, i < es.length → okAt N es i = true := fun i hi => by
  unfold okAt
  rw [Bool.and_eq_true, ge_get hi]
  refine ⟨h.1 _ (List.getElem_mem hi), ?_⟩
  rcases Nat.eq_zero_or_pos i with rfl | hp
  · rfl
  · rw [ge_get (show i - 1 < es.length by omega)]
    simp [List.pairwise_iff_getElem.1 h.2 (i - 1) i (by omega) hi (by omega)]

/-- What it is to be a graph. -/
theorem rightB_iff {N : Int} {es : List Ed} : rightB N es = true ↔ 0 ≤ N ∧ N ≤ 4096 ∧ es.length ≤ 65536 ∧ Rise N es := by
  unfold rightB
  simp only [Bool.and_eq_true, decide_eq_true_eq, allTo_iff]
  exact ⟨fun ⟨a, b, c, d⟩ => ⟨a, b, c, rise_of d⟩, fun ⟨a, b, c, d⟩ => ⟨a, b, c, of_rise d⟩⟩

theorem putK_spec {es : List Ed} {e : Ed} : ∀ k, k ≤ es.length → (∀ i, putK es e k ≤ i → i < k → ahead e (ge es i) = true) ∧ (0 < putK es e k → ahead e (ge es (putK es e k - 1)) = false)
  | 0, _ => ⟨fun i _ h => absurd h (by omega), fun h => absurd h (by simp [putK])⟩
  | k + 1, hk => by
    obtain ⟨h1, h2⟩ := putK_spec (es := es) (e := e) k (by omega)
    rw [putK]
    cases ha : ahead e (ge es k)
    · simp only [Bool.false_eq_true, if_false]
      exact ⟨fun i a b => absurd a (by omega), fun _ => ha⟩
    · simp only [if_true]
      refine ⟨fun i a b => ?_, h2⟩
      by_cases e' : i = k
      · exact e' ▸ ha
      · exact h1 i a (by omega)

theorem rise_put {N : Int} {es : List Ed} {e : Ed} (h : Rise N es) (he : edgeOk N e = true) (hn : e ∉ es) : Rise N (putE es e) := by
  obtain ⟨h1, h2⟩ := h
  obtain ⟨p1, p2⟩ := putK_spec (es := es) (e := e) es.length (Nat.le_refl _)
  have pl := putK_le es e es.length
  unfold putE
  generalize putK es e es.length = p at *
  have hsplit := List.take_append_drop p es
  have hpw : (es.take p ++ es.drop p).Pairwise fun a b => ahead a b = true := by rw [hsplit]; exact h2
  rw [List.pairwise_append] at hpw
  obtain ⟨q1, q2, q3⟩ := hpw
  have before : ∀ x ∈ es.take p, ahead x e = true := fun x hx => by
    obtain ⟨i, hi, rfl⟩ := List.getElem_of_mem hx
    have hi' : i < p := by simp at hi; omega
    have hlen : i < es.length := by simp at hi; omega
    rw [List.getElem_take]
    have hl1 : p - 1 < es.length := by omega
    have ha := p2 (by omega)
    rw [ge_get hl1] at ha
    have hne : e ≠ es[p - 1] := fun eq => hn (eq ▸ List.getElem_mem hl1)
    have hb := ahead_total ha hne
    by_cases e2 : i = p - 1
    · subst e2
      exact hb
    · exact ahead_trans (List.pairwise_iff_getElem.1 h2 i (p - 1) hlen hl1 (by omega)) hb
  have after : ∀ x ∈ es.drop p, ahead e x = true := fun x hx => by
    obtain ⟨i, hi, rfl⟩ := List.getElem_of_mem hx
    have hi' : p + i < es.length := by simp at hi; omega
    have := p1 (p + i) (by omega) hi'
    rw [ge_get hi'] at this
    simpa using this
  refine ⟨fun x hx => ?_, ?_⟩
  · simp only [List.mem_append, List.mem_singleton] at hx
    rcases hx with (hx | rfl) | hx
    · exact h1 x (List.mem_of_mem_take hx)
    · exact he
    · exact h1 x (List.mem_of_mem_drop hx)
  · rw [List.append_assoc, List.pairwise_append]
    refine ⟨q1, ?_, fun a ha b hb => ?_⟩
    · rw [List.singleton_append, List.pairwise_cons]
      exact ⟨after, q2⟩
    · rw [List.singleton_append, List.mem_cons] at hb
      rcases hb with rfl | hb
      · exact before a ha
      · exact q3 a ha b hb

theorem putE_length (es : List Ed) (e : Ed) : (putE es e).length = es.length + 1 := by
  have := putK_le es e es.length
  unfold putE
  simp
  omega

theorem turnE_ok {N a b : Int} (ha : isB N a = true) (hb : isB N b = true) (hne : a ≠ b) : edgeOk N (turnE a b) = true := by
  unfold isB at ha hb
  simp at ha hb
  unfold turnE edgeOk
  split
  · simp
    omega
  · simp
    omega

theorem atE_mem {es : List Ed} {e : Ed} : 0 ≤ atE es e ↔ e ∈ es := by
  unfold atE
  by_cases h : es.contains e = true
  · rw [if_pos h]
    exact ⟨fun _ => by simpa using h, fun _ => Int.natCast_nonneg _⟩
  · rw [if_neg h]
    exact ⟨fun k => absurd k (by omega), fun k => absurd (by simpa using k) h⟩

theorem hasB_iff {N a b : Int} {es : List Ed} (hr : rightB N es = true) : hasB N es a b = true ↔ turnE a b ∈ es := by
  unfold hasB indexB
  rw [hr, if_pos rfl, decide_eq_true_eq]
  exact atE_mem

theorem add_ok {m a b : Int} {es : List Ed} (hr : rightB m es = true) (h : (addP m es a b).2.2 = 0) : (addP m es a b).1 = m ∧ rightB m (addP m es a b).2.1 = true ∧ (addP m es a b).2.1.length = es.length + 1 := by
  unfold addP at *
  rw [if_neg (by rw [hr]; simp)] at *
  by_cases h1 : (isB m a && isB m b) = false
  · rw [if_pos h1] at h
    simp at h
  rw [if_neg h1] at *
  by_cases h2 : a = b
  · rw [if_pos h2] at h
    simp at h
  rw [if_neg h2] at *
  by_cases h3 : hasB m es a b = true
  · rw [if_pos h3] at h
    simp at h
  rw [if_neg h3] at *
  by_cases h4 : 65536 ≤ es.length
  · rw [if_pos h4] at h
    simp at h
  rw [if_neg h4] at *
  have hm : turnE a b ∉ es := fun k => h3 ((hasB_iff hr).2 k)
  obtain ⟨r1, r2, r3, r4⟩ := rightB_iff.1 hr
  simp only [Bool.not_eq_false, Bool.and_eq_true] at h1
  exact ⟨rfl, rightB_iff.2 ⟨r1, r2, by simp only [putE_length]; omega, rise_put r4 (turnE_ok h1.1 h1.2 h2) hm⟩, putE_length _ _⟩

end Go.Proofs.Ytnldfjoadmehcaa
