/- Laws of matchings, plainly: a matching is its edges; one more edge; one mate that is another. -/
import Derived.Test.YtnldfjoadmehcaaMatesPure
set_option linter.unusedVariables false
set_option linter.unusedSimpArgs false
namespace Go.Proofs.Ytnldfjoadmehcaa
open Go.RowKit

/-- Who is matched is matched with another one, who is matched with him. -/
theorem match_mate {N : Nat} {es : List Ed} {ms : List Int} (hr : Rise N es) (h : MatchN N es ms) {v : Nat} (hv : v < N) (hp : 0 ≤ gi ms v) : ∃ w : Nat, gi ms v = w ∧ w < N ∧ w ≠ v ∧ gi ms w = v ∧ (w : Int) ∈ nearV es v := by
  rcases h.2 v hv with q | ⟨w, h1, h2, h3, h4⟩
  · omega
  · have := near_in hr h3
    exact ⟨w, h2, h1, by omega, h4, h3⟩
theorem match_out {N : Nat} {es : List Ed} {ms : List Int} (h : MatchN N es ms) {v : Nat} (hv : v < N) (hp : ¬ 0 ≤ gi ms v) : gi ms v = -1 := by
  rcases h.2 v hv with q | ⟨w, h1, h2, h3, h4⟩
  · exact q
  · omega

/-- The edges of mates from vertex k on. -/
def edgesFr (ms : List Int) : Nat → Nat → List Ed
  | 0, _ => []
  | d + 1, k => if lowB ms k then ((k : Int), gi ms k) :: edgesFr ms d (k + 1) else edgesFr ms d (k + 1)
theorem edges_split (ms : List Int) : ∀ d k, edgesTo ms k ++ edgesFr ms d k = edgesTo ms (k + d)
  | 0, k => by simp [edgesFr]
  | d + 1, k => by
    have := edges_split ms d (k + 1)
    rw [show k + (d + 1) = k + 1 + d from by omega, ← this, edgesTo, edgesFr]
    split <;> simp
theorem edgesM_fr (ms : List Int) : edgesM ms = edgesFr ms ms.length 0 := by
  have := edges_split ms ms.length 0
  rw [Nat.zero_add] at this
  unfold edgesM
  rw [← this]
  rfl
/-- The mates, of whom one lies below k. -/
def cutM (ms : List Int) (k : Nat) : List Int := (List.range ms.length).map fun j => if 0 ≤ gi ms j ∧ (j < k ∨ gi ms j < k) then gi ms j else -1
theorem cutM_length (ms : List Int) (k : Nat) : (cutM ms k).length = ms.length := by simp [cutM]
theorem gi_cutM {ms : List Int} {k j : Nat} (h : j < ms.length) : gi (cutM ms k) j = if 0 ≤ gi ms j ∧ (j < k ∨ gi ms j < k) then gi ms j else -1 := by
  rw [gi_at h]
  unfold cutM gi
  simp [List.getD_eq_getElem?_getD, h]
theorem cut_zero {N : Nat} {es : List Ed} {ms : List Int} (h : MatchN N es ms) : cutM ms 0 = List.replicate N (-1) := by
  refine list_ext_gi (by simp [cutM_length, h.1]) fun j hj => ?_
  rw [cutM_length] at hj
  rw [gi_cutM hj, gi_rep _ _ _ (by have := h.1; omega), if_neg (by omega)]
theorem cut_all {N : Nat} {es : List Ed} {ms : List Int} (h : MatchN N es ms) : cutM ms N = ms := by
  refine list_ext_gi (cutM_length _ _) fun j hj => ?_
  rw [cutM_length] at hj
  rw [gi_cutM hj]
  have hl := h.1
  by_cases q : 0 ≤ gi ms j
  · rw [if_pos ⟨q, .inl (by omega)⟩]
  · rw [if_neg (by omega), match_out h (by omega) q]
theorem low_iff {N : Nat} {es : List Ed} {ms : List Int} (hr : Rise N es) (h : MatchN N es ms) {k : Nat} (hk : k < N) : lowB ms k = true ↔ (k : Int) < gi ms k := by
  unfold lowB
  rw [Bool.and_eq_true, Bool.and_eq_true, decide_eq_true_eq, decide_eq_true_eq, beq_iff_eq]
  constructor
  · exact fun q => q.1
  · intro q
    obtain ⟨w, h1, h2, h3, h4, -⟩ := match_mate hr h hk (by omega)
    have hl := h.1
    exact ⟨q, by omega, by rw [h1, Int.toNat_natCast]; exact h4⟩
theorem of_cut {N : Nat} {es : List Ed} {ms : List Int} (hr : rightB N es = true) (h : MatchN N es ms) : ∀ d k, k + d = N → ofGo N es (edgesFr ms d k) (cutM ms k) = (ms, 0)
  | 0, k, hk => by
    obtain rfl : k = N := by omega
    rw [edgesFr, ofGo, cut_all h]
  | d + 1, k, hk => by
    have hR := (rightB_iff.1 hr).2.2.2
    have hl := h.1
    have hkN : k < N := by omega
    rw [edgesFr]
    by_cases q : lowB ms k = true
    · rw [if_pos q]
      have hlt := (low_iff hR h hkN).1 q
      obtain ⟨w, h1, h2, h3, h4, h5⟩ := match_mate hR h hkN (by omega)
      have hhas : hasB N es k (gi ms k) = true := by rw [hasB_iff hr, mem_turn hR, h1]; exact h5
      have e1 : gi (cutM ms k) k = -1 := by rw [gi_cutM (by omega), if_neg (by omega)]
      have e2 : gi (cutM ms k) w = -1 := by rw [gi_cutM (by omega), if_neg (by omega)]
      have hc : ((cutM ms k).set k (w : Int)).set w (k : Int) = cutM ms (k + 1) := by
        refine list_ext_gi (by simp [cutM_length]) fun j hj => ?_
        rw [List.length_set, List.length_set, cutM_length] at hj
        rw [gi_set, gi_set, List.length_set, cutM_length, gi_cutM hj, gi_cutM hj]
        by_cases a1 : j = w
        · subst a1
          rw [if_pos ⟨rfl, hj⟩, if_pos (by omega), h4]
        · rw [if_neg (by omega)]
          by_cases a2 : j = k
          · subst a2
            rw [if_pos ⟨rfl, hj⟩, if_pos (by omega), h1]
          · rw [if_neg (by omega)]
            by_cases a3 : 0 ≤ gi ms j ∧ (j < k ∨ gi ms j < k)
            · rw [if_pos a3, if_pos (by omega)]
            · rw [if_neg a3, if_neg]
              rintro ⟨b1, b2⟩
              have b3 : gi ms j = k := by omega
              obtain ⟨w', c1, c2, c3, c4, -⟩ := match_mate hR h (v := j) (by omega) b1
              have : w' = k := by omega
              subst this
              omega
      rw [ofGo]
      simp only []
      rw [hhas, if_neg (by simp), h1, Int.toNat_natCast, Int.toNat_natCast, e1, e2, if_neg (by omega), hc]
      exact of_cut hr h d (k + 1) (by omega)
    · rw [if_neg q]
      have hge : ¬ (k : Int) < gi ms k := fun z => q ((low_iff hR h hkN).2 z)
      have hc : cutM ms k = cutM ms (k + 1) := by
        refine list_ext_gi (by simp [cutM_length]) fun j hj => ?_
        rw [cutM_length] at hj
        rw [gi_cutM hj, gi_cutM hj]
        by_cases a3 : 0 ≤ gi ms j ∧ (j < k ∨ gi ms j < k)
        · rw [if_pos a3, if_pos (by omega)]
        · rw [if_neg a3, if_neg]
          rintro ⟨b1, b2⟩
          obtain ⟨w', c1, c2, c3, c4, -⟩ := match_mate hR h (v := j) (by omega) b1
          rcases b2 with b2 | b2
          · have : j = k := by omega
            subst this
            omega
          · have : w' = k := by omega
            subst this
            omega
      rw [hc]
      exact of_cut hr h d (k + 1) (by omega)
/-- A matching is its edges. -/
theorem of_edges {N : Nat} {es : List Ed} {ms : List Int} (hr : rightB N es = true) (h : MatchN N es ms) : ofGo N es (edgesM ms) (List.replicate N (-1)) = (ms, 0) := by
  rw [edgesM_fr, ← cut_zero h, h.1]
  exact of_cut hr h N 0 (by omega)
theorem ofP_edges {N : Nat} {es : List Ed} {ms : List Int} (hr : rightB N es = true) (h : MatchN N es ms) : ofP N es (edgesM ms) = (ms, 0) := by
  unfold ofP
  rw [hr, if_pos rfl, Int.toNat_natCast]
  exact of_edges hr h
theorem pair_free {N : Nat} {es : List Ed} {ms : List Int} (hr : Rise N es) (h : MatchN N es ms) {v : Nat} (hv : v < N) : freeB ms v = !pairB ms v := by
  have hl := h.1
  unfold freeB pairB
  by_cases q : 0 ≤ gi ms v
  · obtain ⟨w, h1, h2, h3, h4, -⟩ := match_mate hr h hv q
    have d1 : decide (0 ≤ gi ms v) = true := decide_eq_true q
    have d2 : decide (gi ms v < (ms.length : Int)) = true := decide_eq_true (by omega)
    have d3 : (gi ms v == (v : Int)) = false := by simp; omega
    have d4 : (gi ms (gi ms v).toNat == (v : Int)) = true := by rw [h1, Int.toNat_natCast, h4]; simp
    have d5 : (gi ms v == -1) = false := by simp; omega
    rw [d1, d2, d3, d4, d5]
    rfl
  · have d1 : decide (0 ≤ gi ms v) = false := decide_eq_false q
    have d5 : (gi ms v == -1) = true := by simp; exact match_out h hv q
    rw [d1, d5]
    rfl
theorem match_count {N : Nat} {es : List Ed} {ms : List Int} (hr : Rise N es) (h : MatchN N es ms) : 2 * (edgesM ms).length + (sel (freeB ms) N).length = N := by
  have h1 := pair_len ms
  rw [h.1] at h1
  have h2 := sel_both (pairB ms) N
  have h3 : sel (freeB ms) N = sel (fun j => !pairB ms j) N := sel_congr fun j hj => pair_free hr h hj
  rw [h3]
  omega

theorem ofGo_app {N : Int} {es : List Ed} : ∀ {l r : List Ed} {m0 m1 : List Int}, ofGo N es l m0 = (m1, 0) → ofGo N es (l ++ r) m0 = ofGo N es r m1
  | [], r, m0, m1, h => by
    rw [ofGo] at h
    injection h with h1 h2
    subst h1
    rfl
  | e :: l, r, m0, m1, h => by
    rw [ofGo] at h
    rw [List.cons_append, ofGo]
    by_cases q1 : hasB N es e.1 e.2 = false
    · rw [if_pos q1] at h
      injection h with h1 h2
      cases h2
    · rw [if_neg q1] at h ⊢
      by_cases q2 : 0 ≤ gi m0 e.1.toNat ∨ 0 ≤ gi m0 e.2.toNat
      · rw [if_pos q2] at h
        injection h with h1 h2
        cases h2
      · rw [if_neg q2] at h ⊢
        exact ofGo_app h
theorem edge_has {N : Nat} {es : List Ed} (hr : rightB N es = true) {x y : Nat} (hm : ((x : Int), (y : Int)) ∈ es) : hasB N es x y = true ∧ x < y ∧ y < N := by
  have hR := (rightB_iff.1 hr).2.2.2
  obtain ⟨a, b, e, h1, h2⟩ := edge_nat (hR.1 _ hm)
  injection e with e1 e2
  have h3 : x = a := by omega
  have h4 : y = b := by omega
  subst h3 h4
  refine ⟨?_, h1, h2⟩
  rw [hasB_iff hr, mem_turn hR, mem_nearV]
  exact .inr hm
/-- Edges of a matching, and one more. -/
theorem of_more {N : Nat} {es : List Ed} {ms : List Int} (hr : rightB N es = true) (h : MatchN N es ms) {x y : Nat} (hm : ((x : Int), (y : Int)) ∈ es) :
    ofP N es (edgesM ms ++ [((x : Int), (y : Int))]) = if 0 ≤ gi ms x ∨ 0 ≤ gi ms y then ([], 9) else ((ms.set x (y : Int)).set y (x : Int), 0) := by
  unfold ofP
  rw [hr, if_pos rfl, Int.toNat_natCast, ofGo_app (of_edges hr h), ofGo]
  simp only [Int.toNat_natCast]
  rw [(edge_has hr hm).1, if_neg (by simp)]
  rfl
theorem sel_one (a : Nat) : ∀ k, (sel (fun v => v == a) k).length = if a < k then 1 else 0
  | 0 => rfl
  | k + 1 => by
    have := sel_one a k
    rw [sel]
    by_cases q : k = a
    · subst q
      simp only [beq_self_eq_true, if_true, List.length_append, List.length_singleton, this]
      rw [if_neg (by omega), if_pos (by omega)]
    · have hq : (k == a) = false := by simpa using q
      rw [hq]
      simp only [Bool.false_eq_true, if_false]
      rw [this]
      by_cases q2 : a < k
      · rw [if_pos q2, if_pos (by omega)]
      · rw [if_neg q2, if_neg (by omega)]
theorem more_size {N : Nat} {es : List Ed} {ms : List Int} (hr : rightB N es = true) (h : MatchN N es ms) {x y : Nat} (hm : ((x : Int), (y : Int)) ∈ es) (hx : ¬ 0 ≤ gi ms x) (hy : ¬ 0 ≤ gi ms y) :
    MatchN N es ((ms.set x (y : Int)).set y (x : Int)) ∧ (edgesM ((ms.set x (y : Int)).set y (x : Int))).length = (edgesM ms).length + 1 := by
  have hR := (rightB_iff.1 hr).2.2.2
  obtain ⟨h1, h2, h3⟩ := edge_has hr hm
  have hM := match_put h (a := x) (b := y) (by omega) h3 (by omega) (mem_nearV.2 (.inr hm)) (by omega) (by omega)
  refine ⟨hM, ?_⟩
  have c1 := match_count hR h
  have c2 := match_count hR hM
  have e1 := sel_or (freeB ms) (freeB ((ms.set x (y : Int)).set y (x : Int))) (fun v => v == x || v == y) ?_ ?_ N
  · have e2 := sel_or (fun v => v == x || v == y) (fun v => v == x) (fun v => v == y) (fun v => rfl) (fun v hv => by
      simp at hv ⊢
      omega) N
    rw [sel_one, sel_one, if_pos (by omega), if_pos h3] at e2
    omega
  · intro v
    have hl := h.1
    rw [Bool.eq_iff_iff]
    unfold freeB
    rw [gi_set, gi_set, List.length_set, hl]
    have px := match_out h (v := x) (by omega) hx
    have py := match_out h (v := y) h3 hy
    by_cases a1 : v = y
    · subst a1
      simp [py]
    · by_cases a2 : v = x
      · subst a2
        simp [px]
      · rw [if_neg (by omega), if_neg (by omega)]
        simp [a1, a2]
  · intro v hv
    have hl := h.1
    unfold freeB at hv
    rw [gi_set, gi_set, List.length_set, hl] at hv
    by_cases a1 : v = y
    · subst a1
      rw [if_pos ⟨rfl, h3⟩] at hv
      simp at hv
    · by_cases a2 : v = x
      · subst a2
        rw [if_neg (by omega), if_pos ⟨rfl, by omega⟩] at hv
        simp at hv
      · simp [a1, a2]

/-- One mate is another. -/
theorem wrong_yes {N : Nat} {es : List Ed} {ms : List Int} (hr : rightB N es = true) (h : MatchN N es ms) {k : Nat} (hk : k < N) (b : Int) (hb : b = gi ms k) : rightM N es (ms.set k b) = true := by
  have : ms.set k b = ms := by
    refine list_ext_gi (by simp) fun j hj => ?_
    rw [gi_set]
    by_cases q : j = k ∧ k < ms.length
    · rw [if_pos q, hb, q.1]
    · rw [if_neg q]
  rw [this]
  exact rightM_iff.2 ⟨hr, h⟩
theorem wrong_no {N : Nat} {es : List Ed} {ms : List Int} (hr : rightB N es = true) (h : MatchN N es ms) {k : Nat} (hk : k < N) (b : Int) (hb : b ≠ gi ms k) : rightM N es (ms.set k b) = false := by
  have hR := (rightB_iff.1 hr).2.2.2
  have hl := h.1
  cases q : rightM N es (ms.set k b)
  · rfl
  · exfalso
    have hm := (rightM_iff.1 q).2
    have hb0 : gi (ms.set k b) k = b := by rw [gi_set, if_pos ⟨rfl, by omega⟩]
    by_cases c1 : 0 ≤ gi ms k
    · obtain ⟨w, h1, h2, h3, h4, -⟩ := match_mate hR h hk c1
      have e1 : gi (ms.set k b) w = k := by rw [gi_set, if_neg (by omega)]; exact h4
      obtain ⟨w', g1, g2, g3, g4, -⟩ := match_mate hR hm (v := w) h2 (by omega)
      have : w' = k := by omega
      subst this
      rw [hb0] at g4
      omega
    · have c2 := match_out h hk c1
      rcases hm.2 k hk with d | ⟨w, d1, d2, d3, d4⟩
      · rw [hb0] at d
        omega
      · have hw := near_in hR d3
        rw [gi_set, if_neg (by omega)] at d4
        obtain ⟨w', g1, g2, g3, g4, -⟩ := match_mate hR h (v := w) d1 (by omega)
        have : w' = k := by omega
        subst this
        omega

end Go.Proofs.Ytnldfjoadmehcaa
