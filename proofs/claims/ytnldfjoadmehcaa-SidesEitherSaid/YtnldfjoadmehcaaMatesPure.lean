/- Matchings, plainly: their edges, sizes, and what makes one. -/
import Derived.Test.YtnldfjoadmehcaaGreedyPure
import Derived.Test.YtnldfjoadmehcaaSubPure
import Derived.Test.YtnldfjoadmehcaaEdgesPure
set_option linter.unusedVariables false
set_option linter.unusedSimpArgs false
namespace Go.Proofs.Ytnldfjoadmehcaa
open Go.RowKit

/-- Is it right at vertex v? -/
def rightAt (N : Int) (es : List Ed) (ms : List Int) (v : Nat) : Bool := gi ms v == -1 || (hasB N es v (gi ms v) && gi ms (gi ms v).toNat == v)
def rightTo (N : Int) (es : List Ed) (ms : List Int) : Nat → Bool
  | 0 => true
  | v + 1 => rightTo N es ms v && rightAt N es ms v
/-- Is it a matching of a graph? -/
def rightM (N : Int) (es : List Ed) (ms : List Int) : Bool := rightB N es && (decide ((ms.length : Int) = N) && rightTo N es ms ms.length)
theorem rightTo_iff {N : Int} {es : List Ed} {ms : List Int} : ∀ {k : Nat}, rightTo N es ms k = true ↔ ∀ v, v < k → rightAt N es ms v = true
  | 0 => by simp [rightTo]
  | k + 1 => by
    rw [rightTo, Bool.and_eq_true, rightTo_iff]
    constructor
    · rintro ⟨h1, h2⟩ v hv
      by_cases e : v = k
      · exact e ▸ h2
      · exact h1 v (by omega)
    · intro h
      exact ⟨fun v hv => h v (by omega), h k (by omega)⟩
theorem rightTo_false {N : Int} {es : List Ed} {ms : List Int} {v k : Nat} (h : rightAt N es ms v = false) (hv : v < k) : rightTo N es ms k = false := by
  cases q : rightTo N es ms k
  · rfl
  · have := rightTo_iff.1 q v hv
    rw [h] at this
    cases this
theorem rightAt_iff {N : Nat} {es : List Ed} {ms : List Int} (hr : rightB N es = true) {v : Nat} : rightAt N es ms v = true ↔ gi ms v = -1 ∨ ∃ w : Nat, w < N ∧ gi ms v = w ∧ (w : Int) ∈ nearV es v ∧ gi ms w = v := by
  have hR := (rightB_iff.1 hr).2.2.2
  unfold rightAt
  rw [Bool.or_eq_true, Bool.and_eq_true, beq_iff_eq, beq_iff_eq, hasB_iff hr, mem_turn hR]
  constructor
  · rintro (h | ⟨h1, h2⟩)
    · exact .inl h
    · have := near_in hR h1
      refine .inr ⟨(gi ms v).toNat, by omega, by omega, ?_, h2⟩
      rw [Int.toNat_of_nonneg (by omega)]
      exact h1
  · rintro (h | ⟨w, h1, h2, h3, h4⟩)
    · exact .inl h
    · refine .inr ⟨by rw [h2]; exact h3, ?_⟩
      rw [h2, Int.toNat_natCast]
      exact h4
theorem rightM_iff {N : Nat} {es : List Ed} {ms : List Int} : rightM N es ms = true ↔ rightB N es = true ∧ MatchN N es ms := by
  unfold rightM MatchN
  rw [Bool.and_eq_true, Bool.and_eq_true, decide_eq_true_eq, rightTo_iff]
  constructor
  · rintro ⟨h1, h2, h3⟩
    exact ⟨h1, by omega, fun v hv => (rightAt_iff h1).1 (h3 v (by omega))⟩
  · rintro ⟨h1, h2, h3⟩
    exact ⟨h1, by omega, fun v hv => (rightAt_iff h1).2 (h3 v (by omega))⟩

/-- Is v joined by an edge whose ends are each other's mates? -/
def joinE (ms : List Int) (e : Ed) : Bool := gi ms e.1.toNat == e.2 && gi ms e.2.toNat == e.1
def joinF (ms : List Int) (es : List Ed) (v : Nat) : Bool := es.any fun e => joinE ms e && (e.1 == v || e.2 == v)
theorem join_right {N : Nat} {es : List Ed} {ms : List Int} (hr : rightB N es = true) (v : Nat) : (gi ms v == -1 || joinF ms es v) = rightAt N es ms v := by
  have hR := (rightB_iff.1 hr).2.2.2
  rw [Bool.eq_iff_iff, rightAt_iff hr, Bool.or_eq_true, beq_iff_eq]
  refine or_congr Iff.rfl ?_
  unfold joinF joinE
  simp only [List.any_eq_true, Bool.and_eq_true, Bool.or_eq_true, beq_iff_eq]
  constructor
  · rintro ⟨⟨a, b⟩, hm, ⟨h1, h2⟩, h3⟩
    have := hR.1 _ hm
    unfold edgeOk at this
    simp at this
    simp only [] at h1 h2 h3
    rcases h3 with h3 | h3
    · subst h3
      refine ⟨b.toNat, by omega, by rw [Int.toNat_natCast] at h1; omega, ?_, h2⟩
      rw [Int.toNat_of_nonneg (by omega), mem_nearV]
      exact .inr hm
    · subst h3
      refine ⟨a.toNat, by omega, by rw [Int.toNat_natCast] at h2; omega, ?_, h1⟩
      rw [Int.toNat_of_nonneg (by omega), mem_nearV]
      exact .inl hm
  · rintro ⟨w, h1, h2, h3, h4⟩
    rcases mem_nearV.1 h3 with hm | hm
    · exact ⟨_, hm, by simp [h2, h4], .inr rfl⟩
    · exact ⟨_, hm, by simp [h2, h4], .inl rfl⟩

/-- The edges that mates make, below k. -/
def lowB (ms : List Int) (v : Nat) : Bool := decide ((v : Int) < gi ms v) && (decide (gi ms v < ms.length) && gi ms (gi ms v).toNat == v)
def edgesTo (ms : List Int) : Nat → List Ed
  | 0 => []
  | v + 1 => if lowB ms v then edgesTo ms v ++ [((v : Int), gi ms v)] else edgesTo ms v
def edgesM (ms : List Int) : List Ed := edgesTo ms ms.length
theorem edgesTo_length (ms : List Int) : ∀ k, (edgesTo ms k).length ≤ k
  | 0 => Nat.zero_le _
  | k + 1 => by
    have := edgesTo_length ms k
    rw [edgesTo]
    split
    · simp
      omega
    · omega
/-- Is v's mate another one, whose mate it is? -/
def pairB (ms : List Int) (v : Nat) : Bool := decide (0 ≤ gi ms v) && (decide (gi ms v < ms.length) && (!(gi ms v == v) && gi ms (gi ms v).toNat == v))
def freeB (ms : List Int) (v : Nat) : Bool := gi ms v == -1
def upB (ms : List Int) (v : Nat) : Bool := pairB ms v && decide (gi ms v < v)
theorem pair_split (ms : List Int) (v : Nat) : pairB ms v = (lowB ms v || upB ms v) := by
  rw [Bool.eq_iff_iff]
  unfold upB pairB lowB
  simp
  omega
theorem low_up (ms : List Int) (v : Nat) (h : lowB ms v = true) : upB ms v = false := by
  unfold lowB at h
  unfold upB
  simp at h ⊢
  omega
theorem edgesTo_sel (ms : List Int) : ∀ k, edgesTo ms k = (sel (lowB ms) k).map fun v => (v, gi ms v.toNat)
  | 0 => rfl
  | k + 1 => by
    rw [edgesTo, sel, edgesTo_sel ms k]
    split
    · simp
    · rfl
theorem sel_or (p q r : Nat → Bool) (h : ∀ v, p v = (q v || r v)) (d : ∀ v, q v = true → r v = false) : ∀ k, (sel p k).length = (sel q k).length + (sel r k).length
  | 0 => rfl
  | k + 1 => by
    have := sel_or p q r h d k
    have hk := h k
    have dk := d k
    simp only [sel]
    cases e1 : q k <;> cases e2 : r k <;> simp_all <;> omega
theorem nodup_map_on {xs : List Int} {f : Int → Int} (h : xs.Nodup) (hf : ∀ a ∈ xs, ∀ b ∈ xs, f a = f b → a = b) : (xs.map f).Nodup := by
  unfold List.Nodup
  rw [List.pairwise_map]
  exact List.Pairwise.imp_of_mem (fun {a b} ha hb hab e => hab (hf a ha b hb e)) h
theorem low_up_len (ms : List Int) : (sel (lowB ms) ms.length).length = (sel (upB ms) ms.length).length := by
  have mate : ∀ v : Nat, v < ms.length → pairB ms v = true → ∃ w : Nat, gi ms v = w ∧ w < ms.length ∧ gi ms w = v := fun v hv h => by
    unfold pairB at h
    simp at h
    refine ⟨(gi ms v).toNat, by omega, by omega, h.2.2.2⟩
  have inj : ∀ p : Nat → Bool, (∀ v, p v = true → pairB ms v = true) → ((sel p ms.length).map fun v => gi ms v.toNat).Nodup := fun p hp => by
    refine nodup_map_on (sel_nodup _ _) fun a ha b hb e => ?_
    obtain ⟨i, hi, pi, rfl⟩ := mem_sel.1 ha
    obtain ⟨j, hj, pj, rfl⟩ := mem_sel.1 hb
    obtain ⟨x, x1, x2, x3⟩ := mate i hi (hp i pi)
    obtain ⟨y, y1, y2, y3⟩ := mate j hj (hp j pj)
    simp only [Int.toNat_natCast] at e
    have : x = y := by omega
    subst this
    omega
  have hl : ∀ v, lowB ms v = true → pairB ms v = true := fun v h => by rw [pair_split, h]; rfl
  have hu : ∀ v, upB ms v = true → pairB ms v = true := fun v h => by rw [pair_split, h]; simp
  refine Nat.le_antisymm ?_ ?_
  · have := nodup_len (inj (lowB ms) hl) (ys := sel (upB ms) ms.length) fun x hx => by
      simp only [List.mem_map] at hx
      obtain ⟨a, ha, rfl⟩ := hx
      obtain ⟨i, hi, pi, rfl⟩ := mem_sel.1 ha
      obtain ⟨x, x1, x2, x3⟩ := mate i hi (hl i pi)
      refine mem_sel.2 ⟨x, x2, ?_, by rw [Int.toNat_natCast]; exact x1⟩
      unfold lowB at pi
      unfold upB pairB
      simp [x1] at pi
      simp [x3, x1]
      omega
    simpa using this
  · have := nodup_len (inj (upB ms) hu) (ys := sel (lowB ms) ms.length) fun x hx => by
      simp only [List.mem_map] at hx
      obtain ⟨a, ha, rfl⟩ := hx
      obtain ⟨i, hi, pi, rfl⟩ := mem_sel.1 ha
      obtain ⟨x, x1, x2, x3⟩ := mate i hi (hu i pi)
      refine mem_sel.2 ⟨x, x2, ?_, by rw [Int.toNat_natCast]; exact x1⟩
      unfold upB pairB at pi
      unfold lowB
      simp [x1] at pi
      simp [x3, x1]
      omega
    simpa using this
theorem pair_len (ms : List Int) : (sel (pairB ms) ms.length).length = 2 * (edgesM ms).length := by
  unfold edgesM
  rw [edgesTo_sel, List.length_map, sel_or _ _ _ (pair_split ms) (low_up ms), ← low_up_len]
  omega

/-- The mates that edges make, one after the other; or why there are none. -/
def ofGo (N : Int) (es : List Ed) : List Ed → List Int → List Int × Int
  | [], ms => (ms, 0)
  | e :: l, ms => if hasB N es e.1 e.2 = false then ([], 7) else if 0 ≤ gi ms e.1.toNat ∨ 0 ≤ gi ms e.2.toNat then ([], 9) else ofGo N es l ((ms.set e.1.toNat e.2).set e.2.toNat e.1)
def ofP (N : Int) (es ls : List Ed) : List Int × Int := if rightB N es then ofGo N es ls (List.replicate N.toNat (-1)) else ([], 3)
theorem has_ends {N : Nat} {es : List Ed} (hr : rightB N es = true) {a b : Int} (h : hasB N es a b = true) : ∃ x y : Nat, a = x ∧ b = y ∧ x < N ∧ y < N ∧ x ≠ y ∧ (y : Int) ∈ nearV es x := by
  have hR := (rightB_iff.1 hr).2.2.2
  have hm := (mem_turn hR).1 ((hasB_iff hr).1 h)
  have := near_in hR hm
  refine ⟨a.toNat, b.toNat, by omega, by omega, by omega, by omega, by omega, ?_⟩
  rw [Int.toNat_of_nonneg (by omega), Int.toNat_of_nonneg (by omega)]
  exact hm

end Go.Proofs.Ytnldfjoadmehcaa
