/- Two graphs side by side, and their first matching, plainly. -/
import Derived.Test.YtnldfjoadmehcaaGreedyPure
set_option linter.unusedVariables false
set_option linter.unusedSimpArgs false
namespace Go.Proofs.Ytnldfjoadmehcaa
open Go.RowKit

def shE (N : Int) (fs : List Ed) : List Ed := fs.map fun e => (e.1 + N, e.2 + N)
/-- The edges of two graphs side by side. -/
def besE (N : Int) (es fs : List Ed) : List Ed := es ++ shE N fs
theorem shE_length (N : Int) (fs : List Ed) : (shE N fs).length = fs.length := by simp [shE]
theorem ge_app (xs ys : List Ed) (j : Nat) : ge (xs ++ ys) j = if j < xs.length then ge xs j else ge ys (j - xs.length) := by
  unfold ge
  simp only [List.getD_eq_getElem?_getD, List.getElem?_append]
  split <;> rfl

theorem bes_rise {N M : Nat} {es fs : List Ed} (h : Rise N es) (k : Rise M fs) : Rise ((N : Int) + M) (besE N es fs) := by
  refine ⟨fun e he => ?_, ?_⟩
  · unfold besE shE at he
    simp only [List.mem_append, List.mem_map] at he
    rcases he with he | ⟨f, hf, rfl⟩
    · have := h.1 _ he
      unfold edgeOk at this ⊢
      simp at this ⊢
      omega
    · have := k.1 _ hf
      unfold edgeOk at this ⊢
      simp at this ⊢
      omega
  · unfold besE shE
    rw [List.pairwise_append, List.pairwise_map]
    refine ⟨h.2, k.2.imp fun {a b} q => ?_, fun a ha b hb => ?_⟩
    · rw [ahead_iff] at *
      simp only []
      omega
    · simp only [List.mem_map] at hb
      obtain ⟨f, hf, rfl⟩ := hb
      have h1 := h.1 _ ha
      have h2 := k.1 _ hf
      unfold edgeOk at h1 h2
      simp at h1 h2
      rw [ahead_iff]
      simp only []
      omega
theorem bes_right {N M : Nat} {es fs : List Ed} (h : rightB N es = true) (k : rightB M fs = true) (hn : N + M ≤ 4096) (hl : es.length + fs.length ≤ 65536) : rightB ((N : Int) + M) (besE N es fs) = true := by
  obtain ⟨-, -, -, h4⟩ := rightB_iff.1 h
  obtain ⟨-, -, -, k4⟩ := rightB_iff.1 k
  exact rightB_iff.2 ⟨by omega, by omega, by unfold besE; rw [List.length_append, shE_length]; exact hl, bes_rise h4 k4⟩

theorem near_left {N M : Nat} {es fs : List Ed} (h : Rise N es) (k : Rise M fs) {v : Nat} (hv : v < N) : nearV (besE N es fs) v = nearV es v := by
  have e1 : (shE N fs).filter (fun e => e.2 == (v : Int)) = [] := by
    rw [List.filter_eq_nil_iff]
    intro e he
    unfold shE at he
    simp only [List.mem_map] at he
    obtain ⟨f, hf, rfl⟩ := he
    have := k.1 _ hf
    unfold edgeOk at this
    simp at this ⊢
    omega
  have e2 : (shE N fs).filter (fun e => e.1 == (v : Int)) = [] := by
    rw [List.filter_eq_nil_iff]
    intro e he
    unfold shE at he
    simp only [List.mem_map] at he
    obtain ⟨f, hf, rfl⟩ := he
    have := k.1 _ hf
    unfold edgeOk at this
    simp at this ⊢
    omega
  unfold nearV lowsE highsE besE
  simp only [List.filter_append, List.map_append, e1, e2, List.map_nil, List.append_nil]
theorem near_right {N M : Nat} {es fs : List Ed} (h : Rise N es) (k : Rise M fs) (u : Nat) : nearV (besE N es fs) ((N : Int) + u) = (nearV fs u).map (· + (N : Int)) := by
  have e1 : es.filter (fun e => e.2 == ((N : Int) + u)) = [] := by
    rw [List.filter_eq_nil_iff]
    intro e he
    have := h.1 _ he
    unfold edgeOk at this
    simp at this ⊢
    omega
  have e2 : es.filter (fun e => e.1 == ((N : Int) + u)) = [] := by
    rw [List.filter_eq_nil_iff]
    intro e he
    have := h.1 _ he
    unfold edgeOk at this
    simp at this ⊢
    omega
  have f1 : (shE N fs).filter (fun e => e.2 == ((N : Int) + u)) = shE N (fs.filter fun e => e.2 == (u : Int)) := by
    unfold shE
    rw [List.filter_map]
    congr 1
    refine List.filter_congr fun e _ => ?_
    rw [Bool.eq_iff_iff]
    simp
    omega
  have f2 : (shE N fs).filter (fun e => e.1 == ((N : Int) + u)) = shE N (fs.filter fun e => e.1 == (u : Int)) := by
    unfold shE
    rw [List.filter_map]
    congr 1
    refine List.filter_congr fun e _ => ?_
    rw [Bool.eq_iff_iff]
    simp
    omega
  unfold nearV lowsE highsE besE
  simp only [List.filter_append, List.map_append, e1, e2, f1, f2, List.map_nil, List.nil_append]
  unfold shE
  simp [List.map_map, Function.comp_def]

theorem scan_left {ms t xs : List Int} (hin : ∀ x ∈ xs, 0 ≤ x ∧ x < ms.length) : ∀ d k, k + d ≤ xs.length → scanM (ms ++ t) xs d k = scanM ms xs d k
  | 0, k, _ => rfl
  | d + 1, k, h => by
    have h1 := hin _ (gi_mem (xs := xs) (a := k) (by omega))
    rw [scanM, scanM, gi_app, if_pos (show (gi xs k).toNat < ms.length by omega), scan_left hin d (k + 1) (by omega)]
theorem step_left {ms t l : List Int} {v : Nat} (hin : ∀ x ∈ l, 0 ≤ x ∧ x < ms.length) (hv : v < ms.length) : stepF l v (ms ++ t) = stepF l v ms ++ t := by
  unfold stepF
  rw [gi_app, if_pos hv, scan_left hin _ _ (by omega)]
  by_cases h1 : gi ms v < 0
  · rw [if_pos h1, if_pos h1]
    rcases scan_spec ms l l.length 0 with ⟨h2, h3⟩ | ⟨i, h2, h3, h4, h5⟩
    · rw [h2, if_neg (by omega), if_neg (by omega)]
    · rw [h2, if_pos (by omega), if_pos (by omega), Int.toNat_natCast]
      have h1 := hin _ (gi_mem (xs := l) (a := i) (by omega))
      rw [List.set_append_left _ _ hv, List.set_append_left _ _ (by simp; omega)]
  · rw [if_neg h1, if_neg h1]

def shM (N : Int) (x : Int) : Int := if x < 0 then -1 else x + N
theorem gi_map_sh {N : Int} {ms : List Int} {j : Nat} (h : j < ms.length) : gi (ms.map (shM N)) j = shM N (gi ms j) := by
  simp [gi, List.getD_eq_getElem?_getD, h]
theorem gi_map_add {N : Int} {ms : List Int} {j : Nat} (h : j < ms.length) : gi (ms.map (· + N)) j = gi ms j + N := by
  simp [gi, List.getD_eq_getElem?_getD, h]
theorem sh_neg {N x : Int} (hN : 0 ≤ N) : shM N x < 0 ↔ x < 0 := by
  unfold shM
  split <;> omega
theorem scan_right {N : Nat} {hd ms xs : List Int} (hl : hd.length = N) (hin : ∀ x ∈ xs, 0 ≤ x ∧ x < ms.length) : ∀ d k, k + d ≤ xs.length → scanM (hd ++ ms.map (shM N)) (xs.map (· + (N : Int))) d k = scanM ms xs d k
  | 0, k, _ => rfl
  | d + 1, k, h => by
    have h1 := hin _ (gi_mem (xs := xs) (a := k) (by omega))
    have e : gi (hd ++ ms.map (shM N)) (gi xs k + (N : Int)).toNat = shM N (gi ms (gi xs k).toNat) := by
      rw [gi_app, if_neg (by omega), ← gi_map_sh (by omega)]
      congr 1
      omega
    rw [scanM, scanM, gi_map_add (by omega), e, scan_right hl hin d (k + 1) (by omega)]
    by_cases q : gi ms (gi xs k).toNat < 0
    · rw [if_pos ((sh_neg (by omega)).2 q), if_pos q]
    · rw [if_neg fun z => q ((sh_neg (by omega)).1 z), if_neg q]
theorem step_right {N : Nat} {hd ms l : List Int} {u : Nat} (hl : hd.length = N) (hin : ∀ x ∈ l, 0 ≤ x ∧ x < ms.length) (hu : u < ms.length) :
    stepF (l.map (· + (N : Int))) (N + u) (hd ++ ms.map (shM N)) = hd ++ (stepF l u ms).map (shM N) := by
  have e0 : gi (hd ++ ms.map (shM N)) (N + u) = shM N (gi ms u) := by
    rw [gi_app, if_neg (by omega), ← gi_map_sh hu]
    congr 1
    omega
  unfold stepF
  rw [e0, List.length_map, scan_right hl hin _ _ (by omega)]
  by_cases h1 : gi ms u < 0
  · rw [if_pos h1, if_pos ((sh_neg (by omega)).2 h1)]
    rcases scan_spec ms l l.length 0 with ⟨h2, h3⟩ | ⟨i, h2, h3, h4, h5⟩
    · rw [h2, if_neg (by omega), if_neg (by omega)]
    · rw [h2, if_pos (by omega), if_pos (by omega), Int.toNat_natCast, gi_map_add (by omega)]
      have h1 := hin _ (gi_mem (xs := l) (a := i) (by omega))
      rw [List.set_append_right _ _ (by omega), List.set_append_right _ _ (by omega), hl]
      congr 1
      rw [List.map_set, List.map_set, show N + u - N = u from by omega, show (gi l i + (N : Int)).toNat - N = (gi l i).toNat from by omega]
      congr 1
      · congr 1
        unfold shM
        rw [if_neg (by omega)]
      · unfold shM
        rw [if_neg (by omega)]
        push_cast
        omega
  · rw [if_neg h1, if_neg fun z => h1 ((sh_neg (by omega)).1 z)]

theorem first_left {N M : Nat} {es fs : List Ed} (h : Rise N es) (k : Rise M fs) : ∀ v, v ≤ N → firstTo (N + M) (besE N es fs) v = firstTo N es v ++ List.replicate M (-1)
  | 0, _ => by simp [firstTo]
  | v + 1, hv => by
    rw [firstTo, firstTo, first_left h k v (by omega), near_left h k (by omega)]
    exact step_left (fun x hx => by rw [firstTo_length]; have := near_in h hx; omega) (by rw [firstTo_length]; omega)
theorem first_right {N M : Nat} {es fs : List Ed} (h : Rise N es) (k : Rise M fs) : ∀ u, u ≤ M → firstTo (N + M) (besE N es fs) (N + u) = firstTo N es N ++ (firstTo M fs u).map (shM N)
  | 0, _ => by
    rw [Nat.add_zero, first_left h k N (Nat.le_refl _)]
    simp [firstTo, shM]
  | u + 1, hu => by
    rw [← Nat.add_assoc, firstTo, first_right h k u (by omega), firstTo]
    push_cast
    rw [near_right h k u]
    exact step_right (firstTo_length _ _ _) (fun x hx => by rw [firstTo_length]; have := near_in k hx; omega) (by rw [firstTo_length]; omega)
theorem first_beside {N M : Nat} {es fs : List Ed} (h : rightB N es = true) (k : rightB M fs = true) (hn : N + M ≤ 4096) (hl : es.length + fs.length ≤ 65536) :
    firstL ((N : Int) + M) (besE N es fs) = firstL N es ++ (firstL M fs).map (shM N) := by
  unfold firstL
  rw [bes_right h k hn hl, h, k, if_pos rfl, if_pos rfl, if_pos rfl, show ((N : Int) + M).toNat = N + M from by omega, Int.toNat_natCast, Int.toNat_natCast]
  exact first_right (rightB_iff.1 h).2.2.2 (rightB_iff.1 k).2.2.2 M (Nat.le_refl _)

end Go.Proofs.Ytnldfjoadmehcaa
