/- Sets of vertices as numbers' bits, plainly; how many of a set are covered. -/
import Derived.Test.YtnldfjoadmehcaaMatesLaw
import Derived.Test.YtnldfjoadmehcaaFull
import Derived.Laws.BitsLemmas
set_option linter.unusedVariables false
set_option linter.unusedSimpArgs false
namespace Go.Proofs.Ytnldfjoadmehcaa
open Go.RowKit

theorem wraps_i64' (n : Int) (h₀ : 0 ≤ n) (h₁ : n < 2 ^ 62) : IntKind.i64.wrap n = n := by rw [IntKind.wrap_i64]; omega
theorem and_nat (a b : Nat) (ha : a < 4096) (hb : b < 4096) : bits .and .i64 (a : Int) (b : Int) = ((a &&& b : Nat) : Int) :=
  (bits_nat .i64 62 (by decide) wraps_i64' a b (by omega) (by omega)).1
theorem or_nat (a b : Nat) (ha : a < 4096) (hb : b < 4096) : bits .or .i64 (a : Int) (b : Int) = ((a ||| b : Nat) : Int) :=
  (bits_nat .i64 62 (by decide) wraps_i64' a b (by omega) (by omega)).2
/-- a without the bits of b. -/
def lessN (a b : Nat) : Nat := a &&& (2 ^ 64 - (b + 1))
theorem lessN_bit (a b i : Nat) (hb : b < 4096) : (lessN a b).testBit i = (a.testBit i && (decide (i < 64) && !b.testBit i)) := by
  unfold lessN
  rw [Nat.testBit_and, Nat.testBit_two_pow_sub_succ (by omega)]
theorem lessN_le (a b : Nat) : lessN a b ≤ a := Nat.and_le_left
theorem andNot_nat (a b : Nat) (ha : a < 4096) (hb : b < 4096) : bits .andNot .i64 (a : Int) (b : Int) = ((lessN a b : Nat) : Int) := by
  show IntKind.i64.wrap ((BitVec.ofInt 64 (a : Int) &&& ~~~BitVec.ofInt 64 (b : Int)).toNat : Int) = _
  rw [BitVec.toNat_and, BitVec.toNat_not, BitVec.ofInt_natCast, BitVec.ofInt_natCast, BitVec.toNat_ofNat, BitVec.toNat_ofNat, Nat.mod_eq_of_lt (by omega), Nat.mod_eq_of_lt (by omega)]
  have e : 2 ^ 64 - 1 - b = 2 ^ 64 - (b + 1) := by omega
  rw [e]
  have := lessN_le a b
  exact wraps_i64' _ (by omega) (by unfold lessN at this; omega)

theorem bit_div (s v : Nat) : s.testBit v = decide (s / 2 ^ v % 2 = 1) := Nat.testBit_eq_decide_div_mod_eq
theorem bit_lt {s N i : Nat} (h : s < 2 ^ N) (hb : s.testBit i = true) : i < N := by
  rcases Nat.lt_or_ge i N with q | q
  · exact q
  · have : s < 2 ^ i := Nat.lt_of_lt_of_le h (Nat.pow_le_pow_right (by decide) q)
    rw [Nat.testBit_lt_two_pow this] at hb
    cases hb
theorem has_bit {s N : Nat} (h0 : 0 < s) (h : s < 2 ^ N) : ∃ b, b < N ∧ s.testBit b = true := by
  obtain ⟨b, hb⟩ := Nat.exists_testBit_of_ne_zero (show s ≠ 0 by omega)
  exact ⟨b, bit_lt h hb, hb⟩
/-- Without its lowest bit. -/
def dropN (s : Nat) : Nat := s &&& (s - 1)
theorem dropN_bit (s i : Nat) : (dropN s).testBit i = (s.testBit i && (s - 1).testBit i) := by
  unfold dropN
  rw [Nat.testBit_and]
theorem dropN_low {s v : Nat} (hv : s.testBit v = true) (hl : ∀ u, u < v → s.testBit u = false) : (dropN s).testBit v = false := by
  have h0 : s % 2 ^ v = 0 := by
    refine Nat.eq_of_testBit_eq fun i => ?_
    rw [Nat.testBit_mod_two_pow, Nat.zero_testBit]
    by_cases q : i < v
    · rw [hl i q]
      simp
    · simp [q]
  have h1 : s / 2 ^ v % 2 = 1 := by
    rw [bit_div] at hv
    exact of_decide_eq_true hv
  rw [dropN_bit, bit_div (s - 1)]
  have hp : 0 < 2 ^ v := Nat.two_pow_pos v
  have hs : s = 2 ^ v * (s / 2 ^ v) := by
    have := Nat.div_add_mod s (2 ^ v)
    omega
  have h2 : (s - 1) / 2 ^ v = s / 2 ^ v - 1 := by
    generalize s / 2 ^ v = q at *
    have hq : 0 < q := by omega
    rw [hs]
    obtain ⟨r, rfl⟩ : ∃ r, q = r + 1 := ⟨q - 1, by omega⟩
    rw [show 2 ^ v * (r + 1) - 1 = 2 ^ v * r + (2 ^ v - 1) from by rw [Nat.mul_add]; omega, Nat.mul_add_div hp, Nat.div_eq_of_lt (by omega)]
    omega
  rw [h2]
  have : (s / 2 ^ v - 1) % 2 ≠ 1 := by omega
  simp [this]
theorem dropN_lt {s : Nat} (h : 0 < s) : dropN s < s := by
  have : dropN s ≤ s - 1 := Nat.and_le_right
  omega

/-- How many of a set, below k, are covered. -/
def cntB (cov : Nat → Bool) (s : Nat) : Nat → Nat
  | 0 => 0
  | v + 1 => cntB cov s v + if s.testBit v && cov v then 1 else 0
theorem cntB_mono {cov : Nat → Bool} {a b : Nat} (h : ∀ i, a.testBit i = true → b.testBit i = true) : ∀ k, cntB cov a k ≤ cntB cov b k
  | 0 => Nat.le_refl _
  | k + 1 => by
    have := cntB_mono (cov := cov) h k
    rw [cntB, cntB]
    by_cases q : (a.testBit k && cov k) = true
    · rw [Bool.and_eq_true] at q
      rw [if_pos (by rw [q.1, q.2]; rfl), if_pos (by rw [h k q.1, q.2]; rfl)]
      omega
    · rw [if_neg q]
      omega
theorem cntB_more {cov : Nat → Bool} {a b u : Nat} (h : ∀ i, a.testBit i = true → b.testBit i = true) (h1 : b.testBit u = true) (h2 : a.testBit u = false) (h3 : cov u = true) : ∀ {k}, u < k → cntB cov a k + 1 ≤ cntB cov b k
  | 0, hk => absurd hk (by omega)
  | k + 1, hk => by
    rw [cntB, cntB]
    by_cases e : u = k
    · subst e
      have := cntB_mono (cov := cov) h u
      rw [h2, h1, h3]
      simp
      omega
    · have := cntB_more (cov := cov) h h1 h2 h3 (k := k) (by omega)
      by_cases q : (a.testBit k && cov k) = true
      · rw [Bool.and_eq_true] at q
        rw [if_pos (by rw [q.1, q.2]; rfl), if_pos (by rw [h k q.1, q.2]; rfl)]
        omega
      · rw [if_neg q]
        omega
theorem cntB_sel (cov : Nat → Bool) (s : Nat) : ∀ k, cntB cov s k ≤ (sel cov k).length
  | 0 => Nat.le_refl _
  | k + 1 => by
    have := cntB_sel cov s k
    rw [cntB, sel]
    cases h : cov k
    · simp
      exact this
    · simp
      split <;> omega

/-- What Table holds of a set: no more than so many of it are covered. -/
def TabOk (cov : Nat → Bool) (N : Nat) (T : List Int) (s : Nat) : Prop := ∀ i, i < s → 0 ≤ gi T i ∧ gi T i ≤ cntB cov i N
/-- Masks of neighbours. -/
def MaskOk (es : List Ed) (N : Nat) (ns : List Int) : Prop := ns.length = N ∧ ∀ a, a < N → ∃ m : Nat, gi ns a = m ∧ m < 2 ^ N ∧ ∀ b, m.testBit b = true → (((a : Int), (b : Int)) ∈ es ∨ ((b : Int), (a : Int)) ∈ es)
theorem mask_put {es : List Ed} {N a b m : Nat} {ns : List Int} (h : MaskOk es N ns) (ha : a < N) (hb : b < N) (hm : gi ns a = m) (he : ((a : Int), (b : Int)) ∈ es ∨ ((b : Int), (a : Int)) ∈ es) : MaskOk es N (ns.set a ((m ||| 2 ^ b : Nat) : Int)) := by
  refine ⟨by rw [List.length_set]; exact h.1, fun c hc => ?_⟩
  rw [gi_set]
  have hl := h.1
  by_cases e : c = a
  · subst e
    rw [if_pos ⟨rfl, by omega⟩]
    obtain ⟨m', h1, h2, h3⟩ := h.2 c hc
    have : m' = m := by omega
    subst this
    refine ⟨_, rfl, Nat.or_lt_two_pow h2 (Nat.pow_lt_pow_right (by decide) hb), fun i hi => ?_⟩
    rw [Nat.testBit_or, Bool.or_eq_true] at hi
    rcases hi with hi | hi
    · exact h3 i hi
    · rw [Nat.testBit_two_pow] at hi
      have : b = i := of_decide_eq_true hi
      subst this
      exact he
  · rw [if_neg (by omega)]
    exact h.2 c hc
theorem mask_zero (es : List Ed) (N : Nat) : MaskOk es N (List.replicate N 0) := ⟨by simp, fun a ha => ⟨0, by rw [gi_rep _ _ _ ha]; rfl, Nat.two_pow_pos N, fun b hb => by simp at hb⟩⟩

/-- One covers an edge: a set with both ends of it holds one covered more. -/
theorem tab_step {cov : Nat → Bool} {N s v w : Nat} (hv : s.testBit v = true) (hl : ∀ u, u < v → s.testBit u = false) (hw : (dropN s).testBit w = true) (hs : s < 2 ^ N) (hN : N ≤ 12) (hc : cov v = true ∨ cov w = true) :
    cntB cov (lessN (dropN s) (2 ^ w)) N + 1 ≤ cntB cov s N := by
  have hvN := bit_lt hs hv
  have hws : s.testBit w = true := by
    rw [dropN_bit, Bool.and_eq_true] at hw
    exact hw.1
  have hwN := bit_lt hs hws
  have hpw : 2 ^ w < 4096 := by
    have : 2 ^ w ≤ 2 ^ 11 := Nat.pow_le_pow_right (by decide) (by omega)
    omega
  have hsub : ∀ i, (lessN (dropN s) (2 ^ w)).testBit i = true → s.testBit i = true := fun i hi => by
    rw [lessN_bit _ _ _ hpw, Bool.and_eq_true, dropN_bit, Bool.and_eq_true] at hi
    exact hi.1.1
  rcases hc with hc | hc
  · refine cntB_more hsub hv ?_ hc hvN
    rw [lessN_bit _ _ _ hpw, dropN_low hv hl]
    rfl
  · refine cntB_more hsub hws ?_ hc hwN
    rw [lessN_bit _ _ _ hpw, Nat.testBit_two_pow_self]
    simp
theorem tab_drop {cov : Nat → Bool} {N s : Nat} : cntB cov (dropN s) N ≤ cntB cov s N := cntB_mono (fun i hi => by
  rw [dropN_bit, Bool.and_eq_true] at hi
  exact hi.1) N

/-- A matching to which nothing can be added covers every edge. -/
theorem scanE_none {ms : List Int} {es : List Ed} : ∀ {d k : Nat}, (∀ j, k ≤ j → j < k + d → bothB ms (ge es j) = false) → scanE ms es d k = -1
  | 0, k, _ => rfl
  | d + 1, k, h => by
    rw [scanE, h k (by omega) (by omega), if_neg (by simp)]
    exact scanE_none fun j h1 h2 => h j (by omega) (by omega)
theorem first_all {N : Nat} {es : List Ed} (hr : rightB N es = true) : MatchN N es (firstL N es) ∧ fullB N es (firstL N es) = true ∧ (∀ x y : Nat, ((x : Int), (y : Int)) ∈ es → 0 ≤ gi (firstL N es) x ∨ 0 ≤ gi (firstL N es) y) := by
  have hR := (rightB_iff.1 hr).2.2.2
  have he : firstL N es = firstTo N es N := by
    unfold firstL
    rw [hr, if_pos rfl, Int.toNat_natCast]
  rw [he]
  have hm := firstTo_match hR N (Nat.le_refl _)
  have hf := firstTo_full hR N (Nat.le_refl _)
  have hc : ∀ x y : Nat, ((x : Int), (y : Int)) ∈ es → 0 ≤ gi (firstTo N es N) x ∨ 0 ≤ gi (firstTo N es N) y := fun x y hxy => by
    obtain ⟨-, h1, h2⟩ := edge_has hr hxy
    by_cases q : 0 ≤ gi (firstTo N es N) x
    · exact .inl q
    · have := hf x (by omega) (by omega) (y : Int) (mem_nearV.2 (.inr hxy))
      rw [Int.toNat_natCast] at this
      exact .inr this
  refine ⟨hm, ?_, hc⟩
  unfold fullB
  rw [rightM_iff.2 ⟨hr, hm⟩, scanE_none]
  · rfl
  · intro j h1 h2
    have hmem : ge es j ∈ es := by rw [ge_get (by omega)]; exact List.getElem_mem _
    obtain ⟨x, y, e, h3, h4⟩ := edge_nat (hR.1 _ hmem)
    rw [e] at hmem ⊢
    unfold bothB
    simp only [Int.toNat_natCast]
    rcases hc x y hmem with q | q
    · rw [decide_eq_false (by omega)]
      rfl
    · rw [decide_eq_false (p := gi (firstTo N es N) y < 0) (by omega), Bool.and_false]

end Go.Proofs.Ytnldfjoadmehcaa
