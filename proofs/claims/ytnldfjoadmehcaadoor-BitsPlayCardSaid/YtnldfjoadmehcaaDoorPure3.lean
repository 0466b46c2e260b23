/- Plain facts on the least number of a set, from one on; no Go here. -/
import Derived.Test.YtnldfjoadmehcaaDoorPure2
import Derived.Lib.TrailingZeros
set_option linter.unusedVariables false
set_option linter.unusedSimpArgs false
namespace Go.Proofs.YtnldfjoadmehcaaDoor
namespace Bs

/-- The first of d numbers from k on that is in; -1: none is. -/
def scan (f : Nat → Bool) : Nat → Nat → Int
  | 0, _ => -1
  | d + 1, k => if f k then (k : Int) else scan f d (k + 1)

theorem scan_none (f : Nat → Bool) : ∀ d k, (∀ i, k ≤ i → i < k + d → f i = false) → scan f d k = -1
  | 0, _, _ => rfl
  | d + 1, k, h => by
    rw [scan, h k (by omega) (by omega), if_neg (by simp)]
    exact scan_none f d (k + 1) fun i h1 h2 => h i (by omega) (by omega)

theorem scan_skip (f : Nat → Bool) (room : Nat) : ∀ n k, (∀ i, k ≤ i → i < k + n → f i = false) → scan f (room - k) k = scan f (room - (k + n)) (k + n)
  | 0, _, _ => rfl
  | n + 1, k, h => by
    have e : k + (n + 1) = (k + 1) + n := by omega
    rw [e, ← scan_skip f room n (k + 1) fun i h1 h2 => h i (by omega) (by omega)]
    by_cases hr : k < room
    · obtain ⟨d, hd⟩ : ∃ d, room - k = d + 1 := ⟨room - k - 1, by omega⟩
      rw [hd, scan, h k (by omega) (by omega), if_neg (by simp), show room - (k + 1) = d from by omega]
    · rw [show room - k = 0 from by omega, show room - (k + 1) = 0 from by omega]
      rfl

theorem scan_hit (f : Nat → Bool) (room k : Nat) (h : k < room) (hf : f k = true) : scan f (room - k) k = k := by
  obtain ⟨d, hd⟩ : ∃ d, room - k = d + 1 := ⟨room - k - 1, by omega⟩
  rw [hd, scan, if_pos hf]

/-- What is left of a word behind a shift. -/
def rest (f : Nat → Bool) (k : Nat) : Nat := wd f (k / 64) / 2 ^ (k % 64)

theorem rest_lt (f : Nat → Bool) (k : Nat) : rest f k < 18446744073709551616 := Nat.lt_of_le_of_lt (Nat.div_le_self _ _) (wd_lt f _)

theorem rest_bit (f : Nat → Bool) (k i : Nat) : (rest f k).testBit i = (decide (k % 64 + i < 64) && f (k + i)) := by
  unfold rest
  rw [← Nat.shiftRight_eq_div_pow, Nat.testBit_shiftRight, wd_bit]
  rw [show 64 * (k / 64) + (k % 64 + i) = k + i from by omega]

theorem rest_zero (f : Nat → Bool) (k : Nat) (h : rest f k = 0) : ∀ i, k ≤ i → i < k + (64 - k % 64) → f i = false := by
  intro i h1 h2
  obtain ⟨d, rfl⟩ : ∃ d, i = k + d := ⟨i - k, by omega⟩
  have := rest_bit f k d
  rw [h, Nat.zero_testBit] at this
  have hd : k % 64 + d < 64 := by omega
  simpa [hd] using this.symm

theorem pow_odd_bits (c m : Nat) : (2 ^ c * (2 * m + 1)).testBit c = true ∧ ∀ i, i < c → (2 ^ c * (2 * m + 1)).testBit i = false := by
  rw [Nat.mul_comm]
  constructor
  · rw [Nat.testBit_mul_two_pow]
    simp [Nat.testBit_zero]
  · intro i hi
    rw [Nat.testBit_mul_two_pow]
    simp
    omega

theorem rest_low (f : Nat → Bool) (k : Nat) (h : rest f k ≠ 0) :
    f (k + Lib.ctz 64 (rest f k)) = true ∧ Lib.ctz 64 (rest f k) < 64 - k % 64 ∧ ∀ i, k ≤ i → i < k + Lib.ctz 64 (rest f k) → f i = false := by
  have hlt := rest_lt f k
  obtain ⟨m, hm, hc⟩ := Lib.ctzFrom_spec 64 (rest f k) (by omega) hlt
  have e : Lib.ctz 64 (rest f k) = Lib.ctzFrom 64 (rest f k) := by simp [Lib.ctz, h]
  rw [e]
  obtain ⟨hb, hl⟩ := pow_odd_bits (Lib.ctzFrom 64 (rest f k)) m
  rw [← hm] at hb hl
  generalize Lib.ctzFrom 64 (rest f k) = c at *
  rw [rest_bit] at hb
  simp only [Bool.and_eq_true, decide_eq_true_eq] at hb
  refine ⟨hb.2, by omega, fun i h1 h2 => ?_⟩
  obtain ⟨d, rfl⟩ : ∃ d, i = k + d := ⟨i - k, by omega⟩
  have := hl d (by omega)
  rw [rest_bit] at this
  have hd : k % 64 + d < 64 := by omega
  simpa [hd] using this

/-- The least number in, from one on; -1: there is none. -/
def least (f : Nat → Bool) (room : Nat) (k : Int) : Int := scan f (room - k.toNat) k.toNat

theorem least_zero (f : Nat → Bool) (room : Nat) (k k' : Int) (h0 : 0 ≤ k) (h : rest f k.toNat = 0) (hk : k' = (k / 64 + 1) * 64) : least f room k = least f room k' := by
  unfold least
  rw [scan_skip f room (64 - k.toNat % 64) k.toNat (rest_zero f _ h), show k'.toNat = k.toNat + (64 - k.toNat % 64) from by omega]

theorem least_hit (f : Nat → Bool) (room : Nat) (hout : ∀ k, room ≤ k → f k = false) (k : Int) (h0 : 0 ≤ k) (h : rest f k.toNat ≠ 0) : least f room k = k + (Lib.ctz 64 (rest f k.toNat) : Nat) := by
  obtain ⟨h1, h2, h3⟩ := rest_low f k.toNat h
  unfold least
  rw [scan_skip f room (Lib.ctz 64 (rest f k.toNat)) k.toNat h3]
  have hr : k.toNat + Lib.ctz 64 (rest f k.toNat) < room := by
    apply Nat.lt_of_not_le
    intro hle
    rw [hout _ hle] at h1
    cases h1
  rw [scan_hit f room _ hr h1]
  omega

theorem least_end (f : Nat → Bool) (room : Nat) (k : Int) (h : (room : Int) ≤ k) : least f room k = -1 := by
  unfold least
  rw [show room - k.toNat = 0 from by omega]
  rfl

end Bs
end Go.Proofs.YtnldfjoadmehcaaDoor
