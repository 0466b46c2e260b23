/- Plain facts on words of 64 bits, each the sum of the bits of a set of numbers; no Go here. -/
import Derived.Laws.Bits64
import Derived.Laws.BitsLemmas
set_option linter.unusedVariables false
set_option linter.unusedSimpArgs false
namespace Go.Proofs.YtnldfjoadmehcaaDoor
namespace Bs

/-- The number whose bits below n are f's. -/
def bsum (f : Nat → Bool) : Nat → Nat
  | 0 => 0
  | n + 1 => bsum f n + (if f n then 2 ^ n else 0)

theorem bsum_lt (f : Nat → Bool) : ∀ n, bsum f n < 2 ^ n
  | 0 => by simp [bsum]
  | n + 1 => by
    have := bsum_lt f n
    simp only [bsum, Nat.pow_succ]
    split <;> omega

theorem bsum_testBit (f : Nat → Bool) : ∀ n i, (bsum f n).testBit i = (decide (i < n) && f i)
  | 0, i => by simp [bsum]
  | n + 1, i => by
    have hlt := bsum_lt f n
    have ih := bsum_testBit f n i
    simp only [bsum]
    by_cases hf : f n = true
    · rw [if_pos hf, Nat.add_comm]
      by_cases hi : i = n
      · subst hi
        rw [Nat.testBit_two_pow_add_eq, ih]
        simp [hf]
      · rcases Nat.lt_or_gt_of_ne hi with h | h
        · rw [Nat.testBit_two_pow_add_gt h, ih]
          have : i < n + 1 := by omega
          simp [h, this]
        · have h2 : 2 ^ n + bsum f n < 2 ^ i := by
            have : 2 ^ (n + 1) ≤ 2 ^ i := Nat.pow_le_pow_right (by decide) h
            rw [Nat.pow_succ] at this
            omega
          rw [Nat.testBit_lt_two_pow h2]
          have h3 : ¬ i < n + 1 := by omega
          simp [h3]
    · rw [if_neg hf, Nat.add_zero, ih]
      by_cases hi : i = n
      · subst hi
        simp [hf]
      · have : (i < n) = (i < n + 1) := by
          apply propext
          omega
        simp [this]

theorem bsum_congr {f g : Nat → Bool} : ∀ n, (∀ i, i < n → f i = g i) → bsum f n = bsum g n
  | 0, _ => rfl
  | n + 1, h => by
    simp only [bsum]
    rw [bsum_congr n (fun i hi => h i (by omega)), h n (by omega)]

/-- Word j of a set of numbers. -/
def wd (f : Nat → Bool) (j : Nat) : Nat := bsum (fun i => f (64 * j + i)) 64

theorem wd_lt (f : Nat → Bool) (j : Nat) : wd f j < 18446744073709551616 := bsum_lt _ 64
theorem wd_bit (f : Nat → Bool) (j i : Nat) : (wd f j).testBit i = (decide (i < 64) && f (64 * j + i)) := bsum_testBit _ 64 i

theorem wd_congr {f g : Nat → Bool} (j : Nat) (h : ∀ i, i < 64 → f (64 * j + i) = g (64 * j + i)) : wd f j = wd g j := bsum_congr 64 h

/-- A set with k put in, with k dropped. -/
def ins (f : Nat → Bool) (k : Nat) : Nat → Bool := fun i => if i = k then true else f i
def del (f : Nat → Bool) (k : Nat) : Nat → Bool := fun i => if i = k then false else f i

theorem wraps_u64 (n : Int) (h₀ : 0 ≤ n) (h₁ : n < 2 ^ 64) : IntKind.u64.wrap n = n := by rw [IntKind.wrap_u64]; omega

theorem has_bit (f : Nat → Bool) (j n : Nat) (hn : n < 64) : (bits .and .u64 ((wd f j : Int) / 2 ^ n) 1 == 1) = f (64 * j + n) := by
  have e : ((wd f j : Int) / 2 ^ n) = ((wd f j / 2 ^ n : Nat) : Int) := by simp
  have h1 : wd f j / 2 ^ n < 2 ^ 64 := Nat.lt_of_le_of_lt (Nat.div_le_self _ _) (wd_lt f j)
  have := (bits_nat .u64 64 (by decide) wraps_u64 (wd f j / 2 ^ n) 1 h1 (by decide)).1
  rw [e]
  have e1 : ((1 : Nat) : Int) = 1 := rfl
  rw [e1] at this
  rw [this]
  have hb : (wd f j).testBit n = f (64 * j + n) := by simp [wd_bit, hn]
  rw [← hb, Nat.testBit_eq_decide_div_mod_eq, Nat.and_one_is_mod]
  rw [Bool.eq_iff_iff]
  simp
  omega

theorem or_bit (f : Nat → Bool) (j n : Nat) (hn : n < 64) : bits .or .u64 (wd f j : Int) ((2 ^ n : Nat) : Int) = (wd (ins f (64 * j + n)) j : Int) := by
  have h2 : 2 ^ n < 2 ^ 64 := Nat.pow_lt_pow_right (by decide) hn
  rw [(bits_nat .u64 64 (by decide) wraps_u64 (wd f j) (2 ^ n) (wd_lt f j) h2).2]
  congr 1
  apply Nat.eq_of_testBit_eq
  intro i
  rw [Nat.testBit_or, wd_bit, wd_bit, Nat.testBit_two_pow]
  by_cases hi : i = n
  · subst hi
    simp [hn, ins]
  · have : n ≠ i := fun h => hi h.symm
    simp [ins, hi, this]

theorem wd_ins_ne (f : Nat → Bool) (j k : Nat) (h : k / 64 ≠ j) : wd (ins f k) j = wd f j :=
  wd_congr j fun i hi => by
    unfold ins
    rw [if_neg]
    omega
theorem wd_del_ne (f : Nat → Bool) (j k : Nat) (h : k / 64 ≠ j) : wd (del f k) j = wd f j :=
  wd_congr j fun i hi => by
    unfold del
    rw [if_neg]
    omega

theorem andNot_bit (f : Nat → Bool) (j n : Nat) (hn : n < 64) : bits .andNot .u64 (wd f j : Int) ((2 ^ n : Nat) : Int) = (wd (del f (64 * j + n)) j : Int) := by
  have h2 : 2 ^ n < 2 ^ 64 := Nat.pow_lt_pow_right (by decide) hn
  have hl := wd_lt f j
  have ha : wd f j % 2 ^ 64 = wd f j := Nat.mod_eq_of_lt hl
  have hb : 2 ^ n % 2 ^ 64 = 2 ^ n := Nat.mod_eq_of_lt h2
  have key : (BitVec.ofNat 64 (wd f j) &&& ~~~ BitVec.ofNat 64 (2 ^ n)).toNat = wd (del f (64 * j + n)) j := by
    apply Nat.eq_of_testBit_eq
    intro i
    rw [BitVec.toNat_and, Nat.testBit_and, BitVec.toNat_ofNat, ha, wd_bit, wd_bit, BitVec.testBit_toNat, BitVec.getLsbD_not, BitVec.getLsbD_ofNat, Nat.testBit_two_pow]
    by_cases hi : i < 64
    · by_cases hin : i = n
      · subst hin
        simp [hn, del]
      · have : n ≠ i := fun h => hin h.symm
        simp [del, hi, hin, this]
    · simp [hi]
  have : bits .andNot .u64 (wd f j : Int) ((2 ^ n : Nat) : Int) = IntKind.u64.wrap (((BitVec.ofNat 64 (wd f j) &&& ~~~ BitVec.ofNat 64 (2 ^ n)).toNat : Nat) : Int) := by
    simp only [bits, BitVec.ofInt_natCast]
    rfl
  rw [this, key, IntKind.wrap_u64]
  have := wd_lt (del f (64 * j + n)) j
  omega

theorem pow_wrap (n : Nat) (hn : n < 64) : IntKind.u64.wrap (2 ^ n) = ((2 ^ n : Nat) : Int) := by
  have h2 : (2 : Nat) ^ n < 2 ^ 64 := Nat.pow_lt_pow_right (by decide) hn
  have e1 : (2 : Int) ^ n = ((2 ^ n : Nat) : Int) := by simp
  rw [e1, IntKind.wrap_u64]
  generalize (2 : Nat) ^ n = p at *
  omega

end Bs
end Go.Proofs.YtnldfjoadmehcaaDoor
