/- Plain facts on counting the bits of a word by halves; no Go here. -/
import Derived.Test.YtnldfjoadmehcaaDoorPure1
import Derived.Laws.Bits64b
import Derived.RowKit
set_option linter.unusedVariables false
set_option linter.unusedSimpArgs false
namespace Go.Proofs.YtnldfjoadmehcaaDoor
namespace Bs

/-- The number with these digits, the lowest first. -/
def dsum (B : Nat) : (Nat → Nat) → Nat → Nat
  | _, 0 => 0
  | d, n + 1 => d 0 + B * dsum B (fun j => d (j + 1)) n

theorem dsum_add (B : Nat) : ∀ (n : Nat) (d e : Nat → Nat), dsum B d n + dsum B e n = dsum B (fun j => d j + e j) n
  | 0, _, _ => rfl
  | n + 1, d, e => by
    simp only [dsum]
    rw [← dsum_add B n, Nat.mul_add]
    omega

theorem dsum_tail (B : Nat) : ∀ (n : Nat) (d : Nat → Nat), d n = 0 → dsum B d (n + 1) = dsum B d n
  | 0, d, h => by simp [dsum, h]
  | n + 1, d, h => by
    rw [dsum, dsum_tail B n (fun j => d (j + 1)) h]
    rfl

theorem dsum_div (B n : Nat) (d : Nat → Nat) (h0 : d 0 < B) (hn : d (n + 1) = 0) : dsum B d (n + 1) / B = dsum B (fun j => d (j + 1)) (n + 1) := by
  rw [dsum_tail B n (fun j => d (j + 1)) hn]
  rw [dsum, Nat.add_comm, Nat.mul_add_div (by omega), Nat.div_eq_of_lt h0]
  rfl

theorem dsum_div2 (B n : Nat) (d : Nat → Nat) (h0 : ∀ j, d j < B) (h1 : d (n + 2) = 0) (h2 : d (n + 3) = 0) : dsum B d (n + 2) / (B * B) = dsum B (fun j => d (j + 2)) (n + 2) := by
  rw [← Nat.div_div_eq_div_mul, dsum_div B (n + 1) d (h0 0) h1, dsum_div B (n + 1) (fun j => d (j + 1)) (h0 1) h2]

theorem dsum_lt (B : Nat) : ∀ (n : Nat) (d : Nat → Nat), (∀ j, d j < B) → dsum B d n < B ^ n
  | 0, _, _ => by simp [dsum]
  | n + 1, d, h => by
    have ih := dsum_lt B n (fun j => d (j + 1)) (fun j => h (j + 1))
    have h0 := h 0
    rw [dsum, Nat.pow_succ, Nat.mul_comm (B ^ n)]
    have : B * dsum B (fun j => d (j + 1)) n + B ≤ B * B ^ n := by
      rw [← Nat.mul_succ]
      exact Nat.mul_le_mul_left _ ih
    omega

theorem and_split (k a x m y : Nat) (ha : a < 2 ^ k) (hm : m < 2 ^ k) : (a + 2 ^ k * x) &&& (m + 2 ^ k * y) = (a &&& m) + 2 ^ k * (x &&& y) := by
  have hp : 0 < 2 ^ k := Nat.two_pow_pos k
  have e1 : ((a + 2 ^ k * x) &&& (m + 2 ^ k * y)) % 2 ^ k = a &&& m := by
    rw [Nat.and_mod_two_pow, Nat.add_mul_mod_self_left, Nat.add_mul_mod_self_left, Nat.mod_eq_of_lt ha, Nat.mod_eq_of_lt hm]
  have e2 : ((a + 2 ^ k * x) &&& (m + 2 ^ k * y)) / 2 ^ k = x &&& y := by
    rw [Nat.and_div_two_pow, Nat.add_mul_div_left _ _ hp, Nat.add_mul_div_left _ _ hp, Nat.div_eq_of_lt ha, Nat.div_eq_of_lt hm, Nat.zero_add, Nat.zero_add]
  have := Nat.mod_add_div ((a + 2 ^ k * x) &&& (m + 2 ^ k * y)) (2 ^ k)
  rw [e1, e2] at this
  exact this.symm

/-- The digits at even places, by a mask. -/
theorem mask_even (b : Nat) : ∀ (n : Nat) (d : Nat → Nat), (∀ j, d j < 2 ^ b) → dsum (2 ^ b) d (2 * n) &&& dsum (2 ^ b * 2 ^ b) (fun _ => 2 ^ b - 1) n = dsum (2 ^ b * 2 ^ b) (fun j => d (2 * j)) n
  | 0, _, _ => by simp [dsum]
  | n + 1, d, h => by
    have e : 2 * (n + 1) = 2 * n + 2 := by omega
    have hp : 0 < 2 ^ b := Nat.two_pow_pos b
    have h0 := h 0
    have h1 := h 1
    have ih := mask_even b n (fun j => d (j + 2)) (fun j => h (j + 2))
    rw [e]
    simp only [dsum]
    have e2 : d 0 + 2 ^ b * (d (0 + 1) + 2 ^ b * dsum (2 ^ b) (fun j => d (j + 1 + 1)) (2 * n)) = (d 0 + 2 ^ b * d 1) + 2 ^ (b + b) * dsum (2 ^ b) (fun j => d (j + 2)) (2 * n) := by
      rw [Nat.mul_add, Nat.pow_add, Nat.mul_assoc, Nat.add_assoc]
    rw [e2, ← Nat.pow_add, and_split]
    · rw [Nat.pow_add, ih]
      congr 1
      rw [Nat.and_two_pow_sub_one_eq_mod, Nat.add_mul_mod_self_left, Nat.mod_eq_of_lt h0]
    · rw [Nat.pow_add]
      have : 2 ^ b * d 1 + 2 ^ b ≤ 2 ^ b * 2 ^ b := by
        rw [← Nat.mul_succ]
        exact Nat.mul_le_mul_left _ h1
      omega
    · rw [Nat.pow_add]
      have := Nat.le_mul_of_pos_right (2 ^ b) hp
      omega

/-- A bit as a digit. -/
def dig (f : Nat → Bool) (i : Nat) : Nat := if f i then 1 else 0
theorem dig_le (f : Nat → Bool) (i : Nat) : dig f i ≤ 1 := by
  unfold dig
  split <;> omega

theorem bsum_shift (f : Nat → Bool) : ∀ n, bsum f (n + 1) = dig f 0 + 2 * bsum (fun i => f (i + 1)) n
  | 0 => by simp [bsum, dig]
  | n + 1 => by
    rw [bsum, bsum_shift f n, bsum]
    rw [Nat.pow_succ]
    split <;> omega

theorem bsum_dsum : ∀ (n : Nat) (f : Nat → Bool), bsum f n = dsum 2 (dig f) n
  | 0, _ => rfl
  | n + 1, f => by
    rw [bsum_shift, dsum, bsum_dsum n]
    rfl

/-- How many numbers below n are in. -/
def cnt (f : Nat → Bool) : Nat → Nat
  | 0 => 0
  | n + 1 => cnt f n + dig f n

theorem cnt_le (f : Nat → Bool) : ∀ n, cnt f n ≤ n
  | 0 => Nat.le_refl _
  | n + 1 => by
    have := cnt_le f n
    have := dig_le f n
    simp only [cnt]
    omega

theorem cnt_add (f : Nat → Bool) (m : Nat) : ∀ n, cnt f (m + n) = cnt f m + cnt (fun i => f (m + i)) n
  | 0 => rfl
  | n + 1 => by
    rw [← Nat.add_assoc, cnt, cnt_add f m n, cnt, Nat.add_assoc]
    rfl

/-- The steps of the count, a number each. -/
def pc1 (x : Nat) : Nat := (x / 2 &&& 6148914691236517205) + (x &&& 6148914691236517205)
def pc2 (x : Nat) : Nat := (x / 4 &&& 3689348814741910323) + (x &&& 3689348814741910323)
def pc3 (x : Nat) : Nat := (x / 16 + x) &&& 1085102592571150095
def pc4 (x : Nat) : Nat := x + x / 256
def pc5 (x : Nat) : Nat := x + x / 65536
def pc6 (x : Nat) : Nat := x + x / 4294967296

theorem m1 : dsum (2 ^ 1 * 2 ^ 1) (fun _ => 2 ^ 1 - 1) 32 = 6148914691236517205 := by decide +kernel
theorem m2 : dsum (2 ^ 2 * 2 ^ 2) (fun _ => 2 ^ 2 - 1) 16 = 3689348814741910323 := by decide +kernel
theorem m3 : dsum (2 ^ 4 * 2 ^ 4) (fun _ => 2 ^ 4 - 1) 8 = 1085102592571150095 := by decide +kernel

theorem pc1_is (d : Nat → Nat) (h : ∀ j, d j ≤ 1) (hz : d 64 = 0) : pc1 (dsum 2 d 64) = dsum 4 (fun j => d (2 * j + 1) + d (2 * j)) 32 := by
  have e1 := mask_even 1 32 d (fun j => by have := h j; omega)
  have e2 := mask_even 1 32 (fun j => d (j + 1)) (fun j => by have := h (j + 1); omega)
  rw [m1] at e1 e2
  unfold pc1
  rw [dsum_div 2 63 d (by have := h 0; omega) hz]
  simp only [Nat.pow_one] at e1 e2
  rw [e1, e2, dsum_add]

theorem pc2_is (d : Nat → Nat) (h : ∀ j, d j ≤ 2) (hz : d 32 = 0) : pc2 (dsum 4 d 32) = dsum 16 (fun j => d (2 * j + 1) + d (2 * j)) 16 := by
  have e1 := mask_even 2 16 d (fun j => by have := h j; omega)
  have e2 := mask_even 2 16 (fun j => d (j + 1)) (fun j => by have := h (j + 1); omega)
  rw [m2] at e1 e2
  unfold pc2
  rw [dsum_div 4 31 d (by have := h 0; omega) hz]
  simp only [show (2 : Nat) ^ 2 = 4 from rfl] at e1 e2
  rw [e1, e2, dsum_add]

theorem pc3_is (d : Nat → Nat) (h : ∀ j, d j ≤ 4) (hz : d 16 = 0) : pc3 (dsum 16 d 16) = dsum 256 (fun j => d (2 * j + 1) + d (2 * j)) 8 := by
  have e1 := mask_even 4 8 (fun j => d (j + 1) + d j) (fun j => by have := h (j + 1); have := h j; omega)
  rw [m3] at e1
  unfold pc3
  rw [dsum_div 16 15 d (by have := h 0; omega) hz, dsum_add]
  exact e1

theorem pc4_is (d : Nat → Nat) (h : ∀ j, d j ≤ 8) (hz : d 8 = 0) : pc4 (dsum 256 d 8) = dsum 256 (fun j => d j + d (j + 1)) 8 := by
  unfold pc4
  rw [dsum_div 256 7 d (by have := h 0; omega) hz, dsum_add]

theorem pc5_is (d : Nat → Nat) (h : ∀ j, d j ≤ 16) (hz : ∀ j, 8 ≤ j → d j = 0) : pc5 (dsum 256 d 8) = dsum 256 (fun j => d j + d (j + 2)) 8 := by
  unfold pc5
  rw [show (65536 : Nat) = 256 * 256 from rfl, dsum_div2 256 6 d (fun j => by have := h j; omega) (hz 8 (by omega)) (hz 9 (by omega)), dsum_add]

theorem pc6_is (d : Nat → Nat) (h : ∀ j, d j ≤ 32) (hz : ∀ j, 8 ≤ j → d j = 0) : pc6 (dsum 256 d 8) = dsum 256 (fun j => d j + d (j + 4)) 8 := by
  unfold pc6
  rw [show (4294967296 : Nat) = (256 * 256) * (256 * 256) from rfl, ← Nat.div_div_eq_div_mul,
    dsum_div2 256 6 d (fun j => by have := h j; omega) (hz 8 (by omega)) (hz 9 (by omega)),
    dsum_div2 256 6 (fun j => d (j + 2)) (fun j => by have := h (j + 2); omega) (hz 10 (by omega)) (hz 11 (by omega)), dsum_add]

/-- The count of a word's bits. -/
def pcount (x : Nat) : Nat := pc6 (pc5 (pc4 (pc3 (pc2 (pc1 x))))) % 128

def d0 (f : Nat → Bool) (i : Nat) : Nat := if i < 64 then dig f i else 0
def d1 (f : Nat → Bool) (j : Nat) : Nat := d0 f (2 * j + 1) + d0 f (2 * j)
def d2 (f : Nat → Bool) (j : Nat) : Nat := d1 f (2 * j + 1) + d1 f (2 * j)
def d3 (f : Nat → Bool) (j : Nat) : Nat := d2 f (2 * j + 1) + d2 f (2 * j)
def d4 (f : Nat → Bool) (j : Nat) : Nat := d3 f j + d3 f (j + 1)
def d5 (f : Nat → Bool) (j : Nat) : Nat := d4 f j + d4 f (j + 2)
def d6 (f : Nat → Bool) (j : Nat) : Nat := d5 f j + d5 f (j + 4)

theorem d0_le (f : Nat → Bool) (j : Nat) : d0 f j ≤ 1 := by
  unfold d0
  have := dig_le f j
  split <;> omega
theorem d0_z (f : Nat → Bool) (j : Nat) (h : 64 ≤ j) : d0 f j = 0 := by
  unfold d0
  rw [if_neg (by omega)]
theorem d1_le (f : Nat → Bool) (j : Nat) : d1 f j ≤ 2 := by
  unfold d1
  have := d0_le f (2 * j + 1)
  have := d0_le f (2 * j)
  omega
theorem d1_z (f : Nat → Bool) (j : Nat) (h : 32 ≤ j) : d1 f j = 0 := by
  unfold d1
  rw [d0_z _ _ (by omega), d0_z _ _ (by omega)]
theorem d2_le (f : Nat → Bool) (j : Nat) : d2 f j ≤ 4 := by
  unfold d2
  have := d1_le f (2 * j + 1)
  have := d1_le f (2 * j)
  omega
theorem d2_z (f : Nat → Bool) (j : Nat) (h : 16 ≤ j) : d2 f j = 0 := by
  unfold d2
  rw [d1_z _ _ (by omega), d1_z _ _ (by omega)]
theorem d3_le (f : Nat → Bool) (j : Nat) : d3 f j ≤ 8 := by
  unfold d3
  have := d2_le f (2 * j + 1)
  have := d2_le f (2 * j)
  omega
theorem d3_z (f : Nat → Bool) (j : Nat) (h : 8 ≤ j) : d3 f j = 0 := by
  unfold d3
  rw [d2_z _ _ (by omega), d2_z _ _ (by omega)]
theorem d4_le (f : Nat → Bool) (j : Nat) : d4 f j ≤ 16 := by
  unfold d4
  have := d3_le f (j + 1)
  have := d3_le f j
  omega
theorem d4_z (f : Nat → Bool) (j : Nat) (h : 8 ≤ j) : d4 f j = 0 := by
  unfold d4
  rw [d3_z _ _ (by omega), d3_z _ _ (by omega)]
theorem d5_le (f : Nat → Bool) (j : Nat) : d5 f j ≤ 32 := by
  unfold d5
  have := d4_le f (j + 2)
  have := d4_le f j
  omega
theorem d5_z (f : Nat → Bool) (j : Nat) (h : 8 ≤ j) : d5 f j = 0 := by
  unfold d5
  rw [d4_z _ _ (by omega), d4_z _ _ (by omega)]
theorem d6_le (f : Nat → Bool) (j : Nat) : d6 f j ≤ 64 := by
  unfold d6
  have := d5_le f (j + 4)
  have := d5_le f j
  omega

theorem dsum_congr (B : Nat) : ∀ (n : Nat) (d e : Nat → Nat), (∀ j, j < n → d j = e j) → dsum B d n = dsum B e n
  | 0, _, _, _ => rfl
  | n + 1, d, e, h => by
    rw [dsum, dsum, h 0 (by omega), dsum_congr B n _ (fun j => e (j + 1)) (fun j hj => h (j + 1) (by omega))]

theorem word_d0 (f : Nat → Bool) : bsum f 64 = dsum 2 (d0 f) 64 := by
  rw [bsum_dsum]
  exact dsum_congr 2 64 _ _ fun j hj => by simp [d0, hj]

/-- Each of the steps, in its digits: bounds for the machine's own sums. -/
theorem s1 (f : Nat → Bool) : pc1 (bsum f 64) = dsum 4 (d1 f) 32 := by
  rw [word_d0]
  exact pc1_is _ (d0_le f) (d0_z f 64 (by omega))
theorem s2 (f : Nat → Bool) : pc2 (dsum 4 (d1 f) 32) = dsum 16 (d2 f) 16 := pc2_is _ (d1_le f) (d1_z f 32 (by omega))
theorem s3 (f : Nat → Bool) : pc3 (dsum 16 (d2 f) 16) = dsum 256 (d3 f) 8 := pc3_is _ (d2_le f) (d2_z f 16 (by omega))
theorem s4 (f : Nat → Bool) : pc4 (dsum 256 (d3 f) 8) = dsum 256 (d4 f) 8 := pc4_is _ (d3_le f) (d3_z f 8 (by omega))
theorem s5 (f : Nat → Bool) : pc5 (dsum 256 (d4 f) 8) = dsum 256 (d5 f) 8 := pc5_is _ (d4_le f) (d4_z f)
theorem s6 (f : Nat → Bool) : pc6 (dsum 256 (d5 f) 8) = dsum 256 (d6 f) 8 := pc6_is _ (d5_le f) (d5_z f)

set_option maxRecDepth 10000 in
theorem d6_cnt (f : Nat → Bool) : d6 f 0 = cnt f 64 := by
  simp only [d6, d5, d4, d3, d2, d1, cnt]
  simp only [d0, Nat.reduceMul, Nat.reduceAdd, Nat.reduceLT, if_true]
  omega

theorem pcount_is (f : Nat → Bool) : pcount (bsum f 64) = cnt f 64 := by
  unfold pcount
  rw [s1, s2, s3, s4, s5, s6, ← d6_cnt, dsum]
  have := d6_le f 0
  omega

theorem dsum4_lt (d : Nat → Nat) (h : ∀ j, d j < 4) : dsum 4 d 32 < 18446744073709551616 := dsum_lt 4 32 d h
theorem dsum16_lt (d : Nat → Nat) (h : ∀ j, d j < 16) : dsum 16 d 16 < 18446744073709551616 := dsum_lt 16 16 d h
theorem dsum256_lt (d : Nat → Nat) (h : ∀ j, d j < 256) : dsum 256 d 8 < 18446744073709551616 := dsum_lt 256 8 d h

theorem go1 (x y : Nat) (hx : x < 18446744073709551616) (hy : y < 18446744073709551616) (h : pc1 x = y) :
    IntKind.u64.wrap (bits BinOp.and IntKind.u64 ((x : Int) / 2) 6148914691236517205 + bits BinOp.and IntKind.u64 x 6148914691236517205) = (y : Int) := by
  have e : ((x : Int) / 2) = ((x / 2 : Nat) : Int) := by omega
  have c : (6148914691236517205 : Int) = ((6148914691236517205 : Nat) : Int) := rfl
  rw [e, c, bits_and_u64_nat _ _ (by omega) (by omega), bits_and_u64_nat _ _ hx (by omega), IntKind.wrap_u64]
  subst h
  unfold pc1 at *
  omega
theorem go2 (x y : Nat) (hx : x < 18446744073709551616) (hy : y < 18446744073709551616) (h : pc2 x = y) :
    IntKind.u64.wrap (bits BinOp.and IntKind.u64 ((x : Int) / 4) 3689348814741910323 + bits BinOp.and IntKind.u64 x 3689348814741910323) = (y : Int) := by
  have e : ((x : Int) / 4) = ((x / 4 : Nat) : Int) := by omega
  have c : (3689348814741910323 : Int) = ((3689348814741910323 : Nat) : Int) := rfl
  rw [e, c, bits_and_u64_nat _ _ (by omega) (by omega), bits_and_u64_nat _ _ hx (by omega), IntKind.wrap_u64]
  subst h
  unfold pc2 at *
  omega
theorem go3 (x y : Nat) (hx : x / 16 + x < 18446744073709551616) (h : pc3 x = y) :
    bits BinOp.and IntKind.u64 (IntKind.u64.wrap ((x : Int) / 16 + x)) 1085102592571150095 = (y : Int) := by
  have e : IntKind.u64.wrap ((x : Int) / 16 + x) = ((x / 16 + x : Nat) : Int) := by rw [IntKind.wrap_u64]; omega
  have c : (1085102592571150095 : Int) = ((1085102592571150095 : Nat) : Int) := rfl
  rw [e, c, bits_and_u64_nat _ _ hx (by omega)]
  subst h
  rfl
theorem go4 (x y : Nat) (hy : y < 18446744073709551616) (h : pc4 x = y) : IntKind.u64.wrap ((x : Int) + (x : Int) / 256) = (y : Int) := by
  rw [IntKind.wrap_u64]
  unfold pc4 at h
  omega
theorem go5 (x y : Nat) (hy : y < 18446744073709551616) (h : pc5 x = y) : IntKind.u64.wrap ((x : Int) + (x : Int) / 65536) = (y : Int) := by
  rw [IntKind.wrap_u64]
  unfold pc5 at h
  omega
theorem go6 (x y : Nat) (hy : y < 18446744073709551616) (h : pc6 x = y) : IntKind.u64.wrap ((x : Int) + (x : Int) / 4294967296) = (y : Int) := by
  rw [IntKind.wrap_u64]
  unfold pc6 at h
  omega
theorem go7 (y : Nat) (hy : y < 18446744073709551616) : bits BinOp.and IntKind.i64 (RowKit.wrap64 (y : Int)) 127 = ((y % 128 : Nat) : Int) := by
  have h1 : (BitVec.ofInt 64 (RowKit.wrap64 (y : Int))).toNat = y := by
    rw [BitVec.toNat_ofInt]
    unfold RowKit.wrap64
    omega
  have e : bits BinOp.and IntKind.i64 (RowKit.wrap64 (y : Int)) 127 = IntKind.i64.wrap (((BitVec.ofInt 64 (RowKit.wrap64 (y : Int)) &&& BitVec.ofInt 64 127).toNat : Nat) : Int) := rfl
  have h2 : (BitVec.ofInt 64 127).toNat = 2 ^ 7 - 1 := by decide
  rw [e, BitVec.toNat_and, h1, h2, Nat.and_two_pow_sub_one_eq_mod, IntKind.wrap_i64]
  omega

end Bs
end Go.Proofs.YtnldfjoadmehcaaDoor
