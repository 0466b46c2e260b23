/- The walks of math/bits.Mul64 and Mul, at 1 and a small number. -/
import Derived.Test.YtnldfjoadmehcaaTools
import Derived.Laws.BitsLemmas
set_option linter.unusedVariables false
set_option linter.unusedSimpArgs false
namespace Go.Proofs.Ytnldfjoadmehcaa
open Go.RowKit

theorem wraps_u64' (n : Int) (h₀ : 0 ≤ n) (h₁ : n < 2 ^ 64) : IntKind.u64.wrap n = n := by rw [IntKind.wrap_u64]; omega
theorem mask32 (x : Int) (h₀ : 0 ≤ x) (h₁ : x < 4294967296) : bits .and .u64 x 4294967295 = x := by
  have := bits_mask .u64 64 (by decide) wraps_u64' 32 (by decide) x h₀ (by omega)
  rw [show ((2 : Int) ^ 32 - 1) = 4294967295 from by decide] at this
  rw [this]
  omega
theorem mul64_any (N : Nat) (hN : N ≤ 4096) (w : World) : Calls Try.prog 106 #[.int .u64 1, .int .u64 N] w fun e w' => e = .returned (.tuple #[.int .u64 0, .int .u64 N]) ∧ w = w' := by
  go_enter Try.func106, Try.ntmps106
  go_wp2_with fail
  go_ret2
  have m1 := mask32 1 (by omega) (by omega)
  have m2 := mask32 N (by omega) (by omega)
  have m0 := mask32 0 (by omega) (by omega)
  have d0 : (N : Int) / 4294967296 = 0 := by omega
  have wN : IntKind.u64.wrap (N : Int) = N := by rw [IntKind.wrap_u64]; omega
  have w0 : IntKind.u64.wrap 0 = 0 := by rw [IntKind.wrap_u64]; omega
  simp [m1, m2, m0, d0, wN, w0]

end Go.Proofs.Ytnldfjoadmehcaa
