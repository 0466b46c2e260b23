/- The walks of sub.names.of and sub.kept. -/
import Derived.Test.YtnldfjoadmehcaaNamed
set_option linter.unusedVariables false
set_option linter.unusedSimpArgs false
namespace Go.Proofs.Ytnldfjoadmehcaa
open Go.RowKit

theorem of_any {g M y : Nat} {f : Nat → Int} (w : World) (h : RowF w g 3 M (fun j => .int .i64 (f j))) (hy : y < M) (hM : M ≤ 4096) :
    Calls Try.prog 93 #[.slice (some ⟨g, 0, none⟩) M M, .int .i64 (y : Int)] w fun e w' => e = .returned (.tuple #[.int .i64 (f y), .bool (decide (0 ≤ f y))]) ∧ Drawn w w' := by
  have hc := RowF.cell h hy
  have hyi : (0 : Int) ≤ (y : Int) ∧ (y : Int) < (M : Int) := by omega
  clear h hy
  go_enter Try.func93, Try.ntmps93
  go_wp2_with fail
  go_region
  go_wp2_with fail
  go_ret2
  exact ⟨rfl, (Drawn.refl _).drew⟩

/-- The numbers below k of which it is so. -/
def sel (p : Nat → Bool) : Nat → List Int
  | 0 => []
  | k + 1 => if p k then sel p k ++ [(k : Int)] else sel p k
theorem sel_length (p : Nat → Bool) : ∀ k, (sel p k).length ≤ k
  | 0 => Nat.le_refl _
  | k + 1 => by
    have := sel_length p k
    rw [sel]
    split
    · rw [List.length_append, List.length_singleton]; omega
    · omega
/-- The new number, or -1. -/
def nmF (p : Nat → Bool) (j : Nat) : Int := if p j then ((sel p j).length : Int) else -1
/-- The edges that stay, by the new numbers. -/
def keptE (nm : Nat → Int) : List Ed → List Ed
  | [] => []
  | e :: es => if 0 ≤ nm e.1.toNat ∧ 0 ≤ nm e.2.toNat then (nm e.1.toNat, nm e.2.toNat) :: keptE nm es else keptE nm es
theorem keptE_append (nm : Nat → Int) : ∀ es fs : List Ed, keptE nm (es ++ fs) = keptE nm es ++ keptE nm fs
  | [], fs => rfl
  | e :: es, fs => by
    rw [List.cons_append, keptE, keptE, keptE_append nm es fs]
    split <;> rfl
theorem keptE_length (nm : Nat → Int) : ∀ es : List Ed, (keptE nm es).length ≤ es.length
  | [] => Nat.le_refl _
  | e :: es => by
    have := keptE_length nm es
    rw [keptE]
    split
    · simp; omega
    · simp; omega

end Go.Proofs.Ytnldfjoadmehcaa
