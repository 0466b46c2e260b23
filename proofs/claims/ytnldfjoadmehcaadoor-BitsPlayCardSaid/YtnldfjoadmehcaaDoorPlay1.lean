/- The closure of BitsPlay, and its state. -/
import Derived.Test.YtnldfjoadmehcaaDoorPlayTools
set_option linter.unusedVariables false
set_option linter.unusedSimpArgs false
namespace Go.Proofs.YtnldfjoadmehcaaDoor
open Go.RowKit

/-- One thing that is done. -/
structure Opd where
  kind : Int
  k : Int
  A : Option Addr
  n : Nat
  c : Nat
  xs : List Int
instance : Inhabited Opd := ⟨⟨0, 0, none, 0, 0, []⟩⟩
def go (ops : List Opd) (j : Nat) : Opd := ops.getD j default
/-- At A lie the n things ops. -/
def ReadO (w : World) (A : Option Addr) (n : Nat) (ops : List Opd) : Prop :=
  ops.length = n ∧ n ≤ 9223372036854775807 ∧ (0 < n → ∃ b o, A = some ⟨b, o, none⟩ ∧ ∀ j, j < n → w.cell? ⟨b, o + j * 3, none⟩ = some (.int .i64 (go ops j).kind) ∧ w.cell? ⟨b, o + j * 3 + 1, none⟩ = some (.int .i64 (go ops j).k) ∧
    w.cell? ⟨b, o + j * 3 + 2, none⟩ = some (.slice (go ops j).A (go ops j).n (go ops j).c) ∧ ReadI w (go ops j).A (go ops j).n (go ops j).xs ∧ (go ops j).n ≤ (go ops j).c)

theorem play_has {bn t8 G M : Nat} {f : Nat → Bool} (k : Int) (w : World) (hn : w.cell? ⟨bn, 0, none⟩ = some (.int .i64 M)) (hi : w.cell? ⟨t8, 0, none⟩ = some (.slice (some ⟨G, 0, none⟩) M M)) (hr : RowF w G 4 M (fun j => .bool (f j))) (hM : M ≤ 300) (hf : ∀ j, M ≤ j → f j = false) :
    Calls Tryd.prog 19 #[.int .i64 k, .pointer (some ⟨bn, 0, none⟩), .pointer (some ⟨t8, 0, none⟩)] w fun e w' => e = .returned (.bool (hasI f k)) ∧ w = w' := by
  by_cases h0 : 0 ≤ k
  · have d0 : decide (0 ≤ k) = true := decide_eq_true h0
    by_cases h1 : k < M
    · have d1 : decide (k < (M : Int)) = true := decide_eq_true h1
      obtain ⟨j, rfl⟩ : ∃ j : Nat, k = j := ⟨k.toNat, by omega⟩
      have hc := RowF.cell hr (show j < M by omega)
      have HE : Hid (hasI f (j : Int) = f j) := by unfold Hid hasI; rw [d0]; simp
      go_enter Tryd.func19, Tryd.ntmps19
      go_wp2_with fail
      go_ret
      exact ⟨by rw [HE.out]; rfl, rfl⟩
    · have d1 : decide (k < (M : Int)) = false := decide_eq_false h1
      have HE : Hid (hasI f k = false) := by unfold Hid hasI; rw [hf k.toNat (by omega)]; simp
      go_enter Tryd.func19, Tryd.ntmps19
      go_wp2_with fail
      go_ret
      exact ⟨by rw [HE.out]; rfl, rfl⟩
  · have d0 : decide (0 ≤ k) = false := decide_eq_false h0
    have HE : Hid (hasI f k = false) := by unfold Hid hasI; rw [d0]; rfl
    go_enter Tryd.func19, Tryd.ntmps19
    go_wp2_with fail
    go_ret
    exact ⟨by rw [HE.out]; rfl, rfl⟩

end Go.Proofs.YtnldfjoadmehcaaDoor
