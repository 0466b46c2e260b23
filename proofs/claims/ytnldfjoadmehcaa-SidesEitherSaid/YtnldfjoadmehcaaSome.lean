/- The walks of play.Some and play.Small. -/
import Derived.Test.YtnldfjoadmehcaaAdd
set_option linter.unusedVariables false
set_option linter.unusedSimpArgs false
namespace Go.Proofs.Ytnldfjoadmehcaa
open Go.RowKit

def bitB (bits : Int) (v : Nat) : Bool := Go.bits BinOp.and IntKind.u64 (bits / 2 ^ min (IntKind.u64.wrap (v : Int)).toNat 64) 1 == 1
def someTo (bits : Int) : Nat → List Int
  | 0 => []
  | k + 1 => if bitB bits k then someTo bits k ++ [(k : Int)] else someTo bits k
theorem someTo_length (bits : Int) : ∀ k, (someTo bits k).length ≤ k
  | 0 => Nat.le_refl _
  | k + 1 => by
    have := someTo_length bits k
    rw [someTo]
    split
    · rw [List.length_append, List.length_singleton]; omega
    · omega
def someL (N bits : Int) : List Int := someTo bits (min N.toNat 64)

set_option maxHeartbeats 1000000 in
set_option maxRecDepth 100000 in
theorem some_any {A : Option Addr} {n c : Nat} (N bits : Int) (w : World) (hb0 : 0 ≤ bits) (hb1 : bits ≤ 18446744073709551615) :
    Calls Try.prog 20 #[.agg #[.int .i64 N, .slice A n c], .int .u64 bits] w fun e w' => ∃ v, e = .returned v ∧ OwnI w' (w.heap.size + 1) v (someL N bits) ∧ Below w.heap.size w w' := by
  have HB0 : Hid (GB w N A n c (w.alloc (gcells N A n c))) := Below.refl _ _
  go_enter Try.func20, Try.ntmps20
  go_wp2_with fail
  go_loopw [5, 6] (fun l i wr => ∃ k : Nat, k ≤ 64 ∧ (k = 0 ∨ (k : Int) ≤ N) ∧ i = .int .i64 k ∧ OwnI wr (w.heap.size + 1) l (someTo bits k) ∧ GB w N A n c wr) (fun l i _ => 64 - (intOf i).toNat)
  case atStart => exact ⟨0, by omega, .inl rfl, rfl, World.ownsRow_nil _ _ _ _, HB0⟩
  case round =>
    obtain ⟨k, hk, hkN, rfl, own, hbr⟩ := hrel
    obtain ⟨g0, g1⟩ := gbox hbr
    have hsz := hbr.size
    simp at hsz
    have HBR := Lib.hid hbr
    clear hbr
    by_cases c1 : (k : Int) < N
    · have c1' : decide ((k : Int) < N) = true := by rw [decide_eq_true_eq]; omega
      by_cases c2 : k < 64
      · have c2' : decide ((k : Int) < 64) = true := by rw [decide_eq_true_eq]; omega
        have HC2 : Hid (k < 64) := c2
        clear c2 hk hkN
        have hkw : wrap64 ((k : Int) + 1) = ((k + 1 : Nat) : Int) := by have := HC2.out; unfold wrap64; omega
        have HC1 := Lib.hid c1
        clear c1
        cases hbt : bitB bits k
        · have HN : Hid (someTo bits (k + 1) = someTo bits k) := by unfold Hid; rw [someTo, hbt]; simp only [if_true, Bool.false_eq_true, if_false]
          unfold bitB at hbt
          go_wp2_with fail
          go_roundw
          case rel => exact ⟨k + 1, by have := HC2.out; omega,   .inr (by have := HC1.out; omega), by rw [hkw], by rw [HN.out]; exact own, HBR.out⟩
          case measure => have := HC2.out; rw [hkw]; simp only [intOf, Int.toNat_natCast]; omega
        · have HN : Hid (someTo bits (k + 1) = someTo bits k ++ [(k : Int)]) := by unfold Hid; rw [someTo, hbt]; simp only [if_true, Bool.false_eq_true, if_false]
          have hlen := someTo_length bits k
          unfold bitB at hbt
          go_wp2_with (at_builtin; refine app_int (W := wr) (w0 := w.alloc (gcells N A n c)) (w.heap.size + 1) rfl _ _ rfl u5 (someTo bits k) (k : Int) rfl rfl own (show Below (w.heap.size + 1) (w.alloc (gcells N A n c)) wr from HBR.out) (by omega) (by have := HC2.out; omega) ?_; intro v1 w1 own1 hB hg hat)
          go_roundw
          case rel => exact ⟨k + 1, by have := HC2.out; omega,   .inr (by have := HC1.out; omega), by rw [hkw], by rw [HN.out]; exact own1, hB⟩
          case measure => have := HC2.out; rw [hkw]; simp only [intOf, Int.toNat_natCast]; omega
      · have c2' : decide ((k : Int) < 64) = false := by rw [decide_eq_false_iff_not]; omega
        have HE : Hid (someL N bits = someTo bits k) := by unfold Hid someL; congr 1; omega
        clear c2 hk hkN
        go_wp2_with fail
        go_ret
        exact ⟨_, rfl, by rw [HE.out]; exact own, below_box HBR.out⟩
    · have c1' : decide ((k : Int) < N) = false := by rw [decide_eq_false_iff_not]; omega
      have HE : Hid (someL N bits = someTo bits k) := by unfold Hid someL; congr 1; omega
      clear hk hkN
      go_wp2_with fail
      go_ret
      exact ⟨_, rfl, by rw [HE.out]; exact own, below_box HBR.out⟩

end Go.Proofs.Ytnldfjoadmehcaa
