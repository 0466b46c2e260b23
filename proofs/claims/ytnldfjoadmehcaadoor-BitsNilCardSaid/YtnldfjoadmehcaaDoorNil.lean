/- The walk of the law of a nil set. -/
import Derived.Test.YtnldfjoadmehcaaDoorBits7
set_option linter.unusedVariables false
set_option linter.unusedSimpArgs false
namespace Go.Proofs.YtnldfjoadmehcaaDoor
open Go.RowKit Bs

theorem fork_nil (w : World) : Calls Tryd.prog 23 #[.pointer none] w fun e w' => e = .returned (.pointer none) ∧ w = w' := by
  go_enter Tryd.func23, Tryd.ntmps23
  go_wp2
  go_ret
  exact ⟨rfl, rfl⟩

theorem nil_law {A : Option Addr} {n c : Nat} {xs : List Int} (k : Int) (w : World) (hx : ReadI w A n xs) (hT : TabAt w) :
    Calls Tryd.prog 7 #[.int .i64 k, .slice A n c] w fun e w' => e = .returned (.bool true) ∧ Below w.heap.size w w' := by
  go_enter Tryd.func7, Tryd.ntmps7
  go_wp2_with fail
  refine (made_any 50 _ hx).mono ?_
  rintro e w1 ⟨g, h, rfl, s1, b1, hg, hh⟩
  go_wp2_with fail
  refine (awake_any _ (hT.below b1)).mono ?_
  rintro e w2 ⟨rfl, c2⟩
  have s2 := s1.below c2
  have b2 := below_after b1 b1.size c2
  have t2 := hT.below b2
  clear s1
  go_wp2_with (first | (go_at_call 10; refine (put_nil _ _).mono ?_; rintro e w3 ⟨rfl, rfl⟩) | (go_at_call 17; refine (drop_nil _ _).mono ?_; rintro e w3 ⟨rfl, rfl⟩) | (go_at_call 18; refine (has_nil _ _).mono ?_; rintro e w3 ⟨rfl, rfl⟩) | (go_at_call 11; refine (len_nil _).mono ?_; rintro e w3 ⟨rfl, rfl⟩) | (go_at_call 15; refine (list_nil _).mono ?_; rintro e w3 ⟨rfl, rfl⟩) | (go_at_call 12; refine (least_nil _ _).mono ?_; rintro e w3 ⟨rfl, rfl⟩))
  refine (Join_nil _ s2 t2).mono ?_
  rintro e w3 ⟨rfl, c3⟩
  have s3 := s2.below c3
  have b3 := below_after b2 b2.size c3
  have t3 := hT.below b3
  go_wp2_with fail
  refine (Less_nil _ s3 t3).mono ?_
  rintro e w4 ⟨rfl, c4⟩
  have s4 := s3.below c4
  have b4 := below_after b3 b3.size c4
  have t4 := hT.below b4
  go_wp2_with fail
  refine (Common_nil _ s4 t4).mono ?_
  rintro e w5 ⟨rfl, c5⟩
  have b5 := below_after b4 b4.size c5
  clear s2 s3 s4 t2 t3 t4
  go_wp2_with (first | (go_at_call 23; refine (fork_nil _).mono ?_; rintro e w3 ⟨rfl, rfl⟩) | (go_at_call 21; refine (Join_of_nil _ _).mono ?_; rintro e w3 ⟨rfl, rfl⟩) | (go_at_call 24; refine (Common_of_nil _ _).mono ?_; rintro e w3 ⟨rfl, rfl⟩))
  go_ret
  exact ⟨rfl, b5⟩

theorem bitsnil_walk {A : Option Addr} {n c : Nat} {xs : List Int} (k : Int) (w : World) (_ : -9223372036854775808 ≤ k ∧ k ≤ 9223372036854775807) (hx : ReadI w A n xs) (hT : TabAt w) :
    Calls Tryd.prog 7 #[.int .i64 k, .slice A n c] w fun e w' => e = .returned (.bool true) ∧ Below w.heap.size w w' := nil_law k w hx hT

end Go.Proofs.YtnldfjoadmehcaaDoor
