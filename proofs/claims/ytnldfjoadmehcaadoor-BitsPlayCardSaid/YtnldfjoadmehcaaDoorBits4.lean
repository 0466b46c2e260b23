/- The walks of awake, and of the law on the room of a set. -/
import Derived.Test.YtnldfjoadmehcaaDoorBits3
import Derived.Test.YtnldfjoadmehcaaDoorHelp
set_option linter.unusedVariables false
set_option linter.unusedSimpArgs false
namespace Go.Proofs.YtnldfjoadmehcaaDoor
open Go.RowKit Bs

theorem below_word {B : Nat} {a w w' : World} {h : Nat} (b : Below B a w) (g : w.grownBy w' (some h)) (hh : B ≤ h) (hB : B ≤ w.heap.size) : Below B a w' :=
  b.grown g hB fun k hk => by
    injection hk with hk
    omega

theorem awake_any (w : World) (hT : TabAt w) : Calls Tryd.prog 9 #[] w fun e w' => e = .returned (.bool true) ∧ Below w.heap.size w w' := by
  go_enter Tryd.func9, Tryd.ntmps9
  go_wp2_with fail
  refine (new_any 9 _).mono ?_
  rintro e w1 ⟨g, h, rfl, s1, b1, hg, hh⟩
  have r9 : roomOf 9 = 9 := by decide
  rw [r9] at s1
  clear r9
  go_wp2_with fail
  refine (put_yes 5 _ s1 (by decide) (by decide) rfl).mono ?_
  rintro e w2 ⟨rfl, s2, g2, z2⟩
  have b2 := below_word b1 g2 hh b1.size
  clear z2
  go_wp2_with fail
  refine (put_no 5 _ s2 (by decide)).mono ?_
  rintro e w3 ⟨rfl, rfl⟩
  go_wp2_with fail
  refine (put_yes 3 _ s2 (by decide) (by decide) rfl).mono ?_
  rintro e w4 ⟨rfl, s4, g4, z4⟩
  have b4 := below_word b2 g4 hh b2.size
  clear z4
  go_wp2_with fail
  refine (len_any _ s4).mono ?_
  rintro e w5 ⟨rfl, rfl⟩
  rw [show cnt (ins (ins (fun _ => false) (5 : Int).toNat) (3 : Int).toNat) 9 = 2 from rfl]
  go_wp2_with fail
  refine (has_any 3 _ s4).mono ?_
  rintro e w5 ⟨rfl, rfl⟩
  rw [show hasI (ins (ins (fun _ => false) (5 : Int).toNat) (3 : Int).toNat) 3 = true from rfl]
  go_wp2_with fail
  refine (least_any 4 _ s4 (hT.below b4)).mono ?_
  rintro e w5 ⟨rfl, rfl⟩
  rw [show least (ins (ins (fun _ => false) (5 : Int).toNat) (3 : Int).toNat) 9 4 = 5 from rfl]
  go_wp2
  go_ret
  exact ⟨rfl, b4⟩

theorem empty_list (w : World) : True := trivial

theorem cnt_empty : ∀ n, cnt (fun _ => false) n = 0
  | 0 => rfl
  | n + 1 => by rw [cnt, cnt_empty n]; rfl

theorem hasI_empty (k : Int) : hasI (fun _ => false) k = false := by simp [hasI]

theorem room_zero (n : Int) (w : World) (hT : TabAt w) (hn : n ≤ 0) : Calls Tryd.prog 3 #[.int .i64 n] w fun e w' => e = .returned (.bool true) ∧ Below w.heap.size w w' := by
  have hr : roomOf n = 0 := by unfold roomOf; omega
  rcases Int.lt_or_eq_of_le hn with h0 | rfl
  all_goals
    go_enter Tryd.func3, Tryd.ntmps3
    go_wp2_with fail
    refine (new_any _ _).mono ?_
    rintro e w1 ⟨g, h, rfl, s1, b1, hg, hh⟩
    rw [hr] at s1
    go_wp2_with fail
    refine (awake_any _ (hT.below b1)).mono ?_
    rintro e w2 ⟨rfl, c2⟩
    have s2 := s1.below c2
    have b2 := below_after b1 b1.size c2
    have t2 := hT.below b2
    clear s1
    go_wp2_with fail
    refine (put_no _ _ s2 (by omega)).mono ?_
    rintro e w3 ⟨rfl, rfl⟩
    go_wp2_with fail
    refine (put_no _ _ s2 (by omega)).mono ?_
    rintro e w3 ⟨rfl, rfl⟩
    go_wp2_with fail
    refine (len_any _ s2).mono ?_
    rintro e w3 ⟨rfl, rfl⟩
    rw [cnt_empty]
    go_wp2
    go_ret
    exact ⟨rfl, b2⟩

theorem room_some (n : Int) (w : World) (hT : TabAt w) (hn : 0 < n) : Calls Tryd.prog 3 #[.int .i64 n] w fun e w' => e = .returned (.bool true) ∧ Below w.heap.size w w' := by
  have hr : (roomOf n : Int) = min n 70000 := by unfold roomOf; omega
  have hz : ((roomOf n : Int) == 0) = false := by simp; omega
  obtain ⟨m, hm⟩ : ∃ m, roomOf n = m := ⟨_, rfl⟩
  have hl : least (ins (fun _ => false) (m - 1)) m 0 = ((m - 1 : Nat) : Int) := by
    unfold least
    have := scan_skip (ins (fun _ => false) (m - 1)) m (m - 1) 0 (fun i h1 h2 => by unfold ins; rw [if_neg (by omega)])
    rw [show (0 : Int).toNat = 0 from rfl, this, Nat.zero_add]
    exact scan_hit _ _ _ (by omega) (by simp [ins])
  rcases Int.lt_or_le 70000 n with h0 | h0
  · have hmn : (m : Int) = 70000 := by omega
    have HMN := Lib.hid hmn
    clear hz hmn hr
    go_enter Tryd.func3, Tryd.ntmps3
    go_wp2_with fail
    refine (new_any _ _).mono ?_
    rintro e w1 ⟨g, h, rfl, s1, b1, hg, hh⟩
    rw [hm] at s1
    clear hm
    go_wp2_with fail
    refine (awake_any _ (hT.below b1)).mono ?_
    rintro e w2 ⟨rfl, c2⟩
    have s2 := s1.below c2
    have b2 := below_after b1 b1.size c2
    have t2 := hT.below b2
    clear s1
    go_wp2_with fail
    refine (put_no _ _ s2 (by have := HMN.out; omega)).mono ?_
    rintro e w3 ⟨rfl, rfl⟩
    go_wp2_with fail
    refine (put_no _ _ s2 (by omega)).mono ?_
    rintro e w3 ⟨rfl, rfl⟩
    go_wp2_with fail
    refine (len_any _ s2).mono ?_
    rintro e w3 ⟨rfl, rfl⟩
    rw [cnt_empty]
    go_wp2_with fail
    refine (put_yes 69999 _ s2 (by omega) (by have := HMN.out; omega) rfl).mono ?_
    rintro e w3 ⟨rfl, s3, g3, z3⟩
    have b3 := below_word b2 g3 hh b2.size
    have t3 := hT.below b3
    clear z3
    rw [show (69999 : Int).toNat = m - 1 from by have := HMN.out; omega] at s3
    go_wp2_with fail
    refine (least_any _ _ s3 t3).mono ?_
    rintro e w4 ⟨rfl, rfl⟩
    rw [hl, show ((m - 1 : Nat) : Int) = 69999 from by have := HMN.out; omega]
    go_wp2
    go_ret
    exact ⟨rfl, b3⟩
  · have hmn : (m : Int) = n := by omega
    have hn0 : (n == 0) = false := by simp; omega
    have HMN := Lib.hid hmn
    clear hz hmn hr
    go_enter Tryd.func3, Tryd.ntmps3
    go_wp2_with fail
    refine (new_any _ _).mono ?_
    rintro e w1 ⟨g, h, rfl, s1, b1, hg, hh⟩
    rw [hm] at s1
    clear hm
    go_wp2_with fail
    refine (awake_any _ (hT.below b1)).mono ?_
    rintro e w2 ⟨rfl, c2⟩
    have s2 := s1.below c2
    have b2 := below_after b1 b1.size c2
    have t2 := hT.below b2
    clear s1
    go_wp2_with fail
    refine (put_no _ _ s2 (by have := HMN.out; omega)).mono ?_
    rintro e w3 ⟨rfl, rfl⟩
    go_wp2_with fail
    refine (put_no _ _ s2 (by omega)).mono ?_
    rintro e w3 ⟨rfl, rfl⟩
    go_wp2_with fail
    refine (len_any _ s2).mono ?_
    rintro e w3 ⟨rfl, rfl⟩
    rw [cnt_empty]
    go_wp2_with fail
    refine (put_yes (n - 1) _ s2 (by omega) (by have := HMN.out; omega) rfl).mono ?_
    rintro e w3 ⟨rfl, s3, g3, z3⟩
    have b3 := below_word b2 g3 hh b2.size
    have t3 := hT.below b3
    clear z3
    rw [show (n - 1).toNat = m - 1 from by have := HMN.out; omega] at s3
    go_wp2_with fail
    refine (least_any _ _ s3 t3).mono ?_
    rintro e w4 ⟨rfl, rfl⟩
    rw [hl, show ((m - 1 : Nat) : Int) = n - 1 from by have := HMN.out; omega]
    go_wp2
    go_ret
    exact ⟨rfl, b3⟩

theorem room_law (n : Int) (w : World) (hT : TabAt w) : Calls Tryd.prog 3 #[.int .i64 n] w fun e w' => e = .returned (.bool true) ∧ Below w.heap.size w w' := by
  rcases Int.lt_or_le 0 n with h | h
  · exact room_some n w hT h
  · exact room_zero n w hT h

theorem bitsroom_walk (n : Int) (w : World) (_ : -9223372036854775808 ≤ n ∧ n ≤ 9223372036854775807) (hT : TabAt w) : Calls Tryd.prog 3 #[.int .i64 n] w fun e w' => e = .returned (.bool true) ∧ Below w.heap.size w w' := room_law n w hT

end Go.Proofs.YtnldfjoadmehcaaDoor
