/- The walks of Join, Less, Common, of Fork; and of nil. -/
import Derived.Test.YtnldfjoadmehcaaDoorBits5
set_option linter.unusedVariables false
set_option linter.unusedSimpArgs false
namespace Go.Proofs.YtnldfjoadmehcaaDoor
open Go.RowKit Bs

theorem Join_any {g h room gt ht rt : Nat} {f ft : Nat → Bool} (w : World) (s : SetAt w g h room f) (t : SetAt w gt ht rt ft) (hT : TabAt w) :
    Calls Tryd.prog 21 #[.pointer (some ⟨g, 0, none⟩), .pointer (some ⟨gt, 0, none⟩)] w fun e w' =>
      e = .returned (.int .i64 (run_put room f (listOf ft rt)).1) ∧ SetAt w' g h room (run_put room f (listOf ft rt)).2 ∧ w.grownBy w' (some h) := by
  have hc := each_put w s t hT
  generalize run_put room f (listOf ft rt) = p at *
  go_enter Tryd.func21, Tryd.ntmps21
  go_wp2_with (go_at_call 30; refine hc.mono ?_; rintro e w2 ⟨rfl, s2, g2⟩)
  go_ret
  exact ⟨rfl, by assumption, by assumption⟩

/-- What a nil set does with another one: nothing. -/
theorem each_put_nil {gt ht rt : Nat} {ft : Nat → Bool} (w : World) (t : SetAt w gt ht rt ft) (hT : TabAt w) :
    Calls Tryd.prog 30 #[.pointer none, .pointer (some ⟨gt, 0, none⟩), .func (.func 10) #[] #[]] w fun e w' => e = .returned (.int .i64 0) ∧ Below w.heap.size w w' := by
  have hlen : (listOf ft rt).length ≤ 70000 := Nat.le_trans (lst_length ft rt 0) t.room
  obtain ⟨L, HL⟩ : ∃ L, L = listOf ft rt := ⟨_, rfl⟩
  have hl := list_any w t hT
  rw [← HL] at hl hlen
  clear HL
  go_enter Tryd.func30, Tryd.ntmps30
  go_wp2_with fail
  refine hl.mono ?_
  rintro e w1 ⟨v, rfl, hown, hb1⟩
  obtain ⟨A, cap, rfl, hc1, hc2, hr⟩ := hown.read
  generalize hN : L.length = N at *
  have HN := Lib.hid hN
  clear hN hl
  go_wp2_with fail
  go_loop [7, 13] (fun n i => ∃ k : Nat, k ≤ N ∧ i = .int .i64 k ∧ n = .int .i64 0) (fun _ i => N - (intOf i).toNat)
  case atStart => exact ⟨0, Nat.zero_le _, rfl, rfl⟩
  case round =>
    obtain ⟨k, hk, rfl, rfl⟩ := hrel
    by_cases hlt : k < N
    · obtain ⟨b, o, rfl, hc⟩ := hr.2.2 (by omega)
      have hck := hc k hlt
      have hcall := put_nil (gi L k) w1
      clear hc
      go_wp2_with (refine hcall.mono ?_; rintro e w2 ⟨rfl, rfl⟩)
      go_round
      case rel => exact ⟨k + 1, by omega, by go_num, rfl⟩
      case measure => simp [intOf]; omega
    · go_wp2
      go_ret
      exact ⟨rfl, hb1⟩

theorem Join_nil {gt ht rt : Nat} {ft : Nat → Bool} (w : World) (t : SetAt w gt ht rt ft) (hT : TabAt w) :
    Calls Tryd.prog 21 #[.pointer none, .pointer (some ⟨gt, 0, none⟩)] w fun e w' => e = .returned (.int .i64 0) ∧ Below w.heap.size w w' := by
  have hc := each_put_nil w t hT
  go_enter Tryd.func21, Tryd.ntmps21
  go_wp2_with (go_at_call 30; refine hc.mono ?_; rintro e w2 ⟨rfl, b2⟩)
  go_ret
  exact ⟨rfl, by assumption⟩

/-- A nil set hands over nothing. -/
theorem each_put_of_nil (g : Nat) (w : World) :
    Calls Tryd.prog 30 #[.pointer (some ⟨g, 0, none⟩), .pointer none, .func (.func 10) #[] #[]] w fun e w' => e = .returned (.int .i64 0) ∧ w = w' := by
  go_enter Tryd.func30, Tryd.ntmps30
  go_wp2_with (go_at_call 15; refine (list_nil _).mono ?_; rintro e w' ⟨rfl, rfl⟩)
  go_loop [7, 13] (fun n i => n = .int .i64 0 ∧ i = .int .i64 0) (fun _ _ => 0)
  case atStart => exact ⟨rfl, rfl⟩
  case round =>
    obtain ⟨rfl, rfl⟩ := hrel
    go_wp2
    go_ret
    exact ⟨rfl, rfl⟩
theorem Join_of_nil (g : Nat) (w : World) :
    Calls Tryd.prog 21 #[.pointer (some ⟨g, 0, none⟩), .pointer none] w fun e w' => e = .returned (.int .i64 0) ∧ w = w' := by
  go_enter Tryd.func21, Tryd.ntmps21
  go_wp2_with (go_at_call 30; refine (each_put_of_nil g _).mono ?_; rintro e w2 ⟨rfl, rfl⟩)
  go_ret
  exact ⟨rfl, rfl⟩

theorem Less_any {g h room gt ht rt : Nat} {f ft : Nat → Bool} (w : World) (s : SetAt w g h room f) (t : SetAt w gt ht rt ft) (hT : TabAt w) :
    Calls Tryd.prog 22 #[.pointer (some ⟨g, 0, none⟩), .pointer (some ⟨gt, 0, none⟩)] w fun e w' =>
      e = .returned (.int .i64 (run_drop room f (listOf ft rt)).1) ∧ SetAt w' g h room (run_drop room f (listOf ft rt)).2 ∧ w.grownBy w' (some h) := by
  have hc := each_drop w s t hT
  generalize run_drop room f (listOf ft rt) = p at *
  go_enter Tryd.func22, Tryd.ntmps22
  go_wp2_with (go_at_call 30; refine hc.mono ?_; rintro e w2 ⟨rfl, s2, g2⟩)
  go_ret
  exact ⟨rfl, by assumption, by assumption⟩

/-- What a nil set does with another one: nothing. -/
theorem each_drop_nil {gt ht rt : Nat} {ft : Nat → Bool} (w : World) (t : SetAt w gt ht rt ft) (hT : TabAt w) :
    Calls Tryd.prog 30 #[.pointer none, .pointer (some ⟨gt, 0, none⟩), .func (.func 17) #[] #[]] w fun e w' => e = .returned (.int .i64 0) ∧ Below w.heap.size w w' := by
  have hlen : (listOf ft rt).length ≤ 70000 := Nat.le_trans (lst_length ft rt 0) t.room
  obtain ⟨L, HL⟩ : ∃ L, L = listOf ft rt := ⟨_, rfl⟩
  have hl := list_any w t hT
  rw [← HL] at hl hlen
  clear HL
  go_enter Tryd.func30, Tryd.ntmps30
  go_wp2_with fail
  refine hl.mono ?_
  rintro e w1 ⟨v, rfl, hown, hb1⟩
  obtain ⟨A, cap, rfl, hc1, hc2, hr⟩ := hown.read
  generalize hN : L.length = N at *
  have HN := Lib.hid hN
  clear hN hl
  go_wp2_with fail
  go_loop [7, 13] (fun n i => ∃ k : Nat, k ≤ N ∧ i = .int .i64 k ∧ n = .int .i64 0) (fun _ i => N - (intOf i).toNat)
  case atStart => exact ⟨0, Nat.zero_le _, rfl, rfl⟩
  case round =>
    obtain ⟨k, hk, rfl, rfl⟩ := hrel
    by_cases hlt : k < N
    · obtain ⟨b, o, rfl, hc⟩ := hr.2.2 (by omega)
      have hck := hc k hlt
      have hcall := drop_nil (gi L k) w1
      clear hc
      go_wp2_with (refine hcall.mono ?_; rintro e w2 ⟨rfl, rfl⟩)
      go_round
      case rel => exact ⟨k + 1, by omega, by go_num, rfl⟩
      case measure => simp [intOf]; omega
    · go_wp2
      go_ret
      exact ⟨rfl, hb1⟩

theorem Less_nil {gt ht rt : Nat} {ft : Nat → Bool} (w : World) (t : SetAt w gt ht rt ft) (hT : TabAt w) :
    Calls Tryd.prog 22 #[.pointer none, .pointer (some ⟨gt, 0, none⟩)] w fun e w' => e = .returned (.int .i64 0) ∧ Below w.heap.size w w' := by
  have hc := each_drop_nil w t hT
  go_enter Tryd.func22, Tryd.ntmps22
  go_wp2_with (go_at_call 30; refine hc.mono ?_; rintro e w2 ⟨rfl, b2⟩)
  go_ret
  exact ⟨rfl, by assumption⟩

/-- A nil set hands over nothing. -/
theorem each_drop_of_nil (g : Nat) (w : World) :
    Calls Tryd.prog 30 #[.pointer (some ⟨g, 0, none⟩), .pointer none, .func (.func 17) #[] #[]] w fun e w' => e = .returned (.int .i64 0) ∧ w = w' := by
  go_enter Tryd.func30, Tryd.ntmps30
  go_wp2_with (go_at_call 15; refine (list_nil _).mono ?_; rintro e w' ⟨rfl, rfl⟩)
  go_loop [7, 13] (fun n i => n = .int .i64 0 ∧ i = .int .i64 0) (fun _ _ => 0)
  case atStart => exact ⟨rfl, rfl⟩
  case round =>
    obtain ⟨rfl, rfl⟩ := hrel
    go_wp2
    go_ret
    exact ⟨rfl, rfl⟩
theorem Less_of_nil (g : Nat) (w : World) :
    Calls Tryd.prog 22 #[.pointer (some ⟨g, 0, none⟩), .pointer none] w fun e w' => e = .returned (.int .i64 0) ∧ w = w' := by
  go_enter Tryd.func22, Tryd.ntmps22
  go_wp2_with (go_at_call 30; refine (each_drop_of_nil g _).mono ?_; rintro e w2 ⟨rfl, rfl⟩)
  go_ret
  exact ⟨rfl, rfl⟩

theorem Common_any {g h room gt ht rt : Nat} {f ft : Nat → Bool} (w : World) (s : SetAt w g h room f) (t : SetAt w gt ht rt ft) (hT : TabAt w) :
    Calls Tryd.prog 24 #[.pointer (some ⟨g, 0, none⟩), .pointer (some ⟨gt, 0, none⟩)] w fun e w' =>
      e = .returned (.int .i64 (run_has room f (listOf ft rt)).1) ∧ SetAt w' g h room (run_has room f (listOf ft rt)).2 ∧ w.grownBy w' (some h) := by
  have hc := each_has w s t hT
  generalize run_has room f (listOf ft rt) = p at *
  go_enter Tryd.func24, Tryd.ntmps24
  go_wp2_with (go_at_call 30; refine hc.mono ?_; rintro e w2 ⟨rfl, s2, g2⟩)
  go_ret
  exact ⟨rfl, by assumption, by assumption⟩

/-- What a nil set does with another one: nothing. -/
theorem each_has_nil {gt ht rt : Nat} {ft : Nat → Bool} (w : World) (t : SetAt w gt ht rt ft) (hT : TabAt w) :
    Calls Tryd.prog 30 #[.pointer none, .pointer (some ⟨gt, 0, none⟩), .func (.func 18) #[] #[]] w fun e w' => e = .returned (.int .i64 0) ∧ Below w.heap.size w w' := by
  have hlen : (listOf ft rt).length ≤ 70000 := Nat.le_trans (lst_length ft rt 0) t.room
  obtain ⟨L, HL⟩ : ∃ L, L = listOf ft rt := ⟨_, rfl⟩
  have hl := list_any w t hT
  rw [← HL] at hl hlen
  clear HL
  go_enter Tryd.func30, Tryd.ntmps30
  go_wp2_with fail
  refine hl.mono ?_
  rintro e w1 ⟨v, rfl, hown, hb1⟩
  obtain ⟨A, cap, rfl, hc1, hc2, hr⟩ := hown.read
  generalize hN : L.length = N at *
  have HN := Lib.hid hN
  clear hN hl
  go_wp2_with fail
  go_loop [7, 13] (fun n i => ∃ k : Nat, k ≤ N ∧ i = .int .i64 k ∧ n = .int .i64 0) (fun _ i => N - (intOf i).toNat)
  case atStart => exact ⟨0, Nat.zero_le _, rfl, rfl⟩
  case round =>
    obtain ⟨k, hk, rfl, rfl⟩ := hrel
    by_cases hlt : k < N
    · obtain ⟨b, o, rfl, hc⟩ := hr.2.2 (by omega)
      have hck := hc k hlt
      have hcall := has_nil (gi L k) w1
      clear hc
      go_wp2_with (refine hcall.mono ?_; rintro e w2 ⟨rfl, rfl⟩)
      go_round
      case rel => exact ⟨k + 1, by omega, by go_num, rfl⟩
      case measure => simp [intOf]; omega
    · go_wp2
      go_ret
      exact ⟨rfl, hb1⟩

theorem Common_nil {gt ht rt : Nat} {ft : Nat → Bool} (w : World) (t : SetAt w gt ht rt ft) (hT : TabAt w) :
    Calls Tryd.prog 24 #[.pointer none, .pointer (some ⟨gt, 0, none⟩)] w fun e w' => e = .returned (.int .i64 0) ∧ Below w.heap.size w w' := by
  have hc := each_has_nil w t hT
  go_enter Tryd.func24, Tryd.ntmps24
  go_wp2_with (go_at_call 30; refine hc.mono ?_; rintro e w2 ⟨rfl, b2⟩)
  go_ret
  exact ⟨rfl, by assumption⟩

/-- A nil set hands over nothing. -/
theorem each_has_of_nil (g : Nat) (w : World) :
    Calls Tryd.prog 30 #[.pointer (some ⟨g, 0, none⟩), .pointer none, .func (.func 18) #[] #[]] w fun e w' => e = .returned (.int .i64 0) ∧ w = w' := by
  go_enter Tryd.func30, Tryd.ntmps30
  go_wp2_with (go_at_call 15; refine (list_nil _).mono ?_; rintro e w' ⟨rfl, rfl⟩)
  go_loop [7, 13] (fun n i => n = .int .i64 0 ∧ i = .int .i64 0) (fun _ _ => 0)
  case atStart => exact ⟨rfl, rfl⟩
  case round =>
    obtain ⟨rfl, rfl⟩ := hrel
    go_wp2
    go_ret
    exact ⟨rfl, rfl⟩
theorem Common_of_nil (g : Nat) (w : World) :
    Calls Tryd.prog 24 #[.pointer (some ⟨g, 0, none⟩), .pointer none] w fun e w' => e = .returned (.int .i64 0) ∧ w = w' := by
  go_enter Tryd.func24, Tryd.ntmps24
  go_wp2_with (go_at_call 30; refine (each_has_of_nil g _).mono ?_; rintro e w2 ⟨rfl, rfl⟩)
  go_ret
  exact ⟨rfl, rfl⟩

end Go.Proofs.YtnldfjoadmehcaaDoor
