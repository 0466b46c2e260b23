/- The walks of the functions on one set: Len, TrailingZeros64, Least, List, New, Fork. -/
import Derived.Test.YtnldfjoadmehcaaDoorBits1
import Derived.Test.YtnldfjoadmehcaaDoorPure3
set_option linter.unusedVariables false
set_option linter.unusedSimpArgs false
namespace Go.Proofs.YtnldfjoadmehcaaDoor
open Go.RowKit Bs

theorem SetAt.cell0 {w : World} {g h room : Nat} {f : Nat → Bool} (s : SetAt w g h room f) :
    ∃ A cap, w.cell? ⟨g, 0, none⟩ = some (.slice A (nw room) cap) ∧ (0 < nw room → A = some ⟨h, 0, none⟩) := by
  obtain ⟨cap, hg, hw⟩ := s.head
  exact ⟨_, cap, by rw [cell_blk hg]; rfl, fun _ => rfl⟩

theorem SetAt.wordAt {w : World} {g h room : Nat} {f : Nat → Bool} (s : SetAt w g h room f) (j : Nat) (hj : j < nw room) : w.cell? ⟨h, j, none⟩ = some (.int .u64 (wd f j)) := by
  obtain ⟨cap, _, hx, _⟩ := s.word j hj
  exact hx

theorem nw_le {room : Nat} (h : room ≤ 70000) : nw room ≤ 1094 := by
  unfold nw
  omega

theorem cnt_word (f : Nat → Bool) (k : Nat) : cnt f (64 * (k + 1)) = cnt f (64 * k) + cnt (fun i => f (64 * k + i)) 64 := by
  rw [Nat.mul_succ, cnt_add]

/-- How many are in, of those for which there is room. -/
theorem cnt_room {f : Nat → Bool} {room : Nat} (ho : ∀ k, room ≤ k → f k = false) : ∀ n, room ≤ n → cnt f n = cnt f room := by
  intro n hn
  obtain ⟨d, rfl⟩ : ∃ d, n = room + d := ⟨n - room, by omega⟩
  clear hn
  induction d with
  | zero => rfl
  | succ d ih =>
    rw [← Nat.add_assoc, cnt, ih]
    simp [dig, ho (room + d) (by omega)]

theorem len_nil (w : World) : Calls Tryd.prog 11 #[.pointer none] w fun e w' => e = .returned (.int .i64 0) ∧ w = w' := by
  go_enter Tryd.func11, Tryd.ntmps11
  go_wp2
  go_ret
  exact ⟨rfl, rfl⟩

theorem len_any {g h room : Nat} {f : Nat → Bool} (w : World) (s : SetAt w g h room f) :
    Calls Tryd.prog 11 #[.pointer (some ⟨g, 0, none⟩)] w fun e w' => e = .returned (.int .i64 (cnt f room)) ∧ w = w' := by
  have hr := s.room
  have hn := nw_le hr
  obtain ⟨A, cap, hc, hA⟩ := s.cell0
  have HA := Lib.hid hA
  clear hA
  go_enter Tryd.func11, Tryd.ntmps11
  go_wp2
  go_loop [3, 13] (fun n i => ∃ k : Nat, k ≤ nw room ∧ i = .int .i64 k ∧ n = .int .i64 (cnt f (64 * k))) (fun _ i => nw room - (intOf i).toNat)
  case atStart => exact ⟨0, Nat.zero_le _, rfl, rfl⟩
  case round =>
    obtain ⟨k, hk, rfl, rfl⟩ := hrel
    have hb := cnt_le f (64 * k)
    by_cases hlt : k < nw room
    · obtain rfl := HA.out (by omega)
      have hx := s.wordAt k hlt
      have hb' := cnt_le (fun i => f (64 * k + i)) 64
      go_wp2_with (go_at_call 26; refine (ones_any (fun i => f (64 * k + i)) _).mono ?_; rintro e w' ⟨rfl, rfl⟩)
      go_round
      case rel => exact ⟨k + 1, by omega, by go_num, by rw [cnt_word]; go_num⟩
      case measure => simp [intOf]; omega
    · go_wp2
      go_ret
      refine ⟨?_, rfl⟩
      have e : cnt f (64 * k) = cnt f room := cnt_room s.out _ (by unfold nw at *; omega)
      rw [← e]
      rfl

/-- math/bits.deBruijn64tab lies in its variable. -/
def TabAt (w : World) : Prop := ∀ j, j < Lib.deBruijn64tab.length → w.cell? ⟨0, j, none⟩ = some (.int .u8 (Lib.deBruijn64tab.getD j 0))

theorem tz_core (x k idx : Nat) (w : World) (hx0 : ((x : Int) == 0) = false)
    (key : IntKind.u64.wrap (bits BinOp.and IntKind.u64 (x : Int) (IntKind.u64.wrap (-(x : Int))) * 285870213051353865) / 288230376151711744 = (idx : Int))
    (hi : idx < 64) (hk : k < 64) (hcell : w.cell? ⟨0, idx, none⟩ = some (.int .u8 k)) :
    Calls Tryd.prog 27 #[.int .u64 x] w fun e w' => e = .returned (.int .i64 k) ∧ w = w' := by
  go_enter Tryd.func27, Tryd.ntmps27
  go_wp2_with (simp only [key])
  go_ret
  exact ⟨rfl, rfl⟩

theorem tz_key (x a : Nat) (hx : x < 18446744073709551616) (hx0 : x ≠ 0) (hlow : x &&& (18446744073709551616 - x) = a) :
    IntKind.u64.wrap (bits BinOp.and IntKind.u64 (x : Int) (IntKind.u64.wrap (-(x : Int))) * 285870213051353865) / 288230376151711744 = ((a * 285870213051353865 % 18446744073709551616 / 288230376151711744 : Nat) : Int) := by
  have e1 : IntKind.u64.wrap (-(x : Int)) = ((18446744073709551616 - x : Nat) : Int) := by rw [IntKind.wrap_u64]; omega
  rw [e1, bits_and_u64_nat x _ hx (by omega), hlow, IntKind.wrap_u64]
  omega

theorem tz_any (x : Nat) (hx : x < 18446744073709551616) (hx0 : x ≠ 0) (w : World) (hT : TabAt w) :
    Calls Tryd.prog 27 #[.int .u64 x] w fun e w' => e = .returned (.int .i64 (Lib.ctz 64 x)) ∧ w = w' := by
  obtain ⟨hlow, hk⟩ := Lib.lowest_bit 64 x hx0 hx
  obtain ⟨hi, htab⟩ := Lib.deBruijn64_at _ hk
  have hcell := hT _ hi
  rw [htab] at hcell
  exact tz_core x _ _ w (by simp; omega) (tz_key x _ hx hx0 hlow) hi hk hcell

theorem least_nil (k : Int) (w : World) : Calls Tryd.prog 12 #[.pointer none, .int .i64 k] w fun e w' => e = .returned (.int .i64 (-1)) ∧ w = w' := by
  go_enter Tryd.func12, Tryd.ntmps12
  go_wp2
  go_ret
  exact ⟨rfl, rfl⟩

theorem least_max (f : Nat → Bool) (room : Nat) (k : Int) : least f room (max k 0) = least f room k := by
  unfold least
  rw [show (max k 0).toNat = k.toNat from by omega]

theorem least_any {g h room : Nat} {f : Nat → Bool} (k0 : Int) (w : World) (s : SetAt w g h room f) (hT : TabAt w) :
    Calls Tryd.prog 12 #[.pointer (some ⟨g, 0, none⟩), .int .i64 k0] w fun e w' => e = .returned (.int .i64 (least f room k0)) ∧ w = w' := by
  have hr := s.room
  have hn := nw_le hr
  obtain ⟨A, cap, hc, hA⟩ := s.cell0
  have hc1 := s.cell1
  have HA := Lib.hid hA
  clear hA
  by_cases hk0 : k0 < 0
  all_goals
    have hstart : Hid (least f room (max k0 0) = least f room k0) := least_max f room k0
    go_enter Tryd.func12, Tryd.ntmps12
    go_wp2
    go_loop [5] (fun i => ∃ k : Int, 0 ≤ k ∧ i = .int .i64 k ∧ Hid (least f room k = least f room k0)) (fun i => room + 64 - (intOf i).toNat)
    case atStart => exact ⟨max k0 0, by omega, by congr 1; omega, hstart⟩
    case round =>
      obtain ⟨k, hk, rfl, hl⟩ := hrel
      by_cases hlt : k < room
      · have hj : (k / 64).toNat < nw room := by have := @nw_lt room k.toNat (by omega); omega
        obtain rfl := HA.out (by omega)
        have hx := s.wordAt (k / 64).toNat hj
        have hlt' : k / 64 < (nw room : Int) := by omega
        have a1 : 0 ≤ k / 64 := by omega
        have a2 : 0 ≤ k % 64 := by omega
        have a3 : k % 64 < 64 := by omega
        have a4 : k / 64 ≤ 1094 := by omega
        have a5 : k ≤ 70000 := by omega
        have hW : ((wd f (k / 64).toNat : Nat) : Int) / 2 ^ (k % 64).toNat = ((rest f k.toNat : Nat) : Int) := by
          unfold rest
          rw [show k.toNat / 64 = (k / 64).toNat from by omega, show k.toNat % 64 = (k % 64).toNat from by omega]
          simp
        by_cases hz : rest f k.toNat = 0
        · have HL := Lib.hid (least_zero f room k ((k / 64 + 1) * 64) hk hz rfl)
          rw [hz] at hW
          simp only [Int.natCast_zero] at hW
          clear hz
          go_wp2
          go_round
          case rel => exact ⟨(k / 64 + 1) * 64, by omega, rfl, HL.out.symm.trans hl.out⟩
          case measure => simp [intOf]; omega
        · have HL := Lib.hid (least_hit f room s.out k hk hz)
          have hb := (rest_low f k.toNat hz).2.1
          have ht := tz_any (rest f k.toNat) (rest_lt f _) hz w hT
          have hz' : ((rest f k.toNat : Nat) : Int) ≠ 0 := by omega
          have hz2 : (((rest f k.toNat : Nat) : Int) != 0) = true := by simpa using hz'
          have hz3 : (((rest f k.toNat : Nat) : Int) == 0) = false := by simpa using hz'
          clear hz hz'
          generalize Lib.ctz 64 (rest f k.toNat) = c at *
          generalize rest f k.toNat = r at *
          go_wp2_with (go_at_call 27; refine ht.mono ?_; rintro e w' ⟨rfl, rfl⟩)
          go_ret
          exact ⟨by rw [← hl.out, HL.out]; rfl, rfl⟩
      · go_wp2
        go_ret
        exact ⟨by rw [← hl.out, least_end _ _ _ (by omega)]; rfl, rfl⟩

end Go.Proofs.YtnldfjoadmehcaaDoor
