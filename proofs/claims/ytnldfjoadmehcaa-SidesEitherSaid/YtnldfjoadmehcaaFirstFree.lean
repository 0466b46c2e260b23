/- The walks of search.free and slices.IndexFunc of it. -/
import Derived.Test.YtnldfjoadmehcaaNoneR
set_option linter.unusedVariables false
set_option linter.unusedSimpArgs false
namespace Go.Proofs.Ytnldfjoadmehcaa
open Go.RowKit

set_option maxHeartbeats 2000000 in
set_option maxRecDepth 100000 in
theorem sfree_any {A : Option Addr} {n c : Nat} {ms : List Int} (k : Nat) (hk : k < n) (w : World) (h : ReadI w A n ms) :
    Calls Try.prog 75 #[.agg #[.slice A n c], .int .i64 k] w fun e w' => e = .returned (.bool (decide (gi ms k < 0))) ∧ Below w.heap.size w w' := by
  obtain ⟨b, o, rfl, hc⟩ := h.2.2 (by omega)
  have hcell := cell_later (bel_alloc w (.cells #[.slice (some ⟨b, o, none⟩) n c] 83)) (hc k hk)
  have HB := Lib.hid (bel_alloc w (.cells #[.slice (some ⟨b, o, none⟩) n c] 83))
  clear h hc
  go_enter Try.func75, Try.ntmps75
  go_wp2_with fail
  go_ret
  exact ⟨rfl, HB.out⟩

/-- The first place from k on whose number is free; -1 if there is none. -/
def scanM (ms xs : List Int) : Nat → Nat → Int
  | 0, _ => -1
  | d + 1, k => if gi ms (gi xs k).toNat < 0 then (k : Int) else scanM ms xs d (k + 1)

set_option maxHeartbeats 4000000 in
set_option maxRecDepth 100000 in
theorem indexF_any {A B : Option Addr} {n c m cb : Nat} {xs ms : List Int} (w : World) (hx : ReadI w A n xs) (hm : ReadI w B m ms) (hin : ∀ j, j < n → 0 ≤ gi xs j ∧ gi xs j < m) :
    Calls Try.prog 76 #[.slice A n c, .func (.func 75) #[.agg #[.slice B m cb]] #[]] w fun e w' => e = .returned (.int .i64 (scanM ms xs n 0)) ∧ Below w.heap.size w w' := by
  have HX := Lib.hid hx
  have HM := Lib.hid hm
  have HIN := Lib.hid hin
  have hn := hx.2.1
  have HR0 : Hid (RW w w) := RW.refl w
  obtain ⟨ans, hans⟩ : ∃ a, a = scanM ms xs n 0 := ⟨_, rfl⟩
  rw [← hans]
  have HS0 : Hid (ans = scanM ms xs (n - 0) 0) := hans
  clear hx hm hin hans
  go_enter Try.func76, Try.ntmps76
  go_wp2_with fail
  go_loopw [8] (fun i wr => ∃ k : Nat, k ≤ n ∧ i = .int .i64 k ∧ Hid (ans = scanM ms xs (n - k) k) ∧ Hid (RW w wr)) (fun i _ => n - (intOf i).toNat)
  case atStart => exact ⟨0, Nat.zero_le _, rfl, HS0, HR0⟩
  case round =>
    obtain ⟨k, hk, rfl, hans, hrw⟩ := hrel
    by_cases hlt : k < n
    · obtain ⟨b, o, rfl, hc⟩ := (HX.out.below hrw.out).2.2 (by omega)
      have hck := hc k hlt
      obtain ⟨i0, i1⟩ := HIN.out k hlt
      have HST : Hid (ans = if gi ms (gi xs k).toNat < 0 then (k : Int) else scanM ms xs (n - (k + 1)) (k + 1)) := by
        have := hans.out
        rw [show n - k = (n - (k + 1)) + 1 from by omega] at this
        exact this
      have HLT := Lib.hid hlt
      obtain ⟨y, hy⟩ : ∃ y : Nat, gi xs k = y := ⟨(gi xs k).toNat, by omega⟩
      rw [hy] at hck i0 i1
      have hfr := sfree_any (c := cb) y (by omega) wr (HM.out.below hrw.out)
      have HST2 : Hid (ans = if gi ms y < 0 then (k : Int) else scanM ms xs (n - (k + 1)) (k + 1)) := by
        have := HST.out
        rw [hy, Int.toNat_natCast] at this
        exact this
      clear hc hy i0 i1 HST
      cases hq : decide (gi ms y < 0)
      · have HA : Hid (ans = scanM ms xs (n - (k + 1)) (k + 1)) := by
          have := HST2.out
          rw [if_neg (by simpa using hq)] at this
          exact this
        rw [hq] at hfr
        clear hq HST2
        go_wp2_with fail
        refine hfr.mono ?_
        rintro e w5 ⟨rfl, hb5⟩
        go_wp2_with fail
        go_roundw
        case rel => exact ⟨k + 1, by have := HLT.out; omega, by go_num, HA, Lib.hid (RW.later hrw.out hb5)⟩
        case measure => have := HLT.out; simp [intOf]; omega
      · have HA : Hid (ans = (k : Int)) := by
          have := HST2.out
          rw [if_pos (by simpa using hq)] at this
          exact this
        rw [hq] at hfr
        clear hq HST2
        go_wp2_with fail
        refine hfr.mono ?_
        rintro e w5 ⟨rfl, hb5⟩
        have HR5 := Lib.hid (RW.later hrw.out hb5)
        go_wp2_with fail
        go_ret
        exact ⟨by rw [HA.out]; rfl, HR5.out⟩
    · obtain rfl : k = n := by omega
      have HA : Hid (ans = -1) := by
        have := hans.out
        rw [Nat.sub_self] at this
        exact this
      have hd : decide ((k : Int) < (k : Int)) = false := by rw [decide_eq_false_iff_not]; omega
      clear hlt hk
      go_wp2_with fail
      go_ret
      exact ⟨by rw [HA.out]; rfl, hrw.out⟩

end Go.Proofs.Ytnldfjoadmehcaa
