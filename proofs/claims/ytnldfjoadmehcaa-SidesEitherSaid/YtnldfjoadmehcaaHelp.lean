/- The walks of the functions that hold lists of numbers against each other. -/
import Derived.Test.YtnldfjoadmehcaaKit
import Derived.Laws.BitsLemmas
set_option linter.unusedVariables false
set_option linter.unusedSimpArgs false
namespace Go.Proofs.Ytnldfjoadmehcaa
open Go.RowKit

theorem take_succ_eq {xs : List Int} {k : Nat} (h : k < xs.length) : xs.take (k + 1) = xs.take k ++ [gi xs k] := by
  rw [List.take_succ_eq_append_getElem h]
  simp [gi, List.getD_eq_getElem?_getD, h]

theorem in_any {A : Option Addr} {n c : Nat} {xs : List Int} (x : Int) (w : World) (h : ReadI w A n xs) :
    Calls Try.prog 26 #[.slice A n c, .int .i64 x] w fun e w' => e = .returned (.bool (decide (x ∈ xs))) ∧ w = w' := by
  obtain ⟨h1, h2, h3⟩ := h
  have H3 := Lib.hid h3
  have H1 := Lib.hid h1
  clear h3 h1
  go_enter Try.func26, Try.ntmps26
  go_wp2
  go_loop [5] (fun i => ∃ k : Nat, k ≤ n ∧ i = .int .i64 k ∧ Hid (x ∉ xs.take k)) (fun i => n - (intOf i).toNat)
  case atStart => exact ⟨0, Nat.zero_le _, rfl, by simp [Hid]⟩
  case round =>
    obtain ⟨k, hk, rfl, hx⟩ := hrel
    by_cases hlt : k < n
    · obtain ⟨b, o, rfl, hc⟩ := H3.out (by omega)
      have hck := hc k hlt
      have ht := take_succ_eq (xs := xs) (k := k) (by have := H1.out; omega)
      have HT := Lib.hid ht
      clear hc ht
      by_cases he : gi xs k = x
      · have hin : decide (x ∈ xs) = true := by
          have : x ∈ xs.take (k + 1) := by rw [HT.out, ← he]; simp
          simpa using List.mem_of_mem_take this
        have hb : (gi xs k == x) = true := by simpa using he
        have HIN := Lib.hid hin
        clear hin he
        go_wp2
        go_ret
        exact ⟨by rw [HIN.out]; rfl, rfl⟩
      · have hb : (gi xs k == x) = false := by simpa using he
        go_wp2
        go_round
        case rel =>
          refine ⟨k + 1, by omega, by go_num, ?_⟩
          unfold Hid
          rw [HT.out, List.mem_append]
          have hx' : x ∉ xs.take k := hx
          simp [hx']
          exact fun e => he (by simpa using e.symm)
        case measure => simp [intOf]; omega
    · go_wp2
      go_ret
      have e : xs.take k = xs := List.take_of_length_le (by have := H1.out; omega)
      unfold Hid at hx
      rw [e] at hx
      exact ⟨by simp [hx], rfl⟩

theorem eq_any (x y : Int) (w : World) : Calls Try.prog 68 #[.int .i64 x, .int .i64 y] w fun e w' => e = .returned (.bool (x == y)) ∧ w' = w := by
  go_enter Try.func68, Try.ntmps68
  go_wp2
  go_ret
  exact ⟨rfl, rfl⟩

theorem take_ne {xs ys : List Int} {k : Nat} (hx : k < xs.length) (hy : k < ys.length) (h : gi xs k ≠ gi ys k) : xs ≠ ys := by
  rintro rfl
  exact h rfl

theorem same_any {A B : Option Addr} {n m ca cb : Nat} {xs ys : List Int} (w : World) (ha : ReadI w A n xs) (hb : ReadI w B m ys) :
    Calls Try.prog 67 #[.slice A n ca, .slice B m cb, .func (.func 68) #[] #[]] w fun e w' => e = .returned (.bool (decide (xs = ys))) ∧ Drawn w w' := by
  have a1 := ha.1
  have a2 := ha.2.1
  have b1 := hb.1
  have b2 := hb.2.1
  by_cases hnm : n = m
  · subst hnm
    have A1 := Lib.hid a1
    have B1 := Lib.hid b1
    clear a1 b1
    go_enter Try.func67, Try.ntmps67
    go_wp2
    go_loopw [7] (fun i wr => ∃ k : Nat, k ≤ n ∧ i = .int .i64 k ∧ Hid (xs.take k = ys.take k) ∧ Drawn w wr) (fun i _ => n - (intOf i).toNat)
    case atStart => exact ⟨0, Nat.zero_le _, rfl, rfl, Drawn.refl _⟩
    case round =>
      obtain ⟨k, hk, rfl, hx, hdr⟩ := hrel
      by_cases hlt : k < n
      · obtain ⟨b, o, rfl, hc⟩ := (ha.drawn hdr).2.2 (by omega)
        obtain ⟨b', o', rfl, hc'⟩ := (hb.drawn hdr).2.2 (by omega)
        have hck := hc k hlt
        have hck' := hc' k hlt
        have ht := take_succ_eq (xs := xs) (k := k) (by have := A1.out; omega)
        have ht' := take_succ_eq (xs := ys) (k := k) (by have := B1.out; omega)
        have HT := Lib.hid ht
        have HT' := Lib.hid ht'
        have hkn : (0 : Int) ≤ k ∧ (k : Int) < n := by omega
        clear hc ht hc' ht'
        by_cases he : gi xs k = gi ys k
        · have hb : (gi xs k == gi ys k) = true := by simpa using he
          have HE := Lib.hid he
          clear he
          go_wp2_with fail
          go_quiet ((go_at_call 68; exact Calls.quiet_of_same (eq_any _ _ _)))
          go_wp2
          go_roundw
          case rel =>
            refine ⟨k + 1, by omega, by go_num, ?_, hdr.step _⟩
            unfold Hid at *
            rw [HT, HT', hx, HE]
          case measure => simp [intOf]; omega
        · have hb : (gi xs k == gi ys k) = false := by simpa using he
          have HE : Hid (xs ≠ ys) := take_ne (by have := A1.out; omega) (by have := B1.out; omega) he
          clear he
          go_wp2_with fail
          go_quiet ((go_at_call 68; exact Calls.quiet_of_same (eq_any _ _ _)))
          go_wp2
          go_ret
          exact ⟨by simp [HE.out], hdr.step _⟩
      · go_wp2
        go_ret
        have e : xs.take k = xs := List.take_of_length_le (by have := A1.out; omega)
        have e' : ys.take k = ys := List.take_of_length_le (by have := B1.out; omega)
        unfold Hid at hx
        rw [e, e'] at hx
        exact ⟨by simp [hx], hdr⟩
  · have hne : xs ≠ ys := by
      rintro rfl
      omega
    have hd : decide (xs = ys) = false := by simp [hne]
    rw [hd]
    have hnm' : ((n : Int) != (m : Int)) = true := by simp; omega
    clear hnm hd hne
    clear a1 b1
    go_enter Try.func67, Try.ntmps67
    go_wp2
    go_ret
    exact ⟨rfl, Drawn.refl _⟩

theorem plain_any {A B : Option Addr} {n m ca cb : Nat} {xs ys : List Int} (w : World) (ha : ReadI w A n xs) (hb : ReadI w B m ys) :
    Calls Try.prog 23 #[.slice A n ca, .slice B m cb] w fun e w' => e = .returned (.bool (decide (xs = ys))) ∧ Drawn w w' := by
  have h := same_any (ca := ca) (cb := cb) w ha hb
  clear ha hb
  go_enter Try.func23, Try.ntmps23
  go_wp2_with (go_at_call 67; refine h.mono ?_; rintro e w' ⟨rfl, hd⟩)
  go_ret
  exact ⟨rfl, by assumption⟩


end Go.Proofs.Ytnldfjoadmehcaa
