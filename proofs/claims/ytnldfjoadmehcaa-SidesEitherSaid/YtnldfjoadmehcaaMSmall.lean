/- The walks of the small functions of mates and garlandref08: Edges, Size, Free, such, paired, free. -/
import Derived.Test.YtnldfjoadmehcaaMateRow
import Derived.Test.YtnldfjoadmehcaaMatesPure
set_option linter.unusedVariables false
set_option linter.unusedSimpArgs false
namespace Go.Proofs.Ytnldfjoadmehcaa
open Go.RowKit

theorem ret_int {k : IntKind} {a b : Int} (h : a = b) : Ending.returned (.int k a) = .returned (.int k b) := by rw [h]
theorem ownE_empty (w : World) (base : Nat) : OwnE w base (.slice none 0 0) [] := OwnE.nil w base

set_option maxHeartbeats 4000000 in
set_option maxRecDepth 100000 in
theorem redges_any {A : Option Addr} {n c : Nat} {ms : List Int} (w : World) (h : ReadI w A n ms) (hn : n ≤ 1000000) :
    Calls Try.prog 55 #[.slice A n c] w fun e w' => ∃ v, e = .returned v ∧ OwnE w' w.heap.size v (edgesM ms) ∧ Below w.heap.size w w' := by
  have HE := Lib.hid h
  have HM := Lib.hid h.1
  have HR0 : Hid (RW w w) := RW.refl w
  have HO0 : Hid (OwnE w w.heap.size (.slice none 0 0) (edgesTo ms 0)) := ownE_empty _ _
  clear h
  go_enter Try.func55, Try.ntmps55
  go_wp2_with fail
  go_loopw [3, 4, 5] (fun v i u wr => ∃ k : Nat, k ≤ n ∧ i = .int .i64 k ∧ Hid (OwnE wr w.heap.size v (edgesTo ms k)) ∧ Hid (RW w wr)) (fun _ i _ _ => n - (intOf i).toNat)
  case atStart => exact ⟨0, Nat.zero_le _, rfl, HO0, HR0⟩
  case round =>
    obtain ⟨k, hk, rfl, how, hrw⟩ := hrel
    by_cases hlt : k < n
    · have HLT := Lib.hid hlt
      obtain ⟨b, o, rfl, hc⟩ := (HE.out.below hrw.out).2.2 (by omega)
      have hck := hc k hlt
      have HST : Hid (edgesTo ms (k + 1) = if lowB ms k then edgesTo ms k ++ [((k : Int), gi ms k)] else edgesTo ms k) := rfl
      have HLB : Hid (lowB ms k = (decide ((k : Int) < gi ms k) && (decide (gi ms k < (n : Int)) && gi ms (gi ms k).toNat == k))) := by
        unfold Hid lowB
        rw [HM.out]
      have hki : (0 : Int) ≤ (k : Int) ∧ (k : Int) < (n : Int) := by omega
      have HLE := Lib.hid (edgesTo_length ms k)
      obtain ⟨x, hx⟩ : ∃ x, x = gi ms k := ⟨_, rfl⟩
      rw [← hx] at hck HST HLB
      have HX := Lib.hid hx
      clear hx
      by_cases q1 : (k : Int) < x
      · have d1 : decide ((k : Int) < x) = true := decide_eq_true q1
        by_cases q2 : x < (n : Int)
        · obtain ⟨y, rfl⟩ : ∃ y : Nat, x = y := ⟨x.toNat, by omega⟩
          have hyn : y < n := by omega
          have hcy := hc y hyn
          have hyi : (0 : Int) ≤ (y : Int) ∧ (y : Int) < (n : Int) := by omega
          have hq1 : k < y := by omega
          obtain ⟨z, hz⟩ : ∃ z, z = gi ms y := ⟨_, rfl⟩
          rw [← hz] at hcy
          have HZ : Hid (gi ms ((y : Int)).toNat = z) := by rw [Int.toNat_natCast]; exact hz.symm
          have HD : Hid (decide ((k : Int) < (y : Int)) = true ∧ decide ((y : Int) < (n : Int)) = true) := ⟨decide_eq_true (by omega), decide_eq_true (by omega)⟩
          clear hz hc d1
          cases q3 : (z == (k : Int))
          · have HN : Hid (edgesTo ms (k + 1) = edgesTo ms k) := by
              rw [HST.out, HLB.out, HZ.out, q3, if_neg (by simp)]
              rfl
            have HO1 : Hid (OwnE wr w.heap.size u3 (edgesTo ms (k + 1))) := by rw [HN.out]; exact how.out
            go_wp2_with fail
            go_roundw
            case rel => exact ⟨k + 1, by have := HLT.out; omega, by go_num, HO1, hrw⟩
            case measure => have := HLT.out; simp [intOf]; omega
          · have HN : Hid (edgesTo ms (k + 1) = edgesTo ms k ++ [((k : Int), (y : Int))]) := by
              rw [HST.out, HLB.out, HZ.out, q3, HD.out.1, HD.out.2]
              rfl
            go_wp2_with (at_builtin; refine app_edge (W := wr) w.heap.size wr.heap.size rfl rfl _ _ rfl u3 (edgesTo ms k) (k : Int) (y : Int) rfl rfl how.out (Below.size hrw.out) (by have := HLE.out; have := HLT.out; omega) ?_; intro v1 w5 own5 hB5 hg5)
            have HO1 : Hid (OwnE w5 w.heap.size v1 (edgesTo ms (k + 1))) := by rw [HN.out]; exact own5
            have HR5 : Hid (RW w w5) := hrw.out.trans hB5
            clear own5 hB5 hg5
            go_wp2_with fail
            go_roundw
            case rel => exact ⟨k + 1, by have := HLT.out; omega, by go_num, HO1, HR5⟩
            case measure => have := HLT.out; simp [intOf]; omega
        · have d2 : decide (x < (n : Int)) = false := decide_eq_false q2
          have HN : Hid (edgesTo ms (k + 1) = edgesTo ms k) := by
            rw [HST.out, HLB.out, d2, if_neg (by simp)]
            rfl
          have HO1 : Hid (OwnE wr w.heap.size u3 (edgesTo ms (k + 1))) := by rw [HN.out]; exact how.out
          clear hc q2
          go_wp2_with fail
          go_roundw
          case rel => exact ⟨k + 1, by have := HLT.out; omega, by go_num, HO1, hrw⟩
          case measure => have := HLT.out; simp [intOf]; omega
      · have d1 : decide ((k : Int) < x) = false := decide_eq_false q1
        have HN : Hid (edgesTo ms (k + 1) = edgesTo ms k) := by
          rw [HST.out, HLB.out, d1, if_neg (by simp)]
          rfl
        have HO1 : Hid (OwnE wr w.heap.size u3 (edgesTo ms (k + 1))) := by rw [HN.out]; exact how.out
        clear hc q1
        go_wp2_with fail
        go_roundw
        case rel => exact ⟨k + 1, by have := HLT.out; omega, by go_num, HO1, hrw⟩
        case measure => have := HLT.out; simp [intOf]; omega
    · obtain rfl : k = n := by omega
      have hd : decide ((k : Int) < (k : Int)) = false := by rw [decide_eq_false_iff_not]; omega
      have HEQ : Hid (edgesM ms = edgesTo ms k) := by unfold Hid edgesM; rw [HM.out]
      clear hlt hk
      go_wp2_with fail
      go_ret
      rw [HEQ.out]
      exact ⟨_, rfl, how.out, hrw.out⟩

set_option maxHeartbeats 1000000 in
set_option maxRecDepth 100000 in
theorem rsize_any {A : Option Addr} {n c : Nat} {ms : List Int} (w : World) (h : ReadI w A n ms) (hn : n ≤ 1000000) :
    Calls Try.prog 42 #[.slice A n c] w fun e w' => e = .returned (.int .i64 (edgesM ms).length) ∧ Below w.heap.size w w' := by
  have hr := redges_any (c := c) w h hn
  clear h
  go_enter Try.func42, Try.ntmps42
  go_wp2_with fail
  refine hr.mono ?_
  rintro e w1 ⟨v, rfl, ow, hb⟩
  obtain ⟨A1, c1, rfl, -, -, -⟩ := OwnE.read ow
  go_wp2_with fail
  go_ret
  exact ⟨rfl, hb⟩

set_option maxHeartbeats 1000000 in
set_option maxRecDepth 100000 in
theorem mfree_any {A : Option Addr} {n c : Nat} {ms : List Int} (k : Nat) (hk : k < n) (w : World) (h : ReadI w A n ms) :
    Calls Try.prog 84 #[.slice A n c, .int .i64 (k : Int)] w fun e w' => e = .returned (.bool (freeB ms k)) ∧ Below w.heap.size w w' := by
  obtain ⟨b, o, rfl, hc⟩ := h.2.2 (by omega)
  have hck := hc k hk
  have hki : (0 : Int) ≤ (k : Int) ∧ (k : Int) < (n : Int) := by omega
  have HB : Hid (Below w.heap.size w w) := Below.refl _ _
  clear h hc
  go_enter Try.func84, Try.ntmps84
  go_wp2_with fail
  go_ret
  exact ⟨rfl, HB.out⟩

set_option maxHeartbeats 2000000 in
set_option maxRecDepth 100000 in
theorem paired_any {A : Option Addr} {n c : Nat} {ms : List Int} (k : Nat) (hk : k < n) (w : World) (h : ReadI w A n ms) :
    Calls Try.prog 82 #[.slice A n c, .int .i64 (k : Int)] w fun e w' => e = .returned (.bool (pairB ms k)) ∧ Below w.heap.size w w' := by
  have HM := Lib.hid h.1
  obtain ⟨b, o, rfl, hc⟩ := h.2.2 (by omega)
  have hck := hc k hk
  have hki : (0 : Int) ≤ (k : Int) ∧ (k : Int) < (n : Int) := by omega
  have HB : Hid (Below w.heap.size w w) := Below.refl _ _
  have HP : Hid (pairB ms k = (decide (0 ≤ gi ms k) && (decide (gi ms k < (n : Int)) && (!(gi ms k == k) && gi ms (gi ms k).toNat == k)))) := by
    unfold Hid pairB
    rw [HM.out]
  clear h
  generalize hx : gi ms k = x at *
  clear hx
  by_cases q1 : 0 ≤ x
  · by_cases q2 : x < (n : Int)
    · obtain ⟨y, rfl⟩ : ∃ y : Nat, x = y := ⟨x.toNat, by omega⟩
      have hyn : y < n := by omega
      have hcy := hc y hyn
      have hyi : (0 : Int) ≤ (y : Int) ∧ (y : Int) < (n : Int) := by omega
      rw [Int.toNat_natCast] at HP
      generalize gi ms y = z at *
      clear hc q1 q2
      have d2 : decide ((y : Int) < (n : Int)) = true := decide_eq_true hyi.2
      have d1 : decide ((0 : Int) ≤ (y : Int)) = true := decide_eq_true hyi.1
      cases q3 : ((y : Int) == (k : Int))
      · have q4 : ((y : Int) != (k : Int)) = true := by simp [bne, q3]
        cases q5 : (z == (k : Int))
        all_goals
          rw [d1, d2, q3, q5] at HP
          have HPP := Lib.hid HP.out
          clear HP d1 d2
          go_enter Try.func82, Try.ntmps82
          go_wp2_with fail
          go_ret
          exact ⟨by rw [HPP.out]; rfl, HB.out⟩
      · have q4 : ((y : Int) != (k : Int)) = false := by simp [bne, q3]
        rw [d1, d2, q3] at HP
        have HPP := Lib.hid HP.out
        clear HP d1 d2
        go_enter Try.func82, Try.ntmps82
        go_wp2_with fail
        go_ret
        exact ⟨by rw [HPP.out]; rfl, HB.out⟩
    · have d2 : decide (x < (n : Int)) = false := decide_eq_false q2
      have HPP : Hid (pairB ms k = false) := by rw [HP.out, d2]; simp [Hid]
      clear hc q2 HP
      go_enter Try.func82, Try.ntmps82
      go_wp2_with fail
      go_ret
      exact ⟨by rw [HPP.out]; rfl, HB.out⟩
  · have d1 : decide (0 ≤ x) = false := decide_eq_false q1
    have HPP : Hid (pairB ms k = false) := by rw [HP.out, d1]; rfl
    clear hc q1 HP
    go_enter Try.func82, Try.ntmps82
    go_wp2_with fail
    go_ret
    exact ⟨by rw [HPP.out]; rfl, HB.out⟩

set_option maxHeartbeats 4000000 in
set_option maxRecDepth 100000 in
theorem such_any {A : Option Addr} {n c : Nat} {ms : List Int} (F : FuncId) (p : Nat → Bool) (w : World) (h : ReadI w A n ms) (hn : n ≤ 1000000) (hFn : F = 82 ∨ F = 84)
    (hF : ∀ k, k < n → ∀ W, ReadI W A n ms → Calls Try.prog F #[.slice A n c, .int .i64 (k : Int)] W fun e w' => e = .returned (.bool (p k)) ∧ Below W.heap.size W w') :
    Calls Try.prog 81 #[.slice A n c, .func (.func F) #[] #[]] w fun e w' => ∃ v, e = .returned v ∧ OwnI w' w.heap.size v (sel p n) ∧ Below w.heap.size w w' := by
  have HE := Lib.hid h
  have HFF := Lib.hid hF
  have HR0 : Hid (RW w w) := RW.refl w
  have HO0 : Hid (OwnI w w.heap.size (.slice none 0 0) (sel p 0)) := ownI_empty _ _
  clear h hF
  rcases hFn with rfl | rfl
  all_goals
    go_enter Try.func81, Try.ntmps81
    go_wp2_with fail
    go_loopw [5, 6, 9] (fun v u i wr => ∃ k : Nat, k ≤ n ∧ i = .int .i64 k ∧ Hid (OwnI wr w.heap.size v (sel p k)) ∧ Hid (RW w wr)) (fun _ _ i _ => n - (intOf i).toNat)
    case atStart => exact ⟨0, Nat.zero_le _, rfl, HO0, HR0⟩
    case round =>
      obtain ⟨k, hk, rfl, how, hrw⟩ := hrel
      by_cases hlt : k < n
      · have HLT := Lib.hid hlt
        have hf := HFF.out k hlt wr (HE.out.below hrw.out)
        have HST : Hid (sel p (k + 1) = if p k then sel p k ++ [(k : Int)] else sel p k) := rfl
        have HLE := Lib.hid (sel_length p k)
        cases hp : p k
        · rw [hp] at hf
          have HN : Hid (sel p (k + 1) = sel p k) := by rw [HST.out, hp]; rfl
          clear hp HST
          go_wp2_with fail
          refine hf.mono ?_
          rintro e w5 ⟨rfl, hb5⟩
          have HO1 : Hid (OwnI w5 w.heap.size u5 (sel p (k + 1))) := by rw [HN.out]; exact how.out.later hb5
          have HR5 := Lib.hid (RW.later hrw.out hb5)
          clear hf hb5
          go_wp2_with fail
          go_roundw
          case rel => exact ⟨k + 1, by have := HLT.out; omega, by go_num, HO1, HR5⟩
          case measure => have := HLT.out; simp [intOf]; omega
        · rw [hp] at hf
          have HN : Hid (sel p (k + 1) = sel p k ++ [(k : Int)]) := by rw [HST.out, hp]; rfl
          clear hp HST
          go_wp2_with fail
          refine hf.mono ?_
          rintro e w5 ⟨rfl, hb5⟩
          have HO5 := Lib.hid (how.out.later hb5)
          have HR5 := Lib.hid (RW.later hrw.out hb5)
          clear hf hb5
          go_wp2_with (at_builtin; refine app_intz (W := w5) w.heap.size w5.heap.size rfl rfl _ _ rfl u5 (sel p k) (k : Int) rfl rfl HO5.out (Below.size HR5.out) (by have := HLE.out; have := HLT.out; omega) ?_; intro v1 w8 own8 hB8 hg8)
          have HO1 : Hid (OwnI w8 w.heap.size v1 (sel p (k + 1))) := by rw [HN.out]; exact own8
          have HR8 : Hid (RW w w8) := HR5.out.trans hB8
          clear own8 hB8 hg8
          go_wp2_with fail
          go_roundw
          case rel => exact ⟨k + 1, by have := HLT.out; omega, by go_num, HO1, HR8⟩
          case measure => have := HLT.out; simp [intOf]; omega
      · obtain rfl : k = n := by omega
        have hd : decide ((k : Int) < (k : Int)) = false := by rw [decide_eq_false_iff_not]; omega
        clear hlt hk
        go_wp2_with fail
        go_ret
        exact ⟨_, rfl, how.out, hrw.out⟩

theorem suchP_any {A : Option Addr} {n c : Nat} {ms : List Int} (w : World) (h : ReadI w A n ms) (hn : n ≤ 1000000) :
    Calls Try.prog 81 #[.slice A n c, .func (.func 82) #[] #[]] w fun e w' => ∃ v, e = .returned v ∧ OwnI w' w.heap.size v (sel (pairB ms) n) ∧ Below w.heap.size w w' :=
  such_any 82 (pairB ms) w h hn (.inl rfl) fun k hk W hW => paired_any k hk W hW
theorem suchF_any {A : Option Addr} {n c : Nat} {ms : List Int} (w : World) (h : ReadI w A n ms) (hn : n ≤ 1000000) :
    Calls Try.prog 81 #[.slice A n c, .func (.func 84) #[] #[]] w fun e w' => ∃ v, e = .returned v ∧ OwnI w' w.heap.size v (sel (freeB ms) n) ∧ Below w.heap.size w w' :=
  such_any 84 (freeB ms) w h hn (.inr rfl) fun k hk W hW => mfree_any k hk W hW

/-- How many edges mates make. -/
theorem pair_len2 {ms : List Int} {n : Nat} (h : ms.length = n) : (sel (pairB ms) n).length = 2 * (edgesM ms).length := by rw [← h]; exact pair_len ms

set_option maxHeartbeats 1000000 in
set_option maxRecDepth 100000 in
theorem msize_any {A : Option Addr} {n c : Nat} {ms : List Int} (w : World) (h : ReadI w A n ms) (hn : n ≤ 1000000) :
    Calls Try.prog 50 #[.slice A n c] w fun e w' => e = .returned (.int .i64 (edgesM ms).length) ∧ Below w.heap.size w w' := by
  have hr := suchP_any (c := c) w h hn
  have HP := Lib.hid (pair_len2 h.1)
  have HQ : Hid ((edgesM ms).length ≤ 1000000) := by
    have := edgesTo_length ms ms.length
    have := h.1
    unfold Hid edgesM
    omega
  clear h
  go_enter Try.func50, Try.ntmps50
  go_wp2_with fail
  refine hr.mono ?_
  rintro e w1 ⟨v, rfl, ow, hb⟩
  obtain ⟨A1, c1, rfl, -, -, -⟩ := OwnI.read ow
  rw [HP.out]
  have HW : Hid (Below w.heap.size w w1) := hb
  clear hr ow hb
  have hq := HQ.out
  have e0 : (0 : Int) ≤ ((2 * (edgesM ms).length : Nat) : Int) ∧ ((2 * (edgesM ms).length : Nat) : Int) ≤ 2000000 := by omega
  go_wp2_with fail
  go_ret
  exact ⟨ret_int (by omega), HW.out⟩

set_option maxHeartbeats 1000000 in
set_option maxRecDepth 100000 in
theorem mFree_any {A : Option Addr} {n c : Nat} {ms : List Int} (w : World) (h : ReadI w A n ms) (hn : n ≤ 1000000) :
    Calls Try.prog 52 #[.slice A n c] w fun e w' => ∃ v, e = .returned v ∧ OwnI w' w.heap.size v (sel (freeB ms) n) ∧ Below w.heap.size w w' := by
  have hr := suchF_any (c := c) w h hn
  clear h
  go_enter Try.func52, Try.ntmps52
  go_wp2_with fail
  refine hr.mono ?_
  rintro e w1 ⟨v, rfl, ow, hb⟩
  have HO := Lib.hid (And.intro ow hb)
  clear hr ow hb
  go_wp2_with fail
  go_ret
  exact ⟨v, rfl, HO.out.1, HO.out.2⟩

set_option maxHeartbeats 4000000 in
set_option maxRecDepth 100000 in
theorem rFree_any {A : Option Addr} {n c : Nat} {ms : List Int} (w : World) (h : ReadI w A n ms) (hn : n ≤ 1000000) :
    Calls Try.prog 53 #[.slice A n c] w fun e w' => ∃ v, e = .returned v ∧ OwnI w' w.heap.size v (sel (freeB ms) n) ∧ Below w.heap.size w w' := by
  have HE := Lib.hid h
  have HR0 : Hid (RW w w) := RW.refl w
  have HO0 : Hid (OwnI w w.heap.size (.slice none 0 0) (sel (freeB ms) 0)) := ownI_empty _ _
  clear h
  go_enter Try.func53, Try.ntmps53
  go_wp2_with fail
  go_loopw [3, 4] (fun v i wr => ∃ k : Nat, k ≤ n ∧ i = .int .i64 k ∧ Hid (OwnI wr w.heap.size v (sel (freeB ms) k)) ∧ Hid (RW w wr)) (fun _ i _ => n - (intOf i).toNat)
  case atStart => exact ⟨0, Nat.zero_le _, rfl, HO0, HR0⟩
  case round =>
    obtain ⟨k, hk, rfl, how, hrw⟩ := hrel
    by_cases hlt : k < n
    · have HLT := Lib.hid hlt
      obtain ⟨b, o, rfl, hc⟩ := (HE.out.below hrw.out).2.2 (by omega)
      have hck := hc k hlt
      have hki : (0 : Int) ≤ (k : Int) ∧ (k : Int) < (n : Int) := by omega
      have HST : Hid (sel (freeB ms) (k + 1) = if (gi ms k == -1) then sel (freeB ms) k ++ [(k : Int)] else sel (freeB ms) k) := rfl
      have HLE := Lib.hid (sel_length (freeB ms) k)
      clear hc
      generalize gi ms k = x at *
      cases hp : (x == -1)
      · have HN : Hid (sel (freeB ms) (k + 1) = sel (freeB ms) k) := by rw [HST.out, hp]; rfl
        have HO1 : Hid (OwnI wr w.heap.size u3 (sel (freeB ms) (k + 1))) := by rw [HN.out]; exact how.out
        clear HST
        go_wp2_with fail
        go_roundw
        case rel => exact ⟨k + 1, by have := HLT.out; omega, by go_num, HO1, hrw⟩
        case measure => have := HLT.out; simp [intOf]; omega
      · have HN : Hid (sel (freeB ms) (k + 1) = sel (freeB ms) k ++ [(k : Int)]) := by rw [HST.out, hp]; rfl
        clear HST
        go_wp2_with (at_builtin; refine app_intz (W := wr) w.heap.size wr.heap.size rfl rfl _ _ rfl u3 (sel (freeB ms) k) (k : Int) rfl rfl how.out (Below.size hrw.out) (by have := HLE.out; have := HLT.out; omega) ?_; intro v1 w8 own8 hB8 hg8)
        have HO1 : Hid (OwnI w8 w.heap.size v1 (sel (freeB ms) (k + 1))) := by rw [HN.out]; exact own8
        have HR8 : Hid (RW w w8) := hrw.out.trans hB8
        clear own8 hB8 hg8
        go_wp2_with fail
        go_roundw
        case rel => exact ⟨k + 1, by have := HLT.out; omega, by go_num, HO1, HR8⟩
        case measure => have := HLT.out; simp [intOf]; omega
    · obtain rfl : k = n := by omega
      have hd : decide ((k : Int) < (k : Int)) = false := by rw [decide_eq_false_iff_not]; omega
      clear hlt hk
      go_wp2_with fail
      go_ret
      exact ⟨_, rfl, how.out, hrw.out⟩

/-- The edges of mates, out of those that are paired. -/
def pickE (ms : List Int) : List Int → List Ed
  | [] => []
  | v :: l => if v < gi ms v.toNat then (v, gi ms v.toNat) :: pickE ms l else pickE ms l
theorem pickE_app (ms : List Int) : ∀ a b : List Int, pickE ms (a ++ b) = pickE ms a ++ pickE ms b
  | [], b => rfl
  | v :: a, b => by
    rw [List.cons_append, pickE, pickE, pickE_app ms a b]
    split <;> rfl
theorem pickE_le (ms : List Int) : ∀ a : List Int, (pickE ms a).length ≤ a.length
  | [] => Nat.le_refl _
  | v :: a => by
    have := pickE_le ms a
    rw [pickE]
    split
    · simp
      omega
    · simp
      omega
theorem pickE_sel (ms : List Int) : ∀ k, pickE ms (sel (pairB ms) k) = edgesTo ms k
  | 0 => rfl
  | k + 1 => by
    rw [sel, edgesTo]
    have hs := pair_split ms k
    cases hp : pairB ms k
    · rw [hp] at hs
      have hl : lowB ms k = false := by
        cases q : lowB ms k
        · rfl
        · rw [q] at hs
          simp at hs
      rw [hl]
      exact pickE_sel ms k
    · simp only [if_true]
      rw [pickE_app, pickE_sel ms k, pickE, Int.toNat_natCast]
      cases hl : lowB ms k
      · rw [if_neg]
        · simp [pickE]
        · intro q
          unfold pairB at hp
          unfold lowB at hl
          simp at hp hl
          exact hl q hp.2.1 hp.2.2.2
      · rw [if_pos]
        · rfl
        · unfold lowB at hl
          simp at hl
          exact hl.1

set_option maxHeartbeats 4000000 in
set_option maxRecDepth 100000 in
theorem medges_any {A : Option Addr} {n c : Nat} {ms : List Int} (w : World) (h : ReadI w A n ms) (hn : n ≤ 1000000) :
    Calls Try.prog 48 #[.slice A n c] w fun e w' => ∃ v, e = .returned v ∧ OwnE w' w.heap.size v (edgesM ms) ∧ Below w.heap.size w w' := by
  have hr := suchP_any (c := c) w h hn
  have HE := Lib.hid h
  have HM := Lib.hid h.1
  clear h
  go_enter Try.func48, Try.ntmps48
  go_wp2_with fail
  refine hr.mono ?_
  rintro e w1 ⟨v, rfl, ow, hb⟩
  obtain ⟨A1, c1, rfl, -, -, hr1⟩ := OwnI.read ow
  have HB := Lib.hid hb
  have HRD := Lib.hid hr1
  have HEQ : Hid (edgesM ms = pickE ms (sel (pairB ms) n)) := by unfold Hid edgesM; rw [HM.out, pickE_sel]
  have HIN : Hid (∀ j, j < (sel (pairB ms) n).length → ∃ v : Nat, gi (sel (pairB ms) n) j = v ∧ v < n) := fun j hj => by
    obtain ⟨i, hi, -, he⟩ := mem_sel.1 (gi_mem hj)
    exact ⟨i, he, hi⟩
  have HLS : Hid ((sel (pairB ms) n).length ≤ 1000000) := Nat.le_trans (sel_length _ _) hn
  clear hr ow hb hr1
  generalize sel (pairB ms) n = l at *
  obtain ⟨ln, hln⟩ : ∃ ln, ln = l.length := ⟨_, rfl⟩
  rw [← hln] at HRD HIN HLS ⊢
  have HLN := Lib.hid hln
  have HR0 : Hid (RW w1 w1) := RW.refl w1
  have HO0 : Hid (OwnE w1 w1.heap.size (.slice none 0 0) (pickE ms (l.take 0))) := by rw [List.take_zero]; exact ownE_empty _ _
  have hl9 : ln ≤ 1000000 := HLS.out
  clear hln
  go_wp2_with fail
  go_loopw [3, 5, 9] (fun v u i wr => ∃ k : Nat, k ≤ ln ∧ i = .int .i64 k ∧ Hid (OwnE wr w1.heap.size v (pickE ms (l.take k))) ∧ Hid (RW w1 wr)) (fun _ _ i _ => ln - (intOf i).toNat)
  case atStart => exact ⟨0, Nat.zero_le _, rfl, HO0, HR0⟩
  case round =>
    obtain ⟨k, hk, rfl, how, hrw⟩ := hrel
    by_cases hlt : k < ln
    · have HLT := Lib.hid hlt
      obtain ⟨b, o, rfl, hc⟩ := (HRD.out.below hrw.out).2.2 (by omega)
      have hck := hc k hlt
      obtain ⟨y, hy, hyn⟩ := HIN.out k hlt
      rw [hy] at hck
      obtain ⟨b', o', rfl, hcm⟩ := (HE.out.below (bel_trans HB.out hrw.out)).2.2 (by omega)
      have hcy := hcm y hyn
      have hyi : (0 : Int) ≤ (y : Int) ∧ (y : Int) < (n : Int) := by omega
      have HST : Hid (pickE ms (l.take (k + 1)) = if (y : Int) < gi ms y then pickE ms (l.take k) ++ [((y : Int), gi ms y)] else pickE ms (l.take k)) := by
        unfold Hid
        rw [take_succ_eq (by have := HLN.out; omega), pickE_app, hy, pickE, Int.toNat_natCast]
        split
        · rfl
        · simp [pickE]
      have HLE : Hid ((pickE ms (l.take k)).length ≤ 1000000) := by
        have := pickE_le ms (l.take k)
        rw [List.length_take] at this
        have := HLN.out
        have := HLS.out
        unfold Hid
        omega
      clear hc hcm hy
      generalize gi ms y = x at *
      by_cases q : (y : Int) < x
      · have HN : Hid (pickE ms (l.take (k + 1)) = pickE ms (l.take k) ++ [((y : Int), x)]) := by rw [HST.out, if_pos q]; rfl
        clear HST
        go_wp2_with (at_builtin; refine app_edge (W := wr) w1.heap.size wr.heap.size rfl rfl _ _ rfl u3 (pickE ms (l.take k)) (y : Int) x rfl rfl how.out (Below.size hrw.out) (by have := HLE.out; omega) ?_; intro v1 w5 own5 hB5 hg5)
        have HO1 : Hid (OwnE w5 w1.heap.size v1 (pickE ms (l.take (k + 1)))) := by rw [HN.out]; exact own5
        have HR5 : Hid (RW w1 w5) := hrw.out.trans hB5
        clear own5 hB5 hg5
        go_wp2_with fail
        go_roundw
        case rel => exact ⟨k + 1, by have := HLT.out; omega, by go_num, HO1, HR5⟩
        case measure => have := HLT.out; simp [intOf]; omega
      · have hq : decide ((y : Int) < x) = false := decide_eq_false q
        have HN : Hid (pickE ms (l.take (k + 1)) = pickE ms (l.take k)) := by rw [HST.out, if_neg q]; rfl
        have HO1 : Hid (OwnE wr w1.heap.size u3 (pickE ms (l.take (k + 1)))) := by rw [HN.out]; exact how.out
        clear HST q
        go_wp2_with fail
        go_roundw
        case rel => exact ⟨k + 1, by have := HLT.out; omega, by go_num, HO1, hrw⟩
        case measure => have := HLT.out; simp [intOf]; omega
    · obtain rfl : k = ln := by omega
      have hd : decide ((k : Int) < (k : Int)) = false := by rw [decide_eq_false_iff_not]; omega
      have HFN : Hid (OwnE wr w.heap.size u3 (edgesM ms)) := by
        rw [HEQ.out]
        have := row_weaken how.out (base' := w.heap.size) (Below.size HB.out)
        rw [List.take_of_length_le (by have := HLN.out; omega)] at this
        exact this
      clear hlt hk
      go_wp2_with fail
      go_ret
      exact ⟨_, rfl, HFN.out, bel_trans HB.out hrw.out⟩

end Go.Proofs.Ytnldfjoadmehcaa
