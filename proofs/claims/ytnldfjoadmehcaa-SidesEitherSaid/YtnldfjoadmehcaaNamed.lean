/- The walk of sub.named. -/
import Derived.Test.YtnldfjoadmehcaaTools
set_option linter.unusedVariables false
set_option linter.unusedSimpArgs false
namespace Go.Proofs.Ytnldfjoadmehcaa
open Go.RowKit

/-- Why some names are none: 3, 4 or 6; or 0. -/
def namedE (N : Int) (es : List Ed) (l : List Int) : Int := if rightB N es = false then 3 else if l.any (fun x => !isB N x) then 4 else if l.Nodup then 0 else 6
/-- Is a number among the first so many? -/
def isIn (l : List Int) (k j : Nat) : Value := .bool (decide ((j : Int) ∈ l.take k))

set_option maxHeartbeats 4000000 in
set_option maxRecDepth 100000 in
theorem named_any {A B : Option Addr} {n c m d : Nat} {es : List Ed} {l : List Int} (N : Int) (w : World) (h : ReadE w A n es) (hl : ReadI w B m l) :
    Calls Try.prog 65 #[.agg #[.int .i64 N, .slice A n c], .slice B m d] w fun e w' =>
      ∃ v, e = .returned (.tuple #[v, .int .i64 (namedE N es l)]) ∧ Below w.heap.size w w' ∧
        (namedE N es l = 0 → ∃ g, w.heap.size < g ∧ v = .slice (some ⟨g, 0, none⟩) N.toNat N.toNat ∧ RowF w' g 4 N.toNat (isIn l m)) := by
  have hn := h.2.1
  have hm := hl.2.1
  have H1 := Lib.hid h.1
  have L1 := Lib.hid hl.1
  have hb0 : Below (w.heap.size + 1) (w.alloc (gcells N A n c)) (w.alloc (gcells N A n c)) := Below.refl _ _
  have HB0 := Lib.hid hb0
  have HR0 := h.box hb0
  clear hb0
  by_cases hr : rightB N es = false
  · have hP : Hid (namedE N es l = 3) := by unfold Hid namedE; rw [if_pos hr]
    have HRR := Lib.hid hr
    clear hr
    go_enter Try.func65, Try.ntmps65
    go_wp2_with fail
    refine (gright_any N _ HR0).mono ?_
    rintro e w1 ⟨rfl, hb1⟩
    rw [HRR.out]
    go_wp2_with fail
    go_ret2
    rw [hP.out]
    exact ⟨_, rfl, below_box (Below.trans HB0 (hb1.mono (by simp))), fun h => absurd h (by decide)⟩
  have HRR : Hid (rightB N es = true) := by simpa [Hid] using hr
  have HN : Hid (0 ≤ N ∧ N ≤ 4096) := by
    have := rightB_iff.1 HRR.out
    exact ⟨this.1, this.2.1⟩
  have HP1 : Hid (namedE N es l = if l.any (fun x => !isB N x) then 4 else if l.Nodup then 0 else 6) := by unfold Hid; rw [namedE, if_neg hr]
  clear hr
  go_enter Try.func65, Try.ntmps65
  go_wp2_with fail
  refine (gright_any N _ HR0).mono ?_
  rintro e w1 ⟨rfl, hb1⟩
  rw [HRR.out]
  have hb2 : Below (w.heap.size + 1) (w.alloc (gcells N A n c)) w1 := Below.trans HB0 (hb1.mono (by simp))
  obtain ⟨g0, g1⟩ := gbox hb2
  have hl1 := hl.below (below_box hb2)
  have HB2 := Lib.hid hb2
  have HL1 := Lib.hid hl1
  clear hb2 hb1 hl1
  go_wp2_with fail
  go_loopw [16] (fun i wr => ∃ k : Nat, k ≤ m ∧ i = .int .i64 k ∧ Hid (∀ j, j < k → isB N (gi l j) = true) ∧ w1 = wr) (fun i _ => m - (intOf i).toNat)
  case atStart => exact ⟨0, Nat.zero_le _, rfl, fun j hj => absurd hj (by omega), rfl⟩
  case round =>
    obtain ⟨k, hk, rfl, hall, rfl⟩ := hrel
    by_cases hlt : k < m
    · obtain ⟨b, o, rfl, hc⟩ := HL1.out.2.2 (by omega)
      have hck := hc k hlt
      clear hc
      by_cases hi : isB N (gi l k) = true
      · have HI := Lib.hid hi
        have HK : Hid (∀ j, j < k + 1 → isB N (gi l j) = true) := fun j hj => by
          by_cases e : j = k
          · exact e ▸ HI.out
          · exact hall.out j (by omega)
        unfold isB at hi
        generalize gi l k = x at *
        have x1 : decide (x < 0) = false := by simp at hi; rw [decide_eq_false_iff_not]; omega
        have x2 : decide (N ≤ x) = false := by simp at hi; rw [decide_eq_false_iff_not]; omega
        clear hi
        go_wp2_with fail
        go_roundw
        case rel => exact ⟨k + 1, by omega, by go_num, HK, by trivial⟩
        case measure => simp [intOf]; omega
      · have hany : l.any (fun x => !isB N x) = true := by
          rw [List.any_eq_true]
          have hkl : k < l.length := by have := L1.out; omega
          refine ⟨l[k], List.getElem_mem hkl, ?_⟩
          have : gi l k = l[k] := by simp [gi, List.getD_eq_getElem?_getD, hkl]
          rw [← this]
          simp [hi]
        have hP : Hid (namedE N es l = 4) := by unfold Hid; rw [HP1.out, if_pos hany]
        unfold isB at hi
        generalize gi l k = x at *
        by_cases x0 : x < 0
        · have x1 : decide (x < 0) = true := by rw [decide_eq_true_eq]; exact x0
          clear hi hany
          go_wp2_with fail
          go_ret2
          rw [hP.out]
          exact ⟨_, rfl, below_box HB2.out, fun h => absurd h (by decide)⟩
        · have x1 : decide (x < 0) = false := by rw [decide_eq_false_iff_not]; exact x0
          have x2 : decide (N ≤ x) = true := by simp at hi; rw [decide_eq_true_eq]; omega
          clear hi hany x0
          go_wp2_with fail
          go_ret2
          rw [hP.out]
          exact ⟨_, rfl, below_box HB2.out, fun h => absurd h (by decide)⟩
    · have hany : l.any (fun x => !isB N x) = false := by
        rw [List.any_eq_false]
        intro x hx
        obtain ⟨j, hj, rfl⟩ := List.getElem_of_mem hx
        have := hall.out j (by have := L1.out; omega)
        have e : gi l j = l[j] := by simp [gi, List.getD_eq_getElem?_getD, hj]
        rw [e] at this
        simp [this]
      have HP2 : Hid (namedE N es l = if l.Nodup then 0 else 6) := by unfold Hid; rw [HP1.out, hany]; rfl
      obtain rfl : k = m := by omega
      obtain ⟨M, rfl⟩ : ∃ M : Nat, N = M := ⟨N.toNat, by have := HN.out; omega⟩
      have hmk := run_make_row' 73 4 (.bool false) 1 Try.underlying73 (by kernel_rfl) rfl .i64 .i64 M (by have := HN.out; omega) (by have := HN.out; omega) w1
      have hrow := RowF.made w1 M 4 (.bool false)
      have HROW := Lib.hid hrow
      clear hrow hany hlt hk
      go_wp2_with fail
      have hbw : Hid (Below w.heap.size w w1) := below_box HB2.out
      have hsz : Hid (w.heap.size < w1.heap.size) := by have := HB2.out.size; simp at this; exact this
      go_loopw [34] (fun i wr => ∃ q : Nat, q ≤ k ∧ i = .int .i64 q ∧ Hid (RowF wr w1.heap.size 4 M (isIn l q)) ∧ Hid (Below w1.heap.size w1 wr) ∧ Hid ((l.take q).Nodup)) (fun i _ => k - (intOf i).toNat)
      case atStart => exact ⟨0, Nat.zero_le _, rfl, HROW.out.congr fun j _ => by simp [isIn], (Below.refl _ _).alloc (Nat.le_refl _) _, by simp [Hid]⟩
      case round =>
        obtain ⟨q, hq, rfl, hrow, hbr, hnd⟩ := hrel
        by_cases hlt : q < k
        · obtain ⟨b, o, rfl, hc⟩ := (HL1.out.below hbr.out).2.2 (by omega)
          have hck := hc q hlt
          clear hc
          have hi := hall.out q hlt
          have hts := take_succ_eq (xs := l) (k := q) (by have := L1.out; omega)
          have HTS := Lib.hid hts
          clear hts
          generalize gi l q = x at *
          obtain ⟨y, rfl⟩ : ∃ y : Nat, x = y := ⟨x.toNat, by unfold isB at hi; simp at hi; omega⟩
          have hy : y < M := by unfold isB at hi; simp at hi; omega
          have hcy := RowF.cell hrow.out hy
          have hfy := RowF.froz hrow.out y
          have hyi : (0 : Int) ≤ (y : Int) ∧ (y : Int) < (M : Int) := by omega
          unfold isIn at hcy
          clear hi
          have HY := Lib.hid hy
          cases hin : decide ((y : Int) ∈ l.take q)
          · rw [hin] at hcy
            have HIN := Lib.hid (of_decide_eq_false hin)
            have HSET : Hid (RowF (wr.setCell ⟨w1.heap.size, y, none⟩ (.bool true)) w1.heap.size 4 M (isIn l (q + 1))) := (hrow.out.set y (.bool true)).congr fun j hj => by
              unfold isIn
              rw [HTS.out]
              by_cases e : j = y
              · subst e
                simp
              · simp only [if_neg e, List.mem_append, List.mem_singleton]
                have : ¬ (j : Int) = (y : Int) := by omega
                simp [this]
            have HND : Hid ((l.take (q + 1)).Nodup) := by
              unfold Hid
              rw [HTS.out, List.nodup_append]
              refine ⟨hnd.out, by simp, fun a ha b hb e => ?_⟩
              simp at hb
              subst e hb
              exact HIN.out ha
            clear hin hy
            go_wp2_with fail
            go_roundw
            case rel => exact ⟨q + 1, by omega, by go_num, HSET, Below.setCell hbr.out (Nat.le_refl _) _, HND⟩
            case measure => simp [intOf]; omega
          · rw [hin] at hcy
            have hP : Hid (namedE M es l = 6) := by
              unfold Hid
              rw [HP2.out, if_neg]
              intro hnod
              have h2 : (l.take (q + 1)).Nodup := hnod.sublist (List.take_sublist _ _)
              rw [HTS.out, List.nodup_append] at h2
              exact h2.2.2 _ (of_decide_eq_true hin) _ (by simp) rfl
            clear hin hy
            go_wp2_with fail
            go_ret2
            rw [hP.out]
            exact ⟨_, rfl, hbw.out.trans (hbr.out.mono (Nat.le_of_lt hsz.out)), fun h => absurd h (by decide)⟩
        · obtain rfl : q = k := by omega
          have hP : Hid (namedE M es l = 0) := by
            unfold Hid
            have := hnd.out
            rw [List.take_of_length_le (by have := L1.out; omega)] at this
            rw [HP2.out, if_pos this]
          go_wp2_with fail
          go_ret2
          rw [hP.out]
          exact ⟨_, rfl, hbw.out.trans (hbr.out.mono (Nat.le_of_lt hsz.out)), fun _ => ⟨_, hsz.out, rfl, hrow.out⟩⟩

end Go.Proofs.Ytnldfjoadmehcaa
