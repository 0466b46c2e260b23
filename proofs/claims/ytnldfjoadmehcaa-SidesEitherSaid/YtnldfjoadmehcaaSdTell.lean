/- The walks of ref04.Of and of the statement SidesTell. -/
import Derived.Test.YtnldfjoadmehcaaSdPure
import Derived.Test.YtnldfjoadmehcaaPMates
import Derived.Deep.LoopGhost
import Derived.Test.YtnldfjoadmehcaaSdOf
import Derived.Test.YtnldfjoadmehcaaOwn
import Derived.Test.YtnldfjoadmehcaaSdCyc
set_option linter.unusedVariables false
set_option linter.unusedSimpArgs false
namespace Go.Proofs.Ytnldfjoadmehcaa
open Go.RowKit

/- The walk of garlandref04.Of. -/
/-- What the reference's Of leaves of a graph. -/
def RSideQ (N : Nat) (es : List Ed) (W : World) (e : Ending) (w' : World) : Prop :=
  (∃ v t, e = .returned (.tuple #[v, .int .i64 0]) ∧ OwnI w' W.heap.size v t ∧ SideOk N es t ∧ Below W.heap.size W w') ∨
  (e = .returned (.tuple #[.slice none 0 0, .int .i64 10]) ∧ (∀ s, ¬ TwoCol N es s) ∧ Below W.heap.size W w')

set_option maxHeartbeats 2000000 in
set_option maxRecDepth 100000 in
theorem rsides_bad {A : Option Addr} {n c : Nat} {es : List Ed} (N : Int) (w : World) (h : ReadE w A n es) (hR : rightB N es = false) :
    Calls Try.prog 60 #[.agg #[.int .i64 N, .slice A n c]] w fun e w' => e = .returned (.tuple #[.slice none 0 0, .int .i64 3]) ∧ Below w.heap.size w w' := by
  have hb1 := bel_alloc w (gcells N A n c)
  have hr := right_any (c := c) N (w.alloc (gcells N A n c)) (h.below hb1)
  rw [hR] at hr
  have HB1 := Lib.hid hb1
  have HX := Lib.hid (boxg w N A n c)
  clear hb1 h hR
  go_enter Try.func60, Try.ntmps60
  obtain ⟨x0, x1⟩ := HX.out
  go_wp2_with fail
  refine hr.mono ?_
  rintro e w2 ⟨rfl, hb2⟩
  have HB2 := Lib.hid (bel_trans HB1.out hb2)
  clear hb2 hr x0 x1
  go_wp2_with fail
  go_ret2
  exact ⟨rfl, HB2.out⟩

set_option maxHeartbeats 16000000 in
set_option maxRecDepth 100000 in
theorem rsides_any {A : Option Addr} {n c N : Nat} {es : List Ed} (w : World) (h : ReadE w A n es) (hR : rightB N es = true) :
    Calls Try.prog 60 #[.agg #[.int .i64 N, .slice A n c]] w (RSideQ N es w) := by
  obtain ⟨r1, r2, r3, r4⟩ := rightB_iff.1 hR
  have hN : N ≤ 4096 := by omega
  have hn9 := h.2.1
  have hb1 := bel_alloc w (gcells N A n c)
  have hr := right_any (c := c) N (w.alloc (gcells N A n c)) (h.below hb1)
  rw [hR] at hr
  have HB1 := Lib.hid hb1
  have HX := Lib.hid (boxg w N A n c)
  have HE := Lib.hid h
  have HEL := Lib.hid h.1
  have HRI := Lib.hid r4
  have HRB := Lib.hid hR
  have HS1 : Hid ((w.alloc (gcells N A n c)).heap.size = w.heap.size + 1) := by simp [Hid]
  have HED : Hid (∀ j, j < n → ∃ x y : Nat, ge es j = ((x : Int), (y : Int)) ∧ x < y ∧ y < N ∧ Nxt es x y) := fun j hj => by
    have hje : j < es.length := by have := h.1; omega
    obtain ⟨x, y, he, hxy, hy⟩ := edge_nat (r4.1 _ (show ge es j ∈ es by rw [ge_get hje]; exact List.getElem_mem _))
    refine ⟨x, y, he, hxy, hy, (nxt_edge r4).2 (.inl ?_)⟩
    rw [← he, ge_get hje]
    exact List.getElem_mem _
  clear hb1 h hR r1 r2 r3 r4
  go_enter Try.func60, Try.ntmps60
  obtain ⟨x0, x1⟩ := HX.out
  go_wp2_with fail
  refine hr.mono ?_
  rintro e w2 ⟨rfl, hb2⟩
  have HB2 := Lib.hid (bel_trans HB1.out hb2)
  have HX2 := Lib.hid (later2 hb2 HX.out)
  have HS2 : Hid (w.heap.size + 1 ≤ w2.heap.size) := by rw [← HS1.out]; exact hb2.size
  clear hb2 hr x0 x1
  obtain ⟨x0, x1⟩ := HX2.out
  have hmk := run_make_row' 22 3 (.int .i64 0) 8 Try.underlying22 (by kernel_rfl) rfl .i64 .i64 N (by omega) (by omega) w2
  have hmo := made_own w2 N hN
  have HB3 := Lib.hid (bel_trans HB2.out (bel_alloc w2 (.cells (madeCells #[.int .i64 0] N) 3)))
  have HX3 := Lib.hid (later2 (bel_alloc w2 (.cells (madeCells #[.int .i64 0] N) 3)) HX2.out)
  go_wp2_with fail
  clear hmk x0 x1
  generalize w2.alloc (.cells (madeCells #[.int .i64 0] N) 3) = w3 at *
  have HO3 : Hid (∃ ms, OwnI w3 (w.heap.size + 1) (.slice (some ⟨w2.heap.size, 0, none⟩) N N) ms ∧ ∀ j, j < 0 → gi ms j = -1) := ⟨_, row_weaken hmo HS2.out, fun j hj => absurd hj (by omega)⟩
  have HBX : Hid (Below w.heap.size w w3 ∧ w3.cell? ⟨w.heap.size, 0, none⟩ = some (.int .i64 N) ∧ w3.cell? ⟨w.heap.size, 1, none⟩ = some (.slice A n c)) := ⟨HB3.out, HX3.out⟩
  have HPUT : Hid (∀ W j (a : Int), (Below w.heap.size w W ∧ W.cell? ⟨w.heap.size, 0, none⟩ = some (.int .i64 N) ∧ W.cell? ⟨w.heap.size, 1, none⟩ = some (.slice A n c)) → (Below w.heap.size w (W.setCell ⟨w2.heap.size, j, none⟩ (.int .i64 a)) ∧ (W.setCell ⟨w2.heap.size, j, none⟩ (.int .i64 a)).cell? ⟨w.heap.size, 0, none⟩ = some (.int .i64 N) ∧ (W.setCell ⟨w2.heap.size, j, none⟩ (.int .i64 a)).cell? ⟨w.heap.size, 1, none⟩ = some (.slice A n c))) := fun W j a hb =>
    ⟨Below.setCell hb.1 (by have := HS2.out; show w.heap.size ≤ w2.heap.size; omega) _, (grown_set _ _ _ _).cell hb.2.1 (by intro e; injection e with e; have h2 : w.heap.size = w2.heap.size := e; have := HS2.out; omega), (grown_set _ _ _ _).cell hb.2.2 (by intro e; injection e with e; have h2 : w.heap.size = w2.heap.size := e; have := HS2.out; omega)⟩
  clear hmo HB3 HX3 HB2 HX2
  go_loopw [5] (fun i wr => ∃ k : Nat, k ≤ N ∧ i = .int .i64 k ∧ Hid (∃ ms, OwnI wr (w.heap.size + 1) (.slice (some ⟨w2.heap.size, 0, none⟩) N N) ms ∧ ∀ j, j < k → gi ms j = -1) ∧ Hid (Below w.heap.size w wr ∧ wr.cell? ⟨w.heap.size, 0, none⟩ = some (.int .i64 N) ∧ wr.cell? ⟨w.heap.size, 1, none⟩ = some (.slice A n c))) (fun i _ => N - (intOf i).toNat)
  case atStart => exact ⟨0, Nat.zero_le _, rfl, HO3, HBX⟩
  case round =>
    obtain ⟨k, hk, rfl, hown, hb⟩ := hrel
    obtain ⟨x0, x1⟩ := hb.out.2
    by_cases hlt : k < N
    · have HLT := Lib.hid hlt
      obtain ⟨ms, ho, hmn⟩ := hown.out
      have cg1 := ho.cellAt hlt
      have fg1 := ho.frozAt k
      have hki : (0 : Int) ≤ (k : Int) ∧ (k : Int) < (N : Int) := by omega
      have HOW4 : Hid (∃ ms, OwnI (wr.setCell ⟨w2.heap.size, k, none⟩ (.int .i64 (-1))) (w.heap.size + 1) (.slice (some ⟨w2.heap.size, 0, none⟩) N N) ms ∧ ∀ j, j < k + 1 → gi ms j = -1) := by
        refine ⟨_, ho.put1 k (-1), fun j hj => ?_⟩
        rw [gi_set]
        have hl := ho.len rfl
        by_cases e : j = k
        · rw [if_pos ⟨e, by omega⟩]
        · rw [if_neg (by omega)]
          exact hmn j (by omega)
      have HB4 := Lib.hid (HPUT.out wr k (-1) hb.out)
      clear hown ho hmn
      go_wp2_with fail
      clear cg1 fg1
      go_roundw
      case rel => exact ⟨k + 1, by have := HLT.out; omega, by go_num, HOW4, HB4⟩
      case measure => have := HLT.out; simp [intOf]; omega
    · obtain rfl : N = k := by omega
      have hd : decide ((N : Int) < (N : Int)) = false := by rw [decide_eq_false_iff_not]; omega
      have HSD : Hid (∃ sd, OwnI wr (w.heap.size + 1) (.slice (some ⟨w2.heap.size, 0, none⟩) N N) sd ∧ MidI N es sd ∧ Closed es sd ∧ DoneTo sd 0) := by
        obtain ⟨ms, ho, hmn⟩ := hown.out
        have hl := ho.len rfl
        have e : ms = List.replicate N (-1) := list_ext_gi (by simp; omega) fun j hj => by rw [hmn j (by omega), gi_rep _ _ _ (by omega)]
        rw [e] at ho
        obtain ⟨m1, m2, m3⟩ := mid_none HRI.out
        exact ⟨_, ho, m1, m2, m3⟩
      have HBW := hb
      clear hlt hk hown hb HO3 HBX
      go_wp2_with fail
      clear hd x0 x1
      go_loopw [6, 7, 8, 9, 10] (fun i _ _ _ _ wr => ∃ k : Nat, k ≤ N ∧ i = .int .i64 k ∧ Hid (∃ sd, OwnI wr (w.heap.size + 1) (.slice (some ⟨w2.heap.size, 0, none⟩) N N) sd ∧ MidI N es sd ∧ Closed es sd ∧ DoneTo sd k) ∧ Hid (Below w.heap.size w wr ∧ wr.cell? ⟨w.heap.size, 0, none⟩ = some (.int .i64 N) ∧ wr.cell? ⟨w.heap.size, 1, none⟩ = some (.slice A n c))) (fun i _ _ _ _ _ => N - (intOf i).toNat)
      case atStart => exact ⟨0, Nat.zero_le _, rfl, HSD, HBW⟩
      case round =>
        obtain ⟨k, hk, rfl, hown, hb⟩ := hrel
        obtain ⟨x0, x1⟩ := hb.out.2
        by_cases hlt : k < N
        · have HLT := Lib.hid hlt
          obtain ⟨sd, ho, hmi, hcl, hdn⟩ := hown.out
          have cg1 := ho.cellAt hlt
          have fg1 := ho.frozAt k
          have hki : (0 : Int) ≤ (k : Int) ∧ (k : Int) < (N : Int) := by omega
          obtain ⟨x, hx⟩ : ∃ x, x = gi sd k := ⟨_, rfl⟩
          rw [← hx] at cg1
          by_cases q : 0 ≤ x
          · have d : decide (0 ≤ x) = true := decide_eq_true q
            have HOW4 : Hid (∃ sd, OwnI wr (w.heap.size + 1) (.slice (some ⟨w2.heap.size, 0, none⟩) N N) sd ∧ MidI N es sd ∧ Closed es sd ∧ DoneTo sd (k + 1)) := ⟨sd, ho, hmi, hcl, fun z hz => by
              by_cases e : z = k
              · rw [e, ← hx]; exact q
              · exact hdn z (by omega)⟩
            clear hown ho hmi hcl hdn hx q
            go_wp2_with fail
            clear cg1 fg1 d
            go_roundw
            case rel => exact ⟨k + 1, by have := HLT.out; omega, by go_num, HOW4, hb⟩
            case measure => have := HLT.out; simp [intOf]; omega
          · have d : decide (0 ≤ x) = false := decide_eq_false q
            obtain ⟨m1, m2, m3⟩ := mid_start hmi hcl hdn hlt (by rw [← hx]; omega)
            have HOW4 : Hid (∃ (ag : Bool) (sd : List Int), OwnI (wr.setCell ⟨w2.heap.size, k, none⟩ (.int .i64 0)) (w.heap.size + 1) (.slice (some ⟨w2.heap.size, 0, none⟩) N N) sd ∧ MidI N es sd ∧ DoneTo sd (k + 1)) := ⟨true, _, ho.put1 k 0, m1, m2⟩
            have HB4 := Lib.hid (HPUT.out wr k 0 hb.out)
            obtain ⟨sd4, HSD4⟩ : ∃ sd, Hid (OwnI (wr.setCell ⟨w2.heap.size, k, none⟩ (.int .i64 0)) (w.heap.size + 1) (.slice (some ⟨w2.heap.size, 0, none⟩) N N) sd ∧ MidI N es sd ∧ DoneTo sd (k + 1)) := ⟨_, ho.put1 k 0, m1, m2⟩
            clear hown ho hmi hcl hdn hx q m1 m2 m3 HOW4
            go_wp2_with fail
            clear cg1 fg1 d x0 x1
            generalize wr.setCell ⟨w2.heap.size, k, none⟩ (.int .i64 0) = w4 at *
            go_loopg [7, 8, 9, 10] (2 * unc N sd4 + 1) (fun m t _ _ _ wr => ∃ (ag : Bool) (sd : List Int), t = .bool ag ∧ Hid (OwnI wr (w.heap.size + 1) (.slice (some ⟨w2.heap.size, 0, none⟩) N N) sd ∧ MidI N es sd ∧ DoneTo sd (k + 1)) ∧ Hid (ag = false → Closed es sd) ∧ Hid (m = 2 * unc N sd + (if ag = true then 1 else 0)) ∧ Hid (Below w.heap.size w wr ∧ wr.cell? ⟨w.heap.size, 0, none⟩ = some (.int .i64 N) ∧ wr.cell? ⟨w.heap.size, 1, none⟩ = some (.slice A n c)))
            case atStart => exact ⟨true, sd4, rfl, HSD4, (fun e => by cases e), rfl, HB4⟩
            case round =>
              obtain ⟨ag, sd, rfl, hsd, hcl, hgk, hb⟩ := hrel
              cases ag
              · have HOW5 : Hid (∃ sd, OwnI wr (w.heap.size + 1) (.slice (some ⟨w2.heap.size, 0, none⟩) N N) sd ∧ MidI N es sd ∧ Closed es sd ∧ DoneTo sd (k + 1)) := ⟨sd, hsd.out.1, hsd.out.2.1, hcl.out rfl, hsd.out.2.2⟩
                go_wp2_with fail
                go_roundw
                case rel => exact ⟨k + 1, by have := HLT.out; omega, by go_num, HOW5, hb⟩
                case measure => have := HLT.out; simp [intOf]; omega
              · have HPS : Hid (PassI N es sd 0 false sd) := pass_start N es sd
                go_wp2_with fail
                go_loopw [7, 8, 9, 10] (fun t i _ _ wr => ∃ (j : Nat) (ag : Bool) (sd' : List Int), j ≤ n ∧ t = .bool ag ∧ i = .int .i64 j ∧ Hid (PassI N es sd j ag sd') ∧ Hid (OwnI wr (w.heap.size + 1) (.slice (some ⟨w2.heap.size, 0, none⟩) N N) sd' ∧ MidI N es sd' ∧ DoneTo sd' (k + 1)) ∧ Hid (Below w.heap.size w wr ∧ wr.cell? ⟨w.heap.size, 0, none⟩ = some (.int .i64 N) ∧ wr.cell? ⟨w.heap.size, 1, none⟩ = some (.slice A n c))) (fun _ i _ _ _ => n - (intOf i).toNat)
                case atStart => exact ⟨0, false, sd, Nat.zero_le _, rfl, rfl, HPS, hsd, hb⟩
                case round =>
                  obtain ⟨j, ag, sd', hj, rfl, rfl, hps, hsd', hb⟩ := hrel
                  obtain ⟨x0, x1⟩ := hb.out.2
                  by_cases hjn : j < n
                  · have HJN := Lib.hid hjn
                    obtain ⟨x, y, he, hxy, hyN, hnx⟩ := HED.out j hjn
                    obtain ⟨b, o, rfl, hc⟩ := (HE.out.below hb.out.1).2.2 (by omega)
                    obtain ⟨hc1, hc2⟩ := hc j hjn
                    rw [he] at hc1 hc2
                    simp only [] at hc1 hc2
                    have HEJ := Lib.hid he
                    have HNX := Lib.hid hnx
                    have hxN : x < N := by omega
                    have HXY := Lib.hid (And.intro hxN (And.intro hyN hxy))
                    have hji : (0 : Int) ≤ (j : Int) ∧ (j : Int) < (n : Int) := by omega
                    have hxi : (0 : Int) ≤ (x : Int) ∧ (x : Int) < (N : Int) := by omega
                    have hyi : (0 : Int) ≤ (y : Int) ∧ (y : Int) < (N : Int) := by omega
                    clear hc he hnx hxy
                    go_wp2_with fail
                    go_quiet (fail)
                    rename_i nq
                    have HD : Hid (RW wr (wr.drewN nq)) := ((Drawn.refl wr).step nq).below _
                    have HB5 : Hid (Below w.heap.size w (wr.drewN nq) ∧ (wr.drewN nq).cell? ⟨w.heap.size, 0, none⟩ = some (.int .i64 N) ∧ (wr.drewN nq).cell? ⟨w.heap.size, 1, none⟩ = some (.slice (some ⟨b, o, none⟩) n c)) := ⟨bel_trans hb.out.1 HD.out, later2 HD.out hb.out.2⟩
                    have HO5 := Lib.hid (hsd'.out.1.later HD.out)
                    clear x0 x1 hc1 hc2
                    generalize wr.drewN nq = w5 at *
                    have cx := HO5.out.cellAt hxN
                    have cy := HO5.out.cellAt hyN
                    have fx := HO5.out.frozAt x
                    have fy := HO5.out.frozAt y
                    obtain ⟨p, hp⟩ : ∃ p, p = gi sd' x := ⟨_, rfl⟩
                    obtain ⟨r, hr2⟩ : ∃ r, r = gi sd' y := ⟨_, rfl⟩
                    rw [← hp] at cx
                    rw [← hr2] at cy
                    have hpv := hsd'.out.2.1.val x hxN
                    have hrv := hsd'.out.2.1.val y hyN
                    rw [← hp] at hpv
                    rw [← hr2] at hrv
                    have hpb : p ≤ 1 ∧ -1 ≤ p := by omega
                    have hrb : r ≤ 1 ∧ -1 ≤ r := by omega
                    have HPR := Lib.hid (And.intro hp hr2)
                    have w1 : IntKind.i64.wrap (1 - p) = 1 - p := by rw [IntKind.wrap_i64]; omega
                    have w1' : IntKind.i64.wrap (1 - r) = 1 - r := by rw [IntKind.wrap_i64]; omega
                    clear hp hr2 hpv hrv
                    by_cases q1 : 0 ≤ p
                    · have d1 : decide (0 ≤ p) = true := decide_eq_true q1
                      have d1' : decide (p < 0) = false := decide_eq_false (by omega)
                      by_cases q2 : r < 0
                      · have d2 : decide (r < 0) = true := decide_eq_true q2
                        have hv1 : 0 ≤ 1 - p := by omega
                        have e1 : 1 - p = 1 - gi sd' x := by rw [HPR.out.1]
                        have HMN : Hid (MidI N es (sd'.set y (1 - p))) := by
                          have := mid_put HRI.out hsd'.out.2.1 HNX.out (by rw [← HPR.out.1]; exact q1) (by rw [← HPR.out.2]; exact q2)
                          rw [← HPR.out.1] at this
                          exact this
                        have HDN : Hid (DoneTo (sd'.set y (1 - p)) (k + 1)) := done_set hsd'.out.2.2 hv1
                        have HPN : Hid (PassI N es sd (j + 1) true (sd'.set y (1 - p))) := pass_turn hps.out hsd'.out.2.1.len hyN (by rw [← HPR.out.2]; exact q2) hv1
                        have HON : Hid (OwnI (w5.setCell ⟨w2.heap.size, y, none⟩ (.int .i64 ((1 - p)))) (w.heap.size + 1) (.slice (some ⟨w2.heap.size, 0, none⟩) N N) (sd'.set y (1 - p)) ∧ MidI N es (sd'.set y (1 - p)) ∧ DoneTo (sd'.set y (1 - p)) (k + 1)) := ⟨HO5.out.put1 y _, HMN.out, HDN.out⟩
                        have HBN := Lib.hid (HPUT.out w5 y ((1 - p)) HB5.out)
                        have cy2 := (HO5.out.put1 y (1 - p)).cellAt hyN
                        have cx2 := (HO5.out.put1 y (1 - p)).cellAt hxN
                        rw [gi_set, if_pos ⟨rfl, by rw [hsd'.out.2.1.len]; exact hyN⟩] at cy2
                        rw [gi_set, if_neg (by have := HXY.out; omega), ← HPR.out.1] at cx2
                        have d3 : decide (0 ≤ 1 - p) = true := decide_eq_true hv1
                        clear q1 q2 e1
                        go_wp2_with fail
                        clear cx cy fx fy cx2 cy2 w1 w1' d1 d1' d2 d3
                        go_roundw
                        case rel => exact ⟨j + 1, true, _, by have := HJN.out; omega, rfl, by go_num, HPN, HON, HBN⟩
                        case measure => have := HJN.out; simp [intOf]; omega
                      · have d2 : decide (r < 0) = false := decide_eq_false q2
                        have d3 : decide (0 ≤ r) = true := decide_eq_true (by omega)
                        have HPN : Hid (PassI N es sd (j + 1) ag sd') := pass_keep hps.out HEJ.out (by rw [← HPR.out.1, ← HPR.out.2]; omega)
                        have HSN : Hid (OwnI w5 (w.heap.size + 1) (.slice (some ⟨w2.heap.size, 0, none⟩) N N) sd' ∧ MidI N es sd' ∧ DoneTo sd' (k + 1)) := ⟨HO5.out, hsd'.out.2.1, hsd'.out.2.2⟩
                        clear q1 q2
                        go_wp2_with fail
                        clear cx cy fx fy w1 w1' d1 d1' d2 d3
                        go_roundw
                        case rel => exact ⟨j + 1, ag, sd', by have := HJN.out; omega, rfl, by go_num, HPN, HSN, HB5⟩
                        case measure => have := HJN.out; simp [intOf]; omega
                    · have d1 : decide (0 ≤ p) = false := decide_eq_false q1
                      have d1' : decide (p < 0) = true := decide_eq_true (by omega)
                      by_cases q2 : r < 0
                      · have d2 : decide (r < 0) = true := decide_eq_true q2
                        have d3 : decide (0 ≤ r) = false := decide_eq_false (by omega)
                        have HPN : Hid (PassI N es sd (j + 1) ag sd') := pass_keep hps.out HEJ.out (by rw [← HPR.out.1, ← HPR.out.2]; omega)
                        have HSN : Hid (OwnI w5 (w.heap.size + 1) (.slice (some ⟨w2.heap.size, 0, none⟩) N N) sd' ∧ MidI N es sd' ∧ DoneTo sd' (k + 1)) := ⟨HO5.out, hsd'.out.2.1, hsd'.out.2.2⟩
                        clear q1 q2
                        go_wp2_with fail
                        clear cx cy fx fy w1 w1' d1 d1' d2 d3
                        go_roundw
                        case rel => exact ⟨j + 1, ag, sd', by have := HJN.out; omega, rfl, by go_num, HPN, HSN, HB5⟩
                        case measure => have := HJN.out; simp [intOf]; omega
                      · have d2 : decide (r < 0) = false := decide_eq_false q2
                        have d3 : decide (0 ≤ r) = true := decide_eq_true (by omega)
                        have hv1 : 0 ≤ 1 - r := by omega
                        have HMN : Hid (MidI N es (sd'.set x (1 - r))) := by
                          have := mid_put HRI.out hsd'.out.2.1 HNX.out.symm (by rw [← HPR.out.2]; omega) (by rw [← HPR.out.1]; omega)
                          rw [← HPR.out.2] at this
                          exact this
                        have HDN : Hid (DoneTo (sd'.set x (1 - r)) (k + 1)) := done_set hsd'.out.2.2 hv1
                        have HPN : Hid (PassI N es sd (j + 1) true (sd'.set x (1 - r))) := pass_turn hps.out hsd'.out.2.1.len hxN (by rw [← HPR.out.1]; omega) hv1
                        have HON : Hid (OwnI (w5.setCell ⟨w2.heap.size, x, none⟩ (.int .i64 ((1 - r)))) (w.heap.size + 1) (.slice (some ⟨w2.heap.size, 0, none⟩) N N) (sd'.set x (1 - r)) ∧ MidI N es (sd'.set x (1 - r)) ∧ DoneTo (sd'.set x (1 - r)) (k + 1)) := ⟨HO5.out.put1 x _, HMN.out, HDN.out⟩
                        have HBN := Lib.hid (HPUT.out w5 x ((1 - r)) HB5.out)
                        clear q1 q2
                        go_wp2_with fail
                        clear cx cy fx fy w1 w1' d1 d1' d2 d3
                        go_roundw
                        case rel => exact ⟨j + 1, true, _, by have := HJN.out; omega, rfl, by go_num, HPN, HON, HBN⟩
                        case measure => have := HJN.out; simp [intOf]; omega
                  · obtain rfl : n = j := by omega
                    have hd : decide ((n : Int) < (n : Int)) = false := by rw [decide_eq_false_iff_not]; omega
                    have HCL : Hid (ag = false → Closed es sd') := fun e => by
                      subst e
                      have h1 := hps.out
                      rw [← HEL.out] at h1
                      exact (pass_closed HRI.out h1).2
                    have HLT2 : Hid (2 * unc N sd' + (if ag = true then 1 else 0) < 2 * unc N sd + 1) := by
                      unfold Hid
                      cases ag
                      · have := (hps.out.2 rfl).1
                        rw [this]
                        simp
                      · have := hps.out.1 rfl
                        simp
                        omega
                    clear hjn hj
                    go_wp2_with fail
                    clear hd x0 x1
                    go_roundg (2 * unc N sd' + (if ag = true then 1 else 0))
                    case rel => exact ⟨ag, sd', rfl, hsd', HCL, rfl, hb⟩
                    case measure => have h1 := hgk.out; have h2 := HLT2.out; simp at h1; omega
        · obtain rfl : N = k := by omega
          have hd : decide ((N : Int) < (N : Int)) = false := by rw [decide_eq_false_iff_not]; omega
          obtain ⟨sd, HSDF⟩ : ∃ sd, Hid (OwnI wr (w.heap.size + 1) (.slice (some ⟨w2.heap.size, 0, none⟩) N N) sd ∧ MidI N es sd ∧ Closed es sd ∧ DoneTo sd N) := hown.out
          have HBF := hb
          have hRF : Hid (RW wr wr) := RW.refl wr
          have HQ0 : Hid (∀ j, j < 0 → ∀ x y : Nat, ge es j = ((x : Int), (y : Int)) → gi sd x ≠ gi sd y) := fun j hj => absurd hj (by omega)
          clear hlt hk hown hb
          go_wp2_with fail
          clear hd x0 x1
          go_loopw [11] (fun i wq => ∃ j : Nat, j ≤ n ∧ i = .int .i64 j ∧ Hid (∀ i, i < j → ∀ x y : Nat, ge es i = ((x : Int), (y : Int)) → gi sd x ≠ gi sd y) ∧ Hid (RW wr wq)) (fun i _ => n - (intOf i).toNat)
          case atStart => exact ⟨0, Nat.zero_le _, rfl, HQ0, hRF⟩
          case round =>
            obtain ⟨j, hj, rfl, hne, hrw⟩ := hrel
            obtain ⟨x0, x1⟩ := later2 hrw.out HBF.out.2
            have HBR := Lib.hid (bel_trans HBF.out.1 hrw.out)
            have HO5 := Lib.hid (HSDF.out.1.later hrw.out)
            by_cases hjn : j < n
            · have HJN := Lib.hid hjn
              obtain ⟨x, y, he, hxy, hyN, hnx⟩ := HED.out j hjn
              obtain ⟨b, o, rfl, hc⟩ := (HE.out.below HBR.out).2.2 (by omega)
              obtain ⟨hc1, hc2⟩ := hc j hjn
              rw [he] at hc1 hc2
              simp only [] at hc1 hc2
              have hxN : x < N := by omega
              have cx := HO5.out.cellAt hxN
              have cy := HO5.out.cellAt hyN
              have hji : (0 : Int) ≤ (j : Int) ∧ (j : Int) < (n : Int) := by omega
              have hxi : (0 : Int) ≤ (x : Int) ∧ (x : Int) < (N : Int) := by omega
              have hyi : (0 : Int) ≤ (y : Int) ∧ (y : Int) < (N : Int) := by omega
              have HEJ := Lib.hid he
              have HCLA : Hid (gi sd x = gi sd y → ∀ s, ¬ TwoCol N es s) := fun e s => clash_none HRI.out hnx (HSDF.out.2.1.root x hxN (HSDF.out.2.2.2 x hxN)) (HSDF.out.2.1.root y hyN (HSDF.out.2.2.2 y hyN)) e
              obtain ⟨p, hp⟩ : ∃ p, p = gi sd x := ⟨_, rfl⟩
              obtain ⟨r, hr2⟩ : ∃ r, r = gi sd y := ⟨_, rfl⟩
              rw [← hp] at cx HCLA
              rw [← hr2] at cy HCLA
              have HPR := Lib.hid (And.intro hp hr2)
              clear hc he hnx hxy hp hr2
              cases q : (p == r)
              · have HNE : Hid (∀ i, i < j + 1 → ∀ x y : Nat, ge es i = ((x : Int), (y : Int)) → gi sd x ≠ gi sd y) := fun i hi a b hab => by
                  by_cases e : i = j
                  · subst e
                    rw [HEJ.out] at hab
                    injection hab with h1 h2
                    have h3 : x = a := by omega
                    have h4 : y = b := by omega
                    subst h3 h4
                    rw [← HPR.out.1, ← HPR.out.2]
                    simpa using q
                  · exact hne.out i (by omega) a b hab
                go_wp2_with fail
                go_quiet (fail)
                rename_i nq
                have HR1 := Lib.hid (RW.later hrw.out (((Drawn.refl _).step nq).below _))
                go_wp2_with fail
                go_roundw
                case rel => exact ⟨j + 1, by have := HJN.out; omega, by go_num, HNE, HR1⟩
                case measure => have := HJN.out; simp [intOf]; omega
              · have HNO : Hid (∀ s, ¬ TwoCol N es s) := HCLA.out (by simpa using q)
                go_wp2_with fail
                go_quiet (fail)
                rename_i nq
                have HF := Lib.hid (bel_trans HBF.out.1 (RW.later hrw.out (((Drawn.refl _).step nq).below _)))
                go_wp2_with fail
                go_ret2
                exact .inr ⟨rfl, HNO.out, HF.out⟩
            · obtain rfl : n = j := by omega
              have hd : decide ((n : Int) < (n : Int)) = false := by rw [decide_eq_false_iff_not]; omega
              have HOK : Hid (SideOk N es sd) := mid_two HRI.out HSDF.out.2.1 HSDF.out.2.2.2 (fun j hj => hne.out j (by have := HEL.out; omega))
              clear hjn hj
              go_wp2_with fail
              go_ret2
              exact .inl ⟨_, sd, rfl, row_weaken HO5.out (Nat.le_succ _), HOK.out, HBR.out⟩

/- The walk of the statement SidesTell. -/
/-- What Of tells, in every case. -/
def SPl (N : Int) (es : List Ed) (xs r : List Int) (er : Int) : Prop :=
  (rightB N es = false ∧ xs = [] ∧ r = [] ∧ er = 3) ∨ (∃ M : Nat, N = M ∧ rightB N es = true ∧ ((SideOk M es xs ∧ r = [] ∧ er = 0) ∨ (xs = [] ∧ OddRing es r ∧ er = 10)))
def RPl (N : Int) (es : List Ed) (xs : List Int) (er : Int) : Prop :=
  (rightB N es = false ∧ xs = [] ∧ er = 3) ∨ (∃ M : Nat, N = M ∧ rightB N es = true ∧ ((SideOk M es xs ∧ er = 0) ∨ (xs = [] ∧ (∀ s, ¬ TwoCol M es s) ∧ er = 10)))
theorem pl_same {N : Int} {es : List Ed} {xs r ys : List Int} {er er' : Int} (h : SPl N es xs r er) (k : RPl N es ys er') : xs = ys ∧ er = er' := by
  rcases h with ⟨h1, h2, h3, h4⟩ | ⟨M, rfl, h1, h2⟩
  · rcases k with ⟨k1, k2, k3⟩ | ⟨M, -, k1, -⟩
    · exact ⟨by rw [h2, k2], by rw [h4, k3]⟩
    · rw [h1] at k1; cases k1
  · have hr := (rightB_iff.1 h1).2.2.2
    rcases k with ⟨k1, -⟩ | ⟨M', e, -, k2⟩
    · rw [h1] at k1; cases k1
    · have e2 : M' = M := by omega
      subst e2
      rcases h2 with ⟨a1, a2, a3⟩ | ⟨a1, a2, a3⟩
      · rcases k2 with ⟨b1, b2⟩ | ⟨b1, b2, b3⟩
        · exact ⟨side_unique hr a1 b1, by rw [a3, b2]⟩
        · exact absurd a1.1 (b2 _)
      · rcases k2 with ⟨b1, b2⟩ | ⟨b1, b2, b3⟩
        · exact absurd b1.1 (odd_none hr a2)
        · exact ⟨by rw [a1, b1], by rw [a3, b3]⟩
theorem pl_end {N : Int} {es : List Ed} {xs r : List Int} {er : Int} (h : SPl N es xs r er) : (er = 10 ∧ isCycB N es r = true ∧ r.length % 2 = 1) ∨ ((er == 10) = false ∧ r.length = 0) := by
  rcases h with ⟨h1, h2, h3, h4⟩ | ⟨M, rfl, h1, ⟨a1, a2, a3⟩ | ⟨a1, a2, a3⟩⟩
  · exact .inr ⟨by rw [h4]; rfl, by rw [h3]; rfl⟩
  · exact .inr ⟨by rw [a3]; rfl, by rw [a2]; rfl⟩
  · exact .inl ⟨a3, (cyc_ring h1).2 ⟨a2.1, a2.2.1⟩, a2.2.2⟩
theorem sof_full {A : Option Addr} {n c : Nat} {es : List Ed} (N : Int) (w : World) (h : ReadE w A n es) :
    Calls Try.prog 59 #[.agg #[.int .i64 N, .slice A n c]] w fun e w' => ∃ A6 n6 c6 xs A7 n7 c7 r er, e = .returned (.tuple #[.slice A6 n6 c6, .slice A7 n7 c7, .int .i64 er]) ∧ ReadI w' A6 n6 xs ∧ ReadI w' A7 n7 r ∧ n7 ≤ c7 ∧ SPl N es xs r er ∧ Below w.heap.size w w' := by
  cases hR : rightB N es
  · exact (sof_bad N w h hR).mono fun e w' q => ⟨none, 0, 0, [], none, 0, 0, [], 3, q.1, ReadI.nil _ _, ReadI.nil _ _, Nat.le_refl _, .inl ⟨hR, rfl, rfl, rfl⟩, q.2⟩
  · have h0 := (rightB_iff.1 hR).1
    obtain ⟨M, rfl⟩ : ∃ M : Nat, N = M := ⟨N.toNat, by omega⟩
    refine (sof_any w h hR).mono fun e w' q => ?_
    rcases q with ⟨v, t, e, o, hs, hb⟩ | ⟨v, r, e, o, hs, hb⟩
    · obtain ⟨A, c, rfl, -, -, hr⟩ := OwnI.read o
      exact ⟨A, _, c, t, none, 0, 0, [], 0, e, hr, ReadI.nil _ _, Nat.le_refl _, .inr ⟨M, rfl, hR, .inl ⟨hs, rfl, rfl⟩⟩, hb⟩
    · obtain ⟨A, c, rfl, hc, -, hr⟩ := OwnI.read o
      exact ⟨none, 0, 0, [], A, _, c, r, 10, e, ReadI.nil _ _, hr, hc, .inr ⟨M, rfl, hR, .inr ⟨rfl, hs, rfl⟩⟩, hb⟩
theorem rsides_full {A : Option Addr} {n c : Nat} {es : List Ed} (N : Int) (w : World) (h : ReadE w A n es) :
    Calls Try.prog 60 #[.agg #[.int .i64 N, .slice A n c]] w fun e w' => ∃ A6 n6 c6 xs er, e = .returned (.tuple #[.slice A6 n6 c6, .int .i64 er]) ∧ ReadI w' A6 n6 xs ∧ RPl N es xs er ∧ Below w.heap.size w w' := by
  cases hR : rightB N es
  · exact (rsides_bad N w h hR).mono fun e w' q => ⟨none, 0, 0, [], 3, q.1, ReadI.nil _ _, .inl ⟨hR, rfl, rfl⟩, q.2⟩
  · have h0 := (rightB_iff.1 hR).1
    obtain ⟨M, rfl⟩ : ∃ M : Nat, N = M := ⟨N.toNat, by omega⟩
    refine (rsides_any w h hR).mono fun e w' q => ?_
    rcases q with ⟨v, t, e, o, hs, hb⟩ | ⟨e, hs, hb⟩
    · obtain ⟨A, c, rfl, -, -, hr⟩ := OwnI.read o
      exact ⟨A, _, c, t, 0, e, hr, .inr ⟨M, rfl, hR, .inl ⟨hs, rfl⟩⟩, hb⟩
    · exact ⟨none, 0, 0, [], 10, e, ReadI.nil _ _, .inr ⟨M, rfl, hR, .inr ⟨rfl, hs, rfl⟩⟩, hb⟩

set_option maxHeartbeats 16000000 in
set_option maxRecDepth 100000 in
theorem sidesTell_any {A B : Option Addr} {n c m d : Nat} {es : List Ed} {l : List Int} (N : Int) (w0 : World) (h : ReadE w0 A n es) (hl : ReadI w0 B m l) (hmd : m ≤ d) (hbd : ∀ j, j < m → -9223372036854775808 ≤ gi l j ∧ gi l j ≤ 9223372036854775807) :
    Calls Try.prog 14 #[.agg #[.int .i64 N, .slice A n c], .slice B m d] w0 fun e w' => e = .returned (.bool true) ∧ Below w0.heap.size w0 w' := by
  have hn := h.2.1
  have hm := hl.2.1
  have HAW : Hid (∀ W, Calls Try.prog 58 #[] W fun e w' => e = .returned (.bool true) ∧ Below W.heap.size W w') := fun W => awake4_any W
  have S0 : Hid (RW w0 (w0.alloc (gcells N A n c))) := bel_alloc _ _
  by_cases qd1 : (60 : Int) < (n : Int)
  · have d1 : decide ((60 : Int) < (n : Int)) = true := decide_eq_true qd1
    clear qd1
    go_enter Try.func14, Try.ntmps14
    go_wp2_with fail
    refine (HAW.out _).mono ?_
    rintro e w1 ⟨rfl, hb⟩
    have HF := Lib.hid (bel_trans S0.out hb)
    clear hb
    go_wp2_with fail
    go_ret
    exact ⟨rfl, HF.out⟩
  have d1 : decide ((60 : Int) < (n : Int)) = false := decide_eq_false qd1
  by_cases qd2 : (200 : Int) < N
  · have d2 : decide ((200 : Int) < N) = true := decide_eq_true qd2
    clear qd2
    go_enter Try.func14, Try.ntmps14
    go_wp2_with fail
    refine (HAW.out _).mono ?_
    rintro e w1 ⟨rfl, hb⟩
    have HF := Lib.hid (bel_trans S0.out hb)
    clear hb
    go_wp2_with fail
    go_ret
    exact ⟨rfl, HF.out⟩
  have d2 : decide ((200 : Int) < N) = false := decide_eq_false qd2
  by_cases qd3 : (60 : Int) < (m : Int)
  · have d3 : decide ((60 : Int) < (m : Int)) = true := decide_eq_true qd3
    clear qd3
    go_enter Try.func14, Try.ntmps14
    go_wp2_with fail
    refine (HAW.out _).mono ?_
    rintro e w1 ⟨rfl, hb⟩
    have HF := Lib.hid (bel_trans S0.out hb)
    clear hb
    go_wp2_with fail
    go_ret
    exact ⟨rfl, HF.out⟩
  have d3 : decide ((60 : Int) < (m : Int)) = false := decide_eq_false qd3
  have HNN : Hid (n ≤ 60 ∧ m ≤ 60) := by unfold Hid; omega
  have HX := Lib.hid (boxg w0 N A n c)
  have HE := Lib.hid h
  have HL := Lib.hid hl
  have HBD := Lib.hid hbd
  have HMD := Lib.hid hmd
  clear h hl hbd hmd qd1 qd2 qd3
  go_enter Try.func14, Try.ntmps14
  go_wp2_with fail
  clear d1 d2 d3
  generalize w0.alloc (gcells N A n c) = w1 at *
  refine (ownI_any (c := d) 71 w1 (HL.out.below S0.out) (by have := HNN.out; omega)).mono ?_
  rintro e w2 ⟨ga, rfl, RA, hga, s1⟩
  have S1 : Hid (RW w1 w2) := s1
  have HX2 := Lib.hid (later2 s1 HX.out)
  have HB2 := Lib.hid (bel_trans S0.out S1.out)
  have HPA := Lib.hid (padI_read RA.out HL.out.1 (by have := HNN.out; omega))
  clear s1 hga
  obtain ⟨x0, x1⟩ := HX2.out
  go_wp2_with fail
  refine (sof_full (c := c) N w2 (HE.out.below HB2.out)).mono ?_
  rintro e w4 ⟨A6, n6, c6, xs, A7, n7, c7, r, er, rfl, rx, rr, hc7, hpl, hb4⟩
  have RX := Lib.hid rx
  have RR := Lib.hid rr
  have HC7 := Lib.hid hc7
  have HPL := Lib.hid hpl
  have HB4 := Lib.hid hb4
  have HBB4 := Lib.hid (bel_trans HB2.out hb4)
  obtain ⟨y0, y1⟩ := later2 hb4 HX2.out
  clear rx rr hpl hb4 x0 x1 hc7
  go_wp2_with fail
  refine (rsides_full (c := c) N w4 (HE.out.below HBB4.out)).mono ?_
  rintro e w5 ⟨A8, n8, c8, ys, er2, rfl, ry, hpr, hb5⟩
  obtain ⟨e1, e2⟩ := pl_same HPL.out hpr
  subst e1 e2
  have RY := Lib.hid ry
  have RX5 := Lib.hid (RX.out.below hb5)
  have RR5 := Lib.hid (RR.out.below hb5)
  have HBB := Lib.hid (bel_trans HBB4.out hb5)
  have HX5 := Lib.hid (later2 (bel_trans HB4.out hb5) HX2.out)
  have HE5 := Lib.hid (HE.out.below HBB.out)
  have HL5 := Lib.hid (HL.out.below HBB.out)
  have HPA5 := Lib.hid (HPA.out.below (bel_trans HB4.out hb5))
  have RA5 := Lib.hid (RA.out.later (bel_trans HB4.out hb5))
  clear ry hpr hb5 y0 y1
  have hca : ∀ W, RW w5 W → Calls Try.prog 61 #[.agg #[.int .i64 N, .slice A n c], .slice (some ⟨ga, 0, none⟩) m (m + 3)] W fun e w' => e = .returned (.bool (isCycB N es l)) ∧ Below W.heap.size W w' := fun W r => siscyc_any N W (HE5.out.below r) (HPA5.out.below r) (by have := HNN.out; omega) HBD.out
  have hcr : ∀ W, RW w5 W → Calls Try.prog 62 #[.agg #[.int .i64 N, .slice A n c], .slice B m d] W fun e w' => e = .returned (.bool (isCycB N es l)) ∧ Below W.heap.size W w' := fun W r => riscyc_any N W (HE5.out.below r) (HL5.out.below r) HMD.out
  generalize isCycB N es l = cy at *
  have HCA := Lib.hid hca
  have HCR := Lib.hid hcr
  clear hca hcr
  go_wp2_with fail
  go_region_held3 (fun w' => w'.cell? ⟨w0.heap.size, 0, none⟩ = some (.int .i64 N) ∧ w'.cell? ⟨w0.heap.size, 1, none⟩ = some (.slice A n c) ∧ RW w5 w')
    (first | assumption | exact RW.two HX5.out (RW.refl w5) | exact RW.two HX5.out (RW.refl w5).drew | exact RW.two HX5.out (RW.later (And.right (And.right (by assumption))) hb9) | exact RW.two HX5.out (RW.later (And.right (And.right (by assumption))) hb10) | exact RW.two HX5.out (RW.later (And.right (And.right (by assumption))) hb11) | exact RW.two HX5.out (RW.later (And.right (And.right (by assumption))) hb12) | exact RW.two HX5.out (RW.later (And.right (And.right (by assumption))) hb13) | fail)
    (first
      | (go_at_call 58; refine (HAW.out _).mono ?_; rintro e w9 ⟨rfl, hb9⟩)
      | (go_at_call 23; refine (plain_same _ (RX5.out.below (And.right (And.right (by assumption)))) (RY.out.below (And.right (And.right (by assumption))))).mono ?_; rintro e w10 ⟨rfl, hb10⟩)
      | (go_at_call 61; refine (HCA.out _ (And.right (And.right (by assumption)))).mono ?_; rintro e w11 ⟨rfl, hb11⟩)
      | (go_at_call 62; refine (HCR.out _ (And.right (And.right (by assumption)))).mono ?_; rintro e w12 ⟨rfl, hb12⟩)
      | (go_at_call 34; refine (keptI_any (c := d) 71 _ (HL5.out.below (And.right (And.right (by assumption)))) (RA5.out.later (And.right (And.right (by assumption)))) (by have := HNN.out; omega)).mono ?_; rintro e w13 ⟨rfl, hb13⟩)
      | fail)
  have hfin : RW w5 w13 := And.right (And.right (by assumption))
  have HF := Lib.hid (bel_trans HBB.out hfin)
  have HXF := Lib.hid (later2 hfin HX5.out)
  have HEF := Lib.hid (HE5.out.below hfin)
  have HRF := Lib.hid (RR5.out.below hfin)
  have HE9 := Lib.hid (pl_end HPL.out)
  rcases HE9.out with ⟨e10, hcb, hodd⟩ | ⟨e10, h0⟩
  · subst e10
    have hn7 : n7 % 2 = 1 := by rw [← RR.out.1]; exact hodd
    have tm1 : ((n7 : Int)).tmod 2 = 1 := by rw [Int.tmod_eq_emod_of_nonneg (by omega)]; omega
    have tm2 : ((n7 : Int)) % 2 = 1 := by omega
    have hfi := riscyc_any (c := c) N w13 HEF.out HRF.out HC7.out
    rw [hcb] at hfi
    obtain ⟨z0, z1⟩ := HXF.out
    clear HE9 hodd hcb hn7
    go_wp2_with fail
    refine hfi.mono ?_
    rintro e w14 ⟨rfl, hb14⟩
    have HF2 := Lib.hid (bel_trans HF.out hb14)
    clear hfi hb14 z0 z1
    go_wp2_with fail
    go_ret
    exact ⟨rfl, HF2.out⟩
  · have hn7 : n7 = 0 := by rw [← RR.out.1]; exact h0
    subst hn7
    clear HE9 h0
    go_wp2_with fail
    go_ret
    exact ⟨rfl, HF.out⟩

set_option maxRecDepth 100000 in
theorem sidesTell_walk {A B : Option Addr} {n c m d : Nat} {es : List Ed} {l : List Int} {N : Int} (w : World) (h : ReadE w A n es ∧ n ≤ c) (hl : ReadI w B m l ∧ m ≤ d ∧ ∀ j, j < m → -9223372036854775808 ≤ gi l j ∧ gi l j ≤ 9223372036854775807) :
    Calls Try.prog 14 #[.agg #[.int .i64 N, .slice A n c], .slice B m d] w fun e w' => e = .returned (.bool true) ∧ Below w.heap.size w w' := sidesTell_any N w h.1 hl.1 hl.2.1 hl.2.2

end Go.Proofs.Ytnldfjoadmehcaa
