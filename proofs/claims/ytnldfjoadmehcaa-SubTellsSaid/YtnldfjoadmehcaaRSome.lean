/- The walks of the reference's some, Keep and Without. -/
import Derived.Test.YtnldfjoadmehcaaOwn
import Derived.Test.YtnldfjoadmehcaaKeep
set_option linter.unusedVariables false
set_option linter.unusedSimpArgs false
namespace Go.Proofs.Ytnldfjoadmehcaa
open Go.RowKit

theorem GZ.start (w : World) (N : Int) (A : Option Addr) (n c : Nat) : GZ w N A n c ((w.alloc (gcells N A n c)).alloc (gcells 0 none 0 0)) := Below.refl _ _
theorem keepR_bad {N : Int} {es : List Ed} {l : List Int} {so : Bool} {e : Int} (h : namedE N es l = e) (he : e ≠ 0) : keepR N es l so = (0, [], [], e) := by
  unfold keepR
  rw [if_neg (by rw [h]; exact he), h]

set_option maxHeartbeats 8000000 in
set_option maxRecDepth 100000 in
theorem rsome_any {A B : Option Addr} {n c m d : Nat} {es : List Ed} {l : List Int} (N : Int) (so : Bool) (w : World) (h : ReadE w A n es) (hl : ReadI w B m l) (hmd : m ≤ d) :
    Calls Try.prog 72 #[.agg #[.int .i64 N, .slice A n c], .slice B m d, .bool so] w (KeepQ (keepR N es l so) w) := by
  have hn := h.2.1
  have hm := hl.2.1
  have H1 := Lib.hid h.1
  have L1 := Lib.hid hl.1
  have hz0 := GZ.start w N A n c
  have HZ0 := Lib.hid hz0
  have hg := right_any (c := c) N _ (h.below (below_box hz0.gb))
  clear hz0
  cases hr : rightB N es
  · have hP : Hid (keepR N es l so = (0, [], [], 3)) := keepR_bad (by unfold namedE; rw [if_pos hr]) (by decide)
    rw [hr] at hg
    clear hr
    go_enter Try.func72, Try.ntmps72
    go_wp2_with fail
    refine hg.mono ?_
    rintro e w1 ⟨rfl, hb1⟩
    have z1 := HZ0.out.later hb1
    obtain ⟨r0, r1, r2, r3⟩ := GZ.res z1
    have Z1 := Lib.hid z1
    clear z1 hb1 hg
    have HEND : Hid (((w1.setCell ⟨w.heap.size + 1, 0, none⟩ (.int .i64 0)).setCell ⟨w.heap.size + 1, 1, none⟩ (.slice none 0 0)).heap[w.heap.size + 1]? = some (gcells 0 none 0 0)) := Go.Proofs.YtnldfjoadmehcaaW.PrintWords.blk_put (Go.Proofs.YtnldfjoadmehcaaW.PrintWords.blk_put (GZ.blk Z1.out) 0 _ rfl) 1 _ rfl
    have HBEL : Hid (Below w.heap.size w ((w1.setCell ⟨w.heap.size + 1, 0, none⟩ (.int .i64 0)).setCell ⟨w.heap.size + 1, 1, none⟩ (.slice none 0 0))) := Below.setCell (Below.setCell (below_box (GZ.gb Z1.out)) (by simp) _) (by simp) _
    go_wp2_with fail
    (try simp only [Exit.inBlock, Exit.then])
    refine bodyPost_ret (Go.Proofs.YtnldfjoadmehcaaW.PrintWords.results_ctt rfl _ _ (w.heap.size + 1) 26 #[.int .i64 0, .slice none 0 0] (0, 0) _ rfl HEND.out Try.underlying26 rfl (by kernel_rfl)) rfl ?_
    rw [hP.out]
    exact ⟨_, _, rfl, OwnE.nil _ _, World.ownsRow_nil _ _ _ _, HBEL.out⟩
  rw [hr] at hg
  have HR := Lib.hid hr
  have HP1 : Hid (namedE N es l = if l.any (fun x => !isB N x) then 4 else if l.Nodup then 0 else 6) := by unfold Hid namedE; rw [if_neg (by rw [hr]; decide)]
  obtain ⟨M, rfl⟩ : ∃ M : Nat, N = M := ⟨N.toNat, by have := (rightB_iff.1 hr).1; omega⟩
  have hM : Hid (M ≤ 4096) := by have := (rightB_iff.1 hr).2.1; unfold Hid; omega
  clear hr
  go_enter Try.func72, Try.ntmps72
  go_wp2_with fail
  refine hg.mono ?_
  rintro e w1 ⟨rfl, hb1⟩
  have Z1 := Lib.hid (HZ0.out.later hb1)
  clear hb1 hg
  go_wp2_with fail
  go_loopw [9] (fun i wr => ∃ k : Nat, k ≤ m ∧ i = .int .i64 k ∧ Hid (∀ j, j < k → isB M (gi l j) = true) ∧ Hid (GZ w M A n c wr)) (fun i _ => m - (intOf i).toNat)
  case atStart => exact ⟨0, Nat.zero_le _, rfl, fun j hj => absurd hj (by omega), Z1⟩
  case round =>
    obtain ⟨k, hk, rfl, hall, hgz⟩ := hrel
    obtain ⟨g0, g1⟩ := gbox hgz.out.gb
    by_cases hlt : k < m
    · obtain ⟨b, o, rfl, hc⟩ := (hl.below (below_box hgz.out.gb)).2.2 (by omega)
      have hck := hc k hlt
      have HS1 : Hid (wr.cell? ⟨w.heap.size, 0, none⟩ = some (.int .i64 M) ∧ wr.cell? ⟨w.heap.size, 1, none⟩ = some (.slice A n c) ∧ wr.cell? ⟨b, o + k, none⟩ = some (.int .i64 (gi l k))) := ⟨g0, g1, hck⟩
      have hki : (0 : Int) ≤ (k : Int) ∧ (k : Int) < (m : Int) := by omega
      have hkd : decide ((k : Int) < (m : Int)) = true := by rw [decide_eq_true_eq]; omega
      have his := fun W => is_any (N := M) (A := A) (n := n) (c := c) (gi l k) W
      have HLT := Lib.hid hlt
      clear hc hck g0 g1 hlt
      cases hi : isB M (gi l k)
      · have hP : Hid (keepR M es l so = (0, [], [], 4)) := by
          refine keepR_bad ?_ (by decide)
          rw [HP1.out, if_pos]
          rw [List.any_eq_true]
          exact ⟨gi l k, gi_mem (by have := L1.out; have := HLT.out; omega), by rw [hi]; rfl⟩
        rw [hi] at his
        clear hi
        generalize gi l k = x at *
        go_wp2_with fail
        go_region_held3 (fun w' => w'.cell? ⟨w.heap.size, 0, none⟩ = some (.int .i64 M) ∧ w'.cell? ⟨w.heap.size, 1, none⟩ = some (.slice A n c) ∧ w'.cell? ⟨b, o + k, none⟩ = some (.int .i64 x) ∧ RW wr w')
          (first | assumption | exact RW.three HS1.out (RW.refl wr).drew | exact RW.three HS1.out (RW.later (And.right (And.right (And.right (by assumption)))) hb9) | fail)
          (first | (go_at_call 90; refine (his _).mono ?_; rintro e w9 ⟨rfl, hb9⟩) | fail)
        have hrw9 : RW wr w9 := And.right (And.right (And.right (by assumption)))
        have z9 := hgz.out.later hrw9
        obtain ⟨r0, r1, r2, r3⟩ := GZ.res z9
        have Z9 := Lib.hid z9
        clear z9 hrw9
        have HEND : Hid (((w9.setCell ⟨w.heap.size + 1, 0, none⟩ (.int .i64 0)).setCell ⟨w.heap.size + 1, 1, none⟩ (.slice none 0 0)).heap[w.heap.size + 1]? = some (gcells 0 none 0 0)) := Go.Proofs.YtnldfjoadmehcaaW.PrintWords.blk_put (Go.Proofs.YtnldfjoadmehcaaW.PrintWords.blk_put (GZ.blk Z9.out) 0 _ rfl) 1 _ rfl
        have HBEL : Hid (Below w.heap.size w ((w9.setCell ⟨w.heap.size + 1, 0, none⟩ (.int .i64 0)).setCell ⟨w.heap.size + 1, 1, none⟩ (.slice none 0 0))) := Below.setCell (Below.setCell (below_box (GZ.gb Z9.out)) (by simp) _) (by simp) _
        go_wp2_with fail
        (try simp only [Exit.inBlock, Exit.then])
        refine bodyPost_ret (Go.Proofs.YtnldfjoadmehcaaW.PrintWords.results_ctt rfl _ _ (w.heap.size + 1) 26 #[.int .i64 0, .slice none 0 0] (0, 0) _ rfl HEND.out Try.underlying26 rfl (by kernel_rfl)) rfl ?_
        rw [hP.out]
        exact ⟨_, _, rfl, OwnE.nil _ _, World.ownsRow_nil _ _ _ _, HBEL.out⟩
      · have HK : Hid (∀ j, j < k + 1 → isB M (gi l j) = true) := fun j hj => by
          by_cases e : j = k
          · exact e ▸ hi
          · exact hall.out j (by omega)
        rw [hi] at his
        clear hi
        generalize gi l k = x at *
        go_wp2_with fail
        go_region_held3 (fun w' => w'.cell? ⟨w.heap.size, 0, none⟩ = some (.int .i64 M) ∧ w'.cell? ⟨w.heap.size, 1, none⟩ = some (.slice A n c) ∧ w'.cell? ⟨b, o + k, none⟩ = some (.int .i64 x) ∧ RW wr w')
          (first | assumption | exact RW.three HS1.out (RW.refl wr).drew | exact RW.three HS1.out (RW.later (And.right (And.right (And.right (by assumption)))) hb9) | fail)
          (first | (go_at_call 90; refine (his _).mono ?_; rintro e w9 ⟨rfl, hb9⟩) | fail)
        have hrw9 : RW wr w9 := And.right (And.right (And.right (by assumption)))
        have Z9 := Lib.hid (hgz.out.later hrw9)
        clear hrw9
        go_wp2_with fail
        go_roundw
        case rel => exact ⟨k + 1, by have := HLT.out; omega, by go_num, HK, Z9⟩
        case measure => have := HLT.out; simp [intOf]; omega
    · obtain rfl : k = m := by omega
      have HP2 : Hid (namedE M es l = if l.Nodup then 0 else 6) := by
        unfold Hid
        rw [HP1.out, if_neg]
        rw [List.any_eq_true]
        rintro ⟨x, hx, hx2⟩
        obtain ⟨j, hj, rfl⟩ := List.getElem_of_mem hx
        have h3 := hall.out j (by have := L1.out; omega)
        have e : gi l j = l[j] := by simp [gi, List.getD_eq_getElem?_getD, hj]
        rw [e] at h3
        rw [h3] at hx2
        cases hx2
      clear hlt hk g0 g1
      go_wp2_with fail
      go_loopw [10] (fun i wr => ∃ q : Nat, q ≤ k ∧ i = .int .i64 q ∧ Hid ((l.take q).Nodup) ∧ Hid (GZ w M A n c wr)) (fun i _ => k - (intOf i).toNat)
      case atStart => exact ⟨0, Nat.zero_le _, rfl, by simp [Hid], hgz⟩
      case round =>
        obtain ⟨q, hq, rfl, hnd, hgz⟩ := hrel
        by_cases hlt : q < k
        · obtain ⟨b, o, rfl, hc⟩ := (hl.below (below_box hgz.out.gb)).2.2 (by omega)
          have hck := hc q hlt
          have HTK := Lib.hid (ReadI.take (hl.below (below_box hgz.out.gb)) q (by omega))
          have hcut := fun W => cut_to (some ⟨b, o, none⟩) k d q (q : Int) rfl (by omega) W
          have hin := fun W (hW : RW wr W) => in_any (c := d) (gi l q) W (HTK.out.below hW)
          have hki : (0 : Int) ≤ (q : Int) ∧ (q : Int) < (k : Int) := by omega
          have hts := Lib.hid (take_succ_eq (xs := l) (k := q) (by have := L1.out; omega))
          have HLT := Lib.hid hlt
          generalize gi l q = x at *
          clear hc
          cases hmem : decide (x ∈ l.take q)
          · have HND : Hid ((l.take (q + 1)).Nodup) := by
              unfold Hid
              rw [hts.out, List.nodup_append]
              refine ⟨hnd.out, by simp, fun a ha b hb e => ?_⟩
              rw [List.mem_singleton.1 hb] at e
              exact of_decide_eq_false hmem (e ▸ ha)
            rw [hmem] at hin
            clear hmem
            go_wp2_with fail
            go_region_held3 (fun w' => w'.cell? ⟨b, o + q, none⟩ = some (.int .i64 x) ∧ RW wr w')
              (first | assumption | exact ⟨cell_later (RW.refl wr).drew hck, (RW.refl wr).drew⟩ | fail)
              (first | (go_at_call 26; refine (hin _ (And.right (by assumption))).mono ?_; rintro e w9 ⟨rfl, rfl⟩) | fail)
            have Z9 := Lib.hid (hgz.out.later (RW.refl wr).drew)
            go_wp2_with fail
            go_roundw
            case rel => exact ⟨q + 1, by have := HLT.out; omega, by go_num, HND, Z9⟩
            case measure => have := HLT.out; simp [intOf]; omega
          · have hP : Hid (keepR M es l so = (0, [], [], 6)) := by
              refine keepR_bad ?_ (by decide)
              rw [HP2.out, if_neg]
              intro hnod
              have h2 : (l.take (q + 1)).Nodup := hnod.sublist (List.take_sublist _ _)
              rw [hts.out, List.nodup_append] at h2
              exact h2.2.2 _ (of_decide_eq_true hmem) _ (by simp) rfl
            rw [hmem] at hin
            clear hmem
            go_wp2_with fail
            go_region_held3 (fun w' => w'.cell? ⟨b, o + q, none⟩ = some (.int .i64 x) ∧ RW wr w')
              (first | assumption | exact ⟨cell_later (RW.refl wr).drew hck, (RW.refl wr).drew⟩ | fail)
              (first | (go_at_call 26; refine (hin _ (And.right (by assumption))).mono ?_; rintro e w9 ⟨rfl, rfl⟩) | fail)
            have z9 := hgz.out.later (RW.refl wr).drew
            generalize wr.drew = w9 at *
            obtain ⟨r0, r1, r2, r3⟩ := GZ.res z9
            have Z9 := Lib.hid z9
            clear z9
            have HEND : Hid (((w9.setCell ⟨w.heap.size + 1, 0, none⟩ (.int .i64 0)).setCell ⟨w.heap.size + 1, 1, none⟩ (.slice none 0 0)).heap[w.heap.size + 1]? = some (gcells 0 none 0 0)) := Go.Proofs.YtnldfjoadmehcaaW.PrintWords.blk_put (Go.Proofs.YtnldfjoadmehcaaW.PrintWords.blk_put (GZ.blk Z9.out) 0 _ rfl) 1 _ rfl
            have HBEL : Hid (Below w.heap.size w ((w9.setCell ⟨w.heap.size + 1, 0, none⟩ (.int .i64 0)).setCell ⟨w.heap.size + 1, 1, none⟩ (.slice none 0 0))) := Below.setCell (Below.setCell (below_box (GZ.gb Z9.out)) (by simp) _) (by simp) _
            go_wp2_with fail
            (try simp only [Exit.inBlock, Exit.then])
            refine bodyPost_ret (Go.Proofs.YtnldfjoadmehcaaW.PrintWords.results_ctt rfl _ _ (w.heap.size + 1) 26 #[.int .i64 0, .slice none 0 0] (0, 0) _ rfl HEND.out Try.underlying26 rfl (by kernel_rfl)) rfl ?_
            rw [hP.out]
            exact ⟨_, _, rfl, OwnE.nil _ _, World.ownsRow_nil _ _ _ _, HBEL.out⟩
        · obtain rfl : q = k := by omega
          have HP : Hid (namedE M es l = 0) := by
            unfold Hid
            have := hnd.out
            rw [List.take_of_length_le (by have := L1.out; omega)] at this
            rw [HP2.out, if_pos this]
          obtain ⟨w2, rfl⟩ : ∃ w2 : World, w2 = wr := ⟨_, rfl⟩
          obtain ⟨g0, g1⟩ := gbox hgz.out.gb
          have hmk := run_make_row' 22 3 (.int .i64 0) 8 Try.underlying22 (by kernel_rfl) rfl .i64 .i64 M (by have := hM.out; omega) (by have := hM.out; omega) w2
          have HROW : Hid (RowF (w2.alloc (.cells (madeCells #[.int .i64 0] M) 3)) w2.heap.size 3 M (nmK (inB l so) 0)) := (RowF.made w2 M 3 (.int .i64 0)).congr fun j _ => by simp [nmK]
          have HB0 : Hid (Below w2.heap.size w2 (w2.alloc (.cells (madeCells #[.int .i64 0] M) 3))) := bel_alloc _ _
          have HZS : Hid (w.heap.size + 2 ≤ w2.heap.size) := hgz.out.size
          clear hlt hq hnd
          go_wp2_with fail
          clear hmk g0 g1
          go_loopw [11, 13] (fun v i wr => ∃ j : Nat, j ≤ M ∧ i = .int .i64 j ∧ Hid (OwnI wr (w2.heap.size + 1) v (sel (inB l so) j)) ∧ Hid (RowF wr w2.heap.size 3 M (nmK (inB l so) j)) ∧ Hid (Below w2.heap.size w2 wr)) (fun v i _ => M - (intOf i).toNat)
          case atStart => exact ⟨0, Nat.zero_le _, rfl, World.ownsRow_nil _ _ _ _, HROW, HB0⟩
          case round =>
            obtain ⟨j, hj, rfl, hown, hrow, hb⟩ := hrel
            obtain ⟨A1, n1, c1, rfl⟩ := OwnI.shape hown.out
            have hz := Below.trans hgz.out (hb.out.mono HZS.out)
            obtain ⟨x0, x1⟩ := gbox (GZ.gb hz)
            by_cases hlt : j < M
            · have hjm : (0 : Int) ≤ (j : Int) ∧ (j : Int) < (M : Int) := by omega
              have hj6 : j ≤ 4096 := by have := hM.out; omega
              have hc := RowF.cell hrow.out hlt
              have hf := RowF.froz hrow.out j
              have hset := hrow.out.set j (.int .i64 (-1))
              have hc2 := RowF.cell hset hlt
              have hf2 := RowF.froz hset j
              simp only [if_true] at hc2
              have hbs : Below w2.heap.size w2 (wr.setCell ⟨w2.heap.size, j, none⟩ (.int .i64 (-1))) := Below.setCell hb.out (Nat.le_refl _) _
              have hlw := (hl.below (below_box hgz.out.gb)).below hbs
              have hin := in_any (c := d) (j : Int) _ hlw
              have HLT := Lib.hid hlt
              have HGL : Hid (w2.heap.size + 1 ≤ wr.heap.size) := by have := hrow.out.lt; unfold Hid; omega
              have HLEN : Hid ((sel (inB l so) j).length ≤ 4096) := by have := sel_length (inB l so) j; unfold Hid; omega
              cases hs : inB l so j
              · have HSEL : Hid (sel (inB l so) (j + 1) = sel (inB l so) j) := by unfold Hid; rw [sel, hs]; simp only [Bool.false_eq_true, if_false]
                have HROW2 : Hid (RowF (wr.setCell ⟨w2.heap.size, j, none⟩ (.int .i64 (-1))) w2.heap.size 3 M (nmK (inB l so) (j + 1))) := hset.congr fun i hi => by
                  unfold nmK
                  by_cases e : i = j
                  · subst e
                    simp [nmF, hs]
                  · simp only [if_neg e]
                    congr 1
                    by_cases e2 : i < j
                    · rw [if_pos e2, if_pos (by omega)]
                    · rw [if_neg e2, if_neg (by omega)]
                have HOWN2 : Hid (OwnI (wr.setCell ⟨w2.heap.size, j, none⟩ (.int .i64 (-1))) (w2.heap.size + 1) (.slice A1 n1 c1) (sel (inB l so) j)) := own_set1 hown.out (by omega)
                have HBS := Lib.hid hbs
                have hq : (decide ((j : Int) ∈ l) == so) = false := hs
                clear hset hown hrow hb hz hlt hbs hlw hs hj
                go_wp2_with fail
                refine hin.mono ?_
                rintro e w9 ⟨rfl, rfl⟩
                go_wp2_with fail
                go_roundw
                case rel => exact ⟨j + 1, by have := HLT.out; omega, by go_num, by rw [HSEL.out]; exact HOWN2, HROW2, HBS⟩
                case measure => have := HLT.out; simp [intOf]; omega
              · have HSEL : Hid (sel (inB l so) (j + 1) = sel (inB l so) j ++ [(j : Int)]) := by unfold Hid; rw [sel, hs]; simp only [if_true]
                obtain ⟨A1', c1', e', -⟩ := OwnI.read hown.out
                injection e' with e1 e2 e3
                subst e2
                clear e1 e3
                have hset3 := hset.set j (.int .i64 ((sel (inB l so) j).length : Int))
                have HROW2 : Hid (RowF ((wr.setCell ⟨w2.heap.size, j, none⟩ (.int .i64 (-1))).setCell ⟨w2.heap.size, j, none⟩ (.int .i64 ((sel (inB l so) j).length : Int))) w2.heap.size 3 M (nmK (inB l so) (j + 1))) := hset3.congr fun i hi => by
                  unfold nmK
                  by_cases e : i = j
                  · subst e
                    simp [nmF, hs]
                  · simp only [if_neg e]
                    congr 1
                    by_cases e2 : i < j
                    · rw [if_pos e2, if_pos (by omega)]
                    · rw [if_neg e2, if_neg (by omega)]
                have HOWN2 : Hid (OwnI ((wr.setCell ⟨w2.heap.size, j, none⟩ (.int .i64 (-1))).setCell ⟨w2.heap.size, j, none⟩ (.int .i64 ((sel (inB l so) j).length : Int))) (w2.heap.size + 1) (.slice A1 (sel (inB l so) j).length c1) (sel (inB l so) j)) := own_set1 (own_set1 hown.out (by omega)) (by omega)
                have HBS : Hid (Below w2.heap.size w2 ((wr.setCell ⟨w2.heap.size, j, none⟩ (.int .i64 (-1))).setCell ⟨w2.heap.size, j, none⟩ (.int .i64 ((sel (inB l so) j).length : Int)))) := Below.setCell hbs (Nat.le_refl _) _
                have HZE : Hid (wr.heap.size = ((wr.setCell ⟨w2.heap.size, j, none⟩ (.int .i64 (-1))).setCell ⟨w2.heap.size, j, none⟩ (.int .i64 ((sel (inB l so) j).length : Int))).heap.size) := by
                  unfold Hid
                  simp [World.setCell]
                have HSZ2 : Hid (w2.heap.size + 1 ≤ ((wr.setCell ⟨w2.heap.size, j, none⟩ (.int .i64 (-1))).setCell ⟨w2.heap.size, j, none⟩ (.int .i64 ((sel (inB l so) j).length : Int))).heap.size) := by
                  have := HGL.out
                  unfold Hid
                  simp [World.setCell]
                  omega
                have hq : (decide ((j : Int) ∈ l) == so) = true := hs
                clear hset hset3 hown hrow hb hz hlt hbs hlw hs hj
                generalize hLL : sel (inB l so) j = LL at *
                have HLL := Lib.hid hLL
                clear hLL
                go_wp2_with fail
                refine hin.mono ?_
                rintro e w9 ⟨rfl, rfl⟩
                go_wp2_with (at_builtin; refine app_intz (W := (wr.setCell ⟨w2.heap.size, j, none⟩ (.int .i64 (-1))).setCell ⟨w2.heap.size, j, none⟩ (.int .i64 (LL.length : Int))) (w2.heap.size + 1) wr.heap.size HZE.out rfl _ _ rfl (.slice A1 LL.length c1) LL (j : Int) rfl rfl HOWN2.out HSZ2.out (by have := HLEN.out; omega) ?_; intro v1 w8 own8 hB8 hg8)
                have HN1 : Hid (RowF w8 w2.heap.size 3 M (nmK (inB l so) (j + 1))) := HROW2.out.grown hg8 fun e => by have := row_base HOWN2.out _ e.symm; omega
                have HN2 : Hid (Below w2.heap.size w2 w8) := Below.trans HBS.out (hB8.mono (by omega))
                go_roundw
                case rel => exact ⟨j + 1, by have := HLT.out; omega, by go_num, by rw [HSEL.out]; exact own8, HN1, HN2⟩
                case measure => have := HLT.out; simp [intOf]; omega
            · obtain rfl : j = M := by omega
              obtain ⟨A1', c1', e', -⟩ := OwnI.read hown.out
              injection e' with e1 e2 e3
              subst e2
              clear e1 e3
              obtain ⟨w3, rfl⟩ : ∃ w3 : World, w3 = wr := ⟨_, rfl⟩
              have HPF : Hid (keepR j es l so = (((sel (inB l so) j).length : Int), keptE (nmF (inB l so)) es, sel (inB l so) j, 0)) := by
                unfold Hid keepR
                rw [if_pos HP.out]
                unfold wasL stayE
                rw [Int.toNat_natCast]
              have HLEN : Hid ((sel (inB l so) j).length ≤ 4096) := by have := sel_length (inB l so) j; have := hM.out; unfold Hid; omega
              have HZ3 : Hid (GZ w j A n c w3) := hz
              have HRE := Lib.hid (h.below (below_box (GZ.gb hz)))
              have HGL : Hid (w2.heap.size + 1 ≤ w3.heap.size) := by have := hrow.out.lt; unfold Hid; omega
              have HROW2 : Hid (RowF w3 w2.heap.size 3 j (fun i => .int .i64 (nmF (inB l so) i))) := hrow.out.congr fun i hi => by unfold nmK; rw [if_pos hi]
              generalize hLL : sel (inB l so) j = LL at *
              have HK0 : Hid (KR w3 (LL.length : Int) (.slice none 0 0) (keptE (nmF (inB l so)) (es.take 0)) (w3.alloc (gcells (LL.length : Int) none 0 0))) := ⟨(Below.refl _ _).alloc (Nat.le_refl _) _, by simp, heap_alloc_new _ _, OwnE.nil _ _⟩
              clear hLL hlt hj hrow hz
              go_wp2_with fail
              clear x0 x1
              go_loopw [15] (fun i wr => ∃ (k2 : Nat) (v : Value), k2 ≤ n ∧ i = .int .i64 k2 ∧ Hid (KR w3 (LL.length : Int) v (keptE (nmF (inB l so)) (es.take k2)) wr)) (fun i _ => n - (intOf i).toNat)
              case atStart => exact ⟨0, _, Nat.zero_le _, rfl, HK0⟩
              case round =>
                obtain ⟨k2, v, hk2, rfl, hkr⟩ := hrel
                obtain ⟨A2, n2, c2, rfl⟩ := OwnE.shape hkr.out.2.2.2
                obtain ⟨y0, y1, y2, y3⟩ := hkr.out.cells
                obtain ⟨x0, x1⟩ := gbox (GZ.gb (HZ3.out.later hkr.out.1))
                have hz2 := hkr.out.2.1
                by_cases hlt : k2 < n
                · obtain ⟨b, o, rfl, hc⟩ := (HRE.out.below hkr.out.1).2.2 (by omega)
                  obtain ⟨hc1, hc2⟩ := hc k2 hlt
                  have hok : edgeOk j (ge es k2) = true := by
                    rw [ge_get (by have := H1.out; omega)]
                    exact (rightB_iff.1 HR.out).2.2.2.1 _ (List.getElem_mem _)
                  have HTS := Lib.hid (take_succE (xs := es) (k := k2) (by have := H1.out; omega))
                  clear hc
                  generalize ge es k2 = ek at *
                  obtain ⟨a1, a2⟩ := ek
                  simp only [edgeOk, Bool.and_eq_true, decide_eq_true_eq] at hok
                  obtain ⟨q1, q2, q3⟩ := hok
                  obtain ⟨z1, rfl⟩ : ∃ z1 : Nat, a1 = z1 := ⟨a1.toNat, by omega⟩
                  obtain ⟨z2, rfl⟩ : ∃ z2 : Nat, a2 = z2 := ⟨a2.toNat, by omega⟩
                  have hrw := HROW2.out.later hkr.out.1
                  have hn1 := RowF.cell hrw (show z1 < j by omega)
                  have hn2 := RowF.cell hrw (show z2 < j by omega)
                  have i1 : (0 : Int) ≤ (z1 : Int) ∧ (z1 : Int) < (j : Int) := by omega
                  have i2 : (0 : Int) ≤ (z2 : Int) ∧ (z2 : Int) < (j : Int) := by omega
                  have i3 : (0 : Int) ≤ (k2 : Int) ∧ (k2 : Int) < (n : Int) := by omega
                  have hkd : decide ((k2 : Int) < (n : Int)) = true := by rw [decide_eq_true_eq]; omega
                  have HE1 : Hid (keptE (nmF (inB l so)) (es.take (k2 + 1)) = if 0 ≤ nmF (inB l so) z1 ∧ 0 ≤ nmF (inB l so) z2 then keptE (nmF (inB l so)) (es.take k2) ++ [(nmF (inB l so) z1, nmF (inB l so) z2)] else keptE (nmF (inB l so)) (es.take k2)) := by
                    unfold Hid
                    rw [HTS.out, keptE_append, keptE, keptE]
                    simp only [Int.toNat_natCast]
                    split <;> simp
                  have HKL : Hid ((keptE (nmF (inB l so)) (es.take k2)).length ≤ 65536) := by
                    have h1 := keptE_length (nmF (inB l so)) (es.take k2)
                    have h2 := (rightB_iff.1 HR.out).2.2.1
                    rw [List.length_take] at h1
                    unfold Hid
                    omega
                  generalize nmF (inB l so) z1 = u1 at *
                  generalize nmF (inB l so) z2 = u2 at *
                  have HLT := Lib.hid hlt
                  clear hrw q1 q2 q3 hlt hk2 y0 y1 y2 y3
                  go_wp2_with fail
                  clear hkd
                  go_quiet (fail)
                  rename_i nq
                  have HKR4 := Lib.hid (hkr.out.later ((Drawn.refl _).step nq |>.below _))
                  clear hkr hc1 hc2 hn1 hn2 x0 x1 hz2
                  generalize wr.drewN nq = w4 at *
                  obtain ⟨x40, x41, x42, x43⟩ := HKR4.out.cells
                  by_cases p1 : 0 ≤ u1
                  · by_cases p2 : 0 ≤ u2
                    · have HE2 := Lib.hid (HE1.out.trans (if_pos ⟨p1, p2⟩))
                      have d1 : decide (0 ≤ u1) = true := by simpa using p1
                      have d2 : decide (0 ≤ u2) = true := by simpa using p2
                      generalize keptE (nmF (inB l so)) (es.take k2) = es2 at *
                      clear HE1 p1 p2
                      go_wp2_with (at_builtin; refine app_edge (W := w4) (w3.heap.size + 1) w4.heap.size rfl rfl _ _ rfl (.slice A2 n2 c2) es2 u1 u2 rfl rfl HKR4.out.2.2.2 HKR4.out.2.1 (by have := HKL.out; omega) ?_; intro v1 w5 own5 hB5 hg5; obtain ⟨A5, n5, c5, rfl⟩ := OwnE.shape own5; obtain ⟨s1, s2, s3⟩ := KR.store HKR4.out hg5 own5; have S1 := Lib.hid s1; clear s1 hg5 own5 hB5)
                      go_roundw
                      case rel => exact ⟨k2 + 1, _, by have := HLT.out; omega, by go_num, by rw [HE2.out]; exact S1⟩
                      case measure => have := HLT.out; simp [intOf]; omega
                    · have HE2 := Lib.hid (HE1.out.trans (if_neg fun e => p2 e.2))
                      have d1 : decide (0 ≤ u1) = true := by simpa using p1
                      have d2 : decide (0 ≤ u2) = false := by simpa using p2
                      clear HE1 p1 p2
                      go_wp2_with fail
                      go_roundw
                      case rel => exact ⟨k2 + 1, _, by have := HLT.out; omega, by go_num, by rw [HE2.out]; exact HKR4⟩
                      case measure => have := HLT.out; simp [intOf]; omega
                  · have HE2 := Lib.hid (HE1.out.trans (if_neg fun e => p1 e.1))
                    have d1 : decide (0 ≤ u1) = false := by simpa using p1
                    clear HE1 p1
                    go_wp2_with fail
                    go_roundw
                    case rel => exact ⟨k2 + 1, _, by have := HLT.out; omega, by go_num, by rw [HE2.out]; exact HKR4⟩
                    case measure => have := HLT.out; simp [intOf]; omega
                · obtain rfl : k2 = n := by omega
                  have HE : Hid (es.take k2 = es) := List.take_of_length_le (by have := H1.out; omega)
                  rw [HE.out] at hkr
                  have hgz2 : GZ w j A k2 c wr := HZ3.out.later hkr.out.1
                  obtain ⟨r0, r1, r2, r3⟩ := GZ.res hgz2
                  have HOE : Hid (OwnE ((wr.setCell ⟨w.heap.size + 1, 0, none⟩ (.int .i64 (LL.length : Int))).setCell ⟨w.heap.size + 1, 1, none⟩ (.slice A2 n2 c2)) (w.heap.size + 2) (.slice A2 n2 c2) (keptE (nmF (inB l so)) es)) := own_set2 (row_weaken hkr.out.2.2.2 (by have := HZS.out; have := HGL.out; omega)) (by omega)
                  have HOI : Hid (OwnI ((wr.setCell ⟨w.heap.size + 1, 0, none⟩ (.int .i64 (LL.length : Int))).setCell ⟨w.heap.size + 1, 1, none⟩ (.slice A2 n2 c2)) (w.heap.size + 2) (.slice A1 LL.length c1) LL) := own_set2 (row_weaken (row_below hown.out hkr.out.1) (by have := HZS.out; omega)) (by omega)
                  have HEND : Hid (((wr.setCell ⟨w.heap.size + 1, 0, none⟩ (.int .i64 (LL.length : Int))).setCell ⟨w.heap.size + 1, 1, none⟩ (.slice A2 n2 c2)).heap[w.heap.size + 1]? = some (.cells #[.int .i64 (LL.length : Int), .slice A2 n2 c2] 26 (0, 0))) := Go.Proofs.YtnldfjoadmehcaaW.PrintWords.blk_put (cs := #[.int .i64 (LL.length : Int), .slice none 0 0]) (Go.Proofs.YtnldfjoadmehcaaW.PrintWords.blk_put (cs := #[.int .i64 0, .slice none 0 0]) hgz2.blk 0 _ rfl) 1 _ rfl
                  have HBEL : Hid (Below w.heap.size w ((wr.setCell ⟨w.heap.size + 1, 0, none⟩ (.int .i64 (LL.length : Int))).setCell ⟨w.heap.size + 1, 1, none⟩ (.slice A2 n2 c2))) := Below.setCell (Below.setCell (below_box hgz2.gb) (by simp) _) (by simp) _
                  clear hgz2 hkr HE
                  go_wp2_with fail
                  (try simp only [Exit.inBlock, Exit.then])
                  refine bodyPost_ret (Go.Proofs.YtnldfjoadmehcaaW.PrintWords.results_ctt rfl _ _ (w.heap.size + 1) 26 #[.int .i64 (LL.length : Int), .slice A2 n2 c2] (0, 0) _ rfl HEND.out Try.underlying26 rfl (by kernel_rfl)) rfl ?_
                  rw [HPF.out]
                  exact ⟨.slice A2 n2 c2, .slice A1 LL.length c1, rfl, HOE.out, HOI.out, HBEL.out⟩

set_option maxHeartbeats 1000000 in
set_option maxRecDepth 100000 in
theorem rkeep_any {A B : Option Addr} {n c m d : Nat} {es : List Ed} {l : List Int} (N : Int) (w : World) (h : ReadE w A n es) (hl : ReadI w B m l) (hmd : m ≤ d) :
    Calls Try.prog 31 #[.agg #[.int .i64 N, .slice A n c], .slice B m d] w (KeepQ (keepR N es l true) w) := by
  have HZ := Lib.hid (GZ.start w N A n c)
  have hc := rsome_any (c := c) (d := d) N true _ (h.below (below_box HZ.out.gb)) (hl.below (below_box HZ.out.gb)) hmd
  generalize hP : keepR N es l true = P at *
  obtain ⟨P1, P2, P3, P4⟩ := P
  clear hP
  go_enter Try.func31, Try.ntmps31
  go_wp2_with fail
  refine hc.mono ?_
  rintro e w1 ⟨v, u, rfl, ownE, ownI, hb⟩
  simp only [] at ownE ownI ⊢
  obtain ⟨A2, n2, c2, rfl⟩ := OwnE.shape ownE
  have z1 := HZ.out.later hb
  obtain ⟨r0, r1, r2, r3⟩ := GZ.res z1
  have HOE : Hid (OwnE ((w1.setCell ⟨w.heap.size + 1, 0, none⟩ (.int .i64 P1)).setCell ⟨w.heap.size + 1, 1, none⟩ (.slice A2 n2 c2)) (w.heap.size + 2) (.slice A2 n2 c2) P2) := own_set2 (row_weaken ownE (by simp)) (by omega)
  have HOI : Hid (OwnI ((w1.setCell ⟨w.heap.size + 1, 0, none⟩ (.int .i64 P1)).setCell ⟨w.heap.size + 1, 1, none⟩ (.slice A2 n2 c2)) (w.heap.size + 2) u P3) := own_set2 (row_weaken ownI (by simp)) (by omega)
  have HEND : Hid (((w1.setCell ⟨w.heap.size + 1, 0, none⟩ (.int .i64 P1)).setCell ⟨w.heap.size + 1, 1, none⟩ (.slice A2 n2 c2)).heap[w.heap.size + 1]? = some (.cells #[.int .i64 P1, .slice A2 n2 c2] 26 (0, 0))) := Go.Proofs.YtnldfjoadmehcaaW.PrintWords.blk_put (cs := #[.int .i64 P1, .slice none 0 0]) (Go.Proofs.YtnldfjoadmehcaaW.PrintWords.blk_put (cs := #[.int .i64 0, .slice none 0 0]) z1.blk 0 _ rfl) 1 _ rfl
  have HBEL : Hid (Below w.heap.size w ((w1.setCell ⟨w.heap.size + 1, 0, none⟩ (.int .i64 P1)).setCell ⟨w.heap.size + 1, 1, none⟩ (.slice A2 n2 c2))) := Below.setCell (Below.setCell (below_box z1.gb) (by simp) _) (by simp) _
  clear z1 hb ownE ownI hc
  go_wp2_with fail
  (try simp only [Exit.inBlock, Exit.then])
  refine bodyPost_ret (Go.Proofs.YtnldfjoadmehcaaW.PrintWords.results_ctt rfl _ _ (w.heap.size + 1) 26 #[.int .i64 P1, .slice A2 n2 c2] (0, 0) _ rfl HEND.out Try.underlying26 rfl (by kernel_rfl)) rfl ?_
  exact ⟨.slice A2 n2 c2, u, rfl, HOE.out, HOI.out, HBEL.out⟩

set_option maxHeartbeats 1000000 in
set_option maxRecDepth 100000 in
theorem rwithout_any {A B : Option Addr} {n c m d : Nat} {es : List Ed} {l : List Int} (N : Int) (w : World) (h : ReadE w A n es) (hl : ReadI w B m l) (hmd : m ≤ d) :
    Calls Try.prog 32 #[.agg #[.int .i64 N, .slice A n c], .slice B m d] w (KeepQ (keepR N es l false) w) := by
  have HZ := Lib.hid (GZ.start w N A n c)
  have hc := rsome_any (c := c) (d := d) N false _ (h.below (below_box HZ.out.gb)) (hl.below (below_box HZ.out.gb)) hmd
  generalize hP : keepR N es l false = P at *
  obtain ⟨P1, P2, P3, P4⟩ := P
  clear hP
  go_enter Try.func32, Try.ntmps32
  go_wp2_with fail
  refine hc.mono ?_
  rintro e w1 ⟨v, u, rfl, ownE, ownI, hb⟩
  simp only [] at ownE ownI ⊢
  obtain ⟨A2, n2, c2, rfl⟩ := OwnE.shape ownE
  have z1 := HZ.out.later hb
  obtain ⟨r0, r1, r2, r3⟩ := GZ.res z1
  have HOE : Hid (OwnE ((w1.setCell ⟨w.heap.size + 1, 0, none⟩ (.int .i64 P1)).setCell ⟨w.heap.size + 1, 1, none⟩ (.slice A2 n2 c2)) (w.heap.size + 2) (.slice A2 n2 c2) P2) := own_set2 (row_weaken ownE (by simp)) (by omega)
  have HOI : Hid (OwnI ((w1.setCell ⟨w.heap.size + 1, 0, none⟩ (.int .i64 P1)).setCell ⟨w.heap.size + 1, 1, none⟩ (.slice A2 n2 c2)) (w.heap.size + 2) u P3) := own_set2 (row_weaken ownI (by simp)) (by omega)
  have HEND : Hid (((w1.setCell ⟨w.heap.size + 1, 0, none⟩ (.int .i64 P1)).setCell ⟨w.heap.size + 1, 1, none⟩ (.slice A2 n2 c2)).heap[w.heap.size + 1]? = some (.cells #[.int .i64 P1, .slice A2 n2 c2] 26 (0, 0))) := Go.Proofs.YtnldfjoadmehcaaW.PrintWords.blk_put (cs := #[.int .i64 P1, .slice none 0 0]) (Go.Proofs.YtnldfjoadmehcaaW.PrintWords.blk_put (cs := #[.int .i64 0, .slice none 0 0]) z1.blk 0 _ rfl) 1 _ rfl
  have HBEL : Hid (Below w.heap.size w ((w1.setCell ⟨w.heap.size + 1, 0, none⟩ (.int .i64 P1)).setCell ⟨w.heap.size + 1, 1, none⟩ (.slice A2 n2 c2))) := Below.setCell (Below.setCell (below_box z1.gb) (by simp) _) (by simp) _
  clear z1 hb ownE ownI hc
  go_wp2_with fail
  (try simp only [Exit.inBlock, Exit.then])
  refine bodyPost_ret (Go.Proofs.YtnldfjoadmehcaaW.PrintWords.results_ctt rfl _ _ (w.heap.size + 1) 26 #[.int .i64 P1, .slice A2 n2 c2] (0, 0) _ rfl HEND.out Try.underlying26 rfl (by kernel_rfl)) rfl ?_
  exact ⟨.slice A2 n2 c2, u, rfl, HOE.out, HOI.out, HBEL.out⟩

end Go.Proofs.Ytnldfjoadmehcaa
