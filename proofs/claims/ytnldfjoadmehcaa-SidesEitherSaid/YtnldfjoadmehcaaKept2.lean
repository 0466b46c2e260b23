/- The walk of sub.kept. -/
import Derived.Test.YtnldfjoadmehcaaKept
set_option linter.unusedVariables false
set_option linter.unusedSimpArgs false
namespace Go.Proofs.Ytnldfjoadmehcaa
open Go.RowKit

/-- The names' row, when the first k are told. -/
def nmK (p : Nat → Bool) (k j : Nat) : Value := .int .i64 (if j < k then nmF p j else 0)

set_option maxHeartbeats 4000000 in
set_option maxRecDepth 100000 in
theorem kept_any {A : Option Addr} {n c M gi0 : Nat} {es : List Ed} {q : Nat → Bool} (so : Bool) (w : World) (h : ReadE w A n es) (hr : rightB M es = true) (hin : RowF w gi0 4 M (fun j => .bool (q j))) :
    Calls Try.prog 66 #[.agg #[.int .i64 M, .slice A n c], .slice (some ⟨gi0, 0, none⟩) M M, .bool so] w fun e w' =>
      ∃ v u, e = .returned (.tuple #[.agg #[.int .i64 (sel (fun j => q j == so) M).length, v], u]) ∧ OwnE w' (w.heap.size + 2) v (keptE (nmF fun j => q j == so) es) ∧ OwnI w' (w.heap.size + 2) u (sel (fun j => q j == so) M) ∧ Below w.heap.size w w' := by
  have hn := h.2.1
  have H1 := Lib.hid h.1
  have hM : Hid (M ≤ 4096) := by have := (rightB_iff.1 hr).2.1; unfold Hid; omega
  have hz0 : GZ w M A n c ((w.alloc (gcells M A n c)).alloc (gcells 0 none 0 0)) := Below.refl _ _
  have hmk := run_make_row' 104 3 (.int .i64 0) 8 Try.underlying104 (by kernel_rfl) rfl .i64 .i64 M (by have := hM.out; omega) (by have := hM.out; omega) ((w.alloc (gcells M A n c)).alloc (gcells 0 none 0 0))
  have HZ0 := Lib.hid hz0
  clear hz0
  go_enter Try.func66, Try.ntmps66
  go_wp2_with fail
  have hz1 : GZ w M A n c (((w.alloc (gcells M A n c)).alloc (gcells 0 none 0 0)).alloc (.cells (madeCells #[.int .i64 0] M) 3)) := HZ0.out.later ((Below.refl _ _).alloc (Nat.le_refl _) _)
  have hrow : RowF (((w.alloc (gcells M A n c)).alloc (gcells 0 none 0 0)).alloc (.cells (madeCells #[.int .i64 0] M) 3)) (w.heap.size + 1 + 1) 3 M (nmK (fun j => q j == so) 0) := by
    have := RowF.made ((w.alloc (gcells M A n c)).alloc (gcells 0 none 0 0)) M 3 (.int .i64 0)
    have e : ((w.alloc (gcells M A n c)).alloc (gcells 0 none 0 0)).heap.size = w.heap.size + 1 + 1 := by simp
    rw [e] at this
    exact this.congr fun j _ => by simp [nmK]
  have hsz : (((w.alloc (gcells M A n c)).alloc (gcells 0 none 0 0)).alloc (.cells (madeCells #[.int .i64 0] M) 3)).heap.size = w.heap.size + 3 := by simp
  generalize ((w.alloc (gcells M A n c)).alloc (gcells 0 none 0 0)).alloc (.cells (madeCells #[.int .i64 0] M) 3) = w1 at *
  have HZ1 := Lib.hid hz1
  have HROW := Lib.hid hrow
  have HSZ := Lib.hid hsz
  clear hz1 hrow hsz hmk
  go_loopw [9, 24] (fun l i wr => ∃ k : Nat, k ≤ M ∧ i = .int .i64 k ∧ Hid (OwnI wr (w.heap.size + 3) l (sel (fun j => q j == so) k)) ∧ Hid (RowF wr (w.heap.size + 1 + 1) 3 M (nmK (fun j => q j == so) k)) ∧ Hid (GZ w M A n c wr)) (fun l i _ => M - (intOf i).toNat)
  case atStart => exact ⟨0, Nat.zero_le _, rfl, World.ownsRow_nil _ _ _ _, HROW.out, HZ1.out⟩
  case round =>
    obtain ⟨k, hk, rfl, hown, hrow, hgz⟩ := hrel
    obtain ⟨A1, c1, rfl, hc1, -, hR⟩ := OwnI.read hown.out
    by_cases hlt : k < M
    · have hkm : (0 : Int) ≤ (k : Int) ∧ (k : Int) < (M : Int) := by omega
      have hk6 : k ≤ 4096 := by have := hM.out; omega
      have hc := RowF.cell hrow.out hlt
      have hf := RowF.froz hrow.out k
      have hq := RowF.cell (hin.later (below_box hgz.out.gb)) hlt
      have hne : w.heap.size + 1 + 1 ≠ gi0 := by have := hin.lt; omega
      have hq2 : (wr.setCell ⟨w.heap.size + 1 + 1, k, none⟩ (.int .i64 (-1))).cell? ⟨gi0, k, none⟩ = some (.bool (q k)) := RowF.cell ((hin.later (below_box hgz.out.gb)).grown (grown_set _ _ _ _) (by simpa using fun e => hne e.symm)) hlt
      have hset := hrow.out.set k (.int .i64 (-1))
      have hc2 := RowF.cell hset hlt
      have hf2 := RowF.froz hset k
      simp only [if_true] at hc2
      cases hs : (q k == so)
      · have HSEL : Hid (sel (fun j => q j == so) (k + 1) = sel (fun j => q j == so) k) := by unfold Hid; rw [sel, hs]; simp only [Bool.false_eq_true, if_false]
        have HROW2 : Hid (RowF (wr.setCell ⟨w.heap.size + 1 + 1, k, none⟩ (.int .i64 (-1))) (w.heap.size + 1 + 1) 3 M (nmK (fun j => q j == so) (k + 1))) := hset.congr fun j hj => by
          unfold nmK
          by_cases e : j = k
          · subst e
            simp [nmF, hs]
          · simp only [if_neg e]
            congr 1
            by_cases e2 : j < k
            · rw [if_pos e2, if_pos (by omega)]
            · rw [if_neg e2, if_neg (by omega)]
        have HOWN2 : Hid (OwnI (wr.setCell ⟨w.heap.size + 1 + 1, k, none⟩ (.int .i64 (-1))) (w.heap.size + 3) (.slice A1 (sel (fun j => q j == so) k).length c1) (sel (fun j => q j == so) k)) := own_set1 hown.out (by omega)
        have HGZ2 : Hid (GZ w M A n c (wr.setCell ⟨w.heap.size + 1 + 1, k, none⟩ (.int .i64 (-1)))) := Below.setCell hgz.out (by simp) _
        have HLT := Lib.hid hlt
        clear hset hR hown hrow hgz hne hk hlt hin
        go_wp2_with fail
        go_roundw
        case rel => exact ⟨k + 1, by have := HLT.out; omega, by go_num, by rw [HSEL.out]; exact HOWN2, HROW2, HGZ2⟩
        case measure => have := HLT.out; simp [intOf]; omega
      · have HSEL : Hid (sel (fun j => q j == so) (k + 1) = sel (fun j => q j == so) k ++ [(k : Int)]) := by unfold Hid; rw [sel, hs]; simp only [if_true]
        have HLEN : Hid ((sel (fun j => q j == so) k).length ≤ 4096) := by have := sel_length (fun j => q j == so) k; have := hM.out; unfold Hid; omega
        have hset3 := hset.set k (.int .i64 ((sel (fun j => q j == so) k).length : Int))
        have HROW2 : Hid (RowF ((wr.setCell ⟨w.heap.size + 1 + 1, k, none⟩ (.int .i64 (-1))).setCell ⟨w.heap.size + 1 + 1, k, none⟩ (.int .i64 ((sel (fun j => q j == so) k).length : Int))) (w.heap.size + 1 + 1) 3 M (nmK (fun j => q j == so) (k + 1))) := hset3.congr fun j hj => by
          unfold nmK
          by_cases e : j = k
          · subst e
            simp [nmF, hs]
          · simp only [if_neg e]
            congr 1
            by_cases e2 : j < k
            · rw [if_pos e2, if_pos (by omega)]
            · rw [if_neg e2, if_neg (by omega)]
        have HOWN2 : Hid (OwnI ((wr.setCell ⟨w.heap.size + 1 + 1, k, none⟩ (.int .i64 (-1))).setCell ⟨w.heap.size + 1 + 1, k, none⟩ (.int .i64 ((sel (fun j => q j == so) k).length : Int))) (w.heap.size + 3) (.slice A1 (sel (fun j => q j == so) k).length c1) (sel (fun j => q j == so) k)) := own_set1 (own_set1 hown.out (by omega)) (by omega)
        have HGZ2 : Hid (GZ w M A n c ((wr.setCell ⟨w.heap.size + 1 + 1, k, none⟩ (.int .i64 (-1))).setCell ⟨w.heap.size + 1 + 1, k, none⟩ (.int .i64 ((sel (fun j => q j == so) k).length : Int)))) := Below.setCell (Below.setCell hgz.out (by simp) _) (by simp) _
        have HLT := Lib.hid hlt
        have HSZ2 : Hid (w.heap.size + 3 ≤ ((wr.setCell ⟨w.heap.size + 1 + 1, k, none⟩ (.int .i64 (-1))).setCell ⟨w.heap.size + 1 + 1, k, none⟩ (.int .i64 ((sel (fun j => q j == so) k).length : Int))).heap.size) := by
          have := hrow.out.lt
          unfold Hid
          simp [World.setCell]
          omega
        have HZE : Hid (wr.heap.size = ((wr.setCell ⟨w.heap.size + 1 + 1, k, none⟩ (.int .i64 (-1))).setCell ⟨w.heap.size + 1 + 1, k, none⟩ (.int .i64 ((sel (fun j => q j == so) k).length : Int))).heap.size) := by
          unfold Hid
          simp [World.setCell]
        clear hset hset3 hR hown hrow hgz hne hk hlt hin
        generalize hLL : sel (fun j => q j == so) k = LL at *
        have HLL := Lib.hid hLL
        clear hLL
        go_wp2_with (at_builtin; refine app_intz (W := (wr.setCell ⟨w.heap.size + 1 + 1, k, none⟩ (.int .i64 (-1))).setCell ⟨w.heap.size + 1 + 1, k, none⟩ (.int .i64 (LL.length : Int))) (w.heap.size + 3) wr.heap.size HZE.out rfl _ _ rfl (.slice A1 LL.length c1) LL (k : Int) rfl rfl HOWN2.out HSZ2.out (by have := HLEN.out; omega) ?_; intro v1 w1 own1 hB hg)
        have HN1 : Hid (RowF w1 (w.heap.size + 1 + 1) 3 M (nmK (fun j => q j == so) (k + 1))) := HROW2.out.grown hg fun e => by have := row_base HOWN2.out _ e.symm; omega
        have HN2 : Hid (GZ w M A n c w1) := Below.trans HGZ2.out (hB.mono (by omega))
        go_roundw
        case rel => exact ⟨k + 1, by have := HLT.out; omega, by go_num, by rw [HSEL.out]; exact own1, HN1, HN2⟩
        case measure => have := HLT.out; simp [intOf]; omega
    · obtain rfl : k = M := by omega
      obtain ⟨w2, rfl⟩ : ∃ w2 : World, w2 = wr := ⟨_, rfl⟩
      obtain ⟨e0, e1⟩ := gbox hgz.out.gb
      have HLEN : Hid ((sel (fun j => q j == so) k).length ≤ 4096) := by have := sel_length (fun j => q j == so) k; have := hM.out; unfold Hid; omega
      have HRE := Lib.hid (h.below (below_box hgz.out.gb))
      have HSZ2 : Hid (w.heap.size + 3 ≤ w2.heap.size) := by have := hrow.out.lt; unfold Hid; omega
      have HROW2 : Hid (RowF w2 (w.heap.size + 1 + 1) 3 k (fun j => .int .i64 (nmF (fun j => q j == so) j))) := hrow.out.congr fun j hj => by unfold nmK; rw [if_pos hj]
      generalize hLL : sel (fun j => q j == so) k = LL at *
      have HLL := Lib.hid hLL
      have HK0 : Hid (KR w2 (LL.length : Int) (.slice none 0 0) (keptE (nmF fun j => q j == so) (es.take 0)) (w2.alloc (gcells (LL.length : Int) none 0 0))) := ⟨(Below.refl _ _).alloc (Nat.le_refl _) _, by simp, heap_alloc_new _ _, OwnE.nil _ _⟩
      have hlt0 : w.heap.size < w2.heap.size := by have := HSZ2.out; omega
      clear hLL hlt hR hk hin hrow
      go_wp2_with fail
      go_loopw [54] (fun i wr => ∃ (k2 : Nat) (v : Value), k2 ≤ n ∧ i = .int .i64 k2 ∧ Hid (KR w2 (LL.length : Int) v (keptE (nmF fun j => q j == so) (es.take k2)) wr)) (fun i _ => n - (intOf i).toNat)
      case atStart => exact ⟨0, _, Nat.zero_le _, rfl, HK0⟩
      case round =>
        obtain ⟨k2, v, hk2, rfl, hkr⟩ := hrel
        obtain ⟨A2, n2, c2, rfl⟩ := OwnE.shape hkr.out.2.2.2
        obtain ⟨x0, x1, x2, x3⟩ := hkr.out.cells
        have hz2 := hkr.out.2.1
        by_cases hlt : k2 < n
        · obtain ⟨b, o, rfl, hc⟩ := (HRE.out.below hkr.out.1).2.2 (by omega)
          obtain ⟨hc1, hc2⟩ := hc k2 hlt
          have hok : edgeOk k (ge es k2) = true := by
            rw [ge_get (by have := H1.out; omega)]
            exact (rightB_iff.1 hr).2.2.2.1 _ (List.getElem_mem _)
          have hts := take_succE (xs := es) (k := k2) (by have := H1.out; omega)
          have HTS := Lib.hid hts
          clear hts hc
          generalize ge es k2 = ek at *
          obtain ⟨a1, a2⟩ := ek
          simp only [edgeOk, Bool.and_eq_true, decide_eq_true_eq] at hok
          obtain ⟨q1, q2, q3⟩ := hok
          obtain ⟨y1, rfl⟩ : ∃ y1 : Nat, a1 = y1 := ⟨a1.toNat, by omega⟩
          obtain ⟨y2, rfl⟩ : ∃ y2 : Nat, a2 = y2 := ⟨a2.toNat, by omega⟩
          have hof1 := fun W (hW : RowF W (w.heap.size + 1 + 1) 3 k (fun j => .int .i64 (nmF (fun j => q j == so) j))) => of_any (y := y1) W hW (by omega) hM.out
          have hof2 := fun W (hW : RowF W (w.heap.size + 1 + 1) 3 k (fun j => .int .i64 (nmF (fun j => q j == so) j))) => of_any (y := y2) W hW (by omega) hM.out
          have HE1 : Hid (keptE (nmF fun j => q j == so) (es.take (k2 + 1)) = if 0 ≤ nmF (fun j => q j == so) y1 ∧ 0 ≤ nmF (fun j => q j == so) y2 then keptE (nmF fun j => q j == so) (es.take k2) ++ [(nmF (fun j => q j == so) y1, nmF (fun j => q j == so) y2)] else keptE (nmF fun j => q j == so) (es.take k2)) := by
            unfold Hid
            rw [HTS.out, keptE_append, keptE, keptE]
            simp only [Int.toNat_natCast]
            split <;> simp
          have HKL : Hid ((keptE (nmF fun j => q j == so) (es.take k2)).length ≤ 65536) := by
            have h1 := keptE_length (nmF fun j => q j == so) (es.take k2)
            have h2 := (rightB_iff.1 hr).2.2.1
            rw [List.length_take] at h1
            unfold Hid
            omega
          have hbA : Below wr.heap.size wr (wr.alloc (ecell2 y1 y2)) := (Below.refl _ _).alloc (Nat.le_refl _) _
          have HR1 := Lib.hid ((HROW2.out.later hkr.out.1).later hbA)
          have HKR1 := Lib.hid (hkr.out.later hbA)
          have HC1 : Hid ((wr.alloc (ecell2 y1 y2)).cell? ⟨wr.heap.size, 0, none⟩ = some (.int .i64 y1) ∧ (wr.alloc (ecell2 y1 y2)).cell? ⟨wr.heap.size, 1, none⟩ = some (.int .i64 y2)) := ⟨(cell_blk (heap_alloc_new _ _) 0).trans rfl, (cell_blk (heap_alloc_new _ _) 1).trans rfl⟩
          generalize nmF (fun j => q j == so) y1 = z1 at *
          generalize nmF (fun j => q j == so) y2 = z2 at *
          have HLT := Lib.hid hlt
          clear hbA hkr q1 q2 q3 hlt hk2
          go_wp2_with fail
          refine (hof1 _ HR1.out).mono ?_
          rintro e w3 ⟨rfl, hd3⟩
          have HKR3 := Lib.hid (HKR1.out.later (hd3.below _))
          have HR3 := Lib.hid (HR1.out.later (hd3.below _))
          have c30 := cell_later (hd3.below _) HC1.out.1
          have c31 := cell_later (hd3.below _) HC1.out.2
          clear hd3
          go_wp2_with fail
          refine (hof2 _ HR3.out).mono ?_
          rintro e w4 ⟨rfl, hd4⟩
          have HKR4 := Lib.hid (HKR3.out.later (hd4.below _))
          obtain ⟨x40, x41, x42, x43⟩ := HKR4.out.cells
          clear hd4 c30 c31 x0 x1 x2 x3
          by_cases p1 : 0 ≤ z1
          · by_cases p2 : 0 ≤ z2
            · have HE2 : Hid (keptE (nmF fun j => q j == so) (es.take (k2 + 1)) = keptE (nmF fun j => q j == so) (es.take k2) ++ [(z1, z2)]) := HE1.out.trans (if_pos ⟨p1, p2⟩)
              have d1 : decide (0 ≤ z1) = true := by simpa using p1
              have d2 : decide (0 ≤ z2) = true := by simpa using p2
              generalize keptE (nmF fun j => q j == so) (es.take k2) = es2 at *
              clear HE1 p1 p2
              go_wp2_with (at_builtin; refine app_edge (W := w4) (w2.heap.size + 1) w4.heap.size rfl rfl _ _ rfl (.slice A2 n2 c2) es2 z1 z2 rfl rfl HKR4.out.2.2.2 HKR4.out.2.1 (by have := HKL.out; omega) ?_; intro v1 w5 own5 hB5 hg5; obtain ⟨A5, n5, c5, rfl⟩ := OwnE.shape own5; obtain ⟨s1, s2, s3⟩ := KR.store HKR4.out hg5 own5; have S1 := Lib.hid s1; clear s1 hg5 own5 hB5)
              go_roundw
              case rel => exact ⟨k2 + 1, _, by have := HLT.out; omega, by go_num, by rw [HE2.out]; exact S1⟩
              case measure => have := HLT.out; simp [intOf]; omega
            · have HE2 : Hid (keptE (nmF fun j => q j == so) (es.take (k2 + 1)) = keptE (nmF fun j => q j == so) (es.take k2)) := HE1.out.trans (if_neg fun e => p2 e.2)
              have d1 : decide (0 ≤ z1) = true := by simpa using p1
              have d2 : decide (0 ≤ z2) = false := by simpa using p2
              clear HE1 p1 p2
              go_wp2_with fail
              go_roundw
              case rel => exact ⟨k2 + 1, _, by have := HLT.out; omega, by go_num, by rw [HE2.out]; exact HKR4⟩
              case measure => have := HLT.out; simp [intOf]; omega
          · have HE2 : Hid (keptE (nmF fun j => q j == so) (es.take (k2 + 1)) = keptE (nmF fun j => q j == so) (es.take k2)) := HE1.out.trans (if_neg fun e => p1 e.1)
            have d1 : decide (0 ≤ z1) = false := by simpa using p1
            clear HE1 p1
            go_wp2_with fail
            go_roundw
            case rel => exact ⟨k2 + 1, _, by have := HLT.out; omega, by go_num, by rw [HE2.out]; exact HKR4⟩
            case measure => have := HLT.out; simp [intOf]; omega
        · obtain rfl : k2 = n := by omega
          have HE : Hid (es.take k2 = es) := List.take_of_length_le (by have := H1.out; omega)
          rw [HE.out] at hkr
          have hgz2 : GZ w k A k2 c wr := Below.trans hgz.out (hkr.out.1.mono (by have := HSZ2.out; omega))
          obtain ⟨r0, r1, r2, r3⟩ := GZ.res hgz2
          have HOE : Hid (OwnE ((wr.setCell ⟨w.heap.size + 1, 0, none⟩ (.int .i64 (LL.length : Int))).setCell ⟨w.heap.size + 1, 1, none⟩ (.slice A2 n2 c2)) (w.heap.size + 2) (.slice A2 n2 c2) (keptE (nmF fun j => q j == so) es)) := own_set2 (row_weaken hkr.out.2.2.2 (by have := HSZ2.out; omega)) (by omega)
          have HOI : Hid (OwnI ((wr.setCell ⟨w.heap.size + 1, 0, none⟩ (.int .i64 (LL.length : Int))).setCell ⟨w.heap.size + 1, 1, none⟩ (.slice A2 n2 c2)) (w.heap.size + 2) (.slice A1 LL.length c1) LL) := own_set2 (row_weaken (row_below hown.out hkr.out.1) (by omega)) (by omega)
          have HEND : Hid (((wr.setCell ⟨w.heap.size + 1, 0, none⟩ (.int .i64 (LL.length : Int))).setCell ⟨w.heap.size + 1, 1, none⟩ (.slice A2 n2 c2)).heap[w.heap.size + 1]? = some (.cells #[.int .i64 (LL.length : Int), .slice A2 n2 c2] 26 (0, 0))) := Go.Proofs.YtnldfjoadmehcaaW.PrintWords.blk_put (cs := #[.int .i64 (LL.length : Int), .slice none 0 0]) (Go.Proofs.YtnldfjoadmehcaaW.PrintWords.blk_put (cs := #[.int .i64 0, .slice none 0 0]) hgz2.blk 0 _ rfl) 1 _ rfl
          have HBEL : Hid (Below w.heap.size w ((wr.setCell ⟨w.heap.size + 1, 0, none⟩ (.int .i64 (LL.length : Int))).setCell ⟨w.heap.size + 1, 1, none⟩ (.slice A2 n2 c2))) := Below.setCell (Below.setCell (below_box hgz2.gb) (by simp) _) (by simp) _
          clear hgz2 hkr HE
          go_wp2_with fail
          (try simp only [Exit.inBlock, Exit.then])
          refine bodyPost_ret (Go.Proofs.YtnldfjoadmehcaaW.PrintWords.results_ct rfl _ _ (w.heap.size + 1) 26 #[.int .i64 (LL.length : Int), .slice A2 n2 c2] (0, 0) _ rfl HEND.out Try.underlying26 rfl (by kernel_rfl)) rfl ?_
          refine ⟨.slice A2 n2 c2, .slice A1 LL.length c1, ?_, HOE.out, ?_, HBEL.out⟩
          · rw [HLL.out]; rfl
          · rw [HLL.out]; exact HOI.out

end Go.Proofs.Ytnldfjoadmehcaa
