/- The walk of mates.Right. -/
import Derived.Test.YtnldfjoadmehcaaRRight
import Derived.Test.YtnldfjoadmehcaaHelpE
set_option linter.unusedVariables false
set_option linter.unusedSimpArgs false
namespace Go.Proofs.Ytnldfjoadmehcaa
open Go.RowKit

theorem joinF_succ {ms : List Int} {es : List Ed} {k : Nat} (h : k < es.length) (v : Nat) : joinF ms (es.take (k + 1)) v = (joinF ms (es.take k) v || (joinE ms (ge es k) && ((ge es k).1 == v || (ge es k).2 == v))) := by
  unfold joinF
  rw [takeE_succ h, List.any_append]
  simp
theorem RW.four {w0 W : World} {a1 a2 a3 a4 : Addr} {v1 v2 v3 v4 : Value} (h : w0.cell? a1 = some v1 ∧ w0.cell? a2 = some v2 ∧ w0.cell? a3 = some v3 ∧ w0.cell? a4 = some v4) (r : RW w0 W) : W.cell? a1 = some v1 ∧ W.cell? a2 = some v2 ∧ W.cell? a3 = some v3 ∧ W.cell? a4 = some v4 ∧ RW w0 W := ⟨cell_later r h.1, cell_later r h.2.1, cell_later r h.2.2.1, cell_later r h.2.2.2, r⟩

theorem plain_same {A B : Option Addr} {n m ca cb : Nat} {xs : List Int} (w : World) (ha : ReadI w A n xs) (hb : ReadI w B m xs) :
    Calls Try.prog 23 #[.slice A n ca, .slice B m cb] w fun e w' => e = .returned (.bool true) ∧ Below w.heap.size w w' :=
  (plain_any (ca := ca) (cb := cb) w ha hb).mono fun e w' h => ⟨by rw [h.1, decide_eq_true rfl], h.2.below _⟩
theorem plainE_same {A B : Option Addr} {n m ca cb : Nat} {xs : List Ed} (w : World) (ha : ReadE w A n xs) (hb : ReadE w B m xs) :
    Calls Try.prog 54 #[.slice A n ca, .slice B m cb] w fun e w' => e = .returned (.bool true) ∧ Below w.heap.size w w' :=
  (plainE_any (ca := ca) (cb := cb) w ha hb).mono fun e w' h => ⟨by rw [h.1, decide_eq_true rfl], h.2⟩

set_option maxHeartbeats 8000000 in
set_option maxRecDepth 100000 in
theorem mright_any {A B : Option Addr} {n c m d : Nat} {es : List Ed} {ms : List Int} (N : Int) (w : World) (h : ReadE w A n es) (hl : ReadI w B m ms) :
    Calls Try.prog 47 #[.agg #[.int .i64 N, .slice A n c], .slice B m d] w fun e w' => e = .returned (.bool (rightM N es ms)) ∧ Below w.heap.size w w' := by
  have hb1 := bel_alloc w (gcells N A n c)
  have hr := gright_any (c := c) N (w.alloc (gcells N A n c)) (h.below hb1)
  have HB1 := Lib.hid hb1
  have HX := Lib.hid (boxg w N A n c)
  have HE := Lib.hid h
  have HL := Lib.hid hl
  have HM := Lib.hid hl.1
  have HEL := Lib.hid h.1
  have hm9 := hl.2.1
  have hn9 := h.2.1
  clear hb1 h hl
  go_enter Try.func47, Try.ntmps47
  obtain ⟨x0, x1⟩ := HX.out
  go_wp2_with fail
  refine hr.mono ?_
  rintro e w2 ⟨rfl, hb2⟩
  have HB2 := Lib.hid (bel_trans HB1.out hb2)
  have HX2 := Lib.hid (later2 hb2 HX.out)
  clear hb2 hr x0 x1
  cases hR : rightB N es
  · have HN : Hid (rightM N es ms = false) := rightM_noG hR
    clear hR
    go_wp2_with fail
    go_ret
    exact ⟨by rw [HN.out]; rfl, HB2.out⟩
  · obtain ⟨g0, g1, g2, g3⟩ := rightB_iff.1 hR
    obtain ⟨M, rfl⟩ : ∃ M : Nat, N = M := ⟨N.toNat, by omega⟩
    have hM : M ≤ 4096 := by omega
    have HRB := Lib.hid hR
    have HRI := Lib.hid g3
    clear hR g0 g1 g2 g3
    obtain ⟨x0, x1⟩ := HX2.out
    by_cases hlen : m = M
    · subst hlen
      have HTO : Hid (rightM m es ms = rightTo m es ms m) := by
        have := rightM_to HRB.out (ms := ms) (by rw [HM.out])
        rw [HM.out] at this
        exact this
      have hq : decide ((m : Int) = (m : Int)) = true := by simp
      have hmk := run_make_row' 73 4 (.bool false) 1 Try.underlying73 (by kernel_rfl) rfl .i64 .i64 m (by omega) (by omega) w2
      have HB3 := Lib.hid (bel_trans HB2.out (bel_alloc w2 (.cells (madeCells #[.bool false] m) 4)))
      have HX3 := Lib.hid (later2 (bel_alloc w2 (.cells (madeCells #[.bool false] m) 4)) HX2.out)
      have HR0 : Hid (RowF (w2.alloc (.cells (madeCells #[.bool false] m) 4)) w2.heap.size 4 m (fun j => .bool (joinF ms (es.take 0) j))) := RowF.made w2 m _ _
      have HS3 : Hid ((w2.alloc (.cells (madeCells #[.bool false] m) 4)).heap.size = w2.heap.size + 1) := by simp [Hid]
      generalize hw3 : w2.alloc (.cells (madeCells #[.bool false] m) 4) = w3 at *
      clear hw3
      obtain ⟨y0, y1⟩ := HX3.out
      go_wp2_with fail
      clear x0 x1 y0 y1
      go_loopw [26] (fun i wr => ∃ k : Nat, k ≤ n ∧ i = .int .i64 k ∧ Hid (RowF wr w2.heap.size 4 m (fun j => .bool (joinF ms (es.take k) j))) ∧ Hid (Below w.heap.size w wr)) (fun i _ => n - (intOf i).toNat)
      case atStart => exact ⟨0, Nat.zero_le _, rfl, HR0, HB3⟩
      case round =>
        obtain ⟨k, hk, rfl, hrow, hb⟩ := hrel
        by_cases hlt : k < n
        · have HLT := Lib.hid hlt
          obtain ⟨b, o, rfl, hc⟩ := (HE.out.below hb.out).2.2 (by omega)
          obtain ⟨hc1, hc2⟩ := hc k hlt
          have hke : k < es.length := by have := HEL.out; omega
          have hin := HRI.out.1 _ (show ge es k ∈ es by rw [ge_get hke]; exact List.getElem_mem _)
          have HSU : Hid (∀ v, joinF ms (es.take (k + 1)) v = (joinF ms (es.take k) v || (joinE ms (ge es k) && ((ge es k).1 == (v : Int) || (ge es k).2 == (v : Int))))) := fun v => joinF_succ hke v
          have HJE : Hid (joinE ms (ge es k) = (gi ms (ge es k).1.toNat == (ge es k).2 && gi ms (ge es k).2.toNat == (ge es k).1)) := rfl
          generalize hge : ge es k = e0 at *
          obtain ⟨e1, e2⟩ := e0
          unfold edgeOk at hin
          simp only [Bool.and_eq_true, decide_eq_true_eq] at hin
          simp only [] at hc1 hc2
          obtain ⟨x, rfl⟩ : ∃ x : Nat, e1 = x := ⟨e1.toNat, by omega⟩
          obtain ⟨y, rfl⟩ : ∃ y : Nat, e2 = y := ⟨e2.toNat, by omega⟩
          have hxm : x < m := by omega
          have hym : y < m := by omega
          have hxy : x ≠ y := by omega
          have hxi : (0 : Int) ≤ (x : Int) ∧ (x : Int) < (m : Int) := by omega
          have hyi : (0 : Int) ≤ (y : Int) ∧ (y : Int) < (m : Int) := by omega
          obtain ⟨b', o', rfl, hcm⟩ := (HL.out.below hb.out).2.2 (by omega)
          have hmx := hcm x hxm
          have hmy := hcm y hym
          have HXY := Lib.hid (And.intro hxm (And.intro hym hxy))
          clear hc hcm hge hin hke hxy
          simp only [Int.toNat_natCast] at HJE
          have HC5 := Lib.hid (And.intro hmx hmy)
          generalize hfx : gi ms x = fx at *
          generalize hfy : gi ms y = fy at *
          have HWS : Hid (w2.heap.size < wr.heap.size) := hrow.out.lt
          have HBX : Hid (Below wr.heap.size wr (wr.alloc (.cells #[.int .i64 (x : Int), .int .i64 (y : Int)] 41))) := bel_alloc _ _
          have HBC : Hid ((wr.alloc (.cells #[.int .i64 (x : Int), .int .i64 (y : Int)] 41)).cell? ⟨wr.heap.size, 0, none⟩ = some (.int .i64 (x : Int)) ∧ (wr.alloc (.cells #[.int .i64 (x : Int), .int .i64 (y : Int)] 41)).cell? ⟨wr.heap.size, 1, none⟩ = some (.int .i64 (y : Int))) := ⟨(cell_blk (heap_alloc_new _ _) 0).trans rfl, (cell_blk (heap_alloc_new _ _) 1).trans rfl⟩
          clear hfx hfy
          cases q1 : (fx == (y : Int))
          · have HJ : Hid (∀ v, joinF ms (es.take (k + 1)) v = joinF ms (es.take k) v) := fun v => by rw [HSU.out, HJE.out, q1]; simp
            go_wp2_with fail
            have zx := cell_later HBX.out HC5.out.1
            have zy := cell_later HBX.out HC5.out.2
            have zbc0 := HBC.out.1
            have zbc1 := HBC.out.2
            have HR5 := Lib.hid (hrow.out.later HBX.out)
            have HB5 := Lib.hid (below_after hb.out (by have := HB2.out.size; have := HWS.out; omega) HBX.out)
            have HS5 := Lib.hid (Nat.lt_of_lt_of_le HWS.out HBX.out.size)
            have HNE : Hid (w2.heap.size ≠ wr.heap.size) := fun e => by have := HWS.out; omega
            generalize wr.alloc (.cells #[.int .i64 (x : Int), .int .i64 (y : Int)] 41) = w5 at *
            go_quiet (fail)
            rename_i nq
            have HR6 : Hid (RowF (w5.drewN nq) w2.heap.size 4 m (fun j => .bool (joinF ms (es.take (k + 1)) j))) := (HR5.out.later ((Drawn.refl _).step nq |>.below _)).congr fun j hj => by rw [HJ.out]
            have HB6 := Lib.hid (below_draws HB5.out nq)
            go_wp2_with fail
            go_roundw
            case rel => exact ⟨k + 1, by have := HLT.out; omega, by go_num, HR6, HB6⟩
            case measure => have := HLT.out; simp [intOf]; omega
          · cases q2 : (fy == (x : Int))
            · have HJ : Hid (∀ v, joinF ms (es.take (k + 1)) v = joinF ms (es.take k) v) := fun v => by rw [HSU.out, HJE.out, q1, q2]; simp
              go_wp2_with fail
              have zx := cell_later HBX.out HC5.out.1
              have zy := cell_later HBX.out HC5.out.2
              have zbc0 := HBC.out.1
              have zbc1 := HBC.out.2
              have HR5 := Lib.hid (hrow.out.later HBX.out)
              have HB5 := Lib.hid (below_after hb.out (by have := HB2.out.size; have := HWS.out; omega) HBX.out)
              have HS5 := Lib.hid (Nat.lt_of_lt_of_le HWS.out HBX.out.size)
              have HNE : Hid (w2.heap.size ≠ wr.heap.size) := fun e => by have := HWS.out; omega
              generalize wr.alloc (.cells #[.int .i64 (x : Int), .int .i64 (y : Int)] 41) = w5 at *
              go_quiet (fail)
              rename_i nq
              have HR6 : Hid (RowF (w5.drewN nq) w2.heap.size 4 m (fun j => .bool (joinF ms (es.take (k + 1)) j))) := (HR5.out.later ((Drawn.refl _).step nq |>.below _)).congr fun j hj => by rw [HJ.out]
              have HB6 := Lib.hid (below_draws HB5.out nq)
              go_wp2_with fail
              go_roundw
              case rel => exact ⟨k + 1, by have := HLT.out; omega, by go_num, HR6, HB6⟩
              case measure => have := HLT.out; simp [intOf]; omega
            · have HJ : Hid (∀ v : Nat, joinF ms (es.take (k + 1)) v = (joinF ms (es.take k) v || (decide (v = x) || decide (v = y)))) := fun v => by
                rw [HSU.out, HJE.out, q1, q2]
                congr 1
                rw [Bool.eq_iff_iff]
                simp
                omega
              go_wp2_with fail
              have zx := cell_later HBX.out HC5.out.1
              have zy := cell_later HBX.out HC5.out.2
              have zbc0 := HBC.out.1
              have zbc1 := HBC.out.2
              have HR5 := Lib.hid (hrow.out.later HBX.out)
              have HB5 := Lib.hid (below_after hb.out (by have := HB2.out.size; have := HWS.out; omega) HBX.out)
              have HS5 := Lib.hid (Nat.lt_of_lt_of_le HWS.out HBX.out.size)
              have HNE : Hid (w2.heap.size ≠ wr.heap.size) := fun e => by have := HWS.out; omega
              generalize wr.alloc (.cells #[.int .i64 (x : Int), .int .i64 (y : Int)] 41) = w5 at *
              go_quiet (fail)
              rename_i nq
              have HR6 := Lib.hid (HR5.out.later ((Drawn.refl _).step nq |>.below _))
              have HB6 := Lib.hid (below_draws HB5.out nq)
              have HBC6 := Lib.hid (later2 ((Drawn.refl _).step nq |>.below _) (And.intro zbc0 zbc1))
              have HS6 : Hid (w2.heap.size < (w5.drewN nq).heap.size) := HS5.out
              clear zx zy zbc0 zbc1
              generalize w5.drewN nq = w6 at *
              have zbc0 := HBC6.out.1
              have zbc1 := HBC6.out.2
              have c1 := HR6.out.cell HXY.out.1
              have c2 := (HR6.out.set x (.bool true)).cell HXY.out.2.1
              have f1 := HR6.out.froz x
              have f2 := (HR6.out.set x (.bool true)).froz y
              have HST1 : Hid ((w6.setCell ⟨w2.heap.size, x, none⟩ (.bool true)).cell? ⟨wr.heap.size, 0, none⟩ = some (.int .i64 (x : Int)) ∧ (w6.setCell ⟨w2.heap.size, x, none⟩ (.bool true)).cell? ⟨wr.heap.size, 1, none⟩ = some (.int .i64 (y : Int))) := ⟨(grown_set _ _ _ _).cell HBC6.out.1 (fun e => HNE.out (by injection e with e; exact e.symm)), (grown_set _ _ _ _).cell HBC6.out.2 (fun e => HNE.out (by injection e with e; exact e.symm))⟩
              have HST2 : Hid (((w6.setCell ⟨w2.heap.size, x, none⟩ (.bool true)).setCell ⟨w2.heap.size, y, none⟩ (.bool true)).cell? ⟨wr.heap.size, 0, none⟩ = some (.int .i64 (x : Int)) ∧ ((w6.setCell ⟨w2.heap.size, x, none⟩ (.bool true)).setCell ⟨w2.heap.size, y, none⟩ (.bool true)).cell? ⟨wr.heap.size, 1, none⟩ = some (.int .i64 (y : Int))) := ⟨(grown_set2 _ _ _ _ _ _).cell HBC6.out.1 (fun e => HNE.out (by injection e with e; exact e.symm)), (grown_set2 _ _ _ _ _ _).cell HBC6.out.2 (fun e => HNE.out (by injection e with e; exact e.symm))⟩
              go_wp2_with fail
              go_region_held3 (fun w' => w'.cell? ⟨wr.heap.size, 0, none⟩ = some (.int .i64 (x : Int)) ∧ w'.cell? ⟨wr.heap.size, 1, none⟩ = some (.int .i64 (y : Int)))
                (first | assumption | exact HBC6.out | exact HST1.out | exact HST2.out | fail) (fail)
              have HR7 : Hid (RowF ((w6.setCell ⟨w2.heap.size, x, none⟩ (.bool true)).setCell ⟨w2.heap.size, y, none⟩ (.bool true)).drew w2.heap.size 4 m (fun j => .bool (joinF ms (es.take (k + 1)) j))) := (((HR6.out.set x (.bool true)).set y (.bool true)).later (RW.refl _).drew).congr fun j hj => by
                rw [HJ.out]
                by_cases e1 : j = y
                · simp [e1]
                · by_cases e2 : j = x
                  · simp [e2, e1]
                  · simp [e1, e2]
              have HB7 : Hid (Below w.heap.size w ((w6.setCell ⟨w2.heap.size, x, none⟩ (.bool true)).setCell ⟨w2.heap.size, y, none⟩ (.bool true)).drew) := below_draws (Below.setCell (Below.setCell HB6.out HB2.out.size _) HB2.out.size _) 1
              clear HST1 HST2 c1 c2 f1 f2
              go_wp2_with fail
              go_roundw
              case rel => exact ⟨k + 1, by have := HLT.out; omega, by go_num, HR7, HB7⟩
              case measure => have := HLT.out; simp [intOf]; omega
        · obtain rfl : n = k := by omega
          have hd : decide ((n : Int) < (n : Int)) = false := by rw [decide_eq_false_iff_not]; omega
          have HJJ : Hid (∀ v : Nat, (gi ms v == -1 || joinF ms (es.take n) v) = rightAt m es ms v) := fun v => by
            rw [List.take_of_length_le (by have := HEL.out; omega)]
            exact join_right HRB.out v
          have HT0 : Hid (rightTo m es ms 0 = true) := rfl
          have HROW := hrow
          have HBW := hb
          have hRB0 : Hid (RW wr wr) := RW.refl wr
          clear hlt hk
          go_wp2_with fail
          clear hd
          go_loopw [59] (fun i wq => ∃ k : Nat, k ≤ m ∧ i = .int .i64 k ∧ Hid (rightTo m es ms k = true) ∧ Hid (RW wr wq)) (fun i _ => m - (intOf i).toNat)
          case atStart => exact ⟨0, Nat.zero_le _, rfl, HT0, hRB0⟩
          case round =>
            obtain ⟨k, hk, rfl, hto, hrw⟩ := hrel
            have HBR := Lib.hid (below_after HBW.out (by have := HB2.out.size; have := HROW.out.lt; omega) hrw.out)
            by_cases hlt : k < m
            · have HLT := Lib.hid hlt
              obtain ⟨b', o', rfl, hcm⟩ := (HL.out.below HBR.out).2.2 (by omega)
              have hmk := hcm k hlt
              have hrk := (HROW.out.later hrw.out).cell hlt
              have HSUC : Hid (∀ q, rightAt m es ms k = q → rightTo m es ms (k + 1) = q) := fun q hq => by rw [rightTo, hto.out, hq]; simp
              have HFAL : Hid (rightAt m es ms k = false → rightM m es ms = false) := fun hq => by rw [HTO.out]; exact rightTo_false hq HLT.out
              have HAT := Lib.hid (HJJ.out k)
              have hki : (0 : Int) ≤ (k : Int) ∧ (k : Int) < (m : Int) := by omega
              clear hcm
              generalize gi ms k = x at *
              generalize joinF ms (es.take n) k = jb at *
              by_cases q1 : x = -1
              · subst q1
                have HT : Hid (rightTo m es ms (k + 1) = true) := HSUC.out _ (by rw [← HAT.out]; rfl)
                go_wp2_with fail
                go_roundw
                case rel => exact ⟨k + 1, by have := HLT.out; omega, by go_num, HT, hrw⟩
                case measure => have := HLT.out; simp [intOf]; omega
              · have q2 : (x == -1) = false := by simpa using q1
                have q3 : (x != -1) = true := by simp [q1]
                have HQ2 := Lib.hid q2
                cases jb
                · have HF : Hid (rightM m es ms = false) := HFAL.out (by rw [← HAT.out, HQ2.out]; rfl)
                  go_wp2_with fail
                  go_ret
                  exact ⟨by rw [HF.out]; rfl, HBR.out⟩
                · have HT : Hid (rightTo m es ms (k + 1) = true) := HSUC.out _ (by rw [← HAT.out]; simp)
                  go_wp2_with fail
                  go_roundw
                  case rel => exact ⟨k + 1, by have := HLT.out; omega, by go_num, HT, hrw⟩
                  case measure => have := HLT.out; simp [intOf]; omega
            · obtain rfl : k = m := by omega
              have hd : decide ((k : Int) < (k : Int)) = false := by rw [decide_eq_false_iff_not]; omega
              clear hlt hk
              go_wp2_with fail
              go_ret
              exact ⟨by rw [HTO.out, hto.out]; rfl, HBR.out⟩
    · have HN : Hid (rightM M es ms = false) := rightM_len (by rw [HM.out]; omega)
      have hq : ((m : Int) == (M : Int)) = false := by simp; omega
      have hq2 : ((m : Int) != (M : Int)) = true := by simp; omega
      have hq3 : (m == M) = false := by simp; omega
      have hq4 : (m != M) = true := by simp; omega
      go_wp2_with fail
      go_ret
      exact ⟨by rw [HN.out]; rfl, HB2.out⟩

end Go.Proofs.Ytnldfjoadmehcaa
