/- The walk of mates.Right; barrier.Shows, certify.Matching: a set that shows that a matching is largest; Two largest matchings are of one size; barrier.Such, single.Path, barrier.Labels, barrier.Of -/
import Derived.Test.YtbnipgajhpbolaaGreatDoorTe43
import Derived.Test.YtbnipgajhpbolaaGreatDoorTe07
import Derived.Test.YtbnipgajhpbolaaGreatDoorTe42
import Derived.Test.YtbnipgajhpbolaaGreatDoorTe09
set_option linter.unusedVariables false
set_option linter.unusedSimpArgs false
namespace Go.Proofs.YtbnipgajhpbolaaGreatDoor

section
open Go.RowKit
theorem joinF_succ {ms : List Int} {es : List Ed} {k : Nat} (h : k < es.length) (v : Nat) : joinF ms (es.take (k + 1)) v = (joinF ms (es.take k) v || (joinE ms (ge es k) && ((ge es k).1 == v || (ge es k).2 == v))) := by
  unfold joinF
  rw [takeE_succ h, List.any_append]
  simp
set_option maxHeartbeats 8000000 in
set_option maxRecDepth 100000 in
theorem mright_any {A B : Option Addr} {n c m d : Nat} {es : List Ed} {ms : List Int} (N : Int) (w : World) (h : ReadE w A n es) (hl : ReadI w B m ms) :
    Calls Tryz.prog 165 #[.agg #[.int .i64 N, .slice A n c], .slice B m d] w fun e w' => e = .returned (.bool (rightM N es ms)) ∧ Below w.heap.size w w' := by
  have hb1 := bel_alloc w (gcells N A n c)
  have hr := gright_any (c := c) N (w.alloc (gcells N A n c)) (h.below hb1)
  have HB1 := Lib.hid hb1
  have HX := Lib.hid (boxg w N A n c)
  have HE := Lib.hid h
  have HL := Lib.hid hl
  have HM := Lib.hid hl.1
  have HEL := Lib.hid h.1
  have hm9 := hl.2.1
  have hn9 := h.2.1
  clear hb1 h hl
  go_enter Tryz.func165, Tryz.ntmps165
  obtain ⟨x0, x1⟩ := HX.out
  go_wp2_with fail
  refine hr.mono ?_
  rintro e w2 ⟨rfl, hb2⟩
  have HB2 := Lib.hid (bel_trans HB1.out hb2)
  have HX2 := Lib.hid (later2 hb2 HX.out)
  clear hb2 hr x0 x1
  cases hR : rightB N es
  · have HN : Hid (rightM N es ms = false) := rightM_noG hR
    clear hR
    go_wp2_with fail
    go_ret
    exact ⟨by rw [HN.out]; rfl, HB2.out⟩
  · obtain ⟨g0, g1, g2, g3⟩ := rightB_iff.1 hR
    obtain ⟨M, rfl⟩ : ∃ M : Nat, N = M := ⟨N.toNat, by omega⟩
    have hM : M ≤ 4096 := by omega
    have HRB := Lib.hid hR
    have HRI := Lib.hid g3
    clear hR g0 g1 g2 g3
    obtain ⟨x0, x1⟩ := HX2.out
    by_cases hlen : m = M
    · subst hlen
      have HTO : Hid (rightM m es ms = rightTo m es ms m) := by
        have := rightM_to HRB.out (ms := ms) (by rw [HM.out])
        rw [HM.out] at this
        exact this
      have hq : decide ((m : Int) = (m : Int)) = true := by simp
      have hmk := run_make_row' 68 4 (.bool false) 1 Tryz.underlying68 (by kernel_rfl) rfl .i64 .i64 m (by omega) (by omega) w2
      have HB3 := Lib.hid (bel_trans HB2.out (bel_alloc w2 (.cells (madeCells #[.bool false] m) 4)))
      have HX3 := Lib.hid (later2 (bel_alloc w2 (.cells (madeCells #[.bool false] m) 4)) HX2.out)
      have HR0 : Hid (RowF (w2.alloc (.cells (madeCells #[.bool false] m) 4)) w2.heap.size 4 m (fun j => .bool (joinF ms (es.take 0) j))) := RowF.made w2 m _ _
      have HS3 : Hid ((w2.alloc (.cells (madeCells #[.bool false] m) 4)).heap.size = w2.heap.size + 1) := by simp [Hid]
      generalize hw3 : w2.alloc (.cells (madeCells #[.bool false] m) 4) = w3 at *
      clear hw3
      obtain ⟨y0, y1⟩ := HX3.out
      go_wp2_with fail
      clear x0 x1 y0 y1
      go_loopw [26] (fun i wr => ∃ k : Nat, k ≤ n ∧ i = .int .i64 k ∧ Hid (RowF wr w2.heap.size 4 m (fun j => .bool (joinF ms (es.take k) j))) ∧ Hid (Below w.heap.size w wr)) (fun i _ => n - (intOf i).toNat)
      case atStart => exact ⟨0, Nat.zero_le _, rfl, HR0, HB3⟩
      case round =>
        obtain ⟨k, hk, rfl, hrow, hb⟩ := hrel
        by_cases hlt : k < n
        · have HLT := Lib.hid hlt
          obtain ⟨b, o, rfl, hc⟩ := (HE.out.below hb.out).2.2 (by omega)
          obtain ⟨hc1, hc2⟩ := hc k hlt
          have hke : k < es.length := by have := HEL.out; omega
          have hin := HRI.out.1 _ (show ge es k ∈ es by rw [ge_get hke]; exact List.getElem_mem _)
          have HSU : Hid (∀ v, joinF ms (es.take (k + 1)) v = (joinF ms (es.take k) v || (joinE ms (ge es k) && ((ge es k).1 == (v : Int) || (ge es k).2 == (v : Int))))) := fun v => joinF_succ hke v
          have HJE : Hid (joinE ms (ge es k) = (gi ms (ge es k).1.toNat == (ge es k).2 && gi ms (ge es k).2.toNat == (ge es k).1)) := rfl
          generalize hge : ge es k = e0 at *
          obtain ⟨e1, e2⟩ := e0
          unfold edgeOk at hin
          simp only [Bool.and_eq_true, decide_eq_true_eq] at hin
          simp only [] at hc1 hc2
          obtain ⟨x, rfl⟩ : ∃ x : Nat, e1 = x := ⟨e1.toNat, by omega⟩
          obtain ⟨y, rfl⟩ : ∃ y : Nat, e2 = y := ⟨e2.toNat, by omega⟩
          have hxm : x < m := by omega
          have hym : y < m := by omega
          have hxy : x ≠ y := by omega
          have hxi : (0 : Int) ≤ (x : Int) ∧ (x : Int) < (m : Int) := by omega
          have hyi : (0 : Int) ≤ (y : Int) ∧ (y : Int) < (m : Int) := by omega
          obtain ⟨b', o', rfl, hcm⟩ := (HL.out.below hb.out).2.2 (by omega)
          have hmx := hcm x hxm
          have hmy := hcm y hym
          have HXY := Lib.hid (And.intro hxm (And.intro hym hxy))
          clear hc hcm hge hin hke hxy
          simp only [Int.toNat_natCast] at HJE
          have HC5 := Lib.hid (And.intro hmx hmy)
          generalize hfx : gi ms x = fx at *
          generalize hfy : gi ms y = fy at *
          have HWS : Hid (w2.heap.size < wr.heap.size) := hrow.out.lt
          have HBX : Hid (Below wr.heap.size wr (wr.alloc (.cells #[.int .i64 (x : Int), .int .i64 (y : Int)] 57))) := bel_alloc _ _
          have HBC : Hid ((wr.alloc (.cells #[.int .i64 (x : Int), .int .i64 (y : Int)] 57)).cell? ⟨wr.heap.size, 0, none⟩ = some (.int .i64 (x : Int)) ∧ (wr.alloc (.cells #[.int .i64 (x : Int), .int .i64 (y : Int)] 57)).cell? ⟨wr.heap.size, 1, none⟩ = some (.int .i64 (y : Int))) := ⟨(cell_blk (heap_alloc_new _ _) 0).trans rfl, (cell_blk (heap_alloc_new _ _) 1).trans rfl⟩
          clear hfx hfy
          cases q1 : (fx == (y : Int))
          · have HJ : Hid (∀ v, joinF ms (es.take (k + 1)) v = joinF ms (es.take k) v) := fun v => by rw [HSU.out, HJE.out, q1]; simp
            go_wp2_with fail
            have zx := cell_later HBX.out HC5.out.1
            have zy := cell_later HBX.out HC5.out.2
            have zbc0 := HBC.out.1
            have zbc1 := HBC.out.2
            have HR5 := Lib.hid (hrow.out.later HBX.out)
            have HB5 := Lib.hid (below_after hb.out (by have := HB2.out.size; have := HWS.out; omega) HBX.out)
            have HS5 := Lib.hid (Nat.lt_of_lt_of_le HWS.out HBX.out.size)
            have HNE : Hid (w2.heap.size ≠ wr.heap.size) := fun e => by have := HWS.out; omega
            generalize wr.alloc (.cells #[.int .i64 (x : Int), .int .i64 (y : Int)] 57) = w5 at *
            go_quiet (fail)
            rename_i nq
            have HR6 : Hid (RowF (w5.drewN nq) w2.heap.size 4 m (fun j => .bool (joinF ms (es.take (k + 1)) j))) := (HR5.out.later ((Drawn.refl _).step nq |>.below _)).congr fun j hj => by rw [HJ.out]
            have HB6 := Lib.hid (below_draws HB5.out nq)
            go_wp2_with fail
            go_roundw
            case rel => exact ⟨k + 1, by have := HLT.out; omega, by go_num, HR6, HB6⟩
            case measure => have := HLT.out; simp [intOf]; omega
          · cases q2 : (fy == (x : Int))
            · have HJ : Hid (∀ v, joinF ms (es.take (k + 1)) v = joinF ms (es.take k) v) := fun v => by rw [HSU.out, HJE.out, q1, q2]; simp
              go_wp2_with fail
              have zx := cell_later HBX.out HC5.out.1
              have zy := cell_later HBX.out HC5.out.2
              have zbc0 := HBC.out.1
              have zbc1 := HBC.out.2
              have HR5 := Lib.hid (hrow.out.later HBX.out)
              have HB5 := Lib.hid (below_after hb.out (by have := HB2.out.size; have := HWS.out; omega) HBX.out)
              have HS5 := Lib.hid (Nat.lt_of_lt_of_le HWS.out HBX.out.size)
              have HNE : Hid (w2.heap.size ≠ wr.heap.size) := fun e => by have := HWS.out; omega
              generalize wr.alloc (.cells #[.int .i64 (x : Int), .int .i64 (y : Int)] 57) = w5 at *
              go_quiet (fail)
              rename_i nq
              have HR6 : Hid (RowF (w5.drewN nq) w2.heap.size 4 m (fun j => .bool (joinF ms (es.take (k + 1)) j))) := (HR5.out.later ((Drawn.refl _).step nq |>.below _)).congr fun j hj => by rw [HJ.out]
              have HB6 := Lib.hid (below_draws HB5.out nq)
              go_wp2_with fail
              go_roundw
              case rel => exact ⟨k + 1, by have := HLT.out; omega, by go_num, HR6, HB6⟩
              case measure => have := HLT.out; simp [intOf]; omega
            · have HJ : Hid (∀ v : Nat, joinF ms (es.take (k + 1)) v = (joinF ms (es.take k) v || (decide (v = x) || decide (v = y)))) := fun v => by
                rw [HSU.out, HJE.out, q1, q2]
                congr 1
                rw [Bool.eq_iff_iff]
                simp
                omega
              go_wp2_with fail
              have zx := cell_later HBX.out HC5.out.1
              have zy := cell_later HBX.out HC5.out.2
              have zbc0 := HBC.out.1
              have zbc1 := HBC.out.2
              have HR5 := Lib.hid (hrow.out.later HBX.out)
              have HB5 := Lib.hid (below_after hb.out (by have := HB2.out.size; have := HWS.out; omega) HBX.out)
              have HS5 := Lib.hid (Nat.lt_of_lt_of_le HWS.out HBX.out.size)
              have HNE : Hid (w2.heap.size ≠ wr.heap.size) := fun e => by have := HWS.out; omega
              generalize wr.alloc (.cells #[.int .i64 (x : Int), .int .i64 (y : Int)] 57) = w5 at *
              go_quiet (fail)
              rename_i nq
              have HR6 := Lib.hid (HR5.out.later ((Drawn.refl _).step nq |>.below _))
              have HB6 := Lib.hid (below_draws HB5.out nq)
              have HBC6 := Lib.hid (later2 ((Drawn.refl _).step nq |>.below _) (And.intro zbc0 zbc1))
              have HS6 : Hid (w2.heap.size < (w5.drewN nq).heap.size) := HS5.out
              clear zx zy zbc0 zbc1
              generalize w5.drewN nq = w6 at *
              have zbc0 := HBC6.out.1
              have zbc1 := HBC6.out.2
              have c1 := HR6.out.cell HXY.out.1
              have c2 := (HR6.out.set x (.bool true)).cell HXY.out.2.1
              have f1 := HR6.out.froz x
              have f2 := (HR6.out.set x (.bool true)).froz y
              have HST1 : Hid ((w6.setCell ⟨w2.heap.size, x, none⟩ (.bool true)).cell? ⟨wr.heap.size, 0, none⟩ = some (.int .i64 (x : Int)) ∧ (w6.setCell ⟨w2.heap.size, x, none⟩ (.bool true)).cell? ⟨wr.heap.size, 1, none⟩ = some (.int .i64 (y : Int))) := ⟨(grown_set _ _ _ _).cell HBC6.out.1 (fun e => HNE.out (by injection e with e; exact e.symm)), (grown_set _ _ _ _).cell HBC6.out.2 (fun e => HNE.out (by injection e with e; exact e.symm))⟩
              have HST2 : Hid (((w6.setCell ⟨w2.heap.size, x, none⟩ (.bool true)).setCell ⟨w2.heap.size, y, none⟩ (.bool true)).cell? ⟨wr.heap.size, 0, none⟩ = some (.int .i64 (x : Int)) ∧ ((w6.setCell ⟨w2.heap.size, x, none⟩ (.bool true)).setCell ⟨w2.heap.size, y, none⟩ (.bool true)).cell? ⟨wr.heap.size, 1, none⟩ = some (.int .i64 (y : Int))) := ⟨(grown_set2 _ _ _ _ _ _).cell HBC6.out.1 (fun e => HNE.out (by injection e with e; exact e.symm)), (grown_set2 _ _ _ _ _ _).cell HBC6.out.2 (fun e => HNE.out (by injection e with e; exact e.symm))⟩
              go_wp2_with fail
              go_region_held3 (fun w' => w'.cell? ⟨wr.heap.size, 0, none⟩ = some (.int .i64 (x : Int)) ∧ w'.cell? ⟨wr.heap.size, 1, none⟩ = some (.int .i64 (y : Int)))
                (first | assumption | exact HBC6.out | exact HST1.out | exact HST2.out | fail) (fail)
              have HR7 : Hid (RowF ((w6.setCell ⟨w2.heap.size, x, none⟩ (.bool true)).setCell ⟨w2.heap.size, y, none⟩ (.bool true)).drew w2.heap.size 4 m (fun j => .bool (joinF ms (es.take (k + 1)) j))) := (((HR6.out.set x (.bool true)).set y (.bool true)).later (RW.refl _).drew).congr fun j hj => by
                rw [HJ.out]
                by_cases e1 : j = y
                · simp [e1]
                · by_cases e2 : j = x
                  · simp [e2, e1]
                  · simp [e1, e2]
              have HB7 : Hid (Below w.heap.size w ((w6.setCell ⟨w2.heap.size, x, none⟩ (.bool true)).setCell ⟨w2.heap.size, y, none⟩ (.bool true)).drew) := below_draws (Below.setCell (Below.setCell HB6.out HB2.out.size _) HB2.out.size _) 1
              clear HST1 HST2 c1 c2 f1 f2
              go_wp2_with fail
              go_roundw
              case rel => exact ⟨k + 1, by have := HLT.out; omega, by go_num, HR7, HB7⟩
              case measure => have := HLT.out; simp [intOf]; omega
        · obtain rfl : n = k := by omega
          have hd : decide ((n : Int) < (n : Int)) = false := by rw [decide_eq_false_iff_not]; omega
          have HJJ : Hid (∀ v : Nat, (gi ms v == -1 || joinF ms (es.take n) v) = rightAt m es ms v) := fun v => by
            rw [List.take_of_length_le (by have := HEL.out; omega)]
            exact join_right HRB.out v
          have HT0 : Hid (rightTo m es ms 0 = true) := rfl
          have HROW := hrow
          have HBW := hb
          have hRB0 : Hid (RW wr wr) := RW.refl wr
          clear hlt hk
          go_wp2_with fail
          clear hd
          go_loopw [59] (fun i wq => ∃ k : Nat, k ≤ m ∧ i = .int .i64 k ∧ Hid (rightTo m es ms k = true) ∧ Hid (RW wr wq)) (fun i _ => m - (intOf i).toNat)
          case atStart => exact ⟨0, Nat.zero_le _, rfl, HT0, hRB0⟩
          case round =>
            obtain ⟨k, hk, rfl, hto, hrw⟩ := hrel
            have HBR := Lib.hid (below_after HBW.out (by have := HB2.out.size; have := HROW.out.lt; omega) hrw.out)
            by_cases hlt : k < m
            · have HLT := Lib.hid hlt
              obtain ⟨b', o', rfl, hcm⟩ := (HL.out.below HBR.out).2.2 (by omega)
              have hmk := hcm k hlt
              have hrk := (HROW.out.later hrw.out).cell hlt
              have HSUC : Hid (∀ q, rightAt m es ms k = q → rightTo m es ms (k + 1) = q) := fun q hq => by rw [rightTo, hto.out, hq]; simp
              have HFAL : Hid (rightAt m es ms k = false → rightM m es ms = false) := fun hq => by rw [HTO.out]; exact rightTo_false hq HLT.out
              have HAT := Lib.hid (HJJ.out k)
              have hki : (0 : Int) ≤ (k : Int) ∧ (k : Int) < (m : Int) := by omega
              clear hcm
              generalize gi ms k = x at *
              generalize joinF ms (es.take n) k = jb at *
              by_cases q1 : x = -1
              · subst q1
                have HT : Hid (rightTo m es ms (k + 1) = true) := HSUC.out _ (by rw [← HAT.out]; rfl)
                go_wp2_with fail
                go_roundw
                case rel => exact ⟨k + 1, by have := HLT.out; omega, by go_num, HT, hrw⟩
                case measure => have := HLT.out; simp [intOf]; omega
              · have q2 : (x == -1) = false := by simpa using q1
                have q3 : (x != -1) = true := by simp [q1]
                have HQ2 := Lib.hid q2
                cases jb
                · have HF : Hid (rightM m es ms = false) := HFAL.out (by rw [← HAT.out, HQ2.out]; rfl)
                  go_wp2_with fail
                  go_ret
                  exact ⟨by rw [HF.out]; rfl, HBR.out⟩
                · have HT : Hid (rightTo m es ms (k + 1) = true) := HSUC.out _ (by rw [← HAT.out]; simp)
                  go_wp2_with fail
                  go_roundw
                  case rel => exact ⟨k + 1, by have := HLT.out; omega, by go_num, HT, hrw⟩
                  case measure => have := HLT.out; simp [intOf]; omega
            · obtain rfl : k = m := by omega
              have hd : decide ((k : Int) < (k : Int)) = false := by rw [decide_eq_false_iff_not]; omega
              clear hlt hk
              go_wp2_with fail
              go_ret
              exact ⟨by rw [HTO.out, hto.out]; rfl, HBR.out⟩
    · have HN : Hid (rightM M es ms = false) := rightM_len (by rw [HM.out]; omega)
      have hq : ((m : Int) == (M : Int)) = false := by simp; omega
      have hq2 : ((m : Int) != (M : Int)) = true := by simp; omega
      have hq3 : (m == M) = false := by simp; omega
      have hq4 : (m != M) = true := by simp; omega
      go_wp2_with fail
      go_ret
      exact ⟨by rw [HN.out]; rfl, HB2.out⟩
end

section
open Go.RowKit
section
variable {N : Nat} {es : List Ed}
theorem lack_small {ol : List Int} (h : SetN N ol) : -(N : Int) ≤ lackP N es ol ∧ lackP N es ol ≤ N := by
  have h1 := oddN_le (Pc.all (fun v => nearV es v) N (inL ol) N).2
  have h2 := Pc.all_le (near := fun v => nearV es v) (N := N) (d0 := inL ol) N
  have h3 := h.few
  unfold lackP
  omega
theorem RW.two' {w0 W : World} {a1 a2 : Addr} {v1 v2 : Value} (h : w0.cell? a1 = some v1 ∧ w0.cell? a2 = some v2) (r : RW w0 W) : W.cell? a1 = some v1 ∧ W.cell? a2 = some v2 ∧ RW w0 W := ⟨cell_later r h.1, cell_later r h.2, r⟩

set_option maxHeartbeats 16000000 in
set_option maxRecDepth 100000 in
theorem shows_any {A : Option Addr} {n c b1 b2 : Nat} {mv ov : Value} {ms ol : List Int} (w : World) (h : ReadE w A n es) (hm : rightM N es ms = true) (hmv : OwnI w b2 mv ms) (ho : OwnI w b1 ov ol) (hol : SetN N ol) (hs : 2 * ((edgesM ms).length : Int) = N - lackP N es ol) :
    Calls Tryz.prog 166 #[.agg #[.int .i64 N, .slice A n c], mv, ov] w fun e w' => e = .returned (.bool true) ∧ Below w.heap.size w w' := by
  obtain ⟨hr, hmn⟩ := rightM_iff.1 hm
  obtain ⟨r1, r2, r3, r4⟩ := rightB_iff.1 hr
  obtain ⟨B, d, rfl, -, -, hmr⟩ := OwnI.read hmv
  have hlm : ms.length = N := hmn.1
  have hG1 : GB w N A n c (w.alloc (gcells N A n c)) := Below.refl _ _
  obtain ⟨x0, x1⟩ := hG1.two
  have hla := lack_any (c := c) (w.alloc (gcells N A n c)) (h.below hG1.of) hr (ho.later hG1.of) hol
  have HE := Lib.hid h
  have HM := Lib.hid hm
  have HMR := Lib.hid hmr
  have HG1 := Lib.hid hG1
  have HLM : Hid (ms.length ≤ 1000000) := by unfold Hid; omega
  have hls := lack_small (es := es) hol
  have HKS : Hid (2 * (edgesM ms).length ≤ 10000) := by unfold Hid; omega
  generalize lackP N es ol = K at *
  generalize hkk : (edgesM ms).length = k at *
  have hK : (N : Int) - K = 2 * (k : Int) := hs.symm
  have e1 : wrap64 (2 * (k : Int)) = 2 * (k : Int) := by have := HKS.out; unfold wrap64; omega
  have e2 : IntKind.i64.wrap (2 * (k : Int)) = 2 * (k : Int) := by have := HKS.out; rw [IntKind.wrap_i64]; omega
  have HKK := Lib.hid hkk
  clear h hm hmn hr r1 r2 r3 r4 hmv ho hol hs hmr hlm hG1 hls hkk
  go_enter Tryz.func166, Tryz.ntmps166
  go_wp2_with fail
  refine hla.mono ?_
  rintro e w2 ⟨rfl, hb2⟩
  have HG2 := Lib.hid (HG1.out.lat hb2)
  clear hla x0 x1 hb2
  obtain ⟨x0, x1⟩ := HG2.out.two
  have HX := Lib.hid (And.intro x0 x1)
  have HMA : Hid (∀ W, RW w2 W → Calls Tryz.prog 165 #[.agg #[.int .i64 N, .slice A n c], .slice B ms.length d] W fun e w' => e = .returned (.bool true) ∧ Below W.heap.size W w') := fun W r => by
    have := mright_any (c := c) (d := d) N W ((HE.out.below HG2.out.of).below r) ((HMR.out.below HG2.out.of).below r)
    rwa [HM.out] at this
  have HMS : Hid (∀ W, RW w2 W → Calls Tryz.prog 132 #[.slice B ms.length d] W fun e w' => e = .returned (.int .i64 k) ∧ Below W.heap.size W w') := fun W r => by
    have := msize_any (c := d) W ((HMR.out.below HG2.out.of).below r) HLM.out
    rwa [HKK.out] at this
  go_wp2_with fail
  go_region_held3 (fun w' => w'.cell? ⟨w.heap.size, 0, none⟩ = some (.int .i64 N) ∧ w'.cell? ⟨w.heap.size, 1, none⟩ = some (.slice A n c) ∧ RW w2 w')
    (first | assumption | exact RW.two' HX.out (RW.refl w2) | exact RW.two' HX.out (RW.refl w2).drew | exact RW.two' HX.out (RW.later (And.right (And.right (by assumption))) hb9) | exact RW.two' HX.out (RW.later (And.right (And.right (by assumption))) hb10) | fail)
    (first
      | (go_at_call 165; refine (HMA.out _ (And.right (And.right (by assumption)))).mono ?_; rintro e w9 ⟨rfl, hb9⟩)
      | (go_at_call 132; refine (HMS.out _ (And.right (And.right (by assumption)))).mono ?_; rintro e w10 ⟨rfl, hb10⟩)
      | fail)
  have hfin : RW w2 w10 := And.right (And.right (by assumption))
  have HF := Lib.hid (bel_trans HG2.out.of hfin)
  go_wp2_with fail
  go_ret
  exact ⟨rfl, HF.out⟩

set_option maxHeartbeats 16000000 in
set_option maxRecDepth 100000 in
theorem certm_any {A : Option Addr} {n c b1 b2 : Nat} {mv ov : Value} {ms ol : List Int} (w : World) (h : ReadE w A n es) (hm : rightM N es ms = true) (hmv : OwnI w b2 mv ms) (ho : OwnI w b1 ov ol) (hol : SetN N ol) (hs : 2 * ((edgesM ms).length : Int) = N - lackP N es ol) :
    Calls Tryz.prog 131 #[.agg #[.int .i64 N, .slice A n c], mv, ov] w fun e w' => e = .returned (.int .i64 0) ∧ Below w.heap.size w w' := by
  obtain ⟨hr, hmn⟩ := rightM_iff.1 hm
  have hmr : ∃ B d, mv = .slice B ms.length d ∧ ReadI w B ms.length ms := by
    obtain ⟨B, d, e, -, -, r⟩ := OwnI.read hmv
    exact ⟨B, d, e, r⟩
  obtain ⟨B, d, rfl, hmr⟩ := hmr
  have hG1 : GB w N A n c (w.alloc (gcells N A n c)) := Below.refl _ _
  obtain ⟨x0, x1⟩ := hG1.two
  have hgr := gright_any (c := c) N (w.alloc (gcells N A n c)) (h.below hG1.of)
  have HE := Lib.hid h
  have HM := Lib.hid hm
  have HR := Lib.hid hr
  have HMR := Lib.hid hmr
  have HMV := Lib.hid hmv
  have HO := Lib.hid ho
  have HOL := Lib.hid hol
  have HS := Lib.hid hs
  have HG1 := Lib.hid hG1
  clear h hm hmn hr hmv ho hol hs hmr hG1
  go_enter Tryz.func131, Tryz.ntmps131
  go_wp2_with fail
  refine hgr.mono ?_
  rintro e w2 ⟨rfl, hb2⟩
  rw [HR.out]
  have HG2 := Lib.hid (HG1.out.lat hb2)
  clear hgr x0 x1 hb2
  obtain ⟨x0, x1⟩ := HG2.out.two
  have hmm := mright_any (c := c) (d := d) N w2 (HE.out.below HG2.out.of) (HMR.out.below HG2.out.of)
  rw [HM.out] at hmm
  go_wp2_with fail
  refine hmm.mono ?_
  rintro e w3 ⟨rfl, hb3⟩
  have HG3 := Lib.hid (HG2.out.lat hb3)
  clear hmm x0 x1 hb3
  obtain ⟨x0, x1⟩ := HG3.out.two
  have hla := lack_any (c := c) w3 (HE.out.below HG3.out.of) HR.out (HO.out.later HG3.out.of) HOL.out
  go_wp2_with fail
  refine hla.mono ?_
  rintro e w4 ⟨rfl, hb4⟩
  have HG4 := Lib.hid (HG3.out.lat hb4)
  clear hla x0 x1 hb4
  obtain ⟨x0, x1⟩ := HG4.out.two
  have hsh := shows_any (c := c) w4 (HE.out.below HG4.out.of) HM.out (HMV.out.later HG4.out.of) (HO.out.later HG4.out.of) HOL.out HS.out
  go_wp2_with fail
  refine hsh.mono ?_
  rintro e w5 ⟨rfl, hb5⟩
  have HG5 := Lib.hid (HG4.out.lat hb5)
  clear hsh x0 x1 hb5
  go_wp2_with fail
  go_ret
  exact ⟨rfl, HG5.out.of⟩
end
end

section
open Go.RowKit
theorem top_same {N : Nat} {es : List Ed} {ms ms' : List Int} {t t' : Fo} (hr : Rise N es) (h : MatchN N es ms) (h' : MatchN N es ms') (i : FoI N (JV es) (gi ms) t) (d : t.Done N (JV es)) (i' : FoI N (JV es) (gi ms') t') (d' : t'.Done N (JV es)) : (edgesM ms).length = (edgesM ms').length := by
  have a := FoI.max hr (fun x y h => h) (jv_ok hr h) i d (fun _ _ => rfl) h h'
  have b := FoI.max hr (fun x y h => h) (jv_ok hr h') i' d' (fun _ _ => rfl) h' h
  have c := match_count hr h
  have c' := match_count hr h'
  omega
end

section
open Go.RowKit
section
variable {N : Nat} {es : List Ed}
/-- Who has a label. -/
def suchL (l : List Int) (x : Int) (k : Nat) : List Int := sel (fun j => decide (gi l j = x)) k
theorem FoI.noAug {ms l : List Int} {r u : Nat} {t : Fo} (hr : Rise N es) (h : MatchN N es ms) (i : FoI N (JV es) (gi ms) t) (d : t.Done N (JV es)) : ¬ Aug N (JV es) ms l r u := fun a => by
  have hj := jv_ok hr h
  obtain ⟨m', e⟩ := Aug.turn (fun x y k => hj.lt x y k) (fun x y k => hj.sym x y k) (fun x y k => k) h a
  have := FoI.max hr (fun x y h => h) hj i d (fun _ _ => rfl) h m'
  omega

set_option maxHeartbeats 16000000 in
set_option maxRecDepth 100000 in
theorem bsuch_any {b2 : Nat} {v : Value} {l : List Int} {x : Int} (w : World) (h : OwnI w b2 v l) (hl : l.length ≤ 1000000) :
    Calls Tryz.prog 164 #[v, .int .i64 x] w fun e w' => ∃ u, e = .returned u ∧ OwnI w' w.heap.size u (suchL l x l.length) ∧ Below w.heap.size w w' := by
  obtain ⟨A, d, rfl, -, -, hr⟩ := OwnI.read h
  have HH := Lib.hid h
  have HL := Lib.hid hl
  clear h hr hl
  go_enter Tryz.func164, Tryz.ntmps164
  go_wp2_with fail
  go_loopw [5, 10] (fun v5 i wr => ∃ k : Nat, k ≤ l.length ∧ i = .int .i64 k ∧ Hid (OwnI wr w.heap.size v5 (suchL l x k) ∧ Below w.heap.size w wr)) (fun _ i _ => l.length - (intOf i).toNat)
  case atStart => exact ⟨0, Nat.zero_le _, rfl, World.ownsRow_nil _ _ _ _, Below.refl _ _⟩
  case round =>
    obtain ⟨k, hk, rfl, hin⟩ := hrel
    by_cases hlt : k < l.length
    · have HLT := Lib.hid hlt
      obtain ⟨g, c', hv, hgb, hgl, hgc⟩ := own_slice HH.out (by omega)
      simp only [Value.slice.injEq] at hv
      obtain ⟨rfl, -, -⟩ := hv
      have hck := (HH.out.later hin.out.2).cellAt hlt
      have ew := wrap_one (show k ≤ 1000000 by have := HL.out; omega)
      have hki : (0 : Int) ≤ (k : Int) ∧ (k : Int) < (l.length : Int) := ⟨Int.natCast_nonneg k, Int.ofNat_lt.2 hlt⟩
      have HIN := Lib.hid hin.out
      have HLE : Hid ((suchL l x k).length + 1 ≤ 1000000000) := by
        have h1 : (suchL l x k).length ≤ k := sel_length _ _
        have := HL.out
        unfold Hid; omega
      by_cases hx : gi l k = x
      · have HNX : Hid (suchL l x k ++ [(k : Int)] = suchL l x (k + 1)) := by unfold Hid suchL; rw [sel, if_pos (by simp [hx])]
        have tx : decide (gi l k = x) = true := decide_eq_true hx
        rw [hx] at hck tx
        have HSZ : Hid (w.heap.size ≤ wr.heap.size) := hin.out.2.size
        clear hlt hk hgl hgb hin hx
        go_wp2_with (at_builtin; refine app_int (w0 := wr) (W := wr) w.heap.size rfl _ _ rfl u5 (suchL l x k) (k : Int) rfl rfl HIN.out.1 (Below.refl _ _) HSZ.out (by have := HLE.out; omega) ?_; intro v1 w8 o1 b1 g1 h1)
        have HI : Hid (OwnI w8 w.heap.size v1 (suchL l x (k + 1)) ∧ Below w.heap.size w w8) := ⟨by rw [← HNX.out]; exact o1, Below.trans HIN.out.2 b1⟩
        clear o1 b1 g1 h1
        go_wp2_with fail
        go_roundw
        case rel => exact ⟨k + 1, HLT.out, by go_num, HI.out⟩
        case measure => have := HLT.out; simp only [intOf, Int.toNat_natCast]; omega
      · have HNX : Hid (suchL l x k = suchL l x (k + 1)) := by
          unfold Hid suchL
          rw [sel, if_neg (by simp [hx])]
        clear hlt hk hgl hgb hin
        go_wp2_with fail
        go_roundw
        case rel => exact ⟨k + 1, HLT.out, by go_num, by rw [← HNX.out]; exact HIN.out⟩
        case measure => have := HLT.out; simp only [intOf, Int.toNat_natCast]; omega
    · have hke : k = l.length := by omega
      subst hke
      have HIN := Lib.hid hin.out
      clear hin hlt hk
      go_wp2_with fail
      go_ret
      exact ⟨_, rfl, HIN.out⟩

/-- Labels behind a largest matching. -/
def LabQ (N : Nat) (es : List Ed) (ms l : List Int) : Prop := ∃ t, FoI N (JV es) (gi ms) t ∧ t.Done N (JV es) ∧ l.length = N ∧ ∀ j, j < N → gi l j = if t.ou j = true then 1 else t.lab j

set_option maxHeartbeats 16000000 in
set_option maxRecDepth 100000 in
theorem path_any {A : Option Addr} {n c b2 : Nat} {mv : Value} {ms : List Int} {t : Fo} (w : World) (h : ReadE w A n es) (hm : rightM N es ms = true) (hmv : OwnI w b2 mv ms) (hi : FoI N (JV es) (gi ms) t) (hd : t.Done N (JV es)) :
    Calls Tryz.prog 210 #[.agg #[.int .i64 N, .slice A n c], mv] w fun e w' => ∃ v l, e = .returned (.tuple #[.slice none 0 0, v, .int .i64 0]) ∧ OwnI w' w.heap.size v l ∧ LabQ N es ms l ∧ Below w.heap.size w w' := by
  obtain ⟨hr, hmn⟩ := rightM_iff.1 hm
  obtain ⟨r1, r2, r3, r4⟩ := rightB_iff.1 hr
  have HN6 : Hid (N ≤ 4096) := by unfold Hid; omega
  have HEL := Lib.hid r3
  have HRI := Lib.hid r4
  obtain ⟨B, d, rfl, -, -, hmr⟩ := OwnI.read hmv
  have hlm : ms.length = N := hmn.1
  have hG1 : GB w N A n c (w.alloc (gcells N A n c)) := Below.refl _ _
  obtain ⟨x0, x1⟩ := hG1.two
  have hgr := gright_any (c := c) N (w.alloc (gcells N A n c)) (h.below hG1.of)
  have HE := Lib.hid h
  have HM := Lib.hid hm
  have HR := Lib.hid hr
  have HMN := Lib.hid hmn
  have HMR := Lib.hid hmr
  have HMV := Lib.hid hmv
  have HNO : Hid (∀ l r u, ¬ Aug N (JV es) ms l r u) := fun l r u => FoI.noAug r4 hmn hi hd
  have HG1 := Lib.hid hG1
  have HLT : Hid (∀ k, (Value.slice B ms.length d).ownBlock = some k → k < w.heap.size) := row_lt hmv
  rw [hlm] at HMR HMV HLT
  rw [hlm]
  clear h hm hmn hr r1 r2 r3 r4 hmv hmr hG1 hi hd hlm
  go_enter Tryz.func210, Tryz.ntmps210
  go_wp2_with fail
  refine hgr.mono ?_
  rintro e w2 ⟨rfl, hb2⟩
  rw [HR.out]
  have HG2 := Lib.hid (HG1.out.lat hb2)
  clear hgr x0 x1 hb2
  obtain ⟨x0, x1⟩ := HG2.out.two
  have hmm := mright_any (c := c) (d := d) N w2 (HE.out.below HG2.out.of) (HMR.out.below HG2.out.of)
  rw [HM.out] at hmm
  go_wp2_with fail
  refine hmm.mono ?_
  rintro e w3 ⟨rfl, hb3⟩
  have HG3 := Lib.hid (HG2.out.lat hb3)
  clear hmm x0 x1 hb3
  obtain ⟨x0, x1⟩ := HG3.out.two
  have hli := lists_any (c := c) N w3 (HE.out.below HG3.out.of) HN6.out (by have := HEL.out; have := HE.out.1; omega) (fun k hk => by
    have := HRI.out.1 _ (show ge es k ∈ es by rw [ge_get (by have := HE.out.1; omega)]; exact List.getElem_mem _)
    unfold edgeOk at this
    simp at this
    omega)
  go_wp2_with fail
  refine hli.mono ?_
  rintro e w4 ⟨vs, rfl, hrows, hb4⟩
  have HG4 := Lib.hid (HG3.out.lat hb4)
  have hmr : MR w4.heap.size N (.slice B N d) (gi ms) w4 := by
    obtain ⟨M, mc, e, k⟩ := MR.of_own (HMV.out.later HG4.out.of) HMN.out.1
    rw [e]
    exact k
  have hse := search_any (ms := ms) (mc := d) (M := B) w4 HN6.out HEL.out HRI.out HMN.out (hrows.congr (L' := fun v => nearV es v) fun i hi => rfl) hmr
  clear hli x0 x1 hrows hb4 hmr
  go_wp2_with fail
  refine hse.mono ?_
  rintro e w5 ⟨path, labels, lk, rfl, -, -, hb5, ⟨-, -, -, l, r, u, -, -, -, ha⟩ | ⟨rfl, t, l, o5, k1, k2, k3, k4⟩⟩
  · exact absurd ha (HNO.out l r u)
  · have HG5 := Lib.hid (HG4.out.lat hb5)
    have HO5 : Hid (OwnI w5 w.heap.size labels l) := row_weaken o5 HG4.out.of.size
    have HQ : Hid (LabQ N es ms l) := ⟨t, k1, k2, k3, k4⟩
    clear hse hb5 o5 k1 k2 k3 k4
    go_wp2_with fail
    refine bodyPost_ret (results_tmp3 rfl _ _ _) rfl ?_
    exact ⟨_, l, rfl, HO5.out, HQ.out, HG5.out.of⟩

set_option maxHeartbeats 16000000 in
set_option maxRecDepth 100000 in
theorem labels_any {A : Option Addr} {n c : Nat} (w : World) (h : ReadE w A n es) (hr : rightB N es = true) :
    Calls Tryz.prog 163 #[.agg #[.int .i64 N, .slice A n c]] w fun e w' => ∃ v mv l ms, e = .returned (.tuple #[v, mv, .int .i64 0]) ∧ OwnI w' w.heap.size v l ∧ MatchN N es ms ∧ LabQ N es ms l ∧ Below w.heap.size w w' := by
  have hG1 : GB w N A n c (w.alloc (gcells N A n c)) := Below.refl _ _
  obtain ⟨x0, x1⟩ := hG1.two
  have hla := slargest_any (c := c) (N := N) (w.alloc (gcells N A n c)) (h.below hG1.of) hr
  have HE := Lib.hid h
  have HR := Lib.hid hr
  have HG1 := Lib.hid hG1
  clear h hr hG1
  go_enter Tryz.func163, Tryz.ntmps163
  go_wp2_with fail
  refine hla.mono ?_
  rintro e w2 ⟨mv, rd, lk, ms, t, rfl, o2, m2, hb2, -, -, -, -, i2, d2⟩
  have HG2 := Lib.hid (HG1.out.lat hb2)
  have HO2 : Hid (OwnI w2 w.heap.size mv ms) := row_weaken o2 HG1.out.of.size
  have HM2 : Hid (rightM N es ms = true) := rightM_iff.2 ⟨HR.out, m2⟩
  have HI2 := Lib.hid (And.intro i2 (And.intro d2 m2))
  clear hla x0 x1 hb2 o2 m2 i2 d2
  have hba := bel_alloc w2 (.cells #[.int .i64 rd, .int .i64 lk] 50)
  have HG3 := Lib.hid (HG2.out.lat hba)
  have HO3 := Lib.hid (HO2.out.later hba)
  clear hba
  obtain ⟨x0, x1⟩ := HG3.out.two
  have hpa := path_any (c := c) _ (HE.out.below HG3.out.of) HM2.out HO3.out HI2.out.1 HI2.out.2.1
  go_wp2_with fail
  refine hpa.mono ?_
  rintro e w4 ⟨v, l, rfl, o4, q4, hb4⟩
  have HG4 := Lib.hid (HG3.out.lat hb4)
  have HO4 : Hid (OwnI w4 w.heap.size v l) := row_weaken o4 HG3.out.of.size
  have HQ := Lib.hid q4
  clear hpa x0 x1 hb4 o4 q4
  go_wp2_with fail
  go_ret3
  exact ⟨v, mv, l, ms, rfl, HO4.out, HI2.out.2.2, HQ.out, HG4.out.of⟩

theorem suchL_set {l : List Int} {x : Int} : SetN N (suchL l x N) := ⟨sel_nodup _ _, fun y hy => by
  obtain ⟨j, hj, -, rfl⟩ := mem_sel.1 hy
  exact ⟨j, hj, rfl⟩⟩
set_option maxHeartbeats 16000000 in
set_option maxRecDepth 100000 in
theorem bof_any {A : Option Addr} {n c : Nat} (w : World) (h : ReadE w A n es) (hr : rightB N es = true) :
    Calls Tryz.prog 130 #[.agg #[.int .i64 N, .slice A n c]] w fun e w' => ∃ v l ms, e = .returned (.tuple #[v, .int .i64 0]) ∧ OwnI w' w.heap.size v (suchL l 2 N) ∧ MatchN N es ms ∧ LabQ N es ms l ∧ Below w.heap.size w w' := by
  have hG1 : GB w N A n c (w.alloc (gcells N A n c)) := Below.refl _ _
  obtain ⟨x0, x1⟩ := hG1.two
  have hla := labels_any (c := c) (N := N) (w.alloc (gcells N A n c)) (h.below hG1.of) hr
  have HN6 : Hid (N ≤ 4096) := by obtain ⟨r1, r2, r3, r4⟩ := rightB_iff.1 hr; unfold Hid; omega
  have HG1 := Lib.hid hG1
  clear h hr hG1
  go_enter Tryz.func130, Tryz.ntmps130
  go_wp2_with fail
  refine hla.mono ?_
  rintro e w2 ⟨v, mv, l, ms, rfl, o2, m2, q2, hb2⟩
  have HG2 := Lib.hid (HG1.out.lat hb2)
  have HQ := Lib.hid (And.intro m2 q2)
  have hln : l.length = N := by obtain ⟨t, -, -, k, -⟩ := q2; exact k
  have hsu := bsuch_any (x := 2) w2 o2 (by have := HN6.out; omega)
  rw [hln] at hsu
  clear hla x0 x1 hb2 o2 m2 q2 hln
  go_wp2_with fail
  refine hsu.mono ?_
  rintro e w3 ⟨u, rfl, o3, hb3⟩
  have HG3 := Lib.hid (HG2.out.lat hb3)
  have HO3 : Hid (OwnI w3 w.heap.size u (suchL l 2 N)) := row_weaken o3 HG2.out.of.size
  clear hsu hb3 o3
  go_wp2_with fail
  go_ret2
  exact ⟨u, l, ms, rfl, HO3.out, HQ.out.1, HQ.out.2, HG3.out.of⟩
end
end

end Go.Proofs.YtbnipgajhpbolaaGreatDoor
