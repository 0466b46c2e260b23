/- The walk of the statement SubJoined. -/
import Derived.Test.YtnldfjoadmehcaaSubPure
import Derived.Deep.RegionWith
set_option linter.unusedVariables false
set_option linter.unusedSimpArgs false
namespace Go.Proofs.Ytnldfjoadmehcaa
open Go.RowKit

theorem boxg (W : World) (N : Int) (A : Option Addr) (n c : Nat) : (W.alloc (gcells N A n c)).cell? ⟨W.heap.size, 0, none⟩ = some (.int .i64 N) ∧ (W.alloc (gcells N A n c)).cell? ⟨W.heap.size, 1, none⟩ = some (.slice A n c) :=
  ⟨(cell_blk (heap_alloc_new _ _) 0).trans rfl, (cell_blk (heap_alloc_new _ _) 1).trans rfl⟩
theorem later2 {W W' : World} {a b : Addr} {x y : Value} (hb : Below W.heap.size W W') (h : W.cell? a = some x ∧ W.cell? b = some y) : W'.cell? a = some x ∧ W'.cell? b = some y := ⟨cell_later hb h.1, cell_later hb h.2⟩
theorem bel_alloc (W : World) (o : Obj) : Below W.heap.size W (W.alloc o) := (Below.refl _ _).alloc (Nat.le_refl _) _
theorem bel_trans {a b c : World} (h : Below a.heap.size a b) (k : Below b.heap.size b c) : Below a.heap.size a c := below_after h h.size k

set_option maxHeartbeats 8000000 in
set_option maxRecDepth 100000 in
theorem subJoined_any {A : Option Addr} {n c : Nat} {zs : List Int} (N bits : Int) (w : World) (h : ReadI w A n zs) (hb0 : 0 ≤ bits) (hb1 : bits ≤ 18446744073709551615) :
    Calls Try.prog 4 #[.int .i64 N, .slice A n c, .int .u64 bits] w fun e w' => e = .returned (.bool true) ∧ Below w.heap.size w w' := by
  have hsm := fun W => fun M : Nat => some_any (A := A) (n := n) (c := c) M bits W hb0 hb1
  have hsome : ∀ (W : World) (M : Nat) (A : Option Addr) (n c : Nat), Calls Try.prog 20 #[.agg #[.int .i64 M, .slice A n c], .int .u64 bits] W fun e w' => ∃ v, e = .returned v ∧ OwnI w' (W.heap.size + 1) v (someL M bits) ∧ Below W.heap.size W w' := fun W M A n c => some_any M bits W hb0 hb1
  have HSO := Lib.hid hsome
  clear hsm hsome hb0 hb1
  go_enter Try.func4, Try.ntmps4
  go_wp2_with fail
  refine (small_any N 20 40 w h (by omega) (by omega)).mono ?_
  rintro e w1 ⟨g, m, es, rfl, hm0, hm1, hes, hre, v, rfl, own1, hbel1⟩
  obtain ⟨M, rfl⟩ : ∃ M : Nat, m = M := ⟨m.toNat, by omega⟩
  obtain ⟨A1, c1, rfl, hc1, -, hR1⟩ := OwnE.read own1
  have HM : Hid (M ≤ 20) := by unfold Hid; omega
  have HRE := Lib.hid hre
  have hBX1 := boxg w1 M A1 es.length c1
  have hE1 := hR1.below (bel_alloc w1 (gcells M A1 es.length c1))
  have HB1 := Lib.hid (bel_trans hbel1 (bel_alloc w1 (gcells M A1 es.length c1)))
  have HL : Hid (someL M bits = sel (bitB bits) M) := someL_sel (by have := HM.out; omega)
  have HKR := Lib.hid (keepR_sel (p := bitB bits) hre)
  have HNR := Lib.hid (keepR_not (p := bitB bits) hre)
  clear own1 hbel1 hR1 hc1 hm0 hm1 hes hre
  go_wp2_with fail
  refine (HSO.out _ M A1 es.length c1).mono ?_
  rintro e w2 ⟨v2, rfl, own2, hbel2⟩
  rw [HL.out] at own2
  generalize w1.alloc (gcells M A1 es.length c1) = W1 at *
  obtain ⟨A2, c2, rfl, -, -, hR2⟩ := OwnI.read own2
  have hBX2 := later2 hbel2 hBX1
  have hE2 := hE1.below hbel2
  have HB2 := Lib.hid (bel_trans HB1.out hbel2)
  have hkeep := keep_any (c := c1) (d := c2) M w2 hE2 hR2
  rw [HKR.out] at hkeep
  have HSUM : Hid ((sel (bitB bits) M).length + (sel (fun j => !bitB bits j) M).length = M) := sel_both _ M
  have HJ : Hid (∀ a b : Nat, a < (sel (bitB bits) M).length → b < (sel (bitB bits) M).length → hasB (sel (bitB bits) M).length (keptE (nmF (bitB bits)) es) a b = hasB M es (gi (sel (bitB bits) M) a) (gi (sel (bitB bits) M) b)) := fun a b ha hb => kept_joined HRE.out ha hb
  have HNI : Hid (∀ x, x ∈ sel (fun j => !bitB bits j) M → x ∉ sel (bitB bits) M) := fun x hx hy => by
    obtain ⟨i, i1, i2, rfl⟩ := mem_sel.1 hx
    have := (mem_sel_nat.1 hy).2
    simp [this] at i2
  have hwo : ∀ W, ReadE W A1 es.length es → ReadI W A2 (sel (bitB bits) M).length (sel (bitB bits) M) → Calls Try.prog 24 #[.agg #[.int .i64 M, .slice A1 es.length c1], .slice A2 (sel (bitB bits) M).length c2] W (KeepQ (keepR M es (sel (bitB bits) M) false) W) := fun W h1 h2 => without_any (c := c1) (d := c2) M W h1 h2
  rw [HNR.out] at hwo
  have HWO := Lib.hid hwo
  generalize sel (fun j => !bitB bits j) M = nl at *
  generalize sel (bitB bits) M = l at *
  generalize keptE (nmF (bitB bits)) es = hs at *
  generalize keptE (nmF fun j => !bitB bits j) es = os at *
  clear HKR HNR HSO hBX1 hE1 HB1 own2 hbel2 hwo HL
  obtain ⟨bx20, bx21⟩ := hBX2
  go_wp2_with fail
  refine hkeep.mono ?_
  rintro e w3 ⟨v3, u3, rfl, ownE3, ownI3, hbel3⟩
  obtain ⟨A3, c3, rfl, -, -, hR3⟩ := OwnE.read ownE3
  obtain ⟨A4, c4, rfl, -, -, hR4⟩ := OwnI.read ownI3
  simp only [] at hR3 hR4
  have hbA3 := bel_alloc w3 (gcells l.length A3 hs.length c3)
  have hE3 := (hE2.below hbel3).below hbA3
  have hL3 := (hR2.below hbel3).below hbA3
  have hH3 := hR3.below hbA3
  have hS3 := hR4.below hbA3
  have bg3 := later2 hbA3 (later2 hbel3 ⟨bx20, bx21⟩)
  have bh3 := boxg w3 l.length A3 hs.length c3
  have HB3 := Lib.hid (bel_trans (bel_trans HB2.out hbel3) hbA3)
  clear hkeep hE2 hR2 bx20 bx21 hbel3 ownE3 ownI3 hR3 hR4 hbA3 HB2
  obtain ⟨bg30, bg31⟩ := bg3
  simp only []
  go_wp2_with fail
  refine (HWO.out _ hE3 hL3).mono ?_
  rintro e w4 ⟨v4, u4, rfl, ownE4, ownI4, hbel4⟩
  obtain ⟨A5, c5, rfl, -, -, hR5⟩ := OwnE.read ownE4
  obtain ⟨A6, c6, rfl, -, -, hR6⟩ := OwnI.read ownI4
  simp only [] at hR5 hR6
  have hbA4 := bel_alloc w4 (gcells nl.length A5 os.length c5)
  have hE4 := (hE3.below hbel4).below hbA4
  have hL4 := (hL3.below hbel4).below hbA4
  have hH4 := (hH3.below hbel4).below hbA4
  have hS4 := (hS3.below hbel4).below hbA4
  have hN4 := hR6.below hbA4
  have bg4 := later2 hbA4 (later2 hbel4 ⟨bg30, bg31⟩)
  have bh4 := later2 hbA4 (later2 hbel4 bh3)
  have bo4 := boxg w4 nl.length A5 os.length c5
  have HB4 := Lib.hid (bel_trans (bel_trans HB3.out hbel4) hbA4)
  clear HWO hE3 hL3 hH3 hS3 bg30 bg31 bh3 hbel4 ownE4 ownI4 hR5 hR6 hbA4 HB3
  simp only []
  go_wp2_with fail
  refine (awake5_any _).mono ?_
  rintro e w5 ⟨rfl, hbel5⟩
  have hE5 := hE4.below hbel5
  have hL5 := hL4.below hbel5
  have hH5 := hH4.below hbel5
  have hS5 := hS4.below hbel5
  have hN5 := hN4.below hbel5
  have bg5 := later2 hbel5 bg4
  have bh5 := later2 hbel5 bh4
  have bo5 := later2 hbel5 bo4
  have HB5 := Lib.hid (bel_trans HB4.out hbel5)
  clear hE4 hL4 hH4 hS4 hN4 bg4 bh4 bo4 hbel5 HB4
  have hpl := plain_any (ca := c4) (cb := c2) w5 hS5 hL5
  rw [decide_eq_true rfl] at hpl
  go_wp2_with fail
  refine hpl.mono ?_
  rintro e w6 ⟨rfl, hd6⟩
  have hbel6 := hd6.below w5.heap.size
  have hE6 := hE5.below hbel6
  have hH6 := hH5.below hbel6
  have hS6 := hS5.below hbel6
  have hN6 := hN5.below hbel6
  have bg6 := later2 hbel6 bg5
  have bh6 := later2 hbel6 bh5
  have bo6 := later2 hbel6 bo5
  have HB6 := Lib.hid (bel_trans HB5.out hbel6)
  clear hpl hd6 hE5 hL5 hH5 hS5 hN5 bg5 bh5 bo5 hbel6 HB5
  obtain ⟨bg60, bg61⟩ := bg6
  obtain ⟨bh60, bh61⟩ := bh6
  obtain ⟨bo60, bo61⟩ := bo6
  have l20 : l.length ≤ 20 := by have := HSUM.out; have := HM.out; omega
  have nl20 : nl.length ≤ 20 := by have := HSUM.out; have := HM.out; omega
  have hsum : (l.length : Int) + (nl.length : Int) = (M : Int) := by have := HSUM.out; omega
  go_wp2_with fail
  have HBG : Hid (C6 w6 ⟨w1.heap.size, 0, none⟩ (.int .i64 M) ⟨w1.heap.size, 1, none⟩ (.slice A1 es.length c1) ⟨w3.heap.size, 0, none⟩ (.int .i64 l.length) ⟨w3.heap.size, 1, none⟩ (.slice A3 hs.length c3) ⟨w3.heap.size, 0, none⟩ (.int .i64 l.length) ⟨w3.heap.size, 1, none⟩ (.slice A3 hs.length c3)) := ⟨bg60, bg61, bh60, bh61, bh60, bh61⟩
  have HE6 := Lib.hid hE6
  have HH6 := Lib.hid hH6
  have HS6 := Lib.hid hS6
  have HN6 := Lib.hid hN6
  clear hE6 hH6 hS6 hN6 bo60 bo61 bg60 bg61 bh60 bh61 hsum
  go_loopw [15] (fun i wr => ∃ k : Nat, k ≤ l.length ∧ i = .int .i64 k ∧ Hid (RW w6 wr)) (fun i _ => l.length - (intOf i).toNat)
  case atStart => exact ⟨0, Nat.zero_le _, rfl, RW.refl w6⟩
  case round =>
    obtain ⟨k, hk, rfl, hrw⟩ := hrel
    obtain ⟨wo, rfl⟩ : ∃ wo : World, wo = wr := ⟨_, rfl⟩
    obtain ⟨x1, x2, x3, x4, -⟩ := C6.all HBG.out hrw.out
    by_cases hlt : k < l.length
    · go_wp2_with fail
      clear x1 x2 x3 x4
      go_loopw [16] (fun i wr => ∃ q : Nat, q ≤ l.length ∧ i = .int .i64 q ∧ Hid (RW w6 wr)) (fun i _ => l.length - (intOf i).toNat)
      case atStart => exact ⟨0, Nat.zero_le _, rfl, hrw⟩
      case round =>
        obtain ⟨q, hq, rfl, hrw2⟩ := hrel
        obtain ⟨x1, x2, x3, x4, -⟩ := C6.all HBG.out hrw2.out
        by_cases hlq : q < l.length
        · obtain ⟨b, o, rfl, hc⟩ := HS6.out.2.2 (by omega)
          have ck := hc k hlt
          have cq := hc q hlq
          have HS1 : Hid (C6 w6 ⟨w1.heap.size, 0, none⟩ (.int .i64 M) ⟨w1.heap.size, 1, none⟩ (.slice A1 es.length c1) ⟨w3.heap.size, 0, none⟩ (.int .i64 l.length) ⟨w3.heap.size, 1, none⟩ (.slice A3 hs.length c3) ⟨b, o + k, none⟩ (.int .i64 (gi l k)) ⟨b, o + q, none⟩ (.int .i64 (gi l q))) := ⟨HBG.out.1, HBG.out.2.1, HBG.out.2.2.1, HBG.out.2.2.2.1, ck, cq⟩
          have hj := HJ.out k q hlt hlq
          have hc1 : ∀ W, RW w6 W → Calls Try.prog 25 #[.agg #[.int .i64 M, .slice A1 es.length c1], .int .i64 (gi l k), .int .i64 (gi l q)] W fun e w' => e = .returned (.bool (hasB M es (gi l k) (gi l q))) ∧ Below W.heap.size W w' := fun W hW => has2_any _ _ W (HE6.out.below hW)
          have hc2 : ∀ W, RW w6 W → Calls Try.prog 25 #[.agg #[.int .i64 l.length, .slice A3 hs.length c3], .int .i64 k, .int .i64 q] W fun e w' => e = .returned (.bool (hasB M es (gi l k) (gi l q))) ∧ Below W.heap.size W w' := fun W hW => by
            rw [← hj]
            exact has2_any _ _ W (HH6.out.below hW)
          have hkq : ((0 : Int) ≤ (k : Int) ∧ (k : Int) < (l.length : Int)) ∧ (0 : Int) ≤ (q : Int) ∧ (q : Int) < (l.length : Int) := by omega
          obtain ⟨⟨k1, k2⟩, q1, q2⟩ := hkq
          generalize hasB M es (gi l k) (gi l q) = bb at *
          generalize gi l k = lk at *
          generalize gi l q = lq at *
          have HLT := Lib.hid (And.intro hlt hlq)
          have hq2 : decide ((q : Int) < (l.length : Int)) = true := by rw [decide_eq_true_eq]; omega
          clear hc ck cq hj hlt hlq hk hq
          go_wp2_with fail
          clear x1 x2 x3 x4 hq2
          cases bb
          all_goals
            go_region_held3 (fun w' => w'.cell? ⟨w1.heap.size, 0, none⟩ = some (.int .i64 M) ∧ w'.cell? ⟨w1.heap.size, 1, none⟩ = some (.slice A1 es.length c1) ∧ w'.cell? ⟨w3.heap.size, 0, none⟩ = some (.int .i64 l.length) ∧ w'.cell? ⟨w3.heap.size, 1, none⟩ = some (.slice A3 hs.length c3) ∧ w'.cell? ⟨b, o + k, none⟩ = some (.int .i64 lk) ∧ w'.cell? ⟨b, o + q, none⟩ = some (.int .i64 lq) ∧ RW w6 w')
              (first | exact C6.all HS1.out hrw2.out | exact C6.all HS1.out (RW.drew hrw2.out) | exact C6.all HS1.out (RW.later (And.right (And.right (And.right (And.right (And.right (And.right (by assumption))))))) hb9) | fail)
              (first
                | (go_at_call_of 25 A3; refine (hc2 _ (And.right (And.right (And.right (And.right (And.right (And.right (by assumption)))))))).mono ?_; rintro e w9 ⟨rfl, hb9⟩)
                | (go_at_call_of 25 A1; refine (hc1 _ (And.right (And.right (And.right (And.right (And.right (And.right (by assumption)))))))).mono ?_; rintro e w9 ⟨rfl, hb9⟩)
                | fail)
            have hfin : RW w6 w9 := And.right (And.right (And.right (And.right (And.right (And.right (by assumption))))))
            go_wp2_with fail
            exact ⟨⟨q + 1, by have := HLT.out; omega, by go_num, hfin⟩, by have := HLT.out; simp [intOf]; omega⟩
        · go_wp2_with fail
          go_roundw
          case rel => exact ⟨k + 1, by omega, by go_num, hrw2⟩
          case measure => simp [intOf]; omega
    · go_wp2_with fail
      clear x1 x2 x3 x4
      go_loopw [17] (fun i wr => ∃ q : Nat, q ≤ nl.length ∧ i = .int .i64 q ∧ Hid (RW w6 wr)) (fun i _ => nl.length - (intOf i).toNat)
      case atStart => exact ⟨0, Nat.zero_le _, rfl, hrw⟩
      case round =>
        obtain ⟨q, hq, rfl, hrw2⟩ := hrel
        by_cases hlq : q < nl.length
        · obtain ⟨b, o, rfl, hc⟩ := (HN6.out.below hrw2.out).2.2 (by omega)
          have cq := hc q hlq
          have hin := in_any (c := c4) (gi nl q) wr (HS6.out.below hrw2.out)
          rw [decide_eq_false (HNI.out _ (gi_mem hlq))] at hin
          have q1 : (0 : Int) ≤ (q : Int) ∧ (q : Int) < (nl.length : Int) := by omega
          have hq2 : decide ((q : Int) < (nl.length : Int)) = true := by rw [decide_eq_true_eq]; omega
          generalize gi nl q = x at *
          have HLT := Lib.hid hlq
          clear hc hlq hq
          go_wp2_with fail
          refine hin.mono ?_
          rintro e w9 ⟨rfl, rfl⟩
          go_wp2_with fail
          go_roundw
          case rel => exact ⟨q + 1, by have := HLT.out; omega, by go_num, hrw2⟩
          case measure => have := HLT.out; simp [intOf]; omega
        · go_wp2_with fail
          go_ret
          exact ⟨rfl, bel_trans HB6.out hrw2.out⟩

theorem subJoined_walk {A : Option Addr} {n c : Nat} {zs : List Int} (N bits : Int) (w : World) (_ : -9223372036854775808 ≤ N ∧ N ≤ 9223372036854775807) (h : ReadI w A n zs) (hb : 0 ≤ bits ∧ bits ≤ 18446744073709551615) :
    Calls Try.prog 4 #[.int .i64 N, .slice A n c, .int .u64 bits] w fun e w' => e = .returned (.bool true) ∧ Below w.heap.size w w' := subJoined_any N bits w h hb.1 hb.2

end Go.Proofs.Ytnldfjoadmehcaa
