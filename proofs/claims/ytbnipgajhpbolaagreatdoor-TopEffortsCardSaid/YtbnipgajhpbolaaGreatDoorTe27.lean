/- queue's heap of entries: Less, up, down, Push, Pop -/
import Derived.Test.YtbnipgajhpbolaaGreatDoorTe26
set_option linter.unusedVariables false
set_option linter.unusedSimpArgs false
namespace Go.Proofs.YtbnipgajhpbolaaGreatDoor

section
open Go.RowKit
theorem RW.fourH {w3 W : World} {a b c d : Addr} {x y z u : Value} (h : (w3.cell? a = some x ∧ w3.cell? b = some y) ∧ w3.cell? c = some z ∧ w3.cell? d = some u) (r : RW w3 W) : (W.cell? a = some x ∧ W.cell? b = some y) ∧ (W.cell? c = some z ∧ W.cell? d = some u) ∧ RW w3 W := ⟨later2 r h.1, later2 r h.2, r⟩

set_option maxHeartbeats 4000000 in
set_option maxRecDepth 100000 in
theorem qcompare_any (a b : Ed) (w : World) : Calls Tryz.prog 327 #[.agg #[.int .i64 a.1, .int .i64 a.2], .agg #[.int .i64 b.1, .int .i64 b.2]] w fun e w' => e = .returned (.int .i64 (cmpE a b)) ∧ Below w.heap.size w w' := by
  obtain ⟨a1, a2⟩ := a
  obtain ⟨b1, b2⟩ := b
  have HE : Hid (cmpE (a1, a2) (b1, b2) = if cmpI a1 b1 ≠ 0 then cmpI a1 b1 else cmpI a2 b2) := rfl
  have hbel : Below w.heap.size w ((w.alloc (.cells #[.int .i64 a1, .int .i64 a2] 132)).alloc (.cells #[.int .i64 b1, .int .i64 b2] 132)) := bel_trans (bel_alloc _ _) (bel_alloc _ _)
  have HBEL := Lib.hid hbel
  clear hbel
  have hcs : Hid ((((w.alloc (.cells #[.int .i64 a1, .int .i64 a2] 132)).alloc (.cells #[.int .i64 b1, .int .i64 b2] 132)).cell? ⟨w.heap.size, 0, none⟩ = some (.int .i64 a1) ∧ ((w.alloc (.cells #[.int .i64 a1, .int .i64 a2] 132)).alloc (.cells #[.int .i64 b1, .int .i64 b2] 132)).cell? ⟨w.heap.size, 1, none⟩ = some (.int .i64 a2)) ∧ ((w.alloc (.cells #[.int .i64 a1, .int .i64 a2] 132)).alloc (.cells #[.int .i64 b1, .int .i64 b2] 132)).cell? ⟨w.heap.size + 1, 0, none⟩ = some (.int .i64 b1) ∧ ((w.alloc (.cells #[.int .i64 a1, .int .i64 a2] 132)).alloc (.cells #[.int .i64 b1, .int .i64 b2] 132)).cell? ⟨w.heap.size + 1, 1, none⟩ = some (.int .i64 b2)) := by
    have h1 := heap_alloc_new w (.cells #[.int .i64 a1, .int .i64 a2] 132)
    have h2 := heap_alloc_new (w.alloc (.cells #[.int .i64 a1, .int .i64 a2] 132)) (.cells #[.int .i64 b1, .int .i64 b2] 132)
    rw [show (w.alloc (.cells #[.int .i64 a1, .int .i64 a2] 132)).heap.size = w.heap.size + 1 from by simp] at h2
    exact ⟨later2 (bel_alloc _ _) ⟨(cell_blk h1 0).trans rfl, (cell_blk h1 1).trans rfl⟩, (cell_blk h2 0).trans rfl, (cell_blk h2 1).trans rfl⟩
  have hc1 := fun W => cmp_any a1 b1 W
  have hc2 := fun W => cmp_any a2 b2 W
  generalize cmpI a1 b1 = c1 at *
  generalize cmpI a2 b2 = c2 at *
  have hor := fun (b : Nat) W h0 h1 => or_any (b := b) c1 c2 W h0 h1
  generalize (if c1 ≠ 0 then c1 else c2) = r at *
  go_enter Tryz.func327, Tryz.ntmps327
  go_wp2_with fail
  generalize hW3 : (w.alloc (.cells #[.int .i64 a1, .int .i64 a2] 132)).alloc (.cells #[.int .i64 b1, .int .i64 b2] 132) = w3 at *
  go_region_held3 (fun w' => (w'.cell? ⟨w.heap.size, 0, none⟩ = some (.int .i64 a1) ∧ w'.cell? ⟨w.heap.size, 1, none⟩ = some (.int .i64 a2)) ∧ (w'.cell? ⟨w.heap.size + 1, 0, none⟩ = some (.int .i64 b1) ∧ w'.cell? ⟨w.heap.size + 1, 1, none⟩ = some (.int .i64 b2)) ∧ RW w3 w')
    (first | assumption | exact RW.fourH hcs.out (RW.refl w3).drew | exact RW.fourH hcs.out (RW.alloc (And.right (And.right (by assumption))) _) | fail)
    (first
      | (go_at_call_of 58 a1; refine (hc1 _).mono ?_; rintro e w9 ⟨rfl, rfl⟩)
      | (go_at_call_of 58 a2; refine (hc2 _).mono ?_; rintro e w9 ⟨rfl, rfl⟩)
      | (go_at_call 57; refine (hor _ _ (newi _ _ _ _).1 (newi _ _ _ _).2).mono ?_; rintro e w9 ⟨rfl, rfl⟩)
      | fail)
  all_goals
    have hfin : RW w3 _ := And.right (And.right (by assumption))
    go_wp2_with fail
    go_ret
    exact ⟨by rw [HE.out]; rfl, Below.trans HBEL.out (Below.mono hfin (Below.size HBEL.out))⟩

set_option maxHeartbeats 4000000 in
set_option maxRecDepth 100000 in
theorem hless_any {t : TypeId} {base g n c : Nat} {es : List Ed} (w : World) (h : OwnP t w base (.slice (some ⟨g, 0, none⟩) n c) es) {i j : Nat} (hi : i < n) (hj : j < n) :
    Calls Tryz.prog 325 #[.slice (some ⟨g, 0, none⟩) n c, .int .i64 i, .int .i64 j] w fun e w' => (∃ b, e = .returned (.bool b)) ∧ Below w.heap.size w w' := by
  have HC := Lib.hid (And.intro (h.cellAt hi) (h.cellAt hj))
  have hai : (0 : Int) ≤ (i : Int) ∧ (i : Int) < (n : Int) := by omega
  have hzi : (0 : Int) ≤ (j : Int) ∧ (j : Int) < (n : Int) := by omega
  have hq := fun W => qcompare_any (ge es i) (ge es j) W
  generalize ge es i = x at *
  generalize ge es j = y at *
  obtain ⟨x1, x2⟩ := x
  obtain ⟨y1, y2⟩ := y
  dsimp only at *
  generalize cmpE (x1, x2) (y1, y2) = r at *
  have HQ := Lib.hid hq
  obtain ⟨⟨c1, c2⟩, c3, c4⟩ := HC.out
  clear h hq
  go_enter Tryz.func325, Tryz.ntmps325
  go_wp2_with fail
  go_region_held3 (fun w' => (w'.cell? ⟨g, i * 2, none⟩ = some (.int .i64 x1) ∧ w'.cell? ⟨g, i * 2 + 1, none⟩ = some (.int .i64 x2)) ∧ (w'.cell? ⟨g, j * 2, none⟩ = some (.int .i64 y1) ∧ w'.cell? ⟨g, j * 2 + 1, none⟩ = some (.int .i64 y2)) ∧ RW w w')
    (first | assumption | exact RW.fourH HC.out (RW.refl w).drew | exact RW.fourH HC.out (bel_trans (And.right (And.right (by assumption))) hb9) | fail)
    (first
      | (go_at_call 327; refine (HQ.out _).mono ?_; rintro e w9 ⟨rfl, hb9⟩)
      | fail)
  all_goals
    have hfin : RW w _ := And.right (And.right (by assumption))
    go_wp2_with fail
    go_ret
    exact ⟨⟨_, rfl⟩, hfin⟩

set_option maxHeartbeats 4000000 in
set_option maxRecDepth 100000 in
theorem hup_any {base q g n c : Nat} {es : List Ed} (w : World) (hq : w.cell? ⟨q, 0, none⟩ = some (.slice (some ⟨g, 0, none⟩) n c)) (hne : q ≠ g) (h : OwnP 132 w base (.slice (some ⟨g, 0, none⟩) n c) es) {j : Nat} (hj : j < n) (hn : n ≤ 2000000) :
    Calls Tryz.prog 194 #[.iface 157 (.pointer (some ⟨q, 0, none⟩)), .int .i64 j] w fun e w' => (∃ es', OwnP 132 w' base (.slice (some ⟨g, 0, none⟩) n c) es' ∧ es'.Perm es) ∧ w.grownBy w' (some g) ∧ e = .returned (.tuple #[]) := by
  have HN := Lib.hid (And.intro hn hne)
  have HQ := Lib.hid hq
  have HO0 : Hid (OwnP 132 w base (.slice (some ⟨g, 0, none⟩) n c) es ∧ es.Perm es) := ⟨h, .refl _⟩
  have HG0 : Hid (w.grownBy w (some g)) := World.grownBy.refl _ _
  clear hq h hn hne
  go_enter Tryz.func194, Tryz.ntmps194
  go_wp2_with fail
  go_loopw [1] (fun i wr => ∃ (j : Nat) (xs : List Ed), j < n ∧ i = .int .i64 j ∧ Hid (OwnP 132 wr base (.slice (some ⟨g, 0, none⟩) n c) xs ∧ xs.Perm es) ∧ Hid (w.grownBy wr (some g))) (fun i _ => (intOf i).toNat)
  case atStart => exact ⟨j, es, hj, rfl, HO0, HG0⟩
  case round =>
    obtain ⟨j, xs, hj, rfl, how, hgr⟩ := hrel
    have hqw : wr.cell? ⟨q, 0, none⟩ = some (.slice (some ⟨g, 0, none⟩) n c) := hgr.out.cell HQ.out (fun e => HN.out.2 (Option.some.inj e))
    obtain ⟨i, hi, hi2⟩ : ∃ i : Nat, (((j : Int) - 1).tdiv 2) = (i : Int) ∧ ((j = 0 ∧ i = 0) ∨ (0 < j ∧ i < j)) := by
      rcases Nat.eq_zero_or_pos j with e | e
      · subst e
        exact ⟨0, by decide, .inl ⟨rfl, rfl⟩⟩
      · refine ⟨(j - 1) / 2, ?_, .inr ⟨e, by omega⟩⟩
        rw [show (j : Int) - 1 = ((j - 1 : Nat) : Int) by omega, show (2 : Int) = ((2 : Nat) : Int) by rfl, ← Int.ofNat_tdiv]
    have HI := Lib.hid hi2
    have sj : IntKind.i64.wrap ((j : Int) - 1) = (j : Int) - 1 := by rw [IntKind.wrap_i64]; have := HN.out.1; omega
    have si : IntKind.i64.wrap (i : Int) = (i : Int) := by rw [IntKind.wrap_i64]; have := HN.out.1; omega
    clear hi2
    by_cases h0 : j = i
    · have e1 : ((i : Int) == (j : Int)) = true := by simp; omega
      have HEND := Lib.hid (And.intro how.out hgr.out)
      clear how hgr h0
      go_wp2_with fail
      go_end0
      exact ⟨⟨xs, HEND.out.1.1, HEND.out.1.2⟩, HEND.out.2, rfl⟩
    · have e1 : ((i : Int) == (j : Int)) = false := by simp; omega
      have hlt : i < j := by have := HI.out; omega
      have hml := meth_less hqw
      have hls := hless_any wr how.out.1 (i := j) (j := i) hj (by omega)
      have HLS := Lib.hid hls
      clear h0 hls
      go_wp2_with fail
      refine HLS.out.mono ?_
      rintro e w2 ⟨⟨b, rfl⟩, hb2⟩
      have HO2 : Hid (OwnP 132 w2 base (.slice (some ⟨g, 0, none⟩) n c) xs ∧ xs.Perm es) := ⟨how.out.1.later hb2, how.out.2⟩
      have HG2 : Hid (w.grownBy w2 (some g)) := hgr.out.trans ⟨hb2.os, hb2.tape, hb2.output, hb2.size, fun k hk _ => hb2.block k hk⟩
      have hqw2 := cell_later hb2 hqw
      clear hb2 hqw hml how hgr HLS
      cases b
      · go_wp2_with fail
        go_end0
        exact ⟨⟨xs, HO2.out.1, HO2.out.2⟩, HG2.out, rfl⟩
      · have hms := meth_swap hqw2
        have hin : i < n := by omega
        have hsw := hswap_any w2 HO2.out.1 hin hj
        have HSW := Lib.hid hsw
        have HLN : Hid (n = xs.length) := HO2.out.1.len rfl
        clear hsw
        go_wp2_with fail
        refine HSW.out.mono ?_
        rintro e w3 ⟨o3, g3, rfl⟩
        have HO3 : Hid (OwnP 132 w3 base (.slice (some ⟨g, 0, none⟩) n c) (swapE xs i j) ∧ (swapE xs i j).Perm es) := ⟨o3, (swapE_perm (by have := HLN.out; omega) (by have := HLN.out; omega)).trans HO2.out.2⟩
        have HG3 : Hid (w.grownBy w3 (some g)) := HG2.out.trans g3
        clear o3 g3 hms hqw2 HSW
        go_wp2_with fail
        go_roundw
        case rel => exact ⟨i, _, hin, rfl, HO3, HG3⟩
        case measure => simp only [intOf, Int.toNat_natCast]; exact hlt

theorem ge_app_left {ys zs : List Ed} {j : Nat} (h : j < ys.length) : ge (ys ++ zs) j = ge ys j := by
  rw [ge_at (by simp; omega), ge_at h, List.getElem_append_left h]
theorem swapE_app {ys zs : List Ed} {i j : Nat} (hi : i < ys.length) (hj : j < ys.length) : swapE (ys ++ zs) i j = swapE ys i j ++ zs := by
  unfold swapE
  rw [ge_app_left hi, ge_app_left hj, List.set_append_left _ _ hi, List.set_append_left _ _ (by simpa using hj)]

set_option maxHeartbeats 8000000 in
set_option maxRecDepth 100000 in
/-- The first ones of a row are put in order; the rest of it stays. -/
theorem hdown_any {base q g c m : Nat} {ys zs : List Ed} (w : World) (hq : w.cell? ⟨q, 0, none⟩ = some (.slice (some ⟨g, 0, none⟩) (m + zs.length) c)) (hne : q ≠ g) (hm : ys.length = m) (h : OwnP 132 w base (.slice (some ⟨g, 0, none⟩) (m + zs.length) c) (ys ++ zs)) (hn : m + zs.length ≤ 2000000) :
    Calls Tryz.prog 117 #[.iface 157 (.pointer (some ⟨q, 0, none⟩)), .int .i64 0, .int .i64 m] w fun e w' => (∃ ys', OwnP 132 w' base (.slice (some ⟨g, 0, none⟩) (m + zs.length) c) (ys' ++ zs) ∧ ys'.Perm ys) ∧ w.grownBy w' (some g) ∧ ∃ b, e = .returned (.bool b) := by
  have HN := Lib.hid (And.intro hn hne)
  have HQ := Lib.hid hq
  have HO0 : Hid (OwnP 132 w base (.slice (some ⟨g, 0, none⟩) (m + zs.length) c) (ys ++ zs) ∧ ys.Perm ys ∧ ys.length = m) := ⟨h, .refl _, hm⟩
  have HG0 : Hid (w.grownBy w (some g)) := World.grownBy.refl _ _
  have HM : m ≤ 2000000 := by omega
  clear hq h hn hne hm
  go_enter Tryz.func117, Tryz.ntmps117
  go_wp2_with fail
  go_loopw [7] (fun i wr => ∃ (i' : Nat) (xs : List Ed), (i' < m ∨ i' = 0) ∧ i = .int .i64 i' ∧ Hid (OwnP 132 wr base (.slice (some ⟨g, 0, none⟩) (m + zs.length) c) (xs ++ zs) ∧ xs.Perm ys ∧ xs.length = m) ∧ Hid (w.grownBy wr (some g))) (fun i _ => m - (intOf i).toNat)
  case atStart => exact ⟨0, ys, .inr rfl, by go_num, HO0, HG0⟩
  case round =>
    obtain ⟨i, xs, hi, rfl, how, hgr⟩ := hrel
    have hqw : wr.cell? ⟨q, 0, none⟩ = some (.slice (some ⟨g, 0, none⟩) (m + zs.length) c) := hgr.out.cell HQ.out (fun e => HN.out.2 (Option.some.inj e))
    obtain ⟨j0, e0⟩ : ∃ j0 : Nat, j0 = 2 * i := ⟨_, rfl⟩
    obtain ⟨j1, e1⟩ : ∃ j1 : Nat, j1 = 2 * i + 1 := ⟨_, rfl⟩
    obtain ⟨j2, e2⟩ : ∃ j2 : Nat, j2 = 2 * i + 2 := ⟨_, rfl⟩
    have s1 : IntKind.i64.wrap (2 * (i : Int)) = (j0 : Int) := by rw [IntKind.wrap_i64]; omega
    have s2 : IntKind.i64.wrap ((j0 : Int) + 1) = (j1 : Int) := by rw [IntKind.wrap_i64]; omega
    have s3 : IntKind.i64.wrap ((j1 : Int) + 1) = (j2 : Int) := by rw [IntKind.wrap_i64]; omega
    have HJ : Hid (j1 = 2 * i + 1 ∧ j2 = 2 * i + 2) := ⟨e1, e2⟩
    clear e0 e1 e2
    by_cases h0 : m ≤ j1
    · have HEND := Lib.hid (And.intro how.out hgr.out)
      have d1 : decide ((m : Int) ≤ (j1 : Int)) = true := decide_eq_true (by omega)
      clear how hgr
      go_wp2_with fail
      go_ret
      exact ⟨⟨xs, HEND.out.1.1, HEND.out.1.2.1⟩, HEND.out.2, _, rfl⟩
    · have him : i < m := by omega
      have HIM := Lib.hid h0
      have h0' : j1 < m := by omega
      have d1 : decide ((m : Int) ≤ (j1 : Int)) = false := decide_eq_false (by omega)
      have d2 : decide ((j1 : Int) < 0) = false := decide_eq_false (by omega)
      clear h0
      by_cases h2 : j2 < m
      · have H2 := Lib.hid h2
        have d3 : decide ((j2 : Int) < (m : Int)) = true := decide_eq_true (by omega)
        have hls := hless_any wr how.out.1 (i := j2) (j := j1) (by omega) (by omega)
        have HLS := Lib.hid hls
        have hml := meth_less hqw
        clear hls
        go_wp2_with fail
        refine HLS.out.mono ?_
        rintro e WW ⟨⟨b, rfl⟩, hb4⟩
        have HOW : Hid (OwnP 132 WW base (.slice (some ⟨g, 0, none⟩) (m + zs.length) c) (xs ++ zs) ∧ xs.Perm ys ∧ xs.length = m) := ⟨how.out.1.later hb4, how.out.2⟩
        have HGR : Hid (w.grownBy WW (some g)) := hgr.out.trans ⟨hb4.os, hb4.tape, hb4.output, hb4.size, fun k hk _ => hb4.block k hk⟩
        have hqW := cell_later hb4 hqw
        clear hb4 hqw hml how hgr HLS
        cases b
        · have hls2 := hless_any WW HOW.out.1 (i := j1) (j := i) (by have := h0'; omega) (by omega)
          have HLS2 := Lib.hid hls2
          have hml2 := meth_less hqW
          clear hls2
          go_wp2_with fail
          refine HLS2.out.mono ?_
          rintro e w5 ⟨⟨b2, rfl⟩, hb5⟩
          have HO5 : Hid (OwnP 132 w5 base (.slice (some ⟨g, 0, none⟩) (m + zs.length) c) (xs ++ zs) ∧ xs.Perm ys ∧ xs.length = m) := ⟨HOW.out.1.later hb5, HOW.out.2⟩
          have HG5 : Hid (w.grownBy w5 (some g)) := HGR.out.trans ⟨hb5.os, hb5.tape, hb5.output, hb5.size, fun k hk _ => hb5.block k hk⟩
          have hqw5 := cell_later hb5 hqW
          clear hb5 hqW hml2 HOW HGR HLS2
          cases b2
          · go_wp2_with fail
            go_ret
            exact ⟨⟨xs, HO5.out.1, HO5.out.2.1⟩, HG5.out, _, rfl⟩
          · have hms := meth_swap hqw5
            have hsw := hswap_any w5 HO5.out.1 (i := i) (j := j1) (by omega) (by have := h0'; omega)
            have HSW := Lib.hid hsw
            clear hsw
            go_wp2_with fail
            refine HSW.out.mono ?_
            rintro e w6 ⟨o6, g6, rfl⟩
            have HO6 : Hid (OwnP 132 w6 base (.slice (some ⟨g, 0, none⟩) (m + zs.length) c) (swapE xs i (j1) ++ zs) ∧ (swapE xs i (j1)).Perm ys ∧ (swapE xs i (j1)).length = m) := by
              have h1 := HO5.out.2.2
              have h2 := h0'
              refine ⟨?_, (swapE_perm (by omega) (by omega)).trans HO5.out.2.1, (swapE_length _ _ _).trans h1⟩
              rw [← swapE_app (by omega) (by omega)]
              exact o6
            have HG6 : Hid (w.grownBy w6 (some g)) := HG5.out.trans g6
            clear o6 g6 hms hqw5 HSW
            go_wp2_with fail
            go_roundw
            case rel => exact ⟨j1, _, by have := h0'; omega, by go_num, HO6, HG6⟩
            case measure => have := h0'; have := HJ.out; simp only [intOf]; omega
        · have hls2 := hless_any WW HOW.out.1 (i := j2) (j := i) (by have := H2.out; omega) (by omega)
          have HLS2 := Lib.hid hls2
          have hml2 := meth_less hqW
          clear hls2
          go_wp2_with fail
          refine HLS2.out.mono ?_
          rintro e w5 ⟨⟨b2, rfl⟩, hb5⟩
          have HO5 : Hid (OwnP 132 w5 base (.slice (some ⟨g, 0, none⟩) (m + zs.length) c) (xs ++ zs) ∧ xs.Perm ys ∧ xs.length = m) := ⟨HOW.out.1.later hb5, HOW.out.2⟩
          have HG5 : Hid (w.grownBy w5 (some g)) := HGR.out.trans ⟨hb5.os, hb5.tape, hb5.output, hb5.size, fun k hk _ => hb5.block k hk⟩
          have hqw5 := cell_later hb5 hqW
          clear hb5 hqW hml2 HOW HGR HLS2
          cases b2
          · go_wp2_with fail
            go_ret
            exact ⟨⟨xs, HO5.out.1, HO5.out.2.1⟩, HG5.out, _, rfl⟩
          · have hms := meth_swap hqw5
            have hsw := hswap_any w5 HO5.out.1 (i := i) (j := j2) (by omega) (by have := H2.out; omega)
            have HSW := Lib.hid hsw
            clear hsw
            go_wp2_with fail
            refine HSW.out.mono ?_
            rintro e w6 ⟨o6, g6, rfl⟩
            have HO6 : Hid (OwnP 132 w6 base (.slice (some ⟨g, 0, none⟩) (m + zs.length) c) (swapE xs i (j2) ++ zs) ∧ (swapE xs i (j2)).Perm ys ∧ (swapE xs i (j2)).length = m) := by
              have h1 := HO5.out.2.2
              have h2 := H2.out
              refine ⟨?_, (swapE_perm (by omega) (by omega)).trans HO5.out.2.1, (swapE_length _ _ _).trans h1⟩
              rw [← swapE_app (by omega) (by omega)]
              exact o6
            have HG6 : Hid (w.grownBy w6 (some g)) := HG5.out.trans g6
            clear o6 g6 hms hqw5 HSW
            go_wp2_with fail
            go_roundw
            case rel => exact ⟨j2, _, by have := H2.out; omega, by go_num, HO6, HG6⟩
            case measure => have := H2.out; have := HJ.out; simp only [intOf]; omega
      · have H2 := Lib.hid h2
        have d3 : decide ((j2 : Int) < (m : Int)) = false := decide_eq_false (by omega)
        have HOW := Lib.hid how.out
        have HGR := Lib.hid hgr.out
        have hqW := hqw
        clear hqw how hgr
        have hls2 := hless_any wr HOW.out.1 (i := j1) (j := i) (by have := h0'; omega) (by omega)
        have HLS2 := Lib.hid hls2
        have hml2 := meth_less hqW
        clear hls2
        go_wp2_with fail
        refine HLS2.out.mono ?_
        rintro e w5 ⟨⟨b2, rfl⟩, hb5⟩
        have HO5 : Hid (OwnP 132 w5 base (.slice (some ⟨g, 0, none⟩) (m + zs.length) c) (xs ++ zs) ∧ xs.Perm ys ∧ xs.length = m) := ⟨HOW.out.1.later hb5, HOW.out.2⟩
        have HG5 : Hid (w.grownBy w5 (some g)) := HGR.out.trans ⟨hb5.os, hb5.tape, hb5.output, hb5.size, fun k hk _ => hb5.block k hk⟩
        have hqw5 := cell_later hb5 hqW
        clear hb5 hqW hml2 HOW HGR HLS2
        cases b2
        · go_wp2_with fail
          go_ret
          exact ⟨⟨xs, HO5.out.1, HO5.out.2.1⟩, HG5.out, _, rfl⟩
        · have hms := meth_swap hqw5
          have hsw := hswap_any w5 HO5.out.1 (i := i) (j := j1) (by omega) (by have := h0'; omega)
          have HSW := Lib.hid hsw
          clear hsw
          go_wp2_with fail
          refine HSW.out.mono ?_
          rintro e w6 ⟨o6, g6, rfl⟩
          have HO6 : Hid (OwnP 132 w6 base (.slice (some ⟨g, 0, none⟩) (m + zs.length) c) (swapE xs i (j1) ++ zs) ∧ (swapE xs i (j1)).Perm ys ∧ (swapE xs i (j1)).length = m) := by
            have h1 := HO5.out.2.2
            have h2 := h0'
            refine ⟨?_, (swapE_perm (by omega) (by omega)).trans HO5.out.2.1, (swapE_length _ _ _).trans h1⟩
            rw [← swapE_app (by omega) (by omega)]
            exact o6
          have HG6 : Hid (w.grownBy w6 (some g)) := HG5.out.trans g6
          clear o6 g6 hms hqw5 HSW
          go_wp2_with fail
          go_roundw
          case rel => exact ⟨j1, _, by have := h0'; omega, by go_num, HO6, HG6⟩
          case measure => have := h0'; have := HJ.out; simp only [intOf]; omega
end

end Go.Proofs.YtbnipgajhpbolaaGreatDoor
