/- The walk of phased.paths -/
import Derived.Test.YtbnipgajhpbolaaGreatDoorTe38
set_option linter.unusedVariables false
set_option linter.unusedSimpArgs false
namespace Go.Proofs.YtbnipgajhpbolaaGreatDoor

section
open Go.RowKit
section
variable {N F Q H : Nat} {g : Nat → Nat} {mv : Value} {es : List Ed} {ms : List Int} {s : Fm} {B : Nat → Nat} {qv ev : Value} {wb w0 : World}
/-- What paths tells. -/
def PathsQ (wb : World) (N F Q H : Nat) (g : Nat → Nat) (nv mv : Value) (es : List Ed) (ms : List Int) (e : Ending) (w' : World) : Prop := ∃ (out : Value) (L : List (List Int)) (s : Fm) (B : Nat → Nat) (qv ev : Value) (ps xs : List Ed) (P : List Nat), e = .returned out ∧ PS wb N F Q H g nv mv es ms s B qv ev ps xs out L w' ∧ 0 ≤ s.lk ∧ s.lk ≤ 4 * es.length ∧ (L = [] → (s.fo B).Done N (JV es))

set_option maxHeartbeats 64000000 in
set_option maxRecDepth 100000 in
theorem ppaths_any {G b0 : Nat} {vs : Nat → Value} (hN : N ≤ 4096) (hE : es.length ≤ 65536) (hr : Rise N es) (hmt : MtOk N (JV es) (gi ms)) (hnr : Rows wb G b0 N vs fun v => nearV es v) (hm : MR wb.heap.size N mv (gi ms) wb)
    (h : PS wb N F Q H g (.slice (some ⟨G, 0, none⟩) N N) mv es ms s B qv ev [] [] (.slice none 0 0) [] w0) (hq : PQ N es s B [] none 0 [] []) :
    Calls Tryz.prog 53 #[.pointer (some ⟨H, 0, none⟩)] w0 (PathsQ wb N F Q H g (.slice (some ⟨G, 0, none⟩) N N) mv es ms) := by
  have HM := Lib.hid hm
  have HMT := Lib.hid hmt
  have HNR := Lib.hid hnr
  have HRI := Lib.hid hr
  have HSZ : Hid (N ≤ 4096 ∧ es.length ≤ 65536) := ⟨hN, hE⟩
  have hneq := fun (a : Option Addr) (n c : Nat) (W : World) => Go.run_neq_slice_nil_any (P := Tryz.prog) W 22 3 a n c 0 0 Tryz.underlying22
  have HLK := Lib.hid (plook_any hN hE hr hmt hnr hm h.bel h.pw hq h.tu)
  have HPS0 := Lib.hid h
  clear hm hmt hnr hr h hq
  go_enter Tryz.func53, Tryz.ntmps53
  go_wp2_with fail
  refine HLK.out.mono ?_
  rintro e w5 ⟨rfl, s5, qv5, ev5, ps5, xs5, P5, ls5, pq5, wl5⟩
  have HPS5 := Lib.hid (HPS0.out.step ls5.pw ls5.mov ls5.tu (fun z ρ hz hr hgn => by rw [show s5.rt = _ from congrArg Fo.rt ls5.fo]; exact hr) ls5.gn)
  have HPQ5 := Lib.hid (And.intro pq5 wl5)
  clear ls5 pq5 wl5 HLK
  obtain ⟨y0, y1, y2, y3⟩ := HPS5.out.pw.cells
  have HLE5 := Lib.hid (HPQ5.out.1.lkLe fun u e => by cases e)
  have HPO := Lib.hid (ppop_any _ HPS5.out.pw (by have := HPQ5.out.1.few; have := HLE5.out; have := HSZ.out; omega))
  clear y0 y1 y3
  go_wp2_with fail
  refine HPO.out.mono ?_
  rintro e w7 ⟨er7, key7, val7, qv7, xs7, rfl, pw7, m7, hcase7⟩
  have HPS8 : Hid (PS wb N F Q H g (.slice (some ⟨G, 0, none⟩) N N) mv es ms s5 B qv7 ev5 ps5 xs7 (.slice none 0 0) [] (w7.alloc (.cells #[.int .i64 key7, .int .i64 val7] 132))) := HPS5.out.step (pw7.later (bel_alloc _ _)) (m7.trans (Mov.of (bel_alloc _ _))) HPS5.out.tu (fun z ρ _ hr _ => hr) rfl
  have HBX8 : Hid (BX wb.heap.size (PK F g Q H s5.wv qv7 ev5) w7.heap.size key7 val7 (w7.alloc (.cells #[.int .i64 key7, .int .i64 val7] 132))) := ⟨heap_alloc_new _ _, Nat.le_trans HPS5.out.bel.size m7.size, fun q => by have := (pw7.in _ q).2; omega⟩
  have HCASE7 := Lib.hid hcase7
  clear pw7 m7 hcase7 HPO y2
  go_wp2_with fail
  generalize (w7.alloc (.cells #[.int .i64 key7, .int .i64 val7] 132)) = w8 at *
  generalize w7.heap.size = eb8 at *
  go_loopg [3, 4, 5, 6] (if er7 = 0 then 2 * es.length + 2 - (ps5.length - xs7.length) else 0) (fun k t3 t4 t5 t6 wr => ∃ (out : Value) (L : List (List Int)) (last key val er : Int) (eb : Nat) (s : Fm) (B : Nat → Nat) (qv ev : Value) (ps xs : List Ed) (P : List Nat), t3 = out ∧ t4 = .int .i64 last ∧ t5 = .pointer (some ⟨eb, 0, none⟩) ∧ t6 = .int .i64 er ∧
    Hid (PS wb N F Q H g (.slice (some ⟨G, 0, none⟩) N N) mv es ms s B qv ev ps xs out L wr) ∧ Hid (BX wb.heap.size (PK F g Q H s.wv qv ev) eb key val wr) ∧ Hid (s.wl = [] ∧ ((er = 16 ∧ xs = [] ∧ PQ N es s B P none 0 ps []) ∨ (er = 0 ∧ PQ N es s B P none 0 ps ((key, val) :: xs)))) ∧ Hid (k = if er = 0 then 2 * es.length + 2 - (ps.length - xs.length) else 0) ∧ Hid (L.length + xs.length + (if er = 0 then 1 else 0) ≤ ps.length))
  case atStart =>
    refine ⟨_, [], _, key7, val7, er7, _, s5, B, qv7, ev5, ps5, xs7, P5, rfl, rfl, rfl, rfl, HPS8, HBX8, ⟨HPQ5.out.2, ?_⟩, rfl, ?_⟩
    · rcases HCASE7.out with ⟨a, b, c⟩ | ⟨a, b⟩
      · left
        refine ⟨a, c, ?_⟩
        have := HPQ5.out.1
        rw [b] at this
        exact this
      · exact .inr ⟨a, HPQ5.out.1.order b⟩
    · have h4 := HPQ5.out.1.few
      unfold Hid
      rcases HCASE7.out with ⟨a, b, c⟩ | ⟨a, b⟩
      · rw [if_neg (by omega), c]
        simp
      · have h5 := b.length_eq
        simp only [List.length_cons] at h5
        rw [if_pos a]
        simp only [List.length_nil]
        omega
  case round =>
    clear HPS8 HBX8 HCASE7 HPQ5 HPS5 HLE5 HPS0
    obtain ⟨out, L, last, key, val, er, eb, s, B, qv, ev, ps, xs, P, rfl, rfl, rfl, rfl, hps, hbx, hcs, hk, hll⟩ := hrel
    obtain ⟨A, c, rfl⟩ := hps.out.ow.shape
    rcases hcs.out.2 with ⟨rfl, rfl, hq⟩ | ⟨rfl, hq⟩
    · -- nothing waits
      have HLE := Lib.hid (hq.lkLe fun u e => by cases e)
      have HDN : Hid (L = [] → (s.fo B).Done N (JV es)) := fun e => hq.end hcs.out.1 (hps.out.gon e)
      clear hq
      generalize hnL : L.length = n at *
      have HNL := Lib.hid hnL
      clear hnL
      go_wp2_with fail
      go_ret
      exact ⟨_, L, s, B, qv, ev, ps, [], P, rfl, hps.out, HLE.out.1, HLE.out.2.1, HDN.out⟩
    · have HQ := Lib.hid hq
      have hfew := hq.few
      have hle := hq.lkLe fun u e => by cases e
      have HLE := Lib.hid hle
      have HFEW : Hid (xs.length + 1 ≤ ps.length ∧ ps.length ≤ 2 * es.length) := by
        simp only [List.length_cons] at hfew
        exact ⟨hfew, hle.2.2.1⟩
      obtain ⟨k, v, w, h1, h2, h3, h4, h5, h6, h7⟩ := hq.hand
      have hval : val = (k : Int) := h1
      subst hval
      have HX : Hid (k < ps.length ∧ ge ps k = ((v : Int), (w : Int)) ∧ v < N ∧ w < N ∧ s.ou v = true ∧ JV es v w) := ⟨h2, h3, h4, h5, h6, h7⟩
      clear hfew hle hq h1 h3 h4 h5 h6 h7
      generalize hnL : L.length = n at *
      have HNL := Lib.hid hnL
      clear hnL
      obtain ⟨b0', b1'⟩ := hbx.out.cells
      by_cases hgo : n = 0 ∨ key = last
      · obtain ⟨y0, y1, y2, y3⟩ := hps.out.pw.cells
        have hown := hps.out.pw.own
        obtain ⟨A2, c2, e2, -, -⟩ := hown.shape
        subst e2
        obtain ⟨ge0, e2⟩ : ∃ ge0 : Nat, A2 = some ⟨ge0, 0, none⟩ := by
          rcases hown.2 with ⟨e, e0⟩ | ⟨g9, cap, cur, e, -⟩
          · omega
          · simp only [Value.slice.injEq] at e
            exact ⟨g9, e.1⟩
        subst e2
        have hd := hown.cellAt h2
        rw [HX.out.2.1] at hd
        dsimp only at hd
        have hki : (0 : Int) ≤ (k : Int) ∧ (k : Int) < (ps.length : Int) := by omega
        have S0 : Hid ((wr.drew.cell? ⟨H, 3, none⟩ = some (.slice (some ⟨ge0, 0, none⟩) ps.length c2) ∧ wr.drew.cell? ⟨eb, 1, none⟩ = some (.int .i64 k)) ∧ (wr.drew.cell? ⟨ge0, k * 2, none⟩ = some (.int .i64 v) ∧ wr.drew.cell? ⟨ge0, k * 2 + 1, none⟩ = some (.int .i64 w)) ∧ RW wr wr.drew) := ⟨⟨y3, b1'⟩, hd, (RW.refl wr).drew⟩
        clear hd hown y1 y2
        generalize hpl : ps.length = pl at *
        have HPLN := Lib.hid hpl
        clear hpl h2
        have hcond : ((((n : Int) == 0) = true) ∨ (((n : Int) == 0) = false ∧ (key == last) = true)) := by
          rcases hgo with q | q
          · left; subst q; rfl
          · by_cases q0 : n = 0
            · left; subst q0; rfl
            · right; exact ⟨by simp; omega, by simp [q]⟩
        clear hgo
        rcases hcond with h00 | ⟨h00, hkl⟩ <;>
        ( go_wp2_with fail
          go_region_held3 (fun w' => (w'.cell? ⟨H, 3, none⟩ = some (.slice (some ⟨ge0, 0, none⟩) pl c2) ∧ w'.cell? ⟨eb, 1, none⟩ = some (.int .i64 k)) ∧ (w'.cell? ⟨ge0, k * 2, none⟩ = some (.int .i64 v) ∧ w'.cell? ⟨ge0, k * 2 + 1, none⟩ = some (.int .i64 w)) ∧ RW wr w')
            (first | assumption | exact S0.out | exact RW.fourH S0.out (RW.refl wr).drew | fail) (fail)
          have hfin : RW wr _ := And.right (And.right (by assumption))
          have HPS1 := Lib.hid (hps.out.step (hps.out.pw.later hfin) (Mov.of hfin) hps.out.tu (fun z ρ _ hr _ => hr) rfl)
          have HBX1 := Lib.hid (hbx.out.mov (Mov.of hfin))
          have hlook := plk_any _ HPS1.out.bel.size (HM.out.below HPS1.out.bel) HPS1.out.pw HX.out.2.2.1 HX.out.2.2.2.1 hN ⟨HLE.out.1, by have := HLE.out.2.1; omega⟩
          have hways := look_ways (mt := gi ms) (s := s) (B := B) (v := v) (w := w)
          have HT0 : Hid (∀ up, lookB (gi ms) s B v w = 0 → PQ N es { s with up := up, lk := s.lk + 1 } B P none 0 ps xs) := fun up q => HQ.out.take0 HMT.out hps.out.pw.fg.fo rfl HX.out.2.1 HX.out.2.2.1 HX.out.2.2.2.2.1 q
          obtain ⟨x0, x1, x2, x3⟩ := HPS1.out.pw.cells
          generalize lookB (gi ms) s B v w = rl at *
          have HW := Lib.hid hways
          clear hways hfin x1 x2 x3 y0 y3 b0' b1' S0
          go_wp2_with fail
          refine hlook.mono ?_
          rintro e w2 ⟨rfl, up2, p2, m2⟩
          have HPS2 : Hid (PS wb N F Q H g (.slice (some ⟨G, 0, none⟩) N N) mv es ms { s with up := up2, lk := s.lk + 1 } B qv (.slice (some ⟨ge0, 0, none⟩) pl c2) ps xs (.slice A n c) L w2) := HPS1.out.step p2 m2 (by show s.tu ≤ s.lk + 1; have := HPS1.out.tu; omega) (fun z ρ _ hr _ => hr) rfl
          have HBX2 : Hid (BX wb.heap.size (PK F g Q H s.wv qv (.slice (some ⟨ge0, 0, none⟩) pl c2)) eb key k w2) := HBX1.out.mov m2
          have HCTA : Hid (L.length + xs.length ≤ ps.length) := by
            have h1 := hll.out
            rw [if_pos trivial] at h1
            have := HPLN.out
            have := HNL.out
            unfold Hid; omega
          clear p2 m2 hlook x0
          rcases HW.out with e0 | ⟨e0, lw⟩ | ⟨e0, ow, hBB, g1, g2⟩
          · have HPQ4 := Lib.hid (HT0.out up2 e0)
            have HPS4 := HPS2
            have HBX4 := HBX2
            subst e0
            have HLK := Lib.hid (plook_any hN hE HRI.out HMT.out HNR.out HM.out HPS4.out.bel HPS4.out.pw HPQ4.out HPS4.out.tu)
            go_wp2_with fail
            refine HLK.out.mono ?_
            rintro e w5 ⟨rfl, s5, qv5, ev5, ps5, xs5, P5, ls5, pq5, wl5⟩
            have HPS5 : Hid (PS wb N F Q H g (.slice (some ⟨G, 0, none⟩) N N) mv es ms s5 B qv5 ev5 ps5 xs5 (.slice A n c) L w5) := HPS4.out.step ls5.pw ls5.mov ls5.tu (fun z ρ hz hr hgn => by rw [show s5.rt = _ from congrArg Fo.rt ls5.fo]; exact hr) ls5.gn
            have HBX5 := Lib.hid (HBX4.out.mov ls5.mov)
            have HPQ5 := Lib.hid (And.intro pq5 (And.intro wl5 ls5.cnt))
            clear ls5 pq5 wl5 HLK
            obtain ⟨z0, z1⟩ := HBX5.out.cells
            obtain ⟨y0, y1, y2, y3⟩ := HPS5.out.pw.cells
            have hb6 := bel_alloc w5 (.cells #[.int .i64 key, .int .i64 k] 132)
            have hn6 := heap_alloc_new w5 (.cells #[.int .i64 key, .int .i64 k] 132)
            have y26 := cell_later hb6 y2
            have HPW6 := Lib.hid (HPS5.out.pw.later hb6)
            have HLE5 := Lib.hid (HPQ5.out.1.lkLe fun u e => by cases e)
            have HPO := Lib.hid (ppop_any _ HPW6.out (by have := HPQ5.out.1.few; have := HLE5.out; have := HSZ.out; omega))
            have HB6 := Lib.hid (And.intro hb6 hn6)
            clear y0 y1 y3 hb6 hn6
            go_wp2_with fail
            generalize (w5.alloc (.cells #[.int .i64 key, .int .i64 k] 132)) = w6 at *
            refine HPO.out.mono ?_
            rintro e w7 ⟨er7, key7, val7, qv7, xs7, rfl, pw7, m7, hcase7⟩
            obtain ⟨h7, p8, b8⟩ := HPS5.out.popped (x' := key7) (y' := val7) HB6.out.1 HB6.out.2 pw7 m7
            have c70 : w7.cell? ⟨w5.heap.size, 0, none⟩ = some (.int .i64 key) := (cell_blk h7 0).trans rfl
            have c71 : w7.cell? ⟨w5.heap.size, 1, none⟩ = some (.int .i64 k) := (cell_blk h7 1).trans rfl
            have c71b : (w7.setCell ⟨w5.heap.size, 0, none⟩ (.int .i64 key7)).cell? ⟨w5.heap.size, 1, none⟩ = some (.int .i64 k) := (World.cell?_setCell_other _ _ _ _ (by intro e; injection e with _ e; cases e)).trans c71
            have f70 := frozen_blk h7 0
            have f71 := frozen_blk h7 1
            have HPS8 := Lib.hid p8
            have HBX8 := Lib.hid b8
            have HCASE7 := Lib.hid hcase7
            clear pw7 m7 h7 p8 b8 hcase7 HPO HPW6 HB6
            go_wp2_with fail
            generalize ((w7.setCell ⟨w5.heap.size, 0, none⟩ (.int .i64 key7)).setCell ⟨w5.heap.size, 1, none⟩ (.int .i64 val7)) = w8 at *
            go_roundg (if er7 = 0 then 2 * es.length + 2 - (ps5.length - xs7.length) else 0)
            case rel =>
              refine ⟨(.slice A n c), L, _, key7, val7, er7, _, s5, B, qv7, ev5, ps5, xs7, P5, rfl, rfl, rfl, rfl, HPS8, HBX8, ⟨HPQ5.out.2.1, ?_⟩, rfl, ?_⟩
              · rcases HCASE7.out with ⟨a, b, c⟩ | ⟨a, b⟩
                · left
                  refine ⟨a, c, ?_⟩
                  have := HPQ5.out.1
                  rw [b] at this
                  exact this
                · exact .inr ⟨a, HPQ5.out.1.order b⟩
              · have h1 := HPQ5.out.2.2
                have h4 := HCTA.out
                unfold Hid
                rcases HCASE7.out with ⟨a, b, c⟩ | ⟨a, b⟩
                · rw [if_neg (by omega), c]
                  simp only [List.length_nil]
                  omega
                · have h5 := b.length_eq
                  simp only [List.length_cons] at h5
                  rw [if_pos a]
                  omega
            case measure =>
              have h1 := HPQ5.out.2.2
              have h2 := HFEW.out
              have h3 := HLE5.out.2.2.1
              have h4 := HPQ5.out.1.few
              have h9 := HPLN.out
              rw [hk.out.trans (if_pos trivial)]
              rcases HCASE7.out with ⟨a, b, c⟩ | ⟨a, b⟩
              · rw [if_neg (by omega)]
                omega
              · have h5 := b.length_eq
                simp only [List.length_cons] at h5
                rw [if_pos a]
                omega
          · subst e0
            have HGR := Lib.hid (pgrow_any w2 hN HMT.out HM.out HPS2.out (up := up2) rfl HQ.out rfl HX.out.2.1 HX.out.2.2.1 HX.out.2.2.2.1 HX.out.2.2.2.2.1 lw HX.out.2.2.2.2.2)
            obtain ⟨x0, x1, x2, x3⟩ := HPS2.out.pw.cells
            clear lw x1 x2 x3
            go_wp2_with fail
            refine HGR.out.mono ?_
            rintro e w4 ⟨rfl, s4, ps4, pq4, m4⟩
            have HPS4 := Lib.hid ps4
            have HPQ4 := Lib.hid pq4
            have HBX4 : Hid (BX wb.heap.size (PK F g Q H s4.wv qv (.slice (some ⟨ge0, 0, none⟩) pl c2)) eb key k w4) := HBX2.out.mov m4
            clear ps4 pq4 m4 x0
            have HLK := Lib.hid (plook_any hN hE HRI.out HMT.out HNR.out HM.out HPS4.out.bel HPS4.out.pw HPQ4.out HPS4.out.tu)
            go_wp2_with fail
            refine HLK.out.mono ?_
            rintro e w5 ⟨rfl, s5, qv5, ev5, ps5, xs5, P5, ls5, pq5, wl5⟩
            have HPS5 : Hid (PS wb N F Q H g (.slice (some ⟨G, 0, none⟩) N N) mv es ms s5 B qv5 ev5 ps5 xs5 (.slice A n c) L w5) := HPS4.out.step ls5.pw ls5.mov ls5.tu (fun z ρ hz hr hgn => by rw [show s5.rt = _ from congrArg Fo.rt ls5.fo]; exact hr) ls5.gn
            have HBX5 := Lib.hid (HBX4.out.mov ls5.mov)
            have HPQ5 := Lib.hid (And.intro pq5 (And.intro wl5 ls5.cnt))
            clear ls5 pq5 wl5 HLK
            obtain ⟨z0, z1⟩ := HBX5.out.cells
            obtain ⟨y0, y1, y2, y3⟩ := HPS5.out.pw.cells
            have hb6 := bel_alloc w5 (.cells #[.int .i64 key, .int .i64 k] 132)
            have hn6 := heap_alloc_new w5 (.cells #[.int .i64 key, .int .i64 k] 132)
            have y26 := cell_later hb6 y2
            have HPW6 := Lib.hid (HPS5.out.pw.later hb6)
            have HLE5 := Lib.hid (HPQ5.out.1.lkLe fun u e => by cases e)
            have HPO := Lib.hid (ppop_any _ HPW6.out (by have := HPQ5.out.1.few; have := HLE5.out; have := HSZ.out; omega))
            have HB6 := Lib.hid (And.intro hb6 hn6)
            clear y0 y1 y3 hb6 hn6
            go_wp2_with fail
            generalize (w5.alloc (.cells #[.int .i64 key, .int .i64 k] 132)) = w6 at *
            refine HPO.out.mono ?_
            rintro e w7 ⟨er7, key7, val7, qv7, xs7, rfl, pw7, m7, hcase7⟩
            obtain ⟨h7, p8, b8⟩ := HPS5.out.popped (x' := key7) (y' := val7) HB6.out.1 HB6.out.2 pw7 m7
            have c70 : w7.cell? ⟨w5.heap.size, 0, none⟩ = some (.int .i64 key) := (cell_blk h7 0).trans rfl
            have c71 : w7.cell? ⟨w5.heap.size, 1, none⟩ = some (.int .i64 k) := (cell_blk h7 1).trans rfl
            have c71b : (w7.setCell ⟨w5.heap.size, 0, none⟩ (.int .i64 key7)).cell? ⟨w5.heap.size, 1, none⟩ = some (.int .i64 k) := (World.cell?_setCell_other _ _ _ _ (by intro e; injection e with _ e; cases e)).trans c71
            have f70 := frozen_blk h7 0
            have f71 := frozen_blk h7 1
            have HPS8 := Lib.hid p8
            have HBX8 := Lib.hid b8
            have HCASE7 := Lib.hid hcase7
            clear pw7 m7 h7 p8 b8 hcase7 HPO HPW6 HB6
            go_wp2_with fail
            generalize ((w7.setCell ⟨w5.heap.size, 0, none⟩ (.int .i64 key7)).setCell ⟨w5.heap.size, 1, none⟩ (.int .i64 val7)) = w8 at *
            go_roundg (if er7 = 0 then 2 * es.length + 2 - (ps5.length - xs7.length) else 0)
            case rel =>
              refine ⟨(.slice A n c), L, _, key7, val7, er7, _, s5, B, qv7, ev5, ps5, xs7, P5, rfl, rfl, rfl, rfl, HPS8, HBX8, ⟨HPQ5.out.2.1, ?_⟩, rfl, ?_⟩
              · rcases HCASE7.out with ⟨a, b, c⟩ | ⟨a, b⟩
                · left
                  refine ⟨a, c, ?_⟩
                  have := HPQ5.out.1
                  rw [b] at this
                  exact this
                · exact .inr ⟨a, HPQ5.out.1.order b⟩
              · have h1 := HPQ5.out.2.2
                have h4 := HCTA.out
                unfold Hid
                rcases HCASE7.out with ⟨a, b, c⟩ | ⟨a, b⟩
                · rw [if_neg (by omega), c]
                  simp only [List.length_nil]
                  omega
                · have h5 := b.length_eq
                  simp only [List.length_cons] at h5
                  rw [if_pos a]
                  omega
            case measure =>
              have h1 := HPQ5.out.2.2
              have h2 := HFEW.out
              have h3 := HLE5.out.2.2.1
              have h4 := HPQ5.out.1.few
              have h9 := HPLN.out
              rw [hk.out.trans (if_pos trivial)]
              rcases HCASE7.out with ⟨a, b, c⟩ | ⟨a, b⟩
              · rw [if_neg (by omega)]
                omega
              · have h5 := b.length_eq
                simp only [List.length_cons] at h5
                rw [if_pos a]
                omega
          · subst e0
            have HOO := Lib.hid (And.intro ow (And.intro hBB (And.intro g1 g2)))
            clear ow hBB g1 g2
            by_cases hrt : s.rt v = s.rt w
            · have HCL := Lib.hid (pclose_any w2 hN hE HMT.out HM.out HPS2.out (up := up2) rfl HQ.out hps.out.tu rfl HX.out.2.1 HX.out.2.2.1 HX.out.2.2.2.1 HX.out.2.2.2.2.1 HOO.out.1 hrt HX.out.2.2.2.2.2)
              obtain ⟨x0, x1, x2, x3⟩ := HPS2.out.pw.cells
              clear hrt x1 x2 x3
              go_wp2_with fail
              refine HCL.out.mono ?_
              rintro e w4 ⟨rfl, s4, B4, ps4, pq4, m4⟩
              have HPS4 := Lib.hid ps4
              have HPQ4 := Lib.hid pq4
              have HBX4 : Hid (BX wb.heap.size (PK F g Q H s4.wv qv (.slice (some ⟨ge0, 0, none⟩) pl c2)) eb key k w4) := HBX2.out.mov m4
              clear ps4 pq4 m4 x0
              have HLK := Lib.hid (plook_any hN hE HRI.out HMT.out HNR.out HM.out HPS4.out.bel HPS4.out.pw HPQ4.out HPS4.out.tu)
              go_wp2_with fail
              refine HLK.out.mono ?_
              rintro e w5 ⟨rfl, s5, qv5, ev5, ps5, xs5, P5, ls5, pq5, wl5⟩
              have HPS5 : Hid (PS wb N F Q H g (.slice (some ⟨G, 0, none⟩) N N) mv es ms s5 B4 qv5 ev5 ps5 xs5 (.slice A n c) L w5) := HPS4.out.step ls5.pw ls5.mov ls5.tu (fun z ρ hz hr hgn => by rw [show s5.rt = _ from congrArg Fo.rt ls5.fo]; exact hr) ls5.gn
              have HBX5 := Lib.hid (HBX4.out.mov ls5.mov)
              have HPQ5 := Lib.hid (And.intro pq5 (And.intro wl5 ls5.cnt))
              clear ls5 pq5 wl5 HLK
              obtain ⟨z0, z1⟩ := HBX5.out.cells
              obtain ⟨y0, y1, y2, y3⟩ := HPS5.out.pw.cells
              have hb6 := bel_alloc w5 (.cells #[.int .i64 key, .int .i64 k] 132)
              have hn6 := heap_alloc_new w5 (.cells #[.int .i64 key, .int .i64 k] 132)
              have y26 := cell_later hb6 y2
              have HPW6 := Lib.hid (HPS5.out.pw.later hb6)
              have HLE5 := Lib.hid (HPQ5.out.1.lkLe fun u e => by cases e)
              have HPO := Lib.hid (ppop_any _ HPW6.out (by have := HPQ5.out.1.few; have := HLE5.out; have := HSZ.out; omega))
              have HB6 := Lib.hid (And.intro hb6 hn6)
              clear y0 y1 y3 hb6 hn6
              go_wp2_with fail
              generalize (w5.alloc (.cells #[.int .i64 key, .int .i64 k] 132)) = w6 at *
              refine HPO.out.mono ?_
              rintro e w7 ⟨er7, key7, val7, qv7, xs7, rfl, pw7, m7, hcase7⟩
              obtain ⟨h7, p8, b8⟩ := HPS5.out.popped (x' := key7) (y' := val7) HB6.out.1 HB6.out.2 pw7 m7
              have c70 : w7.cell? ⟨w5.heap.size, 0, none⟩ = some (.int .i64 key) := (cell_blk h7 0).trans rfl
              have c71 : w7.cell? ⟨w5.heap.size, 1, none⟩ = some (.int .i64 k) := (cell_blk h7 1).trans rfl
              have c71b : (w7.setCell ⟨w5.heap.size, 0, none⟩ (.int .i64 key7)).cell? ⟨w5.heap.size, 1, none⟩ = some (.int .i64 k) := (World.cell?_setCell_other _ _ _ _ (by intro e; injection e with _ e; cases e)).trans c71
              have f70 := frozen_blk h7 0
              have f71 := frozen_blk h7 1
              have HPS8 := Lib.hid p8
              have HBX8 := Lib.hid b8
              have HCASE7 := Lib.hid hcase7
              clear pw7 m7 h7 p8 b8 hcase7 HPO HPW6 HB6
              go_wp2_with fail
              generalize ((w7.setCell ⟨w5.heap.size, 0, none⟩ (.int .i64 key7)).setCell ⟨w5.heap.size, 1, none⟩ (.int .i64 val7)) = w8 at *
              go_roundg (if er7 = 0 then 2 * es.length + 2 - (ps5.length - xs7.length) else 0)
              case rel =>
                refine ⟨(.slice A n c), L, _, key7, val7, er7, _, s5, B4, qv7, ev5, ps5, xs7, P5, rfl, rfl, rfl, rfl, HPS8, HBX8, ⟨HPQ5.out.2.1, ?_⟩, rfl, ?_⟩
                · rcases HCASE7.out with ⟨a, b, c⟩ | ⟨a, b⟩
                  · left
                    refine ⟨a, c, ?_⟩
                    have := HPQ5.out.1
                    rw [b] at this
                    exact this
                  · exact .inr ⟨a, HPQ5.out.1.order b⟩
                · have h1 := HPQ5.out.2.2
                  have h4 := HCTA.out
                  unfold Hid
                  rcases HCASE7.out with ⟨a, b, c⟩ | ⟨a, b⟩
                  · rw [if_neg (by omega), c]
                    simp only [List.length_nil]
                    omega
                  · have h5 := b.length_eq
                    simp only [List.length_cons] at h5
                    rw [if_pos a]
                    omega
              case measure =>
                have h1 := HPQ5.out.2.2
                have h2 := HFEW.out
                have h3 := HLE5.out.2.2.1
                have h4 := HPQ5.out.1.few
                have h9 := HPLN.out
                rw [hk.out.trans (if_pos trivial)]
                rcases HCASE7.out with ⟨a, b, c⟩ | ⟨a, b⟩
                · rw [if_neg (by omega)]
                  omega
                · have h5 := b.length_eq
                  simp only [List.length_cons] at h5
                  rw [if_pos a]
                  omega
            · have HPA := Lib.hid (ppath_any w2 hN HMT.out HM.out HPS2.out (up := up2) rfl HQ.out HX.out.2.2.1 HX.out.2.2.2.1 HX.out.2.2.2.2.1 HOO.out.1 hrt HX.out.2.2.2.2.2 HOO.out.2.2.1 HOO.out.2.2.2)
              obtain ⟨x0, x1, x2, x3⟩ := HPS2.out.pw.cells
              clear hrt x1 x2 x3
              go_wp2_with fail
              refine HPA.out.mono ?_
              rintro e w4 ⟨GA, CA, n9, rfl, s4, l4, pw4, tu4, ow4, own4, outs4, pq4, bel4, wv4, m4⟩
              obtain ⟨vs', V1, V2, V3, V4⟩ := ow4.ex
              have HBX3 : Hid (BX wb.heap.size (PK F g Q H s4.wv qv (.slice (some ⟨ge0, 0, none⟩) pl c2)) eb key k w4) := HBX2.out.mov m4
              have hoblk : ∀ q, (Value.slice A n c).ownBlock = some q → q < w2.heap.size ∧ wb.heap.size ≤ q := fun q e => by
                obtain ⟨vs2, U1, -⟩ := HPS2.out.ow.ex
                exact ⟨(World.ownsRow.lt U1 q e).2, (World.ownsRow.lt U1 q e).1⟩
              have hga := row_base own4 GA rfl
              have HG4 : Hid (¬ PK F g Q H s4.wv qv (.slice (some ⟨ge0, 0, none⟩) pl c2) GA ∧ (Value.slice A n c).ownBlock ≠ some GA) := ⟨fun q => by
                rw [wv4] at q
                have := (HPS2.out.pw.in GA q).2
                omega, fun e => by have := (hoblk GA e).1; omega⟩
              have hE9 : (Value.slice A n c).ownBlock ≠ some eb := fun e => by
                have h1 := HBX3.out.1
                rcases V1.2 with ⟨e2, -⟩ | ⟨g9, cap, cur, e2, -, hg9, -⟩
                · rw [e2] at e; cases e
                · rw [e2] at e
                  have e3 : g9 = eb := Option.some.inj e
                  rw [e3, h1] at hg9
                  injection hg9 with hg9
                  injection hg9 with _ hg9
                  exact absurd hg9 (by decide)
              have hb1 := bel_alloc w4 (.cells #[.slice (some ⟨GA, 0, none⟩) n9 CA] 22)
              have hb2 := bel_trans hb1 (RW.refl _).drew
              have hn1 := heap_alloc_new w4 (.cells #[.slice (some ⟨GA, 0, none⟩) n9 CA] 22)
              have HOV : Hid (OwnV (w4.alloc (.cells #[.slice (some ⟨GA, 0, none⟩) n9 CA] 22)).drew wb.heap.size (.slice A n c) vs' ∧ wb.heap.size ≤ (w4.alloc (.cells #[.slice (some ⟨GA, 0, none⟩) n9 CA] 22)).drew.heap.size) := ⟨V1.same fun q e => hb2.block q (World.ownsRow.lt V1 q e).2, Nat.le_trans bel4.size hb2.size⟩
              have HRD : Hid ((w4.alloc (.cells #[.slice (some ⟨GA, 0, none⟩) n9 CA] 22)).drew.cell? ⟨w4.heap.size, 0, none⟩ = some (.slice (some ⟨GA, 0, none⟩) n9 CA)) := (cell_blk hn1 0).trans rfl
              have HLN : Hid (vs'.length + 1 ≤ 1000000000) := by have := HCTA.out; have := HFEW.out; have := HSZ.out; have := HPLN.out; unfold Hid; omega
              have hbe : (w4.alloc (.cells #[.slice (some ⟨GA, 0, none⟩) n9 CA] 22)).drew.heap[eb]? = some (.cells #[.int .i64 key, .int .i64 k] 132 (0, 0)) := (hb2.block eb (blk_lt HBX3.out.1)).trans HBX3.out.1
              have HBE := Lib.hid (And.intro hbe hE9)
              have k0 : w4.drew.cell? ⟨eb, 0, none⟩ = some (.int .i64 key) := HBX3.out.cells.1
              have k1 : (w4.alloc (.cells #[.slice (some ⟨GA, 0, none⟩) n9 CA] 22)).drew.cell? ⟨eb, 0, none⟩ = some (.int .i64 key) := (cell_blk hbe 0).trans rfl
              have H4 := Lib.hid (And.intro pw4 (And.intro tu4 (And.intro own4 (And.intro outs4 (And.intro bel4 (And.intro V1 (And.intro V2 (And.intro V3 V4))))))))
              have HPQ4 := Lib.hid pq4
              have HB2 := Lib.hid hb2
              clear pw4 tu4 ow4 own4 outs4 pq4 bel4 wv4 m4 V1 V2 V3 V4 hoblk hga hE9 hb1 hb2 hn1 hbe x0
              go_wp2_with fail
              go_region_law (first
                | (refine step_appV wb.heap.size (by rfl) _ _ (by rfl) (.slice A n c) vs' (by rfl) HOV.out.1 HOV.out.2 w4.heap.size 0 1 (.slice (some ⟨GA, 0, none⟩) n9 CA) (by rfl) HRD.out (by rfl) HLN.out ?_; intro v1 w11 own1 g11 hat1 hnn1; have h11 := (g11.block eb (blk_lt HBE.out.1) (fun e => HBE.out.2 e.symm)).trans HBE.out.1; have t1 : w11.cell? ⟨eb, 0, none⟩ = some (.int .i64 key) := (cell_blk h11 0).trans rfl)
                | fail)
              all_goals
                have HBX4 : Hid (BX wb.heap.size (PK F g Q H s4.wv qv (.slice (some ⟨ge0, 0, none⟩) pl c2)) eb key k w11) := ⟨h11, HBX3.out.2.1, HBX3.out.2.2⟩
                have HPS4 : Hid (PS wb N F Q H g (.slice (some ⟨G, 0, none⟩) N N) mv es ms s4 B qv (.slice (some ⟨ge0, 0, none⟩) pl c2) ps xs v1 (L ++ [l4]) w11) := by
                  obtain ⟨pw4, tu4, own4, outs4, bel4, V1, V2, V3, V4⟩ := H4.out
                  refine ⟨pw4.off fun q hq => ?_, tu4, ?_, outs4, fun e => by simp at e, ?_⟩
                  · have h1 := (pw4.in q hq).2
                    exact (g11.block q (by have := HB2.out.size; omega) fun e => V3 q e.symm hq).trans (HB2.out.block q h1)
                  · have pw5 := pw4.later HB2.out
                    refine OW.add (W := (w4.alloc (.cells #[.slice (some ⟨GA, 0, none⟩) n9 CA] 22)).drew) HOV.out.1 V2 V3 (fun j hj hl => ?_) rfl (OwnI.same (row_weaken own4 HPS2.out.bel.size) fun q e => HB2.out.block q (by cases e; exact row_lt own4 GA rfl)) HG4.out.1 HG4.out.2 (fun q hq => (pw5.in q hq).2) own1 g11 hat1
                    obtain ⟨GA', CA', n', e, o, g', q⟩ := V4 j hj hl
                    exact ⟨GA', CA', n', e, o.same fun q e => HB2.out.block q (row_lt o q e), g', q⟩
                  · refine ⟨g11.os.trans (HB2.out.os.trans bel4.os), g11.tape.trans (HB2.out.tape.trans bel4.tape), g11.output.trans (HB2.out.output.trans bel4.output), Nat.le_trans bel4.size (Nat.le_trans HB2.out.size g11.size), fun q hq => ?_⟩
                    rw [g11.block q (by have := HB2.out.size; have := bel4.size; omega) (fun e => by have := (World.ownsRow.lt V1 q e.symm).1; omega), HB2.out.block q (by have := bel4.size; omega)]
                    exact bel4.block q hq
                have HCTB : Hid ((L ++ [l4]).length + xs.length ≤ ps.length) := by
                  have h1 := hll.out
                  rw [if_pos trivial] at h1
                  have := HPLN.out
                  have := HNL.out
                  unfold Hid
                  simp only [List.length_append, List.length_cons, List.length_nil]
                  omega
                clear HCTA
                have HCTA := HCTB
                clear HCTB H4 own1 g11 hat1 hnn1 h11 t1 k0 k1 HOV HRD HBE
                have HLK := Lib.hid (plook_any hN hE HRI.out HMT.out HNR.out HM.out HPS4.out.bel HPS4.out.pw HPQ4.out HPS4.out.tu)
                go_wp2_with fail
                refine HLK.out.mono ?_
                rintro e w5 ⟨rfl, s5, qv5, ev5, ps5, xs5, P5, ls5, pq5, wl5⟩
                have HPS5 : Hid (PS wb N F Q H g (.slice (some ⟨G, 0, none⟩) N N) mv es ms s5 B qv5 ev5 ps5 xs5 v1 (L ++ [l4]) w5) := HPS4.out.step ls5.pw ls5.mov ls5.tu (fun z ρ hz hr hgn => by rw [show s5.rt = _ from congrArg Fo.rt ls5.fo]; exact hr) ls5.gn
                have HBX5 := Lib.hid (HBX4.out.mov ls5.mov)
                have HPQ5 := Lib.hid (And.intro pq5 (And.intro wl5 ls5.cnt))
                clear ls5 pq5 wl5 HLK
                obtain ⟨z0, z1⟩ := HBX5.out.cells
                obtain ⟨y0, y1, y2, y3⟩ := HPS5.out.pw.cells
                have hb6 := bel_alloc w5 (.cells #[.int .i64 key, .int .i64 k] 132)
                have hn6 := heap_alloc_new w5 (.cells #[.int .i64 key, .int .i64 k] 132)
                have y26 := cell_later hb6 y2
                have HPW6 := Lib.hid (HPS5.out.pw.later hb6)
                have HLE5 := Lib.hid (HPQ5.out.1.lkLe fun u e => by cases e)
                have HPO := Lib.hid (ppop_any _ HPW6.out (by have := HPQ5.out.1.few; have := HLE5.out; have := HSZ.out; omega))
                have HB6 := Lib.hid (And.intro hb6 hn6)
                clear y0 y1 y3 hb6 hn6
                go_wp2_with fail
                generalize (w5.alloc (.cells #[.int .i64 key, .int .i64 k] 132)) = w6 at *
                refine HPO.out.mono ?_
                rintro e w7 ⟨er7, key7, val7, qv7, xs7, rfl, pw7, m7, hcase7⟩
                obtain ⟨h7, p8, b8⟩ := HPS5.out.popped (x' := key7) (y' := val7) HB6.out.1 HB6.out.2 pw7 m7
                have c70 : w7.cell? ⟨w5.heap.size, 0, none⟩ = some (.int .i64 key) := (cell_blk h7 0).trans rfl
                have c71 : w7.cell? ⟨w5.heap.size, 1, none⟩ = some (.int .i64 k) := (cell_blk h7 1).trans rfl
                have c71b : (w7.setCell ⟨w5.heap.size, 0, none⟩ (.int .i64 key7)).cell? ⟨w5.heap.size, 1, none⟩ = some (.int .i64 k) := (World.cell?_setCell_other _ _ _ _ (by intro e; injection e with _ e; cases e)).trans c71
                have f70 := frozen_blk h7 0
                have f71 := frozen_blk h7 1
                have HPS8 := Lib.hid p8
                have HBX8 := Lib.hid b8
                have HCASE7 := Lib.hid hcase7
                clear pw7 m7 h7 p8 b8 hcase7 HPO HPW6 HB6
                go_wp2_with fail
                generalize ((w7.setCell ⟨w5.heap.size, 0, none⟩ (.int .i64 key7)).setCell ⟨w5.heap.size, 1, none⟩ (.int .i64 val7)) = w8 at *
                go_roundg (if er7 = 0 then 2 * es.length + 2 - (ps5.length - xs7.length) else 0)
                case rel =>
                  refine ⟨v1, (L ++ [l4]), _, key7, val7, er7, _, s5, B, qv7, ev5, ps5, xs7, P5, rfl, rfl, rfl, rfl, HPS8, HBX8, ⟨HPQ5.out.2.1, ?_⟩, rfl, ?_⟩
                  · rcases HCASE7.out with ⟨a, b, c⟩ | ⟨a, b⟩
                    · left
                      refine ⟨a, c, ?_⟩
                      have := HPQ5.out.1
                      rw [b] at this
                      exact this
                    · exact .inr ⟨a, HPQ5.out.1.order b⟩
                  · have h1 := HPQ5.out.2.2
                    have h4 := HCTA.out
                    unfold Hid
                    rcases HCASE7.out with ⟨a, b, c⟩ | ⟨a, b⟩
                    · rw [if_neg (by omega), c]
                      simp only [List.length_nil]
                      omega
                    · have h5 := b.length_eq
                      simp only [List.length_cons] at h5
                      rw [if_pos a]
                      omega
                case measure =>
                  have h1 := HPQ5.out.2.2
                  have h2 := HFEW.out
                  have h3 := HLE5.out.2.2.1
                  have h4 := HPQ5.out.1.few
                  have h9 := HPLN.out
                  rw [hk.out.trans (if_pos trivial)]
                  rcases HCASE7.out with ⟨a, b, c⟩ | ⟨a, b⟩
                  · rw [if_neg (by omega)]
                    omega
                  · have h5 := b.length_eq
                    simp only [List.length_cons] at h5
                    rw [if_pos a]
                    omega )
      · -- a later time
        have hn0 : ((n : Int) == 0) = false := by simp; omega
        have hkl : (key == last) = false := by simp; omega
        have HNE : Hid (L ≠ []) := fun e => hgo (.inl (by rw [← HNL.out, e]; rfl))
        clear hgo h2
        go_wp2_with fail
        go_ret
        exact ⟨_, L, s, B, qv, ev, ps, xs, P, rfl, hps.out, HLE.out.1, HLE.out.2.1, fun e => absurd e HNE.out⟩
end
end

end Go.Proofs.YtbnipgajhpbolaaGreatDoor
