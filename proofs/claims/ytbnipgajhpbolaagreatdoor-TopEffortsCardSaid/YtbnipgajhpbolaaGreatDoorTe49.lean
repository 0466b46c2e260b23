/- The walk of phased.Largest on right graphs -/
import Derived.Test.YtbnipgajhpbolaaGreatDoorTe40
import Derived.Test.YtbnipgajhpbolaaGreatDoorTe42
set_option linter.unusedVariables false
set_option linter.unusedSimpArgs false
namespace Go.Proofs.YtbnipgajhpbolaaGreatDoor

section
open Go.RowKit
section
variable {N : Nat} {es : List Ed}
/-- What phased.Largest leaves. -/
def PLargestQ (N : Nat) (es : List Ed) (w : World) (e : Ending) (w' : World) : Prop := ∃ (v : Value) (rd lk : Int) (ms : List Int) (t : Fo), e = .returned (.tuple #[v, .agg #[.int .i64 rd, .int .i64 lk], .int .i64 0]) ∧
  OwnI w' w.heap.size v ms ∧ MatchN N es ms ∧ Below w.heap.size w w' ∧ 0 ≤ rd ∧ 2 * rd ≤ N + 2 ∧ 0 ≤ lk ∧ lk ≤ 4 * es.length ∧ FoI N (JV es) (gi ms) t ∧ t.Done N (JV es)
theorem LB.grown {w W W' : World} {M : Int} {A : Option Addr} {n c : Nat} {row : Option Nat} (h : LB w M A n c W) (g : W.grownBy W' row) (hr : ∀ k, row = some k → w.heap.size + 2 ≤ k) : LB w M A n c W' := by
  have h2 := h.cells.2.2.1
  unfold LB at h ⊢
  exact ⟨g.os.trans h.os, g.tape.trans h.tape, g.output.trans h.output, Nat.le_trans h.size g.size, fun k hk => (g.block k (by omega) fun e => by have := hr k e.symm; omega).trans (h.block k hk)⟩
theorem OwnV.cap {W : World} {base : Nat} {v : Value} {vs : List Value} (h : OwnV W base v vs) : vs.length ≤ 9223372036854775807 := by
  rcases h.2 with ⟨-, h0⟩ | ⟨g, cap, cur, -, -, -, hn, hm, -⟩
  · omega
  · simp only [maxLen] at hm; omega
/-- What it has come to: the matching in its row, the effort in its variable. -/
structure PL (N : Nat) (es : List Ed) (w : World) (A : Option Addr) (n c : Nat) (w4 : World) (mv : Value) (ms : List Int) (rd lk : Int) (W : World) : Prop where
  own : OwnI W (w.heap.size + 2) mv ms
  mat : MatchN N es ms
  lb : LB w N A n c W
  eb : W.heap[w4.heap.size]? = some (.cells #[.int .i64 rd, .int .i64 lk] 50 (0, 0))
  gr : w4.grownBy W mv.ownBlock
  few : 0 ≤ rd ∧ 2 * rd + ((sel (freeB ms) N).length : Int) ≤ N
  lk : 0 ≤ lk ∧ lk ≤ 4 * es.length
/-- Some paths have been turned. -/
structure TS (N : Nat) (es : List Ed) (ms0 : List Int) (L : List (List Int)) (j : Nat) (ms : List Int) : Prop where
  mat : MatchN N es ms
  cnt : (sel (freeB ms) N).length + 2 * j = (sel (freeB ms0) N).length
  aug : ∀ l ∈ L.drop j, ∃ r u, Aug N (JV es) ms l r u
  apart : (L.drop j).Pairwise fun a b => ∀ x ∈ a, x ∉ b
theorem TS.step {ms0 ms : List Int} {L : List (List Int)} {j : Nat} (hr : Rise N es) (h : TS N es ms0 L j ms) (hj : j < L.length) : TS N es ms0 L (j + 1) (turnM ms L[j]) := by
  have e := List.drop_eq_getElem_cons hj
  obtain ⟨a, b, c, d⟩ := augs_turn (jv_ok hr h.mat).lt (jv_ok hr h.mat).sym h.mat h.aug h.apart _ _ e
  exact ⟨a, by have := h.cnt; omega, c, d⟩

set_option maxHeartbeats 32000000 in
set_option maxRecDepth 100000 in
theorem plargest_any {A : Option Addr} {n c : Nat} (w : World) (h : ReadE w A n es) (hr : rightB N es = true) :
    Calls Tryz.prog 18 #[.agg #[.int .i64 N, .slice A n c]] w (PLargestQ N es w) := by
  obtain ⟨r1, r2, r3, r4⟩ := rightB_iff.1 hr
  have hN6 : N ≤ 4096 := by omega
  have HN6 := Lib.hid hN6
  have HEL := Lib.hid r3
  have HRI := Lib.hid r4
  have HLB0 : Hid (LB w N A n c ((w.alloc (gcells N A n c)).alloc (.cells #[.int .i64 0, .int .i64 0] 50))) := Below.refl _ _
  have HE := Lib.hid h
  have HR := Lib.hid hr
  have HMT : Hid (MatchN N es (firstL N es)) := by
    unfold Hid firstL
    rw [hr, if_pos rfl, Int.toNat_natCast]
    exact firstTo_match r4 N (Nat.le_refl _)
  clear h hr r1 r2 r3 r4 hN6
  have hgr := gright_any (c := c) N _ (HE.out.below HLB0.out.cells.2.2.2)
  obtain ⟨⟨x0, x1⟩, -⟩ := HLB0.out.cells
  go_enter Tryz.func18, Tryz.ntmps18
  go_wp2_with fail
  generalize ((w.alloc (gcells N A n c)).alloc (.cells #[.int .i64 0, .int .i64 0] 50)) = w1 at *
  refine hgr.mono ?_
  rintro e w2 ⟨rfl, hb2⟩
  rw [HR.out]
  have HLB2 := Lib.hid (HLB0.out.later hb2)
  have hfi := first_any (c := c) N w2 (HE.out.below HLB2.out.cells.2.2.2)
  clear hb2 hgr x0 x1
  obtain ⟨⟨x0, x1⟩, -⟩ := HLB2.out.cells
  go_wp2_with fail
  refine hfi.mono ?_
  rintro e w3 ⟨v, rfl, own3, hb3⟩
  have HLB3 := Lib.hid (HLB2.out.later hb3)
  have OWN3 := Lib.hid own3
  have HLT3 := Lib.hid (row_lt own3)
  have HBS := Lib.hid HLB2.out.cells.2.2.1
  have hli := lists_any (c := c) N w3 (HE.out.below HLB3.out.cells.2.2.2) HN6.out (by have := HEL.out; have := HE.out.1; omega) (fun k hk => by
      have := HRI.out.1 _ (show ge es k ∈ es by rw [ge_get (by have := HE.out.1; omega)]; exact List.getElem_mem _)
      unfold edgeOk at this
      simp at this
      omega)
  clear hb3 hfi x0 x1 own3
  obtain ⟨⟨x0, x1⟩, -⟩ := HLB3.out.cells
  go_wp2_with fail
  refine hli.mono ?_
  rintro e w4 ⟨vs, rfl, hrows, hb4⟩
  have HLB4 := Lib.hid (HLB3.out.later hb4)
  have OWN4 := Lib.hid (own_later OWN3.out hb4)
  have HNR : Hid (Rows w4 _ _ N vs fun v => nearV es v) := hrows.congr (L' := fun v => nearV es v) fun i hi => rfl
  have HSEP : Hid (∀ k, v.ownBlock = some k → k < w3.heap.size ∧ w.heap.size + 2 ≤ k) := fun k e => ⟨HLT3.out k e, by have := row_base OWN3.out k e; have := HBS.out; omega⟩
  have HSZ4 : Hid (w3.heap.size ≤ w4.heap.size) := hb4.size
  clear hb4 hli x0 x1 hrows
  have hPL0 : PL N es w A n c w4 v (firstL N es) 0 0 (w4.alloc (.cells #[.int .i64 0, .int .i64 0] 50)) :=
    ⟨row_weaken (own_later OWN4.out (bel_alloc _ _)) HBS.out, HMT.out, HLB4.out.later (bel_alloc _ _), heap_alloc_new _ _, ⟨rfl, rfl, rfl, (bel_alloc _ _).size, fun k hk _ => (bel_alloc _ _).block k hk⟩, ⟨Int.le_refl _, by have := sel_length (freeB (firstL N es)) N; omega⟩, Int.le_refl _, by omega⟩
  have HPL0 := Lib.hid hPL0
  obtain ⟨M, mc, e0, -⟩ := MR.of_own hPL0.own hPL0.mat.1
  subst e0
  clear hPL0
  go_wp2_with fail
  generalize (w4.alloc (.cells #[.int .i64 0, .int .i64 0] 50)) = w5 at *
  go_loopg [8] (sel (freeB (firstL N es)) N).length (fun k _ wr => ∃ (ms : List Int) (rd lk : Int), Hid (PL N es w A n c w4 (.slice M N mc) ms rd lk wr) ∧ Hid (k = (sel (freeB ms) N).length))
  case atStart => exact ⟨_, 0, 0, HPL0, rfl⟩
  case round =>
    obtain ⟨ms, rd, lk, hin, hk⟩ := hrel
    have hrows := HNR.out.grownO hin.out.gr (fun e => by have := (HSEP.out _ e.symm).1; omega) (fun k hk => Nat.lt_succ_of_lt (HSEP.out k hk).1)
    obtain ⟨M', mc', e1, hmr⟩ := MR.of_own hin.out.own hin.out.mat.1
    simp only [Value.slice.injEq] at e1
    obtain ⟨rfl, -, hmc⟩ := e1
    subst hmc
    have HRUN := Lib.hid (prun_any wr HN6.out HEL.out HRI.out hin.out.mat hrows hmr)
    clear hrows hmr
    go_wp2_with fail
    refine HRUN.out.mono ?_
    rintro e w2 ⟨out, L, lk2, rfl, k1, k2, k3, how, haug, hapart, hdone⟩
    obtain ⟨A2, c2, eo⟩ := how.shape
    obtain ⟨nL, hnL⟩ : ∃ nL : Nat, L.length = nL := ⟨_, rfl⟩
    rw [hnL] at eo
    subst eo
    have HNL := Lib.hid hnL
    clear hnL
    have h6 := blk_later hin.out.eb k3
    have c60 : w2.cell? ⟨w4.heap.size, 0, none⟩ = some (.int .i64 rd) := (cell_blk h6 0).trans rfl
    have c61 : w2.cell? ⟨w4.heap.size, 1, none⟩ = some (.int .i64 lk) := (cell_blk h6 1).trans rfl
    have f60 := frozen_blk h6 0
    have f61 := frozen_blk h6 1
    have HRD : Hid (0 ≤ rd ∧ rd ≤ 4096) := by have := hin.out.few; have := HN6.out; unfold Hid; omega
    have srd : IntKind.i64.wrap (rd + 1) = rd + 1 := by rw [IntKind.wrap_i64]; have := HRD.out; omega
    obtain ⟨mx, hmx, hmb⟩ : ∃ mx : Int, (if lk < lk2 then lk2 else lk) = mx ∧ 0 ≤ mx ∧ mx ≤ 4 * es.length := by
      have h1 := hin.out.lk
      by_cases q : lk < lk2
      · exact ⟨lk2, if_pos q, k1, k2⟩
      · exact ⟨lk, if_neg q, h1.1, h1.2⟩
    have hmx2 : max lk lk2 = mx := by rw [← hmx]; split <;> omega
    have HMB := Lib.hid hmb
    have c61b : (w2.setCell ⟨w4.heap.size, 0, none⟩ (.int .i64 (rd + 1))).cell? ⟨w4.heap.size, 1, none⟩ = some (.int .i64 lk) := (World.cell?_setCell_other _ _ _ _ (by intro e; injection e with _ e; cases e)).trans c61
    have hw4 : w4.heap.size < w2.heap.size := blk_lt h6
    have hw4r : w4.heap.size < wr.heap.size := blk_lt hin.out.eb
    have hmvne : (Value.slice M N mc).ownBlock ≠ some w4.heap.size := fun e => by have := (HSEP.out _ e).1; have := HSZ4.out; omega
    have hlb4 := HLB4.out.cells.2.2.1
    have HPL3 : Hid (PL N es w A n c w4 (.slice M N mc) ms rd mx ((w2.setCell ⟨w4.heap.size, 0, none⟩ (.int .i64 (rd + 1))).setCell ⟨w4.heap.size, 1, none⟩ (.int .i64 mx)) → True) := fun _ => trivial
    have H3 : Hid (OwnI ((w2.setCell ⟨w4.heap.size, 0, none⟩ (.int .i64 (rd + 1))).setCell ⟨w4.heap.size, 1, none⟩ (.int .i64 mx)) (w.heap.size + 2) (.slice M N mc) ms ∧ LB w N A n c ((w2.setCell ⟨w4.heap.size, 0, none⟩ (.int .i64 (rd + 1))).setCell ⟨w4.heap.size, 1, none⟩ (.int .i64 mx)) ∧ ((w2.setCell ⟨w4.heap.size, 0, none⟩ (.int .i64 (rd + 1))).setCell ⟨w4.heap.size, 1, none⟩ (.int .i64 mx)).heap[w4.heap.size]? = some (.cells #[.int .i64 (rd + 1), .int .i64 mx] 50 (0, 0)) ∧ w4.grownBy ((w2.setCell ⟨w4.heap.size, 0, none⟩ (.int .i64 (rd + 1))).setCell ⟨w4.heap.size, 1, none⟩ (.int .i64 mx)) (Value.slice M N mc).ownBlock) := by
      refine ⟨own_setCell (own_setCell (own_later hin.out.own k3) hmvne) hmvne, Below.setCell (p := ⟨w4.heap.size, 1, none⟩) (Below.setCell (p := ⟨w4.heap.size, 0, none⟩) (hin.out.lb.later k3) hlb4 _) hlb4 _, Go.Proofs.YtbnipgajhpbolaaGreatDoorW.PrintWords.blk_put (cs := #[.int .i64 (rd + 1), .int .i64 lk]) (Go.Proofs.YtbnipgajhpbolaaGreatDoorW.PrintWords.blk_put (cs := #[.int .i64 rd, .int .i64 lk]) h6 0 _ rfl) 1 _ rfl, ?_⟩
      have g0 := hin.out.gr
      refine ⟨k3.os.trans g0.os, k3.tape.trans g0.tape, k3.output.trans g0.output, by have := k3.size; have := g0.size; simp [World.setCell]; omega, fun k hk hne => ?_⟩
      rw [Below.heap_setCell _ _ _ _ (by show k ≠ w4.heap.size; omega), Below.heap_setCell _ _ _ _ (by show k ≠ w4.heap.size; omega), k3.block k (by have := g0.size; omega)]
      exact g0.block k hk hne
    have HOW3 : Hid (OW wr.heap.size (fun _ => False) (.slice A2 nL c2) L ((w2.setCell ⟨w4.heap.size, 0, none⟩ (.int .i64 (rd + 1))).setCell ⟨w4.heap.size, 1, none⟩ (.int .i64 mx))) := by
      obtain ⟨vs', V1, V2, V3, V4⟩ := how.ex
      have hsame : ∀ k, wr.heap.size ≤ k → ((w2.setCell ⟨w4.heap.size, 0, none⟩ (.int .i64 (rd + 1))).setCell ⟨w4.heap.size, 1, none⟩ (.int .i64 mx)).heap[k]? = w2.heap[k]? := fun k hk => (Below.heap_setCell _ _ _ _ (by show k ≠ w4.heap.size; omega)).trans (Below.heap_setCell _ _ _ _ (by show k ≠ w4.heap.size; omega))
      refine ⟨vs', V1.same fun k e => hsame k (World.ownsRow.lt V1 k e).1, V2, V3, fun j hj hl => ?_⟩
      obtain ⟨GA', CA', n', e, o, g', q⟩ := V4 j hj hl
      exact ⟨GA', CA', n', e, o.same fun k e => hsame k (row_base o k e), g', q⟩
    have HFW := Lib.hid (And.intro hin.out.few hin.out.mat)
    have HAUG := Lib.hid (And.intro haug (And.intro hapart hdone))
    have HWR : Hid (w4.heap.size < wr.heap.size ∧ w.heap.size + 2 ≤ w4.heap.size) := ⟨hw4r, hlb4⟩
    clear h6 k1 k2 k3 how haug hapart hdone hw4 hw4r hmvne hlb4 HPL3 hin
    by_cases hL : L = []
    · subst hL
      obtain rfl : nL = 0 := by have := HNL.out; simpa using this.symm
      go_wp2_with fail
      clear c60 c61 c61b f60 f61 srd hmx hmx2 hmb
      generalize ((w2.setCell ⟨w4.heap.size, 0, none⟩ (.int .i64 (rd + 1))).setCell ⟨w4.heap.size, 1, none⟩ (.int .i64 mx)) = w6 at *
      have H5 := Lib.hid H3.out.2.1.cells.2.1
      have c60 : w6.cell? ⟨w4.heap.size, 0, none⟩ = some (.int .i64 (rd + 1)) := (cell_blk H3.out.2.2.1 0).trans rfl
      have c61 : w6.cell? ⟨w4.heap.size, 1, none⟩ = some (.int .i64 mx) := (cell_blk H3.out.2.2.1 1).trans rfl
      have c50 : w6.cell? ⟨w.heap.size + 1, 0, none⟩ = some (.int .i64 0) := (cell_blk H5.out 0).trans rfl
      have c51 : w6.cell? ⟨w.heap.size + 1, 1, none⟩ = some (.int .i64 0) := (cell_blk H5.out 1).trans rfl
      have c51b : (w6.setCell ⟨w.heap.size + 1, 0, none⟩ (.int .i64 (rd + 1))).cell? ⟨w.heap.size + 1, 1, none⟩ = some (.int .i64 0) := (World.cell?_setCell_other _ _ _ _ (by intro e; injection e with _ e; cases e)).trans c51
      have f50 := frozen_blk H5.out 0
      have f51 := frozen_blk H5.out 1
      have hz6 := HWR.out.2
      have H56 : Hid (((w6.setCell ⟨w.heap.size + 1, 0, none⟩ (.int .i64 (rd + 1))).setCell ⟨w.heap.size + 1, 1, none⟩ (.int .i64 mx)).heap[w.heap.size + 1]? = some (.cells #[.int .i64 (rd + 1), .int .i64 mx] 50 (0, 0)) ∧ ((w6.setCell ⟨w.heap.size + 1, 0, none⟩ (.int .i64 (rd + 1))).setCell ⟨w.heap.size + 1, 1, none⟩ (.int .i64 mx)).heap[w4.heap.size]? = some (.cells #[.int .i64 (rd + 1), .int .i64 mx] 50 (0, 0))) :=
        ⟨Go.Proofs.YtbnipgajhpbolaaGreatDoorW.PrintWords.blk_put (cs := #[.int .i64 (rd + 1), .int .i64 0]) (Go.Proofs.YtbnipgajhpbolaaGreatDoorW.PrintWords.blk_put (cs := #[.int .i64 0, .int .i64 0]) H5.out 0 _ rfl) 1 _ rfl, (Below.heap_setCell _ _ _ _ (by show w4.heap.size ≠ w.heap.size + 1; omega)).trans ((Below.heap_setCell _ _ _ _ (by show w4.heap.size ≠ w.heap.size + 1; omega)).trans H3.out.2.2.1)⟩
      have S0 : Hid (w6.drew.cell? ⟨w4.heap.size, 0, none⟩ = some (.int .i64 (rd + 1)) ∧ w6.drew.cell? ⟨w4.heap.size, 1, none⟩ = some (.int .i64 mx)) := ⟨c60, c61⟩
      have S2 : Hid (((w6.setCell ⟨w.heap.size + 1, 0, none⟩ (.int .i64 (rd + 1))).setCell ⟨w.heap.size + 1, 1, none⟩ (.int .i64 mx)).drew.cell? ⟨w4.heap.size, 0, none⟩ = some (.int .i64 (rd + 1)) ∧ ((w6.setCell ⟨w.heap.size + 1, 0, none⟩ (.int .i64 (rd + 1))).setCell ⟨w.heap.size + 1, 1, none⟩ (.int .i64 mx)).drew.cell? ⟨w4.heap.size, 1, none⟩ = some (.int .i64 mx)) := ⟨(cell_blk H56.out.2 0).trans rfl, (cell_blk H56.out.2 1).trans rfl⟩
      have HEND : Hid (((w6.setCell ⟨w.heap.size + 1, 0, none⟩ (.int .i64 (rd + 1))).setCell ⟨w.heap.size + 1, 1, none⟩ (.int .i64 mx)).drew.heap[w.heap.size + 1]? = some (.cells #[.int .i64 (rd + 1), .int .i64 mx] 50 (0, 0))) := H56.out.1
      have HREST : Hid (OwnI ((w6.setCell ⟨w.heap.size + 1, 0, none⟩ (.int .i64 (rd + 1))).setCell ⟨w.heap.size + 1, 1, none⟩ (.int .i64 mx)).drew w.heap.size (.slice M N mc) ms ∧ Below w.heap.size w ((w6.setCell ⟨w.heap.size + 1, 0, none⟩ (.int .i64 (rd + 1))).setCell ⟨w.heap.size + 1, 1, none⟩ (.int .i64 mx)).drew) := by
        have hne : (Value.slice M N mc).ownBlock ≠ some (w.heap.size + 1) := fun e => by have := row_base H3.out.1 _ e; omega
        refine ⟨own_later (row_weaken (own_setCell (own_setCell H3.out.1 hne) hne) (by omega)) (RW.refl _).drew, ?_⟩
        have hA : Below w.heap.size w ((w6.setCell ⟨w.heap.size + 1, 0, none⟩ (.int .i64 (rd + 1))).setCell ⟨w.heap.size + 1, 1, none⟩ (.int .i64 mx)) := Below.setCell (p := ⟨w.heap.size + 1, 1, none⟩) (Below.setCell (p := ⟨w.heap.size + 1, 0, none⟩) H3.out.2.1.cells.2.2.2 (Nat.le_succ _) _) (Nat.le_succ _) _
        exact bel_trans hA (RW.refl _).drew
      go_wp2_with fail
      go_region_held3 (fun w' => w'.cell? ⟨w4.heap.size, 0, none⟩ = some (.int .i64 (rd + 1)) ∧ w'.cell? ⟨w4.heap.size, 1, none⟩ = some (.int .i64 mx))
        (first | assumption | exact S0.out | exact S2.out | fail) (fail)
      clear S0 S2 c60 c61 c50 c51 c51b f50 f51 H56 H5 H3 HOW3
      generalize ((w6.setCell ⟨w.heap.size + 1, 0, none⟩ (.int .i64 (rd + 1))).setCell ⟨w.heap.size + 1, 1, none⟩ (.int .i64 mx)).drew = w7 at *
      go_wp2_with fail
      (try simp only [Exit.inBlock, Exit.then])
      refine bodyPost_ret (Go.Proofs.YtbnipgajhpbolaaGreatDoorW.PrintWords.results_list rfl (by simp) (.tmp (.cell (w.heap.size + 1) 50 #[.int .i64 (rd + 1), .int .i64 mx] (0, 0) _ rfl HEND.out Tryz.underlying50 rfl (by kernel_rfl) (.tmp .nil)))) rfl ?_
      obtain ⟨t, ht1, ht2⟩ := HAUG.out.2.2 (by simp)
      have hf := HFW.out.1
      exact ⟨_, rd + 1, mx, ms, t, rfl, HREST.out.1, HFW.out.2, HREST.out.2, by omega, by omega, HMB.out.1, HMB.out.2, ht1, ht2⟩
    · -- paths
      have hlpos : 0 < L.length := List.length_pos_iff.2 hL
      obtain ⟨r0, u0, hau0⟩ := HAUG.out.1 L[0] (List.getElem_mem _)
      have hNp : 0 < N := by obtain ⟨y, a, -⟩ := hau0.lt _ hau0.fr.1; omega
      obtain ⟨gm, cm, em, hgm, hgm2, -⟩ := own_slice H3.out.1 (by rw [HFW.out.2.1]; exact hNp)
      simp only [Value.slice.injEq] at em
      obtain ⟨rfl, -, rfl⟩ := em
      have HGM : Hid (gm < w3.heap.size ∧ w3.heap.size ≤ w4.heap.size ∧ w.heap.size + 2 ≤ gm) := ⟨(HSEP.out gm rfl).1, HSZ4.out, (HSEP.out gm rfl).2⟩
      obtain ⟨vs', V1, V2, V3, V4⟩ := HOW3.out.ex
      have HV := Lib.hid (And.intro V1 (And.intro V2 V4))
      have HTS : Hid (TS N es ms L 0 ms) := ⟨HFW.out.2, by simp, by simpa using HAUG.out.1, by simpa using HAUG.out.2.1⟩
      have HLP := Lib.hid (show 0 < nL by have := HNL.out; omega)
      have HLN : Hid (nL ≤ 9223372036854775807) := by
        have := HNL.out
        have := OwnV.cap V1
        unfold Hid; omega
      have hn0 : ((nL : Int) == 0) = false := by have := HNL.out; simp; omega
      have hcap : ∃ go, A2 = some ⟨go, 0, none⟩ ∧ (wr.heap.size ≤ go ∧ go < ((w2.setCell ⟨w4.heap.size, 0, none⟩ (.int .i64 (rd + 1))).setCell ⟨w4.heap.size, 1, none⟩ (.int .i64 mx)).heap.size) ∧ ∀ j (hj : j < vs'.length), ((w2.setCell ⟨w4.heap.size, 0, none⟩ (.int .i64 (rd + 1))).setCell ⟨w4.heap.size, 1, none⟩ (.int .i64 mx)).cell? ⟨go, j, none⟩ = some vs'[j] := by
        obtain ⟨go, cap, e, -⟩ := V1.at (j := 0) (by omega)
        simp only [Value.slice.injEq] at e
        refine ⟨go, e.1, World.ownsRow.lt V1 go (by rw [e.1]; rfl), fun j hj => ?_⟩
        obtain ⟨go', cap', e', hc⟩ := V1.at hj
        simp only [Value.slice.injEq] at e'
        have : go' = go := by
          have := e'.1.symm.trans e.1
          simpa using this
        subst this
        exact hc
      obtain ⟨go, rfl, hgo, hcells⟩ := hcap
      have HGO := Lib.hid (And.intro hgo hcells)
      clear hlpos hau0 hNp hgm hgm2 V1 V2 V3 V4 hgo hcells
      go_wp2_with fail
      clear c60 c61 c61b f60 f61 srd hmx hmx2 hmb hn0
      generalize ((w2.setCell ⟨w4.heap.size, 0, none⟩ (.int .i64 (rd + 1))).setCell ⟨w4.heap.size, 1, none⟩ (.int .i64 mx)) = w6 at *
      clear HRUN
      generalize wr.heap.size = bs at *
      go_loopw [44] (fun i wr => ∃ (j : Nat) (ms' : List Int), j ≤ nL ∧ i = .int .i64 j ∧ Hid (OwnI wr (w.heap.size + 2) (.slice (some ⟨gm, 0, none⟩) N mc) ms' ∧ TS N es ms L j ms' ∧ w6.grownBy wr (some gm))) (fun i _ => nL - (intOf i).toNat)
      case atStart => exact ⟨0, ms, Nat.zero_le _, rfl, H3.out.1, HTS.out, ⟨rfl, rfl, rfl, Nat.le_refl _, fun _ _ _ => rfl⟩⟩
      case round =>
        obtain ⟨j, ms', hj, rfl, hin⟩ := hrel
        by_cases hlt : j < nL
        · have HLT := Lib.hid hlt
          obtain ⟨ho1, hts1, hg1⟩ := hin.out
          have hjL : j < L.length := by have := HNL.out; omega
          have hjv : j < vs'.length := by have := HV.out.2.1; omega
          obtain ⟨GA, CA, n9, e9, o9, -, -⟩ := HV.out.2.2 j hjv hjL
          have hcj := HGO.out.2 j hjv
          rw [e9] at hcj o9
          have hlt6 : go < w6.heap.size := HGO.out.1.2
          have hcj1 : wr.cell? ⟨go, j, none⟩ = some (.slice (some ⟨GA, 0, none⟩) n9 CA) := by
            rw [← hcj]
            exact World.cell?_of_block (hg1.block go hlt6 (fun e => by have h1 : go = gm := Option.some.inj e; have := HGM.out; have := HGO.out.1.1; have := HWR.out.1; omega))
          have hGA : bs ≤ GA := row_base o9 GA rfl
          have hGAg : GA ≠ gm := fun e => by have := HGM.out; have := HWR.out.1; omega
          have o9i : OwnI wr bs (.slice (some ⟨GA, 0, none⟩) n9 CA) L[j] := own_grown o9 hg1 fun k hk e => by
            have h1 : GA = k := Option.some.inj hk
            have h2 : k = gm := Option.some.inj e
            omega
          obtain ⟨r, u, hau⟩ := hts1.aug L[j] (by rw [List.drop_eq_getElem_cons hjL]; exact List.mem_cons_self ..)
          have hln : L[j].length = n9 := (o9i.len rfl).symm
          have hlN : n9 ≤ N := by rw [← hln]; exact ints_le hau.nod hau.lt
          have HTU := Lib.hid (turn_any wr ho1 o9i hGAg hau.lt (by rw [← hln]; exact hau.prs.even) (by have := HN6.out; omega))
          have HTS1 := Lib.hid (hts1.step HRI.out hjL)
          generalize L[j] = l9 at *
          have HG1 := Lib.hid hg1
          have hji : (0 : Int) ≤ (j : Int) ∧ (j : Int) < (nL : Int) := by omega
          have hd : decide ((j : Int) < (nL : Int)) = true := by rw [decide_eq_true_eq]; omega
          have ew : IntKind.i64.wrap ((j : Int) + 1) = (j : Int) + 1 := by rw [IntKind.wrap_i64]; have := HLN.out; omega
          clear hin ho1 hts1 hg1 hjL hjv e9 o9 hcj hlt6 hGA hGAg o9i hau hln hlN hlt hj
          go_wp2_with fail
          refine HTU.out.mono ?_
          rintro e wj ⟨o10, g10, rfl⟩
          have HI : Hid (OwnI wj (w.heap.size + 2) (.slice (some ⟨gm, 0, none⟩) N mc) (turnM ms' l9) ∧ TS N es ms L (j + 1) (turnM ms' l9) ∧ w6.grownBy wj (some gm)) := ⟨o10, HTS1.out, HG1.out.trans g10⟩
          clear o10 g10 hcj1
          go_wp2_with fail
          go_roundw
          case rel => exact ⟨j + 1, _, by have := HLT.out; omega, by go_num, HI⟩
          case measure => have := HLT.out; simp only [intOf, Int.toNat_natCast]; omega
        · obtain rfl : j = nL := by omega
          have hd : decide ((j : Int) < (j : Int)) = false := by rw [decide_eq_false_iff_not]; omega
          obtain ⟨ho1, hts1, hg1⟩ := hin.out
          have hc := hts1.cnt
          have HI : Hid (PL N es w A n c w4 (.slice (some ⟨gm, 0, none⟩) N mc) ms' (rd + 1) mx wr) := by
            refine ⟨ho1, hts1.mat, H3.out.2.1.grown hg1 (fun k e => by have h1 : gm = k := Option.some.inj e; have := HGM.out; omega), (hg1.block _ (blk_lt H3.out.2.2.1) (fun e => by have h1 : w4.heap.size = gm := Option.some.inj e; have := HGM.out; omega)).trans H3.out.2.2.1, H3.out.2.2.2.trans hg1, ?_, HMB.out⟩
            have hf := HFW.out.1
            have := HLP.out
            omega
          have HMS : Hid ((sel (freeB ms') N).length < (sel (freeB ms) N).length) := by have := HLP.out; unfold Hid; omega
          clear hin ho1 hts1 hg1 hc hlt hj
          go_wp2_with fail
          go_roundg (sel (freeB ms') N).length
          case rel => exact ⟨ms', rd + 1, mx, HI, rfl⟩
          case measure => rw [hk.out]; exact HMS.out
end
end

end Go.Proofs.YtbnipgajhpbolaaGreatDoor
