/- The walks of single.Enlarge and single.Largest; The walk of single.Largest on right graphs -/
import Derived.Test.YtbnipgajhpbolaaGreatDoorTe25
import Derived.Test.YtbnipgajhpbolaaGreatDoorTe41
set_option linter.unusedVariables false
set_option linter.unusedSimpArgs false
namespace Go.Proofs.YtbnipgajhpbolaaGreatDoor

section
open Go.RowKit
theorem Rows.grownO {W W1 : World} {G base N : Nat} {vs : Nat → Value} {L : Nat → List Int} {row : Option Nat} (r : Rows W G base N vs L) (g : W.grownBy W1 row) (h1 : some G ≠ row) (h2 : ∀ k, row = some k → k < base) : Rows W1 G base N vs L :=
  ⟨r.row.grown g h1, fun i hi => own_grown (r.own i hi) g fun k hk e => by
    have := h2 k e.symm
    have := row_base (r.own i hi) k hk
    omega, r.apart, r.off⟩
theorem MR.of_own {W : World} {base N : Nat} {mv : Value} {ms : List Int} (h : OwnI W base mv ms) (hl : ms.length = N) : ∃ (M : Option Addr) (mc : Nat), mv = .slice M N mc ∧ MR W.heap.size N (.slice M N mc) (gi ms) W := by
  have hlt := row_lt h
  obtain ⟨A, c, e, -, -, hr⟩ := OwnI.read h
  rw [hl] at e hr
  refine ⟨A, c, e, A, c, rfl, fun hN => ?_⟩
  obtain ⟨b, o, rfl, hc⟩ := hr.2.2 hN
  exact ⟨b, o, rfl, hlt b (by rw [e]; rfl), hc⟩

section
variable {N : Nat} {es : List Ed}
/-- What Enlarge has come to: the matching in its row, the effort in its variable. -/
structure EnI (N : Nat) (es : List Ed) (w : World) (bm : Nat) (mv : Value) (fr0 : Nat) (ms : List Int) (rd lk : Int) (W : World) : Prop where
  own : OwnI W bm mv ms
  mat : MatchN N es ms
  e5 : W.heap[w.heap.size]? = some (.cells #[.int .i64 0, .int .i64 0] 50 (0, 0))
  e6 : W.heap[w.heap.size + 1]? = some (.cells #[.int .i64 rd, .int .i64 lk] 50 (0, 0))
  gr : w.grownBy W mv.ownBlock
  few : 0 ≤ rd ∧ 2 * rd + ((sel (freeB ms) N).length : Int) = fr0
  lk : 0 ≤ lk ∧ lk ≤ 2 * es.length
/-- What Enlarge leaves. -/
def EnlargeQ (N : Nat) (es : List Ed) (bm : Nat) (mv : Value) (fr0 : Nat) (w : World) (e : Ending) (w' : World) : Prop := ∃ (labels : Value) (rd lk : Int) (ms : List Int) (t : Fo) (l : List Int), e = .returned (.tuple #[labels, .agg #[.int .i64 rd, .int .i64 lk]]) ∧ OwnI w' bm mv ms ∧ MatchN N es ms ∧ w.grownBy w' mv.ownBlock ∧
  0 ≤ rd ∧ 2 * rd ≤ fr0 + 2 ∧ 0 ≤ lk ∧ lk ≤ 2 * es.length ∧ OwnI w' w.heap.size labels l ∧ FoI N (JV es) (gi ms) t ∧ t.Done N (JV es) ∧ l.length = N ∧ ∀ j, j < N → gi l j = if t.ou j = true then 1 else t.lab j

set_option maxHeartbeats 16000000 in
set_option maxRecDepth 100000 in
theorem enlarge_any {G b0 bm : Nat} {vs : Nat → Value} {mv : Value} {ms : List Int} (w : World) (hN : N ≤ 4096) (hE : es.length ≤ 65536) (hr : Rise N es) (hms : MatchN N es ms) (hnr : Rows w G b0 N vs fun v => nearV es v) (how : OwnI w bm mv ms) (hsep : ∀ k, mv.ownBlock = some k → k < G ∧ k < b0) :
    Calls Tryz.prog 33 #[.slice (some ⟨G, 0, none⟩) N N, mv] w (EnlargeQ N es bm mv (sel (freeB ms) N).length w) := by
  have HRI := Lib.hid hr
  have HNR := Lib.hid hnr
  have HSEP := Lib.hid hsep
  have hlt := row_lt how
  have hneq := fun (a : Option Addr) (n c : Nat) (W : World) => Go.Lib.run_eql_slice_nil (P := Tryz.prog) W 22 3 a n c 0 0 Tryz.underlying22
  have HI0 : Hid (EnI N es w bm mv (sel (freeB ms) N).length ms 0 0 ((w.alloc (.cells #[.int .i64 0, .int .i64 0] 50)).alloc (.cells #[.int .i64 0, .int .i64 0] 50))) := by
    have hz : (w.alloc (.cells #[.int .i64 0, .int .i64 0] 50)).heap.size = w.heap.size + 1 := by simp
    have b2 : Below w.heap.size w ((w.alloc (.cells #[.int .i64 0, .int .i64 0] 50)).alloc (.cells #[.int .i64 0, .int .i64 0] 50)) := bel_trans (bel_alloc _ _) (bel_alloc _ _)
    refine ⟨own_later how b2, hms, ?_, ?_, ⟨b2.os, b2.tape, b2.output, b2.size, fun k hk _ => b2.block k hk⟩, ⟨Int.le_refl _, by simp⟩, Int.le_refl _, by omega⟩
    · rw [heap_alloc_old _ _ (by rw [hz]; omega)]
      exact heap_alloc_new _ _
    · have := heap_alloc_new (w.alloc (.cells #[.int .i64 0, .int .i64 0] 50)) (.cells #[.int .i64 0, .int .i64 0] 50)
      rwa [hz] at this
  have hmv : ∃ M mc, mv = .slice M N mc := by
    obtain ⟨M, mc, e, -⟩ := MR.of_own how hms.1
    exact ⟨M, mc, e⟩
  obtain ⟨M, mc, rfl⟩ := hmv
  have HLT := Lib.hid hlt
  clear hr hms hnr how hsep hlt
  go_enter Tryz.func33, Tryz.ntmps33
  go_wp2_with fail
  have hfN := sel_length (freeB ms) N
  generalize hfr : (sel (freeB ms) N).length = fr0 at *
  generalize (w.alloc (.cells #[.int .i64 0, .int .i64 0] 50)).alloc (.cells #[.int .i64 0, .int .i64 0] 50) = w1 at *
  go_loopg [7] fr0 (fun k _ wr => ∃ (ms : List Int) (rd lk : Int), Hid (EnI N es w bm (.slice M N mc) fr0 ms rd lk wr) ∧ Hid (k = (sel (freeB ms) N).length))
  case atStart => exact ⟨ms, 0, 0, HI0, hfr.symm⟩
  case round =>
    obtain ⟨ms, rd, lk, hin, hk⟩ := hrel
    have HW : Hid (w.heap.size + 1 < wr.heap.size) := blk_lt hin.out.e6
    have hrows : Rows wr G b0 N vs fun v => nearV es v := HNR.out.grownO hin.out.gr (fun e : some G = _ => by have := (HSEP.out G e.symm).1; omega) (fun k hk => (HSEP.out k hk).2)
    obtain ⟨M', mc', e1, hmr⟩ := MR.of_own hin.out.own hin.out.mat.1
    simp only [Value.slice.injEq] at e1
    obtain ⟨rfl, -, hmc⟩ := e1
    subst hmc
    have hse := search_any wr hN hE HRI.out hin.out.mat hrows hmr
    have HSE := Lib.hid hse
    clear hrows hmr hse
    go_wp2_with fail
    refine HSE.out.mono ?_
    rintro e w2 ⟨path, labels, lk2, rfl, k1, k2, k3, hcase⟩
    have h5 := blk_later hin.out.e5 k3
    have h6 := blk_later hin.out.e6 k3
    have c60 : w2.cell? ⟨w.heap.size + 1, 0, none⟩ = some (.int .i64 rd) := (cell_blk h6 0).trans rfl
    have c61 : w2.cell? ⟨w.heap.size + 1, 1, none⟩ = some (.int .i64 lk) := (cell_blk h6 1).trans rfl
    have f60 := frozen_blk h6 0
    have f61 := frozen_blk h6 1
    have HLK : Hid (0 ≤ lk2 ∧ lk2 ≤ 2 * es.length) := ⟨k1, k2⟩
    have HRD : Hid (0 ≤ rd ∧ rd ≤ 4096) := by have := hin.out.few; unfold Hid; omega
    have srd : IntKind.i64.wrap (rd + 1) = rd + 1 := by rw [IntKind.wrap_i64]; have := HRD.out; omega
    obtain ⟨mx, hmx, hmb⟩ : ∃ mx : Int, (if lk < lk2 then lk2 else lk) = mx ∧ 0 ≤ mx ∧ mx ≤ 2 * es.length := by
      have h1 := hin.out.lk
      by_cases q : lk < lk2
      · exact ⟨lk2, if_pos q, k1, k2⟩
      · exact ⟨lk, if_neg q, h1.1, h1.2⟩
    have hmx2 : max lk lk2 = mx := by rw [← hmx]; split <;> omega
    have HMB := Lib.hid hmb
    have c61b : (w2.setCell ⟨w.heap.size + 1, 0, none⟩ (.int .i64 (rd + 1))).cell? ⟨w.heap.size + 1, 1, none⟩ = some (.int .i64 lk) := (World.cell?_setCell_other _ _ _ _ (by intro e; injection e with _ e; cases e)).trans c61
    have H6 : Hid (((w2.setCell ⟨w.heap.size + 1, 0, none⟩ (.int .i64 (rd + 1))).setCell ⟨w.heap.size + 1, 1, none⟩ (.int .i64 mx)).heap[w.heap.size + 1]? = some (.cells #[.int .i64 (rd + 1), .int .i64 mx] 50 (0, 0))) :=
      Go.Proofs.YtbnipgajhpbolaaGreatDoorW.PrintWords.blk_put (cs := #[.int .i64 (rd + 1), .int .i64 lk]) (Go.Proofs.YtbnipgajhpbolaaGreatDoorW.PrintWords.blk_put (cs := #[.int .i64 rd, .int .i64 lk]) h6 0 _ rfl) 1 _ rfl
    have H5 : Hid (((w2.setCell ⟨w.heap.size + 1, 0, none⟩ (.int .i64 (rd + 1))).setCell ⟨w.heap.size + 1, 1, none⟩ (.int .i64 mx)).heap[w.heap.size]? = some (.cells #[.int .i64 0, .int .i64 0] 50 (0, 0))) :=
      (Below.heap_setCell _ _ _ _ (by show w.heap.size ≠ w.heap.size + 1; omega)).trans ((Below.heap_setCell _ _ _ _ (by show w.heap.size ≠ w.heap.size + 1; omega)).trans h5)
    have HGR : Hid (w.grownBy ((w2.setCell ⟨w.heap.size + 1, 0, none⟩ (.int .i64 (rd + 1))).setCell ⟨w.heap.size + 1, 1, none⟩ (.int .i64 mx)) (Value.slice M N mc).ownBlock) := by
      have g0 := hin.out.gr
      refine ⟨k3.os.trans g0.os, k3.tape.trans g0.tape, k3.output.trans g0.output, by have := k3.size; have := g0.size; simp [World.setCell]; omega, fun k hk hne => ?_⟩
      rw [Below.heap_setCell _ _ _ _ (by show k ≠ w.heap.size + 1; omega), Below.heap_setCell _ _ _ _ (by show k ≠ w.heap.size + 1; omega), k3.block k (by have := g0.size; omega)]
      exact g0.block k hk hne
    have HOWN : Hid (OwnI ((w2.setCell ⟨w.heap.size + 1, 0, none⟩ (.int .i64 (rd + 1))).setCell ⟨w.heap.size + 1, 1, none⟩ (.int .i64 mx)) bm (.slice M N mc) ms) :=
      own_setCell (own_setCell (own_later hin.out.own k3) (fun e => by have := HLT.out _ e; omega)) (fun e => by have := HLT.out _ e; omega)
    rcases hcase with ⟨GA, CA, n, l, r, u, rfl, rfl, own2, hau⟩ | ⟨rfl, t, l, own2, hfo, hdn, hll, hlv⟩
    · -- a path
      have hn : l.length = n := (own2.len rfl).symm
      have hNp : 0 < N := by obtain ⟨y, a, -⟩ := hau.lt _ hau.fr.1; omega
      obtain ⟨gm, cm, em, hgm, hgm2, -⟩ := own_slice hin.out.own (by rw [hin.out.mat.1]; exact hNp)
      simp only [Value.slice.injEq] at em
      obtain ⟨rfl, -, rfl⟩ := em
      have hgmw : gm < w.heap.size := HLT.out gm rfl
      have hGA : wr.heap.size ≤ GA := row_base own2 GA rfl
      have hown3 : OwnI ((w2.setCell ⟨w.heap.size + 1, 0, none⟩ (.int .i64 (rd + 1))).setCell ⟨w.heap.size + 1, 1, none⟩ (.int .i64 mx)) wr.heap.size (.slice (some ⟨GA, 0, none⟩) n CA) l := own_setCell (own_setCell own2 (fun e => by have h1 : GA = w.heap.size + 1 := Option.some.inj e; have := HW.out; omega)) (fun e => by have h1 : GA = w.heap.size + 1 := Option.some.inj e; have := HW.out; omega)
      obtain ⟨m1, m2⟩ := hau.turn (jv_ok HRI.out hin.out.mat).lt (jv_ok HRI.out hin.out.mat).sym (es := es) (fun x y h => h) hin.out.mat
      have hln : n ≤ N := by rw [← hn]; exact ints_le hau.nod hau.lt
      have htu := turn_any _ HOWN.out hown3 (by omega) hau.lt (by rw [← hn]; exact hau.prs.even) (by omega)
      have HTU := Lib.hid htu
      have HM := Lib.hid (And.intro m1 (And.intro m2 hgmw))
      have HFEW := Lib.hid hin.out.few
      clear h5 h6 k1 k2 k3 hn hNp hgm hgm2 hgmw hGA hown3 own2 hau m1 m2 hln htu hin
      go_wp2_with fail
      refine HTU.out.mono ?_
      rintro e w4 ⟨o4, g4, rfl⟩
      have HI : Hid (EnI N es w bm (.slice (some ⟨gm, 0, none⟩) N mc) fr0 (turnM ms l) (rd + 1) mx w4) := by
        refine ⟨o4, HM.out.1, ?_, ?_, ?_, ?_, HMB.out⟩
        · exact (g4.block _ (blk_lt H5.out) (fun e => by have h1 : w.heap.size = gm := Option.some.inj e; have := HM.out.2.2; omega)).trans H5.out
        · exact (g4.block _ (blk_lt H6.out) (fun e => by have h1 : w.heap.size + 1 = gm := Option.some.inj e; have := HM.out.2.2; omega)).trans H6.out
        · exact HGR.out.trans g4
        · have h1 := HFEW.out
          have h2 := HM.out.2.1
          omega
      have HMS : Hid ((sel (freeB (turnM ms l)) N).length < (sel (freeB ms) N).length) := by have := HM.out.2.1; unfold Hid; omega
      clear o4 g4 c60 c61 c61b f60 f61 srd hmx hmx2 hmb
      go_wp2_with fail
      go_roundg (sel (freeB (turnM ms l)) N).length
      case rel => exact ⟨_, rd + 1, mx, HI, rfl⟩
      case measure => rw [hk.out]; exact HMS.out
    · have hlb : OwnI ((w2.setCell ⟨w.heap.size + 1, 0, none⟩ (.int .i64 (rd + 1))).setCell ⟨w.heap.size + 1, 1, none⟩ (.int .i64 mx)) wr.heap.size labels l := own_setCell (own_setCell own2 (fun e => by have := row_base own2 _ e; have := HW.out; omega)) (fun e => by have := row_base own2 _ e; have := HW.out; omega)
      have HLB := Lib.hid hlb
      have HPR := Lib.hid (And.intro hfo (And.intro hdn (And.intro hll hlv)))
      have HIN := Lib.hid (And.intro hin.out.mat hin.out.few)
      have HLTW := Lib.hid (blk_lt h5)
      clear h5 h6 k1 k2 k3 own2 hlb hfo hdn hll hlv hin
      go_wp2_with fail
      clear c60 c61 c61b f60 f61 srd hmx hmx2 hmb
      generalize ((w2.setCell ⟨w.heap.size + 1, 0, none⟩ (.int .i64 (rd + 1))).setCell ⟨w.heap.size + 1, 1, none⟩ (.int .i64 mx)) = w3 at *
      have c60 : w3.cell? ⟨w.heap.size + 1, 0, none⟩ = some (.int .i64 (rd + 1)) := (cell_blk H6.out 0).trans rfl
      have c61 : w3.cell? ⟨w.heap.size + 1, 1, none⟩ = some (.int .i64 mx) := (cell_blk H6.out 1).trans rfl
      have c50 : w3.cell? ⟨w.heap.size, 0, none⟩ = some (.int .i64 0) := (cell_blk H5.out 0).trans rfl
      have c51 : w3.cell? ⟨w.heap.size, 1, none⟩ = some (.int .i64 0) := (cell_blk H5.out 1).trans rfl
      have c51b : (w3.setCell ⟨w.heap.size, 0, none⟩ (.int .i64 (rd + 1))).cell? ⟨w.heap.size, 1, none⟩ = some (.int .i64 0) := (World.cell?_setCell_other _ _ _ _ (by intro e; injection e with _ e; cases e)).trans c51
      have f50 := frozen_blk H5.out 0
      have f51 := frozen_blk H5.out 1
      have H56 : Hid (((w3.setCell ⟨w.heap.size, 0, none⟩ (.int .i64 (rd + 1))).setCell ⟨w.heap.size, 1, none⟩ (.int .i64 mx)).heap[w.heap.size]? = some (.cells #[.int .i64 (rd + 1), .int .i64 mx] 50 (0, 0)) ∧ ((w3.setCell ⟨w.heap.size, 0, none⟩ (.int .i64 (rd + 1))).setCell ⟨w.heap.size, 1, none⟩ (.int .i64 mx)).heap[w.heap.size + 1]? = some (.cells #[.int .i64 (rd + 1), .int .i64 mx] 50 (0, 0))) :=
        ⟨Go.Proofs.YtbnipgajhpbolaaGreatDoorW.PrintWords.blk_put (cs := #[.int .i64 (rd + 1), .int .i64 0]) (Go.Proofs.YtbnipgajhpbolaaGreatDoorW.PrintWords.blk_put (cs := #[.int .i64 0, .int .i64 0]) H5.out 0 _ rfl) 1 _ rfl, (Below.heap_setCell _ _ _ _ (by show w.heap.size + 1 ≠ w.heap.size; omega)).trans ((Below.heap_setCell _ _ _ _ (by show w.heap.size + 1 ≠ w.heap.size; omega)).trans H6.out)⟩
      have S0 : Hid (w3.drew.cell? ⟨w.heap.size + 1, 0, none⟩ = some (.int .i64 (rd + 1)) ∧ w3.drew.cell? ⟨w.heap.size + 1, 1, none⟩ = some (.int .i64 mx)) := ⟨c60, c61⟩
      have S2 : Hid (((w3.setCell ⟨w.heap.size, 0, none⟩ (.int .i64 (rd + 1))).setCell ⟨w.heap.size, 1, none⟩ (.int .i64 mx)).drew.cell? ⟨w.heap.size + 1, 0, none⟩ = some (.int .i64 (rd + 1)) ∧ ((w3.setCell ⟨w.heap.size, 0, none⟩ (.int .i64 (rd + 1))).setCell ⟨w.heap.size, 1, none⟩ (.int .i64 mx)).drew.cell? ⟨w.heap.size + 1, 1, none⟩ = some (.int .i64 mx)) := ⟨(cell_blk H56.out.2 0).trans rfl, (cell_blk H56.out.2 1).trans rfl⟩
      have HEND : Hid (((w3.setCell ⟨w.heap.size, 0, none⟩ (.int .i64 (rd + 1))).setCell ⟨w.heap.size, 1, none⟩ (.int .i64 mx)).drew.heap[w.heap.size]? = some (.cells #[.int .i64 (rd + 1), .int .i64 mx] 50 (0, 0))) := H56.out.1
      have HREST : Hid (OwnI ((w3.setCell ⟨w.heap.size, 0, none⟩ (.int .i64 (rd + 1))).setCell ⟨w.heap.size, 1, none⟩ (.int .i64 mx)).drew bm (.slice M N mc) ms ∧ w.grownBy ((w3.setCell ⟨w.heap.size, 0, none⟩ (.int .i64 (rd + 1))).setCell ⟨w.heap.size, 1, none⟩ (.int .i64 mx)).drew (Value.slice M N mc).ownBlock ∧ OwnI ((w3.setCell ⟨w.heap.size, 0, none⟩ (.int .i64 (rd + 1))).setCell ⟨w.heap.size, 1, none⟩ (.int .i64 mx)).drew w.heap.size labels l) := by
        refine ⟨own_later (own_setCell (own_setCell HOWN.out (fun e => by have := HLT.out _ e; omega)) (fun e => by have := HLT.out _ e; omega)) (RW.refl _).drew, ?_, own_later (own_setCell (own_setCell (row_weaken HLB.out (by have := HW.out; omega)) (fun e => by have := row_base HLB.out _ e; have := HW.out; omega)) (fun e => by have := row_base HLB.out _ e; have := HW.out; omega)) (RW.refl _).drew⟩
        have g0 := HGR.out
        refine ⟨g0.os, g0.tape, g0.output, by have := g0.size; simpa [World.setCell] using this, fun k hk hne => ?_⟩
        show ((w3.setCell ⟨w.heap.size, 0, none⟩ (.int .i64 (rd + 1))).setCell ⟨w.heap.size, 1, none⟩ (.int .i64 mx)).heap[k]? = _
        rw [Below.heap_setCell _ _ _ _ (by show k ≠ w.heap.size; omega), Below.heap_setCell _ _ _ _ (by show k ≠ w.heap.size; omega)]
        exact g0.block k hk hne
      go_wp2_with fail
      go_region_held3 (fun w' => w'.cell? ⟨w.heap.size + 1, 0, none⟩ = some (.int .i64 (rd + 1)) ∧ w'.cell? ⟨w.heap.size + 1, 1, none⟩ = some (.int .i64 mx))
        (first | assumption | exact S0.out | exact S2.out | fail) (fail)
      clear S0 S2 c60 c61 c50 c51 c51b f50 f51 H56 H5 H6 HOWN HLB HGR
      generalize ((w3.setCell ⟨w.heap.size, 0, none⟩ (.int .i64 (rd + 1))).setCell ⟨w.heap.size, 1, none⟩ (.int .i64 mx)).drew = w5 at *
      go_wp2_with fail
      (try simp only [Exit.inBlock, Exit.then])
      refine bodyPost_ret (Go.Proofs.YtbnipgajhpbolaaGreatDoorW.PrintWords.results_tc rfl _ _ w.heap.size 50 #[.int .i64 (rd + 1), .int .i64 mx] (0, 0) _ rfl HEND.out Tryz.underlying50 rfl (by kernel_rfl)) rfl ?_
      have hf := HIN.out.2
      exact ⟨labels, rd + 1, mx, ms, t, l, rfl, HREST.out.1, HIN.out.1, HREST.out.2.1, by omega, by omega, HMB.out.1, HMB.out.2, HREST.out.2.2, HPR.out.1, HPR.out.2.1, HPR.out.2.2.1, HPR.out.2.2.2⟩
end
end

section
open Go.RowKit
section
variable {N : Nat} {es : List Ed}
/-- What a Largest leaves: a matching, the efforts, and why none is larger. -/
def LargestQ (N : Nat) (es : List Ed) (w : World) (e : Ending) (w' : World) : Prop := ∃ (v : Value) (rd lk : Int) (ms : List Int) (t : Fo), e = .returned (.tuple #[v, .agg #[.int .i64 rd, .int .i64 lk], .int .i64 0]) ∧
  OwnI w' w.heap.size v ms ∧ MatchN N es ms ∧ Below w.heap.size w w' ∧ 0 ≤ rd ∧ 2 * rd ≤ N + 2 ∧ 0 ≤ lk ∧ lk ≤ 2 * es.length ∧ FoI N (JV es) (gi ms) t ∧ t.Done N (JV es)

/-- Largest's own boxes: the graph, and the effort that it answers. -/
def LB (w : World) (N : Int) (A : Option Addr) (n c : Nat) (W : World) : Prop := Below (w.heap.size + 2) ((w.alloc (gcells N A n c)).alloc (.cells #[.int .i64 0, .int .i64 0] 50)) W
theorem LB.cells {w W : World} {N : Int} {A : Option Addr} {n c : Nat} (h : LB w N A n c W) : (W.cell? ⟨w.heap.size, 0, none⟩ = some (.int .i64 N) ∧ W.cell? ⟨w.heap.size, 1, none⟩ = some (.slice A n c)) ∧ W.heap[w.heap.size + 1]? = some (.cells #[.int .i64 0, .int .i64 0] 50 (0, 0)) ∧ w.heap.size + 2 ≤ W.heap.size ∧ Below w.heap.size w W := by
  have hz : (w.alloc (gcells N A n c)).heap.size = w.heap.size + 1 := by simp
  have hz2 : ((w.alloc (gcells N A n c)).alloc (.cells #[.int .i64 0, .int .i64 0] 50)).heap.size = w.heap.size + 2 := by simp
  have hb : Below w.heap.size w ((w.alloc (gcells N A n c)).alloc (.cells #[.int .i64 0, .int .i64 0] 50)) := bel_trans (bel_alloc _ _) (bel_alloc _ _)
  have h1 := later2 (bel_alloc (w.alloc (gcells N A n c)) (.cells #[.int .i64 0, .int .i64 0] 50)) (boxg w N A n c)
  unfold LB at h
  rw [← hz2] at h
  refine ⟨later2 h h1, ?_, by have := h.size; omega, bel_trans hb h⟩
  rw [h.block _ (by rw [hz2]; omega)]
  have := heap_alloc_new (w.alloc (gcells N A n c)) (.cells #[.int .i64 0, .int .i64 0] 50)
  rwa [hz] at this
theorem LB.later {w W W' : World} {N : Int} {A : Option Addr} {n c : Nat} (h : LB w N A n c W) (hb : Below W.heap.size W W') : LB w N A n c W' := below_after h (by have := h.cells.2.2.1; omega) hb

set_option maxHeartbeats 16000000 in
set_option maxRecDepth 100000 in
theorem slargest_any {A : Option Addr} {n c : Nat} (w : World) (h : ReadE w A n es) (hr : rightB N es = true) :
    Calls Tryz.prog 17 #[.agg #[.int .i64 N, .slice A n c]] w (LargestQ N es w) := by
  obtain ⟨r1, r2, r3, r4⟩ := rightB_iff.1 hr
  have hN6 : N ≤ 4096 := by omega
  have HN6 := Lib.hid hN6
  have HEL := Lib.hid r3
  have HRI := Lib.hid r4
  have HLB0 : Hid (LB w N A n c ((w.alloc (gcells N A n c)).alloc (.cells #[.int .i64 0, .int .i64 0] 50))) := Below.refl _ _
  have HE := Lib.hid h
  have HR := Lib.hid hr
  have HMT : Hid (MatchN N es (firstL N es)) := by
    unfold Hid firstL
    rw [hr, if_pos rfl, Int.toNat_natCast]
    exact firstTo_match r4 N (Nat.le_refl _)
  clear h hr r1 r2 r3 r4 hN6
  have hgr := gright_any (c := c) N _ (HE.out.below HLB0.out.cells.2.2.2)
  obtain ⟨⟨x0, x1⟩, -⟩ := HLB0.out.cells
  go_enter Tryz.func17, Tryz.ntmps17
  go_wp2_with fail
  generalize ((w.alloc (gcells N A n c)).alloc (.cells #[.int .i64 0, .int .i64 0] 50)) = w1 at *
  refine hgr.mono ?_
  rintro e w2 ⟨rfl, hb2⟩
  rw [HR.out]
  have HLB2 := Lib.hid (HLB0.out.later hb2)
  have hfi := first_any (c := c) N w2 (HE.out.below HLB2.out.cells.2.2.2)
  clear hb2 hgr x0 x1
  obtain ⟨⟨x0, x1⟩, -⟩ := HLB2.out.cells
  go_wp2_with fail
  refine hfi.mono ?_
  rintro e w3 ⟨v, rfl, own3, hb3⟩
  have HLB3 := Lib.hid (HLB2.out.later hb3)
  have OWN3 := Lib.hid own3
  have HLT3 := Lib.hid (row_lt own3)
  have HBS := Lib.hid HLB2.out.cells.2.2.1
  have hli := lists_any (c := c) N w3 (HE.out.below HLB3.out.cells.2.2.2) HN6.out (by have := HEL.out; have := HE.out.1; omega) (fun k hk => by
      have := HRI.out.1 _ (show ge es k ∈ es by rw [ge_get (by have := HE.out.1; omega)]; exact List.getElem_mem _)
      unfold edgeOk at this
      simp at this
      omega)
  clear hb3 hfi x0 x1 own3
  obtain ⟨⟨x0, x1⟩, -⟩ := HLB3.out.cells
  go_wp2_with fail
  refine hli.mono ?_
  rintro e w4 ⟨vs, rfl, hrows, hb4⟩
  have HLB4 := Lib.hid (HLB3.out.later hb4)
  have OWN4 := Lib.hid (own_later OWN3.out hb4)
  have hen := enlarge_any w4 HN6.out (HEL.out) HRI.out HMT.out (hrows.congr (L' := fun v => nearV es v) fun i hi => rfl) OWN4.out (fun k e => ⟨HLT3.out k e, by have := HLT3.out k e; omega⟩)
  have HSZ4 : Hid (w3.heap.size ≤ w4.heap.size) := hb4.size
  clear hb4 hli x0 x1 hrows
  go_wp2_with fail
  refine hen.mono ?_
  rintro e w5 ⟨labels, rd, lk, ms, t, l, rfl, k1, k2, k3, k4, k5, k6, k7, k8, k9, k10, -, -⟩
  have hfr := sel_length (freeB (firstL N es)) N
  have HPR : Hid (MatchN N es ms ∧ 0 ≤ rd ∧ 2 * rd ≤ N + 2 ∧ 0 ≤ lk ∧ lk ≤ 2 * es.length ∧ FoI N (JV es) (gi ms) t ∧ t.Done N (JV es)) := ⟨k2, k4, by omega, k6, k7, k9, k10⟩
  have hv : ∀ k, v.ownBlock = some k → w.heap.size + 2 ≤ k := fun k e => by have := row_base OWN3.out k e; have := HBS.out; omega
  have HLB5 : Hid (LB w N A n c w5) := by
    refine ⟨k3.os.trans HLB4.out.os, k3.tape.trans HLB4.out.tape, k3.output.trans HLB4.out.output, by have := k3.size; have := HLB4.out.size; omega, fun k hk => ?_⟩
    rw [k3.block k (by have := HLB4.out.cells.2.2.1; omega) (fun e => by have := hv k e.symm; omega)]
    exact HLB4.out.block k hk
  have HOW5 : Hid (OwnI w5 (w.heap.size + 2) v ms) := row_weaken k1 HBS.out
  clear k1 k2 k3 k4 k5 k6 k7 k8 k9 k10 hfr hen
  have hz6 : w.heap.size + 2 ≤ w5.heap.size := HLB5.out.cells.2.2.1
  have H6 : Hid ((w5.alloc (.cells #[.int .i64 rd, .int .i64 lk] 50)).heap[w5.heap.size]? = some (.cells #[.int .i64 rd, .int .i64 lk] 50 (0, 0))) := heap_alloc_new _ _
  have HB6 : Hid (Below w5.heap.size w5 (w5.alloc (.cells #[.int .i64 rd, .int .i64 lk] 50))) := bel_alloc _ _
  have HLB6 := Lib.hid (HLB5.out.later HB6.out)
  have HOW6 := Lib.hid (own_later HOW5.out HB6.out)
  go_wp2_with fail
  generalize (w5.alloc (.cells #[.int .i64 rd, .int .i64 lk] 50)) = w6 at *
  have H5 := Lib.hid HLB6.out.cells.2.1
  have c60 : w6.cell? ⟨w5.heap.size, 0, none⟩ = some (.int .i64 rd) := (cell_blk H6.out 0).trans rfl
  have c61 : w6.cell? ⟨w5.heap.size, 1, none⟩ = some (.int .i64 lk) := (cell_blk H6.out 1).trans rfl
  have c50 : w6.cell? ⟨w.heap.size + 1, 0, none⟩ = some (.int .i64 0) := (cell_blk H5.out 0).trans rfl
  have c51 : w6.cell? ⟨w.heap.size + 1, 1, none⟩ = some (.int .i64 0) := (cell_blk H5.out 1).trans rfl
  have c51b : (w6.setCell ⟨w.heap.size + 1, 0, none⟩ (.int .i64 rd)).cell? ⟨w.heap.size + 1, 1, none⟩ = some (.int .i64 0) := (World.cell?_setCell_other _ _ _ _ (by intro e; injection e with _ e; cases e)).trans c51
  have f50 := frozen_blk H5.out 0
  have f51 := frozen_blk H5.out 1
  have H56 : Hid (((w6.setCell ⟨w.heap.size + 1, 0, none⟩ (.int .i64 rd)).setCell ⟨w.heap.size + 1, 1, none⟩ (.int .i64 lk)).heap[w.heap.size + 1]? = some (.cells #[.int .i64 rd, .int .i64 lk] 50 (0, 0)) ∧ ((w6.setCell ⟨w.heap.size + 1, 0, none⟩ (.int .i64 rd)).setCell ⟨w.heap.size + 1, 1, none⟩ (.int .i64 lk)).heap[w5.heap.size]? = some (.cells #[.int .i64 rd, .int .i64 lk] 50 (0, 0))) :=
    ⟨Go.Proofs.YtbnipgajhpbolaaGreatDoorW.PrintWords.blk_put (cs := #[.int .i64 rd, .int .i64 0]) (Go.Proofs.YtbnipgajhpbolaaGreatDoorW.PrintWords.blk_put (cs := #[.int .i64 0, .int .i64 0]) H5.out 0 _ rfl) 1 _ rfl, (Below.heap_setCell _ _ _ _ (by show w5.heap.size ≠ w.heap.size + 1; omega)).trans ((Below.heap_setCell _ _ _ _ (by show w5.heap.size ≠ w.heap.size + 1; omega)).trans H6.out)⟩
  have S0 : Hid (w6.drew.cell? ⟨w5.heap.size, 0, none⟩ = some (.int .i64 rd) ∧ w6.drew.cell? ⟨w5.heap.size, 1, none⟩ = some (.int .i64 lk)) := ⟨c60, c61⟩
  have S2 : Hid (((w6.setCell ⟨w.heap.size + 1, 0, none⟩ (.int .i64 rd)).setCell ⟨w.heap.size + 1, 1, none⟩ (.int .i64 lk)).drew.cell? ⟨w5.heap.size, 0, none⟩ = some (.int .i64 rd) ∧ ((w6.setCell ⟨w.heap.size + 1, 0, none⟩ (.int .i64 rd)).setCell ⟨w.heap.size + 1, 1, none⟩ (.int .i64 lk)).drew.cell? ⟨w5.heap.size, 1, none⟩ = some (.int .i64 lk)) := ⟨(cell_blk H56.out.2 0).trans rfl, (cell_blk H56.out.2 1).trans rfl⟩
  have HEND : Hid (((w6.setCell ⟨w.heap.size + 1, 0, none⟩ (.int .i64 rd)).setCell ⟨w.heap.size + 1, 1, none⟩ (.int .i64 lk)).drew.heap[w.heap.size + 1]? = some (.cells #[.int .i64 rd, .int .i64 lk] 50 (0, 0))) := H56.out.1
  have HREST : Hid (OwnI ((w6.setCell ⟨w.heap.size + 1, 0, none⟩ (.int .i64 rd)).setCell ⟨w.heap.size + 1, 1, none⟩ (.int .i64 lk)).drew w.heap.size v ms ∧ Below w.heap.size w ((w6.setCell ⟨w.heap.size + 1, 0, none⟩ (.int .i64 rd)).setCell ⟨w.heap.size + 1, 1, none⟩ (.int .i64 lk)).drew) := by
    refine ⟨own_later (row_weaken (own_set2 HOW6.out (by omega)) (by omega)) (RW.refl _).drew, ?_⟩
    have hA : Below w.heap.size w ((w6.setCell ⟨w.heap.size + 1, 0, none⟩ (.int .i64 rd)).setCell ⟨w.heap.size + 1, 1, none⟩ (.int .i64 lk)) := Below.setCell (p := ⟨w.heap.size + 1, 1, none⟩) (Below.setCell (p := ⟨w.heap.size + 1, 0, none⟩) HLB6.out.cells.2.2.2 (Nat.le_succ _) _) (Nat.le_succ _) _
    exact bel_trans hA (RW.refl _).drew
  go_wp2_with fail
  go_region_held3 (fun w' => w'.cell? ⟨w5.heap.size, 0, none⟩ = some (.int .i64 rd) ∧ w'.cell? ⟨w5.heap.size, 1, none⟩ = some (.int .i64 lk))
    (first | assumption | exact S0.out | exact S2.out | fail) (fail)
  clear S0 S2 c60 c61 c50 c51 c51b f50 f51 H56 H5 H6 HOW5 HOW6 HLB5 HLB6
  generalize ((w6.setCell ⟨w.heap.size + 1, 0, none⟩ (.int .i64 rd)).setCell ⟨w.heap.size + 1, 1, none⟩ (.int .i64 lk)).drew = w7 at *
  go_wp2_with fail
  (try simp only [Exit.inBlock, Exit.then])
  refine bodyPost_ret (Go.Proofs.YtbnipgajhpbolaaGreatDoorW.PrintWords.results_list rfl (by simp) (.tmp (.cell (w.heap.size + 1) 50 #[.int .i64 rd, .int .i64 lk] (0, 0) _ rfl HEND.out Tryz.underlying50 rfl (by kernel_rfl) (.tmp .nil)))) rfl ?_
  exact ⟨v, rd, lk, ms, t, rfl, HREST.out.1, HPR.out.1, HREST.out.2, HPR.out.2⟩
end
end

end Go.Proofs.YtbnipgajhpbolaaGreatDoor
