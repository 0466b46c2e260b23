/- pieces: the walk of piece -/
import Derived.Test.YtbnipgajhpbolaaGreatDoorTe36
import Derived.Sort.OwnSortedInts
import Derived.RangeFuncOwn
set_option linter.unusedVariables false
set_option linter.unusedSimpArgs false
namespace Go.Proofs.YtbnipgajhpbolaaGreatDoor

section
open Go.RowKit
section
variable {base Wk D N G b0 : Nat} {nv nw rs : Value} {s : Pc} {vs : Nat → Value} {near : Nat → List Int} {wb : World}
theorem OwnI.cutQ {w : World} {base g n c p : Nat} {xs : List Int} (h : OwnI w base (.slice (some ⟨g, 0, none⟩) n c) xs) (hp : p ≤ n) : OwnI w base (.slice (some ⟨g, 0, none⟩) p c) (xs.take p) := by
  have hl := OwnI.len h rfl
  unfold OwnI at *
  rcases h.2 with ⟨e, -⟩ | ⟨g', cap, cur, e, hb, hg, hle, hm, hs, ht⟩
  · cases e
  · injection e with e1 e2 e3
    have hpl : (xs.take p).length = p := by rw [List.length_take]; omega
    rw [hpl]
    refine ⟨by simp [nums]; omega, .inr ⟨g', cap, cur, by rw [e1, e3], hb, hg, by omega, hm, hs, ?_⟩⟩
    rw [Nat.mul_one, show nums (xs.take p) = (nums xs).take p from by simp [nums, List.map_take], ← ht, List.take_take]
    congr 1
    omega
theorem cell_blk_lt {W : World} {g i : Nat} {v : Value} (h : W.cell? ⟨g, i, none⟩ = some v) : g < W.heap.size := by
  obtain ⟨o, ho, -⟩ := cells_of_cell h
  exact (Array.getElem?_eq_some_iff.1 ho).1
theorem wrap_small {m : Nat} (h : m ≤ 100000) : wrap64 (m : Int) = (m : Int) ∧ IntKind.i64.wrap ((m : Int) + 1 - 1) = (m : Int) ∧ IntKind.i64.wrap (m : Int) = (m : Int) := by
  refine ⟨?_, ?_, ?_⟩
  · unfold wrap64; omega
  · rw [IntKind.wrap_i64]; omega
  · rw [IntKind.wrap_i64]; omega
theorem wrap_one {j : Nat} (h : j ≤ 1000000) : IntKind.i64.wrap ((j : Int) + 1) = (j : Int) + 1 := by rw [IntKind.wrap_i64]; omega
theorem Pc.comes_now : ∀ (l : List Int) {s : Pc}, (s.comes l).now = [] → s.now = []
  | [], s, h => h
  | x :: l, s, h => by
    have h1 : (s.come x.toNat).now = [] := comes_now l h
    unfold Pc.come at h1
    split at h1
    · exact h1
    · simp at h1
def srt (l : List Int) : List Int := l.mergeSort fun x y => decide (x ≤ y)
/-- A row of numbers, sorted. -/
theorem sort_any {base g n c : Nat} {xs : List Int} (w : World) (h : OwnI w base (.slice (some ⟨g, 0, none⟩) n c) xs) (hn : n ≤ 1000000) :
    Calls Tryz.prog 272 #[.slice (some ⟨g, 0, none⟩) n c] w fun e w' => e = .returned (.tuple #[]) ∧ OwnI w' base (.slice (some ⟨g, 0, none⟩) n c) (srt xs) ∧ w.grownBy w' (some g) := by
  have hl := OwnI.len h rfl
  subst hl
  rcases h.2 with ⟨e, -⟩ | ⟨g', cap, cur, e, hb, hg, hle, hm, hs, ht⟩
  · cases e
  · simp only [Value.slice.injEq, Option.some.injEq, Addr.mk.injEq] at e
    obtain ⟨⟨rfl, -, -⟩, -, rfl⟩ := e
    have hH := holds_of_blockI (ss := xs) hg (by rw [Nat.mul_one] at ht; exact ht)
    refine (Tryz.slices_Sort_int g 0 c xs w hH (blk_lt hg) (by omega)).mono fun e w' q => ?_
    obtain ⟨e1, n, os, rfl⟩ := q
    refine ⟨e1, ?_, grownBy_sortedI _⟩
    unfold OwnI srt
    have hlen : (xs.mergeSort fun x y => decide (x ≤ y)).length = xs.length := List.length_mergeSort ..
    rw [hlen]
    exact ownsRow_sortedI hlen hb hg hle hm hs

/-- What piece answers: the piece, sorted; from s it goes to s1. -/
def PieceQ (base Wk D N : Nat) (nv rs : Value) (s1 : Pc) (w : World) (e : Ending) (w' : World) : Prop := ∃ nw' rs' g n c, e = .returned nw' ∧ nw' = .slice (some ⟨g, 0, none⟩) n c ∧ PcW base Wk D N nv ⟨s1.dn, srt s1.now, s1.rest⟩ nw' rs' w' ∧ s1.rest = [] ∧ PcOk N s1 ∧ w.heap.size ≤ g ∧ Mov (PcK Wk D (.slice none 0 0) rs) w (PcK Wk D nw' rs') w'

set_option maxHeartbeats 32000000 in
set_option maxRecDepth 100000 in
theorem piece_any {v : Nat} (hN : N ≤ 4096) (hnear : ∀ u, u < N → (near u).length ≤ 1000000 ∧ ∀ x ∈ near u, ∃ z : Nat, z < N ∧ x = z) (hnr : Rows wb G b0 N vs near) (w : World) (hbw : Below wb.heap.size wb w) (hbase : base = wb.heap.size) (h : PcW base Wk D N (.slice (some ⟨G, 0, none⟩) N N) s nw rs w) (hr : s.rest = []) (hv : v < N) (hd : s.dn v = false) :
    Calls Tryz.prog 261 #[.pointer (some ⟨Wk, 0, none⟩), .int .i64 v] w (PieceQ base Wk D N (.slice (some ⟨G, 0, none⟩) N N) rs (Pc.loop near (3 * N) ((⟨s.dn, [], []⟩ : Pc).come v)) w) := by
  subst hbase
  have HNR := Lib.hid hnr
  have HNE := Lib.hid hnear
  have hdne := h.dne
  -- the piece begins
  have h1 : PcW wb.heap.size Wk D N (.slice (some ⟨G, 0, none⟩) N N) (⟨s.dn, [], []⟩ : Pc) (.slice none 0 0) rs (w.setCell ⟨Wk, 2, none⟩ (.slice none 0 0)) := by
    refine ⟨h.low, Go.Proofs.YtbnipgajhpbolaaGreatDoorW.PrintWords.blk_put h.hdr 2 _ rfl, (h.row.grown (grown_set w Wk 2 _) (fun e => hdne.1 (Option.some.inj e).symm)), World.ownsRow_nil _ _ _ _, ?_, fun k e => (by cases e)⟩
    have := own_setCell (j := 2) (u := .slice none 0 0) h.ors hdne.2.2.2.1
    rw [hr] at this
    exact this
  have hm1 : Mov (PcK Wk D (.slice none 0 0) rs) w (PcK Wk D (.slice none 0 0) rs) (w.setCell ⟨Wk, 2, none⟩ (.slice none 0 0)) := Mov.set (.inl rfl)
  have hok1 : PcOk N (⟨s.dn, [], []⟩ : Pc) := ⟨fun x hx => (by cases hx), by have : s.und N ≤ N := sel_length _ _; show 2 * s.und N + 0 ≤ 2 * N; omega, by have : s.und N ≤ N := sel_length _ _; show 0 + s.und N ≤ N; omega⟩
  have c2 : w.cell? ⟨Wk, 2, none⟩ = some nw := (cell_blk h.hdr 2).trans rfl
  have f2 := frozen_blk h.hdr 2
  have hb1 : Below wb.heap.size wb (w.setCell ⟨Wk, 2, none⟩ (.slice none 0 0)) := Below.setCell (p := ⟨Wk, 2, none⟩) hbw h.low.1 _
  have hco := pcome_any (v := v) _ h1 hb1.size hv ⟨by simp, by simp⟩
  have HOK1 := Lib.hid (hok1.come hv)
  have HMU : Hid (((⟨s.dn, [], []⟩ : Pc).come v).mu N ≤ 3 * N) := by
    have h2 := Pc.come_mu (s := (⟨s.dn, [], []⟩ : Pc)) hv
    have h3 : (⟨s.dn, [], []⟩ : Pc).mu N = 2 * s.und N + 0 := rfl
    have h4 : s.und N ≤ N := sel_length _ _
    unfold Hid; omega
  have HNOW : Hid (((⟨s.dn, [], []⟩ : Pc).come v).now ≠ []) := by
    unfold Hid Pc.come
    rw [if_neg (by rw [hd]; decide)]
    simp
  have HM1 := Lib.hid hm1
  have HIN1 := Lib.hid h1.in
  have HBW := Lib.hid hbw
  clear hnr hnear hdne h hr hd hbw hm1 hok1 h1
  go_enter Tryz.func261, Tryz.ntmps261
  go_wp2_with fail
  refine hco.mono ?_
  rintro e w2 ⟨rfl, nw2, rs2, hw2, hm2, hf2⟩
  have HW2 := Lib.hid hw2
  have HB2 : Hid (Below wb.heap.size wb w2) := Below.trans hb1 (hm2.below (fun k hk => (HIN1.out k hk).1) hb1.size)
  have HM2 := Lib.hid (HM1.out.trans hm2)
  have HF2 : Hid (∀ k, nw2.ownBlock = some k → w.heap.size ≤ k) := fun k e => by
    rcases hf2 with q | ⟨k2, q, q2⟩
    · rw [q] at e; cases e
    · rw [q] at e
      have e2 := Option.some.inj e
      have : (w.setCell ⟨Wk, 2, none⟩ (.slice none 0 0)).heap.size = w.heap.size := by simp [World.setCell]
      omega
  generalize hS : Pc.loop near (3 * N) ((⟨s.dn, [], []⟩ : Pc).come v) = S1 at *
  have HS : Hid (Pc.loop near (3 * N) ((⟨s.dn, [], []⟩ : Pc).come v) = S1) := hS
  generalize ((⟨s.dn, [], []⟩ : Pc).come v) = s2 at *
  clear hw2 hm2 hb1 hco c2 f2 hS hf2
  go_wp2_with fail
  go_loopg [6] (3 * N) (fun k _ wr => ∃ (kk : Nat) (s : Pc) (nw rs' : Value), Hid (k = kk) ∧ Hid (PcW wb.heap.size Wk D N (.slice (some ⟨G, 0, none⟩) N N) s nw rs' wr) ∧ Hid (PcOk N s ∧ s.now ≠ [] ∧ s.mu N ≤ kk ∧ Pc.loop near kk s = S1) ∧ Hid (Below wb.heap.size wb wr ∧ Mov (PcK Wk D (.slice none 0 0) rs) w (PcK Wk D nw rs') wr ∧ ∀ k, nw.ownBlock = some k → w.heap.size ≤ k))
  case atStart => exact ⟨3 * N, s2, nw2, rs2, rfl, HW2, ⟨HOK1.out, HNOW.out, HMU.out, HS.out⟩, HB2.out, HM2.out, HF2.out⟩
  case round =>
    obtain ⟨kk, s, nw, rs', hkk, hw, hs, hb⟩ := hrel
    by_cases hr : s.rest = []
    · -- the piece is whole
      have hdn : Pc.loop near kk s = s := Pc.loop_done hr
      have HE : Hid (s = S1) := hdn.symm.trans hs.out.2.2.2
      obtain ⟨A5, c5, n5, rfl⟩ := OwnI.shape hw.out.ors
      have hl5 : c5 = 0 := by have := hw.out.ors.len rfl; rw [hr] at this; exact this
      subst hl5
      obtain ⟨g, c, rfl, hgb, hgl, hgc⟩ := own_slice hw.out.onw (List.length_pos_iff.2 hs.out.2.1)
      have c2 : wr.cell? ⟨Wk, 2, none⟩ = some (.slice (some ⟨g, 0, none⟩) s.now.length c) := (cell_blk hw.out.hdr 2).trans rfl
      have c3 : wr.cell? ⟨Wk, 3, none⟩ = some (.slice A5 0 n5) := (cell_blk hw.out.hdr 3).trans rfl
      have hso := sort_any wr hw.out.onw (by have := hs.out.1.n; omega)
      have HSO := Lib.hid hso
      have hdne := hw.out.dne
      have HDN := Lib.hid hdne
      have HR := Lib.hid hr
      clear hdn hgb hgl hgc hso hdne
      generalize hnl : s.now.length = nl at *
      clear hnl
      go_wp2_with fail
      refine HSO.out.mono ?_
      rintro e w3 ⟨rfl, o3, g3⟩
      have h3 := (g3.block Wk (blk_lt hw.out.hdr) (fun e => HDN.out.2.1 e.symm)).trans hw.out.hdr
      have d2 : w3.cell? ⟨Wk, 2, none⟩ = some (.slice (some ⟨g, 0, none⟩) nl c) := (cell_blk h3 2).trans rfl
      have HP : Hid (PcW wb.heap.size Wk D N (.slice (some ⟨G, 0, none⟩) N N) ⟨s.dn, srt s.now, s.rest⟩ (.slice (some ⟨g, 0, none⟩) nl c) (.slice A5 0 n5) w3 ∧ Mov (PcK Wk D (.slice none 0 0) rs) w (PcK Wk D (.slice (some ⟨g, 0, none⟩) nl c) (.slice A5 0 n5)) w3) := by
        refine ⟨⟨hw.out.low, h3, hw.out.row.grown g3 (fun e => HDN.out.2.2.1 e.symm), o3, own_grown hw.out.ors g3 fun k hk e => ?_, hw.out.ap⟩, hb.out.2.1.trans (Mov.grown g3 fun k e => .inr (.inr (.inl e)))⟩
        exact hw.out.ap k (by have e2 : k = g := Option.some.inj e; rw [e2]; rfl) hk
      clear o3 g3 h3 c2 c3 hr
      go_wp2_with fail
      go_ret
      refine ⟨.slice (some ⟨g, 0, none⟩) nl c, .slice A5 0 n5, g, nl, c, rfl, rfl, ?_, ?_, ?_, hb.out.2.2 g rfl, HP.out.2⟩
      · rw [← HE.out]; exact HP.out.1
      · rw [← HE.out]; exact HR.out
      · rw [← HE.out]; exact hs.out.1
    · obtain ⟨k', rfl, hk'⟩ := Pc.loop_step (near := near) hr hs.out.2.2.1
      have hrl : 0 < s.rest.length := List.length_pos_iff.2 hr
      obtain ⟨gr, cr, rfl, hgb, hgl, hgc⟩ := own_slice hw.out.ors hrl
      obtain ⟨m, hm⟩ : ∃ m, s.rest.length = m + 1 := ⟨s.rest.length - 1, by omega⟩
      obtain ⟨u, hu, hue⟩ := hs.out.1.rest (gi s.rest m) (by rw [gi_at (by omega)]; exact List.getElem_mem _)
      have hcu := hw.out.ors.cellAt (j := m) (by omega)
      rw [hue] at hcu
      have HRM := Lib.hid (And.intro hm (And.intro hu hue))
      have HK : Hid (Pc.loop near k' (s.step near) = S1) := hk'.symm.trans hs.out.2.2.2
      have hml : m ≤ 100000 := by have := hs.out.1.r; omega
      rw [hm] at hgc
      have c3 : wr.cell? ⟨Wk, 3, none⟩ = some (.slice (some ⟨gr, 0, none⟩) s.rest.length cr) := (cell_blk hw.out.hdr 3).trans rfl
      rw [hm] at c3
      have f3 := frozen_blk hw.out.hdr 3
      have hmi : (0 : Int) ≤ (m : Int) ∧ (m : Int) < (m : Int) + 1 := ⟨Int.natCast_nonneg m, Int.lt_succ _⟩
      obtain ⟨em, em2, em3⟩ := wrap_small hml
      have hmc : (m : Int) ≤ (cr : Int) := Int.ofNat_le.2 (Nat.le_of_succ_le hgc)
      clear hk' hrl hm hue hr hgb hgl
      go_wp2_with fail
      go_region
      go_wp2_with fail
      have g3 : wr.cell? ⟨Wk, 3, none⟩ = some (.slice (some ⟨gr, 0, none⟩) (m + 1) cr) := c3
      go_region_law (fail)
      all_goals
        obtain ⟨A1, c1, hck0, hrk⟩ := HNR.out.at hu
        have HRK := Lib.hid hrk
        have hdne := hw.out.dne
        have hGW : G ≠ Wk := fun e => by
          have h1 := cell_blk_lt hck0
          have := hw.out.low.1
          omega
        have c0 : wr.cell? ⟨Wk, 0, none⟩ = some (.slice (some ⟨G, 0, none⟩) N N) := (cell_blk hw.out.hdr 0).trans rfl
        have c0s : (wr.setCell ⟨Wk, 3, none⟩ (.slice (some ⟨gr, 0, none⟩) m cr)).cell? ⟨Wk, 0, none⟩ = some (.slice (some ⟨G, 0, none⟩) N N) := (World.cell?_setCell_other _ _ _ _ (by intro e; injection e with _ e; cases e)).trans c0
        have gq : (wr.setCell ⟨Wk, 3, none⟩ (.slice (some ⟨gr, 0, none⟩) m cr)).cell? ⟨G, u, none⟩ = some (.slice A1 (near u).length c1) := (World.cell?_setCell_other _ _ _ _ (by intro e; injection e with e _; exact hGW e.symm)).trans (cell_later hb.out.1 hck0)
        have HCUT : Hid (PcW wb.heap.size Wk D N (.slice (some ⟨G, 0, none⟩) N N) ({ s with rest := s.rest.dropLast } : Pc) nw (.slice (some ⟨gr, 0, none⟩) m cr) (wr.setCell ⟨Wk, 3, none⟩ (.slice (some ⟨gr, 0, none⟩) m cr)).drew.drew ∧ Below wb.heap.size wb (wr.setCell ⟨Wk, 3, none⟩ (.slice (some ⟨gr, 0, none⟩) m cr)).drew.drew ∧ Mov (PcK Wk D (.slice none 0 0) rs) w (PcK Wk D nw (.slice (some ⟨gr, 0, none⟩) m cr)) (wr.setCell ⟨Wk, 3, none⟩ (.slice (some ⟨gr, 0, none⟩) m cr)).drew.drew) := by
          have ho := own_setCell (j := 3) (u := .slice (some ⟨gr, 0, none⟩) m cr) hw.out.ors hdne.2.2.2.1
          have ho2 := OwnI.cutQ ho (p := m) (by rw [HRM.out.1]; omega)
          have e : s.rest.take m = s.rest.dropLast := by rw [List.dropLast_eq_take, HRM.out.1]; rfl
          rw [e] at ho2
          have hp : PcW wb.heap.size Wk D N (.slice (some ⟨G, 0, none⟩) N N) ({ s with rest := s.rest.dropLast } : Pc) nw (.slice (some ⟨gr, 0, none⟩) m cr) (wr.setCell ⟨Wk, 3, none⟩ (.slice (some ⟨gr, 0, none⟩) m cr)) := ⟨hw.out.low, Go.Proofs.YtbnipgajhpbolaaGreatDoorW.PrintWords.blk_put hw.out.hdr 3 _ rfl, hw.out.row.grown (grown_set wr Wk 3 _) (fun e => hdne.1 (Option.some.inj e).symm), own_setCell hw.out.onw hdne.2.1, ho2, hw.out.ap⟩
          have bd : Below (wr.setCell ⟨Wk, 3, none⟩ (.slice (some ⟨gr, 0, none⟩) m cr)).heap.size (wr.setCell ⟨Wk, 3, none⟩ (.slice (some ⟨gr, 0, none⟩) m cr)) (wr.setCell ⟨Wk, 3, none⟩ (.slice (some ⟨gr, 0, none⟩) m cr)).drew.drew := bel_trans (RW.refl _).drew (RW.refl _).drew
          have hb2 : Below wb.heap.size wb (wr.setCell ⟨Wk, 3, none⟩ (.slice (some ⟨gr, 0, none⟩) m cr)) := Below.setCell (p := ⟨Wk, 3, none⟩) hb.out.1 hw.out.low.1 _
          refine ⟨hp.later bd, bel_trans hb2 bd, ?_⟩
          have m1 := (hb.out.2.1.trans (Mov.set (i := 3) (x := .slice (some ⟨gr, 0, none⟩) m cr) (.inl rfl))).trans (Mov.of bd)
          exact m1.mono fun k hk => m1.new k hk
        have HNX : Hid (s.step near = ({ s with rest := s.rest.dropLast } : Pc).comes (near u)) := by
          unfold Hid Pc.step
          rw [HRM.out.1, show m + 1 - 1 = m from rfl, HRM.out.2.2, Int.toNat_natCast]
        have HOKC := Lib.hid hs.out.1.cut
        have HSN : Hid (({ s with rest := s.rest.dropLast } : Pc).now ≠ []) := hs.out.2.1
        have HMUC : Hid (({ s with rest := s.rest.dropLast } : Pc).mu N + 1 ≤ k' + 1) := by
          have h1 := hs.out.2.2.1
          have h2 : ({ s with rest := s.rest.dropLast } : Pc).mu N = 2 * s.und N + s.rest.dropLast.length := rfl
          have h3 : s.mu N = 2 * s.und N + s.rest.length := rfl
          rw [h2, List.length_dropLast]
          have h4 := HRM.out.1
          unfold Hid; omega
        have HNW := Lib.hid (And.intro hs.out.2.1 hb.out.2.2)
        have HDG : Hid ((near u).length ≤ 1000000 ∧ ∀ x ∈ near u, ∃ z : Nat, z < N ∧ x = z) := HNE.out u hu
        have HU := Lib.hid hu
        have hui : (0 : Int) ≤ (u : Int) ∧ (u : Int) < (N : Int) := ⟨Int.natCast_nonneg u, Int.ofNat_lt.2 hu⟩
        clear hck0 hrk hdne hGW c3 g3 f3 hcu em em2 em3 hmi hmc hml hgc hw hs hb
        generalize ({ s with rest := s.rest.dropLast } : Pc) = sc at *
        generalize hdg : (near u).length = dg at *
        have HDL := Lib.hid hdg
        clear hdg
        go_wp2_with fail
        clear c0 c0s gq
        generalize (wr.setCell ⟨Wk, 3, none⟩ (.slice (some ⟨gr, 0, none⟩) m cr)).drew.drew = w6 at *
        go_loopw [57] (fun i wr => ∃ (j : Nat) (nw' rs' : Value), j ≤ dg ∧ i = .int .i64 j ∧ Hid (PcW wb.heap.size Wk D N (.slice (some ⟨G, 0, none⟩) N N) (sc.comes ((near u).take j)) nw' rs' wr ∧ PcOk N (sc.comes ((near u).take j)) ∧ Below wb.heap.size wb wr ∧ Mov (PcK Wk D (.slice none 0 0) rs) w (PcK Wk D nw' rs') wr ∧ (∀ k, nw'.ownBlock = some k → w.heap.size ≤ k))) (fun i _ => dg - (intOf i).toNat)
        case atStart => exact ⟨0, nw, _, Nat.zero_le _, rfl, HCUT.out.1, HOKC.out, HCUT.out.2.1, HCUT.out.2.2, HNW.out.2⟩
        case round =>
          clear HCUT
          obtain ⟨j, nw', rs', hj, rfl, hin⟩ := hrel
          by_cases hlt : j < dg
          · have HLT := Lib.hid hlt
            have hjl : j < (near u).length := by have := HDL.out; omega
            obtain ⟨y, hy, hye⟩ := HDG.out.2 (gi (near u) j) (by rw [gi_at hjl]; exact List.getElem_mem _)
            obtain ⟨nb, no, rfl, hcn⟩ := (HRK.out.below hin.out.2.2.1).2.2 (by omega)
            have hcj := hcn j (by omega)
            rw [hye] at hcj
            have hok := hin.out.2.1
            have hco := pcome_any (v := y) wr hin.out.1 hin.out.2.2.1.size hy ⟨by have := hok.n; omega, by have := hok.r; omega⟩
            have HCO := Lib.hid hco
            have HNXT : Hid ((sc.comes ((near u).take j)).come y = sc.comes ((near u).take (j + 1)) ∧ PcOk N ((sc.comes ((near u).take j)).come y)) := by
              refine ⟨?_, hok.come hy⟩
              rw [Pc.comes_take hjl, hye, Int.toNat_natCast]
            have HIN := Lib.hid hin.out
            have HIK := Lib.hid hin.out.1.in
            have ew := (wrap_one (show j ≤ 1000000 by have := HDG.out.1; omega))
            have hji : (0 : Int) ≤ (j : Int) ∧ (j : Int) < (dg : Int) := ⟨Int.natCast_nonneg j, Int.ofNat_lt.2 hlt⟩
            clear hjl hy hye hcn hok hco hin hlt hj
            go_wp2_with fail
            refine HCO.out.mono ?_
            rintro e w7 ⟨rfl, nw7, rs7, hp7, hm7, hf7⟩
            have HI : Hid (PcW wb.heap.size Wk D N (.slice (some ⟨G, 0, none⟩) N N) (sc.comes ((near u).take (j + 1))) nw7 rs7 w7 ∧ PcOk N (sc.comes ((near u).take (j + 1))) ∧ Below wb.heap.size wb w7 ∧ Mov (PcK Wk D (.slice none 0 0) rs) w (PcK Wk D nw7 rs7) w7 ∧ (∀ k, nw7.ownBlock = some k → w.heap.size ≤ k)) := by
              rw [← HNXT.out.1]
              refine ⟨hp7, HNXT.out.2, Below.trans HIN.out.2.2.1 (hm7.below (fun k hk => (HIK.out k hk).1) HIN.out.2.2.1.size), HIN.out.2.2.2.1.trans hm7, fun k e => ?_⟩
              rcases hf7 with q | ⟨k2, q, q2⟩
              · exact HIN.out.2.2.2.2 k (q ▸ e)
              · rw [q] at e
                have e2 := Option.some.inj e
                have := HIN.out.2.2.2.1.size
                omega
            clear hp7 hm7 hf7 hcj
            go_wp2_with fail
            go_roundw
            case rel => exact ⟨j + 1, nw7, rs7, by have := HLT.out; omega, by go_num, HI⟩
            case measure => have := HLT.out; simp only [intOf, Int.toNat_natCast]; omega
          · have hge : dg ≤ j := by omega
            have hfull : (near u).take j = near u := List.take_of_length_le (by have := HDL.out; omega)
            have HIN := Lib.hid hin.out
            rw [hfull] at HIN
            rw [← HNX.out] at HIN
            have HRL : Hid ((s.step near).now ≠ [] ∧ (s.step near).mu N ≤ k') := by
              have h1 := Pc.comes_ok (near u) HDG.out.2 HOKC.out
              have h2 := Pc.comes_now (near u) (s := sc)
              refine ⟨fun e => ?_, ?_⟩
              · rw [HNX.out] at e
                exact HSN.out (h2 e)
              · rw [HNX.out]
                have := HMUC.out
                omega
            clear hfull hin hlt hj
            go_wp2_with fail
            go_roundg k'
            case rel => exact ⟨k', s.step near, nw', rs', rfl, HIN.out.1, ⟨HIN.out.2.1, HRL.out.1, HRL.out.2, HK.out⟩, HIN.out.2.2.1, HIN.out.2.2.2.1, HIN.out.2.2.2.2⟩
            case measure => rw [hkk.out]; exact Nat.lt_succ_self _
end
end

end Go.Proofs.YtbnipgajhpbolaaGreatDoor
