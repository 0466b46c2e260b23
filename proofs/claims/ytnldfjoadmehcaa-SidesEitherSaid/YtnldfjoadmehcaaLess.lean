/- The walk of sub.Less. -/
import Derived.Test.YtnldfjoadmehcaaIndex
set_option linter.unusedVariables false
set_option linter.unusedSimpArgs false
namespace Go.Proofs.Ytnldfjoadmehcaa
open Go.RowKit

/-- Edges, the lesser end first. -/
def turnL (l : List Ed) : List Ed := l.map fun e => turnE e.1 e.2
def lessOk (es l : List Ed) : Bool := (turnL l).all (fun e => decide (e ∈ es)) && decide ((turnL l).Nodup)
def lessE (es l : List Ed) : List Ed := es.filter fun e => decide (e ∉ turnL l)
/-- A graph without some edges: vertices, edges, why not. -/
def lessP (N : Int) (es l : List Ed) : Int × List Ed × Int := if rightB N es = false then (0, [], 3) else if lessOk es l then (N, lessE es l, 0) else (0, [], 7)
def LessQ (P : Int × List Ed × Int) (w : World) (e : Ending) (w' : World) : Prop :=
  ∃ v, e = .returned (.tuple #[.agg #[.int .i64 P.1, v], .int .i64 P.2.2]) ∧ OwnE w' (w.heap.size + 2) v P.2.1 ∧ Below w.heap.size w w'
theorem mem_at {es : List Ed} {x : Ed} (h : x ∈ es) : ∃ p : Nat, p < es.length ∧ ge es p = x ∧ atE es x = p := by
  have hl := List.idxOf_lt_length_of_mem h
  refine ⟨es.idxOf x, hl, by rw [ge_get hl]; exact List.getElem_idxOf hl, ?_⟩
  unfold atE
  rw [if_pos (by simpa using h)]
theorem rise_inj {es : List Ed} (hs : es.Pairwise fun a b => ahead a b = true) {i j : Nat} (hi : i < es.length) (hj : j < es.length) (h : ge es i = ge es j) : i = j := by
  rcases Nat.lt_trichotomy i j with q | q | q
  · have := rise_at hs q hj
    rw [h, ahead_irrefl] at this
    cases this
  · exact q
  · have := rise_at hs q hi
    rw [h, ahead_irrefl] at this
    cases this
theorem turnL_succ {l : List Ed} {k : Nat} (h : k < l.length) : turnL (l.take (k + 1)) = turnL (l.take k) ++ [turnE (ge l k).1 (ge l k).2] := by
  unfold turnL
  rw [take_succE h, List.map_append]
  rfl
theorem turnL_take (l : List Ed) (k : Nat) : turnL (l.take k) = (turnL l).take k := by
  unfold turnL
  rw [List.map_take]
/-- The first k are there, and no two alike. -/
def LessK (es l : List Ed) (k : Nat) : Prop := (∀ x ∈ turnL (l.take k), x ∈ es) ∧ (turnL (l.take k)).Nodup
theorem LessK.ok {es l : List Ed} {k : Nat} (h : LessK es l k) (hk : l.length ≤ k) : lessOk es l = true := by
  obtain ⟨h1, h2⟩ := h
  rw [List.take_of_length_le hk] at h1 h2
  unfold lessOk
  rw [Bool.and_eq_true, List.all_eq_true]
  exact ⟨fun x hx => decide_eq_true (h1 x hx), decide_eq_true h2⟩
theorem LessK.none {es l : List Ed} {k : Nat} (hk : k < l.length) (hn : turnE (ge l k).1 (ge l k).2 ∉ es) : lessOk es l = false := by
  have hm : turnE (ge l k).1 (ge l k).2 ∈ turnL l := by
    unfold turnL
    rw [ge_get hk]
    exact List.mem_map_of_mem (List.getElem_mem hk)
  cases hc : lessOk es l
  · rfl
  · unfold lessOk at hc
    rw [Bool.and_eq_true, List.all_eq_true] at hc
    exact absurd (of_decide_eq_true (hc.1 _ hm)) hn
theorem LessK.twice {es l : List Ed} {k : Nat} (hk : k < l.length) (hn : turnE (ge l k).1 (ge l k).2 ∈ turnL (l.take k)) : lessOk es l = false := by
  cases hc : lessOk es l
  · rfl
  · unfold lessOk at hc
    rw [Bool.and_eq_true] at hc
    have h2 := of_decide_eq_true hc.2
    have h3 : (turnL (l.take (k + 1))).Nodup := by rw [turnL_take]; exact h2.sublist (List.take_sublist _ _)
    rw [turnL_succ hk, List.nodup_append] at h3
    exact absurd rfl (h3.2.2 _ hn _ (List.mem_singleton.2 rfl))
theorem LessK.step {es l : List Ed} {k : Nat} (h : LessK es l k) (hk : k < l.length) (h1 : turnE (ge l k).1 (ge l k).2 ∈ es) (h2 : turnE (ge l k).1 (ge l k).2 ∉ turnL (l.take k)) : LessK es l (k + 1) := by
  unfold LessK
  rw [turnL_succ hk]
  refine ⟨fun x hx => ?_, ?_⟩
  · rcases List.mem_append.1 hx with hx | hx
    · exact h.1 x hx
    · rw [List.mem_singleton.1 hx]
      exact h1
  · rw [List.nodup_append]
    refine ⟨h.2, by simp, fun a ha b hb e => ?_⟩
    rw [List.mem_singleton.1 hb] at e
    exact h2 (e ▸ ha)
/-- Which edges are gone. -/
def goneF (es l : List Ed) (k j : Nat) : Value := .bool (decide (ge es j ∈ turnL (l.take k)))

set_option maxHeartbeats 4000000 in
set_option maxRecDepth 100000 in
theorem less_any {A B : Option Addr} {n c m d : Nat} {es l : List Ed} (N : Int) (w : World) (h : ReadE w A n es) (hl : ReadE w B m l) :
    Calls Try.prog 27 #[.agg #[.int .i64 N, .slice A n c], .slice B m d] w (LessQ (lessP N es l) w) := by
  have hn := h.2.1
  have hm := hl.2.1
  have H1 := Lib.hid h.1
  have L1 := Lib.hid hl.1
  have hz0 : GZ w N A n c ((w.alloc (gcells N A n c)).alloc (gcells 0 none 0 0)) := Below.refl _ _
  have HZ0 := Lib.hid hz0
  have hg := gright_any (c := c) N _ (h.below (below_box hz0.gb))
  clear hz0
  cases hr : rightB N es
  · have hP : Hid (lessP N es l = (0, [], 3)) := by unfold Hid lessP; rw [if_pos hr]
    rw [hr] at hg
    clear hr
    go_enter Try.func27, Try.ntmps27
    go_wp2_with fail
    refine hg.mono ?_
    rintro e w1 ⟨rfl, hb1⟩
    have z1 : GZ w N A n c w1 := GZ.later HZ0.out hb1
    obtain ⟨r0, r1, r2, r3⟩ := GZ.res z1
    have HEND : Hid (((w1.setCell ⟨w.heap.size + 1, 0, none⟩ (.int .i64 0)).setCell ⟨w.heap.size + 1, 1, none⟩ (.slice none 0 0)).heap[w.heap.size + 1]? = some (gcells 0 none 0 0)) := Go.Proofs.YtnldfjoadmehcaaW.PrintWords.blk_put (Go.Proofs.YtnldfjoadmehcaaW.PrintWords.blk_put (GZ.blk z1) 0 _ rfl) 1 _ rfl
    have HBEL : Hid (Below w.heap.size w ((w1.setCell ⟨w.heap.size + 1, 0, none⟩ (.int .i64 0)).setCell ⟨w.heap.size + 1, 1, none⟩ (.slice none 0 0))) := Below.setCell (Below.setCell (below_box z1.gb) (by simp) _) (by simp) _
    clear z1 hb1 hg
    go_wp2_with fail
    (try simp only [Exit.inBlock, Exit.then])
    refine bodyPost_ret (Go.Proofs.YtnldfjoadmehcaaW.PrintWords.results_ct rfl _ _ (w.heap.size + 1) 26 #[.int .i64 0, .slice none 0 0] (0, 0) _ rfl HEND.out Try.underlying26 rfl (by kernel_rfl)) rfl ?_
    rw [hP.out]
    exact ⟨_, rfl, OwnE.nil _ _, HBEL.out⟩
  rw [hr] at hg
  have HR := Lib.hid hr
  have HP1 : Hid (lessP N es l = if lessOk es l then (N, lessE es l, 0) else (0, [], 7)) := by unfold Hid lessP; rw [if_neg (by rw [hr]; decide)]
  have hrr := rightB_iff.1 hr
  have HRI := Lib.hid hrr.2.2.2.2
  have hn6 : n ≤ 65536 := by have := hrr.2.2.1; have := h.1; omega
  clear hr hrr
  go_enter Try.func27, Try.ntmps27
  go_wp2_with fail
  refine hg.mono ?_
  rintro e w1 ⟨rfl, hb1⟩
  have z1 : GZ w N A n c w1 := GZ.later HZ0.out hb1
  obtain ⟨g0, g1⟩ := gbox z1.gb
  have hmk := run_make_row' 73 4 (.bool false) 1 Try.underlying73 (by kernel_rfl) rfl .i64 .i64 n (by omega) (by omega) w1
  have HROW := Lib.hid (RowF.made w1 n 4 (.bool false))
  have Z1 := Lib.hid z1
  clear hb1 hg
  go_wp2_with fail
  clear hmk
  go_loopw [23] (fun i wr => ∃ k : Nat, k ≤ m ∧ i = .int .i64 k ∧ Hid (RowF wr w1.heap.size 4 n (goneF es l k)) ∧ Hid (Below w1.heap.size w1 wr) ∧ Hid (LessK es l k)) (fun i _ => m - (intOf i).toNat)
  case atStart => exact ⟨0, Nat.zero_le _, rfl, HROW.out.congr fun j _ => by simp [goneF, turnL], (Below.refl _ _).alloc (Nat.le_refl _) _, fun x hx => absurd hx (by simp [turnL]), by simp [turnL]⟩
  case round =>
    obtain ⟨k, hk, rfl, hrow, hbr, hlk⟩ := hrel
    have hzr : GZ w N A n c wr := Below.trans Z1.out (hbr.out.mono Z1.out.size)
    obtain ⟨x0, x1⟩ := gbox hzr.gb
    obtain ⟨r0, r1, r2, r3⟩ := GZ.res hzr
    have hzs := hzr.size
    have hlt0 : w.heap.size < wr.heap.size := by omega
    have hlt1 : w.heap.size + 1 < wr.heap.size := by omega
    have HZR := Lib.hid hzr
    clear hzr hzs
    by_cases hlt : k < m
    · obtain ⟨b, o, rfl, hc⟩ := (hl.below (below_box HZR.out.gb)).2.2 (by omega)
      obtain ⟨hc1, hc2⟩ := hc k hlt
      have HK : Hid (k < l.length) := by have := L1.out; unfold Hid; omega
      have HTS := Lib.hid (turnL_succ HK.out)
      have HN1 : Hid (turnE (ge l k).1 (ge l k).2 ∉ es → lessOk es l = false) := fun q => LessK.none HK.out q
      have HN2 : Hid (turnE (ge l k).1 (ge l k).2 ∈ turnL (l.take k) → lessOk es l = false) := fun q => LessK.twice HK.out q
      have HN3 : Hid (turnE (ge l k).1 (ge l k).2 ∈ es → turnE (ge l k).1 (ge l k).2 ∉ turnL (l.take k) → LessK es l (k + 1)) := fun q1 q2 => LessK.step hlk.out HK.out q1 q2
      have hix := fun W (hW : ReadE W A n es) => gindex_any (c := c) (N := N) (ge l k).1 (ge l k).2 W hW
      have HIB : Hid (indexB N es (ge l k).1 (ge l k).2 = atE es (turnE (ge l k).1 (ge l k).2)) := by unfold Hid indexB; rw [if_pos HR.out]
      clear hc
      rw [HIB.out] at hix
      generalize turnE (ge l k).1 (ge l k).2 = te at *
      generalize ge l k = ek at *
      obtain ⟨e1, e2⟩ := ek
      have hbA := bel_alloc wr (ecell2 e1 e2)
      have hEA := (h.below (below_box HZR.out.gb)).below hbA
      have HRA := Lib.hid (hrow.out.later hbA)
      have HBA := Lib.hid (below_after hbr.out (Below.size hbr.out) hbA)
      have HZA := Lib.hid (HZR.out.later hbA)
      have hixA := hix _ hEA
      clear hix hbA hEA hrow
      by_cases hmem : te ∈ es
      · obtain ⟨p, hp1, hp2, hp3⟩ := mem_at hmem
        have hpn : p < n := by have := H1.out; omega
        rw [hp3] at hixA
        have HP2 := Lib.hid hp2
        have HP3 := Lib.hid hp1
        have HMEM := Lib.hid hmem
        have hpi : (0 : Int) ≤ (p : Int) ∧ (p : Int) < (n : Int) := by omega
        have hpd : decide ((p : Int) < 0) = false := by rw [decide_eq_false_iff_not]; omega
        clear hp1 hp2 hp3 hmem
        go_wp2_with fail
        refine hixA.mono ?_
        rintro e w3 ⟨rfl, hb3⟩
        have hrow3 := HRA.out.later hb3
        have hcp := RowF.cell hrow3 hpn
        have hfp := RowF.froz hrow3 p
        have HB3 : Hid (Below w1.heap.size w1 w3) := below_after HBA.out (Below.size HBA.out) hb3
        have hz3 := HZA.out.later hb3
        obtain ⟨r0', r1', r2', r3'⟩ := GZ.res hz3
        have HZ3 := Lib.hid hz3
        unfold goneF at hcp
        rw [HP2.out] at hcp
        clear hz3 hixA r0 r1 r2 r3
        by_cases hin : te ∈ turnL (l.take k)
        · rw [decide_eq_true hin] at hcp
          have hP : Hid (lessP N es l = (0, [], 7)) := by unfold Hid; rw [HP1.out, if_neg (by rw [HN2.out hin]; decide)]
          have HEND : Hid (((w3.setCell ⟨w.heap.size + 1, 0, none⟩ (.int .i64 0)).setCell ⟨w.heap.size + 1, 1, none⟩ (.slice none 0 0)).heap[w.heap.size + 1]? = some (gcells 0 none 0 0)) := Go.Proofs.YtnldfjoadmehcaaW.PrintWords.blk_put (Go.Proofs.YtnldfjoadmehcaaW.PrintWords.blk_put (GZ.blk HZ3.out) 0 _ rfl) 1 _ rfl
          have HBEL : Hid (Below w.heap.size w ((w3.setCell ⟨w.heap.size + 1, 0, none⟩ (.int .i64 0)).setCell ⟨w.heap.size + 1, 1, none⟩ (.slice none 0 0))) := Below.setCell (Below.setCell (below_box HZ3.out.gb) (by simp) _) (by simp) _
          clear hin hrow3 hfp
          go_wp2_with fail
          (try simp only [Exit.inBlock, Exit.then])
          refine bodyPost_ret (Go.Proofs.YtnldfjoadmehcaaW.PrintWords.results_ct rfl _ _ (w.heap.size + 1) 26 #[.int .i64 0, .slice none 0 0] (0, 0) _ rfl HEND.out Try.underlying26 rfl (by kernel_rfl)) rfl ?_
          rw [hP.out]
          exact ⟨_, rfl, OwnE.nil _ _, HBEL.out⟩
        · rw [decide_eq_false hin] at hcp
          have HSET : Hid (RowF (w3.setCell ⟨w1.heap.size, p, none⟩ (.bool true)) w1.heap.size 4 n (goneF es l (k + 1))) := (hrow3.set p (.bool true)).congr fun j hj => by
            unfold goneF
            rw [HTS.out]
            by_cases e : j = p
            · subst e
              simp [HP2.out]
            · have hne : ge es j ≠ te := fun q => e (rise_inj HRI.out (by have := H1.out; omega) HP3.out (q.trans HP2.out.symm))
              simp only [if_neg e, List.mem_append, List.mem_singleton, hne, or_false]
          have HST := HN3.out HMEM.out hin
          have HBS : Hid (Below w1.heap.size w1 (w3.setCell ⟨w1.heap.size, p, none⟩ (.bool true))) := Below.setCell HB3.out (Nat.le_refl _) _
          have HLT := Lib.hid hlt
          have hST := Lib.hid HST
          clear hin hrow3 HST
          go_wp2_with fail
          go_roundw
          case rel => exact ⟨k + 1, by have := HLT.out; omega, by go_num, HSET, HBS, hST⟩
          case measure => have := HLT.out; simp [intOf]; omega
      · have hix0 : atE es te = -1 := atE_none fun j hj q => hmem (by rw [← q, ge_get hj]; exact List.getElem_mem hj)
        have hP : Hid (lessP N es l = (0, [], 7)) := by unfold Hid; rw [HP1.out, if_neg (by rw [HN1.out hmem]; decide)]
        rw [hix0] at hixA
        clear hix0 hmem
        go_wp2_with fail
        refine hixA.mono ?_
        rintro e w3 ⟨rfl, hb3⟩
        have hz3 := HZA.out.later hb3
        obtain ⟨r0', r1', r2', r3'⟩ := GZ.res hz3
        have HEND : Hid (((w3.setCell ⟨w.heap.size + 1, 0, none⟩ (.int .i64 0)).setCell ⟨w.heap.size + 1, 1, none⟩ (.slice none 0 0)).heap[w.heap.size + 1]? = some (gcells 0 none 0 0)) := Go.Proofs.YtnldfjoadmehcaaW.PrintWords.blk_put (Go.Proofs.YtnldfjoadmehcaaW.PrintWords.blk_put (GZ.blk hz3) 0 _ rfl) 1 _ rfl
        have HBEL : Hid (Below w.heap.size w ((w3.setCell ⟨w.heap.size + 1, 0, none⟩ (.int .i64 0)).setCell ⟨w.heap.size + 1, 1, none⟩ (.slice none 0 0))) := Below.setCell (Below.setCell (below_box hz3.gb) (by simp) _) (by simp) _
        clear hz3 hixA r0 r1 r2 r3
        go_wp2_with fail
        (try simp only [Exit.inBlock, Exit.then])
        refine bodyPost_ret (Go.Proofs.YtnldfjoadmehcaaW.PrintWords.results_ct rfl _ _ (w.heap.size + 1) 26 #[.int .i64 0, .slice none 0 0] (0, 0) _ rfl HEND.out Try.underlying26 rfl (by kernel_rfl)) rfl ?_
        rw [hP.out]
        exact ⟨_, rfl, OwnE.nil _ _, HBEL.out⟩
    · obtain rfl : k = m := by omega
      have hP : Hid (lessP N es l = (N, lessE es l, 0)) := by unfold Hid; rw [HP1.out, if_pos (hlk.out.ok (by have := L1.out; omega))]
      have HL : Hid (l.take k = l) := List.take_of_length_le (by have := L1.out; omega)
      obtain ⟨w2, rfl⟩ : ∃ w2 : World, w2 = wr := ⟨_, rfl⟩
      have HROW2 : Hid (RowF w2 w1.heap.size 4 n (fun j => .bool (decide (ge es j ∈ turnL l)))) := hrow.out.congr fun j hj => by unfold goneF; rw [HL.out]
      have HRE := Lib.hid (h.below (below_box HZR.out.gb))
      have HK0 : Hid (KR w2 N (.slice none 0 0) (lessE (es.take 0) l) (w2.alloc (gcells N none 0 0))) := ⟨(Below.refl _ _).alloc (Nat.le_refl _) _, by simp, heap_alloc_new _ _, OwnE.nil _ _⟩
      have HZW : Hid (w.heap.size + 2 ≤ w2.heap.size) := HZR.out.size
      clear hlt hk hrow hlk HL r0 r1 r2 r3 hbr
      go_wp2_with fail
      go_loopw [52] (fun i wr => ∃ (k2 : Nat) (v : Value), k2 ≤ n ∧ i = .int .i64 k2 ∧ Hid (KR w2 N v (lessE (es.take k2) l) wr)) (fun i _ => n - (intOf i).toNat)
      case atStart => exact ⟨0, _, Nat.zero_le _, rfl, HK0⟩
      case round =>
        obtain ⟨k2, v, hk2, rfl, hkr⟩ := hrel
        obtain ⟨A2, n2, c2, rfl⟩ := OwnE.shape hkr.out.2.2.2
        by_cases hlt : k2 < n
        · obtain ⟨b, o, rfl, hc⟩ := (HRE.out.below hkr.out.1).2.2 (by omega)
          obtain ⟨hc1, hc2⟩ := hc k2 hlt
          have hbA := bel_alloc wr (ecell2 (ge es k2).1 (ge es k2).2)
          have hgr := HROW2.out.later hkr.out.1
          have hgo := RowF.cell (hgr.later hbA) hlt
          have hcA : Hid ((wr.alloc (ecell2 (ge es k2).1 (ge es k2).2)).cell? ⟨wr.heap.size, 0, none⟩ = some (.int .i64 (ge es k2).1) ∧ (wr.alloc (ecell2 (ge es k2).1 (ge es k2).2)).cell? ⟨wr.heap.size, 1, none⟩ = some (.int .i64 (ge es k2).2)) := ⟨(cell_blk (heap_alloc_new _ _) 0).trans rfl, (cell_blk (heap_alloc_new _ _) 1).trans rfl⟩
          have hts := take_succE (xs := es) (k := k2) (by have := H1.out; omega)
          have HE1 : Hid (lessE (es.take (k2 + 1)) l = if ge es k2 ∈ turnL l then lessE (es.take k2) l else lessE (es.take k2) l ++ [ge es k2]) := by
            unfold Hid lessE
            rw [hts, List.filter_append]
            by_cases q : ge es k2 ∈ turnL l <;> simp [q]
          have HKL : Hid ((lessE (es.take k2) l).length ≤ 65536) := by
            unfold Hid lessE
            have h1 := List.length_filter_le (fun e => decide (e ∉ turnL l)) (es.take k2)
            rw [List.length_take] at h1
            omega
          have HKA := Lib.hid (hkr.out.later hbA)
          obtain ⟨y0, y1, y2, y3⟩ := HKA.out.cells
          have hki : (0 : Int) ≤ (k2 : Int) ∧ (k2 : Int) < (n : Int) := by omega
          have hsz := hkr.out.2.1
          generalize ge es k2 = ek at *
          obtain ⟨z1, z2⟩ := ek
          have HLT := Lib.hid hlt
          clear hc hts hgr hbA
          by_cases hin : (z1, z2) ∈ turnL l
          · have HE2 := Lib.hid (HE1.out.trans (if_pos hin))
            rw [decide_eq_true hin] at hgo
            clear hin HE1
            go_wp2_with fail
            go_roundw
            case rel => exact ⟨k2 + 1, _, by have := HLT.out; omega, by go_num, by rw [HE2.out]; exact HKA⟩
            case measure => have := HLT.out; simp [intOf]; omega
          · have HE2 := Lib.hid (HE1.out.trans (if_neg hin))
            rw [decide_eq_false hin] at hgo
            clear hin HE1
            generalize lessE (es.take k2) l = es2 at *
            have HSE : Hid (wr.heap.size + 1 = (wr.alloc (ecell2 z1 z2)).heap.size) := by unfold Hid; simp
            go_wp2_with (at_builtin; refine app_edge (W := wr.alloc (ecell2 z1 z2)) (w2.heap.size + 1) (wr.heap.size + 1) HSE.out rfl _ _ rfl (.slice A2 n2 c2) es2 z1 z2 rfl rfl HKA.out.2.2.2 HKA.out.2.1 (by have := HKL.out; omega) ?_; intro v1 w5 own5 hB5 hg5; obtain ⟨A5, n5, c5, rfl⟩ := OwnE.shape own5; obtain ⟨s1, s2, s3⟩ := KR.store HKA.out hg5 own5; have S1 := Lib.hid s1; clear s1 hg5 own5 hB5)
            go_roundw
            case rel => exact ⟨k2 + 1, _, by have := HLT.out; omega, by go_num, by rw [HE2.out]; exact S1⟩
            case measure => have := HLT.out; simp [intOf]; omega
        · obtain rfl : k2 = n := by omega
          have HE : Hid (es.take k2 = es) := List.take_of_length_le (by have := H1.out; omega)
          rw [HE.out] at hkr
          have hgz2 : GZ w N A k2 c wr := HZR.out.later hkr.out.1
          obtain ⟨r0, r1, r2, r3⟩ := GZ.res hgz2
          obtain ⟨y0, y1, y2, y3⟩ := hkr.out.cells
          have HOE : Hid (OwnE ((wr.setCell ⟨w.heap.size + 1, 0, none⟩ (.int .i64 N)).setCell ⟨w.heap.size + 1, 1, none⟩ (.slice A2 n2 c2)) (w.heap.size + 2) (.slice A2 n2 c2) (lessE es l)) := own_set2 (row_weaken hkr.out.2.2.2 (by have := HZW.out; omega)) (by omega)
          have HEND : Hid (((wr.setCell ⟨w.heap.size + 1, 0, none⟩ (.int .i64 N)).setCell ⟨w.heap.size + 1, 1, none⟩ (.slice A2 n2 c2)).heap[w.heap.size + 1]? = some (.cells #[.int .i64 N, .slice A2 n2 c2] 26 (0, 0))) := Go.Proofs.YtnldfjoadmehcaaW.PrintWords.blk_put (cs := #[.int .i64 N, .slice none 0 0]) (Go.Proofs.YtnldfjoadmehcaaW.PrintWords.blk_put (cs := #[.int .i64 0, .slice none 0 0]) hgz2.blk 0 _ rfl) 1 _ rfl
          have HBEL : Hid (Below w.heap.size w ((wr.setCell ⟨w.heap.size + 1, 0, none⟩ (.int .i64 N)).setCell ⟨w.heap.size + 1, 1, none⟩ (.slice A2 n2 c2))) := Below.setCell (Below.setCell (below_box hgz2.gb) (by simp) _) (by simp) _
          clear hgz2 hkr HE
          go_wp2_with fail
          (try simp only [Exit.inBlock, Exit.then])
          refine bodyPost_ret (Go.Proofs.YtnldfjoadmehcaaW.PrintWords.results_ct rfl _ _ (w.heap.size + 1) 26 #[.int .i64 N, .slice A2 n2 c2] (0, 0) _ rfl HEND.out Try.underlying26 rfl (by kernel_rfl)) rfl ?_
          rw [hP.out]
          exact ⟨.slice A2 n2 c2, rfl, HOE.out, HBEL.out⟩

end Go.Proofs.Ytnldfjoadmehcaa
