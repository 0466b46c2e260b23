/- session: kinds, turn; graph.Make without edges; vertices; graph.Make without edges; session's vertices; The walk of graph.Add, where the edge comes last; The walk of session.add, where the edge comes last -/
import Derived.Test.YtbnipgajhpbolaaGreatDoorTe34
import Derived.Test.YtbnipgajhpbolaaGreatDoorTe28
import Derived.Test.YtbnipgajhpbolaaGreatDoorTe08
import Derived.Test.YtbnipgajhpbolaaGreatDoorTe05
import Derived.Test.YtbnipgajhpbolaaGreatDoorTe07
import Derived.Deep.RegionLaw
set_option linter.unusedVariables false
set_option linter.unusedSimpArgs false
namespace Go.Proofs.YtbnipgajhpbolaaGreatDoor

section
open Go.RowKit
def kindsC (S : Nat) : Array Value := #[.nilFunc, .func (.func 93) #[.pointer (some ⟨S, 0, none⟩)] #[], .func (.func 94) #[.pointer (some ⟨S, 0, none⟩)] #[], .func (.func 95) #[.pointer (some ⟨S, 0, none⟩)] #[], .func (.func 96) #[.pointer (some ⟨S, 0, none⟩)] #[], .func (.func 97) #[.pointer (some ⟨S, 0, none⟩)] #[], .func (.func 98) #[.pointer (some ⟨S, 0, none⟩)] #[], .func (.func 99) #[.pointer (some ⟨S, 0, none⟩)] #[], .func (.func 100) #[.pointer (some ⟨S, 0, none⟩)] #[], .func (.func 101) #[.pointer (some ⟨S, 0, none⟩)] #[], .func (.func 102) #[.pointer (some ⟨S, 0, none⟩)] #[], .func (.func 103) #[.pointer (some ⟨S, 0, none⟩)] #[], .func (.func 104) #[.pointer (some ⟨S, 0, none⟩)] #[], .func (.func 105) #[.pointer (some ⟨S, 0, none⟩)] #[], .func (.func 106) #[.pointer (some ⟨S, 0, none⟩)] #[]]
def kF (k : Nat) : Nat := 93 + (k - 1)
theorem kinds_ix (S k : Nat) (hk : 1 ≤ k ∧ k < 15) (W : World) : (Instr.index 150 (.agg (kindsC S)) (.int .i64 k)).run Tryz.prog W = .ok (.func (.func (kF k)) #[.pointer (some ⟨S, 0, none⟩)] #[]) W := by
  rcases (show k = 1 ∨ k = 2 ∨ k = 3 ∨ k = 4 ∨ k = 5 ∨ k = 6 ∨ k = 7 ∨ k = 8 ∨ k = 9 ∨ k = 10 ∨ k = 11 ∨ k = 12 ∨ k = 13 ∨ k = 14 by omega) with rfl | rfl | rfl | rfl | rfl | rfl | rfl | rfl | rfl | rfl | rfl | rfl | rfl | rfl <;> kernel_rfl

set_option maxHeartbeats 4000000 in
set_option maxRecDepth 100000 in
theorem kinds_any (w : World) (S : Nat) :
    Calls Tryz.prog 75 #[.pointer (some ⟨S, 0, none⟩)] w fun e w' => e = .returned (.agg (kindsC S)) ∧ Below w.heap.size w w' := by
  have hb := bel_alloc w (.cells (kindsC S) 150)
  have hn := heap_alloc_new w (.cells (kindsC S) 150)
  have hi : (Tryz.prog.info? 150).map (·.size) = some (kindsC S).size := (show (Tryz.prog.info? 150).map (·.size) = some 15 by kernel_rfl)
  have h1 : (kindsC S).all (·.oneCell') = true := by kernel_rfl
  have HN := Lib.hid (And.intro hb hn)
  have HI := Lib.hid (And.intro hi h1)
  clear hb hn hi h1
  go_enter Tryz.func75, Tryz.ntmps75
  go_wp2_with (first | (refine wpList_buildTo rfl 150 _ rfl (some 31) rfl (kindsC S) (by kernel_rfl) ?_) | (refine wpList_store_new rfl 150 (.tmp 2) (.tmp 31) rfl w _ (kindsC S) rfl rfl rfl HI.out.1 (by kernel_rfl) HI.out.2 ?_))
  (try simp only [Exit.inBlock, Exit.then])
  refine bodyPost_ret (results_cell_row (by rfl) _ _ w.heap.size 150 (kindsC S) (0, 0) _ (by rfl) HN.out.2 Tryz.underlying150 rfl (by kernel_rfl)) (by rfl) ?_
  exact ⟨rfl, HN.out.1⟩

/-- A session in memory. -/
def SS (S : Nat) (N : Int) (es : List Ed) (W : World) : Prop := ∃ v, W.heap[S]? = some (.cells #[.int .i64 N, v] 109 (0, 0)) ∧ OwnE W (S + 1) v es
def KS (S k : Nat) : Prop := k = S
theorem SS.later {S : Nat} {N : Int} {es : List Ed} {W W' : World} (h : SS S N es W) (b : Below W.heap.size W W') : SS S N es W' := by
  obtain ⟨v, h1, h2⟩ := h
  exact ⟨v, blk_later h1 b, row_below h2 b⟩
theorem SS.lt {S : Nat} {N : Int} {es : List Ed} {W : World} (h : SS S N es W) : S < W.heap.size := by obtain ⟨v, h1, -⟩ := h; exact blk_lt h1
def ansC (er num : Int) : Array Value := #[.int .i64 er, .int .i64 num, .slice none 0 0, .slice none 0 0, .slice none 0 0, .bool false]
theorem infoAns : (Tryz.prog.info? 36).map (·.size) = some 6 := by kernel_rfl

set_option maxHeartbeats 8000000 in
set_option maxRecDepth 100000 in
theorem turn0_any {S : Nat} {N N' : Int} {es es' : List Ed} {v' : Value} (w : World) (h : SS S N es w) (h' : OwnE w (S + 1) v' es') :
    Calls Tryz.prog 125 #[.pointer (some ⟨S, 0, none⟩), .agg #[.int .i64 N', v'], .int .i64 0] w fun e w' => e = .returned (.agg (ansC 0 0)) ∧ SS S N' es' w' ∧ Mov (KS S) w (KS S) w' := by
  obtain ⟨v, h1, h2⟩ := h
  obtain ⟨A1, c1, e1, -, -, -⟩ := OwnE.read h'
  rw [e1] at h' ⊢
  have hb1 : Below w.heap.size w ((w.alloc (.cells #[.int .i64 N', .slice A1 es'.length c1] 25)).alloc (.cells (ansC 0 0) 36)) := bel_trans (bel_alloc _ _) (bel_alloc _ _)
  have hz : (w.alloc (.cells #[.int .i64 N', .slice A1 es'.length c1] 25)).heap.size = w.heap.size + 1 := by simp
  have hn : ((w.alloc (.cells #[.int .i64 N', .slice A1 es'.length c1] 25)).alloc (.cells (ansC 0 0) 36)).heap[w.heap.size + 1]? = some (.cells (ansC 0 0) 36 (0, 0)) := by
    have := heap_alloc_new (w.alloc (.cells #[.int .i64 N', .slice A1 es'.length c1] 25)) (.cells (ansC 0 0) 36)
    rwa [hz] at this
  have hS := blk_later h1 hb1
  have hlt := blk_lt h1
  have hn2 : (((w.alloc (.cells #[.int .i64 N', .slice A1 es'.length c1] 25)).alloc (.cells (ansC 0 0) 36)).setRow S #[.int .i64 N', .slice A1 es'.length c1]).heap[w.heap.size + 1]? = some (.cells (ansC 0 0) 36 (0, 0)) := (setRow_other _ _ _ _ (by omega)).trans hn
  have HS := Lib.hid hS
  have HN2 := Lib.hid hn2
  have hg2 : (Tryz.prog.info? 25).map (·.size) = some (#[Value.int .i64 N', .slice A1 es'.length c1] : Array Value).size := (show (Tryz.prog.info? 25).map (·.size) = some 2 by kernel_rfl)
  have h1a : (#[Value.int .i64 N', .slice A1 es'.length c1] : Array Value).all (·.oneCell') = true := by simp [Value.oneCell']
  have h1b : (ansC 0 0).all (·.oneCell') = true := by kernel_rfl
  have HEND : Hid (((((w.alloc (.cells #[.int .i64 N', .slice A1 es'.length c1] 25)).alloc (.cells (ansC 0 0) 36)).setRow S #[.int .i64 N', .slice A1 es'.length c1]).setRow (w.heap.size + 1) (ansC 0 0)).heap[w.heap.size + 1]? = some (.cells (ansC 0 0) 36 (0, 0))) := setRow_heap _ _ _ _ _ _ hn2
  have HM : Hid (SS S N' es' ((((w.alloc (.cells #[.int .i64 N', .slice A1 es'.length c1] 25)).alloc (.cells (ansC 0 0) 36)).setRow S #[.int .i64 N', .slice A1 es'.length c1]).setRow (w.heap.size + 1) (ansC 0 0)) ∧ Mov (KS S) w (KS S) ((((w.alloc (.cells #[.int .i64 N', .slice A1 es'.length c1] 25)).alloc (.cells (ansC 0 0) 36)).setRow S #[.int .i64 N', .slice A1 es'.length c1]).setRow (w.heap.size + 1) (ansC 0 0))) := by
    generalize ((w.alloc (.cells #[.int .i64 N', .slice A1 es'.length c1] 25)).alloc (.cells (ansC 0 0) 36)) = w1 at *
    have hsame : ∀ k, k < w.heap.size → k ≠ S → ((w1.setRow S #[.int .i64 N', .slice A1 es'.length c1]).setRow (w.heap.size + 1) (ansC 0 0)).heap[k]? = w.heap[k]? := fun k hk hn => (setRow_other _ _ _ _ (by omega)).trans ((setRow_other _ _ _ _ hn).trans (hb1.block k hk))
    refine ⟨⟨_, (setRow_other _ _ _ _ (by omega)).trans (setRow_heap _ _ _ _ _ _ hS), ?_⟩, hb1.os, hb1.tape, hb1.output, by rw [setRow_size, setRow_size]; exact hb1.size, hsame, fun k hk => .inl hk⟩
    refine ⟨h'.1, ?_⟩
    rcases h'.2 with q | ⟨g, cap, cur, e, hb, hg, r⟩
    · exact .inl q
    · exact .inr ⟨g, cap, cur, e, hb, (hsame g (blk_lt hg) (by omega)).trans hg, r⟩
  clear hS hn2 hn hb1 hz h1 h2 hlt h'
  go_enter Tryz.func125, Tryz.ntmps125
  go_wp2_with (first | (refine wpList_store_rowTo rfl 25 (.tmp 12) (.tmp 10) rfl rfl S #[.int .i64 N', .slice A1 es'.length c1] rfl rfl 109 _ HS.out hg2 rfl h1a ?_) | (refine wpList_store_rowTo rfl 36 (.tmp 6) (.tmp 14) rfl rfl (w.heap.size + 1) (ansC 0 0) rfl rfl 36 _ HN2.out infoAns rfl h1b ?_))
  (try simp only [Exit.inBlock, Exit.then])
  refine bodyPost_ret (results_cell_row (by rfl) _ _ (w.heap.size + 1) 36 (ansC 0 0) (0, 0) _ (by rfl) HEND.out Tryz.underlying36 rfl (by kernel_rfl)) (by rfl) ?_
  exact ⟨rfl, HM.out.1, HM.out.2⟩
end

section
open Go.RowKit
theorem ins_nil (fv : Value) (w : World) : Calls Tryz.prog 250 #[.slice none 0 0, .int .i64 0, .int .i64 0, fv] w fun e w' => e = .returned (.tuple #[]) ∧ w' = w := by
  go_enter Tryz.func250, Tryz.ntmps250
  go_wp2_with fail
  go_loopw [8] (fun i wr => i = .int .i64 1 ∧ wr = w) (fun _ _ => 0)
  case atStart => exact ⟨rfl, rfl⟩
  case round =>
    obtain ⟨rfl, rfl⟩ := hrel
    go_wp2_with fail
    go_end0
    exact ⟨rfl, rfl⟩
theorem pdq_nil (fv : Value) (w : World) : Calls Tryz.prog 205 #[.slice none 0 0, .int .i64 0, .int .i64 0, .int .i64 0, fv] w fun e w' => e = .returned (.tuple #[]) ∧ w' = w := by
  go_enter Tryz.func205, Tryz.ntmps205
  go_wp2_with fail
  go_loopw [1, 2, 3] (fun a b c wr => a = .int .i64 0 ∧ b = .int .i64 0 ∧ c = .int .i64 0 ∧ wr = w) (fun _ _ _ _ => 0)
  case atStart => exact ⟨rfl, rfl, rfl, rfl⟩
  case round =>
    obtain ⟨rfl, rfl, rfl, rfl⟩ := hrel
    go_wp2_with fail
    refine (ins_nil fv wr).mono ?_
    rintro e w2 ⟨rfl, rfl⟩
    go_wp2_with fail
    (try simp only [Exit.inBlock, Exit.then])
    refine bodyPost_ret (results_none rfl _ _ _) rfl ?_
    exact ⟨rfl, rfl⟩
theorem sort_nil (fv : Value) (w : World) : Calls Tryz.prog 157 #[.slice none 0 0, fv] w fun e w' => e = .returned (.tuple #[]) ∧ w' = w := by
  go_enter Tryz.func157, Tryz.ntmps157
  go_wp2_with fail
  refine (Tryz.bits_Len 0 w (by decide) (by decide)).mono ?_
  rintro e w2 ⟨rfl, rfl⟩
  have e0 : ((Lib.bitLen (0 : Int).toNat : Nat) : Int) = 0 := by decide
  rw [e0]
  go_wp2_with fail
  refine (pdq_nil fv w2).mono ?_
  rintro e w3 ⟨rfl, rfl⟩
  go_wp2_with fail
  go_end0
  exact ⟨rfl, rfl⟩

set_option maxHeartbeats 8000000 in
set_option maxRecDepth 100000 in
theorem make0_any {a : Int} (w : World) (ha : 0 ≤ a ∧ a ≤ 4096) : Calls Tryz.prog 126 #[.int .i64 a, .slice none 0 0] w fun e w' => e = .returned (.tuple #[.agg #[.int .i64 a, .slice none 0 0], .int .i64 0]) ∧ Below w.heap.size w w' := by
  have a1 : decide (a < 0) = false := by rw [decide_eq_false_iff_not]; omega
  have a2 : decide (4096 < a) = false := by rw [decide_eq_false_iff_not]; omega
  have hmk := fun W => run_makeMap (P := Tryz.prog) 222 W
  clear ha
  go_enter Tryz.func126, Tryz.ntmps126
  go_wp2_with fail
  have hq : (((w.alloc (.cells #[.int .i64 0, .slice none 0 0] 25)).alloc (.map #[] 0)).alloc (.cells #[.int .i64 a, .slice none 0 0] 25)).heap[w.heap.size]? = some (gcells 0 none 0 0) ∧ (((w.alloc (.cells #[.int .i64 0, .slice none 0 0] 25)).alloc (.map #[] 0)).alloc (.cells #[.int .i64 a, .slice none 0 0] 25)).heap[w.heap.size + 1 + 1]? = some (gcells a none 0 0) ∧ Below w.heap.size w (((w.alloc (.cells #[.int .i64 0, .slice none 0 0] 25)).alloc (.map #[] 0)).alloc (.cells #[.int .i64 a, .slice none 0 0] 25)) := by
    have n1 := heap_alloc_new w (gcells 0 none 0 0)
    have b1 := bel_alloc w (gcells 0 none 0 0)
    have z1 : (w.alloc (gcells 0 none 0 0)).heap.size = w.heap.size + 1 := by simp
    have b2 := bel_alloc (w.alloc (gcells 0 none 0 0)) (.map #[] 0)
    have z2 : ((w.alloc (gcells 0 none 0 0)).alloc (.map #[] 0)).heap.size = w.heap.size + 1 + 1 := by simp
    have b3 := bel_alloc ((w.alloc (gcells 0 none 0 0)).alloc (.map #[] 0)) (gcells a none 0 0)
    have n3 := heap_alloc_new ((w.alloc (gcells 0 none 0 0)).alloc (.map #[] 0)) (gcells a none 0 0)
    rw [z2] at n3
    exact ⟨blk_later (blk_later n1 b2) b3, n3, bel_trans b1 (bel_trans b2 b3)⟩
  have HQ := Lib.hid hq
  clear hq hmk
  generalize (((w.alloc (.cells #[.int .i64 0, .slice none 0 0] 25)).alloc (.map #[] 0)).alloc (.cells #[.int .i64 a, .slice none 0 0] 25)) = w2 at *
  go_loopw [23] (fun i wr => i = .int .i64 0 ∧ wr = w2) (fun _ _ => 0)
  case atStart => exact ⟨rfl, rfl⟩
  case round =>
    obtain ⟨rfl, rfl⟩ := hrel
    have c0 : wr.cell? ⟨w.heap.size + 1 + 1, 0, none⟩ = some (.int .i64 a) := (cell_blk HQ.out.2.1 0).trans rfl
    have c1 : wr.cell? ⟨w.heap.size + 1 + 1, 1, none⟩ = some (.slice none 0 0) := (cell_blk HQ.out.2.1 1).trans rfl
    go_wp2_with fail
    refine (sort_nil _ wr).mono ?_
    rintro e w3 ⟨rfl, rfl⟩
    have hi : (Tryz.prog.info? 25).map (·.size) = some (#[Value.int .i64 a, .slice none 0 0] : Array Value).size := (show (Tryz.prog.info? 25).map (·.size) = some 2 by kernel_rfl)
    have h1a : (#[Value.int .i64 a, .slice none 0 0] : Array Value).all (·.oneCell') = true := by simp [Value.oneCell']
    have HEND : Hid ((w3.setRow w.heap.size #[.int .i64 a, .slice none 0 0]).heap[w.heap.size]? = some (.cells #[.int .i64 a, .slice none 0 0] 25 (0, 0)) ∧ Below w.heap.size w (w3.setRow w.heap.size #[.int .i64 a, .slice none 0 0])) := ⟨setRow_heap _ _ _ _ _ _ HQ.out.1, bel_setRow _ HQ.out.2.2 (Nat.le_refl _)⟩
    go_wp2_with (refine wpList_store_rowTo rfl 25 (.tmp 4) (.tmp 73) rfl rfl w.heap.size #[.int .i64 a, .slice none 0 0] rfl rfl 25 _ HQ.out.1 hi rfl h1a ?_)
    (try simp only [Exit.inBlock, Exit.then])
    refine bodyPost_ret (Go.Proofs.YtbnipgajhpbolaaGreatDoorW.PrintWords.results_ct (by rfl) _ _ w.heap.size 25 #[.int .i64 a, .slice none 0 0] (0, 0) _ (by rfl) HEND.out.1 Tryz.underlying25 rfl (by kernel_rfl)) (by rfl) ?_
    exact ⟨rfl, HEND.out.2⟩

theorem SS.setRow {S g : Nat} {N : Int} {es : List Ed} {W : World} {old cs : Array Value} (h : SS S N es W) (hg : W.heap[g]? = some (.cells old 36 (0, 0))) : SS S N es (W.setRow g cs) := by
  obtain ⟨v, h1, h2⟩ := h
  have hne : S ≠ g := fun e => by
    rw [e, hg] at h1
    injection h1 with h1
    injection h1 with _ h1
    exact absurd h1 (by decide)
  refine ⟨v, (setRow_other _ _ _ _ hne).trans h1, h2.1, ?_⟩
  rcases h2.2 with q | ⟨g', cap, cur, e, hb, hg', r⟩
  · exact .inl q
  · refine .inr ⟨g', cap, cur, e, hb, (setRow_other _ _ _ _ fun e2 => ?_).trans hg', r⟩
    rw [e2, hg] at hg'
    injection hg' with hg'
    injection hg' with _ hg'
    exact absurd hg' (by decide)
/-- A session's answer: of the cells P, and what the session is then. -/
def SessQ (S : Nat) (N : Int) (es : List Ed) (P : Array Value → Prop) (w : World) (e : Ending) (w' : World) : Prop := ∃ cs, e = .returned (.agg cs) ∧ cs.size = 6 ∧ (cs.all (·.oneCell') = true) ∧ P cs ∧ SS S N es w' ∧ Mov (KS S) w (KS S) w'

set_option maxHeartbeats 8000000 in
set_option maxRecDepth 100000 in
theorem vertices_any {S : Nat} {N a b : Int} {es : List Ed} (w : World) (h : SS S N es w) (ha : 0 ≤ a ∧ a ≤ 4096) : Calls Tryz.prog 93 #[.pointer (some ⟨S, 0, none⟩), .agg #[.int .i64 1, .int .i64 a, .int .i64 b, .slice none 0 0]] w (SessQ S a [] (fun cs => cs = ansC 0 0) w) := by
  have b1 := bel_alloc w (.cells #[.int .i64 1, .int .i64 a, .int .i64 b, .slice none 0 0] 111)
  have hz : (w.alloc (.cells #[.int .i64 1, .int .i64 a, .int .i64 b, .slice none 0 0] 111)).heap.size = w.heap.size + 1 := by simp
  have n1 := heap_alloc_new (w.alloc (.cells #[.int .i64 1, .int .i64 a, .int .i64 b, .slice none 0 0] 111)) (.cells (ansC 0 0) 36)
  have b2 := bel_alloc (w.alloc (.cells #[.int .i64 1, .int .i64 a, .int .i64 b, .slice none 0 0] 111)) (.cells (ansC 0 0) 36)
  rw [hz] at n1
  have HB := Lib.hid (And.intro n1 (bel_trans b1 b2))
  have HS := Lib.hid h
  have hm := fun W => make0_any (a := a) W ha
  clear h b1 b2 hz n1
  go_enter Tryz.func93, Tryz.ntmps93
  go_wp2_with fail
  refine (hm _).mono ?_
  rintro e w3 ⟨rfl, hb3⟩
  have HB3 := Lib.hid (bel_trans HB.out.2 hb3)
  have HA3 := Lib.hid (blk_later HB.out.1 hb3)
  have HS3 := Lib.hid (HS.out.later HB3.out)
  clear hb3 hm
  go_wp2_with fail
  refine (turn0_any (es' := []) w3 HS3.out (World.ownsRow_nil _ _ _ _)).mono ?_
  rintro e w4 ⟨rfl, hs4, hm4⟩
  have hlt := HS.out.lt
  have HA4 : Hid (w4.heap[w.heap.size + 1]? = some (.cells (ansC 0 0) 36 (0, 0))) := (hm4.block _ (blk_lt HA3.out) (fun q => by unfold KS at q; omega)).trans HA3.out
  have HEND : Hid ((w4.setRow (w.heap.size + 1) (ansC 0 0)).heap[w.heap.size + 1]? = some (.cells (ansC 0 0) 36 (0, 0)) ∧ SS S a [] (w4.setRow (w.heap.size + 1) (ansC 0 0)) ∧ Mov (KS S) w (KS S) (w4.setRow (w.heap.size + 1) (ansC 0 0))) := by
    refine ⟨setRow_heap _ _ _ _ _ _ HA4.out, hs4.setRow HA4.out, ?_⟩
    have m := (Mov.of (K := KS S) HB3.out).trans hm4
    exact ⟨m.os, m.tape, m.output, by rw [setRow_size]; exact m.size, fun k hk hn => (setRow_other _ _ _ _ (by omega)).trans (m.block k hk hn), m.new⟩
  have h1b : (ansC 0 0).all (·.oneCell') = true := by kernel_rfl
  clear hs4 hm4
  go_wp2_with (refine wpList_store_rowTo rfl 36 (.tmp 4) (.tmp 11) rfl rfl (w.heap.size + 1) (ansC 0 0) rfl rfl 36 _ HA4.out infoAns rfl h1b ?_)
  (try simp only [Exit.inBlock, Exit.then])
  refine bodyPost_ret (results_cell_row (by rfl) _ _ (w.heap.size + 1) 36 (ansC 0 0) (0, 0) _ (by rfl) HEND.out.1 Tryz.underlying36 rfl (by kernel_rfl)) (by rfl) ?_
  exact ⟨ansC 0 0, rfl, rfl, h1b, rfl, HEND.out.2.1, HEND.out.2.2⟩
end

section
open Go.RowKit
theorem clone_any {base : Nat} {v : Value} {es : List Ed} (w : World) (h : OwnE w base v es) (hn : es.length ≤ 70000) :
    Calls Tryz.prog 160 #[v] w fun e w' => ∃ v', e = .returned v' ∧ OwnE w' w.heap.size v' es ∧ Below w.heap.size w w' := by
  have heq := fun (a : Option Addr) (n c : Nat) (W : World) => Go.Lib.run_eql_slice_nil (P := Tryz.prog) W 23 57 a n c 0 0 Tryz.underlying23
  obtain ⟨A, c, rfl, -, hA, hr⟩ := OwnE.read h
  have HR := Lib.hid hr
  have HN := Lib.hid hn
  rcases h.2 with ⟨e, h0⟩ | ⟨g, cap, cur, e, hb, hg, hrest⟩
  · simp only [Value.slice.injEq] at e
    obtain ⟨rfl, h1, rfl⟩ := e
    obtain rfl : es = [] := List.eq_nil_of_length_eq_zero h1
    clear hr h h0 h1 hn hA
    simp only [List.length_nil]
    go_enter Tryz.func160, Tryz.ntmps160
    go_wp2_with fail
    go_ret
    exact ⟨_, rfl, World.ownsRow_nil _ _ _ _, Below.refl _ _⟩
  · simp only [Value.slice.injEq] at e
    obtain ⟨rfl, -, rfl⟩ := e
    have HO0 : Hid (OwnE (w.alloc (.cells #[] 57)) w.heap.size (.slice (some ⟨w.heap.size, 0, none⟩) 0 0) []) := ⟨rfl, .inr ⟨_, 0, #[], rfl, Nat.le_refl _, heap_alloc_new _ _, Nat.le_refl _, by decide, rfl, rfl⟩⟩
    have HRD : Hid (ReadE (w.alloc (.cells #[] 57)) (some ⟨g, 0, none⟩) es.length es) := HR.out.below (bel_alloc _ _)
    have HSZ : Hid (w.heap.size ≤ (w.alloc (.cells #[] 57)).heap.size) := (bel_alloc w (.cells #[] 57)).size
    generalize hl : es.length = n at *
    have HL := Lib.hid hl
    clear hr h hn hb hg hrest hl hA
    go_enter Tryz.func160, Tryz.ntmps160
    go_wp2_with (at_builtin; refine list_appE w.heap.size rfl _ _ rfl (.slice (some ⟨w.heap.size, 0, none⟩) 0 0) [] es rfl HO0.out HSZ.out (some ⟨g, 0, none⟩) n _ rfl HRD.out (by have := HN.out; simp; omega) ?_; intro v1 w1 o1 g1 a1)
    have HE : Hid (OwnE w1 w.heap.size v1 es ∧ Below w.heap.size w w1) := by
      refine ⟨o1, ?_⟩
      have hb1 := bel_alloc w (.cells #[] 57)
      refine ⟨g1.os.trans hb1.os, g1.tape.trans hb1.tape, g1.output.trans hb1.output, Nat.le_trans hb1.size g1.size, fun k hk => ?_⟩
      exact (g1.block k (by have := hb1.size; omega) (fun e => by have e2 : k = w.heap.size := Option.some.inj e; omega)).trans (hb1.block k hk)
    clear o1 g1 a1
    go_wp2_with fail
    go_ret
    exact ⟨_, rfl, HE.out.1, HE.out.2⟩

theorem insert_end {base : Nat} {v : Value} {es : List Ed} {x y : Int} {g c2 : Nat} (w : World) (h : OwnE w base v es) (hb : base ≤ w.heap.size) (hr : ReadE w (some ⟨g, 0, none⟩) 1 [(x, y)]) (hn : es.length ≤ 70000) :
    Calls Tryz.prog 159 #[v, .int .i64 es.length, .slice (some ⟨g, 0, none⟩) 1 c2] w fun e w' => ∃ v', e = .returned v' ∧ OwnE w' base v' (es ++ [(x, y)]) ∧ w.grownBy w' v.ownBlock := by
  obtain ⟨A, c, rfl, hc, -, -⟩ := OwnE.read h
  have HO := Lib.hid (And.intro h (And.intro hb hr))
  have HL0 := Lib.hid hn
  generalize hl : es.length = n at *
  have HL := Lib.hid hl
  clear h hb hr hn hl
  go_enter Tryz.func159, Tryz.ntmps159
  go_wp2_with (at_builtin; refine list_appE base rfl _ _ rfl (.slice A n c) es [(x, y)] rfl HO.out.1 HO.out.2.1 (some ⟨g, 0, none⟩) 1 _ rfl HO.out.2.2 (by have := HL0.out; have := HL.out; omega) ?_; intro v1 w1 o1 g1 a1)
  all_goals
    have HE := Lib.hid (And.intro o1 g1)
    clear o1 g1 a1
    go_wp2_with fail
    go_ret
    refine ⟨_, rfl, HE.out.1, ?_⟩
    have := HE.out.2
    cases A <;> exact this
theorem there_any {n a b : Int} (w : World) (h : 0 ≤ a ∧ a < b ∧ b < n) : Calls Tryz.prog 156 #[.int .i64 n, .int .i64 a, .int .i64 b] w fun e w' => e = .returned (.bool true) ∧ w' = w := by
  have h1 : ¬ b < a := by omega
  have h2 : a < b := h.2.1
  have h3 : decide (0 ≤ a) = true := by rw [decide_eq_true_eq]; exact h.1
  have h4 : decide (b < n) = true := by rw [decide_eq_true_eq]; exact h.2.2
  have h5 : decide (max a b < n) = true := by rw [decide_eq_true_eq]; omega
  have h6 : decide (0 ≤ min a b) = true := by rw [decide_eq_true_eq]; omega
  clear h
  go_enter Tryz.func156, Tryz.ntmps156
  go_wp2_with fail
  go_ret
  exact ⟨rfl, rfl⟩
/-- An edge that comes last. -/
structure LastO (N : Int) (es : List Ed) (a b : Int) : Prop where
  rb : rightB N es = true
  ab : 0 ≤ a ∧ a < b ∧ b < N
  new : ∀ e ∈ es, ahead e (a, b) = true
  len : es.length < 65536
theorem GY.grown {w W W' : World} {N : Int} {A : Option Addr} {n c : Nat} {row : Option Nat} (h : GY w N A n c W) (g : W.grownBy W' row) (hr : ∀ k, row = some k → w.heap.size + 2 ≤ k) : GY w N A n c W' := by
  obtain ⟨h1, h2, x, y, h3⟩ := h
  refine ⟨⟨g.os.trans h1.os, g.tape.trans h1.tape, g.output.trans h1.output, Nat.le_trans h1.size g.size, fun k hk => (g.block k (by omega) fun e => by have := hr k e.symm; omega).trans (h1.block k hk)⟩, by have := g.size; omega, x, y, (g.block _ (by omega) fun e => by have := hr _ e.symm; omega).trans h3⟩
theorem GZ.gy {w W : World} {N : Int} {A : Option Addr} {n c : Nat} (h : GZ w N A n c W) : GY w N A n c W := ⟨h.gb, h.size, _, _, h.blk⟩

set_option maxHeartbeats 16000000 in
set_option maxRecDepth 100000 in
theorem gadd_any {base : Nat} {v : Value} {es : List Ed} {N a b : Int} (w : World) (h : OwnE w base v es) (hl : LastO N es a b) :
    Calls Tryz.prog 127 #[.agg #[.int .i64 N, v], .int .i64 a, .int .i64 b] w fun e w' => ∃ v', e = .returned (.tuple #[.agg #[.int .i64 N, v'], .int .i64 0]) ∧ OwnE w' w.heap.size v' (es ++ [(a, b)]) ∧ Below w.heap.size w w' := by
  have HE := Lib.hid h
  obtain ⟨A, c, rfl, hc, -, hr⟩ := OwnE.read h
  have HL := Lib.hid hl
  have HRD := Lib.hid hr
  have hte : turnE a b = (a, b) := by unfold turnE; rw [if_neg (by have := hl.ab; omega)]
  have hnm : (a, b) ∉ es := fun q => by have := hl.new _ q; rw [ahead_irrefl] at this; cases this
  have HPL : Hid (∀ W, Below w.heap.size w W → Calls Tryz.prog 158 #[.agg #[.int .i64 N, .slice A es.length c], .int .i64 a, .int .i64 b] W fun e w' => e = .returned (.tuple #[.int .i64 es.length, .bool false]) ∧ Below W.heap.size W w') := fun W hb => by
    refine (place_any a b W (hr.below hb) hl.rb).mono fun e w' q => ?_
    obtain ⟨p, e1, e2, e3⟩ := q
    rw [hte] at e1 e2
    have hp : p = es.length := by
      rcases Nat.lt_or_ge p es.length with q | q
      · have h1 := e2.out.2.2 p (Nat.le_refl _) q
        have h2 := hl.new (ge es p) (by rw [ge_get q]; exact List.getElem_mem q)
        rw [h1] at h2; cases h2
      · have := e2.out.1
        omega
    rw [e1, hp, decide_eq_false hnm]
    exact ⟨rfl, e3⟩
  have hz0 : GZ w N A es.length c ((w.alloc (gcells N A es.length c)).alloc (gcells 0 none 0 0)) := Below.refl _ _
  have HZ0 := Lib.hid hz0
  have hgr := gright_any (c := c) N _ (hr.below (below_box hz0.gb))
  have hlen : decide ((65536 : Int) ≤ (es.length : Int)) = false := by rw [decide_eq_false_iff_not]; have := hl.len; omega
  have hab : (a == b) = false := by have := hl.ab; simp; omega
  have hth := fun W => there_any (n := N) (a := a) (b := b) W hl.ab
  rw [hl.rb] at hgr
  have HN : Hid (es.length ≤ 70000) := by have := hl.len; unfold Hid; omega
  obtain ⟨g00, g01⟩ := gbox (GZ.gb hz0)
  have HED : Hid (∀ W, Calls Tryz.prog 155 #[.int .i64 a, .int .i64 b] W fun e w' => e = .returned (.agg #[.int .i64 a, .int .i64 b]) ∧ Below W.heap.size W w') := fun W => by
    have := edge_any a b W
    rw [hte] at this
    exact this
  have HIN : Hid (∀ W v g, OwnE W (w.heap.size + 2) v es → w.heap.size + 2 ≤ W.heap.size → ReadE W (some ⟨g, 0, none⟩) 1 [(a, b)] → Calls Tryz.prog 159 #[v, .int .i64 es.length, .slice (some ⟨g, 0, none⟩) 1 1] W fun e w' => ∃ v', e = .returned v' ∧ OwnE w' (w.heap.size + 2) v' (es ++ [(a, b)]) ∧ W.grownBy w' v.ownBlock) := fun W v g h1 h2 h3 => insert_end W h1 h2 h3 (by have := hl.len; omega)
  clear h hl hr hz0 hte hnm
  generalize hn : es.length = n at *
  have HNN := Lib.hid hn
  clear hn
  go_enter Tryz.func127, Tryz.ntmps127
  go_wp2_with fail
  generalize ((w.alloc (gcells N A n c)).alloc (gcells 0 none 0 0)) = w1 at *
  refine hgr.mono ?_
  rintro e w2 ⟨rfl, hb2⟩
  have HZ2 := Lib.hid (GZ.later HZ0.out hb2)
  clear hgr hb2 g00 g01
  obtain ⟨g00, g01⟩ := gbox (GZ.gb HZ2.out)
  go_wp2_with fail
  refine (hth w2).mono ?_
  rintro e w3 ⟨rfl, rfl⟩
  go_wp2_with fail
  refine (HPL.out w3 (below_box HZ2.out.gb)).mono ?_
  rintro e w4 ⟨rfl, hb4⟩
  have HZ4 := Lib.hid (GZ.later HZ2.out hb4)
  clear hb4 g00 g01
  obtain ⟨g00, g01⟩ := gbox (GZ.gb HZ4.out)
  have HC : Hid (∀ W, GY w N A n c W → Calls Tryz.prog 160 #[.slice A n c] W fun e w' => ∃ v', e = .returned v' ∧ OwnE w' (w.heap.size + 2) v' es ∧ Below W.heap.size W w') := fun W hW => (clone_any W (row_below HE.out hW.bel) (by have := HN.out; have := HNN.out; omega)).mono fun e w' q => by
    obtain ⟨v', e1, o1, b1⟩ := q
    exact ⟨v', e1, row_weaken o1 hW.size, b1⟩
  have gy0 := Lib.hid (GZ.gy HZ4.out)
  have hi : (Tryz.prog.info? 25).map (·.size) = some 2 := by kernel_rfl
  clear hth
  go_wp2_with fail
  go_region_held3 (fun w' => w'.cell? ⟨w.heap.size, 0, none⟩ = some (.int .i64 N) ∧ w'.cell? ⟨w.heap.size, 1, none⟩ = some (.slice A n c) ∧ GY w N A n c w')
    (first | assumption | exact GY.es gy0.out | exact GY.es (GY.later gy0.out (RW.refl _).drew) | exact GY.es gy9.out | exact GY.es gy10.out | exact GY.es (GY.later gy10.out (bel_alloc _ _)) | exact GY.es (GY.later gy10.out (RW.alloc (RW.refl _) _).drew) | exact GY.es gy11.out | exact GY.es (GY.store gy11.out _ _) | fail)
    (first
      | (go_at_call 160; refine (HC.out _ (And.right (And.right (by assumption)))).mono ?_; rintro e w9 ⟨v9, rfl, own9, hb9⟩; have gy9 := Lib.hid (GY.later (And.right (And.right (by assumption))) hb9))
      | (go_at_call 155; refine (HED.out _).mono ?_; rintro e w10 ⟨rfl, hb10⟩; have gy10 := Lib.hid (GY.later gy9.out hb10); have own10 := Lib.hid (row_below own9 hb10))
      | (go_at_call 159; have ho11 : OwnE (w10.alloc (.cells #[.int .i64 a, .int .i64 b] 57)) (w.heap.size + 2) v9 es := own_alloc own10.out _; have hg11 : GY w N A n c (w10.alloc (.cells #[.int .i64 a, .int .i64 b] 57)) := GY.later gy10.out (bel_alloc _ _); have hin11 := HIN.out (w10.alloc (.cells #[.int .i64 a, .int .i64 b] 57)) v9 w10.heap.size ho11 hg11.size (readE_new _ _ _ _); refine hin11.mono ?_; rintro e w11 ⟨v11, rfl, own11, g11⟩; obtain ⟨A11, n11, c11, rfl⟩ := OwnE.shape own11; have gy11 := Lib.hid (GY.grown hg11 g11 (row_base ho11)); obtain ⟨x11, y11, r110, r111, r112, r113⟩ := GY.res gy11.out; have own12 := Lib.hid own11)
      | fail)
  all_goals
    have HEND : Hid (((w11.setCell ⟨w.heap.size + 1, 0, none⟩ (.int .i64 N)).setCell ⟨w.heap.size + 1, 1, none⟩ (.slice A11 n11 c11)).heap[w.heap.size + 1]? = some (.cells #[.int .i64 N, .slice A11 n11 c11] 25 (0, 0)) ∧ OwnE ((w11.setCell ⟨w.heap.size + 1, 0, none⟩ (.int .i64 N)).setCell ⟨w.heap.size + 1, 1, none⟩ (.slice A11 n11 c11)) w.heap.size (.slice A11 n11 c11) (es ++ [(a, b)]) ∧ Below w.heap.size w ((w11.setCell ⟨w.heap.size + 1, 0, none⟩ (.int .i64 N)).setCell ⟨w.heap.size + 1, 1, none⟩ (.slice A11 n11 c11))) := ⟨GY.end gy11.out _ _, row_weaken (own_set2 own12.out (Nat.lt_succ_self _)) (by omega), (GY.store gy11.out _ _).bel⟩
    go_wp2_with fail
    (try simp only [Exit.inBlock, Exit.then])
    refine bodyPost_ret (Go.Proofs.YtbnipgajhpbolaaGreatDoorW.PrintWords.results_ct (by rfl) _ _ (w.heap.size + 1) 25 #[.int .i64 N, .slice A11 n11 c11] (0, 0) _ (by rfl) HEND.out.1 Tryz.underlying25 rfl (by kernel_rfl)) (by rfl) ?_
    exact ⟨_, rfl, HEND.out.2.1, HEND.out.2.2⟩
end

section
open Go.RowKit
/-- A whole row is stored, as a region's walk asks it. -/
theorem run_storeCells_row {P : Program} (w : World) (g : Nat) (t : TypeId) (c c' : Array Value) (hg : w.heap[g]? = some (.cells c t (0, 0))) (hi : (P.info? t).map (·.size) = some c'.size) (ho : c.size = c'.size) (h1 : c'.all (·.oneCell') = true) :
    (storeCells ⟨g, 0, none⟩ c'.toList 0).run P w = .ok () (w.setRow g c') := by
  have := run_storeVar_row (P := P) w g t t c c' hg hi ho h1
  cases hq : P.info? t with
  | none => simp [hq] at hi
  | some i =>
    have hs : c'.size = i.size := by simp [hq] at hi; omega
    simpa [storeVar, sizeOf, typeInfo, hq, Value.cells, hs] using this

set_option maxHeartbeats 8000000 in
set_option maxRecDepth 100000 in
theorem sadd_any {S : Nat} {N a b : Int} {es : List Ed} (w : World) (h : SS S N es w) (hl : LastO N es a b) : Calls Tryz.prog 94 #[.pointer (some ⟨S, 0, none⟩), .agg #[.int .i64 2, .int .i64 a, .int .i64 b, .slice none 0 0]] w (SessQ S N (es ++ [(a, b)]) (fun cs => cs = ansC 0 0) w) := by
  have b1 := bel_alloc w (.cells #[.int .i64 2, .int .i64 a, .int .i64 b, .slice none 0 0] 111)
  have hz : (w.alloc (.cells #[.int .i64 2, .int .i64 a, .int .i64 b, .slice none 0 0] 111)).heap.size = w.heap.size + 1 := by simp
  have n0 := heap_alloc_new w (.cells #[.int .i64 2, .int .i64 a, .int .i64 b, .slice none 0 0] 111)
  have n1 := heap_alloc_new (w.alloc (.cells #[.int .i64 2, .int .i64 a, .int .i64 b, .slice none 0 0] 111)) (.cells (ansC 0 0) 36)
  have b2 := bel_alloc (w.alloc (.cells #[.int .i64 2, .int .i64 a, .int .i64 b, .slice none 0 0] 111)) (.cells (ansC 0 0) 36)
  rw [hz] at n1
  have n0' := blk_later n0 b2
  have HB := Lib.hid (And.intro n1 (bel_trans b1 b2))
  have HS := Lib.hid h
  have HL := Lib.hid hl
  have hs2 := h.later HB.out.2
  have HS2 := Lib.hid hs2
  have HLT := Lib.hid h.lt
  obtain ⟨v, hv1, hv2⟩ := hs2
  obtain ⟨A, c, rfl, -, -, -⟩ := OwnE.read hv2
  have HV := Lib.hid hv2
  generalize hw2 : ((w.alloc (.cells #[.int .i64 2, .int .i64 a, .int .i64 b, .slice none 0 0] 111)).alloc (.cells (ansC 0 0) 36)) = w2 at *
  have c0 : w2.cell? ⟨S, 0, none⟩ = some (.int .i64 N) := (cell_blk hv1 0).trans rfl
  have c1 : w2.cell? ⟨S, 1, none⟩ = some (.slice A es.length c) := (cell_blk hv1 1).trans rfl
  have d1 : w2.cell? ⟨w.heap.size, 1, none⟩ = some (.int .i64 a) := (cell_blk n0' 1).trans rfl
  have d2 : w2.cell? ⟨w.heap.size, 2, none⟩ = some (.int .i64 b) := (cell_blk n0' 2).trans rfl
  have HW2 := Lib.hid hw2
  clear h hl b1 b2 hz n0 n1 n0' hv1 hv2
  go_enter Tryz.func94, Tryz.ntmps94
  go_wp2_with fail
  have h1b : (ansC 0 0).all (·.oneCell') = true := by kernel_rfl
  rw [show ((w.alloc (.cells #[.int .i64 2, .int .i64 a, .int .i64 b, .slice none 0 0] 111)).alloc (.cells #[.int .i64 0, .int .i64 0, .slice none 0 0, .slice none 0 0, .slice none 0 0, .bool false] 36)) = w2 from HW2.out]
  clear hw2
  go_region_with (first
    | (go_at_call 127; refine (gadd_any w2.drew (HV.out : OwnE w2.drew (S + 1) (.slice A es.length c) es) HL.out).mono ?_; rintro e w3 ⟨v3, rfl, own3, hb3⟩; have HB3 := Lib.hid (And.intro own3 hb3))
    | (go_at_call 125; refine (turn0_any w3 (HS2.out.later (bel_trans (RW.refl w2).drew HB3.out.2)) (row_weaken HB3.out.1 (show S + 1 ≤ w2.drew.heap.size by have h1 := HS2.out.lt; exact h1))).mono ?_; rintro e w4 ⟨rfl, hs4, hm4⟩; have HS4 := Lib.hid (And.intro hs4 hm4); have HA4 : Hid (w4.heap[w.heap.size + 1]? = some (.cells (ansC 0 0) 36 (0, 0))) := (hm4.block _ (by have h1 := blk_lt HB.out.1; have h2 := HB3.out.2.size; exact Nat.lt_of_lt_of_le h1 h2) (fun q => by unfold KS at q; have := HLT.out; omega)).trans (blk_later HB.out.1 (bel_trans (RW.refl w2).drew HB3.out.2)); have hst := run_storeCells_row (P := Tryz.prog) w4 (w.heap.size + 1) 36 (ansC 0 0) (ansC 0 0) HA4.out infoAns rfl h1b)
    | fail)
  all_goals
    have hlt := HLT.out
    have HEND : Hid ((w4.setRow (w.heap.size + 1) (ansC 0 0)).heap[w.heap.size + 1]? = some (.cells (ansC 0 0) 36 (0, 0)) ∧ SS S N (es ++ [(a, b)]) (w4.setRow (w.heap.size + 1) (ansC 0 0)) ∧ Mov (KS S) w (KS S) (w4.setRow (w.heap.size + 1) (ansC 0 0))) := by
      refine ⟨setRow_heap _ _ _ _ _ _ HA4.out, HS4.out.1.setRow HA4.out, ?_⟩
      have m := (Mov.of (K := KS S) (bel_trans HB.out.2 (bel_trans (RW.refl w2).drew HB3.out.2))).trans HS4.out.2
      exact ⟨m.os, m.tape, m.output, by rw [setRow_size]; exact m.size, fun k hk hn => (setRow_other _ _ _ _ (by omega)).trans (m.block k hk hn), m.new⟩
    clear hst
    go_wp2_with fail
    (try simp only [Exit.inBlock, Exit.then])
    refine bodyPost_ret (results_cell_row (by rfl) _ _ (w.heap.size + 1) 36 (ansC 0 0) (0, 0) _ (by rfl) HEND.out.1 Tryz.underlying36 rfl (by kernel_rfl)) (by rfl) ?_
    exact ⟨ansC 0 0, rfl, rfl, h1b, rfl, HEND.out.2.1, HEND.out.2.2⟩
end

end Go.Proofs.YtbnipgajhpbolaaGreatDoor
