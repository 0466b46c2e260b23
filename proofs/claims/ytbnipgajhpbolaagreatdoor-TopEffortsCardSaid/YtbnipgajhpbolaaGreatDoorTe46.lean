/- session.Do (written by dogen.py); script's line -/
import Derived.Test.YtbnipgajhpbolaaGreatDoorTe45
import Derived.Test.YtbnipgajhpbolaaGreatDoorTe33
set_option linter.unusedVariables false
set_option linter.unusedSimpArgs false
namespace Go.Proofs.YtbnipgajhpbolaaGreatDoor

section
open Go.RowKit
/-- Numbers up to M are written, from w0 on. -/
def ItoaL (w0 : World) (M : Int) : Prop := ∀ (n : Int) (W : World), 0 ≤ n → n ≤ M → Below w0.heap.size w0 W → Calls Tryz.prog 91 #[.int .i64 n] W fun e w' => (∃ s : ByteArray, e = .returned (.string s) ∧ s.size ≤ 20) ∧ Below W.heap.size W w'

set_option maxHeartbeats 16000000 in
set_option maxRecDepth 100000 in
theorem do1_any {w0 : World} {M : Int} {S m : Nat} {N N' a b : Int} {es es' : List Ed} {P : Array Value → Prop} (w : World) (hit : ItoaL w0 M) (hab : a ≤ M ∧ b ≤ M) (hb0 : Below w0.heap.size w0 w) (hc : CmdO 1 m a b) (h : SS S N es w) (hk : ∀ W, Below w.heap.size w W → Calls Tryz.prog 93 #[.pointer (some ⟨S, 0, none⟩), .agg #[.int .i64 1, .int .i64 a, .int .i64 b, .slice none 0 0]] W (SessQ S N' es' P W)) :
    Calls Tryz.prog 55 #[.pointer (some ⟨S, 0, none⟩), .agg #[.int .i64 1, .int .i64 a, .int .i64 b, .slice none 0 0]] w (SessQ S N' es' P w) := by
  have b1 := bel_alloc w (.cells #[.int .i64 1, .int .i64 a, .int .i64 b, .slice none 0 0] 111)
  have hz : (w.alloc (.cells #[.int .i64 1, .int .i64 a, .int .i64 b, .slice none 0 0] 111)).heap.size = w.heap.size + 1 := by simp
  have n0 := heap_alloc_new w (.cells #[.int .i64 1, .int .i64 a, .int .i64 b, .slice none 0 0] 111)
  have n1 := heap_alloc_new (w.alloc (.cells #[.int .i64 1, .int .i64 a, .int .i64 b, .slice none 0 0] 111)) (.cells (ansC 0 0) 36)
  have b2 := bel_alloc (w.alloc (.cells #[.int .i64 1, .int .i64 a, .int .i64 b, .slice none 0 0] 111)) (.cells (ansC 0 0) 36)
  rw [hz] at n1
  have n0' := blk_later n0 b2
  have HB := Lib.hid (And.intro n0' (And.intro n1 (bel_trans b1 b2)))
  have HLT := Lib.hid h.lt
  have HK := Lib.hid hk
  have HS := Lib.hid h
  have HSZ : Hid (w0.heap.size ≤ w.heap.size) := hb0.size
  have HPR : Hid (∀ W, Below w.heap.size w W → Calls Tryz.prog 74 #[.agg #[.int .i64 1, .int .i64 a, .int .i64 b, .slice none 0 0]] W fun e w' => (∃ s : ByteArray, e = .returned (.tuple #[.string s, .int .i64 0])) ∧ Below W.heap.size W w') := fun W hW => print_any W hc fun n W' hn hW' => hit n W' (by have := hc.ab; omega) (by omega) ((hb0.trans (hW.mono hb0.size)).trans (hW'.mono (by have := hW.size; have := hb0.size; omega)))
  clear h hk b1 b2 hz n0 n1 n0' hb0 hit
  have HW2 : Hid (((w.alloc (.cells #[.int .i64 1, .int .i64 a, .int .i64 b, .slice none 0 0] 111)).alloc (.cells (ansC 0 0) 36)) = ((w.alloc (.cells #[.int .i64 1, .int .i64 a, .int .i64 b, .slice none 0 0] 111)).alloc (.cells #[.int .i64 0, .int .i64 0, .slice none 0 0, .slice none 0 0, .slice none 0 0, .bool false] 36))) := rfl
  rw [HW2.out] at HB
  have hv := HB.out.1
  have d0 := (cell_blk hv 0).trans (show _ = some (Value.int .i64 1) from rfl)
  have d1 := (cell_blk hv 1).trans (show _ = some (Value.int .i64 a) from rfl)
  have d2 := (cell_blk hv 2).trans (show _ = some (Value.int .i64 b) from rfl)
  have d3 := (cell_blk hv 3).trans (show _ = some (Value.slice none 0 0) from rfl)
  clear hv HW2
  go_enter Tryz.func55, Tryz.ntmps55
  go_wp2_with fail
  generalize ((w.alloc (.cells #[.int .i64 1, .int .i64 a, .int .i64 b, .slice none 0 0] 111)).alloc (.cells #[.int .i64 0, .int .i64 0, .slice none 0 0, .slice none 0 0, .slice none 0 0, .bool false] 36)) = w2 at *
  refine (HPR.out _ HB.out.2.2).mono ?_
  rintro e w3 ⟨⟨str, rfl⟩, hb3⟩
  have HB3 := Lib.hid (bel_trans HB.out.2.2 hb3)
  have hv := blk_later HB.out.1 hb3
  have HA3 := Lib.hid (blk_later HB.out.2.1 hb3)
  have HV3 := Lib.hid hv
  clear hb3 d0 d1 d2 d3
  have d0 : w3.cell? ⟨w.heap.size, 0, none⟩ = some (.int .i64 1) := (cell_blk hv 0).trans rfl
  have d1 : w3.cell? ⟨w.heap.size, 1, none⟩ = some (.int .i64 a) := (cell_blk hv 1).trans rfl
  have d2 : w3.cell? ⟨w.heap.size, 2, none⟩ = some (.int .i64 b) := (cell_blk hv 2).trans rfl
  have d3 : w3.cell? ⟨w.heap.size, 3, none⟩ = some (.slice none 0 0) := (cell_blk hv 3).trans rfl
  have hki : ∀ W : World, (Instr.index 150 (.agg (kindsC S)) (.int .i64 1)).run Tryz.prog W = .ok (.func (.func 93) #[.pointer (some ⟨S, 0, none⟩)] #[]) W := fun W => kinds_ix S 1 (by decide) W
  clear hv
  go_wp2_with fail
  go_region_with (first
    | (go_at_call 75; refine (kinds_any w3.drew S).mono ?_; rintro e w4 ⟨rfl, hb4⟩; have HR4 := Lib.hid (bel_trans (RW.refl w3).drew hb4); have HB4 := Lib.hid (bel_trans HB3.out HR4.out); have hv4 := blk_later HV3.out HR4.out; have e0 : w4.cell? ⟨w.heap.size, 0, none⟩ = some (.int .i64 1) := (cell_blk hv4 0).trans rfl; have e1 : w4.cell? ⟨w.heap.size, 1, none⟩ = some (.int .i64 a) := (cell_blk hv4 1).trans rfl; have e2 : w4.cell? ⟨w.heap.size, 2, none⟩ = some (.int .i64 b) := (cell_blk hv4 2).trans rfl; have e3 : w4.cell? ⟨w.heap.size, 3, none⟩ = some (.slice none 0 0) := (cell_blk hv4 3).trans rfl; clear hb4 hv4)
    | (go_at_call 93; refine (HK.out _ HB4.out).mono ?_; rintro e w5 ⟨cs, rfl, hsz, h1c, hp, hs5, hm5⟩; have HC := Lib.hid (And.intro hsz (And.intro h1c hp)); have HS5 := Lib.hid (And.intro hs5 hm5); have HA5 : Hid (w5.heap[w.heap.size + 1]? = some (.cells (ansC 0 0) 36 (0, 0))) := (hm5.block _ (blk_lt (blk_later HA3.out HR4.out)) (fun q => by unfold KS at q; have := HLT.out; omega)).trans (blk_later HA3.out HR4.out); have hst := run_storeCells_row (P := Tryz.prog) w5 (w.heap.size + 1) 36 (ansC 0 0) cs HA5.out (by rw [hsz]; exact infoAns) (by rw [hsz]; rfl) h1c; clear h1c hp hs5 hm5)
    | fail)
  all_goals
    have hlt := HLT.out
    have HEND : Hid ((w5.setRow (w.heap.size + 1) cs).heap[w.heap.size + 1]? = some (.cells cs 36 (0, 0)) ∧ SS S N' es' (w5.setRow (w.heap.size + 1) cs) ∧ Mov (KS S) w (KS S) (w5.setRow (w.heap.size + 1) cs)) := by
      refine ⟨setRow_heap _ _ _ _ _ _ HA5.out, HS5.out.1.setRow HA5.out, ?_⟩
      have m := (Mov.of (K := KS S) HB4.out).trans HS5.out.2
      exact ⟨m.os, m.tape, m.output, by rw [setRow_size]; exact m.size, fun k hk hn => (setRow_other _ _ _ _ (by omega)).trans (m.block k hk hn), m.new⟩
    clear hst
    go_wp2_with fail
    (try simp only [Exit.inBlock, Exit.then])
    refine bodyPost_ret (results_cell_row (by rfl) _ _ (w.heap.size + 1) 36 cs (0, 0) _ (by rfl) HEND.out.1 Tryz.underlying36 rfl (by rw [HC.out.1]; kernel_rfl)) (by rfl) ?_
    exact ⟨_, rfl, HC.out.1, HC.out.2.1, HC.out.2.2, HEND.out.2.1, HEND.out.2.2⟩

set_option maxHeartbeats 16000000 in
set_option maxRecDepth 100000 in
theorem do2_any {w0 : World} {M : Int} {S m : Nat} {N N' a b : Int} {es es' : List Ed} {P : Array Value → Prop} (w : World) (hit : ItoaL w0 M) (hab : a ≤ M ∧ b ≤ M) (hb0 : Below w0.heap.size w0 w) (hc : CmdO 2 m a b) (h : SS S N es w) (hk : ∀ W, Below w.heap.size w W → Calls Tryz.prog 94 #[.pointer (some ⟨S, 0, none⟩), .agg #[.int .i64 2, .int .i64 a, .int .i64 b, .slice none 0 0]] W (SessQ S N' es' P W)) :
    Calls Tryz.prog 55 #[.pointer (some ⟨S, 0, none⟩), .agg #[.int .i64 2, .int .i64 a, .int .i64 b, .slice none 0 0]] w (SessQ S N' es' P w) := by
  have b1 := bel_alloc w (.cells #[.int .i64 2, .int .i64 a, .int .i64 b, .slice none 0 0] 111)
  have hz : (w.alloc (.cells #[.int .i64 2, .int .i64 a, .int .i64 b, .slice none 0 0] 111)).heap.size = w.heap.size + 1 := by simp
  have n0 := heap_alloc_new w (.cells #[.int .i64 2, .int .i64 a, .int .i64 b, .slice none 0 0] 111)
  have n1 := heap_alloc_new (w.alloc (.cells #[.int .i64 2, .int .i64 a, .int .i64 b, .slice none 0 0] 111)) (.cells (ansC 0 0) 36)
  have b2 := bel_alloc (w.alloc (.cells #[.int .i64 2, .int .i64 a, .int .i64 b, .slice none 0 0] 111)) (.cells (ansC 0 0) 36)
  rw [hz] at n1
  have n0' := blk_later n0 b2
  have HB := Lib.hid (And.intro n0' (And.intro n1 (bel_trans b1 b2)))
  have HLT := Lib.hid h.lt
  have HK := Lib.hid hk
  have HS := Lib.hid h
  have HSZ : Hid (w0.heap.size ≤ w.heap.size) := hb0.size
  have HPR : Hid (∀ W, Below w.heap.size w W → Calls Tryz.prog 74 #[.agg #[.int .i64 2, .int .i64 a, .int .i64 b, .slice none 0 0]] W fun e w' => (∃ s : ByteArray, e = .returned (.tuple #[.string s, .int .i64 0])) ∧ Below W.heap.size W w') := fun W hW => print_any W hc fun n W' hn hW' => hit n W' (by have := hc.ab; omega) (by omega) ((hb0.trans (hW.mono hb0.size)).trans (hW'.mono (by have := hW.size; have := hb0.size; omega)))
  clear h hk b1 b2 hz n0 n1 n0' hb0 hit
  have HW2 : Hid (((w.alloc (.cells #[.int .i64 2, .int .i64 a, .int .i64 b, .slice none 0 0] 111)).alloc (.cells (ansC 0 0) 36)) = ((w.alloc (.cells #[.int .i64 2, .int .i64 a, .int .i64 b, .slice none 0 0] 111)).alloc (.cells #[.int .i64 0, .int .i64 0, .slice none 0 0, .slice none 0 0, .slice none 0 0, .bool false] 36))) := rfl
  rw [HW2.out] at HB
  have hv := HB.out.1
  have d0 := (cell_blk hv 0).trans (show _ = some (Value.int .i64 2) from rfl)
  have d1 := (cell_blk hv 1).trans (show _ = some (Value.int .i64 a) from rfl)
  have d2 := (cell_blk hv 2).trans (show _ = some (Value.int .i64 b) from rfl)
  have d3 := (cell_blk hv 3).trans (show _ = some (Value.slice none 0 0) from rfl)
  clear hv HW2
  go_enter Tryz.func55, Tryz.ntmps55
  go_wp2_with fail
  generalize ((w.alloc (.cells #[.int .i64 2, .int .i64 a, .int .i64 b, .slice none 0 0] 111)).alloc (.cells #[.int .i64 0, .int .i64 0, .slice none 0 0, .slice none 0 0, .slice none 0 0, .bool false] 36)) = w2 at *
  refine (HPR.out _ HB.out.2.2).mono ?_
  rintro e w3 ⟨⟨str, rfl⟩, hb3⟩
  have HB3 := Lib.hid (bel_trans HB.out.2.2 hb3)
  have hv := blk_later HB.out.1 hb3
  have HA3 := Lib.hid (blk_later HB.out.2.1 hb3)
  have HV3 := Lib.hid hv
  clear hb3 d0 d1 d2 d3
  have d0 : w3.cell? ⟨w.heap.size, 0, none⟩ = some (.int .i64 2) := (cell_blk hv 0).trans rfl
  have d1 : w3.cell? ⟨w.heap.size, 1, none⟩ = some (.int .i64 a) := (cell_blk hv 1).trans rfl
  have d2 : w3.cell? ⟨w.heap.size, 2, none⟩ = some (.int .i64 b) := (cell_blk hv 2).trans rfl
  have d3 : w3.cell? ⟨w.heap.size, 3, none⟩ = some (.slice none 0 0) := (cell_blk hv 3).trans rfl
  have hki : ∀ W : World, (Instr.index 150 (.agg (kindsC S)) (.int .i64 2)).run Tryz.prog W = .ok (.func (.func 94) #[.pointer (some ⟨S, 0, none⟩)] #[]) W := fun W => kinds_ix S 2 (by decide) W
  clear hv
  go_wp2_with fail
  go_region_with (first
    | (go_at_call 75; refine (kinds_any w3.drew S).mono ?_; rintro e w4 ⟨rfl, hb4⟩; have HR4 := Lib.hid (bel_trans (RW.refl w3).drew hb4); have HB4 := Lib.hid (bel_trans HB3.out HR4.out); have hv4 := blk_later HV3.out HR4.out; have e0 : w4.cell? ⟨w.heap.size, 0, none⟩ = some (.int .i64 2) := (cell_blk hv4 0).trans rfl; have e1 : w4.cell? ⟨w.heap.size, 1, none⟩ = some (.int .i64 a) := (cell_blk hv4 1).trans rfl; have e2 : w4.cell? ⟨w.heap.size, 2, none⟩ = some (.int .i64 b) := (cell_blk hv4 2).trans rfl; have e3 : w4.cell? ⟨w.heap.size, 3, none⟩ = some (.slice none 0 0) := (cell_blk hv4 3).trans rfl; clear hb4 hv4)
    | (go_at_call 94; refine (HK.out _ HB4.out).mono ?_; rintro e w5 ⟨cs, rfl, hsz, h1c, hp, hs5, hm5⟩; have HC := Lib.hid (And.intro hsz (And.intro h1c hp)); have HS5 := Lib.hid (And.intro hs5 hm5); have HA5 : Hid (w5.heap[w.heap.size + 1]? = some (.cells (ansC 0 0) 36 (0, 0))) := (hm5.block _ (blk_lt (blk_later HA3.out HR4.out)) (fun q => by unfold KS at q; have := HLT.out; omega)).trans (blk_later HA3.out HR4.out); have hst := run_storeCells_row (P := Tryz.prog) w5 (w.heap.size + 1) 36 (ansC 0 0) cs HA5.out (by rw [hsz]; exact infoAns) (by rw [hsz]; rfl) h1c; clear h1c hp hs5 hm5)
    | fail)
  all_goals
    have hlt := HLT.out
    have HEND : Hid ((w5.setRow (w.heap.size + 1) cs).heap[w.heap.size + 1]? = some (.cells cs 36 (0, 0)) ∧ SS S N' es' (w5.setRow (w.heap.size + 1) cs) ∧ Mov (KS S) w (KS S) (w5.setRow (w.heap.size + 1) cs)) := by
      refine ⟨setRow_heap _ _ _ _ _ _ HA5.out, HS5.out.1.setRow HA5.out, ?_⟩
      have m := (Mov.of (K := KS S) HB4.out).trans HS5.out.2
      exact ⟨m.os, m.tape, m.output, by rw [setRow_size]; exact m.size, fun k hk hn => (setRow_other _ _ _ _ (by omega)).trans (m.block k hk hn), m.new⟩
    clear hst
    go_wp2_with fail
    (try simp only [Exit.inBlock, Exit.then])
    refine bodyPost_ret (results_cell_row (by rfl) _ _ (w.heap.size + 1) 36 cs (0, 0) _ (by rfl) HEND.out.1 Tryz.underlying36 rfl (by rw [HC.out.1]; kernel_rfl)) (by rfl) ?_
    exact ⟨_, rfl, HC.out.1, HC.out.2.1, HC.out.2.2, HEND.out.2.1, HEND.out.2.2⟩

set_option maxHeartbeats 16000000 in
set_option maxRecDepth 100000 in
theorem do6_any {w0 : World} {M : Int} {S m : Nat} {N N' a b : Int} {es es' : List Ed} {P : Array Value → Prop} (w : World) (hit : ItoaL w0 M) (hab : a ≤ M ∧ b ≤ M) (hb0 : Below w0.heap.size w0 w) (hc : CmdO 6 m a b) (h : SS S N es w) (hk : ∀ W, Below w.heap.size w W → Calls Tryz.prog 98 #[.pointer (some ⟨S, 0, none⟩), .agg #[.int .i64 6, .int .i64 a, .int .i64 b, .slice none 0 0]] W (SessQ S N' es' P W)) :
    Calls Tryz.prog 55 #[.pointer (some ⟨S, 0, none⟩), .agg #[.int .i64 6, .int .i64 a, .int .i64 b, .slice none 0 0]] w (SessQ S N' es' P w) := by
  have b1 := bel_alloc w (.cells #[.int .i64 6, .int .i64 a, .int .i64 b, .slice none 0 0] 111)
  have hz : (w.alloc (.cells #[.int .i64 6, .int .i64 a, .int .i64 b, .slice none 0 0] 111)).heap.size = w.heap.size + 1 := by simp
  have n0 := heap_alloc_new w (.cells #[.int .i64 6, .int .i64 a, .int .i64 b, .slice none 0 0] 111)
  have n1 := heap_alloc_new (w.alloc (.cells #[.int .i64 6, .int .i64 a, .int .i64 b, .slice none 0 0] 111)) (.cells (ansC 0 0) 36)
  have b2 := bel_alloc (w.alloc (.cells #[.int .i64 6, .int .i64 a, .int .i64 b, .slice none 0 0] 111)) (.cells (ansC 0 0) 36)
  rw [hz] at n1
  have n0' := blk_later n0 b2
  have HB := Lib.hid (And.intro n0' (And.intro n1 (bel_trans b1 b2)))
  have HLT := Lib.hid h.lt
  have HK := Lib.hid hk
  have HS := Lib.hid h
  have HSZ : Hid (w0.heap.size ≤ w.heap.size) := hb0.size
  have HPR : Hid (∀ W, Below w.heap.size w W → Calls Tryz.prog 74 #[.agg #[.int .i64 6, .int .i64 a, .int .i64 b, .slice none 0 0]] W fun e w' => (∃ s : ByteArray, e = .returned (.tuple #[.string s, .int .i64 0])) ∧ Below W.heap.size W w') := fun W hW => print_any W hc fun n W' hn hW' => hit n W' (by have := hc.ab; omega) (by omega) ((hb0.trans (hW.mono hb0.size)).trans (hW'.mono (by have := hW.size; have := hb0.size; omega)))
  clear h hk b1 b2 hz n0 n1 n0' hb0 hit
  have HW2 : Hid (((w.alloc (.cells #[.int .i64 6, .int .i64 a, .int .i64 b, .slice none 0 0] 111)).alloc (.cells (ansC 0 0) 36)) = ((w.alloc (.cells #[.int .i64 6, .int .i64 a, .int .i64 b, .slice none 0 0] 111)).alloc (.cells #[.int .i64 0, .int .i64 0, .slice none 0 0, .slice none 0 0, .slice none 0 0, .bool false] 36))) := rfl
  rw [HW2.out] at HB
  have hv := HB.out.1
  have d0 := (cell_blk hv 0).trans (show _ = some (Value.int .i64 6) from rfl)
  have d1 := (cell_blk hv 1).trans (show _ = some (Value.int .i64 a) from rfl)
  have d2 := (cell_blk hv 2).trans (show _ = some (Value.int .i64 b) from rfl)
  have d3 := (cell_blk hv 3).trans (show _ = some (Value.slice none 0 0) from rfl)
  clear hv HW2
  go_enter Tryz.func55, Tryz.ntmps55
  go_wp2_with fail
  generalize ((w.alloc (.cells #[.int .i64 6, .int .i64 a, .int .i64 b, .slice none 0 0] 111)).alloc (.cells #[.int .i64 0, .int .i64 0, .slice none 0 0, .slice none 0 0, .slice none 0 0, .bool false] 36)) = w2 at *
  refine (HPR.out _ HB.out.2.2).mono ?_
  rintro e w3 ⟨⟨str, rfl⟩, hb3⟩
  have HB3 := Lib.hid (bel_trans HB.out.2.2 hb3)
  have hv := blk_later HB.out.1 hb3
  have HA3 := Lib.hid (blk_later HB.out.2.1 hb3)
  have HV3 := Lib.hid hv
  clear hb3 d0 d1 d2 d3
  have d0 : w3.cell? ⟨w.heap.size, 0, none⟩ = some (.int .i64 6) := (cell_blk hv 0).trans rfl
  have d1 : w3.cell? ⟨w.heap.size, 1, none⟩ = some (.int .i64 a) := (cell_blk hv 1).trans rfl
  have d2 : w3.cell? ⟨w.heap.size, 2, none⟩ = some (.int .i64 b) := (cell_blk hv 2).trans rfl
  have d3 : w3.cell? ⟨w.heap.size, 3, none⟩ = some (.slice none 0 0) := (cell_blk hv 3).trans rfl
  have hki : ∀ W : World, (Instr.index 150 (.agg (kindsC S)) (.int .i64 6)).run Tryz.prog W = .ok (.func (.func 98) #[.pointer (some ⟨S, 0, none⟩)] #[]) W := fun W => kinds_ix S 6 (by decide) W
  clear hv
  go_wp2_with fail
  go_region_with (first
    | (go_at_call 75; refine (kinds_any w3.drew S).mono ?_; rintro e w4 ⟨rfl, hb4⟩; have HR4 := Lib.hid (bel_trans (RW.refl w3).drew hb4); have HB4 := Lib.hid (bel_trans HB3.out HR4.out); have hv4 := blk_later HV3.out HR4.out; have e0 : w4.cell? ⟨w.heap.size, 0, none⟩ = some (.int .i64 6) := (cell_blk hv4 0).trans rfl; have e1 : w4.cell? ⟨w.heap.size, 1, none⟩ = some (.int .i64 a) := (cell_blk hv4 1).trans rfl; have e2 : w4.cell? ⟨w.heap.size, 2, none⟩ = some (.int .i64 b) := (cell_blk hv4 2).trans rfl; have e3 : w4.cell? ⟨w.heap.size, 3, none⟩ = some (.slice none 0 0) := (cell_blk hv4 3).trans rfl; clear hb4 hv4)
    | (go_at_call 98; refine (HK.out _ HB4.out).mono ?_; rintro e w5 ⟨cs, rfl, hsz, h1c, hp, hs5, hm5⟩; have HC := Lib.hid (And.intro hsz (And.intro h1c hp)); have HS5 := Lib.hid (And.intro hs5 hm5); have HA5 : Hid (w5.heap[w.heap.size + 1]? = some (.cells (ansC 0 0) 36 (0, 0))) := (hm5.block _ (blk_lt (blk_later HA3.out HR4.out)) (fun q => by unfold KS at q; have := HLT.out; omega)).trans (blk_later HA3.out HR4.out); have hst := run_storeCells_row (P := Tryz.prog) w5 (w.heap.size + 1) 36 (ansC 0 0) cs HA5.out (by rw [hsz]; exact infoAns) (by rw [hsz]; rfl) h1c; clear h1c hp hs5 hm5)
    | fail)
  all_goals
    have hlt := HLT.out
    have HEND : Hid ((w5.setRow (w.heap.size + 1) cs).heap[w.heap.size + 1]? = some (.cells cs 36 (0, 0)) ∧ SS S N' es' (w5.setRow (w.heap.size + 1) cs) ∧ Mov (KS S) w (KS S) (w5.setRow (w.heap.size + 1) cs)) := by
      refine ⟨setRow_heap _ _ _ _ _ _ HA5.out, HS5.out.1.setRow HA5.out, ?_⟩
      have m := (Mov.of (K := KS S) HB4.out).trans HS5.out.2
      exact ⟨m.os, m.tape, m.output, by rw [setRow_size]; exact m.size, fun k hk hn => (setRow_other _ _ _ _ (by omega)).trans (m.block k hk hn), m.new⟩
    clear hst
    go_wp2_with fail
    (try simp only [Exit.inBlock, Exit.then])
    refine bodyPost_ret (results_cell_row (by rfl) _ _ (w.heap.size + 1) 36 cs (0, 0) _ (by rfl) HEND.out.1 Tryz.underlying36 rfl (by rw [HC.out.1]; kernel_rfl)) (by rfl) ?_
    exact ⟨_, rfl, HC.out.1, HC.out.2.1, HC.out.2.2, HEND.out.2.1, HEND.out.2.2⟩
end

section
open Go.RowKit
set_option maxHeartbeats 16000000 in
set_option maxRecDepth 100000 in
theorem line_any {s : ByteArray} {k S : Nat} {ws : List ByteArray} {a b mx N N' : Int} {es es' : List Ed} {P : Array Value → Prop} (w : World) (hl : LineO s k ws a b) (hm : w.cell? ⟨0, 0, none⟩ = some (.int .i64 mx)) (h : SS S N es w) (hdo : ∀ W, Below w.heap.size w W → Calls Tryz.prog 55 #[.pointer (some ⟨S, 0, none⟩), .agg #[.int .i64 k, .int .i64 a, .int .i64 b, .slice none 0 0]] W (SessQ S N' es' P W)) :
    Calls Tryz.prog 42 #[.agg #[.pointer (some ⟨S, 0, none⟩)], .string s] w (SessQ S N' es' P w) := by
  have b1 := bel_alloc w (.cells #[.pointer (some ⟨S, 0, none⟩)] 84)
  have hz : (w.alloc (.cells #[.pointer (some ⟨S, 0, none⟩)] 84)).heap.size = w.heap.size + 1 := by simp
  have n0 := heap_alloc_new w (.cells #[.pointer (some ⟨S, 0, none⟩)] 84)
  have n1 := heap_alloc_new (w.alloc (.cells #[.pointer (some ⟨S, 0, none⟩)] 84)) (.cells (ansC 0 0) 36)
  have b2 := bel_alloc (w.alloc (.cells #[.pointer (some ⟨S, 0, none⟩)] 84)) (.cells (ansC 0 0) 36)
  rw [hz] at n1
  have n0' := blk_later n0 b2
  have HB := Lib.hid (And.intro n0' (And.intro n1 (bel_trans b1 b2)))
  have HLT := Lib.hid h.lt
  have HDO := Lib.hid hdo
  have HPA := Lib.hid (fun W (hb : Below w.heap.size w W) => parse_any W hl (cell_later hb hm))
  clear h hdo b1 b2 hz n0 n1 n0' hl hm
  have HW2 : Hid (((w.alloc (.cells #[.pointer (some ⟨S, 0, none⟩)] 84)).alloc (.cells (ansC 0 0) 36)) = ((w.alloc (.cells #[.pointer (some ⟨S, 0, none⟩)] 84)).alloc (.cells #[.int .i64 0, .int .i64 0, .slice none 0 0, .slice none 0 0, .slice none 0 0, .bool false] 36))) := rfl
  rw [HW2.out] at HB
  clear HW2
  go_enter Tryz.func42, Tryz.ntmps42
  go_wp2_with fail
  generalize ((w.alloc (.cells #[.pointer (some ⟨S, 0, none⟩)] 84)).alloc (.cells #[.int .i64 0, .int .i64 0, .slice none 0 0, .slice none 0 0, .slice none 0 0, .bool false] 36)) = w2 at *
  refine (HPA.out _ HB.out.2.2).mono ?_
  rintro e w3 ⟨rfl, hb3⟩
  have hba := bel_alloc w3 (.cells #[.int .i64 k, .int .i64 a, .int .i64 b, .slice none 0 0] 111)
  have hn := heap_alloc_new w3 (.cells #[.int .i64 k, .int .i64 a, .int .i64 b, .slice none 0 0] 111)
  have HB4 := Lib.hid (bel_trans hb3 hba)
  have HBW4 := Lib.hid (bel_trans HB.out.2.2 HB4.out)
  have HA4 := Lib.hid (blk_later HB.out.2.1 HB4.out)
  have r0 : (w3.alloc (.cells #[.int .i64 k, .int .i64 a, .int .i64 b, .slice none 0 0] 111)).cell? ⟨w.heap.size, 0, none⟩ = some (.pointer (some ⟨S, 0, none⟩)) := (cell_blk (blk_later HB.out.1 HB4.out) 0).trans rfl
  have HD := HDO.out _ HBW4.out
  clear hb3 hba hn
  go_wp2_with fail
  refine HD.mono ?_
  rintro e w5 ⟨cs, rfl, hsz, h1c, hp, hs5, hm5⟩
  have HA5 : Hid (w5.heap[w.heap.size + 1]? = some (.cells (ansC 0 0) 36 (0, 0))) := (hm5.block _ (blk_lt HA4.out) (fun q => by unfold KS at q; have := HLT.out; omega)).trans HA4.out
  have HP5 := Lib.hid (And.intro hs5 (And.intro hm5 hp))
  have hlt := HLT.out
  have HEND : Hid ((w5.setRow (w.heap.size + 1) cs).heap[w.heap.size + 1]? = some (.cells cs 36 (0, 0)) ∧ SS S N' es' (w5.setRow (w.heap.size + 1) cs) ∧ Mov (KS S) w (KS S) (w5.setRow (w.heap.size + 1) cs)) := by
    refine ⟨setRow_heap _ _ _ _ _ _ HA5.out, hs5.setRow HA5.out, ?_⟩
    have m := (Mov.of (K := KS S) HBW4.out).trans hm5
    exact ⟨m.os, m.tape, m.output, by rw [setRow_size]; exact m.size, fun k hk hn => (setRow_other _ _ _ _ (by omega)).trans (m.block k hk hn), m.new⟩
  clear hs5 hm5 hp HD r0 hlt
  have hinf : (Tryz.prog.info? 36).map (·.size) = some cs.size := by rw [hsz]; exact infoAns
  go_wp2_with (refine wpList_store_rowTo rfl 36 (.tmp 4) (.tmp 19) rfl rfl (w.heap.size + 1) cs rfl rfl 36 _ HA5.out hinf (by rw [hsz]; rfl) h1c ?_)
  (try simp only [Exit.inBlock, Exit.then])
  refine bodyPost_ret (results_cell_row (by rfl) _ _ (w.heap.size + 1) 36 cs (0, 0) _ (by rfl) HEND.out.1 Tryz.underlying36 rfl (by rw [hsz]; kernel_rfl)) (by rfl) ?_
  exact ⟨cs, rfl, hsz, h1c, HP5.out.2.2, HEND.out.2.1, HEND.out.2.2⟩
end

end Go.Proofs.YtbnipgajhpbolaaGreatDoor
