/- The walks of the functions on one set: may, Has, Put, Drop, Len, Least, New. -/
import Derived.Test.YtnldfjoadmehcaaDoorKit
import Derived.Test.YtnldfjoadmehcaaDoorPure2
import Derived.Lib.TrailingZeros
import Derived.WalkKit
import Derived.WalkSpells
import Derived.Laws.Bits64b
import Derived.BigRegion
import Derived.Lib.Hide
set_option linter.unusedVariables false
set_option linter.unusedSimpArgs false
namespace Go.Proofs.YtnldfjoadmehcaaDoor
open Go.RowKit Bs

/-- How many words a set of so much room has. -/
def nw (room : Nat) : Nat := (room + 63) / 64

/-- At block g lies a set with room for the numbers below room, of which those of f are in; its words lie at block h. -/
structure SetAt (w : World) (g h room : Nat) (f : Nat → Bool) : Prop where
  head : ∃ cap, w.heap[g]? = some (.cells #[.slice (some ⟨h, 0, none⟩) (nw room) cap, .int .i64 room] 45 (0, 0)) ∧
    (0 < nw room → ∃ cs, w.heap[h]? = some (.cells cs 46 (0, 0)) ∧ ∀ j, j < nw room → cs[j]? = some (.int .u64 (wd f j)))
  out : ∀ k, room ≤ k → f k = false
  room : room ≤ 70000
  wlt : h < w.heap.size

theorem SetAt.cell1 {w : World} {g h room : Nat} {f : Nat → Bool} (s : SetAt w g h room f) : w.cell? ⟨g, 1, none⟩ = some (.int .i64 room) := by
  obtain ⟨cap, hg, _⟩ := s.head
  rw [cell_blk hg]
  rfl

/-- What the walk is told of word j. -/
theorem SetAt.word {w : World} {g h room : Nat} {f : Nat → Bool} (s : SetAt w g h room f) (j : Nat) (hj : j < nw room) :
    ∃ cap, w.cell? ⟨g, 0, none⟩ = some (.slice (some ⟨h, 0, none⟩) (nw room) cap) ∧ w.cell? ⟨h, j, none⟩ = some (.int .u64 (wd f j)) ∧ w.frozen? ⟨h, j, none⟩ = false := by
  obtain ⟨cap, hg, hw⟩ := s.head
  obtain ⟨cs, hh, hc⟩ := hw (by omega)
  exact ⟨cap, by rw [cell_blk hg]; rfl, by rw [cell_blk hh, hc j hj], frozen_blk hh j⟩

theorem nw_lt {room k : Nat} (h : k < room) : k / 64 < nw room := by
  unfold nw
  omega

theorem may_nil (k : Int) (w : World) : Calls Tryd.prog 25 #[.pointer none, .int .i64 k] w fun e w' => e = .returned (.bool false) ∧ w = w' := by
  go_enter Tryd.func25, Tryd.ntmps25
  go_wp2
  go_ret
  exact ⟨rfl, rfl⟩

theorem may_any (g : Nat) (k room : Int) (w : World) (hc : w.cell? ⟨g, 1, none⟩ = some (.int .i64 room)) : Calls Tryd.prog 25 #[.pointer (some ⟨g, 0, none⟩), .int .i64 k] w fun e w' => e = .returned (.bool (decide (0 ≤ k ∧ k < room))) ∧ w = w' := by
  by_cases h : 0 ≤ k
  · go_enter Tryd.func25, Tryd.ntmps25
    go_wp2
    go_ret
    simp [h]
  · have h' : decide (0 ≤ k) = false := by simpa using h
    go_enter Tryd.func25, Tryd.ntmps25
    go_wp2
    go_ret
    simp [h]

/-- Is the number k in? -/
def hasI (f : Nat → Bool) (k : Int) : Bool := decide (0 ≤ k) && f k.toNat

theorem has_nil (k : Int) (w : World) : Calls Tryd.prog 18 #[.pointer none, .int .i64 k] w fun e w' => e = .returned (.bool false) ∧ w = w' := by
  go_enter Tryd.func18, Tryd.ntmps18
  go_wp2_with (go_at_call 25; refine (may_nil k _).mono ?_; rintro e w' ⟨rfl, rfl⟩)
  go_ret
  exact ⟨rfl, rfl⟩

theorem has_any {g h room : Nat} {f : Nat → Bool} (k : Int) (w : World) (s : SetAt w g h room f) :
    Calls Tryd.prog 18 #[.pointer (some ⟨g, 0, none⟩), .int .i64 k] w fun e w' => e = .returned (.bool (hasI f k)) ∧ w = w' := by
  have hc := s.cell1
  have hm := may_any g k room w hc
  by_cases h0 : 0 ≤ k ∧ k < room
  · have hr := s.room
    obtain ⟨cap, hw, hx, _⟩ := s.word (k / 64).toNat (by have := @nw_lt room k.toNat (by omega); omega)
    have hlt' : k / 64 < (nw room : Int) := by have := @nw_lt room k.toNat (by omega); omega
    have a1 : 0 ≤ k / 64 := by omega
    have a2 : 0 ≤ k % 64 := by omega
    have a3 : k % 64 < 64 := by omega
    have a4 : 0 ≤ k := h0.1
    have a5 : k ≤ 70000 := by omega
    have hb := has_bit f (k / 64).toNat (k % 64).toNat (by omega)
    rw [show 64 * (k / 64).toNat + (k % 64).toNat = k.toNat from by omega] at hb
    have hmm : Calls Tryd.prog 25 #[.pointer (some ⟨g, 0, none⟩), .int .i64 k] w fun e w' => e = .returned (.bool true) ∧ w = w' := by
      refine hm.mono ?_
      rintro e w' ⟨rfl, rfl⟩
      simp [h0]
    have Hb := Lib.hid hb
    clear hb hm
    go_enter Tryd.func18, Tryd.ntmps18
    go_wp2_with (go_at_call 25; refine hmm.mono ?_; rintro e w' ⟨rfl, rfl⟩)
    go_ret
    refine ⟨?_, rfl⟩
    simp [hasI, a4, ← Hb.out]
  · have hmm : Calls Tryd.prog 25 #[.pointer (some ⟨g, 0, none⟩), .int .i64 k] w fun e w' => e = .returned (.bool false) ∧ w = w' := by
      refine hm.mono ?_
      rintro e w' ⟨rfl, rfl⟩
      simp [h0]
    have hf : hasI f k = false := by
      unfold hasI
      by_cases h1 : 0 ≤ k
      · simp [h1]
        exact s.out _ (by omega)
      · simp [h1]
    rw [hf]
    clear hf hm
    go_enter Tryd.func18, Tryd.ntmps18
    go_wp2_with (go_at_call 25; refine hmm.mono ?_; rintro e w' ⟨rfl, rfl⟩)
    go_ret
    exact ⟨rfl, rfl⟩

/-- A store of a word: the set is another one; its words' block alone has turned. -/
theorem SetAt.store {w : World} {g h room : Nat} {f f' : Nat → Bool} (s : SetAt w g h room f) (j : Nat) (hj : j < nw room)
    (ho : ∀ i, i ≠ j → wd f' i = wd f i) (hout : ∀ k, room ≤ k → f' k = false) : SetAt (w.setCell ⟨h, j, none⟩ (.int .u64 (wd f' j))) g h room f' := by
  obtain ⟨⟨cap, hg, hw⟩, _, hr, hlt⟩ := s
  obtain ⟨cs, hh, hc⟩ := hw (by omega)
  have hne : g ≠ h := by
    rintro rfl
    rw [hg] at hh
    injection hh with hh
    injection hh with _ ht
    exact absurd ht (by decide)
  refine ⟨⟨cap, (Below.heap_setCell w _ _ g hne).trans hg, fun _ => ⟨cs.setIfInBounds j (.int .u64 (wd f' j)), ?_, ?_⟩⟩, hout, hr, by simpa [World.setCell] using hlt⟩
  · simp [World.setCell, Array.getElem?_modify, hh]
  · intro i hi
    rw [Array.getElem?_setIfInBounds]
    by_cases hij : i = j
    · subst hij
      have : i < cs.size := by
        have := hc i hi
        exact (Array.getElem?_eq_some_iff.1 this).1
      simp [this]
    · rw [if_neg (fun e => hij e.symm), hc i hi, ho i hij]

theorem SetAt.of_heap {w w' : World} {g h room : Nat} {f : Nat → Bool} (s : SetAt w g h room f) (e : w'.heap = w.heap) : SetAt w' g h room f := by
  obtain ⟨hd, ho, hr, hl⟩ := s
  exact ⟨by rw [e]; exact hd, ho, hr, by rw [e]; exact hl⟩

theorem grown_store (w : World) (h j : Nat) (v : Value) : w.grownBy (w.setCell ⟨h, j, none⟩ v) (some h) :=
  ⟨rfl, rfl, rfl, by simp [World.setCell], fun k _ hk => Below.heap_setCell w _ _ k (fun e => hk (by rw [e]))⟩

theorem grown_drew {w w' : World} {row : Option Nat} (h : w.grownBy w' row) : w.grownBy w'.drew row := ⟨h.os, h.tape, h.output, h.size, h.block⟩

theorem put_nil (k : Int) (w : World) : Calls Tryd.prog 10 #[.pointer none, .int .i64 k] w fun e w' => e = .returned (.bool false) ∧ w = w' := by
  go_enter Tryd.func10, Tryd.ntmps10
  go_wp2_with (go_at_call 25; refine (may_nil k _).mono ?_; rintro e w' ⟨rfl, rfl⟩)
  go_ret
  exact ⟨rfl, rfl⟩

theorem put_no {g h room : Nat} {f : Nat → Bool} (k : Int) (w : World) (s : SetAt w g h room f) (hn : ¬ (0 ≤ k ∧ k < room ∧ f k.toNat = false)) :
    Calls Tryd.prog 10 #[.pointer (some ⟨g, 0, none⟩), .int .i64 k] w fun e w' => e = .returned (.bool false) ∧ w = w' := by
  have hm := may_any g k room w s.cell1
  have hh := has_any k w s
  by_cases h0 : 0 ≤ k ∧ k < room
  · have hf : hasI f k = true := by
      have : ¬ f k.toNat = false := fun e => hn ⟨h0.1, h0.2, e⟩
      simp [hasI, h0, this]
    rw [hf] at hh
    simp only [h0, and_self, decide_true] at hm
    clear hf
    go_enter Tryd.func10, Tryd.ntmps10
    go_wp2_with (first | (go_at_call 25; refine hm.mono ?_; rintro e w' ⟨rfl, rfl⟩) | (go_at_call 18; refine hh.mono ?_; rintro e w' ⟨rfl, rfl⟩))
    go_ret
    exact ⟨rfl, rfl⟩
  · simp only [h0, decide_false] at hm
    clear hh
    go_enter Tryd.func10, Tryd.ntmps10
    go_wp2_with (go_at_call 25; refine hm.mono ?_; rintro e w' ⟨rfl, rfl⟩)
    go_ret
    exact ⟨rfl, rfl⟩

theorem put_yes {g h room : Nat} {f : Nat → Bool} (k : Int) (w : World) (s : SetAt w g h room f) (h0 : 0 ≤ k) (h1 : k < room) (hk : f k.toNat = false) :
    Calls Tryd.prog 10 #[.pointer (some ⟨g, 0, none⟩), .int .i64 k] w fun e w' => e = .returned (.bool true) ∧ SetAt w' g h room (ins f k.toNat) ∧ w.grownBy w' (some h) ∧ w'.heap.size = w.heap.size := by
  have hm := may_any g k room w s.cell1
  have hh := has_any k w s
  have hr := s.room
  have hf : hasI f k = false := by simp [hasI, hk]
  rw [hf] at hh
  simp only [h0, h1, and_self, decide_true] at hm
  have hj : (k / 64).toNat < nw room := by have := @nw_lt room k.toNat (by omega); omega
  obtain ⟨cap, hw, hx, hz⟩ := s.word (k / 64).toNat hj
  have hlt' : k / 64 < (nw room : Int) := by have := @nw_lt room k.toNat (by omega); omega
  have a1 : 0 ≤ k / 64 := by omega
  have a2 : 0 ≤ k % 64 := by omega
  have a3 : k % 64 < 64 := by omega
  have a5 : k ≤ 70000 := by omega
  clear hf
  go_enter Tryd.func10, Tryd.ntmps10
  go_wp2_with (first | (go_at_call 25; refine hm.mono ?_; rintro e w' ⟨rfl, rfl⟩) | (go_at_call 18; refine hh.mono ?_; rintro e w' ⟨rfl, rfl⟩))
  go_region
  go_wp2
  go_ret
  refine ⟨rfl, ?_, ?_, by simp [World.setCell]⟩
  · have hb := or_bit f (k / 64).toNat (k % 64).toNat (by omega)
    rw [pow_wrap _ (by omega), hb, show 64 * (k / 64).toNat + (k % 64).toNat = k.toNat from by omega]
    refine SetAt.of_heap (s.store _ hj (fun i hi => wd_ins_ne f i _ (by omega)) fun i hi => ?_) rfl
    unfold ins
    rw [if_neg (by omega)]
    exact s.out i hi
  · exact grown_drew (grown_store w h _ _)

theorem drop_no {g h room : Nat} {f : Nat → Bool} (k : Int) (w : World) (s : SetAt w g h room f) (hn : hasI f k = false) :
    Calls Tryd.prog 17 #[.pointer (some ⟨g, 0, none⟩), .int .i64 k] w fun e w' => e = .returned (.bool false) ∧ w = w' := by
  have hh := has_any k w s
  rw [hn] at hh
  clear hn
  go_enter Tryd.func17, Tryd.ntmps17
  go_wp2_with (go_at_call 18; refine hh.mono ?_; rintro e w' ⟨rfl, rfl⟩)
  go_ret
  exact ⟨rfl, rfl⟩

theorem drop_nil (k : Int) (w : World) : Calls Tryd.prog 17 #[.pointer none, .int .i64 k] w fun e w' => e = .returned (.bool false) ∧ w = w' := by
  go_enter Tryd.func17, Tryd.ntmps17
  go_wp2_with (go_at_call 18; refine (has_nil k _).mono ?_; rintro e w' ⟨rfl, rfl⟩)
  go_ret
  exact ⟨rfl, rfl⟩

theorem hasI_lt {w : World} {g h room : Nat} {f : Nat → Bool} (s : SetAt w g h room f) {k : Int} (hk : hasI f k = true) : 0 ≤ k ∧ k < room := by
  unfold hasI at hk
  simp only [Bool.and_eq_true, decide_eq_true_eq] at hk
  refine ⟨hk.1, ?_⟩
  by_cases h1 : k < room
  · exact h1
  · have := s.out k.toNat (by omega)
    rw [hk.2] at this
    cases this

theorem drop_yes {g h room : Nat} {f : Nat → Bool} (k : Int) (w : World) (s : SetAt w g h room f) (hk : hasI f k = true) :
    Calls Tryd.prog 17 #[.pointer (some ⟨g, 0, none⟩), .int .i64 k] w fun e w' => e = .returned (.bool true) ∧ SetAt w' g h room (del f k.toNat) ∧ w.grownBy w' (some h) ∧ w'.heap.size = w.heap.size := by
  obtain ⟨h0, h1⟩ := hasI_lt s hk
  have hh := has_any k w s
  have hr := s.room
  rw [hk] at hh
  have hj : (k / 64).toNat < nw room := by have := @nw_lt room k.toNat (by omega); omega
  obtain ⟨cap, hw, hx, hz⟩ := s.word (k / 64).toNat hj
  have hlt' : k / 64 < (nw room : Int) := by have := @nw_lt room k.toNat (by omega); omega
  have a1 : 0 ≤ k / 64 := by omega
  have a2 : 0 ≤ k % 64 := by omega
  have a3 : k % 64 < 64 := by omega
  have a5 : k ≤ 70000 := by omega
  clear hk
  go_enter Tryd.func17, Tryd.ntmps17
  go_wp2_with (go_at_call 18; refine hh.mono ?_; rintro e w' ⟨rfl, rfl⟩)
  go_region
  go_wp2
  go_ret
  refine ⟨rfl, ?_, ?_, by simp [World.setCell]⟩
  · have hb := andNot_bit f (k / 64).toNat (k % 64).toNat (by omega)
    rw [pow_wrap _ (by omega), hb, show 64 * (k / 64).toNat + (k % 64).toNat = k.toNat from by omega]
    refine SetAt.of_heap (s.store _ hj (fun i hi => wd_del_ne f i _ (by omega)) fun i hi => ?_) rfl
    unfold del
    split
    · rfl
    · exact s.out i hi
  · exact grown_drew (grown_store w h _ _)

theorem ones_core (x y1 y2 y3 y4 y5 y6 : Nat) (w : World)
    (e1 : IntKind.u64.wrap (bits BinOp.and IntKind.u64 ((x : Int) / 2) 6148914691236517205 + bits BinOp.and IntKind.u64 x 6148914691236517205) = (y1 : Int))
    (e2 : IntKind.u64.wrap (bits BinOp.and IntKind.u64 ((y1 : Int) / 4) 3689348814741910323 + bits BinOp.and IntKind.u64 y1 3689348814741910323) = (y2 : Int))
    (e3 : bits BinOp.and IntKind.u64 (IntKind.u64.wrap ((y2 : Int) / 16 + y2)) 1085102592571150095 = (y3 : Int))
    (e4 : IntKind.u64.wrap ((y3 : Int) + (y3 : Int) / 256) = (y4 : Int))
    (e5 : IntKind.u64.wrap ((y4 : Int) + (y4 : Int) / 65536) = (y5 : Int))
    (e6 : IntKind.u64.wrap ((y5 : Int) + (y5 : Int) / 4294967296) = (y6 : Int))
    (e7 : bits BinOp.and IntKind.i64 (wrap64 (y6 : Int)) 127 = ((y6 % 128 : Nat) : Int)) :
    Calls Tryd.prog 26 #[.int .u64 x] w fun e w' => e = .returned (.int .i64 (y6 % 128 : Nat)) ∧ w = w' := by
  go_enter Tryd.func26, Tryd.ntmps26
  go_wp2
  go_ret
  exact ⟨congrArg (fun x => Ending.returned (.int .i64 x)) (by simp), rfl⟩

theorem ones_any (f : Nat → Bool) (w : World) : Calls Tryd.prog 26 #[.int .u64 (bsum f 64 : Nat)] w fun e w' => e = .returned (.int .i64 (cnt f 64 : Nat)) ∧ w = w' := by
  have l1 := dsum4_lt (d1 f) (fun j => by have := d1_le f j; omega)
  have l2 := dsum16_lt (d2 f) (fun j => by have := d2_le f j; omega)
  have l3 := dsum256_lt (d3 f) (fun j => by have := d3_le f j; omega)
  have l4 := dsum256_lt (d4 f) (fun j => by have := d4_le f j; omega)
  have l5 := dsum256_lt (d5 f) (fun j => by have := d5_le f j; omega)
  have l6 := dsum256_lt (d6 f) (fun j => by have := d6_le f j; omega)
  have l2' : dsum 16 (d2 f) 16 / 16 + dsum 16 (d2 f) 16 < 18446744073709551616 := by
    rw [dsum_div 16 15 _ (by have := d2_le f 0; omega) (d2_z f 16 (by omega)), dsum_add]
    exact dsum16_lt _ (fun j => by have := d2_le f (j + 1); have := d2_le f j; omega)
  have h := ones_core (bsum f 64) _ _ _ _ _ _ w (go1 _ _ (bsum_lt f 64) l1 (s1 f)) (go2 _ _ l1 l2 (s2 f)) (go3 _ _ l2' (s3 f)) (go4 _ _ l4 (s4 f)) (go5 _ _ l5 (s5 f)) (go6 _ _ l6 (s6 f)) (go7 _ l6)
  have e : dsum 256 (d6 f) 8 % 128 = cnt f 64 := by
    rw [← pcount_is]
    unfold pcount
    rw [s1, s2, s3, s4, s5, s6]
  rw [e] at h
  exact h

end Go.Proofs.YtnldfjoadmehcaaDoor
