/- The walks of the functions on one set: New, List, Fork. -/
import Derived.Test.YtnldfjoadmehcaaDoorBits2
import Derived.Deep.OwnRows
set_option linter.unusedVariables false
set_option linter.unusedSimpArgs false
namespace Go.Proofs.YtnldfjoadmehcaaDoor
open Go.RowKit Bs

/-- The room that is made for n. -/
def roomOf (n : Int) : Nat := (max 0 (min n 70000)).toNat

theorem bsum_zero : ∀ n, bsum (fun _ => false) n = 0
  | 0 => rfl
  | n + 1 => by rw [bsum, bsum_zero n]; rfl

theorem SetAt.new (w : World) (room : Nat) (hr : room ≤ 70000) :
    SetAt ((w.alloc (.cells (madeCells #[.int .u64 0] (nw room)) 46)).alloc (.cells #[.slice (some ⟨w.heap.size, 0, none⟩) (nw room) (nw room), .int .i64 room] 45)) (w.heap.size + 1) w.heap.size room (fun _ => false) := by
  refine ⟨⟨nw room, ?_, fun hp => ⟨madeCells #[.int .u64 0] (nw room), ?_, fun j hj => ?_⟩⟩, fun _ _ => rfl, hr, by simp; omega⟩
  · have := heap_alloc_new (w.alloc (.cells (madeCells #[.int .u64 0] (nw room)) 46)) (.cells #[.slice (some ⟨w.heap.size, 0, none⟩) (nw room) (nw room), .int .i64 room] 45)
    simpa using this
  · rw [Below.heap_alloc _ _ _ (by simp)]
    exact heap_alloc_new w _
  · rw [← Array.getElem?_toList, toList_madeCells_one, List.getElem?_replicate, if_pos hj]
    simp [wd, bsum_zero]

theorem new_walk (n : Int) (w : World) : Calls Tryd.prog 8 #[.int .i64 n] w fun e w' =>
    e = .returned (.pointer (some ⟨w.heap.size + 1, 0, none⟩)) ∧ w' = (w.alloc (.cells (madeCells #[.int .u64 0] (nw (roomOf n))) 46)).alloc (.cells #[.slice (some ⟨w.heap.size, 0, none⟩) (nw (roomOf n)) (nw (roomOf n)), .int .i64 (roomOf n)] 45) := by
  have mk : ∀ (C : Int) (m : Nat), C = m → m ≤ 2000 → ∀ (W : World), (Instr.makeSlice 43 (.int .i64 C) (.int .i64 C)).run Tryd.prog W = .ok (.slice (some ⟨W.heap.size, 0, none⟩) m m) (W.alloc (.cells (madeCells #[.int .u64 0] m) 46)) := by
    intro C m hC hm W
    subst hC
    exact run_make_row' 43 46 (.int .u64 0) 8 Tryd.underlying43 (by kernel_rfl) rfl .i64 .i64 m (by omega) (by omega) W
  by_cases h0 : n < 0
  · have hr : roomOf n = 0 := by unfold roomOf; omega
    have hmk := mk 0 (nw 0) (by decide) (by decide)
    rw [hr]
    clear mk hr
    go_enter Tryd.func8, Tryd.ntmps8
    go_wp2
    go_ret
    exact ⟨rfl, rfl⟩
  · by_cases h1 : 70000 < n
    · have hr : roomOf n = 70000 := by unfold roomOf; omega
      have hmk := mk 1094 (nw 70000) (by decide) (by decide)
      rw [hr]
      clear mk hr
      go_enter Tryd.func8, Tryd.ntmps8
      go_wp2
      go_ret
      exact ⟨rfl, rfl⟩
    · have hr : (roomOf n : Int) = n := by unfold roomOf; omega
      have hmk := mk ((n + 64 - 1) / 64) (nw (roomOf n)) (by unfold nw; omega) (by unfold nw; omega)
      generalize hR : nw (roomOf n) = R at *
      have HR := Lib.hid hr
      clear mk hR
      rw [hr]
      clear hr
      go_enter Tryd.func8, Tryd.ntmps8
      go_wp2
      go_ret
      exact ⟨rfl, rfl⟩

theorem new_any (n : Int) (w : World) : Calls Tryd.prog 8 #[.int .i64 n] w fun e w' =>
    ∃ g h, e = .returned (.pointer (some ⟨g, 0, none⟩)) ∧ SetAt w' g h (roomOf n) (fun _ => false) ∧ Below w.heap.size w w' ∧ w.heap.size ≤ g ∧ w.heap.size ≤ h := by
  refine (new_walk n w).mono ?_
  rintro e w' ⟨rfl, rfl⟩
  exact ⟨_, _, rfl, SetAt.new w _ (by unfold roomOf; omega), ((Below.refl _ _).alloc (Nat.le_refl _) _).alloc (by simp) _, by omega, Nat.le_refl _⟩

theorem SetAt.lt {w : World} {g h room : Nat} {f : Nat → Bool} (s : SetAt w g h room f) : g < w.heap.size := by
  obtain ⟨cap, hg, _⟩ := s.head
  exact (Array.getElem?_eq_some_iff.1 hg).1

theorem SetAt.keep {w w' : World} {g h room : Nat} {f : Nat → Bool} (s : SetAt w g h room f) (hs : w.heap.size ≤ w'.heap.size) (hg : w'.heap[g]? = w.heap[g]?) (hh : w'.heap[h]? = w.heap[h]?) : SetAt w' g h room f := by
  obtain ⟨⟨cap, h1, h2⟩, ho, hr, hl⟩ := s
  refine ⟨⟨cap, hg.trans h1, fun hp => ?_⟩, ho, hr, by omega⟩
  obtain ⟨cs, h3, h4⟩ := h2 hp
  exact ⟨cs, hh.trans h3, h4⟩

theorem SetAt.below {w w' : World} {g h room : Nat} {f : Nat → Bool} (s : SetAt w g h room f) (hb : Below w.heap.size w w') : SetAt w' g h room f :=
  s.keep hb.size (hb.block g s.lt) (hb.block h s.wlt)

theorem TabAt.below {w w' : World} (s : TabAt w) (hb : Below w.heap.size w w') : TabAt w' := fun j hj =>
  (hb.cell (p := ⟨0, j, none⟩) (World.block_lt_of_cell? w _ (s j hj))).trans (s j hj)

/-- The numbers that are in, of d from k on. -/
def lst (f : Nat → Bool) : Nat → Nat → List Int
  | 0, _ => []
  | d + 1, k => if f k then (k : Int) :: lst f d (k + 1) else lst f d (k + 1)

theorem lst_length (f : Nat → Bool) : ∀ d k, (lst f d k).length ≤ d
  | 0, _ => Nat.le_refl _
  | d + 1, k => by
    have := lst_length f d (k + 1)
    rw [lst]
    split
    · simp only [List.length_cons]
      omega
    · omega

theorem lst_scan (f : Nat → Bool) (room : Nat) : ∀ d k, k + d = room → (scan f d k < 0 → lst f d k = []) ∧ (0 ≤ scan f d k → (k : Int) ≤ scan f d k ∧ scan f d k < room ∧ lst f d k = scan f d k :: lst f (room - ((scan f d k).toNat + 1)) ((scan f d k).toNat + 1))
  | 0, k, h => by
    simp [scan, lst]
  | d + 1, k, h => by
    have ih := lst_scan f room d (k + 1) (by omega)
    rw [scan, lst]
    by_cases hf : f k = true
    · rw [if_pos hf, if_pos hf]
      refine ⟨fun hn => by omega, fun _ => ⟨by omega, by omega, ?_⟩⟩
      rw [show room - ((k : Int).toNat + 1) = d from by omega, show (k : Int).toNat + 1 = k + 1 from by omega]
    · rw [if_neg hf, if_neg hf]
      exact ⟨ih.1, fun hp => ⟨by have := (ih.2 hp).1; omega, (ih.2 hp).2⟩⟩

/-- The numbers in a set, rising. -/
def listOf (f : Nat → Bool) (room : Nat) : List Int := lst f room 0

/-- The measure of the walk from number to number. -/
def left (room : Nat) (i : Int) : Nat := if i < 0 then 0 else room + 1 - i.toNat

theorem list_any {g h room : Nat} {f : Nat → Bool} (w : World) (s : SetAt w g h room f) (hT : TabAt w) :
    Calls Tryd.prog 15 #[.pointer (some ⟨g, 0, none⟩)] w fun e w' => ∃ v, e = .returned v ∧ OwnI w' w.heap.size v (listOf f room) ∧ Below w.heap.size w w' := by
  have hr := s.room
  go_enter Tryd.func15, Tryd.ntmps15
  go_wp2_with (go_at_call 12; refine (least_any _ _ s hT).mono ?_; rintro e w' ⟨rfl, rfl⟩)
  go_loopw [3, 4] (fun v i wr => ∃ (xs : List Int) (p : Nat), Hid (xs ++ lst f (room - p) p = listOf f room) ∧ OwnI wr w.heap.size v xs ∧ Below w.heap.size w wr ∧ p ≤ room ∧ i = .int .i64 (scan f (room - p) p)) (fun _ i _ => left room (intOf i))
  case atStart => exact ⟨[], 0, rfl, World.ownsRow_nil _ _ _ _, Below.refl _ _, Nat.zero_le _, rfl⟩
  case round =>
    obtain ⟨xs, p, hxs, hown, hbel, hp, rfl⟩ := hrel
    have hl := lst_scan f room (room - p) p (by omega)
    by_cases hneg : scan f (room - p) p < 0
    · have hx := hl.1 hneg
      rw [hx, List.append_nil] at hxs
      clear hl hx
      generalize scan f (room - p) p = q at *
      go_wp2
      go_ret
      refine ⟨_, rfl, ?_, hbel⟩
      rw [← hxs.out]
      exact hown
    · obtain ⟨h1, h2, h3⟩ := hl.2 (by omega)
      have HX : Hid ((xs ++ [scan f (room - p) p]) ++ lst f (room - ((scan f (room - p) p).toNat + 1)) ((scan f (room - p) p).toNat + 1) = listOf f room) := by
        rw [List.append_assoc, List.singleton_append, ← h3]
        exact hxs
      have hlen : xs.length ≤ 70000 := by
        have e := congrArg List.length hxs.out
        have := lst_length f room 0
        rw [List.length_append] at e
        unfold listOf at e
        omega
      clear hl h3 hxs
      generalize scan f (room - p) p = q at *
      go_wp2_with (first | (at_builtin; refine app_int (W := wr) (w0 := w) w.heap.size rfl _ _ rfl u3 xs q rfl rfl hown hbel hbel.size (by omega) ?_; intro v1 w1 hown1 hbel1 hg1 _; have s1 := s.below hbel1; have t1 := hT.below hbel1) | (go_at_call 12; refine (least_any (q + 1) _ (by assumption) (by assumption)).mono ?_; rintro e w' ⟨rfl, rfl⟩))
      go_roundw
      case rel => exact ⟨xs ++ [q], q.toNat + 1, HX, hown1, hbel1, by omega, by unfold least; rw [show (q + 1).toNat = q.toNat + 1 from by omega]⟩
      case measure =>
        have hs := lst_scan f room (room - (q.toNat + 1)) (q.toNat + 1) (by omega)
        have e : least f room (q + 1) = scan f (room - (q.toNat + 1)) (q.toNat + 1) := by unfold least; rw [show (q + 1).toNat = q.toNat + 1 from by omega]
        simp [intOf, e]
        generalize scan f (room - (q.toNat + 1)) (q.toNat + 1) = r at *
        have hq : left room q = room + 1 - q.toNat := if_neg (by omega)
        rw [hq]
        unfold left
        split
        · omega
        · have := (hs.2 (by omega)).1
          omega

theorem list_nil (w : World) : Calls Tryd.prog 15 #[.pointer none] w fun e w' => e = .returned (.slice none 0 0) ∧ w = w' := by
  go_enter Tryd.func15, Tryd.ntmps15
  go_wp2_with (go_at_call 12; refine (least_nil _ _).mono ?_; rintro e w' ⟨rfl, rfl⟩)
  go_loop [3, 4] (fun v k => v = .slice none 0 0 ∧ k = .int .i64 (-1)) (fun _ _ => 0)
  case atStart => exact ⟨rfl, rfl⟩
  case round =>
    obtain ⟨rfl, rfl⟩ := hrel
    go_wp2
    go_ret
    exact ⟨rfl, rfl⟩

end Go.Proofs.YtnldfjoadmehcaaDoor
