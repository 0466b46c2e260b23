/- The walks of made, Join, Less, Common, Fork, Rises. -/
import Derived.Test.YtnldfjoadmehcaaDoorBits4
set_option linter.unusedVariables false
set_option linter.unusedSimpArgs false
namespace Go.Proofs.YtnldfjoadmehcaaDoor
open Go.RowKit Bs

/-- A set with k put in, if there is room. -/
def putF (room : Nat) (f : Nat → Bool) (k : Int) : Nat → Bool := fun i => f i || decide (i < room ∧ (i : Int) = k)
/-- The numbers of a list for which there is room. -/
def memF (room : Nat) (xs : List Int) : Nat → Bool := fun i => decide (i < room ∧ (i : Int) ∈ xs)

theorem memF_nil (room : Nat) : memF room [] = fun _ => false := by
  funext i
  simp [memF]
theorem memF_snoc (room : Nat) (xs : List Int) (k : Int) : memF room (xs ++ [k]) = putF room (memF room xs) k := by
  funext i
  unfold memF putF
  rw [Bool.eq_iff_iff]
  simp
  constructor
  · rintro ⟨h, h1 | h1⟩
    · exact .inl ⟨h, h1⟩
    · exact .inr ⟨h, h1⟩
  · rintro (⟨h, h1⟩ | ⟨h, h1⟩)
    · exact ⟨h, .inl h1⟩
    · exact ⟨h, .inr h1⟩

/-- A set without k. -/
def delF (f : Nat → Bool) (k : Int) : Nat → Bool := fun i => f i && !decide ((i : Int) = k)

/-- What Put answers. -/
def putB (room : Nat) (f : Nat → Bool) (k : Int) : Bool := decide (0 ≤ k ∧ k < room) && !f k.toNat

theorem put_any {g h room : Nat} {f : Nat → Bool} (k : Int) (w : World) (s : SetAt w g h room f) :
    Calls Tryd.prog 10 #[.pointer (some ⟨g, 0, none⟩), .int .i64 k] w fun e w' => e = .returned (.bool (putB room f k)) ∧ SetAt w' g h room (putF room f k) ∧ w.grownBy w' (some h) ∧ w'.heap.size = w.heap.size := by
  by_cases hy : 0 ≤ k ∧ k < room ∧ f k.toNat = false
  · refine (put_yes k w s hy.1 hy.2.1 hy.2.2).mono ?_
    rintro e w' ⟨rfl, s1, g1, z1⟩
    have e : putF room f k = ins f k.toNat := by
      funext i
      unfold putF ins
      by_cases hi : i = k.toNat
      · have h1 : i < room ∧ (i : Int) = k := by omega
        simp [hi, h1, hy]
        omega
      · have h1 : ¬ (i : Int) = k := by omega
        simp [hi, h1]
    rw [e]
    exact ⟨by simp [putB, hy], s1, g1, z1⟩
  · refine (put_no k w s hy).mono ?_
    rintro e w' ⟨rfl, rfl⟩
    have e : putF room f k = f := by
      funext i
      unfold putF
      by_cases h1 : i < room ∧ (i : Int) = k
      · have : f i = true := by
          have h2 : ¬ f k.toNat = false := fun h3 => hy ⟨by omega, by omega, h3⟩
          rw [show i = k.toNat from by omega]
          simpa using h2
        simp [this]
      · simp [h1]
    rw [e]
    refine ⟨?_, s, World.grownBy.refl _ _, rfl⟩
    have : putB room f k = false := by
      unfold putB
      by_cases h1 : 0 ≤ k ∧ k < room
      · have h2 : f k.toNat = true := by
          have : ¬ f k.toNat = false := fun h3 => hy ⟨h1.1, h1.2, h3⟩
          simpa using this
        simp [h2]
      · simp [h1]
    rw [this]

theorem made_any {A : Option Addr} {n c : Nat} {xs : List Int} (r : Int) (w : World) (hx : ReadI w A n xs) :
    Calls Tryd.prog 13 #[.int .i64 r, .slice A n c] w fun e w' =>
      ∃ g h, e = .returned (.pointer (some ⟨g, 0, none⟩)) ∧ SetAt w' g h (roomOf r) (memF (roomOf r) (xs.take 60)) ∧ Below w.heap.size w w' ∧ w.heap.size ≤ g ∧ w.heap.size ≤ h := by
  have h2 := hx.2.1
  have H1 := Lib.hid hx.1
  go_enter Tryd.func13, Tryd.ntmps13
  go_wp2_with fail
  refine (new_any r _).mono ?_
  rintro e w1 ⟨g, h, rfl, s1, b1, hg, hh⟩
  go_wp2_with fail
  go_loopw [6] (fun i wr => ∃ k : Nat, k ≤ n ∧ k ≤ 60 ∧ i = .int .i64 k ∧ SetAt wr g h (roomOf r) (memF (roomOf r) (xs.take k)) ∧ Below w.heap.size w wr) (fun i _ => 60 - (intOf i).toNat)
  case atStart => exact ⟨0, Nat.zero_le _, by omega, rfl, by rw [List.take_zero, memF_nil]; exact s1, b1⟩
  case round =>
    obtain ⟨k, hk, hk6, rfl, sr, br⟩ := hrel
    by_cases hlt : k < n ∧ k < 60
    · obtain ⟨hl1, hl2⟩ := hlt
      obtain ⟨b, o, rfl, hc⟩ := (hx.below br).2.2 (by omega)
      have hck := hc k hl1
      have ht := take_succ_eq (xs := xs) (k := k) (by have := H1.out; omega)
      have HT := Lib.hid ht
      have hkn : (k : Int) < n := by omega
      have hk60 : decide ((k : Int) < 60) = true := by simp; omega
      clear hc ht
      go_wp2_with (go_at_call 10; refine (put_any _ _ sr).mono ?_; rintro e w2 ⟨rfl, s2, g2, z2⟩; clear z2)
      go_roundw
      case rel => exact ⟨k + 1, by omega, by omega, by go_num, by rw [HT.out, memF_snoc]; exact s2, below_word br g2 hh br.size⟩
      case measure => simp [intOf]; omega
    · have hend : Hid (xs.take k = xs.take 60) := by
        rcases Nat.lt_or_ge k n with h3 | h3
        · have : k = 60 := by omega
          rw [this]
          rfl
        · show xs.take k = xs.take 60
          have := H1.out
          rw [List.take_of_length_le (by omega), List.take_of_length_le (by omega)]
      by_cases h3 : k < n
      · have hk60 : decide ((k : Int) < 60) = false := by simp; omega
        go_wp2
        go_ret
        exact ⟨g, h, rfl, by rw [← hend.out]; exact sr, br, hg, hh⟩
      · go_wp2
        go_ret
        exact ⟨g, h, rfl, by rw [← hend.out]; exact sr, br, hg, hh⟩

/-- What each does with the numbers of a list, one by one: how often it was so, and the set behind it. -/
def run_put (room : Nat) (f : Nat → Bool) (xs : List Int) : Nat × (Nat → Bool) := xs.foldl (fun p k => (p.1 + (if putB room p.2 k then 1 else 0), putF room p.2 k)) (0, f)
theorem run_put_snoc (room : Nat) (f : Nat → Bool) (xs : List Int) (k : Int) : run_put room f (xs ++ [k]) = (let p := run_put room f xs; (p.1 + (if putB room p.2 k then 1 else 0), putF room p.2 k)) := by
  rw [run_put, List.foldl_append]
  rfl
theorem run_put_le (room : Nat) (f : Nat → Bool) (xs : List Int) : (run_put room f xs).1 ≤ xs.length := by
  suffices h : ∀ (xs : List Int) (p : Nat × (Nat → Bool)), (xs.foldl (fun p k => (p.1 + (if putB room p.2 k then 1 else 0), putF room p.2 k)) p).1 ≤ p.1 + xs.length by
    simpa [run_put] using h xs (0, f)
  intro xs
  induction xs with
  | nil => intro p; simp
  | cons k xs ih =>
    intro p
    rw [List.foldl_cons]
    have := ih (p.1 + (if putB room p.2 k then 1 else 0), putF room p.2 k)
    have h2 : (if putB room p.2 k then 1 else 0) ≤ 1 := by split <;> omega
    simp only [List.length_cons]
    simp only at this
    omega

theorem each_put {g h room gt ht rt : Nat} {f ft : Nat → Bool} (w : World) (s : SetAt w g h room f) (t : SetAt w gt ht rt ft) (hT : TabAt w) :
    Calls Tryd.prog 30 #[.pointer (some ⟨g, 0, none⟩), .pointer (some ⟨gt, 0, none⟩), .func (.func 10) #[] #[]] w fun e w' =>
      e = .returned (.int .i64 (run_put room f (listOf ft rt)).1) ∧ SetAt w' g h room (run_put room f (listOf ft rt)).2 ∧ w.grownBy w' (some h) := by
  have hlen : (listOf ft rt).length ≤ 70000 := Nat.le_trans (lst_length ft rt 0) t.room
  obtain ⟨L, HL⟩ : ∃ L, L = listOf ft rt := ⟨_, rfl⟩
  have hl := list_any w t hT
  rw [← HL] at hl hlen ⊢
  clear HL
  go_enter Tryd.func30, Tryd.ntmps30
  go_wp2_with fail
  refine hl.mono ?_
  rintro e w1 ⟨v, rfl, hown, hb1⟩
  have s1 := s.below hb1
  obtain ⟨A, cap, rfl, hc1, hc2, hr⟩ := hown.read
  have hblk : ∀ b o, A = some ⟨b, o, none⟩ → w.heap.size ≤ b := fun b o e => row_base hown b (by rw [e]; rfl)
  have hhlt := s.wlt
  have g1 : w.grownBy w1 (some h) := ⟨hb1.os, hb1.tape, hb1.output, hb1.size, fun k hk _ => hb1.block k hk⟩
  generalize hN : L.length = N at *
  have HN := Lib.hid hN
  clear hN hl
  go_wp2_with fail
  go_loopw [7, 13] (fun n i wr => ∃ k : Nat, k ≤ N ∧ i = .int .i64 k ∧ n = .int .i64 (run_put room f (L.take k)).1 ∧ SetAt wr g h room (run_put room f (L.take k)).2 ∧ w.grownBy wr (some h) ∧ ReadI wr A N L) (fun _ i _ => N - (intOf i).toNat)
  case atStart => exact ⟨0, Nat.zero_le _, rfl, rfl, s1, g1, hr⟩
  case round =>
    obtain ⟨k, hk, rfl, rfl, sr, gr, rr⟩ := hrel
    have hle := run_put_le room f (L.take k)
    have hle2 : (L.take k).length ≤ k := List.length_take_le _ _
    by_cases hlt : k < N
    · obtain ⟨b, o, rfl, hc⟩ := rr.2.2 (by omega)
      have hck := hc k hlt
      have ht := take_succ_eq (xs := L) (k := k) (by have := HN.out; omega)
      have HT := Lib.hid ht
      have hs := run_put_snoc room f (L.take k) (gi L k)
      rw [← ht] at hs
      have HS := Lib.hid hs
      have hne : some b ≠ some h := by
        have := hblk b o rfl
        intro e
        injection e with e
        omega
      have HNE := Lib.hid hne
      clear hc ht hs hne
      generalize hP : run_put room f (L.take k) = p at *
      obtain ⟨p1, p2⟩ := p
      cases hb : putB room p2 (gi L k)
      all_goals
        have hcall := (put_any (gi L k) wr sr).mono (fun e w' hp => (⟨hp.1, hp.2.1, hp.2.2.1⟩ : e = .returned (.bool (putB room p2 (gi L k))) ∧ SetAt w' g h room (putF room p2 (gi L k)) ∧ wr.grownBy w' (some h)))
        rw [hb] at hcall
        have HB := Lib.hid hb
        clear hb
        go_wp2_with (refine hcall.mono ?_; rintro e w2 ⟨rfl, s2, g2⟩)
        go_roundw
        case rel =>
          have hs := HS.out
          have hb := HB.out
          simp only [hb, if_true, if_false, Bool.false_eq_true] at hs
          refine ⟨k + 1, by omega, by go_num, ?_, ?_, World.grownBy.trans gr g2, rr.grown g2 fun b' o' e => ?_⟩
          · rw [hs]
            first | rfl | go_num
          · rw [hs]
            exact s2
          · injection e with e
            injection e with e1 e2
            subst e1
            exact HNE.out
        case measure => simp [intOf]; omega
    · go_wp2
      go_ret
      have e : L.take k = L := List.take_of_length_le (by have := HN.out; omega)
      rw [e] at sr
      rw [e]
      exact ⟨rfl, sr, gr⟩

/-- Drop, in one form. -/
theorem drop_any {g h room : Nat} {f : Nat → Bool} (k : Int) (w : World) (s : SetAt w g h room f) :
    Calls Tryd.prog 17 #[.pointer (some ⟨g, 0, none⟩), .int .i64 k] w fun e w' => e = .returned (.bool (hasI f k)) ∧ SetAt w' g h room (delF f k) ∧ w.grownBy w' (some h) ∧ w'.heap.size = w.heap.size := by
  cases hk : hasI f k
  · refine (drop_no k w s hk).mono ?_
    rintro e w' ⟨rfl, rfl⟩
    have e : delF f k = f := by
      funext i
      unfold delF
      by_cases h1 : (i : Int) = k
      · have : f i = false := by
          unfold hasI at hk
          rw [show k.toNat = i from by omega] at hk
          simpa [show 0 ≤ k from by omega] using hk
        simp [this]
      · simp [h1]
    rw [e]
    exact ⟨rfl, s, World.grownBy.refl _ _, rfl⟩
  · refine (drop_yes k w s hk).mono ?_
    rintro e w' ⟨rfl, s1, g1, z1⟩
    have h0 := (hasI_lt s hk).1
    have e : delF f k = del f k.toNat := by
      funext i
      unfold delF del
      by_cases h1 : i = k.toNat
      · have : (i : Int) = k := by omega
        simp [h1]
        omega
      · have : ¬ (i : Int) = k := by omega
        simp [h1, this]
    rw [e]
    exact ⟨rfl, s1, g1, z1⟩

/-- What each does with the numbers of a list, one by one: how often it was so, and the set behind it. -/
def run_drop (room : Nat) (f : Nat → Bool) (xs : List Int) : Nat × (Nat → Bool) := xs.foldl (fun p k => (p.1 + (if hasI p.2 k then 1 else 0), delF p.2 k)) (0, f)
theorem run_drop_snoc (room : Nat) (f : Nat → Bool) (xs : List Int) (k : Int) : run_drop room f (xs ++ [k]) = (let p := run_drop room f xs; (p.1 + (if hasI p.2 k then 1 else 0), delF p.2 k)) := by
  rw [run_drop, List.foldl_append]
  rfl
theorem run_drop_le (room : Nat) (f : Nat → Bool) (xs : List Int) : (run_drop room f xs).1 ≤ xs.length := by
  suffices h : ∀ (xs : List Int) (p : Nat × (Nat → Bool)), (xs.foldl (fun p k => (p.1 + (if hasI p.2 k then 1 else 0), delF p.2 k)) p).1 ≤ p.1 + xs.length by
    simpa [run_drop] using h xs (0, f)
  intro xs
  induction xs with
  | nil => intro p; simp
  | cons k xs ih =>
    intro p
    rw [List.foldl_cons]
    have := ih (p.1 + (if hasI p.2 k then 1 else 0), delF p.2 k)
    have h2 : (if hasI p.2 k then 1 else 0) ≤ 1 := by split <;> omega
    simp only [List.length_cons]
    simp only at this
    omega

theorem each_drop {g h room gt ht rt : Nat} {f ft : Nat → Bool} (w : World) (s : SetAt w g h room f) (t : SetAt w gt ht rt ft) (hT : TabAt w) :
    Calls Tryd.prog 30 #[.pointer (some ⟨g, 0, none⟩), .pointer (some ⟨gt, 0, none⟩), .func (.func 17) #[] #[]] w fun e w' =>
      e = .returned (.int .i64 (run_drop room f (listOf ft rt)).1) ∧ SetAt w' g h room (run_drop room f (listOf ft rt)).2 ∧ w.grownBy w' (some h) := by
  have hlen : (listOf ft rt).length ≤ 70000 := Nat.le_trans (lst_length ft rt 0) t.room
  obtain ⟨L, HL⟩ : ∃ L, L = listOf ft rt := ⟨_, rfl⟩
  have hl := list_any w t hT
  rw [← HL] at hl hlen ⊢
  clear HL
  go_enter Tryd.func30, Tryd.ntmps30
  go_wp2_with fail
  refine hl.mono ?_
  rintro e w1 ⟨v, rfl, hown, hb1⟩
  have s1 := s.below hb1
  obtain ⟨A, cap, rfl, hc1, hc2, hr⟩ := hown.read
  have hblk : ∀ b o, A = some ⟨b, o, none⟩ → w.heap.size ≤ b := fun b o e => row_base hown b (by rw [e]; rfl)
  have hhlt := s.wlt
  have g1 : w.grownBy w1 (some h) := ⟨hb1.os, hb1.tape, hb1.output, hb1.size, fun k hk _ => hb1.block k hk⟩
  generalize hN : L.length = N at *
  have HN := Lib.hid hN
  clear hN hl
  go_wp2_with fail
  go_loopw [7, 13] (fun n i wr => ∃ k : Nat, k ≤ N ∧ i = .int .i64 k ∧ n = .int .i64 (run_drop room f (L.take k)).1 ∧ SetAt wr g h room (run_drop room f (L.take k)).2 ∧ w.grownBy wr (some h) ∧ ReadI wr A N L) (fun _ i _ => N - (intOf i).toNat)
  case atStart => exact ⟨0, Nat.zero_le _, rfl, rfl, s1, g1, hr⟩
  case round =>
    obtain ⟨k, hk, rfl, rfl, sr, gr, rr⟩ := hrel
    have hle := run_drop_le room f (L.take k)
    have hle2 : (L.take k).length ≤ k := List.length_take_le _ _
    by_cases hlt : k < N
    · obtain ⟨b, o, rfl, hc⟩ := rr.2.2 (by omega)
      have hck := hc k hlt
      have ht := take_succ_eq (xs := L) (k := k) (by have := HN.out; omega)
      have HT := Lib.hid ht
      have hs := run_drop_snoc room f (L.take k) (gi L k)
      rw [← ht] at hs
      have HS := Lib.hid hs
      have hne : some b ≠ some h := by
        have := hblk b o rfl
        intro e
        injection e with e
        omega
      have HNE := Lib.hid hne
      clear hc ht hs hne
      generalize hP : run_drop room f (L.take k) = p at *
      obtain ⟨p1, p2⟩ := p
      cases hb : hasI p2 (gi L k)
      all_goals
        have hcall := (drop_any (gi L k) wr sr).mono (fun e w' hp => (⟨hp.1, hp.2.1, hp.2.2.1⟩ : e = .returned (.bool (hasI p2 (gi L k))) ∧ SetAt w' g h room (delF p2 (gi L k)) ∧ wr.grownBy w' (some h)))
        rw [hb] at hcall
        have HB := Lib.hid hb
        clear hb
        go_wp2_with (refine hcall.mono ?_; rintro e w2 ⟨rfl, s2, g2⟩)
        go_roundw
        case rel =>
          have hs := HS.out
          have hb := HB.out
          simp only [hb, if_true, if_false, Bool.false_eq_true] at hs
          refine ⟨k + 1, by omega, by go_num, ?_, ?_, World.grownBy.trans gr g2, rr.grown g2 fun b' o' e => ?_⟩
          · rw [hs]
            first | rfl | go_num
          · rw [hs]
            exact s2
          · injection e with e
            injection e with e1 e2
            subst e1
            exact HNE.out
        case measure => simp [intOf]; omega
    · go_wp2
      go_ret
      have e : L.take k = L := List.take_of_length_le (by have := HN.out; omega)
      rw [e] at sr
      rw [e]
      exact ⟨rfl, sr, gr⟩

/-- What each does with the numbers of a list, one by one: how often it was so, and the set behind it. -/
def run_has (room : Nat) (f : Nat → Bool) (xs : List Int) : Nat × (Nat → Bool) := xs.foldl (fun p k => (p.1 + (if hasI p.2 k then 1 else 0), p.2)) (0, f)
theorem run_has_snoc (room : Nat) (f : Nat → Bool) (xs : List Int) (k : Int) : run_has room f (xs ++ [k]) = (let p := run_has room f xs; (p.1 + (if hasI p.2 k then 1 else 0), p.2)) := by
  rw [run_has, List.foldl_append]
  rfl
theorem run_has_le (room : Nat) (f : Nat → Bool) (xs : List Int) : (run_has room f xs).1 ≤ xs.length := by
  suffices h : ∀ (xs : List Int) (p : Nat × (Nat → Bool)), (xs.foldl (fun p k => (p.1 + (if hasI p.2 k then 1 else 0), p.2)) p).1 ≤ p.1 + xs.length by
    simpa [run_has] using h xs (0, f)
  intro xs
  induction xs with
  | nil => intro p; simp
  | cons k xs ih =>
    intro p
    rw [List.foldl_cons]
    have := ih (p.1 + (if hasI p.2 k then 1 else 0), p.2)
    have h2 : (if hasI p.2 k then 1 else 0) ≤ 1 := by split <;> omega
    simp only [List.length_cons]
    simp only at this
    omega

theorem each_has {g h room gt ht rt : Nat} {f ft : Nat → Bool} (w : World) (s : SetAt w g h room f) (t : SetAt w gt ht rt ft) (hT : TabAt w) :
    Calls Tryd.prog 30 #[.pointer (some ⟨g, 0, none⟩), .pointer (some ⟨gt, 0, none⟩), .func (.func 18) #[] #[]] w fun e w' =>
      e = .returned (.int .i64 (run_has room f (listOf ft rt)).1) ∧ SetAt w' g h room (run_has room f (listOf ft rt)).2 ∧ w.grownBy w' (some h) := by
  have hlen : (listOf ft rt).length ≤ 70000 := Nat.le_trans (lst_length ft rt 0) t.room
  obtain ⟨L, HL⟩ : ∃ L, L = listOf ft rt := ⟨_, rfl⟩
  have hl := list_any w t hT
  rw [← HL] at hl hlen ⊢
  clear HL
  go_enter Tryd.func30, Tryd.ntmps30
  go_wp2_with fail
  refine hl.mono ?_
  rintro e w1 ⟨v, rfl, hown, hb1⟩
  have s1 := s.below hb1
  obtain ⟨A, cap, rfl, hc1, hc2, hr⟩ := hown.read
  have hblk : ∀ b o, A = some ⟨b, o, none⟩ → w.heap.size ≤ b := fun b o e => row_base hown b (by rw [e]; rfl)
  have hhlt := s.wlt
  have g1 : w.grownBy w1 (some h) := ⟨hb1.os, hb1.tape, hb1.output, hb1.size, fun k hk _ => hb1.block k hk⟩
  generalize hN : L.length = N at *
  have HN := Lib.hid hN
  clear hN hl
  go_wp2_with fail
  go_loopw [7, 13] (fun n i wr => ∃ k : Nat, k ≤ N ∧ i = .int .i64 k ∧ n = .int .i64 (run_has room f (L.take k)).1 ∧ SetAt wr g h room (run_has room f (L.take k)).2 ∧ w.grownBy wr (some h) ∧ ReadI wr A N L) (fun _ i _ => N - (intOf i).toNat)
  case atStart => exact ⟨0, Nat.zero_le _, rfl, rfl, s1, g1, hr⟩
  case round =>
    obtain ⟨k, hk, rfl, rfl, sr, gr, rr⟩ := hrel
    have hle := run_has_le room f (L.take k)
    have hle2 : (L.take k).length ≤ k := List.length_take_le _ _
    by_cases hlt : k < N
    · obtain ⟨b, o, rfl, hc⟩ := rr.2.2 (by omega)
      have hck := hc k hlt
      have ht := take_succ_eq (xs := L) (k := k) (by have := HN.out; omega)
      have HT := Lib.hid ht
      have hs := run_has_snoc room f (L.take k) (gi L k)
      rw [← ht] at hs
      have HS := Lib.hid hs
      have hne : some b ≠ some h := by
        have := hblk b o rfl
        intro e
        injection e with e
        omega
      have HNE := Lib.hid hne
      clear hc ht hs hne
      generalize hP : run_has room f (L.take k) = p at *
      obtain ⟨p1, p2⟩ := p
      cases hb : hasI p2 (gi L k)
      all_goals
        have hcall := (has_any (gi L k) wr sr).mono (fun e w' hp => (⟨hp.1, by rw [← hp.2]; exact sr, by rw [← hp.2]; exact World.grownBy.refl _ _⟩ : e = .returned (.bool (hasI p2 (gi L k))) ∧ SetAt w' g h room p2 ∧ wr.grownBy w' (some h)))
        rw [hb] at hcall
        have HB := Lib.hid hb
        clear hb
        go_wp2_with (refine hcall.mono ?_; rintro e w2 ⟨rfl, s2, g2⟩)
        go_roundw
        case rel =>
          have hs := HS.out
          have hb := HB.out
          simp only [hb, if_true, if_false, Bool.false_eq_true] at hs
          refine ⟨k + 1, by omega, by go_num, ?_, ?_, World.grownBy.trans gr g2, rr.grown g2 fun b' o' e => ?_⟩
          · rw [hs]
            first | rfl | go_num
          · rw [hs]
            exact s2
          · injection e with e
            injection e with e1 e2
            subst e1
            exact HNE.out
        case measure => simp [intOf]; omega
    · go_wp2
      go_ret
      have e : L.take k = L := List.take_of_length_le (by have := HN.out; omega)
      rw [e] at sr
      rw [e]
      exact ⟨rfl, sr, gr⟩

end Go.Proofs.YtnldfjoadmehcaaDoor
