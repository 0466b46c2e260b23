/- Plain facts on the lists of sets, and on what Join, Less and Common come to. -/
import Derived.Test.YtnldfjoadmehcaaDoorBits7
set_option linter.unusedVariables false
set_option linter.unusedSimpArgs false
namespace Go.Proofs.YtnldfjoadmehcaaDoor
open Go.RowKit Bs

theorem lst_snoc (f : Nat → Bool) : ∀ d k, lst f (d + 1) k = lst f d k ++ (if f (k + d) then [((k + d : Nat) : Int)] else [])
  | 0, k => by simp [lst]
  | d + 1, k => by
    rw [lst, lst_snoc f d (k + 1), lst]
    rw [show k + 1 + d = k + (d + 1) from by omega]
    by_cases hf : f k = true
    · simp [hf]
    · simp [hf]

theorem listOf_succ (f : Nat → Bool) (n : Nat) : listOf f (n + 1) = listOf f n ++ (if f n then [(n : Int)] else []) := by
  unfold listOf
  rw [lst_snoc]
  simp

theorem countP_listOf (f : Nat → Bool) (p : Int → Bool) : ∀ n, (listOf f n).countP p = cnt (fun i => f i && p i) n
  | 0 => rfl
  | n + 1 => by
    rw [listOf_succ, List.countP_append, countP_listOf f p n, cnt]
    congr 1
    unfold dig
    by_cases hf : f n = true
    · by_cases hp : p n = true
      · simp [hf, hp]
      · simp [hf, hp]
    · simp [hf]

theorem length_listOf (f : Nat → Bool) : ∀ n, (listOf f n).length = cnt f n
  | 0 => rfl
  | n + 1 => by
    rw [listOf_succ, List.length_append, length_listOf f n, cnt]
    congr 1
    unfold dig
    split <;> rfl

theorem mem_listOf (f : Nat → Bool) : ∀ n z, z ∈ listOf f n ↔ 0 ≤ z ∧ z < n ∧ f z.toNat = true
  | 0, z => by simp [listOf, lst]; omega
  | n + 1, z => by
    rw [listOf_succ, List.mem_append, mem_listOf f n z]
    by_cases hz : z = n
    · subst hz
      simp
      omega
    · have h1 : z ∈ (if f n then [(n : Int)] else []) ↔ False := by
        split <;> simp [hz]
      rw [h1, or_false]
      constructor
      · rintro ⟨h2, h3, h4⟩
        exact ⟨h2, by omega, h4⟩
      · rintro ⟨h2, h3, h4⟩
        exact ⟨h2, by omega, h4⟩

theorem sorted_listOf (f : Nat → Bool) : ∀ n, (listOf f n).Pairwise (· < ·)
  | 0 => List.Pairwise.nil
  | n + 1 => by
    rw [listOf_succ, List.pairwise_append]
    refine ⟨sorted_listOf f n, by split <;> simp, fun a ha b hb => ?_⟩
    have h1 := (mem_listOf f n a).1 ha
    have h2 : b = n := by
      split at hb <;> simp at hb
      exact hb
    omega

theorem nodup_listOf (f : Nat → Bool) (n : Nat) : (listOf f n).Nodup := (sorted_listOf f n).imp fun h => by omega

theorem listOf_congr {f g : Nat → Bool} : ∀ n, (∀ i, i < n → f i = g i) → listOf f n = listOf g n
  | 0, _ => rfl
  | n + 1, h => by rw [listOf_succ, listOf_succ, listOf_congr n fun i hi => h i (by omega), h n (by omega)]

theorem run_has_is (room : Nat) (f : Nat → Bool) (xs : List Int) : run_has room f xs = (xs.countP (hasI f), f) := by
  suffices h : ∀ (xs : List Int) (n : Nat), xs.foldl (fun (p : Nat × (Nat → Bool)) k => (p.1 + (if hasI p.2 k then 1 else 0), p.2)) (n, f) = (n + xs.countP (hasI f), f) by
    unfold run_has
    rw [h]
    simp
  intro xs
  induction xs with
  | nil => intro n; rfl
  | cons k xs ih =>
    intro n
    rw [List.foldl_cons, ih, List.countP_cons]
    refine Prod.ext ?_ rfl
    simp only []
    omega

theorem run_put_is (room : Nat) (f : Nat → Bool) (xs : List Int) (hn : xs.Nodup) : run_put room f xs = (xs.countP (putB room f), fun i => f i || decide (i < room ∧ (i : Int) ∈ xs)) := by
  suffices h : ∀ (xs : List Int) (n : Nat) (f : Nat → Bool), xs.Nodup → xs.foldl (fun (p : Nat × (Nat → Bool)) k => (p.1 + (if putB room p.2 k then 1 else 0), putF room p.2 k)) (n, f) = (n + xs.countP (putB room f), fun i => f i || decide (i < room ∧ (i : Int) ∈ xs)) by
    unfold run_put
    rw [h xs 0 f hn]
    simp
  intro xs
  induction xs with
  | nil =>
    intro n f _
    simp
  | cons k xs ih =>
    intro n f hn
    rw [List.nodup_cons] at hn
    rw [List.foldl_cons, ih _ _ hn.2, List.countP_cons]
    have e : xs.countP (putB room (putF room f k)) = xs.countP (putB room f) := by
      apply List.countP_congr
      intro z hz
      have hzk : z ≠ k := fun e => hn.1 (e ▸ hz)
      unfold putB putF
      by_cases h0 : 0 ≤ z ∧ z < room
      · have : ¬ ((z.toNat : Int) = k) := by omega
        simp [h0, this]
        intro _
        omega
      · simp [h0]
    rw [e]
    refine Prod.ext (by simp only []; omega) ?_
    funext i
    simp only [putF, List.mem_cons]
    rw [Bool.eq_iff_iff]
    simp
    constructor
    · rintro ((h | h) | h)
      · exact .inl h
      · exact .inr ⟨h.1, .inl h.2⟩
      · exact .inr ⟨h.1, .inr h.2⟩
    · rintro (h | ⟨h1, h | h⟩)
      · exact .inl (.inl h)
      · exact .inl (.inr ⟨h1, h⟩)
      · exact .inr ⟨h1, h⟩

theorem run_drop_is (room : Nat) (f : Nat → Bool) (xs : List Int) (hn : xs.Nodup) : run_drop room f xs = (xs.countP (hasI f), fun i => f i && !decide ((i : Int) ∈ xs)) := by
  suffices h : ∀ (xs : List Int) (n : Nat) (f : Nat → Bool), xs.Nodup → xs.foldl (fun (p : Nat × (Nat → Bool)) k => (p.1 + (if hasI p.2 k then 1 else 0), delF p.2 k)) (n, f) = (n + xs.countP (hasI f), fun i => f i && !decide ((i : Int) ∈ xs)) by
    unfold run_drop
    rw [h xs 0 f hn]
    simp
  intro xs
  induction xs with
  | nil =>
    intro n f _
    simp
  | cons k xs ih =>
    intro n f hn
    rw [List.nodup_cons] at hn
    rw [List.foldl_cons, ih _ _ hn.2, List.countP_cons]
    have e : xs.countP (hasI (delF f k)) = xs.countP (hasI f) := by
      apply List.countP_congr
      intro z hz
      have hzk : z ≠ k := fun e => hn.1 (e ▸ hz)
      unfold hasI delF
      by_cases h0 : 0 ≤ z
      · have : ¬ ((z.toNat : Int) = k) := by omega
        simp [h0, this]
        intro _
        omega
      · simp [h0]
    rw [e]
    refine Prod.ext (by simp only []; omega) ?_
    funext i
    simp only [delF, List.mem_cons]
    rw [Bool.eq_iff_iff]
    simp
    constructor
    · rintro ⟨⟨h1, h2⟩, h3⟩
      exact ⟨h1, h2, h3⟩
    · rintro ⟨h1, h2, h3⟩
      exact ⟨⟨h1, h2⟩, h3⟩

theorem each_common {g h room gt ht rt : Nat} {f ft : Nat → Bool} (w : World) (s : SetAt w g h room f) (t : SetAt w gt ht rt ft) (hT : TabAt w) :
    Calls Tryd.prog 30 #[.pointer (some ⟨g, 0, none⟩), .pointer (some ⟨gt, 0, none⟩), .func (.func 18) #[] #[]] w fun e w' =>
      e = .returned (.int .i64 ((listOf ft rt).countP (hasI f) : Nat)) ∧ Below w.heap.size w w' := by
  have hlen : (listOf ft rt).length ≤ 70000 := Nat.le_trans (lst_length ft rt 0) t.room
  obtain ⟨L, HL⟩ : ∃ L, L = listOf ft rt := ⟨_, rfl⟩
  have hl := list_any w t hT
  rw [← HL] at hl hlen ⊢
  clear HL
  go_enter Tryd.func30, Tryd.ntmps30
  go_wp2_with fail
  refine hl.mono ?_
  rintro e w1 ⟨v, rfl, hown, hb1⟩
  have s1 := s.below hb1
  obtain ⟨A, cap, rfl, hc1, hc2, hr⟩ := hown.read
  generalize hN : L.length = N at *
  have HN := Lib.hid hN
  clear hN hl
  go_wp2_with fail
  go_loop [7, 13] (fun n i => ∃ k : Nat, k ≤ N ∧ i = .int .i64 k ∧ n = .int .i64 ((L.take k).countP (hasI f) : Nat)) (fun _ i => N - (intOf i).toNat)
  case atStart => exact ⟨0, Nat.zero_le _, rfl, rfl⟩
  case round =>
    obtain ⟨k, hk, rfl, rfl⟩ := hrel
    have hle : (L.take k).countP (hasI f) ≤ k := Nat.le_trans List.countP_le_length (List.length_take_le _ _)
    by_cases hlt : k < N
    · obtain ⟨b, o, rfl, hc⟩ := hr.2.2 (by omega)
      have hck := hc k hlt
      have ht := take_succ_eq (xs := L) (k := k) (by have := HN.out; omega)
      have hs : (L.take (k + 1)).countP (hasI f) = (L.take k).countP (hasI f) + if hasI f (gi L k) then 1 else 0 := by
        rw [ht, List.countP_append]
        simp [List.countP_cons]
      have HS := Lib.hid hs
      have hcall := has_any (gi L k) w1 s1
      clear hc ht hs
      cases hb : hasI f (gi L k)
      all_goals
        rw [hb] at hcall
        have HB := Lib.hid hb
        clear hb
        go_wp2_with (refine hcall.mono ?_; rintro e w2 ⟨rfl, rfl⟩)
        go_round
        case rel =>
          have h1 := HS.out
          rw [HB.out] at h1
          exact ⟨k + 1, by omega, by go_num, by rw [h1]; first | rfl | go_num⟩
        case measure => simp [intOf]; omega
    · go_wp2
      go_ret
      have e : L.take k = L := List.take_of_length_le (by have := HN.out; omega)
      rw [e]
      exact ⟨rfl, hb1⟩

theorem common_any {g h room gt ht rt : Nat} {f ft : Nat → Bool} (w : World) (s : SetAt w g h room f) (t : SetAt w gt ht rt ft) (hT : TabAt w) :
    Calls Tryd.prog 24 #[.pointer (some ⟨g, 0, none⟩), .pointer (some ⟨gt, 0, none⟩)] w fun e w' =>
      e = .returned (.int .i64 ((listOf ft rt).countP (hasI f) : Nat)) ∧ Below w.heap.size w w' := by
  have hc := each_common w s t hT
  generalize (listOf ft rt).countP (hasI f) = p at *
  go_enter Tryd.func24, Tryd.ntmps24
  go_wp2_with (go_at_call 30; refine hc.mono ?_; rintro e w2 ⟨rfl, b2⟩)
  go_ret
  exact ⟨rfl, by assumption⟩

end Go.Proofs.YtnldfjoadmehcaaDoor
