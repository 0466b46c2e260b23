/- Edges that are taken away, and put again: no program in sight. -/
import Derived.Test.YtnldfjoadmehcaaLess
set_option linter.unusedVariables false
set_option linter.unusedSimpArgs false
namespace Go.Proofs.Ytnldfjoadmehcaa

/-- Two lists that rise, of the same edges, are alike. -/
theorem rise_ext : ∀ {xs ys : List Ed}, (xs.Pairwise fun a b => ahead a b = true) → (ys.Pairwise fun a b => ahead a b = true) → (∀ x, x ∈ xs ↔ x ∈ ys) → xs = ys
  | [], [], _, _, _ => rfl
  | [], y :: ys, _, _, h => absurd ((h y).2 (List.mem_cons_self ..)) (by simp)
  | x :: xs, [], _, _, h => absurd ((h x).1 (List.mem_cons_self ..)) (by simp)
  | x :: xs, y :: ys, hx, hy, h => by
    rw [List.pairwise_cons] at hx hy
    have exy : x = y := by
      rcases List.mem_cons.1 ((h x).1 (List.mem_cons_self ..)) with e | e
      · exact e
      · rcases List.mem_cons.1 ((h y).2 (List.mem_cons_self ..)) with e2 | e2
        · exact e2.symm
        · have a1 := hy.1 x e
          have a2 := hx.1 y e2
          have := ahead_trans a1 a2
          rw [ahead_irrefl] at this
          cases this
    subst exy
    rw [rise_ext hx.2 hy.2 fun z => ?_]
    constructor
    · intro hz
      rcases List.mem_cons.1 ((h z).1 (List.mem_cons_of_mem _ hz)) with e | e
      · subst e
        have := hx.1 z hz
        rw [ahead_irrefl] at this
        cases this
      · exact e
    · intro hz
      rcases List.mem_cons.1 ((h z).2 (List.mem_cons_of_mem _ hz)) with e | e
      · subst e
        have := hy.1 z hz
        rw [ahead_irrefl] at this
        cases this
      · exact e
theorem mem_putE {es : List Ed} {e x : Ed} : x ∈ putE es e ↔ x = e ∨ x ∈ es := by
  unfold putE
  rw [List.mem_append, List.mem_append, List.mem_singleton]
  constructor
  · rintro ((h | h) | h)
    · exact .inr (List.mem_of_mem_take h)
    · exact .inl h
    · exact .inr (List.mem_of_mem_drop h)
  · rintro (h | h)
    · exact .inl (.inr h)
    · rw [← List.take_append_drop (putK es e es.length) es, List.mem_append] at h
      rcases h with h | h
      · exact .inl (.inl h)
      · exact .inr h

theorem nodup_len {α : Type} [DecidableEq α] : ∀ {xs ys : List α}, xs.Nodup → (∀ x ∈ xs, x ∈ ys) → xs.length ≤ ys.length
  | [], _, _, _ => Nat.zero_le _
  | x :: xs, ys, h, hs => by
    rw [List.nodup_cons] at h
    have hx := hs x (List.mem_cons_self ..)
    have h1 := nodup_len (ys := ys.erase x) h.2 fun z hz => (List.mem_erase_of_ne (show z ≠ x from fun e => h.1 (e ▸ hz))).2 (hs z (List.mem_cons_of_mem _ hz))
    rw [List.length_erase_of_mem hx] at h1
    have := List.length_pos_of_mem hx
    rw [List.length_cons]
    omega
/-- The edges that the bits name, their ends turned. -/
def pickTo (bits : Int) (es : List Ed) : Nat → List Ed
  | 0 => []
  | k + 1 => if bitB bits k then pickTo bits es k ++ [((ge es k).2, (ge es k).1)] else pickTo bits es k
theorem pickTo_length (bits : Int) (es : List Ed) : ∀ k, (pickTo bits es k).length ≤ k
  | 0 => Nat.le_refl _
  | k + 1 => by
    have := pickTo_length bits es k
    rw [pickTo]
    split
    · rw [List.length_append, List.length_singleton]; omega
    · omega
/-- The same edges, as they are. -/
def selE (bits : Int) (es : List Ed) : Nat → List Ed
  | 0 => []
  | k + 1 => if bitB bits k then selE bits es k ++ [ge es k] else selE bits es k
theorem selE_pick {N : Int} {es : List Ed} (h : Rise N es) (bits : Int) : ∀ k, k ≤ es.length → turnL (pickTo bits es k) = selE bits es k
  | 0, _ => rfl
  | k + 1, hk => by
    have ih := selE_pick h bits k (by omega)
    rw [pickTo, selE]
    split
    · unfold turnL at ih ⊢
      rw [List.map_append, ih]
      have hok := h.1 _ (List.getElem_mem (show k < es.length by omega))
      rw [← ge_get (show k < es.length by omega)] at hok
      generalize ge es k = e at *
      obtain ⟨a, b⟩ := e
      simp only [edgeOk, Bool.and_eq_true, decide_eq_true_eq] at hok
      simp only [List.map_cons, List.map_nil, turnE]
      rw [if_pos (by omega)]
    · exact ih
theorem mem_selE {bits : Int} {es : List Ed} {x : Ed} : ∀ {k : Nat}, x ∈ selE bits es k ↔ ∃ j, j < k ∧ bitB bits j = true ∧ x = ge es j
  | 0 => by simp [selE]
  | k + 1 => by
    rw [selE]
    split
    · rename_i hp
      rw [List.mem_append, mem_selE (k := k), List.mem_singleton]
      constructor
      · rintro (⟨j, h1, h2, h3⟩ | h)
        · exact ⟨j, by omega, h2, h3⟩
        · exact ⟨k, by omega, hp, h⟩
      · rintro ⟨j, h1, h2, h3⟩
        by_cases e : j = k
        · subst e
          exact .inr h3
        · exact .inl ⟨j, by omega, h2, h3⟩
    · rename_i hp
      rw [mem_selE (k := k)]
      constructor
      · rintro ⟨j, h1, h2, h3⟩
        exact ⟨j, by omega, h2, h3⟩
      · rintro ⟨j, h1, h2, h3⟩
        by_cases e : j = k
        · subst e
          exact absurd h2 hp
        · exact ⟨j, by omega, h2, h3⟩
theorem selE_sub {bits : Int} {es : List Ed} {k : Nat} (hk : k ≤ es.length) {x : Ed} (h : x ∈ selE bits es k) : x ∈ es := by
  obtain ⟨j, h1, h2, rfl⟩ := mem_selE.1 h
  rw [ge_get (by omega)]
  exact List.getElem_mem _
theorem selE_rise {bits : Int} {es : List Ed} (hs : es.Pairwise fun a b => ahead a b = true) : ∀ k, k ≤ es.length → (selE bits es k).Pairwise fun a b => ahead a b = true
  | 0, _ => List.Pairwise.nil
  | k + 1, hk => by
    have ih := selE_rise (bits := bits) hs k (by omega)
    rw [selE]
    split
    · rw [List.pairwise_append]
      refine ⟨ih, List.pairwise_singleton _ _, fun a ha b hb => ?_⟩
      obtain ⟨j, h1, h2, rfl⟩ := mem_selE.1 ha
      rw [List.mem_singleton.1 hb]
      exact rise_at hs h1 (by omega)
    · exact ih
theorem rise_nodup {es : List Ed} (hs : es.Pairwise fun a b => ahead a b = true) : es.Nodup := hs.imp fun h e => by
  subst e
  rw [ahead_irrefl] at h
  cases h
theorem selE_at {bits : Int} {es : List Ed} (hs : es.Pairwise fun a b => ahead a b = true) {n k : Nat} (hn : n ≤ es.length) (hk : k < n) : ge es k ∈ selE bits es n ↔ bitB bits k = true := by
  rw [mem_selE]
  constructor
  · rintro ⟨j, h1, h2, h3⟩
    have := rise_inj hs (show k < es.length by omega) (show j < es.length by omega) h3
    rw [this]
    exact h2
  · intro h
    exact ⟨k, hk, h, rfl⟩
theorem less_count {bits : Int} {es : List Ed} (hs : es.Pairwise fun a b => ahead a b = true) : ∀ k, k ≤ es.length → ((es.take k).filter fun e => decide (e ∉ selE bits es es.length)).length + (pickTo bits es k).length = k
  | 0, _ => rfl
  | k + 1, hk => by
    have ih := less_count (bits := bits) hs k (by omega)
    have hat := selE_at (bits := bits) hs (Nat.le_refl _) (show k < es.length by omega)
    rw [take_succE (show k < es.length by omega), List.filter_append, List.length_append, pickTo]
    cases hb : bitB bits k
    · rw [hb] at hat
      have : ge es k ∉ selE bits es es.length := fun q => by simpa using hat.1 q
      simp [this] at ih ⊢
      omega
    · rw [hb] at hat
      have : ge es k ∈ selE bits es es.length := hat.2 rfl
      simp [this] at ih ⊢
      omega

/-- What Less leaves of the edges that the bits name. -/
theorem less_pick {N : Int} {es : List Ed} (h : rightB N es = true) (bits : Int) :
    lessP N es (pickTo bits es es.length) = (N, es.filter (fun e => decide (e ∉ selE bits es es.length)), 0) := by
  have hr := (rightB_iff.1 h).2.2.2
  have ht := selE_pick hr bits es.length (Nat.le_refl _)
  have hok : lessOk es (pickTo bits es es.length) = true := by
    unfold lessOk
    rw [ht, Bool.and_eq_true, List.all_eq_true]
    exact ⟨fun x hx => decide_eq_true (selE_sub (Nat.le_refl _) hx), decide_eq_true (rise_nodup (selE_rise hr.2 _ (Nat.le_refl _)))⟩
  unfold lessP
  rw [if_neg (by rw [h]; decide), if_pos hok]
  unfold lessE
  rw [ht]
theorem filter_right {N : Int} {es : List Ed} (h : rightB N es = true) (p : Ed → Bool) : rightB N (es.filter p) = true := by
  obtain ⟨h0, h1, h2, h3, h4⟩ := rightB_iff.1 h
  have := List.length_filter_le p es
  exact rightB_iff.2 ⟨h0, h1, by omega, fun e he => h3 e (List.mem_filter.1 he).1, h4.filter _⟩
/-- When the first k are put again. -/
def BackK (N : Int) (bits : Int) (es : List Ed) (k : Nat) (bs : List Ed) : Prop :=
  rightB N bs = true ∧ ∀ x, x ∈ bs ↔ (x ∈ es ∧ x ∉ selE bits es es.length) ∨ x ∈ turnL ((pickTo bits es es.length).take k)
theorem back_start {N bits : Int} {es : List Ed} (h : rightB N es = true) : BackK N bits es 0 (es.filter fun e => decide (e ∉ selE bits es es.length)) :=
  ⟨filter_right h _, fun x => by simp [List.mem_filter, turnL]⟩
theorem back_len {N bits : Int} {es bs : List Ed} {k : Nat} (hr : rightB N es = true) (h : BackK N bits es k bs) : bs.length ≤ es.length := by
  have h1 := rise_nodup (rightB_iff.1 h.1).2.2.2.2
  refine nodup_len h1 fun x hx => ?_
  rcases (h.2 x).1 hx with q | q
  · exact q.1
  · have hs := selE_pick (rightB_iff.1 hr).2.2.2 bits es.length (Nat.le_refl _)
    have : x ∈ turnL (pickTo bits es es.length) := by
      rw [turnL_take] at q
      exact List.mem_of_mem_take q
    rw [hs] at this
    exact selE_sub (Nat.le_refl _) this
theorem back_step {N bits : Int} {es bs : List Ed} {k : Nat} (hr : rightB N es = true) (hl : es.length ≤ 1000) (h : BackK N bits es k bs) (hk : k < (pickTo bits es es.length).length) :
    ∃ bs', addP N bs (ge (pickTo bits es es.length) k).1 (ge (pickTo bits es es.length) k).2 = (N, bs', 0) ∧ BackK N bits es (k + 1) bs' := by
  have hri := (rightB_iff.1 hr).2.2.2
  have hs := selE_pick hri bits es.length (Nat.le_refl _)
  have hln := back_len hr h
  have hmt : turnE (ge (pickTo bits es es.length) k).1 (ge (pickTo bits es es.length) k).2 ∈ selE bits es es.length := by
    rw [← hs]
    unfold turnL
    rw [ge_get hk]
    exact List.mem_map_of_mem (List.getElem_mem hk)
  have hnt : turnE (ge (pickTo bits es es.length) k).1 (ge (pickTo bits es es.length) k).2 ∉ turnL ((pickTo bits es es.length).take k) := by
    have hnd : (turnL ((pickTo bits es es.length).take (k + 1))).Nodup := by
      rw [turnL_take, hs]
      exact (rise_nodup (selE_rise hri.2 _ (Nat.le_refl _))).sublist (List.take_sublist _ _)
    rw [turnL_succ hk, List.nodup_append] at hnd
    exact fun q => absurd rfl (hnd.2.2 _ q _ (List.mem_singleton.2 rfl))
  have hmes := selE_sub (Nat.le_refl _) hmt
  have hok := hri.1 _ hmes
  have hsucc := turnL_succ hk
  generalize ge (pickTo bits es es.length) k = e at *
  obtain ⟨a, b⟩ := e
  simp only at *
  have hnb : turnE a b ∉ bs := fun q => by
    rcases (h.2 _).1 q with q | q
    · exact q.2 hmt
    · exact hnt q
  have hab : isB N a = true ∧ isB N b = true ∧ a ≠ b := by
    unfold turnE at hok
    unfold isB
    split at hok
    · simp only [edgeOk, Bool.and_eq_true, decide_eq_true_eq] at hok ⊢
      omega
    · simp only [edgeOk, Bool.and_eq_true, decide_eq_true_eq] at hok ⊢
      omega
  have hh : hasB N bs a b = false := by
    cases hc : hasB N bs a b
    · rfl
    · exact absurd ((hasB_iff h.1).1 hc) hnb
  have hadd : addP N bs a b = (N, putE bs (turnE a b), 0) := by
    unfold addP
    rw [if_neg (by rw [h.1]; decide), if_neg (by rw [hab.1, hab.2.1]; decide), if_neg hab.2.2, if_neg (by rw [hh]; decide), if_neg (by omega)]
  refine ⟨_, hadd, ?_, fun x => ?_⟩
  · have := add_ok (a := a) (b := b) h.1 (by rw [hadd])
    rw [hadd] at this
    exact this.2.1
  · rw [mem_putE, h.2 x, hsucc, List.mem_append, List.mem_singleton]
    constructor
    · rintro (q | q | q)
      · exact .inr (.inr q)
      · exact .inl q
      · exact .inr (.inl q)
    · rintro (q | q | q)
      · exact .inr (.inl q)
      · exact .inr (.inr q)
      · exact .inl q
theorem back_end {N bits : Int} {es bs : List Ed} (hr : rightB N es = true) (h : BackK N bits es (pickTo bits es es.length).length bs) : bs = es := by
  have hri := (rightB_iff.1 hr).2.2.2
  have hs := selE_pick hri bits es.length (Nat.le_refl _)
  refine rise_ext (rightB_iff.1 h.1).2.2.2.2 hri.2 fun x => ?_
  rw [h.2 x, List.take_length, hs]
  constructor
  · rintro (q | q)
    · exact q.1
    · exact selE_sub (Nat.le_refl _) q
  · intro q
    by_cases c : x ∈ selE bits es es.length
    · exact .inr c
    · exact .inl ⟨q, c⟩
/-- One that is not there is told. -/
theorem less_again {N bits : Int} {es : List Ed} (hr : rightB N es = true) (h : 0 < (pickTo bits es es.length).length) :
    lessP N (es.filter fun e => decide (e ∉ selE bits es es.length)) ((pickTo bits es es.length).take 1) = (0, [], 7) := by
  have hs := selE_pick (rightB_iff.1 hr).2.2.2 bits es.length (Nat.le_refl _)
  have hmt : turnE (ge (pickTo bits es es.length) 0).1 (ge (pickTo bits es es.length) 0).2 ∈ selE bits es es.length := by
    rw [← hs]
    unfold turnL
    rw [ge_get h]
    exact List.mem_map_of_mem (List.getElem_mem h)
  have hno : lessOk (es.filter fun e => decide (e ∉ selE bits es es.length)) ((pickTo bits es es.length).take 1) = false := by
    refine LessK.none (k := 0) (by rw [List.length_take]; omega) ?_
    rw [show ge ((pickTo bits es es.length).take 1) 0 = ge (pickTo bits es es.length) 0 from by simp [ge, List.getD_eq_getElem?_getD, List.getElem?_take]]
    intro q
    have := (List.mem_filter.1 q).2
    exact absurd hmt (by simpa using this)
  unfold lessP
  rw [if_neg (by rw [filter_right hr]; decide), hno]
  rfl

end Go.Proofs.Ytnldfjoadmehcaa
