/- The walk of garlandref02.Near; The walks of search.free and slices.IndexFunc of it; The first matching, plainly; The walks of sub.names.of and sub.kept; The walks of sub.Keep and sub.Without; What is kept of a graph: names, edges, and what is joined: no program in sight; The walks of slices.BinarySearchFunc over edges, graph.edge, graph.place, graph.Index, graph.Has; The walks of graph.edge, graph.place, graph.Index and graph.Has -/
import Derived.Test.YtbnipgajhpbolaaGreatDoorTe07
import Derived.Test.YtbnipgajhpbolaaGreatDoorTe01
set_option linter.unusedVariables false
set_option linter.unusedSimpArgs false
namespace Go.Proofs.YtbnipgajhpbolaaGreatDoor

section
open Go.RowKit
/-- append(v, ys...) of numbers, run. -/
theorem run_appI (w : World) (ty : TypeId) (base : Nat) (v : Value) (xs ys : List Int) (HO : OwnI w base v xs) (hbase : base ≤ w.heap.size) (A : Option Addr) (m c : Nat) (hr : ReadI w A m ys) (hl : xs.length + m ≤ 1000000000) :
    ∃ v1 w1, (Builtin.append_ #[22, 22] ty #[v, .slice A m c]).run Tryz.prog w = .ok v1 w1 ∧ OwnI w1 base v1 (xs ++ ys) ∧ w.grownBy w1 v.ownBlock ∧ (v1.ownBlock = v.ownBlock ∨ v1.ownBlock = some w.heap.size) := by
  obtain ⟨i0, hi, hz0, hz1, hz2⟩ := info_parts infoInt
  cases A with
  | none =>
    have hm : m = 0 := by
      rcases Nat.eq_zero_or_pos m with h | h
      · exact h
      · obtain ⟨b, o, h, -⟩ := hr.2.2 h
        cases h
    subst hm
    have hy : ys = [] := List.eq_nil_of_length_eq_zero hr.1
    subst hy
    obtain ⟨A0, c0, rfl, hle, -, -⟩ := HO.read
    refine ⟨_, w, run_append_nothing w 22 22 ty 3 i0 Tryz.underlying22 hi A0 xs.length c0 hle _ (Src.ofNil w Tryz.underlying22 c), ?_, World.grownBy.refl _ _, .inl rfl⟩
    simpa using HO
  | some ad =>
    obtain ⟨v', w', hrun, h2, h3, _, h5⟩ := run_append_own_at (P := Tryz.prog) w base 22 ty 3 i0 (.int .i64 0) 1 8 Tryz.underlying22 hi hz0 hz1 hz2 rfl (by decide) v xs.length (nums xs) HO ad m c (nums ys) (by simp [nums, hr.1]) hr.news (by simp [nums, Value.oneCell']) (by simp only [maxLen]; omega) (by omega) hbase
    refine ⟨v', w', hrun, ?_, h3, h5⟩
    unfold OwnI nums at *
    simpa [hr.1] using h2

/-- The same in a plain region. -/
theorem list_appI {ops : Array Oper} {rest : List Oper} {o : Oper} {a : Act} {w : World} {Q : Exit → Act → World → Prop} (base : Nat) (hgd : o.guard = none) (s x : Operand)
    (ho : o.op = .call { callee := .builtin .append, args := #[s, x], argTypes := #[22, 22] }) (v : Value) (xs ys : List Int) (hs : a.eval s = v) (HO : OwnI w base v xs) (hbase : base ≤ w.heap.size)
    (A : Option Addr) (m c : Nat) (hx : a.eval x = .slice A m c) (hr : ReadI w A m ys) (hl : xs.length + m ≤ 1000000000)
    (h : ∀ v1 w1, OwnI w1 base v1 (xs ++ ys) → w.grownBy w1 v.ownBlock → (v1.ownBlock = v.ownBlock ∨ v1.ownBlock = some w.heap.size) → wpList Tryz.prog ops Q rest (a.put o.dst v1) w1) :
    wpList Tryz.prog ops Q (o :: rest) a w := by
  refine wpList_plain hgd fun K hK => ?_
  obtain ⟨v', w', hrun, h2, h3, h5⟩ := run_appI w o.type base v xs ys HO hbase A m c hr hl
  unfold Oper.wp execOp
  simp only [ho, resolve, invoke, builtin, Sem.run_bind, Sem.run_pure, Result.andThen_ok, List.map_toArray, List.map_cons, List.map_nil, hs, hx, hrun]
  exact hK _ _ (h v' w' h2 h3 h5)

theorem own_grown {W W1 : World} {base : Nat} {v : Value} {xs : List Int} {row : Option Nat} (h : OwnI W base v xs) (hg : W.grownBy W1 row) (hr : ∀ k, v.ownBlock = some k → some k ≠ row) : OwnI W1 base v xs := by
  unfold OwnI at *
  refine ⟨h.1, ?_⟩
  rcases h.2 with ⟨rfl, h0⟩ | ⟨g, cap, cur, rfl, hb, hg', r⟩
  · exact .inl ⟨rfl, h0⟩
  · exact .inr ⟨g, cap, cur, rfl, hb, (hg.block g (blk_lt hg') (hr g rfl)).trans hg', r⟩
theorem own_lt {W : World} {base : Nat} {v : Value} {xs : List Int} (h : OwnI W base v xs) {k : Nat} (hk : v.ownBlock = some k) : k < W.heap.size := by
  unfold OwnI at h
  rcases h.2 with ⟨rfl, h0⟩ | ⟨g, cap, cur, rfl, hb, hg', r⟩
  · cases hk
  · injection hk with hk
    subst hk
    exact blk_lt hg'
/-- Two rows of one's own, apart. -/
structure Two (W : World) (base : Nat) (a : Value) (xs : List Int) (b : Value) (ys : List Int) : Prop where
  one : OwnI W base a xs
  two : OwnI W base b ys
  apart : ∀ k, a.ownBlock = some k → b.ownBlock ≠ some k
theorem Two.swap {W : World} {base : Nat} {a b : Value} {xs ys : List Int} (t : Two W base a xs b ys) : Two W base b ys a xs := ⟨t.two, t.one, fun k hk e => t.apart k e hk⟩
theorem Two.first {W W1 : World} {base : Nat} {a b a1 : Value} {xs ys zs : List Int} (t : Two W base a xs b ys) (o : OwnI W1 base a1 zs) (g : W.grownBy W1 a.ownBlock)
    (hat : a1.ownBlock = a.ownBlock ∨ ∃ k, a1.ownBlock = some k ∧ W.heap.size ≤ k) : Two W1 base a1 zs b ys := by
  refine ⟨o, own_grown t.two g fun k hk e => t.apart k e.symm hk, fun k hk e => ?_⟩
  rcases hat with h | ⟨k0, h, h1⟩
  · rw [h] at hk
    exact t.apart k hk e
  · rw [h] at hk
    injection hk with hk
    have := own_lt t.two e
    omega

def lowsE (v : Int) (es : List Ed) : List Int := (es.filter (fun e => e.2 == v)).map (·.1)
def highsE (v : Int) (es : List Ed) : List Int := (es.filter (fun e => e.1 == v)).map (·.2)
theorem lowsE_le (v : Int) (es : List Ed) : (lowsE v es).length ≤ es.length := by unfold lowsE; rw [List.length_map]; exact List.length_filter_le _ _
theorem highsE_le (v : Int) (es : List Ed) : (highsE v es).length ≤ es.length := by unfold highsE; rw [List.length_map]; exact List.length_filter_le _ _
theorem takeE_succ {es : List Ed} {k : Nat} (h : k < es.length) : es.take (k + 1) = es.take k ++ [ge es k] := by
  rw [List.take_add_one, List.getElem?_eq_getElem h]
  simp [ge, List.getD_eq_getElem?_getD, h]
theorem lowsE_succ (v : Int) {es : List Ed} {k : Nat} (h : k < es.length) : lowsE v (es.take (k + 1)) = if (ge es k).2 = v then lowsE v (es.take k) ++ [(ge es k).1] else lowsE v (es.take k) := by
  rw [takeE_succ h]
  unfold lowsE
  rw [List.filter_append, List.map_append]
  by_cases q : (ge es k).2 = v
  · rw [if_pos q]
    simp [q]
  · rw [if_neg q]
    simp [q]
theorem highsE_succ (v : Int) {es : List Ed} {k : Nat} (h : k < es.length) : highsE v (es.take (k + 1)) = if (ge es k).1 = v then highsE v (es.take k) ++ [(ge es k).2] else highsE v (es.take k) := by
  rw [takeE_succ h]
  unfold highsE
  rw [List.filter_append, List.map_append]
  by_cases q : (ge es k).1 = v
  · rw [if_pos q]
    simp [q]
  · rw [if_neg q]
    simp [q]
end

section
open Go.RowKit
set_option maxHeartbeats 2000000 in
set_option maxRecDepth 100000 in
theorem sfree_any {A : Option Addr} {n c : Nat} {ms : List Int} (k : Nat) (hk : k < n) (w : World) (h : ReadI w A n ms) :
    Calls Tryz.prog 48 #[.agg #[.slice A n c], .int .i64 k] w fun e w' => e = .returned (.bool (decide (gi ms k < 0))) ∧ Below w.heap.size w w' := by
  obtain ⟨b, o, rfl, hc⟩ := h.2.2 (by omega)
  have hcell := cell_later (bel_alloc w (.cells #[.slice (some ⟨b, o, none⟩) n c] 92)) (hc k hk)
  have HB := Lib.hid (bel_alloc w (.cells #[.slice (some ⟨b, o, none⟩) n c] 92))
  clear h hc
  go_enter Tryz.func48, Tryz.ntmps48
  go_wp2_with fail
  go_ret
  exact ⟨rfl, HB.out⟩

/-- The first place from k on whose number is free; -1 if there is none. -/
def scanM (ms xs : List Int) : Nat → Nat → Int
  | 0, _ => -1
  | d + 1, k => if gi ms (gi xs k).toNat < 0 then (k : Int) else scanM ms xs d (k + 1)

set_option maxHeartbeats 4000000 in
set_option maxRecDepth 100000 in
theorem indexF_any {A B : Option Addr} {n c m cb : Nat} {xs ms : List Int} (w : World) (hx : ReadI w A n xs) (hm : ReadI w B m ms) (hin : ∀ j, j < n → 0 ≤ gi xs j ∧ gi xs j < m) :
    Calls Tryz.prog 49 #[.slice A n c, .func (.func 48) #[.agg #[.slice B m cb]] #[]] w fun e w' => e = .returned (.int .i64 (scanM ms xs n 0)) ∧ Below w.heap.size w w' := by
  have HX := Lib.hid hx
  have HM := Lib.hid hm
  have HIN := Lib.hid hin
  have hn := hx.2.1
  have HR0 : Hid (RW w w) := RW.refl w
  obtain ⟨ans, hans⟩ : ∃ a, a = scanM ms xs n 0 := ⟨_, rfl⟩
  rw [← hans]
  have HS0 : Hid (ans = scanM ms xs (n - 0) 0) := hans
  clear hx hm hin hans
  go_enter Tryz.func49, Tryz.ntmps49
  go_wp2_with fail
  go_loopw [8] (fun i wr => ∃ k : Nat, k ≤ n ∧ i = .int .i64 k ∧ Hid (ans = scanM ms xs (n - k) k) ∧ Hid (RW w wr)) (fun i _ => n - (intOf i).toNat)
  case atStart => exact ⟨0, Nat.zero_le _, rfl, HS0, HR0⟩
  case round =>
    obtain ⟨k, hk, rfl, hans, hrw⟩ := hrel
    by_cases hlt : k < n
    · obtain ⟨b, o, rfl, hc⟩ := (HX.out.below hrw.out).2.2 (by omega)
      have hck := hc k hlt
      obtain ⟨i0, i1⟩ := HIN.out k hlt
      have HST : Hid (ans = if gi ms (gi xs k).toNat < 0 then (k : Int) else scanM ms xs (n - (k + 1)) (k + 1)) := by
        have := hans.out
        rw [show n - k = (n - (k + 1)) + 1 from by omega] at this
        exact this
      have HLT := Lib.hid hlt
      obtain ⟨y, hy⟩ : ∃ y : Nat, gi xs k = y := ⟨(gi xs k).toNat, by omega⟩
      rw [hy] at hck i0 i1
      have hfr := sfree_any (c := cb) y (by omega) wr (HM.out.below hrw.out)
      have HST2 : Hid (ans = if gi ms y < 0 then (k : Int) else scanM ms xs (n - (k + 1)) (k + 1)) := by
        have := HST.out
        rw [hy, Int.toNat_natCast] at this
        exact this
      clear hc hy i0 i1 HST
      cases hq : decide (gi ms y < 0)
      · have HA : Hid (ans = scanM ms xs (n - (k + 1)) (k + 1)) := by
          have := HST2.out
          rw [if_neg (by simpa using hq)] at this
          exact this
        rw [hq] at hfr
        clear hq HST2
        go_wp2_with fail
        refine hfr.mono ?_
        rintro e w5 ⟨rfl, hb5⟩
        go_wp2_with fail
        go_roundw
        case rel => exact ⟨k + 1, by have := HLT.out; omega, by go_num, HA, Lib.hid (RW.later hrw.out hb5)⟩
        case measure => have := HLT.out; simp [intOf]; omega
      · have HA : Hid (ans = (k : Int)) := by
          have := HST2.out
          rw [if_pos (by simpa using hq)] at this
          exact this
        rw [hq] at hfr
        clear hq HST2
        go_wp2_with fail
        refine hfr.mono ?_
        rintro e w5 ⟨rfl, hb5⟩
        have HR5 := Lib.hid (RW.later hrw.out hb5)
        go_wp2_with fail
        go_ret
        exact ⟨by rw [HA.out]; rfl, HR5.out⟩
    · obtain rfl : k = n := by omega
      have HA : Hid (ans = -1) := by
        have := hans.out
        rw [Nat.sub_self] at this
        exact this
      have hd : decide ((k : Int) < (k : Int)) = false := by rw [decide_eq_false_iff_not]; omega
      clear hlt hk
      go_wp2_with fail
      go_ret
      exact ⟨by rw [HA.out]; rfl, hrw.out⟩
end

section
open Go.RowKit
theorem gi_set (xs : List Int) (i : Nat) (x : Int) (j : Nat) : gi (xs.set i x) j = if j = i ∧ i < xs.length then x else gi xs j := by
  unfold gi
  simp only [List.getD_eq_getElem?_getD, List.getElem?_set]
  by_cases h : i = j
  · subst h
    by_cases h2 : i < xs.length
    · simp [h2]
    · simp [h2]
  · rw [if_neg h, if_neg (by omega)]
theorem gi_rep (n : Nat) (x : Int) (j : Nat) (h : j < n) : gi (List.replicate n x) j = x := by
  simp [gi, List.getD_eq_getElem?_getD, h]
theorem gi_at {xs : List Int} {j : Nat} (h : j < xs.length) : gi xs j = xs[j] := by simp [gi, h]
theorem gi_app (xs ys : List Int) (j : Nat) : gi (xs ++ ys) j = if j < xs.length then gi xs j else gi ys (j - xs.length) := by
  unfold gi
  simp only [List.getD_eq_getElem?_getD, List.getElem?_append]
  split <;> rfl
theorem list_ext_gi {xs ys : List Int} (hl : xs.length = ys.length) (h : ∀ j, j < xs.length → gi xs j = gi ys j) : xs = ys := by
  refine List.ext_getElem hl fun j h1 h2 => ?_
  have := h j h1
  rwa [gi_at h1, gi_at h2] at this

/-- The neighbours of a vertex. -/
def nearV (es : List Ed) (v : Int) : List Int := lowsE v es ++ highsE v es
theorem mem_nearV {es : List Ed} {v x : Int} : x ∈ nearV es v ↔ (x, v) ∈ es ∨ (v, x) ∈ es := by
  unfold nearV lowsE highsE
  simp only [List.mem_append, List.mem_map, List.mem_filter, beq_iff_eq]
  constructor
  · rintro (⟨⟨a, b⟩, ⟨h1, h2⟩, h3⟩ | ⟨⟨a, b⟩, ⟨h1, h2⟩, h3⟩)
    · simp only [] at h2 h3
      subst h2 h3
      exact .inl h1
    · simp only [] at h2 h3
      subst h2 h3
      exact .inr h1
  · rintro (h | h)
    · exact .inl ⟨_, ⟨h, rfl⟩, rfl⟩
    · exact .inr ⟨_, ⟨h, rfl⟩, rfl⟩
theorem mem_turn {N : Int} {es : List Ed} (h : Rise N es) {v x : Int} : turnE v x ∈ es ↔ x ∈ nearV es v := by
  rw [mem_nearV]
  unfold turnE
  constructor
  · intro hm
    split at hm
    · exact .inl hm
    · exact .inr hm
  · rintro (hm | hm)
    · have := h.1 _ hm
      unfold edgeOk at this
      simp at this
      rw [if_pos (by omega)]
      exact hm
    · have := h.1 _ hm
      unfold edgeOk at this
      simp at this
      rw [if_neg (by omega)]
      exact hm
theorem near_in {N : Int} {es : List Ed} (h : Rise N es) {v x : Int} (hx : x ∈ nearV es v) : 0 ≤ x ∧ x < N ∧ x ≠ v ∧ 0 ≤ v ∧ v < N := by
  rcases mem_nearV.1 hx with hm | hm
  · have := h.1 _ hm
    unfold edgeOk at this
    simp at this
    omega
  · have := h.1 _ hm
    unfold edgeOk at this
    simp at this
    omega
theorem scan_spec (ms xs : List Int) : ∀ d k, (scanM ms xs d k = -1 ∧ ∀ j, k ≤ j → j < k + d → 0 ≤ gi ms (gi xs j).toNat) ∨
    (∃ i : Nat, scanM ms xs d k = i ∧ k ≤ i ∧ i < k + d ∧ gi ms (gi xs i).toNat < 0)
  | 0, k => .inl ⟨rfl, fun j h1 h2 => absurd h2 (by omega)⟩
  | d + 1, k => by
    rw [scanM]
    by_cases h : gi ms (gi xs k).toNat < 0
    · rw [if_pos h]
      exact .inr ⟨k, rfl, by omega, by omega, h⟩
    · rw [if_neg h]
      rcases scan_spec ms xs d (k + 1) with ⟨h1, h2⟩ | ⟨i, h1, h2, h3, h4⟩
      · refine .inl ⟨h1, fun j a b => ?_⟩
        by_cases e : j = k
        · subst e
          omega
        · exact h2 j (by omega) (by omega)
      · exact .inr ⟨i, h1, by omega, by omega, h4⟩

/-- What becomes of the mates at vertex v, whose neighbours are l. -/
def stepF (l : List Int) (v : Nat) (ms : List Int) : List Int :=
  if gi ms v < 0 then
    if 0 ≤ scanM ms l l.length 0 then (ms.set v (gi l (scanM ms l l.length 0).toNat)).set (gi l (scanM ms l l.length 0).toNat).toNat v else ms
  else ms
theorem stepF_length (l : List Int) (v : Nat) (ms : List Int) : (stepF l v ms).length = ms.length := by
  unfold stepF
  split
  · split
    · simp
    · rfl
  · rfl
def firstTo (N : Nat) (es : List Ed) : Nat → List Int
  | 0 => List.replicate N (-1)
  | v + 1 => stepF (nearV es v) v (firstTo N es v)
theorem firstTo_length (N : Nat) (es : List Ed) : ∀ k, (firstTo N es k).length = N
  | 0 => by simp [firstTo]
  | k + 1 => by rw [firstTo, stepF_length, firstTo_length N es k]
def firstL (N : Int) (es : List Ed) : List Int := if rightB N es then firstTo N.toNat es N.toNat else []

/-- A matching of a graph, by its mates. -/
def MatchN (N : Nat) (es : List Ed) (ms : List Int) : Prop := ms.length = N ∧ ∀ v, v < N → gi ms v = -1 ∨ ∃ w : Nat, w < N ∧ gi ms v = w ∧ (w : Int) ∈ nearV es v ∧ gi ms w = v

theorem near_symm {es : List Ed} {v x : Int} (h : x ∈ nearV es v) : v ∈ nearV es x := by
  rw [mem_nearV] at *
  exact h.symm

/-- Two that are free are matched. -/
theorem match_put {N : Nat} {es : List Ed} {ms : List Int} (h : MatchN N es ms) {a b : Nat} (ha : a < N) (hb : b < N) (hab : a ≠ b) (hm : (b : Int) ∈ nearV es a) (fa : gi ms a < 0) (fb : gi ms b < 0) : MatchN N es ((ms.set a b).set b a) := by
  obtain ⟨hl, hv⟩ := h
  refine ⟨by simp [hl], fun v hvN => ?_⟩
  simp only [gi_set, List.length_set, hl]
  by_cases e1 : v = b
  · subst e1
    refine .inr ⟨a, ha, by simp [hb], near_symm hm, ?_⟩
    rw [if_neg (by omega), if_pos ⟨rfl, ha⟩]
  · rw [if_neg (by omega)]
    by_cases e2 : v = a
    · subst e2
      refine .inr ⟨b, hb, by simp [ha], hm, ?_⟩
      rw [if_pos ⟨rfl, hb⟩]
    · rw [if_neg (by omega)]
      rcases hv v hvN with h1 | ⟨w, h1, h2, h3, h4⟩
      · exact .inl h1
      · refine .inr ⟨w, h1, h2, h3, ?_⟩
        have n1 : w ≠ b := fun e => by subst e; omega
        have n2 : w ≠ a := fun e => by subst e; omega
        rw [if_neg (by omega), if_neg (by omega)]
        exact h4

theorem step_match {N : Nat} {es : List Ed} {ms : List Int} (hr : Rise N es) (h : MatchN N es ms) {v : Nat} (hv : v < N) : MatchN N es (stepF (nearV es v) v ms) := by
  unfold stepF
  by_cases h1 : gi ms v < 0
  · rw [if_pos h1]
    rcases scan_spec ms (nearV es v) (nearV es v).length 0 with ⟨h2, h3⟩ | ⟨i, h2, h3, h4, h5⟩
    · rw [h2, if_neg (by omega)]
      exact h
    · rw [h2, if_pos (by omega), Int.toNat_natCast]
      have hm := gi_mem (xs := nearV es v) (a := i) (by omega)
      obtain ⟨q1, q2, q3, -, -⟩ := near_in hr hm
      obtain ⟨x, hx⟩ : ∃ x : Nat, gi (nearV es v) i = x := ⟨(gi (nearV es v) i).toNat, by omega⟩
      rw [hx] at hm q1 q2 q3 h5 ⊢
      rw [Int.toNat_natCast] at h5 ⊢
      exact match_put h hv (by omega) (by omega) hm h1 h5
  · rw [if_neg h1]
    exact h
theorem rep_match (N : Nat) (es : List Ed) : MatchN N es (List.replicate N (-1)) := ⟨by simp, fun v hv => .inl (gi_rep _ _ _ hv)⟩
theorem firstTo_match {N : Nat} {es : List Ed} (hr : Rise N es) : ∀ k, k ≤ N → MatchN N es (firstTo N es k)
  | 0, _ => rep_match N es
  | k + 1, hk => step_match hr (firstTo_match hr k (by omega)) (by omega)
end

section
open Go.RowKit
/-- The numbers below k of which it is so. -/
def sel (p : Nat → Bool) : Nat → List Int
  | 0 => []
  | k + 1 => if p k then sel p k ++ [(k : Int)] else sel p k
theorem sel_length (p : Nat → Bool) : ∀ k, (sel p k).length ≤ k
  | 0 => Nat.le_refl _
  | k + 1 => by
    have := sel_length p k
    rw [sel]
    split
    · rw [List.length_append, List.length_singleton]; omega
    · omega
end

section
open Go.RowKit
/-- Of whom it is so. -/
def inB (l : List Int) (so : Bool) (j : Nat) : Bool := decide ((j : Int) ∈ l) == so
end

section
theorem mem_sel {p : Nat → Bool} {x : Int} : ∀ {k : Nat}, x ∈ sel p k ↔ ∃ j : Nat, j < k ∧ p j = true ∧ x = j
  | 0 => by simp [sel]
  | k + 1 => by
    rw [sel]
    split
    · rename_i hp
      rw [List.mem_append, mem_sel (k := k)]
      constructor
      · rintro (⟨j, h1, h2, h3⟩ | h)
        · exact ⟨j, by omega, h2, h3⟩
        · exact ⟨k, by omega, hp, by simpa using h⟩
      · rintro ⟨j, h1, h2, h3⟩
        by_cases e : j = k
        · subst e
          exact .inr (by simpa using h3)
        · exact .inl ⟨j, by omega, h2, h3⟩
    · rename_i hp
      rw [mem_sel (k := k)]
      constructor
      · rintro ⟨j, h1, h2, h3⟩
        exact ⟨j, by omega, h2, h3⟩
      · rintro ⟨j, h1, h2, h3⟩
        by_cases e : j = k
        · subst e
          exact absurd h2 hp
        · exact ⟨j, by omega, h2, h3⟩
theorem mem_sel_nat {p : Nat → Bool} {k j : Nat} : (j : Int) ∈ sel p k ↔ j < k ∧ p j = true := by
  rw [mem_sel]
  constructor
  · rintro ⟨i, h1, h2, h3⟩
    obtain rfl : j = i := by omega
    exact ⟨h1, h2⟩
  · rintro ⟨h1, h2⟩
    exact ⟨j, h1, h2, rfl⟩
theorem sel_sorted (p : Nat → Bool) : ∀ k, (sel p k).Pairwise (· < ·)
  | 0 => List.Pairwise.nil
  | k + 1 => by
    rw [sel]
    split
    · rw [List.pairwise_append]
      refine ⟨sel_sorted p k, List.pairwise_singleton _ _, fun a ha b hb => ?_⟩
      obtain ⟨j, h1, h2, rfl⟩ := mem_sel.1 ha
      simp at hb
      omega
    · exact sel_sorted p k
theorem sel_nodup (p : Nat → Bool) (k : Nat) : (sel p k).Nodup := (sel_sorted p k).imp fun h => by omega
theorem sel_congr {p q : Nat → Bool} : ∀ {k : Nat}, (∀ j, j < k → p j = q j) → sel p k = sel q k
  | 0, _ => rfl
  | k + 1, h => by rw [sel, sel, sel_congr (k := k) fun j hj => h j (by omega), h k (by omega)]
theorem sel_both (p : Nat → Bool) : ∀ k, (sel p k).length + (sel (fun j => !p j) k).length = k
  | 0 => rfl
  | k + 1 => by
    have := sel_both p k
    rw [sel, sel]
    cases p k
    · simp; omega
    · simp; omega
/-- Of whom it is so, and whose new name is so. -/
def both (p r : Nat → Bool) (j : Nat) : Bool := p j && r (sel p j).length
end

section
open Go.RowKit
/-- p is where e is, or would be. -/
def IsLow (es : List Ed) (e : Ed) (p : Nat) : Prop := p ≤ es.length ∧ (∀ i, i < p → ahead (ge es i) e = true) ∧ (∀ i, p ≤ i → i < es.length → ahead (ge es i) e = false)
theorem rise_at {es : List Ed} (hs : es.Pairwise fun a b => ahead a b = true) {i j : Nat} (h : i < j) (hj : j < es.length) : ahead (ge es i) (ge es j) = true := by
  rw [ge_get (show i < es.length by omega), ge_get hj]
  exact List.pairwise_iff_getElem.1 hs i j (by omega) hj h
theorem low_left {es : List Ed} {e : Ed} (hs : es.Pairwise fun a b => ahead a b = true) {m : Nat} (hm : m < es.length) (h : ahead (ge es m) e = true) : ∀ k, k < m + 1 → ahead (ge es k) e = true := fun k hk => by
  by_cases q : k = m
  · subst q
    exact h
  · exact ahead_trans (rise_at hs (by omega) hm) h
theorem low_right {es : List Ed} {e : Ed} (hs : es.Pairwise fun a b => ahead a b = true) {m : Nat} (h : ahead (ge es m) e = false) : ∀ k, m ≤ k → k < es.length → ahead (ge es k) e = false := fun k hk hl => by
  by_cases q : m = k
  · subst q
    exact h
  · cases hc : ahead (ge es k) e
    · rfl
    · rw [ahead_trans (rise_at hs (show m < k by omega) hl) hc] at h
      cases h
/-- It is there, if it is at its place. -/
theorem low_mem {es : List Ed} {e : Ed} {p : Nat} (hs : es.Pairwise fun a b => ahead a b = true) (h : IsLow es e p) : e ∈ es ↔ p < es.length ∧ ge es p = e := by
  constructor
  · intro hm
    obtain ⟨i, hi, he⟩ := List.getElem_of_mem hm
    have hg := ge_get hi
    rw [he] at hg
    have h1 : ¬ i < p := fun q => by
      have := h.2.1 i q
      rw [hg, ahead_irrefl] at this
      cases this
    by_cases q : i = p
    · subst q
      exact ⟨hi, hg⟩
    · have h2 := h.2.2 p (Nat.le_refl _) (by omega)
      rw [← hg, rise_at hs (show p < i by omega) hi] at h2
      cases h2
  · rintro ⟨h1, rfl⟩
    rw [ge_get h1]
    exact List.getElem_mem h1

theorem cmp_dec {a b : Ed} {q : Bool} (h : ahead a b = q) : decide (cmpE a b < 0) = q := by
  have := cmpE_lt (a := a) (b := b)
  rw [h] at this
  cases q <;> simp at this ⊢ <;> omega

set_option maxHeartbeats 4000000 in
set_option maxRecDepth 100000 in
theorem bs_any {A : Option Addr} {n c : Nat} {es : List Ed} (e1 e2 : Int) (w : World) (h : ReadE w A n es) (hs : es.Pairwise fun a b => ahead a b = true) (hn6 : n ≤ 65536) :
    Calls Tryz.prog 207 #[.slice A n c, .agg #[.int .i64 e1, .int .i64 e2], .func (.func 46) #[.agg #[]] #[]] w fun r w' =>
      ∃ p : Nat, r = .returned (.tuple #[.int .i64 p, .bool (decide ((e1, e2) ∈ es))]) ∧ Hid (IsLow es (e1, e2) p) ∧ Below w.heap.size w w' := by
  have H1 := Lib.hid h.1
  have HS := Lib.hid hs
  have HB0 : Hid (EB w e1 e2 (w.alloc (ecell2 e1 e2))) := EB.refl w e1 e2
  clear hs
  go_enter Tryz.func207, Tryz.ntmps207
  go_wp2_with fail
  go_loopw [9, 10] (fun i j wr => ∃ a b : Nat, i = .int .i64 a ∧ j = .int .i64 b ∧ a ≤ b ∧ b ≤ n ∧ Hid (∀ k, k < a → ahead (ge es k) (e1, e2) = true) ∧ Hid (∀ k, b ≤ k → k < n → ahead (ge es k) (e1, e2) = false) ∧ Hid (EB w e1 e2 wr)) (fun i j _ => (intOf j).toNat - (intOf i).toNat)
  case atStart => exact ⟨0, n, rfl, rfl, Nat.zero_le _, Nat.le_refl _, fun k hk => absurd hk (by omega), fun k h1 h2 => absurd h1 (by omega), HB0⟩
  case round =>
    obtain ⟨a, b, rfl, rfl, hab, hbn, hl, hr, heb⟩ := hrel
    by_cases hlt : a < b
    · obtain ⟨m, hm⟩ : ∃ m, m = (a + b) / 2 := ⟨_, rfl⟩
      have hm1 : a ≤ m := by omega
      have hm2 : m < b := by omega
      have hlt2 : decide ((a : Int) < (b : Int)) = true := by rw [decide_eq_true_eq]; omega
      obtain ⟨bb, o, rfl, hc⟩ := (h.below heb.out.bel).2.2 (by omega)
      obtain ⟨hc1, hc2⟩ := hc m (by omega)
      obtain ⟨x0, x1⟩ := heb.out.cells
      have hmz : ((a : Int) + (b : Int)) / 2 = (m : Int) := by omega
      have m1 : (0 : Int) ≤ (m : Int) ∧ (m : Int) < (n : Int) := by omega
      have HS1 : Hid (wr.cell? ⟨bb, o + m * 2, none⟩ = some (.int .i64 (ge es m).1) ∧ wr.cell? ⟨bb, o + m * 2 + 1, none⟩ = some (.int .i64 (ge es m).2) ∧ wr.cell? ⟨w.heap.size, 0, none⟩ = some (.int .i64 e1) ∧ wr.cell? ⟨w.heap.size, 1, none⟩ = some (.int .i64 e2)) := ⟨hc1, hc2, x0, x1⟩
      have hcmp := fun W => compare_any (ge es m) (e1, e2) W
      have HML : Hid (ahead (ge es m) (e1, e2) = true → ∀ k, k < m + 1 → ahead (ge es k) (e1, e2) = true) := fun q => low_left HS.out (by have := H1.out; omega) q
      have HMR : Hid (ahead (ge es m) (e1, e2) = false → ∀ k, m ≤ k → k < n → ahead (ge es k) (e1, e2) = false) := fun q k h1 h2 => low_right HS.out q k h1 (by have := H1.out; omega)
      have hd := fun q => cmp_dec (a := ge es m) (b := (e1, e2)) (q := q)
      clear hc hc1 hc2 x0 x1 hm
      generalize ge es m = em at *
      obtain ⟨f1, f2⟩ := em
      simp only [] at hcmp
      cases hah : ahead (f1, f2) (e1, e2)
      all_goals
        have hdq := hd _ hah
        have HAH := Lib.hid hah
        clear hah hd
        generalize cmpE (f1, f2) (e1, e2) = r at *
        go_wp2_with fail
        clear hmz
        go_region_held3 (fun w' => w'.cell? ⟨bb, o + m * 2, none⟩ = some (.int .i64 f1) ∧ w'.cell? ⟨bb, o + m * 2 + 1, none⟩ = some (.int .i64 f2) ∧ w'.cell? ⟨w.heap.size, 0, none⟩ = some (.int .i64 e1) ∧ w'.cell? ⟨w.heap.size, 1, none⟩ = some (.int .i64 e2) ∧ RW wr w')
          (first | exact RW.all HS1.out (RW.refl wr) | exact RW.all HS1.out (RW.refl wr).drew | exact RW.all HS1.out (RW.later (And.right (And.right (And.right (And.right (by assumption))))) hb9) | fail)
          (first
            | (go_at_call 46; refine (hcmp _).mono ?_; rintro e w9 ⟨rfl, hb9⟩)
            | fail)
        have hfin : RW wr w9 := And.right (And.right (And.right (And.right (by assumption))))
        have HE9 := Lib.hid (heb.out.later hfin)
        have m2 : a ≤ m ∧ m < b := by omega
        go_wp2_with fail
        first
          | exact ⟨⟨m + 1, b, by go_num, rfl, by omega, by omega, HML.out HAH.out, hr, HE9⟩, by simp [intOf]; omega⟩
          | exact ⟨⟨a, m, rfl, by go_num, by omega, by omega, hl, HMR.out HAH.out, HE9⟩, by simp [intOf]; omega⟩
    · obtain rfl : a = b := by omega
      have HLOW : Hid (IsLow es (e1, e2) a) := ⟨by have := H1.out; omega, hl.out, fun i h1 h2 => hr.out i h1 (by have := H1.out; omega)⟩
      have HMEM := Lib.hid (low_mem HS.out HLOW.out)
      have hq : decide ((a : Int) < (a : Int)) = false := by simp
      by_cases han : a < n
      · have han2 : decide ((a : Int) < (n : Int)) = true := by rw [decide_eq_true_eq]; omega
        obtain ⟨bb, o, rfl, hc⟩ := (h.below heb.out.bel).2.2 (by omega)
        obtain ⟨hc1, hc2⟩ := hc a (by omega)
        obtain ⟨x0, x1⟩ := heb.out.cells
        have m1 : (0 : Int) ≤ (a : Int) ∧ (a : Int) < (n : Int) := by omega
        have HS1 : Hid (wr.cell? ⟨bb, o + a * 2, none⟩ = some (.int .i64 (ge es a).1) ∧ wr.cell? ⟨bb, o + a * 2 + 1, none⟩ = some (.int .i64 (ge es a).2) ∧ wr.cell? ⟨w.heap.size, 0, none⟩ = some (.int .i64 e1) ∧ wr.cell? ⟨w.heap.size, 1, none⟩ = some (.int .i64 e2)) := ⟨hc1, hc2, x0, x1⟩
        have hcmp := fun W => compare_any (ge es a) (e1, e2) W
        have hd : (cmpE (ge es a) (e1, e2) == 0) = decide ((e1, e2) ∈ es) := by
          rw [Bool.eq_iff_iff, beq_iff_eq, decide_eq_true_eq, HMEM.out, cmpE_eq]
          exact ⟨fun q => ⟨by have := H1.out; omega, q⟩, fun q => q.2⟩
        clear hc hc1 hc2 x0 x1
        generalize ge es a = em at *
        obtain ⟨f1, f2⟩ := em
        simp only [] at hcmp
        generalize cmpE (f1, f2) (e1, e2) = r at *
        go_wp2_with fail
        go_region_held3 (fun w' => w'.cell? ⟨bb, o + a * 2, none⟩ = some (.int .i64 f1) ∧ w'.cell? ⟨bb, o + a * 2 + 1, none⟩ = some (.int .i64 f2) ∧ w'.cell? ⟨w.heap.size, 0, none⟩ = some (.int .i64 e1) ∧ w'.cell? ⟨w.heap.size, 1, none⟩ = some (.int .i64 e2) ∧ RW wr w')
          (first | exact RW.all HS1.out (RW.refl wr) | exact RW.all HS1.out (RW.refl wr).drew | exact RW.all HS1.out (RW.later (And.right (And.right (And.right (And.right (by assumption))))) hb9) | fail)
          (first
            | (go_at_call 46; refine (hcmp _).mono ?_; rintro e w9 ⟨rfl, hb9⟩)
            | fail)
        have hfin : RW wr w9 := And.right (And.right (And.right (And.right (by assumption))))
        have HE9 := Lib.hid (heb.out.later hfin)
        go_wp2_with fail
        go_ret2
        exact ⟨a, rfl, HLOW, HE9.out.bel⟩
      · have han2 : decide ((a : Int) < (n : Int)) = false := by rw [decide_eq_false_iff_not]; omega
        have HD : Hid (decide ((e1, e2) ∈ es) = false) := by
          unfold Hid
          rw [decide_eq_false_iff_not, HMEM.out]
          rintro ⟨q, -⟩
          have := H1.out
          omega
        go_wp2_with fail
        go_region
        go_wp2_with fail
        go_ret2
        exact ⟨a, by rw [HD.out]; rfl, HLOW, (heb.out.draws 1).bel⟩
end

section
open Go.RowKit
theorem edge_any (a b : Int) (w : World) : Calls Tryz.prog 155 #[.int .i64 a, .int .i64 b] w fun e w' => e = .returned (.agg #[.int .i64 (turnE a b).1, .int .i64 (turnE a b).2]) ∧ Below w.heap.size w w' := by
  by_cases h : b < a
  · have ht : Hid (turnE a b = (b, a)) := by unfold Hid turnE; rw [if_pos h]
    go_enter Tryz.func155, Tryz.ntmps155
    go_wp2_with fail
    refine bodyPost_ret (results_cell_row rfl _ _ w.heap.size 57 #[.int .i64 b, .int .i64 a] (0, 0) _ rfl (heap_alloc_new _ _) Tryz.underlying57 rfl (by kernel_rfl)) rfl ?_
    exact ⟨by rw [ht.out], bel_alloc _ _⟩
  · have ht : Hid (turnE a b = (a, b)) := by unfold Hid turnE; rw [if_neg h]
    go_enter Tryz.func155, Tryz.ntmps155
    have h' : a ≤ b := by omega
    go_wp2_with fail
    · refine bodyPost_ret (results_cell_row rfl _ _ w.heap.size 57 #[.int .i64 a, .int .i64 b] (0, 0) _ rfl (heap_alloc_new _ _) Tryz.underlying57 rfl (by kernel_rfl)) rfl ?_
      exact ⟨by rw [ht.out], bel_alloc _ _⟩
    · obtain rfl : a = b := by omega
      refine bodyPost_ret (results_cell_row rfl _ _ w.heap.size 57 #[.int .i64 a, .int .i64 a] (0, 0) _ rfl (heap_alloc_new _ _) Tryz.underlying57 rfl (by kernel_rfl)) rfl ?_
      exact ⟨by rw [ht.out], bel_alloc _ _⟩

set_option maxHeartbeats 4000000 in
set_option maxRecDepth 100000 in
theorem place_any {A : Option Addr} {n c : Nat} {es : List Ed} {N : Int} (a b : Int) (w : World) (h : ReadE w A n es) (hr : rightB N es = true) :
    Calls Tryz.prog 158 #[.agg #[.int .i64 N, .slice A n c], .int .i64 a, .int .i64 b] w fun r w' =>
      ∃ p : Nat, r = .returned (.tuple #[.int .i64 p, .bool (decide (turnE a b ∈ es))]) ∧ Hid (IsLow es (turnE a b) p) ∧ Below w.heap.size w w' := by
  obtain ⟨hr0, hr1, hr2, hr3⟩ := rightB_iff.1 hr
  have hn6 : n ≤ 65536 := by rw [← h.1]; exact hr2
  have hW := h.below (bel_alloc w (gcells N A n c))
  have HBX := Lib.hid (boxg w N A n c)
  have hed := fun W => edge_any a b W
  have hbs := fun W (hW : ReadE W A n es) => bs_any (c := c) (turnE a b).1 (turnE a b).2 W hW hr3.2 hn6
  have HB0 := Lib.hid (bel_alloc w (gcells N A n c))
  clear hr hr0 hr1 hr2 hr3 hn6
  generalize turnE a b = te at *
  obtain ⟨t1, t2⟩ := te
  simp only [] at hed hbs
  go_enter Tryz.func158, Tryz.ntmps158
  go_wp2_with fail
  generalize w.alloc (gcells N A n c) = W1 at *
  go_region_held3 (fun w' => w'.cell? ⟨w.heap.size, 0, none⟩ = some (.int .i64 N) ∧ w'.cell? ⟨w.heap.size, 1, none⟩ = some (.slice A n c) ∧ RW W1 w')
    (first | assumption | exact RW.two HBX.out (RW.refl W1) | exact RW.two HBX.out (RW.refl W1).drew | exact RW.two HBX.out (RW.later (And.right (And.right (by assumption))) hb9) | exact RW.two HBX.out (RW.later (And.right (And.right (by assumption))) hb10) | fail)
    (first
      | (go_at_call 155; refine (hed _).mono ?_; rintro e w9 ⟨rfl, hb9⟩)
      | (go_at_call 207; refine (hbs _ (hW.below (And.right (And.right (by assumption))))).mono ?_; rintro e w10 ⟨p, rfl, hlow, hb10⟩)
      | fail)
  all_goals
    have hfin : RW W1 w10 := And.right (And.right (by assumption))
    have HF := Lib.hid (bel_trans HB0.out hfin)
    go_wp2_with fail
    go_ret2
    exact ⟨p, rfl, hlow, HF.out⟩
end

end Go.Proofs.YtbnipgajhpbolaaGreatDoor
