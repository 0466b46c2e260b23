/- What stays so when a blossom is closed -/
import Derived.Test.YtbnipgajhpbolaaGreatDoorTe16
set_option linter.unusedVariables false
set_option linter.unusedSimpArgs false
namespace Go.Proofs.YtbnipgajhpbolaaGreatDoor

section
open Go.RowKit
section
variable {N : Nat} {J : Nat → Nat → Prop} {mt : Nat → Int} {s t : Fo}

/-- The forest behind a blossom that v and w close: l1 and l2 are the bases on both sides, and their mates. -/
def Fo.shut (s : Fo) (v w b : Nat) (l1 l2 : List (Nat × Nat)) : Fo :=
  { s with
    ou := fun z => s.ou z || decide (z ∈ (l1 ++ l2).map (·.2))
    b1 := fun z => if z ∈ l1.map (·.2) then (v : Int) else if z ∈ l2.map (·.2) then (w : Int) else s.b1 z
    b2 := fun z => if z ∈ l1.map (·.2) then (w : Int) else if z ∈ l2.map (·.2) then (v : Int) else s.b2 z
    B := fun z => if s.B z ∈ (l1 ++ l2).map (·.1) ∨ z ∈ (l1 ++ l2).map (·.2) then b else s.B z }

/-- Who stands above a base. -/
theorem FoI.over (hm : MtOk N J mt) (hi : FoI N J mt s) {b r : Nat} (hb : Bse N s b) {q : List Int} (h : Vis mt s b r q) (hr : mt r = -1) (er : s.rt b = r) :
    ∀ z ∈ q ++ [(r : Int)], ∃ y : Nat, y < N ∧ z = y ∧ ((s.ou y = true ∧ (s.B y = b ∨ Dn mt s b (s.B y))) ∨ (s.ou y = false ∧ ∃ x : Nat, mt y = x ∧ (x = b ∨ Dn mt s b x))) := by
  obtain ⟨r', q', e1, e2, e3, e4, e5, e6⟩ := hi.path b hb.lt hb.ou
  obtain rfl : r = r' := by omega
  obtain rfl := h.det e4
  have key : ∀ n, ∀ b q, q.length = n → Bse N s b → Vis mt s b r q → s.rt b = r → ∀ z ∈ q ++ [(r : Int)], ∃ y : Nat, y < N ∧ z = y ∧ ((s.ou y = true ∧ (s.B y = b ∨ Dn mt s b (s.B y))) ∨ (s.ou y = false ∧ ∃ x : Nat, mt y = x ∧ (x = b ∨ Dn mt s b x))) := by
    intro n
    induction n using Nat.strongRecOn with
    | ind n ih =>
      intro b q hn hb h er z hz
      by_cases e : b = r
      · subst e
        obtain rfl := h.nil
        obtain rfl : z = b := by simpa using hz
        exact ⟨b, hb.lt, rfl, .inl ⟨hb.ou, .inl hb.bs⟩⟩
      · cases h with
        | here _ => exact absurd rfl e
        | odd _ f => exact absurd (by have := (hi.bo b hb.lt hb.ou).2.2.1; rwa [hb.bs] at this) f
        | @even _ _ m p q f1 f2 f3 f4 f5 f6 f7 =>
          obtain ⟨p', k1, k2, k3, k4, k5, k6, k7, k8, k9, k10, k11, k12⟩ := hi.down hm hb.lt hb.ou hb.bs f4
          obtain rfl : p = p' := by omega
          obtain ⟨b1, b2, b3, b4, q1, b5, b6⟩ := hi.bo p k2 k4
          obtain ⟨r', q', g1, g2, g3, g4, g5, g6⟩ := hi.path p k2 k4
          obtain rfl : r = r' := by omega
          obtain rfl := f7.det g4
          obtain ⟨l', h1, h2⟩ := hi.tail hm k2 k4 b5 b6 g1 g4 g5
          simp only [List.cons_append, List.mem_cons] at hz
          rcases hz with rfl | rfl | hz
          · exact ⟨b, hb.lt, rfl, .inl ⟨hb.ou, .inl hb.bs⟩⟩
          · exact ⟨m, k1, rfl, .inr ⟨k5, b, k8, .inl rfl⟩⟩
          · rw [h2, List.append_assoc] at hz
            rcases List.mem_append.1 hz with hz | hz
            · obtain ⟨y, y1, y2, y3, y4⟩ := b6 z hz
              exact ⟨y, y1, y2, .inl ⟨y3, .inr (by rw [y4]; exact k12)⟩⟩
            · obtain ⟨y, y1, y2, y3⟩ := ih l'.length (by rw [← hn, h2]; simp; omega) (s.B p) l' rfl (hi.bse k2 k4) h1 (by rw [b4, g1]) z hz
              refine ⟨y, y1, y2, ?_⟩
              rcases y3 with ⟨y3, y4⟩ | ⟨y3, x, y4, y5⟩
              · refine .inl ⟨y3, .inr ?_⟩
                rcases y4 with y4 | y4
                · rw [y4]; exact k12
                · exact k12.trans y4
              · refine .inr ⟨y3, x, y4, .inr ?_⟩
                rcases y5 with y5 | y5
                · rw [y5]; exact k12
                · exact k12.trans y5
  exact key _ b q rfl hb h er

theorem nodup_three {α : Type} {m : α} {a b : List α} (h1 : m ∉ a) (h2 : m ∉ b) (h3 : a.Nodup) (h4 : b.Nodup) (h5 : ∀ z ∈ a, z ∉ b) : (m :: (a.reverse ++ b)).Nodup := by
  rw [List.nodup_cons, List.nodup_append, List.mem_append, List.mem_reverse]
  refine ⟨fun h => h.elim h1 h2, List.pairwise_reverse.2 (h3.imp fun h => h.symm), h4, fun x hx y hy e => ?_⟩
  rw [List.mem_reverse] at hx
  subst e
  exact h5 x hx hy

/-- The way of one that becomes outer: on one side. -/
theorem FoI.side (hm : MtOk N J mt) (hi : FoI N J mt s) {v w b : Nat} (hv : v < N) (hw : w < N) (ov : s.ou v = true) (ow : s.ou w = true) (er : s.rt v = s.rt w) {l1 l2 : List (Nat × Nat)} (h1 : Chn mt s b (s.B v) l1) (h2 : Chn mt s b (s.B w) l2) (hd : ∀ x ∈ l1.map (·.1), x ∉ l2.map (·.1))
    (hle : s.Le t) {x m : Nat} (hx : (x, m) ∈ l1) (om : t.ou m = true) (lm : t.lab m = 2) (f1 : t.b1 m = (v : Int)) (f2 : t.b2 m = (w : Int)) :
    ∃ (r : Nat) (q qb : List Int), s.rt v = r ∧ r < N ∧ mt r = -1 ∧ Vis mt t m r q ∧ (q ++ [(r : Int)]).Nodup ∧ (∀ z ∈ q, ∃ y : Nat, y < N ∧ z = y ∧ s.rt y = r) ∧
      Vis mt t m b qb ∧ ∀ z ∈ qb, ∃ y : Nat, y < N ∧ z = y ∧ ((s.ou y = true ∧ (s.B y ∈ (l1 ++ l2).map (·.1) ∨ s.B y = b)) ∨ (s.ou y = false ∧ y ∈ (l1 ++ l2).map (·.2))) := by
  have B1 := hi.bse hv ov
  have B2 := hi.bse hw ow
  obtain ⟨bb, br, bd, M1⟩ := h1.mem hm hi B1
  obtain ⟨-, -, -, M2⟩ := h2.mem hm hi B2
  obtain ⟨x1, x2, x3, x4, x5, x6, x7, x8, x9, x10, x11⟩ := M1 x m hx
  obtain ⟨la, lb, s1, s2, s3, s4⟩ := h1.split hm hi B1 hx
  obtain ⟨qs, g1, g2, g3⟩ := hi.seg hm hv ov s2
  obtain ⟨qw, k1, k2, k3⟩ := hi.seg hm hw ow h2
  obtain ⟨r, qv, p1, p2, p3, p4, p5, p6⟩ := hi.path v hv ov
  obtain ⟨r', qr, w1, w2, w3, w4, w5, w6⟩ := hi.path w hw ow
  obtain rfl : r = r' := by omega
  obtain ⟨r', qx, y1, y2, y3, y4, y5, y6⟩ := hi.path x x1.lt x1.ou
  have erx : s.rt x = s.rt v := by rw [x9]; exact (hi.bo v hv ov).2.2.2.1
  obtain rfl : r = r' := by omega
  obtain ⟨r', qb0, z1, z2, z3, z4, z5, z6⟩ := hi.path b bb.lt bb.ou
  have erb : s.rt b = s.rt v := by rw [br]; exact (hi.bo v hv ov).2.2.2.1
  obtain rfl : r = r' := by omega
  have rfree : ∀ y : Nat, y < N → (r : Int) = y → s.ou y = false → False := fun y hy e o => by
    obtain rfl : r = y := by omega
    have := (hi.ev r p2 (hi.free r p2 p3).1).1
    rw [o] at this
    cases this
  have rin : ∀ {l : List (Nat × Nat)} {c : Nat} {q : List Int}, Vis mt s c r qx → (c : Int) ∈ q → True := fun _ _ => trivial
  have hxr : x ≠ r := fun q => by subst q; omega
  -- v's way goes through x
  have gv : (r : Int) ∉ qs := fun hin => by
    have := p4
    by_cases e : x = r
    · exact hxr e
    · obtain ⟨y, u1, u2, u3, u4⟩ := g3 _ hin
      obtain rfl : r = y := by omega
      rcases u4 with ⟨u4, u5⟩ | ⟨u4, u5⟩
      · have : s.B r = r := Classical.byContradiction fun q => by
          obtain ⟨-, -, -, -, q', h5, h6⟩ := hi.bo r p2 u4
          obtain ⟨m', l5, h7, -⟩ := h5.head (fun q2 => q q2.symm)
          omega
        rw [this] at u5
        rcases u5 with u5 | u5
        · obtain ⟨⟨a, c⟩, hac, e9⟩ := List.mem_map.1 u5
          simp only [] at e9
          subst e9
          have := (M1 a c (by rw [s1]; exact List.mem_append_left _ hac)).2.2.2.1
          omega
        · exact hxr u5.symm
      · exact rfree r u1 rfl u4
  have hqv : qv = qs ++ qx := p4.det (g1.trans y4 gv)
  obtain ⟨mx, lx, -, hlx⟩ := y4.head hxr
  have nsx : (qs ++ [(x : Int)]).Nodup := by
    rw [hqv, hlx] at p5
    have : (qs ++ [(x : Int)] ++ (lx ++ [(r : Int)])).Nodup := by simpa using p5
    exact (List.nodup_append.1 this).1
  have nin : (r : Int) ∉ qw := fun hin => by
    obtain ⟨y, u1, u2, u3, u4⟩ := k3 _ hin
    obtain rfl : r = y := by omega
    rcases u4 with ⟨u4, u5⟩ | ⟨u4, u5⟩
    · have : s.B r = r := Classical.byContradiction fun q => by
        obtain ⟨-, -, -, -, q', h5, h6⟩ := hi.bo r p2 u4
        obtain ⟨m', l5, h7, -⟩ := h5.head (fun q2 => q q2.symm)
        omega
      rw [this] at u5
      rcases u5 with u5 | u5
      · obtain ⟨⟨a, c⟩, hac, e9⟩ := List.mem_map.1 u5
        simp only [] at e9
        subst e9
        have := (M2 a c hac).2.2.2.1
        omega
      · exact k2 (by rw [← u5]; exact hin)
    · exact rfree r u1 rfl u4
  have hqr : qr = qw ++ qb0 := w4.det (k1.trans z4 nin)
  -- who stands where
  have inA : ∀ z ∈ qs ++ [(x : Int)], ∃ y : Nat, y < N ∧ z = y ∧ s.rt y = r ∧ ((s.ou y = true ∧ s.B y ∈ l1.map (·.1)) ∨ (s.ou y = false ∧ y ∈ l1.map (·.2) ∧ ∃ a : Nat, a ∈ la.map (·.1) ∧ mt y = (a : Int))) := fun z hz => by
    rcases List.mem_append.1 hz with hz | hz
    · obtain ⟨y, u1, u2, u3, u4⟩ := g3 z hz
      refine ⟨y, u1, u2, by rw [u3, p1], ?_⟩
      rcases u4 with ⟨u4, u5 | u5⟩ | ⟨u4, a, u5, u6⟩
      · refine .inl ⟨u4, ?_⟩
        rw [s1, List.map_append]
        exact List.mem_append_left _ u5
      · refine .inl ⟨u4, ?_⟩
        rw [u5, s1]
        simp
      · refine .inr ⟨u4, ?_, a, List.mem_map.2 ⟨_, u5, rfl⟩, u6⟩
        rw [s1, List.map_append]
        exact List.mem_append_left _ (List.mem_map.2 ⟨_, u5, rfl⟩)
    · obtain rfl : z = x := by simpa using hz
      exact ⟨x, x1.lt, rfl, by rw [erx, p1], .inl ⟨x1.ou, by rw [x1.bs, s1]; simp⟩⟩
  have inB : ∀ z ∈ qr ++ [(r : Int)], ∃ y : Nat, y < N ∧ z = y ∧ ((s.ou y = true ∧ (s.B y ∈ l2.map (·.1) ∨ s.B y = b ∨ Dn mt s b (s.B y))) ∨ (s.ou y = false ∧ ∃ a : Nat, mt y = (a : Int) ∧ (a ∈ l2.map (·.1) ∨ a = b ∨ Dn mt s b a))) := fun z hz => by
    rw [hqr, List.append_assoc] at hz
    rcases List.mem_append.1 hz with hz | hz
    · obtain ⟨y, u1, u2, u3, u4⟩ := k3 z hz
      refine ⟨y, u1, u2, ?_⟩
      rcases u4 with ⟨u4, u5 | u5⟩ | ⟨u4, a, u5, u6⟩
      · exact .inl ⟨u4, .inl u5⟩
      · exact .inl ⟨u4, .inr (.inl u5)⟩
      · exact .inr ⟨u4, a, u6, .inl (List.mem_map.2 ⟨_, u5, rfl⟩)⟩
    · obtain ⟨y, u1, u2, u3⟩ := hi.over hm bb z4 p3 (by rw [erb, p1]) z hz
      refine ⟨y, u1, u2, ?_⟩
      rcases u3 with ⟨u3, u4 | u4⟩ | ⟨u3, a, u4, u5 | u5⟩
      · exact .inl ⟨u3, .inr (.inl u4)⟩
      · exact .inl ⟨u3, .inr (.inr u4)⟩
      · exact .inr ⟨u3, a, u4, .inr (.inl u5)⟩
      · exact .inr ⟨u3, a, u4, .inr (.inr u5)⟩
  have apart : ∀ a, a ∈ l1.map (·.1) → ¬ (a ∈ l2.map (·.1) ∨ a = b ∨ Dn mt s b a) := fun a ha h => by
    obtain ⟨⟨a', c⟩, hac, rfl⟩ := List.mem_map.1 ha
    obtain ⟨j1, j2, -, -, -, -, -, -, -, -, j11⟩ := M1 a' c hac
    rcases h with h | h | h
    · exact hd _ ha h
    · exact j2 h
    · exact (j11.trans h).irr
  have xin : x ∈ l1.map (·.1) := List.mem_map.2 ⟨_, hx, rfl⟩
  have mA : (m : Int) ∉ qs ++ [(x : Int)] := fun hin => by
    obtain ⟨y, u1, u2, u3, u4⟩ := inA _ hin
    obtain rfl : m = y := by omega
    rcases u4 with ⟨u4, -⟩ | ⟨-, -, a, u5, u6⟩
    · rw [x6] at u4; cases u4
    · obtain rfl : x = a := by omega
      exact s4 u5
  have mB : (m : Int) ∉ qr ++ [(r : Int)] := fun hin => by
    obtain ⟨y, u1, u2, u3⟩ := inB _ hin
    obtain rfl : m = y := by omega
    rcases u3 with ⟨u3, -⟩ | ⟨-, a, u4, u5⟩
    · rw [x6] at u3; cases u3
    · obtain rfl : x = a := by omega
      exact apart x xin u5
  have hmr : m ≠ r := fun q => by subst q; omega
  have hmb : m ≠ b := fun q => by subst q; have := bb.ou; rw [x6] at this; cases this
  refine ⟨r, (m : Int) :: ((qs ++ [(x : Int)]).reverse ++ qr), (m : Int) :: ((qs ++ [(x : Int)]).reverse ++ qw), p1, p2, p3, .odd om (by omega) hmr x5 f1 f2 (g1.mono hle) (w4.mono hle), ?_, fun z hz => ?_, .odd om (by omega) hmb x5 f1 f2 (g1.mono hle) (k1.mono hle), fun z hz => ?_⟩
  · have := nodup_three mA mB nsx w5 fun z hz hz2 => by
      obtain ⟨y, u1, u2, u3, u4⟩ := inA z hz
      obtain ⟨y', v1, v2, v3⟩ := inB z hz2
      obtain rfl : y = y' := by omega
      rcases u4 with ⟨u4, u5⟩ | ⟨u4, -, a, u5, u6⟩
      · rcases v3 with ⟨-, v4⟩ | ⟨v3, -⟩
        · exact apart _ u5 v4
        · rw [u4] at v3; cases v3
      · rcases v3 with ⟨v3, -⟩ | ⟨-, a', v4, v5⟩
        · rw [u4] at v3; cases v3
        · obtain rfl : a = a' := by omega
          exact apart _ (by rw [s1, List.map_append]; exact List.mem_append_left _ u5) v5
    simpa using this
  · simp only [List.mem_cons, List.mem_append, List.mem_reverse] at hz
    rcases hz with rfl | hz | hz
    · exact ⟨m, x3, rfl, by rw [x8, (hi.bo v hv ov).2.2.2.1, p1]⟩
    · obtain ⟨y, u1, u2, u3, -⟩ := inA z (by simpa using hz)
      exact ⟨y, u1, u2, u3⟩
    · exact w6 z hz
  · rw [List.map_append, List.map_append]
    simp only [List.mem_cons, List.mem_append, List.mem_reverse] at hz ⊢
    rcases hz with rfl | hz | hz
    · exact ⟨m, x3, rfl, .inr ⟨x6, .inl (List.mem_map.2 ⟨_, hx, rfl⟩)⟩⟩
    · obtain ⟨y, u1, u2, u3, u4⟩ := inA z (by simpa using hz)
      refine ⟨y, u1, u2, ?_⟩
      rcases u4 with ⟨u4, u5⟩ | ⟨u4, u5, -⟩
      · exact .inl ⟨u4, .inl (.inl u5)⟩
      · exact .inr ⟨u4, .inl u5⟩
    · obtain ⟨y, u1, u2, u3, u4⟩ := k3 z hz
      refine ⟨y, u1, u2, ?_⟩
      rcases u4 with ⟨u4, u5 | u5⟩ | ⟨u4, a, u5, u6⟩
      · exact .inl ⟨u4, .inl (.inr u5)⟩
      · exact .inl ⟨u4, .inr u5⟩
      · exact .inr ⟨u4, .inr (List.mem_map.2 ⟨_, u5, rfl⟩)⟩

/-- A blossom is closed. -/
theorem FoI.shut (hm : MtOk N J mt) (hi : FoI N J mt s) {v w b : Nat} (hv : v < N) (hw : w < N) (ov : s.ou v = true) (ow : s.ou w = true) (er : s.rt v = s.rt w) (hj : J v w) {l1 l2 : List (Nat × Nat)} (h1 : Chn mt s b (s.B v) l1) (h2 : Chn mt s b (s.B w) l2) (hd : ∀ x ∈ l1.map (·.1), x ∉ l2.map (·.1)) :
    FoI N J mt (s.shut v w b l1 l2) ∧ s.Le (s.shut v w b l1 l2) := by
  have B1 := hi.bse hv ov
  have B2 := hi.bse hw ow
  obtain ⟨bb, br, bd, M1⟩ := h1.mem hm hi B1
  obtain ⟨-, br2, -, M2⟩ := h2.mem hm hi B2
  have erv : s.rt (s.B v) = s.rt v := (hi.bo v hv ov).2.2.2.1
  have erw : s.rt (s.B w) = s.rt w := (hi.bo w hw ow).2.2.2.1
  have MM : ∀ y m, (y, m) ∈ l1 ++ l2 → Bse N s y ∧ y ≠ b ∧ m < N ∧ mt y = m ∧ mt m = y ∧ s.ou m = false ∧ s.lab m = 2 ∧ s.rt m = s.rt v ∧ s.rt y = s.rt v ∧ Dn mt s y b := fun y m h => by
    rcases List.mem_append.1 h with h | h
    · obtain ⟨j1, j2, j3, j4, j5, j6, j7, j8, j9, j10, j11⟩ := M1 y m h
      exact ⟨j1, j2, j3, j4, j5, j6, j7, by rw [j8, erv], by rw [j9, erv], j11⟩
    · obtain ⟨j1, j2, j3, j4, j5, j6, j7, j8, j9, j10, j11⟩ := M2 y m h
      exact ⟨j1, j2, j3, j4, j5, j6, j7, by rw [j8, erw, er], by rw [j9, erw, er], j11⟩
  have inK : ∀ z, z ∈ (l1 ++ l2).map (·.1) → ∃ m, (z, m) ∈ l1 ++ l2 := fun z h => by
    obtain ⟨⟨a, c⟩, hac, rfl⟩ := List.mem_map.1 h
    exact ⟨c, hac⟩
  have inM : ∀ z, z ∈ (l1 ++ l2).map (·.2) → ∃ x, (x, z) ∈ l1 ++ l2 := fun z h => by
    obtain ⟨⟨a, c⟩, hac, rfl⟩ := List.mem_map.1 h
    exact ⟨a, hac⟩
  have noM : ∀ z, s.ou z = true → z ∉ (l1 ++ l2).map (·.2) := fun z o h => by
    obtain ⟨x, h⟩ := inM z h
    have := (MM x z h).2.2.2.2.2.1
    rw [o] at this
    cases this
  have bK : b ∉ (l1 ++ l2).map (·.1) := fun h => by
    obtain ⟨m, h⟩ := inK b h
    exact (MM b m h).2.1 rfl
  have le : s.Le (s.shut v w b l1 l2) := by
    refine ⟨fun z o => ?_, fun z h => ⟨h, rfl⟩⟩
    have hn := noM z o
    rw [List.map_append, List.mem_append, not_or] at hn
    refine ⟨by simp [Fo.shut, o], rfl, ?_, ?_⟩
    · simp only [Fo.shut]
      rw [if_neg hn.1, if_neg hn.2]
    · simp only [Fo.shut]
      rw [if_neg hn.1, if_neg hn.2]
  have ouM : ∀ z, z ∈ (l1 ++ l2).map (·.2) → (s.shut v w b l1 l2).ou z = true := fun z h => by simp only [Fo.shut]; rw [decide_eq_true h, Bool.or_true]
  have ouS : ∀ z, (s.shut v w b l1 l2).ou z = true → s.ou z = true ∨ z ∈ (l1 ++ l2).map (·.2) := fun z h => by
    simp only [Fo.shut, Bool.or_eq_true, decide_eq_true_eq] at h
    exact h
  have BM : ∀ z, z ∈ (l1 ++ l2).map (·.2) → (s.shut v w b l1 l2).B z = b := fun z h => if_pos (.inr h)
  have BK : ∀ z, s.B z ∈ (l1 ++ l2).map (·.1) → (s.shut v w b l1 l2).B z = b := fun z h => if_pos (.inl h)
  have BN : ∀ z, s.B z ∉ (l1 ++ l2).map (·.1) → z ∉ (l1 ++ l2).map (·.2) → (s.shut v w b l1 l2).B z = s.B z := fun z h k => if_neg (fun q => q.elim h k)
  have Bb : ∀ z, s.ou z = true → s.B z = b → (s.shut v w b l1 l2).B z = b := fun z o e => by rw [BN z (by rw [e]; exact bK) (noM z o), e]
  have hbb : (s.shut v w b l1 l2).B b = b := Bb b bb.ou bb.bs
  -- the ways of the new ones
  have new : ∀ m, m ∈ (l1 ++ l2).map (·.2) → ∃ (r : Nat) (q qb : List Int), s.rt v = r ∧ r < N ∧ mt r = -1 ∧ Vis mt (s.shut v w b l1 l2) m r q ∧ (q ++ [(r : Int)]).Nodup ∧ (∀ z ∈ q, ∃ y : Nat, y < N ∧ z = y ∧ s.rt y = r) ∧
      Vis mt (s.shut v w b l1 l2) m b qb ∧ ∀ z ∈ qb, ∃ y : Nat, y < N ∧ z = y ∧ ((s.ou y = true ∧ (s.B y ∈ (l1 ++ l2).map (·.1) ∨ s.B y = b)) ∨ (s.ou y = false ∧ y ∈ (l1 ++ l2).map (·.2))) := fun m h => by
    have hom := ouM m h
    by_cases q1 : m ∈ l1.map (·.2)
    · obtain ⟨⟨x, m'⟩, hx, rfl⟩ := List.mem_map.1 q1
      exact hi.side hm hv hw ov ow er h1 h2 hd le hx hom (M1 x m' hx).2.2.2.2.2.2.1 (if_pos q1) (if_pos q1)
    · have q2 : m ∈ l2.map (·.2) := by
        rw [List.map_append, List.mem_append] at h
        exact h.resolve_left q1
      obtain ⟨⟨x, m'⟩, hx, rfl⟩ := List.mem_map.1 q2
      have := hi.side (t := s.shut v w b l1 l2) hm hw hv ow ov er.symm h2 h1 (fun a h k => hd a k h) le hx hom (M2 x m' hx).2.2.2.2.2.2.1 (by simp only [Fo.shut]; rw [if_neg q1, if_pos q2]) (by simp only [Fo.shut]; rw [if_neg q1, if_pos q2])
      obtain ⟨r, q, qb, e1, e2, e3, e4, e5, e6, e7, e8⟩ := this
      refine ⟨r, q, qb, by rw [er, e1], e2, e3, e4, e5, e6, e7, fun z hz => ?_⟩
      obtain ⟨y, u1, u2, u3⟩ := e8 z hz
      refine ⟨y, u1, u2, ?_⟩
      simp only [List.map_append, List.mem_append] at u3 ⊢
      rcases u3 with ⟨u3, u4⟩ | ⟨u3, u4⟩
      · exact .inl ⟨u3, by rcases u4 with (u4 | u4) | u4 <;> simp [u4]⟩
      · exact .inr ⟨u3, u4.symm⟩
  refine ⟨⟨fun z hz => hi.lab z hz, fun z hz h => hi.free z hz h, fun z hz h => ?_, fun z hz h => ?_, fun z hz h => ?_, fun z hz h o => ?_, fun z hz h => hi.rt z hz h, fun z hz o => ?_, fun z hz => ?_, fun z hz o => ?_, fun z hz o => ?_, fun z hz h o x hx => ?_, fun z hz o h m hmm => ?_, fun z hz o h m hmm => ?_⟩, le⟩
  · obtain ⟨k1, k2, k3⟩ := hi.out z hz h
    refine ⟨?_, k2, k3⟩
    cases e : (s.shut v w b l1 l2).ou z
    · rfl
    · rcases ouS z e with e | e
      · rw [k1] at e; cases e
      · obtain ⟨x, e⟩ := inM z e
        have h7 := (MM x z e).2.2.2.2.2.2.1
        have h8 : s.lab z = 0 := h
        omega
  · obtain ⟨k1, k2⟩ := hi.ev z hz h
    exact ⟨(le.ou z k1).1, k2⟩
  · obtain ⟨x, p, k1, k2, k3, k4, k5, k6, k7, k8, k9⟩ := hi.od z hz h
    exact ⟨x, p, k1, k2, k3, k4, k5, k6, (le.ou p k7).1, k8, k9⟩
  · rcases ouS z o with o | o
    · obtain ⟨a, c, k1, k2, k3, k4, k5, k6, k7, k8, k9⟩ := hi.br z hz h o
      obtain ⟨-, -, e1, e2⟩ := le.ou z o
      exact ⟨a, c, k1, k2, by rw [e1]; exact k3, by rw [e2]; exact k4, (le.ou a k5).1, (le.ou c k6).1, k7, k8, k9⟩
    · obtain ⟨x, e⟩ := inM z o
      have hr := (MM x z e).2.2.2.2.2.2.2.1
      by_cases q1 : z ∈ l1.map (·.2)
      · exact ⟨v, w, hv, hw, if_pos q1, if_pos q1, (le.ou v ov).1, (le.ou w ow).1, hr.symm, (hr.trans er).symm, hj⟩
      · have q2 : z ∈ l2.map (·.2) := by
          rw [List.map_append, List.mem_append] at o
          exact o.resolve_left q1
        exact ⟨w, v, hw, hv, by simp only [Fo.shut]; rw [if_neg q1, if_pos q2], by simp only [Fo.shut]; rw [if_neg q1, if_pos q2], (le.ou w ow).1, (le.ou v ov).1, (hr.trans er).symm, hr.symm, hm.sym _ _ hj⟩
  · rcases ouS z o with o | o
    · obtain ⟨r, q, k1, k2, k3, k4, k5, k6⟩ := hi.path z hz o
      exact ⟨r, q, k1, k2, k3, k4.mono le, k5, k6⟩
    · obtain ⟨x, e⟩ := inM z o
      have hr := (MM x z e).2.2.2.2.2.2.2.1
      obtain ⟨r, q, qb, e1, e2, e3, e4, e5, e6, -⟩ := new z o
      exact ⟨r, q, by show s.rt z = r; rw [hr, e1], e2, e3, e4, e5, e6⟩
  · show (if _ then b else s.B z) < N
    split
    · exact bb.lt
    · exact hi.bN z hz
  · have o1 : s.ou z = false := by
      cases e : s.ou z
      · rfl
      · rw [(le.ou z e).1] at o; cases o
    have h1 := hi.inn z hz o1
    refine (BN z (fun h => ?_) (fun h => ?_)).trans h1
    · rw [h1] at h
      obtain ⟨m, h⟩ := inK z h
      have := (MM z m h).1.ou
      rw [o1] at this
      cases this
    · have := ouM z h
      rw [o] at this
      cases this
  · rcases ouS z o with o | o
    · obtain ⟨k1, k2, k3, k4, q, k5, k6⟩ := hi.bo z hz o
      by_cases hK : s.B z ∈ (l1 ++ l2).map (·.1)
      · rw [BK z hK]
        obtain ⟨m, hin⟩ := inK _ hK
        have hx := MM _ m hin
        -- from z's base on
        have hc : ∃ l3, Chn mt s b (s.B z) l3 ∧ ∀ a, a ∈ l3 → a ∈ l1 ++ l2 := by
          rcases List.mem_append.1 hin with hin | hin
          · obtain ⟨la, lb, e1, -, e3, -⟩ := h1.split hm hi B1 hin
            exact ⟨_, e3, fun a ha => List.mem_append_left _ (by rw [e1]; exact List.mem_append_right _ ha)⟩
          · obtain ⟨la, lb, e1, -, e3, -⟩ := h2.split hm hi B2 hin
            exact ⟨_, e3, fun a ha => List.mem_append_right _ (by rw [e1]; exact List.mem_append_right _ ha)⟩
        obtain ⟨l3, c1, c2⟩ := hc
        obtain ⟨q, g1, g2, g3⟩ := hi.seg hm hz o c1
        have lb : s.lab b = 1 := by have := (hi.bo b bb.lt bb.ou).2.2.1; rwa [bb.bs] at this
        refine ⟨(le.ou b bb.ou).1, hbb, lb, ?_, q, g1.mono le, fun y hy => ?_⟩
        · show s.rt b = s.rt z
          rw [br, erv, ← k4, hx.2.2.2.2.2.2.2.2.1]
        · obtain ⟨y', u1, u2, u3, u4⟩ := g3 y hy
          refine ⟨y', u1, u2, ?_⟩
          rcases u4 with ⟨u4, u5 | u5⟩ | ⟨u4, a, u5, u6⟩
          · refine ⟨(le.ou y' u4).1, BK y' ?_⟩
            obtain ⟨⟨a, c⟩, ha, e9⟩ := List.mem_map.1 u5
            rw [← e9]
            exact List.mem_map.2 ⟨_, c2 _ ha, rfl⟩
          · exact ⟨(le.ou y' u4).1, Bb y' u4 u5⟩
          · have hM : y' ∈ (l1 ++ l2).map (·.2) := List.mem_map.2 ⟨_, c2 _ u5, rfl⟩
            exact ⟨ouM y' hM, BM y' hM⟩
      · rw [BN z hK (noM z o)]
        refine ⟨(le.ou _ k1).1, ?_, k3, k4, q, k5.mono le, fun y hy => ?_⟩
        · rw [BN _ (by rw [k2]; exact hK) (noM _ k1), k2]
        · obtain ⟨y', u1, u2, u3, u4⟩ := k6 y hy
          exact ⟨y', u1, u2, (le.ou y' u3).1, by rw [BN y' (by rw [u4]; exact hK) (noM _ u3), u4]⟩
    · rw [BM z o]
      obtain ⟨x, e⟩ := inM z o
      have hr := (MM x z e).2.2.2.2.2.2.2.1
      obtain ⟨r, q, qb, e1, e2, e3, e4, e5, e6, e7, e8⟩ := new z o
      have lb : s.lab b = 1 := by have := (hi.bo b bb.lt bb.ou).2.2.1; rwa [bb.bs] at this
      refine ⟨(le.ou b bb.ou).1, hbb, lb, ?_, qb, e7, fun y hy => ?_⟩
      · show s.rt b = s.rt z
        rw [br, erv, hr]
      · obtain ⟨y', u1, u2, u3⟩ := e8 y hy
        refine ⟨y', u1, u2, ?_⟩
        rcases u3 with ⟨u3, u4 | u4⟩ | ⟨u3, u4⟩
        · exact ⟨(le.ou y' u3).1, BK y' u4⟩
        · exact ⟨(le.ou y' u3).1, Bb y' u3 u4⟩
        · exact ⟨ouM y' u4, BM y' u4⟩
  · have o1 : s.ou z = false := by
      cases e : s.ou z
      · rfl
      · rw [(le.ou z e).1] at o; cases o
    have h1 := hi.top z hz h o1 x hx
    obtain ⟨x1, x2, -⟩ := hm.back hz hx
    refine (BN x (fun k => ?_) (fun k => ?_)).trans h1
    · rw [h1] at k
      obtain ⟨m, k⟩ := inK x k
      have h4 := (MM x m k).2.2.2.1
      obtain rfl : z = m := by omega
      have := ouM z (List.mem_map.2 ⟨_, k, rfl⟩)
      rw [o] at this
      cases this
    · obtain ⟨y, k⟩ := inM x k
      have h5 := (MM y x k).2.2.2.2.1
      obtain rfl : z = y := by omega
      have := (MM z x k).1.ou
      rw [o1] at this
      cases this
  · have o1 : s.ou z = true := by
      rcases ouS z o with o | o
      · exact o
      · rw [BM z o] at h
        rw [← h]
        exact bb.ou
    have hz1 : s.B z = z := by
      by_cases hK : s.B z ∈ (l1 ++ l2).map (·.1)
      · rw [BK z hK] at h
        rw [← h]
        exact bb.bs
      · rwa [BN z hK (noM z o1)] at h
    have hzK : z ∉ (l1 ++ l2).map (·.1) := fun hK => by
      have := BK z (by rw [hz1]; exact hK)
      rw [h] at this
      rw [this] at hK
      exact bK hK
    have k := hi.bas z hz o1 hz1 m hmm
    cases e : (s.shut v w b l1 l2).ou m
    · rfl
    · rcases ouS m e with e | e
      · rw [k] at e; cases e
      · obtain ⟨x, e⟩ := inM m e
        have h4 := (MM x m e).2.2.2.2.1
        have h5 := (hm.back hz hmm).2.1
        obtain rfl : z = x := by omega
        exact absurd (List.mem_map.2 ⟨_, e, rfl⟩) hzK
  · rcases ouS z o with o | o
    · by_cases hK : s.B z ∈ (l1 ++ l2).map (·.1)
      · rw [BK z hK]
        by_cases q : s.B z = z
        · rw [q] at hK
          obtain ⟨m', hK⟩ := inK z hK
          have h4 := (MM z m' hK).2.2.2.1
          obtain rfl : m = m' := by omega
          have hM : m ∈ (l1 ++ l2).map (·.2) := List.mem_map.2 ⟨_, hK, rfl⟩
          exact ⟨ouM m hM, BM m hM⟩
        · obtain ⟨k1, k2⟩ := hi.clo z hz o q m hmm
          exact ⟨(le.ou m k1).1, BK m (by rw [k2]; exact hK)⟩
      · rw [BN z hK (noM z o)] at h ⊢
        obtain ⟨k1, k2⟩ := hi.clo z hz o h m hmm
        exact ⟨(le.ou m k1).1, by rw [BN m (by rw [k2]; exact hK) (noM m k1), k2]⟩
    · rw [BM z o]
      obtain ⟨x, e⟩ := inM z o
      obtain ⟨j1, j2, j3, j4, j5, -⟩ := MM x z e
      obtain rfl : m = x := by omega
      exact ⟨(le.ou m j1.ou).1, BK m (by rw [j1.bs]; exact List.mem_map.2 ⟨_, e, rfl⟩)⟩
end
end

end Go.Proofs.YtbnipgajhpbolaaGreatDoor
