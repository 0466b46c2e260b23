/- A search for a path, plainly -/
import Derived.Test.YtbnipgajhpbolaaGreatDoorTe22
import Derived.Test.YtbnipgajhpbolaaGreatDoorTe23
set_option linter.unusedVariables false
set_option linter.unusedSimpArgs false
namespace Go.Proofs.YtbnipgajhpbolaaGreatDoor

section
open Go.RowKit
/-- Who is joined. -/
def JV (es : List Ed) (x y : Nat) : Prop := (y : Int) ∈ nearV es x
theorem jv_ok {N : Nat} {es : List Ed} {ms : List Int} (hr : Rise N es) (h : MatchN N es ms) : MtOk N (JV es) (gi ms) := by
  refine ⟨fun x y h => near_symm h, fun x y h => ?_, fun v hv => ?_⟩
  · have := near_in hr h
    omega
  · rcases h.2 v hv with k | ⟨w, k1, k2, k3, k4⟩
    · exact .inl k
    · exact .inr ⟨w, k1, k2, k4, k3⟩
/-- How often edges have been looked at. -/
def degs (es : List Ed) : List Nat → Nat
  | [] => 0
  | v :: P => (nearV es v).length + degs es P
theorem degs_app (es : List Ed) : ∀ P Q, degs es (P ++ Q) = degs es P + degs es Q
  | [], Q => by simp [degs]
  | v :: P, Q => by rw [List.cons_append, degs, degs, degs_app es P Q]; omega

section
variable {N : Nat} {es : List Ed} {s s' : Fm} {B B' : Nat → Nat} {mt : Nat → Int}
/-- What a search keeps: P has been looked from, v is looked from, so far i. -/
structure SQ (N : Nat) (es : List Ed) (s : Fm) (B : Nat → Nat) (P : List Nat) (cur : Option Nat) (i : Nat) : Prop where
  out : ∀ z, z < N → (s.ou z = true ↔ (z ∈ P ∨ (z : Int) ∈ s.wl ∨ cur = some z))
  wn : s.wl.Nodup
  pn : P.Nodup
  pw : ∀ z ∈ P, z < N ∧ (z : Int) ∉ s.wl
  cw : ∀ v, cur = some v → v < N ∧ v ∉ P ∧ (v : Int) ∉ s.wl
  wlt : ∀ x ∈ s.wl, ∃ z : Nat, z < N ∧ x = z
  fit : ∀ v ∈ P, ∀ w, JV es v w → s.lab w ≠ 0 ∧ (s.ou w = true → (w : Int) ∈ s.wl ∨ cur = some w ∨ B v = B w)
  now : ∀ v, cur = some v → ∀ j, j < i → ∀ w : Nat, gi (nearV es v) j = w → s.lab w ≠ 0 ∧ (s.ou w = true → (w : Int) ∈ s.wl ∨ B v = B w)
  lk : s.lk = ((degs es P + (if cur = none then 0 else i) : Nat) : Int)
  gn : ∀ z, s.gn z = false
/-- The next one. -/
theorem SQ.pop {P : List Nat} {v : Nat} {l : List Int} {x : Value} (h : SQ N es s B P none 0) (hl : s.wl = (v : Int) :: l) : SQ N es { s with wv := x, wl := l } B P (some v) 0 := by
  have hn := h.wn
  rw [hl, List.nodup_cons] at hn
  have hv : v < N := by obtain ⟨z, a, b⟩ := h.wlt (v : Int) (by rw [hl]; simp); omega
  refine ⟨fun z hz => ?_, hn.2, h.pn, fun z hz => ⟨(h.pw z hz).1, fun q => (h.pw z hz).2 (by rw [hl]; simp [q])⟩, fun u hu => ?_, fun y hy => h.wlt y (by rw [hl]; exact List.mem_cons_of_mem _ hy), fun u hu w j => ?_, fun u hu j hj => absurd hj (by omega), ?_, h.gn⟩
  · show s.ou z = true ↔ _
    rw [h.out z hz, hl]
    constructor
    · rintro (q | q | q)
      · exact .inl q
      · rcases List.mem_cons.1 q with q | q
        · have : v = z := by omega
          exact .inr (.inr (by rw [this]))
        · exact .inr (.inl q)
      · cases q
    · rintro (q | q | q)
      · exact .inl q
      · exact .inr (.inl (List.mem_cons_of_mem _ q))
      · cases q
        exact .inr (.inl (by simp))
  · cases hu
    exact ⟨hv, fun q => (h.pw v q).2 (by rw [hl]; simp), hn.1⟩
  · obtain ⟨a, b⟩ := h.fit u hu w j
    refine ⟨a, fun o => ?_⟩
    rcases b o with b | b | b
    · rw [hl] at b
      rcases List.mem_cons.1 b with b | b
      · have : v = w := by omega
        exact .inr (.inl (by rw [this]))
      · exact .inl b
    · cases b
    · exact .inr (.inr b)
  · rw [show ({ s with wv := x, wl := l } : Fm).lk = s.lk from rfl, h.lk]
    simp
/-- All of v's edges have been looked at. -/
theorem SQ.done {P : List Nat} {v : Nat} (h : SQ N es s B P (some v) (nearV es v).length) : SQ N es s B (P ++ [v]) none 0 := by
  obtain ⟨c1, c2, c3⟩ := h.cw v rfl
  refine ⟨fun z hz => ?_, h.wn, ?_, fun z hz => ?_, fun u hu => (by cases hu), h.wlt, fun u hu w j => ?_, fun u hu => (by cases hu), ?_, h.gn⟩
  · rw [h.out z hz]
    constructor
    · rintro (q | q | q)
      · exact .inl (List.mem_append_left _ q)
      · exact .inr (.inl q)
      · cases q
        exact .inl (by simp)
    · rintro (q | q | q)
      · rcases List.mem_append.1 q with q | q
        · exact .inl q
        · have : z = v := by simpa using q
          exact .inr (.inr (by rw [this]))
      · exact .inr (.inl q)
      · cases q
  · rw [List.nodup_append]
    refine ⟨h.pn, by simp, fun a ha b hb e => ?_⟩
    have : b = v := by simpa using hb
    subst this
    subst e
    exact c2 ha
  · rcases List.mem_append.1 hz with hz | hz
    · exact h.pw z hz
    · have : z = v := by simpa using hz
      subst this
      exact ⟨c1, c3⟩
  · -- what v tells of w
    have key : ∀ w, JV es v w → s.lab w ≠ 0 ∧ (s.ou w = true → (w : Int) ∈ s.wl ∨ B v = B w) := fun w j => by
      obtain ⟨k, hk, e⟩ := List.getElem_of_mem j
      exact h.now v rfl k hk w (by rw [gi_at hk, e])
    rcases List.mem_append.1 hu with hu | hu
    · obtain ⟨a, b⟩ := h.fit u hu w j
      refine ⟨a, fun o => ?_⟩
      rcases b o with b | b | b
      · exact .inl b
      · cases b
        obtain ⟨c, d⟩ := key u (near_symm j)
        have ou : s.ou u = true := (h.out u (h.pw u hu).1).2 (.inl hu)
        rcases d ou with d | d
        · exact absurd d (h.pw u hu).2
        · exact .inr (.inr d.symm)
      · exact .inr (.inr b)
    · have : u = v := by simpa using hu
      subst this
      obtain ⟨c, d⟩ := key w j
      exact ⟨c, fun o => (d o).elim .inl fun d => .inr (.inr d)⟩
  · rw [h.lk, degs_app]
    simp [degs]
/-- An edge more has been looked at: nothing was to do. -/
theorem SQ.skip {P : List Nat} {v w i : Nat} {up : Nat → Int} (h : SQ N es s B P (some v) i) (hw : gi (nearV es v) i = w) (hk : s.lab w ≠ 0 ∧ (s.ou w = true → (w : Int) ∈ s.wl ∨ B v = B w)) : SQ N es { s with up := up, lk := s.lk + 1 } B P (some v) (i + 1) := by
  refine ⟨h.out, h.wn, h.pn, h.pw, h.cw, h.wlt, h.fit, fun u hu j hj y e => ?_, ?_, h.gn⟩
  · by_cases q : j = i
    · subst q
      cases hu
      have : w = y := by omega
      subst this
      exact hk
    · exact h.now u hu j (by omega) y e
  · show s.lk + 1 = _
    rw [h.lk]
    simp
    omega
theorem FoI.nothing {J : Nat → Nat → Prop} (hm : MtOk N J mt) (hi : FoI N J mt (s.fo B)) {v w : Nat} (hv : v < N) (ov : s.ou v = true) (hg : ∀ z, s.gn z = false) (h : lookB mt s B v w = 0) : s.lab w ≠ 0 ∧ (s.ou w = true → B v = B w) := by
  have ng : ∀ z, s.goneB z = false := fun z => by unfold Fm.goneB; rw [hg]; simp
  unfold lookB at h
  rw [ng, ng] at h
  by_cases q : mt v = (w : Int)
  · constructor
    · intro e
      have hl : s.lab v ≠ 0 := fun e0 => by
        have := (hi.out v hv e0).1
        have h2 : s.ou v = false := this
        rw [ov] at h2; cases h2
      rcases hi.lab v hv with k | k | k
      · exact hl k
      · rcases (hi.ev v hv k).2 with c | ⟨m, c1, c2, c3⟩
        · omega
        · obtain rfl : w = m := by omega
          have c3' : s.lab w = 2 := c3
          omega
      · obtain ⟨x, p, c1, c2, c3, c4, -⟩ := hi.od v hv k
        obtain rfl : w = x := by omega
        have c4' : s.lab w = 1 := c4
        omega
    · intro o
      by_cases e : B v = v
      · have := hi.bas v hv ov e w q
        have h2 : s.ou w = false := this
        rw [o] at h2; cases h2
      · exact (hi.clo v hv ov e w q).2.symm
  · rw [if_neg q, if_neg (by decide), if_neg (by decide)] at h
    by_cases e : s.lab w = 0
    · rw [if_pos e] at h
      omega
    · rw [if_neg e] at h
      refine ⟨e, fun o => Classical.byContradiction fun c => ?_⟩
      rw [if_pos ⟨o, c⟩] at h
      omega
/-- At the end. -/
theorem SQ.end {P : List Nat} (h : SQ N es s B P none 0) (hl : s.wl = []) : (s.fo B).Done N (JV es) := fun v w hv ov j => by
  have hp : v ∈ P := by
    rcases (h.out v hv).1 ov with q | q | q
    · exact q
    · rw [hl] at q; cases q
    · cases q
  obtain ⟨a, b⟩ := h.fit v hp w j
  refine ⟨a, fun o => ?_⟩
  rcases b o with b | b | b
  · rw [hl] at b; cases b
  · cases b
  · exact b

/-- The search begins. -/
theorem SQ.start (hm : MtOk N (JV es) mt) (h : NewI N mt s N) : SQ N es s (fun z => z) [] none 0 ∧ FoI N (JV es) mt (s.fo fun z => z) ∧ Ub N s.up s.ba (fun z => z) (fun z => z) (fun z => z) (fun _ => 0) := by
  obtain ⟨n1, n2, n3, n4, n5, n6⟩ := h
  have hou : ∀ z, z < N → (s.ou z = true ↔ mt z = -1) := fun z hz => by
    obtain ⟨-, -, a, b⟩ := n1 z hz
    constructor
    · intro o
      exact Classical.byContradiction fun q => by
        have := (b q).2.1
        rw [o] at this; cases this
    · exact fun q => (a q).2.1
  refine ⟨⟨fun z hz => ?_, by rw [n6]; exact sel_nodup _ _, by simp, fun z hz => (by cases hz), fun v hv => (by cases hv), fun x hx => ?_, fun v hv => (by cases hv), fun v hv => (by cases hv), by rw [n5]; simp [degs], fun z => (n3 z).1⟩, ?_, ?_⟩
  · rw [hou z hz, n6, mem_sel_nat]
    constructor
    · exact fun q => .inr (.inl ⟨hz, by simp [q]⟩)
    · rintro (q | q | q)
      · cases q
      · simpa using q.2
      · cases q
  · rw [n6] at hx
    obtain ⟨j, a, -, b⟩ := mem_sel.1 hx
    exact ⟨j, a, b⟩
  · refine FoI.new hm fun v hv => ?_
    obtain ⟨-, -, a, b⟩ := n1 v hv
    exact ⟨fun q => ⟨(a q).2.2, (a q).1, (a q).2.1⟩, fun q => ⟨(b q).2.2, (b q).1, (b q).2.1⟩, rfl⟩
  · exact ⟨fun z hz => ⟨hz, rfl, .inl ⟨(n1 z hz).1, rfl⟩⟩, fun z hz => (n1 z hz).2.1, fun y z _ _ => Iff.rfl⟩
/-- A vertex more, and its mate. -/
theorem SQ.grow {P : List Nat} {v w x i : Nat} {X : Int} {v1 : Value} {up : Nat → Int} (hm : MtOk N (JV es) mt) (hi : FoI N (JV es) mt (s.fo B)) (h : SQ N es s B P (some v) i) (hw : gi (nearV es v) i = w) (hwN : w < N) (lw : s.lab w = 0) (hx : mt w = (x : Int)) :
    SQ N es ((({ s with up := up, lk := s.lk + 1 } : Fm).grow1 v w x).raise x X 1 v1) B P (some v) (i + 1) ∧ ((({ s with up := up, lk := s.lk + 1 } : Fm).grow1 v w x).raise x X 1 v1).fo B = (s.fo B).grow v w x := by
  obtain ⟨o1, o2, x', o3, o4, o5⟩ := hi.out w hwN lw
  obtain rfl : x = x' := by omega
  obtain ⟨-, m2, m3, m4⟩ := hm.back hwN hx
  obtain ⟨p1, -⟩ := hi.out x o3 o5
  have p1' : s.ou x = false := p1
  have o1' : s.ou w = false := o1
  have lx : s.lab x = 0 := o5
  have hlab : ((({ s with up := up, lk := s.lk + 1 } : Fm).grow1 v w x).raise x X 1 v1).lab = upd (upd s.lab w 2) x 1 := by
    unfold Fm.raise Fm.grow1
    simp only []
    rw [if_pos (by rw [upd_ne _ _ m4]; exact lx)]
  have hne : ∀ z, s.lab z ≠ 0 → ((({ s with up := up, lk := s.lk + 1 } : Fm).grow1 v w x).raise x X 1 v1).lab z ≠ 0 := fun z hz => by
    rw [hlab]
    by_cases a : z = x
    · subst a; rw [upd_eq]; omega
    · rw [upd_ne _ _ a]
      by_cases b : z = w
      · subst b; rw [upd_eq]; omega
      · rw [upd_ne _ _ b]; exact hz
  have hou : ((({ s with up := up, lk := s.lk + 1 } : Fm).grow1 v w x).raise x X 1 v1).ou = upd s.ou x true := rfl
  have hwl : ((({ s with up := up, lk := s.lk + 1 } : Fm).grow1 v w x).raise x X 1 v1).wl = s.wl ++ [(x : Int)] := rfl
  have xw : (x : Int) ∉ s.wl := fun q => by
    have := (h.out x o3).2 (.inr (.inl q))
    rw [p1'] at this; cases this
  have xP : x ∉ P := fun q => by
    have := (h.out x o3).2 (.inl q)
    rw [p1'] at this; cases this
  have xv : x ≠ v := fun q => by
    have := (h.out x o3).2 (.inr (.inr (by rw [q])))
    rw [p1'] at this; cases this
  have hfo : ((({ s with up := up, lk := s.lk + 1 } : Fm).grow1 v w x).raise x X 1 v1).fo B = (s.fo B).grow v w x := by
    unfold Fm.fo
    rw [hlab]
    rfl
  refine ⟨⟨fun z hz => ?_, ?_, h.pn, fun z hz => ⟨(h.pw z hz).1, fun q => ?_⟩, fun u hu => ?_, fun y hy => ?_, fun u hu y j => ?_, fun u hu j hj y e => ?_, ?_, h.gn⟩, hfo⟩
  · rw [hou, hwl]
    by_cases q : z = x
    · subst q
      rw [upd_eq]
      exact ⟨fun _ => .inr (.inl (by simp)), fun _ => rfl⟩
    · rw [upd_ne _ _ q, h.out z hz]
      constructor
      · rintro (a | a | a)
        · exact .inl a
        · exact .inr (.inl (List.mem_append_left _ a))
        · exact .inr (.inr a)
      · rintro (a | a | a)
        · exact .inl a
        · rcases List.mem_append.1 a with a | a
          · exact .inr (.inl a)
          · have : (z : Int) = x := by simpa using a
            omega
        · exact .inr (.inr a)
  · rw [hwl, List.nodup_append]
    refine ⟨h.wn, by simp, fun a ha b hb e => ?_⟩
    have : b = (x : Int) := by simpa using hb
    subst this
    subst e
    exact xw ha
  · rw [hwl] at q
    rcases List.mem_append.1 q with q | q
    · exact (h.pw z hz).2 q
    · have : (z : Int) = x := by simpa using q
      exact xP (by rw [show x = z by omega]; exact hz)
  · obtain ⟨a, b, c⟩ := h.cw u hu
    refine ⟨a, b, fun q => ?_⟩
    rw [hwl] at q
    rcases List.mem_append.1 q with q | q
    · exact c q
    · have : (u : Int) = x := by simpa using q
      cases hu
      omega
  · rw [hwl] at hy
    rcases List.mem_append.1 hy with hy | hy
    · exact h.wlt y hy
    · exact ⟨x, o3, by simpa using hy⟩
  · obtain ⟨a, b⟩ := h.fit u hu y j
    refine ⟨hne y a, fun o => ?_⟩
    rw [hou] at o
    rw [hwl]
    by_cases q : y = x
    · exact .inl (by rw [q]; simp)
    · rw [upd_ne _ _ q] at o
      rcases b o with b | b | b
      · exact .inl (List.mem_append_left _ b)
      · exact .inr (.inl b)
      · exact .inr (.inr b)
  · rw [hou, hwl]
    by_cases q : j = i
    · subst q
      cases hu
      have : w = y := by omega
      subst this
      refine ⟨by rw [hlab, upd_ne _ _ m4.symm, upd_eq]; omega, fun o => ?_⟩
      rw [upd_ne _ _ m4.symm, o1'] at o
      cases o
    · obtain ⟨a, b⟩ := h.now u hu j (by omega) y e
      refine ⟨hne y a, fun o => ?_⟩
      by_cases q : y = x
      · exact .inl (by rw [q]; simp)
      · rw [upd_ne _ _ q] at o
        exact (b o).elim (fun b => .inl (List.mem_append_left _ b)) .inr
  · show s.lk + 1 = _
    rw [h.lk]
    simp
    omega

theorem nodup_snd {mt : Nat → Int} {l : List (Nat × Nat)} (h : ∀ x m, (x, m) ∈ l → mt m = (x : Int)) (hn : (l.map (·.1)).Nodup) : (l.map fun x => ((x.2 : Nat) : Int)).Nodup := by
  unfold List.Nodup at *
  rw [List.pairwise_map] at *
  refine hn.imp_of_mem fun {a b} ha hb hne e => hne ?_
  obtain ⟨x, m⟩ := a
  obtain ⟨y, k⟩ := b
  have e1 := h x m ha
  have e2 := h y k hb
  have e' : (m : Int) = k := e
  obtain rfl : m = k := by omega
  show x = y
  omega
/-- A blossom is closed. -/
theorem SQ.close {P : List Nat} {v w b i : Nat} {l1 l2 : List (Nat × Nat)} (hm : MtOk N (JV es) mt) (hi : FoI N (JV es) mt (s.fo B)) (h : SQ N es s B P (some v) i) (hw : gi (nearV es v) i = w) (hwN : w < N) (ov : s.ou v = true) (ow : s.ou w = true)
    (c1 : Chn mt (s.fo B) b (B v) l1) (c2 : Chn mt (s.fo B) b (B w) l2) (hd : ∀ x ∈ l1.map (·.1), x ∉ l2.map (·.1)) (hfo : s'.fo B' = (s.fo B).shut v w b l1 l2) (hwl : s'.wl = s.wl ++ (l1 ++ l2).map (fun x => ((x.2 : Nat) : Int))) (hgn : s'.gn = s.gn) (hlk : s'.lk = s.lk + 1) : SQ N es s' B' P (some v) (i + 1) := by
  have hv := (h.cw v rfl).1
  have L1 := hi.shl hm hv ov c1
  have L2 := hi.shl hm hwN ow c2
  have LL : ∀ x m, (x, m) ∈ l1 ++ l2 → m < N ∧ mt m = (x : Int) ∧ s.ou m = false := fun x m hx => by
    rcases List.mem_append.1 hx with hx | hx
    · have := L1.fact x m hx
      exact ⟨this.2.2.2.2.1, this.2.2.2.2.2.2.1, this.2.2.2.2.2.2.2.1⟩
    · have := L2.fact x m hx
      exact ⟨this.2.2.2.2.1, this.2.2.2.2.2.2.1, this.2.2.2.2.2.2.2.1⟩
  have hlab : s'.lab = s.lab := congrArg Fo.lab hfo
  have hou : ∀ z, s'.ou z = (s.ou z || decide (z ∈ (l1 ++ l2).map (·.2))) := fun z => congrFun (congrArg Fo.ou hfo) z
  have hB : ∀ z, B' z = if B z ∈ (l1 ++ l2).map (·.1) ∨ z ∈ (l1 ++ l2).map (·.2) then b else B z := fun z => congrFun (congrArg Fo.B hfo) z
  have inM : ∀ z : Nat, z ∈ (l1 ++ l2).map (·.2) ↔ (z : Int) ∈ (l1 ++ l2).map (fun x => ((x.2 : Nat) : Int)) := fun z => by
    simp only [List.mem_map]
    constructor
    · rintro ⟨a, ha, e⟩
      exact ⟨a, ha, by rw [e]⟩
    · rintro ⟨a, ha, e⟩
      exact ⟨a, ha, by omega⟩
  have outM : ∀ z, z ∈ (l1 ++ l2).map (·.2) → s.ou z = false ∧ z < N := fun z hz => by
    obtain ⟨⟨x, m⟩, hx, rfl⟩ := List.mem_map.1 hz
    exact ⟨(LL x m hx).2.2, (LL x m hx).1⟩
  have same : ∀ a c, a < N → c < N → s.ou a = true → s.ou c = true → B a = B c → B' a = B' c := fun a c ha hc oa oc e => by
    have na : a ∉ (l1 ++ l2).map (·.2) := fun q => by have := (outM a q).1; rw [oa] at this; cases this
    have nc : c ∉ (l1 ++ l2).map (·.2) := fun q => by have := (outM c q).1; rw [oc] at this; cases this
    rw [hB, hB, e]
    by_cases q : B c ∈ (l1 ++ l2).map (·.1)
    · rw [if_pos (.inl q), if_pos (.inl q)]
    · rw [if_neg (fun o => o.elim q na), if_neg (fun o => o.elim q nc)]
  have hb : ∀ {x : Nat} {l : List (Nat × Nat)}, Chn mt (s.fo B) b x l → (∀ a, a ∈ l → a ∈ l1 ++ l2) → x = b ∨ x ∈ (l1 ++ l2).map (·.1) := fun {x l} hc hs => by
    cases hc with
    | nil => exact .inl rfl
    | @cons _ m' p l _ _ _ _ => exact .inr (List.mem_map.2 ⟨(x, m'), hs _ (by simp), rfl⟩)
  have bb : B' v = b := by
    rw [hB]
    rcases hb c1 (fun a ha => List.mem_append_left _ ha) with q | q
    · rw [q]; split <;> rfl
    · rw [if_pos (.inl q)]
  have bw : B' w = b := by
    rw [hB]
    rcases hb c2 (fun a ha => List.mem_append_right _ ha) with q | q
    · rw [q]; split <;> rfl
    · rw [if_pos (.inl q)]
  have oP : ∀ z, z ∈ P → s.ou z = true := fun z hz => (h.out z (h.pw z hz).1).2 (.inl hz)
  have nw : ∀ z : Nat, z ∈ (l1 ++ l2).map (·.2) → (z : Int) ∉ s.wl := fun z hz q => by
    have := (h.out z (outM z hz).2).2 (.inr (.inl q))
    rw [(outM z hz).1] at this; cases this
  refine ⟨fun z hz => ?_, ?_, h.pn, fun z hz => ⟨(h.pw z hz).1, fun q => ?_⟩, fun u hu => ?_, fun y hy => ?_, fun u hu y j => ?_, fun u hu j hj y e => ?_, ?_, fun z => by rw [hgn]; exact h.gn z⟩
  · rw [hou, Bool.or_eq_true, decide_eq_true_eq, h.out z hz, hwl, List.mem_append, inM]
    constructor
    · rintro ((a | a | a) | a)
      · exact .inl a
      · exact .inr (.inl (.inl a))
      · exact .inr (.inr a)
      · exact .inr (.inl (.inr a))
    · rintro (a | (a | a) | a)
      · exact .inl (.inl a)
      · exact .inl (.inr (.inl a))
      · exact .inr a
      · exact .inl (.inr (.inr a))
  · rw [hwl, List.nodup_append]
    refine ⟨h.wn, nodup_snd (fun x m hx => (LL x m hx).2.1) ?_, fun a ha c hc e => ?_⟩
    · rw [List.map_append, List.nodup_append]
      exact ⟨L1.nod, L2.nod, fun a ha c hc e => hd a ha (by rw [e]; exact hc)⟩
    · subst e
      obtain ⟨z, hz, rfl⟩ := h.wlt a ha
      exact nw z ((inM z).2 hc) ha
  · rw [hwl, List.mem_append, ← inM] at q
    rcases q with q | q
    · exact (h.pw z hz).2 q
    · have := (outM z q).1
      rw [oP z hz] at this; cases this
  · obtain ⟨a, c, d⟩ := h.cw u hu
    refine ⟨a, c, fun q => ?_⟩
    rw [hwl, List.mem_append, ← inM] at q
    rcases q with q | q
    · exact d q
    · have := (outM u q).1
      cases hu
      rw [ov] at this; cases this
  · rw [hwl, List.mem_append] at hy
    rcases hy with hy | hy
    · exact h.wlt y hy
    · obtain ⟨⟨x, m⟩, hx, rfl⟩ := List.mem_map.1 hy
      exact ⟨m, (LL x m hx).1, rfl⟩
  · obtain ⟨a, c⟩ := h.fit u hu y j
    refine ⟨by rw [hlab]; exact a, fun o => ?_⟩
    rw [hou, Bool.or_eq_true, decide_eq_true_eq] at o
    rw [hwl]
    rcases o with o | o
    · rcases c o with c | c | c
      · exact .inl (List.mem_append_left _ c)
      · exact .inr (.inl c)
      · exact .inr (.inr (same u y (h.pw u hu).1 (hm.lt _ _ j).2.1 (oP u hu) o c))
    · exact .inl (List.mem_append_right _ ((inM y).1 o))
  · by_cases q : j = i
    · subst q
      cases hu
      have : w = y := by omega
      subst this
      refine ⟨?_, fun _ => .inr (by rw [bb, bw])⟩
      rw [hlab]
      intro e0
      have := (hi.out w hwN e0).1
      have h2 : s.ou w = false := this
      rw [ow] at h2; cases h2
    · cases hu
      obtain ⟨a, c⟩ := h.now v rfl j (by omega) y e
      refine ⟨by rw [hlab]; exact a, fun o => ?_⟩
      rw [hou, Bool.or_eq_true, decide_eq_true_eq] at o
      rw [hwl]
      rcases o with o | o
      · rcases c o with c | c
        · exact .inl (List.mem_append_left _ c)
        · by_cases hy : y < N
          · exact .inr (same v y hv hy ov o c)
          · right
            have ny : y ∉ (l1 ++ l2).map (·.2) := fun q => by have := (outM y q).1; rw [o] at this; cases this
            have nv : v ∉ (l1 ++ l2).map (·.2) := fun q => by have := (outM v q).1; rw [ov] at this; cases this
            rw [hB, hB, c]
            by_cases q : B y ∈ (l1 ++ l2).map (·.1)
            · rw [if_pos (.inl q), if_pos (.inl q)]
            · rw [if_neg (fun o => o.elim q nv), if_neg (fun o => o.elim q ny)]
      · exact .inl (List.mem_append_right _ ((inM y).1 o))
  · rw [hlk, h.lk]
    simp
    omega
end
end

end Go.Proofs.YtbnipgajhpbolaaGreatDoor
