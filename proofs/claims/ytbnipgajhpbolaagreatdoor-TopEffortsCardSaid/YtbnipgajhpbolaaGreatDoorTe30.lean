/- A phase, plainly: an edge is taken up that grows a tree, or closes a blossom; A phase in memory; put -/
import Derived.Test.YtbnipgajhpbolaaGreatDoorTe29
set_option linter.unusedVariables false
set_option linter.unusedSimpArgs false
namespace Go.Proofs.YtbnipgajhpbolaaGreatDoor

section
open Go.RowKit
section
variable {N : Nat} {es ps xs xs' : List Ed} {s s' : Fm} {B B' : Nat → Nat} {mt : Nat → Int}
/-- A vertex more, and its mate. -/
theorem PQ.grow {P : List Nat} {e : Ed} {v w x k : Nat} {X : Int} {v1 : Value} {up : Nat → Int} (hm : MtOk N (JV es) mt) (hi : FoI N (JV es) mt (s.fo B)) (h : PQ N es s B P none 0 ps (e :: xs)) (hk : e.2 = (k : Int)) (he : ge ps k = ((v : Int), (w : Int))) (ov : s.ou v = true) (hwN : w < N) (lw : s.lab w = 0) (hx : mt w = (x : Int)) :
    PQ N es ((({ s with up := up, lk := s.lk + 1 } : Fm).grow1 v w x).raise x X 1 v1) B P none 0 ps xs ∧ ((({ s with up := up, lk := s.lk + 1 } : Fm).grow1 v w x).raise x X 1 v1).fo B = (s.fo B).grow v w x := by
  obtain ⟨o1, o2, x', o3, o4, o5⟩ := hi.out w hwN lw
  obtain rfl : x = x' := by omega
  obtain ⟨-, m2, m3, m4⟩ := hm.back hwN hx
  obtain ⟨p1, -⟩ := hi.out x o3 o5
  have p1' : s.ou x = false := p1
  have o1' : s.ou w = false := o1
  have lx : s.lab x = 0 := o5
  have hlab : ((({ s with up := up, lk := s.lk + 1 } : Fm).grow1 v w x).raise x X 1 v1).lab = upd (upd s.lab w 2) x 1 := by
    unfold Fm.raise Fm.grow1
    simp only []
    rw [if_pos (by rw [upd_ne _ _ m4]; exact lx)]
  have hne : ∀ z, s.lab z ≠ 0 → ((({ s with up := up, lk := s.lk + 1 } : Fm).grow1 v w x).raise x X 1 v1).lab z ≠ 0 := fun z hz => by
    rw [hlab]
    by_cases a : z = x
    · subst a; rw [upd_eq]; omega
    · rw [upd_ne _ _ a]
      by_cases b : z = w
      · subst b; rw [upd_eq]; omega
      · rw [upd_ne _ _ b]; exact hz
  have hou : ((({ s with up := up, lk := s.lk + 1 } : Fm).grow1 v w x).raise x X 1 v1).ou = upd s.ou x true := rfl
  have hwl : ((({ s with up := up, lk := s.lk + 1 } : Fm).grow1 v w x).raise x X 1 v1).wl = s.wl ++ [(x : Int)] := rfl
  have hgn : ((({ s with up := up, lk := s.lk + 1 } : Fm).grow1 v w x).raise x X 1 v1).gn = s.gn := rfl
  have xw : (x : Int) ∉ s.wl := fun q => by
    have := (h.out x o3).2 (.inr (.inl q))
    rw [p1'] at this; cases this
  have xP : x ∉ P := fun q => by
    have := (h.out x o3).2 (.inl q)
    rw [p1'] at this; cases this
  have hfo : ((({ s with up := up, lk := s.lk + 1 } : Fm).grow1 v w x).raise x X 1 v1).fo B = (s.fo B).grow v w x := by
    unfold Fm.fo
    rw [hlab]
    rfl
  have hfew := h.few
  simp only [List.length_cons] at hfew
  refine ⟨⟨fun z hz => ?_, ?_, h.pn, fun z hz => ⟨(h.pw z hz).1, fun q => ?_⟩, fun u hu => (by cases hu), fun y hy => ?_, fun e' he' => h.val e' (List.mem_cons_of_mem _ he'), fun p hp => ?_, fun hg u hu y j => ?_, fun hg u hu => (by cases hu), by omega, h.many, ?_⟩, hfo⟩
  · rw [hou, hwl]
    by_cases q : z = x
    · subst q
      rw [upd_eq]
      exact ⟨fun _ => .inr (.inl (by simp)), fun _ => rfl⟩
    · rw [upd_ne _ _ q, h.out z hz]
      constructor
      · rintro (a | a | a)
        · exact .inl a
        · exact .inr (.inl (List.mem_append_left _ a))
        · exact .inr (.inr a)
      · rintro (a | a | a)
        · exact .inl a
        · rcases List.mem_append.1 a with a | a
          · exact .inr (.inl a)
          · have : (z : Int) = x := by simpa using a
            omega
        · exact .inr (.inr a)
  · rw [hwl, List.nodup_append]
    refine ⟨h.wn, by simp, fun a ha b hb e => ?_⟩
    have : b = (x : Int) := by simpa using hb
    subst this
    subst e
    exact xw ha
  · rw [hwl] at q
    rcases List.mem_append.1 q with q | q
    · exact (h.pw z hz).2 q
    · have : (z : Int) = x := by simpa using q
      exact xP (by rw [show x = z by omega]; exact hz)
  · rw [hwl] at hy
    rcases List.mem_append.1 hy with hy | hy
    · exact h.wlt y hy
    · exact ⟨x, o3, by simpa using hy⟩
  · obtain ⟨a, b, c1, c2, c3, c4, c5⟩ := h.pnd p hp
    refine ⟨a, b, c1, c2, c3, ?_, c5⟩
    rw [hou]
    unfold upd
    split
    · rfl
    · exact c4
  · rw [hgn] at hg
    rcases h.fit hg u hu y j with ⟨a, b⟩ | q
    · refine .inl ⟨hne y a, fun o => ?_⟩
      rw [hou] at o
      rw [hwl]
      by_cases q : y = x
      · exact .inl (by rw [q]; simp)
      · rw [upd_ne _ _ q] at o
        rcases b o with b | b | b
        · exact .inl (List.mem_append_left _ b)
        · exact .inr (.inl b)
        · exact .inr (.inr b)
    · rcases q.split hk he with ⟨rfl, rfl⟩ | ⟨rfl, rfl⟩ | q
      · refine .inl ⟨by rw [hlab, upd_ne _ _ m4.symm, upd_eq]; omega, fun o => ?_⟩
        rw [hou, upd_ne _ _ m4.symm, o1'] at o
        cases o
      · have := (h.out u (h.pw u hu).1).2 (.inl hu)
        rw [o1'] at this; cases this
      · exact .inr q
  · show s.lk + 1 = _
    rw [h.lk]
    simp
    omega

/-- A blossom is closed. -/
theorem PQ.close {P : List Nat} {e : Ed} {v w b k : Nat} {l1 l2 : List (Nat × Nat)} (hm : MtOk N (JV es) mt) (hi : FoI N (JV es) mt (s.fo B)) (h : PQ N es s B P none 0 ps (e :: xs)) (hk : e.2 = (k : Int)) (he : ge ps k = ((v : Int), (w : Int))) (hv : v < N) (hwN : w < N) (ov : s.ou v = true) (ow : s.ou w = true)
    (c1 : Chn mt (s.fo B) b (B v) l1) (c2 : Chn mt (s.fo B) b (B w) l2) (hd : ∀ x ∈ l1.map (·.1), x ∉ l2.map (·.1)) (hfo : s'.fo B' = (s.fo B).shut v w b l1 l2) (hwl : s'.wl = s.wl ++ (l1 ++ l2).map (fun x => ((x.2 : Nat) : Int))) (hgn : s'.gn = s.gn) (hlk : s'.lk = s.lk + 1) : PQ N es s' B' P none 0 ps xs := by
  have L1 := hi.shl hm hv ov c1
  have L2 := hi.shl hm hwN ow c2
  have LL : ∀ x m, (x, m) ∈ l1 ++ l2 → m < N ∧ mt m = (x : Int) ∧ s.ou m = false := fun x m hx => by
    rcases List.mem_append.1 hx with hx | hx
    · have := L1.fact x m hx
      exact ⟨this.2.2.2.2.1, this.2.2.2.2.2.2.1, this.2.2.2.2.2.2.2.1⟩
    · have := L2.fact x m hx
      exact ⟨this.2.2.2.2.1, this.2.2.2.2.2.2.1, this.2.2.2.2.2.2.2.1⟩
  have hlab : s'.lab = s.lab := congrArg Fo.lab hfo
  have hou : ∀ z, s'.ou z = (s.ou z || decide (z ∈ (l1 ++ l2).map (·.2))) := fun z => congrFun (congrArg Fo.ou hfo) z
  have hB : ∀ z, B' z = if B z ∈ (l1 ++ l2).map (·.1) ∨ z ∈ (l1 ++ l2).map (·.2) then b else B z := fun z => congrFun (congrArg Fo.B hfo) z
  have inM : ∀ z : Nat, z ∈ (l1 ++ l2).map (·.2) ↔ (z : Int) ∈ (l1 ++ l2).map (fun x => ((x.2 : Nat) : Int)) := fun z => by
    simp only [List.mem_map]
    constructor
    · rintro ⟨a, ha, e⟩
      exact ⟨a, ha, by rw [e]⟩
    · rintro ⟨a, ha, e⟩
      exact ⟨a, ha, by omega⟩
  have outM : ∀ z, z ∈ (l1 ++ l2).map (·.2) → s.ou z = false ∧ z < N := fun z hz => by
    obtain ⟨⟨x, m⟩, hx, rfl⟩ := List.mem_map.1 hz
    exact ⟨(LL x m hx).2.2, (LL x m hx).1⟩
  have same : ∀ a c, a < N → c < N → s.ou a = true → s.ou c = true → B a = B c → B' a = B' c := fun a c ha hc oa oc e => by
    have na : a ∉ (l1 ++ l2).map (·.2) := fun q => by have := (outM a q).1; rw [oa] at this; cases this
    have nc : c ∉ (l1 ++ l2).map (·.2) := fun q => by have := (outM c q).1; rw [oc] at this; cases this
    rw [hB, hB, e]
    by_cases q : B c ∈ (l1 ++ l2).map (·.1)
    · rw [if_pos (.inl q), if_pos (.inl q)]
    · rw [if_neg (fun o => o.elim q na), if_neg (fun o => o.elim q nc)]
  have hb : ∀ {x : Nat} {l : List (Nat × Nat)}, Chn mt (s.fo B) b x l → (∀ a, a ∈ l → a ∈ l1 ++ l2) → x = b ∨ x ∈ (l1 ++ l2).map (·.1) := fun {x l} hc hs => by
    cases hc with
    | nil => exact .inl rfl
    | @cons _ m' p l _ _ _ _ => exact .inr (List.mem_map.2 ⟨(x, m'), hs _ (by simp), rfl⟩)
  have bb : B' v = b := by
    rw [hB]
    rcases hb c1 (fun a ha => List.mem_append_left _ ha) with q | q
    · rw [q]; split <;> rfl
    · rw [if_pos (.inl q)]
  have bw : B' w = b := by
    rw [hB]
    rcases hb c2 (fun a ha => List.mem_append_right _ ha) with q | q
    · rw [q]; split <;> rfl
    · rw [if_pos (.inl q)]
  have hlo : ∀ z, z < N → s.ou z = true → s'.lab z ≠ 0 := fun z hz o e0 => by
    rw [hlab] at e0
    have := (hi.out z hz e0).1
    have h2 : s.ou z = false := this
    rw [o] at h2; cases h2
  have oP : ∀ z, z ∈ P → s.ou z = true := fun z hz => (h.out z (h.pw z hz).1).2 (.inl hz)
  have nw : ∀ z : Nat, z ∈ (l1 ++ l2).map (·.2) → (z : Int) ∉ s.wl := fun z hz q => by
    have := (h.out z (outM z hz).2).2 (.inr (.inl q))
    rw [(outM z hz).1] at this; cases this
  have hfew := h.few
  simp only [List.length_cons] at hfew
  refine ⟨fun z hz => ?_, ?_, h.pn, fun z hz => ⟨(h.pw z hz).1, fun q => ?_⟩, fun u hu => (by cases hu), fun y hy => ?_, fun e' he' => h.val e' (List.mem_cons_of_mem _ he'), fun p hp => ?_, fun hg u hu y j => ?_, fun hg u hu => (by cases hu), by omega, h.many, ?_⟩
  · rw [hou, Bool.or_eq_true, decide_eq_true_eq, h.out z hz, hwl, List.mem_append, inM]
    constructor
    · rintro ((a | a | a) | a)
      · exact .inl a
      · exact .inr (.inl (.inl a))
      · exact .inr (.inr a)
      · exact .inr (.inl (.inr a))
    · rintro (a | (a | a) | a)
      · exact .inl (.inl a)
      · exact .inl (.inr (.inl a))
      · exact .inr a
      · exact .inl (.inr (.inr a))
  · rw [hwl, List.nodup_append]
    refine ⟨h.wn, nodup_snd (fun x m hx => (LL x m hx).2.1) ?_, fun a ha c hc e => ?_⟩
    · rw [List.map_append, List.nodup_append]
      exact ⟨L1.nod, L2.nod, fun a ha c hc e => hd a ha (by rw [e]; exact hc)⟩
    · subst e
      obtain ⟨z, hz, rfl⟩ := h.wlt a ha
      exact nw z ((inM z).2 hc) ha
  · rw [hwl, List.mem_append, ← inM] at q
    rcases q with q | q
    · exact (h.pw z hz).2 q
    · have := (outM z q).1
      rw [oP z hz] at this; cases this
  · rw [hwl, List.mem_append] at hy
    rcases hy with hy | hy
    · exact h.wlt y hy
    · obtain ⟨⟨x, m⟩, hx, rfl⟩ := List.mem_map.1 hy
      exact ⟨m, (LL x m hx).1, rfl⟩
  · obtain ⟨a, c, d1, d2, d3, d4, d5⟩ := h.pnd p hp
    exact ⟨a, c, d1, d2, d3, by rw [hou, d4]; rfl, d5⟩
  · rw [hgn] at hg
    rcases h.fit hg u hu y j with ⟨a, c⟩ | q
    · refine .inl ⟨by rw [hlab]; exact a, fun o => ?_⟩
      rw [hou, Bool.or_eq_true, decide_eq_true_eq] at o
      rw [hwl]
      rcases o with o | o
      · rcases c o with c | c | c
        · exact .inl (List.mem_append_left _ c)
        · exact .inr (.inl c)
        · exact .inr (.inr (same u y (h.pw u hu).1 (hm.lt _ _ j).2.1 (oP u hu) o c))
      · exact .inl (List.mem_append_right _ ((inM y).1 o))
    · rcases q.split hk he with ⟨rfl, rfl⟩ | ⟨rfl, rfl⟩ | q
      · exact .inl ⟨hlo _ hwN ow, fun _ => .inr (.inr (by rw [bb, bw]))⟩
      · exact .inl ⟨hlo _ hv ov, fun _ => .inr (.inr (by rw [bb, bw]))⟩
      · exact .inr q
  · rw [hlk, h.lk]
    simp
    omega

/-- What Look can find. -/
theorem look_ways {v w : Nat} : lookB mt s B v w = 0 ∨ (lookB mt s B v w = 1 ∧ s.lab w = 0) ∨ (lookB mt s B v w = 2 ∧ s.ou w = true ∧ B v ≠ B w ∧ s.goneB v = false ∧ s.goneB w = false) := by
  unfold lookB
  by_cases q : mt v = (w : Int)
  · rw [if_pos q]; exact .inl rfl
  · rw [if_neg q]
    by_cases g1 : s.goneB v = true
    · rw [if_pos g1]; exact .inl rfl
    · rw [if_neg g1]
      by_cases g2 : s.goneB w = true
      · rw [if_pos g2]; exact .inl rfl
      · rw [if_neg g2]
        by_cases e : s.lab w = 0
        · rw [if_pos e]; exact .inr (.inl ⟨rfl, e⟩)
        · rw [if_neg e]
          by_cases o : s.ou w = true ∧ B v ≠ B w
          · rw [if_pos o]; exact .inr (.inr ⟨rfl, o.1, o.2, by simpa using g1, by simpa using g2⟩)
          · rw [if_neg o]; exact .inl rfl
/-- How often is looked. -/
theorem PQ.lkLe {P : List Nat} {cur : Option Nat} {i : Nat} (h : PQ N es s B P cur i ps xs) (hi : ∀ v, cur = some v → i ≤ (nearV es v).length) : 0 ≤ s.lk ∧ s.lk ≤ 4 * es.length ∧ ps.length ≤ 2 * es.length ∧ s.wl.length ≤ N := by
  have h1 := h.many
  have h2 := h.lk
  have h3 : degs es P + (if cur = none then 0 else i) ≤ 2 * es.length := by
    cases cur with
    | none =>
      have := degs_le (es := es) h.pn
      simp
      exact this
    | some v =>
      obtain ⟨c1, c2, c3⟩ := h.cw v rfl
      have hn : (P ++ [v]).Nodup := by
        rw [List.nodup_append]
        refine ⟨h.pn, by simp, fun a ha b hb e => ?_⟩
        have : b = v := by simpa using hb
        subst this
        subst e
        exact c2 ha
      have := degs_le (es := es) hn
      rw [degs_app] at this
      have := hi v rfl
      simp [degs] at *
      omega
  generalize (degs es P + (if cur = none then 0 else i)) = d at *
  refine ⟨by rw [h2]; omega, by rw [h2]; omega, by omega, ints_le h.wn h.wlt⟩

/-- Paths that are apart: their trees are gone. -/
structure Outs (N : Nat) (es : List Ed) (ms : List Int) (s : Fm) (L : List (List Int)) : Prop where
  aug : ∀ l ∈ L, ∃ r u, Aug N (JV es) ms l r u
  gon : ∀ l ∈ L, ∀ x ∈ l, ∃ y ρ : Nat, y < N ∧ x = y ∧ s.rt y = (ρ : Int) ∧ s.gn ρ = true
  apart : L.Pairwise fun a b => ∀ x ∈ a, x ∉ b
theorem Outs.nil {ms : List Int} : Outs N es ms s [] := ⟨fun l h => (by cases h), fun l h => (by cases h), .nil⟩
theorem Outs.keep {ms : List Int} {L : List (List Int)} (h : Outs N es ms s L) (k : ∀ z ρ : Nat, z < N → s.rt z = (ρ : Int) → s.gn ρ = true → s'.rt z = (ρ : Int) ∧ s'.gn ρ = true) : Outs N es ms s' L :=
  ⟨h.aug, fun l hl x hx => by
    obtain ⟨y, ρ, a, b, c, d⟩ := h.gon l hl x hx
    obtain ⟨e, f⟩ := k y ρ a c d
    exact ⟨y, ρ, a, b, e, f⟩, h.apart⟩
theorem Outs.add {ms : List Int} {L : List (List Int)} {l : List Int} {r u : Nat} (h : Outs N es ms s L) (ha : Aug N (JV es) ms l r u) (hl : ∀ x ∈ l, ∃ y : Nat, y < N ∧ x = y ∧ (s.rt y = (r : Int) ∨ s.rt y = (u : Int))) (g1 : s.gn r = false) (g2 : s.gn u = false) (hrt : s'.rt = s.rt) (hgn : s'.gn = upd (upd s.gn r true) u true) : Outs N es ms s' (L ++ [l]) := by
  have up : ∀ ρ, s.gn ρ = true → s'.gn ρ = true := fun ρ e => by
    rw [hgn]
    unfold upd
    split
    · rfl
    · split
      · rfl
      · exact e
  have gr : s'.gn r = true ∧ s'.gn u = true := by
    rw [hgn]
    unfold upd
    constructor
    · split
      · rfl
      · rw [if_pos rfl]
    · rw [if_pos rfl]
  refine ⟨fun l' hl' => ?_, fun l' hl' x hx => ?_, ?_⟩
  · rcases List.mem_append.1 hl' with q | q
    · exact h.aug l' q
    · have : l' = l := by simpa using q
      exact ⟨r, u, this ▸ ha⟩
  · rcases List.mem_append.1 hl' with q | q
    · obtain ⟨y, ρ, a, b, c, d⟩ := h.gon l' q x hx
      exact ⟨y, ρ, a, b, by rw [hrt]; exact c, up ρ d⟩
    · have : l' = l := by simpa using q
      subst this
      obtain ⟨y, a, b, c⟩ := hl x hx
      rcases c with c | c
      · exact ⟨y, r, a, b, by rw [hrt]; exact c, gr.1⟩
      · exact ⟨y, u, a, b, by rw [hrt]; exact c, gr.2⟩
  · rw [List.pairwise_append]
    refine ⟨h.apart, List.pairwise_singleton _ _, fun a ha' b hb x hx hx2 => ?_⟩
    have : b = l := by simpa using hb
    subst this
    obtain ⟨y, ρ, c1, c2, c3, c4⟩ := h.gon a ha' x hx
    obtain ⟨y', d1, d2, d3⟩ := hl x hx2
    have : y = y' := by omega
    subst this
    rcases d3 with d3 | d3
    · have : ρ = r := by omega
      rw [this, g1] at c4; cases c4
    · have : ρ = u := by omega
      rw [this, g2] at c4; cases c4
/-- Paths that are apart, turned one by one. -/
theorem augs_turn (hlt : ∀ x y, JV es x y → x < N ∧ y < N ∧ x ≠ y) (hsy : ∀ x y, JV es x y → JV es y x) : ∀ {L : List (List Int)} {ms : List Int}, MatchN N es ms → (∀ l ∈ L, ∃ r u, Aug N (JV es) ms l r u) → L.Pairwise (fun a b => ∀ x ∈ a, x ∉ b) → ∀ l L', L = l :: L' → MatchN N es (turnM ms l) ∧ (sel (freeB (turnM ms l)) N).length + 2 = (sel (freeB ms) N).length ∧ (∀ k ∈ L', ∃ r u, Aug N (JV es) (turnM ms l) k r u) ∧ L'.Pairwise (fun a b => ∀ x ∈ a, x ∉ b) := by
  intro L ms hm ha hp l L' e
  subst e
  obtain ⟨r, u, h⟩ := ha l (by simp)
  rw [List.pairwise_cons] at hp
  obtain ⟨m1, m2⟩ := h.turn hlt hsy (fun x y h => h) hm
  refine ⟨m1, m2, fun k hk => ?_, hp.2⟩
  obtain ⟨r', u', h'⟩ := ha k (List.mem_cons_of_mem _ hk)
  exact ⟨r', u', h'.apart hlt hsy hm.1 h fun x hx hx2 => hp.1 k hk x hx2 hx⟩
end
end

section
open Go.RowKit
theorem Col.same {W W' : World} {g n : Nat} {t : TypeId} {f : Nat → Value} (h : Col W g t n f) (e : W'.heap[g]? = W.heap[g]?) : Col W' g t n f := by
  obtain ⟨cur, h1, h2⟩ := h
  exact ⟨cur, e.trans h1, h2⟩
theorem Col2.same {W W' : World} {g n : Nat} {t : TypeId} {f1 f2 : Nat → Int} (h : Col2 W g t n f1 f2) (e : W'.heap[g]? = W.heap[g]?) : Col2 W' g t n f1 f2 := by
  obtain ⟨cur, h1, h2⟩ := h
  exact ⟨cur, e.trans h1, h2⟩
theorem QI.same {W W' : World} {base : Nat} {v : Value} {q : List Int} (h : QI W base v q) (e : ∀ k, v.ownBlock = some k → W'.heap[k]? = W.heap[k]?) : QI W' base v q := by
  rcases h with h | ⟨k, off, cap, cur, rfl, hb, hg, r⟩
  · exact .inl h
  · exact .inr ⟨k, off, cap, cur, rfl, hb, (e k rfl).trans hg, r⟩
section
variable {base N F : Nat} {g : Nat → Nat} {nv mv : Value} {s : Fm} {W W' : World}
theorem FW.same (h : FW base N F g nv mv s W) (e : ∀ k, FK F g s.wv k → W'.heap[k]? = W.heap[k]?) : FW base N F g nv mv s W' := by
  have eg : ∀ j, 2 ≤ j → j ≤ 12 → W'.heap[g j]? = W.heap[g j]? := fun j a b => e _ (.inr (.inl ⟨j, a, b, rfl⟩))
  exact ⟨h.low, (e F (.inl rfl)).trans h.hdr, h.far, h.inj, h.lab.same (eg 2 (by decide) (by decide)), h.ou.same (eg 3 (by decide) (by decide)), h.ev.same (eg 4 (by decide) (by decide)), h.od.same (eg 5 (by decide) (by decide)), h.pd.same (eg 6 (by decide) (by decide)), h.rt.same (eg 7 (by decide) (by decide)), h.gn.same (eg 9 (by decide) (by decide)), h.up.same (eg 10 (by decide) (by decide)), h.ba.same (eg 11 (by decide) (by decide)), h.ma.same (eg 12 (by decide) (by decide)), h.br.same (eg 8 (by decide) (by decide)), h.wq.same (fun k hk => e k (.inr (.inr hk))), h.wne⟩
theorem FW.in (h : FW base N F g nv mv s W) : ∀ k, FK F g s.wv k → base ≤ k ∧ k < W.heap.size := fun k hk => by
  rcases hk with rfl | ⟨j, j1, j2, rfl⟩ | hk
  · exact ⟨h.low, h.lt⟩
  · refine ⟨(h.far j j1 j2).1, ?_⟩
    rcases (show j = 2 ∨ j = 3 ∨ j = 4 ∨ j = 5 ∨ j = 6 ∨ j = 7 ∨ j = 8 ∨ j = 9 ∨ j = 10 ∨ j = 11 ∨ j = 12 by omega) with rfl | rfl | rfl | rfl | rfl | rfl | rfl | rfl | rfl | rfl | rfl
    · exact h.lab.lt
    · exact h.ou.lt
    · exact h.ev.lt
    · exact h.od.lt
    · exact h.pd.lt
    · exact h.rt.lt
    · exact h.br.lt
    · exact h.gn.lt
    · exact h.up.lt
    · exact h.ba.lt
    · exact h.ma.lt
  · exact h.wq.lt k hk
end
theorem Fr.mov {F : Nat} {g : Nat → Nat} {v v' : Value} {W W' : World} (h : Fr F g v W v' W') : Mov (FK F g v) W (FK F g v') W' :=
  ⟨h.os, h.tape, h.output, h.size, h.block, fun k hk => by
    rcases hk with q | q | q
    · exact .inl (.inl q)
    · exact .inl (.inr (.inl q))
    · exact (h.own k q).imp (fun q => .inr (.inr q)) id⟩
theorem Mov.below {K K' : Nat → Prop} {W W' : World} {base : Nat} (m : Mov K W K' W') (h : ∀ k, K k → base ≤ k) (hb : base ≤ W.heap.size) : Below base W W' :=
  ⟨m.os, m.tape, m.output, m.size, fun k hk => m.block k (by omega) fun q => by have := h k q; omega⟩
def DK (H : Nat) (v : Value) (k : Nat) : Prop := k = H ∨ v.ownBlock = some k
def PK (F : Nat) (g : Nat → Nat) (Q H : Nat) (wv qv ev : Value) (k : Nat) : Prop := FK F g wv k ∨ QK Q qv k ∨ DK H ev k

/-- A phase in memory. -/
structure PW (base N F Q H : Nat) (g : Nat → Nat) (nv mv : Value) (es : List Ed) (mt : Nat → Int) (s : Fm) (B : Nat → Nat) (qv ev : Value) (ps xs : List Ed) (W : World) : Prop where
  fg : FG base N F g nv mv (JV es) mt s B W
  qw : QW base Q qv xs W
  low : base ≤ H
  hdr : W.heap[H]? = some (.cells #[.pointer (some ⟨F, 0, none⟩), nv, .pointer (some ⟨Q, 0, none⟩), ev] 104 (0, 0))
  own : OwnP 135 W base ev ps
  dne : ev.ownBlock ≠ some H
  aq : ∀ k, FK F g s.wv k → ¬ QK Q qv k
  ad : ∀ k, FK F g s.wv k → ¬ DK H ev k
  qd : ∀ k, QK Q qv k → ¬ DK H ev k
section
variable {base N F Q H : Nat} {g : Nat → Nat} {nv mv : Value} {es : List Ed} {mt : Nat → Int} {s s' : Fm} {B B' : Nat → Nat} {qv ev qv' ev' : Value} {ps xs ps' xs' : List Ed} {W W' : World}
theorem QW.in (h : QW base Q qv xs W) : ∀ k, QK Q qv k → base ≤ k ∧ k < W.heap.size := fun k hk => by
  rcases hk with rfl | hk
  · exact ⟨h.low, blk_lt h.hdr⟩
  · exact World.ownsRow.lt h.own k hk
theorem PW.din (h : PW base N F Q H g nv mv es mt s B qv ev ps xs W) : ∀ k, DK H ev k → base ≤ k ∧ k < W.heap.size := fun k hk => by
  rcases hk with rfl | hk
  · exact ⟨h.low, blk_lt h.hdr⟩
  · exact World.ownsRow.lt h.own k hk
theorem PW.in (h : PW base N F Q H g nv mv es mt s B qv ev ps xs W) : ∀ k, PK F g Q H s.wv qv ev k → base ≤ k ∧ k < W.heap.size := fun k hk => by
  rcases hk with q | q | q
  · exact h.fg.fw.in k q
  · exact h.qw.in k q
  · exact h.din k q
theorem OwnP.same {t : TypeId} {v : Value} {l : List Ed} (h : OwnP t W base v l) (e : ∀ k, v.ownBlock = some k → W'.heap[k]? = W.heap[k]?) : OwnP t W' base v l := by
  refine ⟨h.1, ?_⟩
  rcases h.2 with k | ⟨g, cap, cur, rfl, hb, hg, r⟩
  · exact .inl k
  · exact .inr ⟨g, cap, cur, rfl, hb, (e g rfl).trans hg, r⟩
theorem QW.same (h : QW base Q qv xs W) (e : ∀ k, QK Q qv k → W'.heap[k]? = W.heap[k]?) : QW base Q qv xs W' := ⟨h.low, (e Q (.inl rfl)).trans h.hdr, h.own.same fun k hk => e k (.inr hk), h.ne⟩
theorem FG.same (h : FG base N F g nv mv (JV es) mt s B W) (e : ∀ k, FK F g s.wv k → W'.heap[k]? = W.heap[k]?) : FG base N F g nv mv (JV es) mt s B W' := ⟨h.fw.same e, h.ub, h.fo, h.ma, h.tu⟩
/-- The forest has turned. -/
theorem PW.fmove (h : PW base N F Q H g nv mv es mt s B qv ev ps xs W) (m : Mov (FK F g s.wv) W (FK F g s'.wv) W') (k : FG base N F g nv mv (JV es) mt s' B' W') : PW base N F Q H g nv mv es mt s' B' qv ev ps xs W' ∧ Mov (PK F g Q H s.wv qv ev) W (PK F g Q H s'.wv qv ev) W' := by
  have eq : ∀ k, QK Q qv k → W'.heap[k]? = W.heap[k]? := fun k hk => m.block k (h.qw.in k hk).2 fun q => h.aq k q hk
  have ed : ∀ k, DK H ev k → W'.heap[k]? = W.heap[k]? := fun k hk => m.block k (h.din k hk).2 fun q => h.ad k q hk
  refine ⟨⟨k, h.qw.same eq, h.low, (ed H (.inl rfl)).trans h.hdr, h.own.same fun k hk => ed k (.inr hk), h.dne, fun k hk q => ?_, fun k hk q => ?_, h.qd⟩, ⟨m.os, m.tape, m.output, m.size, fun k hk hn => m.block k hk fun q => hn (.inl q), fun k hk => ?_⟩⟩
  · rcases m.new k hk with a | a
    · exact h.aq k a q
    · have := (h.qw.in k q).2; omega
  · rcases m.new k hk with a | a
    · exact h.ad k a q
    · have := (h.din k q).2; omega
  · rcases hk with q | q | q
    · exact (m.new k q).imp .inl id
    · exact .inl (.inr (.inl q))
    · exact .inl (.inr (.inr q))
/-- The queue has turned. -/
theorem PW.qmove (h : PW base N F Q H g nv mv es mt s B qv ev ps xs W) (m : Mov (QK Q qv) W (QK Q qv') W') (k : QW base Q qv' xs' W') : PW base N F Q H g nv mv es mt s B qv' ev ps xs' W' ∧ Mov (PK F g Q H s.wv qv ev) W (PK F g Q H s.wv qv' ev) W' := by
  have ea : ∀ k, FK F g s.wv k → W'.heap[k]? = W.heap[k]? := fun k hk => m.block k (h.fg.fw.in k hk).2 fun q => h.aq k hk q
  have ed : ∀ k, DK H ev k → W'.heap[k]? = W.heap[k]? := fun k hk => m.block k (h.din k hk).2 fun q => h.qd k q hk
  refine ⟨⟨h.fg.same ea, k, h.low, (ed H (.inl rfl)).trans h.hdr, h.own.same fun k hk => ed k (.inr hk), h.dne, fun k hk q => ?_, h.ad, fun k hk q => ?_⟩, ⟨m.os, m.tape, m.output, m.size, fun k hk hn => m.block k hk fun q => hn (.inr (.inl q)), fun k hk => ?_⟩⟩
  · rcases m.new k q with a | a
    · exact h.aq k hk a
    · have := (h.fg.fw.in k hk).2; omega
  · rcases m.new k hk with a | a
    · exact h.qd k a q
    · have := (h.din k q).2; omega
  · rcases hk with q | q | q
    · exact .inl (.inl q)
    · exact (m.new k q).imp (fun q => .inr (.inl q)) id
    · exact .inl (.inr (.inr q))
/-- The edges have turned. -/
theorem PW.dmove (h : PW base N F Q H g nv mv es mt s B qv ev ps xs W) (m : Mov (DK H ev) W (DK H ev') W') (k1 : W'.heap[H]? = some (.cells #[.pointer (some ⟨F, 0, none⟩), nv, .pointer (some ⟨Q, 0, none⟩), ev'] 104 (0, 0))) (k2 : OwnP 135 W' base ev' ps') (k3 : ev'.ownBlock ≠ some H) : PW base N F Q H g nv mv es mt s B qv ev' ps' xs W' ∧ Mov (PK F g Q H s.wv qv ev) W (PK F g Q H s.wv qv ev') W' := by
  have ea : ∀ k, FK F g s.wv k → W'.heap[k]? = W.heap[k]? := fun k hk => m.block k (h.fg.fw.in k hk).2 fun q => h.ad k hk q
  have eq : ∀ k, QK Q qv k → W'.heap[k]? = W.heap[k]? := fun k hk => m.block k (h.qw.in k hk).2 fun q => h.qd k hk q
  refine ⟨⟨h.fg.same ea, h.qw.same eq, h.low, k1, k2, k3, h.aq, fun k hk q => ?_, fun k hk q => ?_⟩, ⟨m.os, m.tape, m.output, m.size, fun k hk hn => m.block k hk fun q => hn (.inr (.inr q)), fun k hk => ?_⟩⟩
  · rcases m.new k q with a | a
    · exact h.ad k hk a
    · have := (h.fg.fw.in k hk).2; omega
  · rcases m.new k q with a | a
    · exact h.qd k hk a
    · have := (h.qw.in k hk).2; omega
  · rcases hk with q | q | q
    · exact .inl (.inl q)
    · exact .inl (.inr (.inl q))
    · exact (m.new k q).imp (fun q => .inr (.inr q)) id
theorem PW.later (h : PW base N F Q H g nv mv es mt s B qv ev ps xs W) (b : Below W.heap.size W W') : PW base N F Q H g nv mv es mt s B qv ev ps xs W' := (h.qmove (Mov.of b) (h.qw.later b)).1
theorem PW.cells (h : PW base N F Q H g nv mv es mt s B qv ev ps xs W) : W.cell? ⟨H, 0, none⟩ = some (.pointer (some ⟨F, 0, none⟩)) ∧ W.cell? ⟨H, 1, none⟩ = some nv ∧ W.cell? ⟨H, 2, none⟩ = some (.pointer (some ⟨Q, 0, none⟩)) ∧ W.cell? ⟨H, 3, none⟩ = some ev :=
  ⟨(cell_blk h.hdr 0).trans rfl, (cell_blk h.hdr 1).trans rfl, (cell_blk h.hdr 2).trans rfl, (cell_blk h.hdr 3).trans rfl⟩
theorem PW.noH (h : PW base N F Q H g nv mv es mt s B qv ev ps xs W) : ¬ QK Q qv H ∧ ¬ FK F g s.wv H := ⟨fun q => h.qd H q (.inl rfl), fun q => h.ad H q (.inl rfl)⟩

set_option maxHeartbeats 8000000 in
set_option maxRecDepth 100000 in
theorem pput_any (v w : Nat) (t : Int) (w0 : World) (h : PW base N F Q H g nv mv es mt s B qv ev ps xs w0) (hb : base ≤ w0.heap.size) (hx : xs.length ≤ 200000) (hp : ps.length ≤ 200000) :
    Calls Tryz.prog 86 #[.pointer (some ⟨H, 0, none⟩), .int .i64 v, .int .i64 w, .int .i64 t] w0 fun e w' => (∃ qv' ev' xs', PW base N F Q H g nv mv es mt s B qv' ev' (ps ++ [((v : Int), (w : Int))]) xs' w' ∧ xs'.Perm (xs ++ [(t, (ps.length : Int))]) ∧ Mov (PK F g Q H s.wv qv ev) w0 (PK F g Q H s.wv qv' ev') w') ∧ e = .returned (.tuple #[]) := by
  have hd := h.later (RW.refl w0).drew
  have hpu := qpush_any t (ps.length : Int) w0.drew hd.qw hb (by omega)
  obtain ⟨c0, c1, c2, c3⟩ := h.cells
  have S0 : Hid (w0.drew.cell? ⟨H, 2, none⟩ = some (.pointer (some ⟨Q, 0, none⟩)) ∧ w0.drew.cell? ⟨H, 3, none⟩ = some ev) := ⟨c2, c3⟩
  obtain ⟨A, c, rfl, -, -⟩ := h.own.shape
  have HPU := Lib.hid hpu
  have HD := Lib.hid hd
  have HB := Lib.hid (And.intro hb hp)
  have HM0 : Hid (Mov (PK F g Q H s.wv qv (.slice A ps.length c)) w0 (PK F g Q H s.wv qv (.slice A ps.length c)) w0.drew) := Mov.of (RW.refl w0).drew
  clear h hd hpu c0 c1 c2 c3 hb hx hp
  go_enter Tryz.func86, Tryz.ntmps86
  go_wp2_with fail
  go_region_held3 (fun w' => w'.cell? ⟨H, 2, none⟩ = some (.pointer (some ⟨Q, 0, none⟩)) ∧ w'.cell? ⟨H, 3, none⟩ = some (.slice A ps.length c))
    (first | assumption | exact S0.out | exact S9.out | fail)
    (first | (go_at_call 116; refine HPU.out.mono ?_; rintro e w9 ⟨⟨v9, xs9, q9, p9, m9⟩, rfl⟩; have S9 : Hid (w9.cell? ⟨H, 2, none⟩ = some (.pointer (some ⟨Q, 0, none⟩)) ∧ w9.cell? ⟨H, 3, none⟩ = some (.slice A ps.length c)) := ⟨m9.cell S0.out.1 HD.out.noH.1, m9.cell S0.out.2 HD.out.noH.1⟩) | fail)
  obtain ⟨h9, k9⟩ := HD.out.qmove m9 q9
  have H9 := Lib.hid (And.intro h9 (And.intro p9 (HM0.out.trans k9)))
  obtain ⟨d2, d3⟩ := S9.out
  clear q9 p9 m9 h9 k9 S9 S0 HPU
  have h1 := bel_alloc w9 (.cells #[.int .i64 (v : Int), .int .i64 (w : Int)] 135)
  have HRD := Lib.hid (readE_new w9 (v : Int) (w : Int) 135)
  have HD1 := Lib.hid (H9.out.1.later h1)
  have HS1 : Hid (base ≤ (w9.alloc (.cells #[.int .i64 (v : Int), .int .i64 (w : Int)] 135)).heap.size) := by have := (H9.out.1.din H (.inl rfl)); have h2 := h1.size; unfold Hid; omega
  have HM1 := Lib.hid (H9.out.2.2.trans (Mov.of h1))
  have hln : (ps ++ [((v : Int), (w : Int))]).length = ps.length + 1 := by simp
  have HPL : Hid (ps.length + 1 ≤ 1000000000) := by have := HB.out.2; unfold Hid; omega
  clear h1
  go_wp2_with (at_builtin; refine list_appP undTwos infoTwo base rfl _ _ rfl (.slice A ps.length c) ps [((v : Int), (w : Int))] rfl HD1.out.own HS1.out _ 1 1 rfl HRD.out (by decide) HPL.out ?_; intro v1 w11 o1 g1 a1; obtain ⟨A1, c1, e1, -, -⟩ := o1.shape; rw [hln] at e1; subst e1; have hH := (g1.block H (blk_lt HD1.out.hdr) (fun e => HD1.out.dne e.symm)).trans HD1.out.hdr; have t1 := (cell_blk hH 3).trans (show _ = some (Value.slice A ps.length c) from rfl); have t2 := frozen_blk hH 3)
  go_end0
  have hne : (Value.slice A1 (ps.length + 1) c1).ownBlock ≠ some H := fun e => by
    rcases a1 with k | k
    · exact HD1.out.dne (by rw [← k]; exact e)
    · rw [k] at e
      have e3 := Option.some.inj e
      have := blk_lt HD1.out.hdr
      omega
  have hm : Mov (DK H (.slice A ps.length c)) (w9.alloc (.cells #[.int .i64 (v : Int), .int .i64 (w : Int)] 135)) (DK H (.slice A1 (ps.length + 1) c1)) (w11.setCell ⟨H, 3, none⟩ (.slice A1 (ps.length + 1) c1)) := by
    refine ((Mov.grown g1 fun k e => .inr e).trans (Mov.set (.inl rfl))).mono fun k hk => ?_
    rcases hk with hk | hk
    · exact .inl (.inl hk)
    · rcases a1 with e | e
      · exact .inl (.inr (by rw [← e]; exact hk))
      · rw [e] at hk
        have e3 := Option.some.inj hk
        exact .inr (by omega)
  obtain ⟨k1, k2⟩ := HD1.out.dmove hm (Go.Proofs.YtbnipgajhpbolaaGreatDoorW.PrintWords.blk_put hH 3 _ rfl) (World.ownsRow.kept o1 (grown_set w11 H 3 _) (.inr hne)) hne
  exact ⟨⟨v9, _, xs9, k1, H9.out.2.1, HM1.out.trans k2⟩, rfl⟩
end
end

end Go.Proofs.YtbnipgajhpbolaaGreatDoor
