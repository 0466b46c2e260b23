/- pieces: what hangs together: come, piece; pieces, plainly: a walk through a graph -/
import Derived.Test.YtbnipgajhpbolaaGreatDoorTe31
import Derived.Test.YtbnipgajhpbolaaGreatDoorTe35
set_option linter.unusedVariables false
set_option linter.unusedSimpArgs false
namespace Go.Proofs.YtbnipgajhpbolaaGreatDoor

section
open Go.RowKit
/-- A walk through a graph: who has been come to, the piece, who is left to go on from. -/
structure Pc where
  dn : Nat → Bool
  now : List Int
  rest : List Int
def Pc.come (s : Pc) (v : Nat) : Pc := if s.dn v = true then s else ⟨upd s.dn v true, s.now ++ [(v : Int)], s.rest ++ [(v : Int)]⟩
def PcK (Wk D : Nat) (nw rs : Value) (k : Nat) : Prop := k = Wk ∨ k = D ∨ nw.ownBlock = some k ∨ rs.ownBlock = some k
/-- It, in memory. -/
structure PcW (base Wk D N : Nat) (nv : Value) (s : Pc) (nw rs : Value) (W : World) : Prop where
  low : base ≤ Wk ∧ base ≤ D
  hdr : W.heap[Wk]? = some (.cells #[nv, .slice (some ⟨D, 0, none⟩) N N, nw, rs] 319 (0, 0))
  row : RowF W D 4 N fun j => .bool (s.dn j)
  onw : OwnI W base nw s.now
  ors : OwnI W base rs s.rest
  ap : ∀ k, nw.ownBlock = some k → rs.ownBlock ≠ some k
section
variable {base Wk D N : Nat} {nv nw rs : Value} {s : Pc} {W W' : World}
theorem OwnI.noblk {v : Value} {xs : List Int} {g : Nat} {cs : Array Value} {t : TypeId} (h : OwnI W base v xs) (hg : W.heap[g]? = some (.cells cs t (0, 0))) (ht : t ≠ 3) : v.ownBlock ≠ some g := fun e => by
  rcases h.2 with ⟨q, -⟩ | ⟨g', cap, cur, q, -, hg', -⟩
  · rw [q] at e; cases e
  · rw [q] at e
    have e2 : g' = g := Option.some.inj e
    rw [e2, hg] at hg'
    injection hg' with hg'
    injection hg' with _ hg'
    exact ht hg'
theorem PcW.dne (h : PcW base Wk D N nv s nw rs W) : Wk ≠ D ∧ nw.ownBlock ≠ some Wk ∧ nw.ownBlock ≠ some D ∧ rs.ownBlock ≠ some Wk ∧ rs.ownBlock ≠ some D := by
  obtain ⟨cs, hd, -⟩ := h.row
  refine ⟨fun e => ?_, h.onw.noblk h.hdr (by decide), h.onw.noblk hd (by decide), h.ors.noblk h.hdr (by decide), h.ors.noblk hd (by decide)⟩
  have h1 := h.hdr
  rw [e, hd] at h1
  injection h1 with h1
  injection h1 with _ h1
  exact absurd h1 (by decide)
theorem PcW.later (h : PcW base Wk D N nv s nw rs W) (b : Below W.heap.size W W') : PcW base Wk D N nv s nw rs W' :=
  ⟨h.low, blk_later h.hdr b, h.row.later b, own_later h.onw b, own_later h.ors b, h.ap⟩

theorem come_mid {w1 w2 : World} {rs V : Value} {rl : List Int} {v : Nat} {row : Option Nat} (h1 : rs.ownBlock ≠ some Wk) (ap : ∀ k, row = some k → rs.ownBlock ≠ some k) (ho : OwnI w1 base rs rl) (g : (w1.alloc (.cells #[.int .i64 v] 3)).grownBy w2 row) (hz : base ≤ (w1.alloc (.cells #[.int .i64 v] 3)).heap.size) :
    OwnI ((w2.setCell ⟨Wk, 2, none⟩ V).alloc (.cells #[.int .i64 v] 3)) base rs rl ∧ base ≤ ((w2.setCell ⟨Wk, 2, none⟩ V).alloc (.cells #[.int .i64 v] 3)).heap.size ∧ ReadI ((w2.setCell ⟨Wk, 2, none⟩ V).alloc (.cells #[.int .i64 v] 3)) (some ⟨w2.heap.size, 0, none⟩) 1 [(v : Int)] := by
  have o2 : OwnI w2 base rs rl := own_grown (own_later ho (bel_alloc _ _)) g fun k hk e => ap k e.symm hk
  refine ⟨own_later (own_setCell o2 h1) (bel_alloc _ _), ?_, ?_⟩
  · have := g.size
    simp [World.setCell] at this hz ⊢
    omega
  · have := own_one (w2.setCell ⟨Wk, 2, none⟩ V) (v : Int)
    simpa [World.setCell] using this

set_option maxHeartbeats 8000000 in
set_option maxRecDepth 100000 in
theorem pcome_any {v : Nat} (w : World) (h : PcW base Wk D N nv s nw rs w) (hb : base ≤ w.heap.size) (hv : v < N) (hl : s.now.length ≤ 100000 ∧ s.rest.length ≤ 100000) :
    Calls Tryz.prog 287 #[.pointer (some ⟨Wk, 0, none⟩), .int .i64 v] w fun e w' => e = .returned (.tuple #[]) ∧ ∃ nw' rs', PcW base Wk D N nv (s.come v) nw' rs' w' ∧ Mov (PcK Wk D nw rs) w (PcK Wk D nw' rs') w' ∧ (nw'.ownBlock = nw.ownBlock ∨ ∃ k, nw'.ownBlock = some k ∧ w.heap.size ≤ k) := by
  have hdne := h.dne
  have c1 : w.cell? ⟨Wk, 1, none⟩ = some (.slice (some ⟨D, 0, none⟩) N N) := (cell_blk h.hdr 1).trans rfl
  have cD := h.row.cell hv
  have fD := h.row.froz v
  have hvi : (0 : Int) ≤ (v : Int) ∧ (v : Int) < (N : Int) := by omega
  have HW := Lib.hid h
  by_cases hd : s.dn v = true
  · rw [hd] at cD
    have HR : Hid (s.come v = s) := by unfold Hid Pc.come; rw [if_pos hd]
    clear h hdne hd fD hb hl
    go_enter Tryz.func287, Tryz.ntmps287
    go_wp2_with fail
    go_end0
    refine ⟨rfl, nw, rs, ?_, Mov.refl _ _, .inl rfl⟩
    rw [HR.out]
    exact HW.out
  · have hd' : s.dn v = false := by simpa using hd
    rw [hd'] at cD
    obtain ⟨A1, c1', n1, rfl⟩ := OwnI.shape h.onw
    obtain ⟨A2, c2', n2, rfl⟩ := OwnI.shape h.ors
    have HR : Hid (s.come v = ⟨upd s.dn v true, s.now ++ [(v : Int)], s.rest ++ [(v : Int)]⟩) := by unfold Hid Pc.come; rw [if_neg hd]
    have HD := Lib.hid hdne
    have HL := Lib.hid hl
    have HB := Lib.hid hb
    -- who has been come to
    have h1 : (w.setCell ⟨D, v, none⟩ (.bool true)).heap[Wk]? = some (.cells #[nv, .slice (some ⟨D, 0, none⟩) N N, .slice A1 c1' n1, .slice A2 c2' n2] 319 (0, 0)) := (Below.heap_setCell _ _ _ _ hdne.1).trans h.hdr
    have HROW1 : Hid (RowF (w.setCell ⟨D, v, none⟩ (.bool true)) D 4 N fun j => .bool (upd s.dn v true j)) := (h.row.set v (.bool true)).congr fun j hj => by
      unfold upd
      split <;> rfl
    have HO1 : Hid (OwnI (w.setCell ⟨D, v, none⟩ (.bool true)) base (.slice A1 c1' n1) s.now ∧ OwnI (w.setCell ⟨D, v, none⟩ (.bool true)) base (.slice A2 c2' n2) s.rest) := ⟨own_setCell h.onw hdne.2.2.1, own_setCell h.ors hdne.2.2.2.2⟩
    have HM1 : Hid (Mov (PcK Wk D (.slice A1 c1' n1) (.slice A2 c2' n2)) w (PcK Wk D (.slice A1 c1' n1) (.slice A2 c2' n2)) (w.setCell ⟨D, v, none⟩ (.bool true))) := Mov.set (.inr (.inl rfl))
    have hz1 : (w.setCell ⟨D, v, none⟩ (.bool true)).heap.size = w.heap.size := by simp [World.setCell]
    have HZ1 := Lib.hid hz1
    have H1 := Lib.hid h1
    have d2 : (w.setCell ⟨D, v, none⟩ (.bool true)).cell? ⟨Wk, 2, none⟩ = some (.slice A1 c1' n1) := (cell_blk h1 2).trans rfl
    have d3 : (w.setCell ⟨D, v, none⟩ (.bool true)).cell? ⟨Wk, 3, none⟩ = some (.slice A2 c2' n2) := (cell_blk h1 3).trans rfl
    have HAP := Lib.hid h.ap
    clear h hdne hd hd' hb hl h1 hz1
    go_enter Tryz.func287, Tryz.ntmps287
    generalize hw1 : w.setCell ⟨D, v, none⟩ (.bool true) = w1 at *
    have HO1a : Hid (OwnI (w1.alloc (.cells #[.int .i64 v] 3)) base (.slice A1 c1' n1) s.now) := own_later HO1.out.1 (bel_alloc _ _)
    have HZ1a : Hid (base ≤ (w1.alloc (.cells #[.int .i64 v] 3)).heap.size) := by have := HB.out; have := HZ1.out; unfold Hid; simp; omega
    have HRD1 := Lib.hid (own_one w1 (v : Int))
    go_wp2_with (first
      | (at_builtin; refine list_appI base rfl _ _ rfl (.slice A1 c1' n1) s.now [(v : Int)] rfl HO1a.out HZ1a.out _ 1 1 rfl HRD1.out (by have := HL.out; omega) ?_; intro v2 w2 o2 g2 a2; obtain ⟨A3, c3, n3, rfl⟩ := OwnI.shape o2; have h2 := (g2.block Wk (by have := blk_lt H1.out; simp; omega) (fun e => HD.out.2.1 e.symm)).trans (blk_later H1.out (bel_alloc w1 (.cells #[.int .i64 v] 3))); have e2 := (cell_blk h2 2).trans (show _ = some (Value.slice A1 c1' n1) from rfl); have e3 := (cell_blk h2 3).trans (show _ = some (Value.slice A2 c2' n2) from rfl); have f2 := frozen_blk h2 2; have H2 := Lib.hid (And.intro h2 (And.intro o2 (And.intro g2 a2))); have HS2 := Lib.hid (come_mid HD.out.2.2.2.1 HAP.out HO1.out.2 g2 HZ1a.out (v := v) (V := .slice A3 c3 n3) (Wk := Wk)); clear o2 g2 a2 h2)
      | (at_builtin; refine list_appI base rfl _ _ rfl (.slice A2 c2' n2) s.rest [(v : Int)] rfl HS2.out.1 HS2.out.2.1 _ 1 1 rfl HS2.out.2.2 (by have := HL.out; omega) ?_; intro v4 w4 o4 g4 a4; obtain ⟨A5, c5, n5, rfl⟩ := OwnI.shape o4; have h4 := (g4.block Wk (by have := blk_lt H2.out.1; simp [World.setCell]; omega) (fun e => HD.out.2.2.2.1 e.symm)).trans (blk_later (Go.Proofs.YtbnipgajhpbolaaGreatDoorW.PrintWords.blk_put H2.out.1 2 (.slice A3 c3 n3) rfl) (bel_alloc (w2.setCell ⟨Wk, 2, none⟩ (.slice A3 c3 n3)) (.cells #[.int .i64 v] 3))); have e4 := (cell_blk h4 3).trans (show _ = some (Value.slice A2 c2' n2) from rfl); have f4 := frozen_blk h4 3; have H4 := Lib.hid (And.intro h4 (And.intro o4 (And.intro g4 a4))); clear o4 g4 a4 h4)
      | fail)
    go_end0
    obtain ⟨h2, o2, g2, a2⟩ := H2.out
    obtain ⟨h4, o4, g4, a4⟩ := H4.out
    have hz1 := HZ1.out
    have hz1a : (w1.alloc (.cells #[.int .i64 v] 3)).heap.size = w1.heap.size + 1 := by simp
    have hz3 : ((w2.setCell ⟨Wk, 2, none⟩ (.slice A3 c3 n3)).alloc (.cells #[.int .i64 v] 3)).heap.size = w2.heap.size + 1 := by simp [World.setCell]
    have hg2 := g2.size
    have nb2 := o2.noblk h2 (by decide)
    have nb4 := o4.noblk h4 (by decide)
    have rlt := row_lt HO1.out.2
    have nlt := row_lt HO1.out.1
    have v3n : ∀ k, (Value.slice A3 c3 n3).ownBlock = some k → (Value.slice A2 c2' n2).ownBlock ≠ some k := fun k e q => by
      rcases a2 with a | a
      · exact HAP.out k (a ▸ e) q
      · rw [a] at e
        have e2 := Option.some.inj e
        have := rlt k q
        omega
    have v3l := row_lt o2
    obtain ⟨d1, d2', d3', d4, d5⟩ := HD.out
    have row2 : RowF w2 D 4 N fun j => .bool (upd s.dn v true j) := (HROW1.out.later (bel_alloc _ _)).grown g2 (fun e => d3' e.symm)
    have row3 := (row2.grown (grown_set w2 Wk 2 (.slice A3 c3 n3)) (fun e => d1 (Option.some.inj e).symm)).later (bel_alloc _ (.cells #[.int .i64 v] 3))
    have row4 := (row3.grown g4 (fun e => d5 e.symm)).grown (grown_set w4 Wk 3 (.slice A5 c5 n5)) (fun e => d1 (Option.some.inj e).symm)
    have onw3 := own_later (own_setCell (j := 2) (u := .slice A3 c3 n3) o2 nb2) (bel_alloc _ (.cells #[.int .i64 v] 3))
    have onw4 := own_setCell (j := 3) (u := .slice A5 c5 n5) (own_grown onw3 g4 fun k hk e => v3n k hk e.symm) nb2
    refine ⟨rfl, .slice A3 c3 n3, .slice A5 c5 n5, ?_, ?_, ?_⟩
    · rw [HR.out]
      refine ⟨HW.out.low, Go.Proofs.YtbnipgajhpbolaaGreatDoorW.PrintWords.blk_put h4 3 _ rfl, row4, onw4, own_setCell o4 nb4, fun k hk e => ?_⟩
      rcases a4 with a | a
      · exact v3n k hk (a ▸ e)
      · rw [a] at e
        have e2 := Option.some.inj e
        have := v3l k hk
        omega
    · have m1 := HM1.out.trans (Mov.of (bel_alloc w1 (.cells #[.int .i64 v] 3)))
      have m2 := m1.trans (Mov.grown g2 fun k e => .inr (.inr (.inl e)))
      have m3 := (m2.trans (Mov.set (i := 2) (x := .slice A3 c3 n3) (.inl rfl))).trans (Mov.of (bel_alloc _ (.cells #[.int .i64 v] 3)))
      have m4 := (m3.trans (Mov.grown g4 fun k e => .inr (.inr (.inr e)))).trans (Mov.set (i := 3) (x := .slice A5 c5 n5) (.inl rfl))
      refine m4.mono fun k hk => ?_
      rcases hk with hk | hk | hk | hk
      · exact .inl (.inl hk)
      · exact .inl (.inr (.inl hk))
      · rcases a2 with a | a
        · exact .inl (.inr (.inr (.inl (a ▸ hk))))
        · rw [a] at hk
          have e2 := Option.some.inj hk
          exact .inr (by omega)
      · rcases a4 with a | a
        · exact .inl (.inr (.inr (.inr (a ▸ hk))))
        · rw [a] at hk
          have e2 := Option.some.inj hk
          exact .inr (by omega)
    · rcases a2 with a | a
      · exact .inl a
      · exact .inr ⟨_, a, by omega⟩
theorem PcW.in (h : PcW base Wk D N nv s nw rs W) : ∀ k, PcK Wk D nw rs k → base ≤ k ∧ k < W.heap.size := fun k hk => by
  obtain ⟨cs, hd, -⟩ := h.row
  rcases hk with rfl | rfl | hk | hk
  · exact ⟨h.low.1, blk_lt h.hdr⟩
  · exact ⟨h.low.2, blk_lt hd⟩
  · exact ⟨row_base h.onw k hk, row_lt h.onw k hk⟩
  · exact ⟨row_base h.ors k hk, row_lt h.ors k hk⟩
end
end

section
open Go.RowKit
section
variable {N : Nat} {near : Nat → List Int} {s : Pc}
def Pc.comes (s : Pc) (l : List Int) : Pc := l.foldl (fun s x => s.come x.toNat) s
def Pc.step (near : Nat → List Int) (s : Pc) : Pc := ({ s with rest := s.rest.dropLast } : Pc).comes (near (gi s.rest (s.rest.length - 1)).toNat)
def Pc.loop (near : Nat → List Int) : Nat → Pc → Pc
  | 0, s => s
  | k + 1, s => if s.rest = [] then s else Pc.loop near k (s.step near)
/-- Who has not been come to. -/
def Pc.und (N : Nat) (s : Pc) : Nat := (sel (fun j => !s.dn j) N).length
def Pc.mu (N : Nat) (s : Pc) : Nat := 2 * s.und N + s.rest.length
structure PcOk (N : Nat) (s : Pc) : Prop where
  rest : ∀ x ∈ s.rest, ∃ z : Nat, z < N ∧ x = z
  r : 2 * s.und N + s.rest.length ≤ 2 * N
  n : s.now.length + s.und N ≤ N
theorem sel_less {p q : Nat → Bool} {v : Nat} (h : ∀ j, j ≠ v → p j = q j) (hp : p v = true) (hq : q v = false) : ∀ {n : Nat}, v < n → (sel p n).length = (sel q n).length + 1
  | 0, hv => absurd hv (by omega)
  | n + 1, hv => by
    by_cases e : n = v
    · subst e
      have hc : sel p n = sel q n := sel_congr fun j hj => h j (by omega)
      rw [sel, sel, if_pos hp, if_neg (by rw [hq]; decide), hc, List.length_append, List.length_singleton]
    · have ih := sel_less h hp hq (n := n) (by omega)
      have hn := h n e
      rw [sel, sel, hn]
      by_cases q2 : q n = true
      · rw [if_pos q2, if_pos q2, List.length_append, List.length_append, ih]
        simp
      · rw [if_neg q2, if_neg q2]
        exact ih
theorem Pc.come_und {v : Nat} (hv : v < N) (hd : s.dn v = false) : s.und N = (s.come v).und N + 1 := by
  have e : s.come v = ⟨upd s.dn v true, s.now ++ [(v : Int)], s.rest ++ [(v : Int)]⟩ := by unfold Pc.come; rw [if_neg (by rw [hd]; decide)]
  rw [e]
  unfold Pc.und
  refine sel_less (v := v) (fun j hj => ?_) (by simp [hd]) (by simp [upd_eq]) hv
  simp only [upd_ne _ _ hj]
theorem Pc.come_mu {v : Nat} (hv : v < N) : (s.come v).mu N ≤ s.mu N := by
  by_cases hd : s.dn v = true
  · have e : s.come v = s := by unfold Pc.come; rw [if_pos hd]
    rw [e]
    exact Nat.le_refl _
  · have hd' : s.dn v = false := by simpa using hd
    have h1 := come_und hv hd'
    have e : (s.come v).rest.length = s.rest.length + 1 := by unfold Pc.come; rw [if_neg hd]; simp
    unfold Pc.mu
    omega
theorem PcOk.come {v : Nat} (h : PcOk N s) (hv : v < N) : PcOk N (s.come v) := by
  by_cases hd : s.dn v = true
  · have e : s.come v = s := by unfold Pc.come; rw [if_pos hd]
    rw [e]
    exact h
  · have hd' : s.dn v = false := by simpa using hd
    have h1 := Pc.come_und hv hd'
    have e : s.come v = ⟨upd s.dn v true, s.now ++ [(v : Int)], s.rest ++ [(v : Int)]⟩ := by unfold Pc.come; rw [if_neg hd]
    rw [e] at h1 ⊢
    have h2 := h.r
    have h3 := h.n
    refine ⟨fun x hx => ?_, ?_, ?_⟩
    · rcases List.mem_append.1 hx with q | q
      · exact h.rest x q
      · exact ⟨v, hv, by simpa using q⟩
    · simp only [List.length_append, List.length_singleton]
      omega
    · simp only [List.length_append, List.length_singleton]
      omega
theorem Pc.comes_take {l : List Int} {j : Nat} (hj : j < l.length) : s.comes (l.take (j + 1)) = (s.comes (l.take j)).come (gi l j).toNat := by
  unfold Pc.comes
  rw [List.take_add_one, List.foldl_append, List.getElem?_eq_getElem hj, gi_at hj]
  rfl
theorem Pc.comes_ok : ∀ (l : List Int) {s : Pc}, (∀ x ∈ l, ∃ z : Nat, z < N ∧ x = z) → PcOk N s → PcOk N (s.comes l) ∧ (s.comes l).mu N ≤ s.mu N
  | [], s, _, h => ⟨h, Nat.le_refl _⟩
  | x :: l, s, hx, h => by
    obtain ⟨z, hz, rfl⟩ := hx x (by simp)
    have h1 := h.come hz
    obtain ⟨a, b⟩ := comes_ok l (fun y hy => hx y (List.mem_cons_of_mem _ hy)) h1
    have e : s.comes ((z : Int) :: l) = (s.come z).comes l := rfl
    rw [e]
    exact ⟨a, Nat.le_trans b (come_mu hz)⟩
theorem PcOk.cut (h : PcOk N s) : PcOk N { s with rest := s.rest.dropLast } := by
  have h2 := h.r
  refine ⟨fun x hx => h.rest x ((List.dropLast_sublist _).subset hx), ?_, h.n⟩
  show 2 * s.und N + s.rest.dropLast.length ≤ 2 * N
  rw [List.length_dropLast]
  omega
theorem Pc.loop_done {k : Nat} (h : s.rest = []) : Pc.loop near k s = s := by
  cases k with
  | zero => rfl
  | succ k => rw [Pc.loop, if_pos h]
theorem Pc.loop_step {k : Nat} (hr : s.rest ≠ []) (hk : s.mu N ≤ k) : ∃ k', k = k' + 1 ∧ Pc.loop near k s = Pc.loop near k' (s.step near) := by
  have h1 : 0 < s.rest.length := List.length_pos_iff.2 hr
  cases k with
  | zero => unfold Pc.mu at hk; omega
  | succ k => exact ⟨k, rfl, by rw [Pc.loop, if_neg hr]⟩
end
end

end Go.Proofs.YtbnipgajhpbolaaGreatDoor
