/- The walk of forest.shrink -/
import Derived.Test.YtbnipgajhpbolaaGreatDoorTe15
import Derived.Test.YtbnipgajhpbolaaGreatDoorTe19
set_option linter.unusedVariables false
set_option linter.unusedSimpArgs false
namespace Go.Proofs.YtbnipgajhpbolaaGreatDoor

section
open Go.RowKit
/-- Blossoms as sets: A their bases, V their names. -/
def Ub (N : Nat) (up ba : Nat → Int) (A V : Nat → Nat) (C d : Nat → Nat) : Prop := Uf N up C d ∧ (∀ z, z < N → ba (C z) = (A z : Int)) ∧ ∀ y z, y < N → z < N → (C y = C z ↔ V y = V z)
section
variable {N : Nat} {up ba : Nat → Int} {A V C d : Nat → Nat}
theorem Ub.unite (h : Ub N up ba A V C d) {x y b : Nat} (hx : x < N) (hy : y < N) {up' : Nat → Int} {d' : Nat → Nat} (hu : Uf N up' (fun z => if C z = C x then C y else C z) d') :
    Ub N up' (upd ba (C y) (b : Int)) (fun z => if V z = V x ∨ V z = V y then b else A z) (fun z => if V z = V x then V y else V z) (fun z => if C z = C x then C y else C z) d' := by
  obtain ⟨h1, h2, h3⟩ := h
  refine ⟨hu, fun z hz => ?_, fun a c ha hc => ?_⟩
  · simp only []
    have k1 := h3 z x hz hx
    have k2 := h3 z y hz hy
    by_cases e : C z = C x
    · rw [if_pos e, upd_eq, if_pos (.inl (k1.1 e))]
    · rw [if_neg e]
      by_cases q : C z = C y
      · rw [q, upd_eq, if_pos (.inr (k2.1 q))]
      · rw [upd_ne _ _ q, if_neg (fun o => o.elim (fun o => e (k1.2 o)) (fun o => q (k2.2 o))), h2 z hz]
  · simp only []
    have k1 := h3 a x ha hx
    have k2 := h3 c x hc hx
    have k3 := h3 a y ha hy
    have k4 := h3 c y hc hy
    have k5 := h3 a c ha hc
    by_cases e : C a = C x
    · rw [if_pos e, if_pos (k1.1 e)]
      by_cases f : C c = C x
      · rw [if_pos f, if_pos (k2.1 f)]
        exact ⟨fun _ => rfl, fun _ => rfl⟩
      · rw [if_neg f, if_neg (fun o => f (k2.2 o))]
        exact ⟨fun o => (k4.1 o.symm).symm, fun o => (k4.2 o.symm).symm⟩
    · rw [if_neg e, if_neg (fun o => e (k1.2 o))]
      by_cases f : C c = C x
      · rw [if_pos f, if_pos (k2.1 f)]
        exact k3
      · rw [if_neg f, if_neg (fun o => f (k2.2 o))]
        exact k5
theorem Ub.congr (h : Ub N up ba A V C d) {A' V' : Nat → Nat} (hA : ∀ z, z < N → A z = A' z) (hV : ∀ z, z < N → V z = V' z) : Ub N up ba A' V' C d :=
  ⟨h.1, fun z hz => by rw [← hA z hz]; exact h.2.1 z hz, fun y z hy hz => by rw [← hV y hy, ← hV z hz]; exact h.2.2 y z hy hz⟩
end

/-- What shrink has made of a forest: ms became outer, behind the edge from v to w. -/
structure ShQ (s s' : Fm) (v w : Nat) (ms : List Nat) : Prop where
  lab : s'.lab = s.lab
  od : s'.od = s.od
  pd : s'.pd = s.pd
  rt : s'.rt = s.rt
  gn : s'.gn = s.gn
  ma : s'.ma = s.ma
  tu : s'.tu = s.tu
  lk : s'.lk = s.lk
  ou : ∀ z, s'.ou z = (s.ou z || decide (z ∈ ms))
  b1 : ∀ z, s'.b1 z = if z ∈ ms then (v : Int) else s.b1 z
  b2 : ∀ z, s'.b2 z = if z ∈ ms then (w : Int) else s.b2 z
  wl : s'.wl = s.wl ++ ms.map fun z : Nat => (z : Int)
theorem ShQ.refl (s : Fm) (v w : Nat) : ShQ s s v w [] := ⟨rfl, rfl, rfl, rfl, rfl, rfl, rfl, rfl, fun z => by simp, fun z => by simp, fun z => by simp, by simp⟩

/-- What is asked of the bases that a side of a blossom goes by. -/
structure ShL (N : Nat) (mt : Nat → Int) (s : Fm) (B : Nat → Nat) (v b : Nat) (l : List (Nat × Nat)) : Prop where
  chn : Chn mt (s.fo B) b (B v) l
  fact : ∀ x m, (x, m) ∈ l → x < N ∧ B x = x ∧ s.ou x = true ∧ x ≠ b ∧ m < N ∧ mt x = (m : Int) ∧ mt m = (x : Int) ∧ s.ou m = false ∧ B m = m ∧ s.lab m = 2 ∧ (∀ z, z < N → B z = m → z = m) ∧ ∃ p : Nat, p < N ∧ s.pd m = (p : Int) ∧ s.ou p = true ∧ B p < N
  nod : (l.map (·.1)).Nodup
  ob : s.ou b = true ∧ b < N

/-- The names of blossoms while a side is closed: l1 has been gone by, up to x. -/
def shV (B : Nat → Nat) (l1 : List (Nat × Nat)) (x z : Nat) : Nat := if B z ∈ l1.map (·.1) ∨ z ∈ l1.map (·.2) then x else B z
def shA (B : Nat → Nat) (l1 : List (Nat × Nat)) (x b z : Nat) : Nat := if l1 ≠ [] ∧ shV B l1 x z = x then b else B z
theorem shA_end {B : Nat → Nat} {l1 : List (Nat × Nat)} {b z : Nat} : shA B l1 b b z = shV B l1 b z := by
  unfold shA
  by_cases h : l1 = []
  · subst h
    rw [if_neg (by simp)]
    simp [shV]
  · by_cases e : shV B l1 b z = b
    · rw [if_pos ⟨h, e⟩, e]
    · rw [if_neg (fun o => e o.2)]
      unfold shV at e ⊢
      split
      · rename_i q
        rw [if_pos q] at e
        exact absurd rfl e
      · rfl

section
variable {base N F : Nat} {g : Nat → Nat} {nv mv : Value} {s : Fm} {C d : Nat → Nat} {B : Nat → Nat} {mt : Nat → Int}
/-- One round of shrink, plainly. -/
theorem ShL.step {v b x m : Nat} {l1 l2 : List (Nat × Nat)} (h : ShL N mt s B v b (l1 ++ (x, m) :: l2)) {p : Nat} (hp : s.pd m = (p : Int)) (hc : Chn mt (s.fo B) b (B p) l2) :
    shV B l1 x x = x ∧ shV B l1 x m = m ∧ shV B l1 x p = B p ∧ shA B l1 x b p = B p ∧ B p ≠ x ∧ m ≠ x ∧ m ≠ B p ∧ m ∉ l1.map (·.2) ∧
    ∀ z, z < N → (if (if shV B l1 x z = x then m else shV B l1 x z) = m then B p else (if shV B l1 x z = x then m else shV B l1 x z)) = shV B (l1 ++ [(x, m)]) (B p) z ∧
      (if (if shV B l1 x z = x then m else shV B l1 x z) = m ∨ (if shV B l1 x z = x then m else shV B l1 x z) = B p then b else (if shV B l1 x z = x ∨ shV B l1 x z = m then b else shA B l1 x b z)) = shA B (l1 ++ [(x, m)]) (B p) b z := by
  have hmem : ∀ a, a ∈ l1 → a ∈ l1 ++ (x, m) :: l2 := fun a ha => List.mem_append_left _ ha
  obtain ⟨f1, f2, f3, f4, f5, f6, f7, f8, f9, f10, f11, p', f12, f13, f14, f15⟩ := h.fact x m (by simp)
  obtain rfl : p = p' := by omega
  have nod := h.nod
  rw [List.map_append, List.nodup_append] at nod
  obtain ⟨n1, n2, n3⟩ := nod
  rw [List.map_cons, List.nodup_cons] at n2
  have fstO : ∀ a, a ∈ l1.map (·.1) → s.ou a = true ∧ a ≠ b := fun a ha => by
    obtain ⟨⟨a', c⟩, hac, rfl⟩ := List.mem_map.1 ha
    have := h.fact a' c (hmem _ hac)
    exact ⟨this.2.2.1, this.2.2.2.1⟩
  have sndO : ∀ a, a ∈ l1.map (·.2) → s.ou a = false := fun a ha => by
    obtain ⟨⟨a', c⟩, hac, rfl⟩ := List.mem_map.1 ha
    exact (h.fact a' c (hmem _ hac)).2.2.2.2.2.2.2.1
  have x1 : x ∉ l1.map (·.1) := fun q => n3 x q x (by simp) rfl
  have x2 : x ∉ l1.map (·.2) := fun q => by have := sndO x q; rw [f3] at this; cases this
  have m1 : m ∉ l1.map (·.1) := fun q => by have := (fstO m q).1; rw [f8] at this; cases this
  have m2 : m ∉ l1.map (·.2) := fun q => by
    obtain ⟨⟨a', c⟩, hac, e⟩ := List.mem_map.1 q
    simp only [] at e
    subst e
    have := (h.fact a' c (hmem _ hac)).2.2.2.2.2.2.1
    obtain rfl : x = a' := by omega
    exact x1 (List.mem_map.2 ⟨_, hac, rfl⟩)
  have p2 : p ∉ l1.map (·.2) := fun q => by have := sndO p q; rw [f14] at this; cases this
  have hB : B p ∉ l1.map (·.1) ∧ B p ≠ x ∧ s.ou (B p) = true := by
    cases hc with
    | nil => exact ⟨fun q => (fstO _ q).2 rfl, fun q => f4 q.symm, h.ob.1⟩
    | @cons _ m' p'' l h1 h2 h3 _ =>
      refine ⟨fun q => n3 _ q _ (by simp) rfl, fun q => n2.1 (by simp [q]), (h.fact (B p) m' (by simp)).2.2.1⟩
  have mx : m ≠ x := fun q => by subst q; rw [f3] at f8; cases f8
  have mB : m ≠ B p := fun q => by rw [q, hB.2.2] at f8; cases f8
  have v1 : shV B l1 x x = x := by unfold shV; rw [if_neg (fun o => o.elim (fun o => x1 (by rw [f2] at o; exact o)) x2), f2]
  have v2 : shV B l1 x m = m := by unfold shV; rw [if_neg (fun o => o.elim (fun o => m1 (by rw [f9] at o; exact o)) m2), f9]
  have v3 : shV B l1 x p = B p := by unfold shV; rw [if_neg (fun o => o.elim hB.1 p2)]
  refine ⟨v1, v2, v3, by unfold shA; rw [if_neg (fun o => hB.2.1 (by rw [← v3]; exact o.2))], hB.2.1, mx, mB, m2, fun z hz => ?_⟩
  have V' : ∀ q : Prop, (B z ∈ (l1 ++ [(x, m)]).map (·.1) ∨ z ∈ (l1 ++ [(x, m)]).map (·.2)) → shV B (l1 ++ [(x, m)]) (B p) z = B p := fun _ q => if_pos q
  have yes : (B z ∈ (l1 ++ [(x, m)]).map (·.1) ∨ z ∈ (l1 ++ [(x, m)]).map (·.2)) → shV B (l1 ++ [(x, m)]) (B p) z = B p ∧ shA B (l1 ++ [(x, m)]) (B p) b z = b := fun q => by
    have e : shV B (l1 ++ [(x, m)]) (B p) z = B p := if_pos q
    exact ⟨e, if_pos ⟨by simp, e⟩⟩
  by_cases hM : B z ∈ l1.map (·.1) ∨ z ∈ l1.map (·.2)
  · have e1 : shV B l1 x z = x := if_pos hM
    obtain ⟨y1, y2⟩ := yes (by
      rw [List.map_append, List.map_append, List.mem_append, List.mem_append]
      rcases hM with hM | hM
      · exact .inl (.inl hM)
      · exact .inr (.inl hM))
    rw [e1, if_pos rfl, if_pos rfl, if_pos (.inl rfl), y1, y2]
    exact ⟨rfl, rfl⟩
  · have e1 : shV B l1 x z = B z := if_neg hM
    by_cases q1 : B z = x
    · obtain ⟨y1, y2⟩ := yes (.inl (by rw [q1]; simp))
      rw [e1, if_pos q1, if_pos rfl, if_pos (.inl rfl), y1, y2]
      exact ⟨rfl, rfl⟩
    · by_cases q2 : z = m
      · obtain ⟨y1, y2⟩ := yes (.inr (by rw [q2]; simp))
        have e9 : B z = m := by rw [q2]; exact f9
        rw [e1, if_neg q1, e9, if_pos rfl, if_pos (.inl rfl), y1, y2]
        exact ⟨rfl, rfl⟩
      · have q3 : B z ≠ m := fun q => q2 (f11 z hz q)
        have hM' : ¬ (B z ∈ (l1 ++ [(x, m)]).map (·.1) ∨ z ∈ (l1 ++ [(x, m)]).map (·.2)) := fun o => by
          rw [List.map_append, List.map_append, List.mem_append, List.mem_append] at o
          rcases o with (o | o) | (o | o)
          · exact hM (.inl o)
          · exact q1 (by simpa using o)
          · exact hM (.inr o)
          · exact q2 (by simpa using o)
        have e2 : shV B (l1 ++ [(x, m)]) (B p) z = B z := if_neg hM'
        have e3 : shA B l1 x b z = B z := by unfold shA; rw [if_neg (fun o => q1 (by rw [← e1]; exact o.2))]
        rw [e1, if_neg q1, if_neg q3, e2]
        refine ⟨rfl, ?_⟩
        rw [if_neg (show ¬ (B z = x ∨ B z = m) from fun o => o.elim q1 q3), e3]
        unfold shA
        rw [e2]
        by_cases q4 : B z = B p
        · rw [if_pos (.inr q4), if_pos ⟨by simp, q4⟩]
        · rw [if_neg (fun o => o.elim q3 q4), if_neg (fun o => q4 o.2)]

theorem ShQ.more {s' s3 : Fm} {v w m : Nat} {ms : List Nat} (h : ShQ s s' v w ms) (e1 : s3.lab = s'.lab) (e2 : s3.od = s'.od) (e3 : s3.pd = s'.pd) (e4 : s3.rt = s'.rt) (e5 : s3.gn = s'.gn) (e6 : s3.ma = s'.ma) (e7 : s3.tu = s'.tu) (e8 : s3.lk = s'.lk)
    (e9 : s3.ou = upd s'.ou m true) (e10 : s3.b1 = upd s'.b1 m (v : Int)) (e11 : s3.b2 = upd s'.b2 m (w : Int)) (e12 : s3.wl = s'.wl ++ [(m : Int)]) : ShQ s s3 v w (ms ++ [m]) := by
  refine ⟨e1.trans h.lab, e2.trans h.od, e3.trans h.pd, e4.trans h.rt, e5.trans h.gn, e6.trans h.ma, e7.trans h.tu, e8.trans h.lk, fun z => ?_, fun z => ?_, fun z => ?_, by rw [e12, h.wl]; simp⟩
  · rw [e9]
    by_cases q : z = m
    · subst q; rw [upd_eq]; simp
    · rw [upd_ne _ _ q, h.ou z]
      simp [q]
  · rw [e10]
    by_cases q : z = m
    · subst q; rw [upd_eq, if_pos (by simp)]
    · rw [upd_ne _ _ q, h.b1 z]
      simp [q]
  · rw [e11]
    by_cases q : z = m
    · subst q; rw [upd_eq, if_pos (by simp)]
    · rw [upd_ne _ _ q, h.b2 z]
      simp [q]

set_option maxHeartbeats 16000000 in
set_option maxRecDepth 100000 in
theorem fshrink_any (w0 : World) (h : FW base N F g nv mv s w0) (hbs : base ≤ w0.heap.size) (hm : MR base N mv mt w0) (hu : Ub N s.up s.ba B B C d) {v w b : Nat} {l : List (Nat × Nat)} (hl : ShL N mt s B v b l) (hv : v < N) (hw : w < N) (hN : N ≤ 65536) (hq : s.wl.length + l.length ≤ 1000000) (hBN : B v < N) :
    Calls Tryz.prog 84 #[.pointer (some ⟨F, 0, none⟩), .int .i64 v, .int .i64 w, .int .i64 b] w0 fun e w' => e = .returned (.tuple #[]) ∧ ∃ (s' : Fm) (C' d' : Nat → Nat), FW base N F g nv mv s' w' ∧ ShQ s s' v w (l.map (·.2)) ∧ Ub N s'.up s'.ba (shV B l b) (shV B l b) C' d' ∧ Fr F g s.wv w0 s'.wv w' := by
  have hvi : (0 : Int) ≤ (v : Int) ∧ (v : Int) < (N : Int) := by omega
  have hwi : (0 : Int) ≤ (w : Int) ∧ (w : Int) < (N : Int) := by omega
  have c4 := h.h4
  have ev := h.c_ev hv
  have ew := h.c_ev hw
  have HFB : Hid (∀ v' W, Fr F g s.wv w0 v' W → Below base w0 W ∧ base ≤ W.heap.size) := fun v' W r => ⟨r.below h hbs, Nat.le_trans hbs r.size⟩
  have HM := Lib.hid hm
  have HL := Lib.hid hl
  have HQ := Lib.hid hq
  have H0 := Lib.hid (And.intro h hu)
  clear h hm hu hl hq hbs
  go_enter Tryz.func84, Tryz.ntmps84
  go_wp2_with fail
  go_quiet (fail)
  rename_i nq
  have HD : Hid (RW w0 (w0.drewN nq)) := ((Drawn.refl w0).step nq).below _
  have H1 := Lib.hid (And.intro (H0.out.1.later HD.out) (Fr.of (F := F) (g := g) (v := s.wv) HD.out))
  clear c4 ev ew
  generalize w0.drewN nq = w1 at *
  go_wp2_with fail
  refine (fbase_any w1 H1.out.1 H0.out.2.1 hv hN (H0.out.2.2.1 v hv)).mono ?_
  rintro e w2 ⟨rfl, up2, a1, a2, a3⟩
  have HW2 : Hid (FW base N F g nv mv { s with up := up2 } w2 ∧ Fr F g s.wv w0 s.wv w2) := ⟨a1, H1.out.2.trans a3⟩
  have HUB2 : Hid (Ub N up2 s.ba (shA B [] (B v) b) (shV B [] (B v)) C d) := Ub.congr ⟨a2, H0.out.2.2.1, H0.out.2.2.2⟩ (fun z _ => by simp [shA]) (fun z _ => by simp [shV])
  have HSQ2 : Hid (ShQ s { s with up := up2 } v w (([] : List (Nat × Nat)).map (·.2))) := ⟨rfl, rfl, rfl, rfl, rfl, rfl, rfl, rfl, fun z => by simp, fun z => by simp, fun z => by simp, by simp⟩
  have HCH : Hid (l = [] ++ l ∧ Chn mt (s.fo B) b (B v) l ∧ B v < N) := ⟨rfl, HL.out.chn, hBN⟩
  clear a1 a2 a3
  go_wp2_with fail
  go_loopg [9] l.length (fun k t wr => ∃ (x : Nat) (l1 l2 : List (Nat × Nat)) (s' : Fm) (C' d' : Nat → Nat), t = .int .i64 x ∧ Hid (l = l1 ++ l2 ∧ Chn mt (s.fo B) b x l2 ∧ x < N) ∧ Hid (ShQ s s' v w (l1.map (·.2))) ∧ Hid (Ub N s'.up s'.ba (shA B l1 x b) (shV B l1 x) C' d') ∧ Hid (FW base N F g nv mv s' wr ∧ Fr F g s.wv w0 s'.wv wr) ∧ Hid (k = l2.length))
  case atStart => exact ⟨B v, [], l, _, C, d, rfl, HCH, HSQ2, HUB2, HW2, rfl⟩
  case round =>
    obtain ⟨x, l1, l2, s', C', d', rfl, hch, hsq, hub, hw', hk⟩ := hrel
    obtain ⟨hll, hcc, hxN⟩ := hch.out
    cases hcc with
    | nil =>
      have HEND : Hid (Ub N s'.up s'.ba (shV B l b) (shV B l b) C' d') := by
        have := hub.out
        rw [hll, List.append_nil]
        exact this.congr (fun z _ => shA_end) (fun z _ => rfl)
      have HSE : Hid (ShQ s s' v w (l.map (·.2))) := by
        have := hsq.out
        rw [hll, List.append_nil]
        exact this
      clear hll
      go_wp2_with fail
      go_end0
      exact ⟨rfl, s', C', d', hw'.out.1, HSE.out, HEND.out, hw'.out.2⟩
    | @cons _ m p l2' hxb e1 e2 hcp =>
      have hlx := HL.out
      rw [hll] at hlx
      obtain ⟨f1, f2, f3, f4, f5, f6, f7, f8, f9, f10, f11, p', f12, f13, f14, f15⟩ := hlx.fact x m (by simp)
      have e2' : s.pd m = (p : Int) := e2
      obtain rfl : p = p' := by omega
      obtain ⟨v1, v2, v3, v4, v5, v6, v7, v8, vz⟩ := hlx.step e2' hcp
      have HVS := Lib.hid (And.intro v1 (And.intro v2 (And.intro v3 (And.intro v4 (And.intro v5 (And.intro v6 vz))))))
      have hxbb : ((x : Int) == (b : Int)) = false := by simp; omega
      have hmi : (0 : Int) ≤ (m : Int) ∧ (m : Int) < (N : Int) := by omega
      have hxi : (0 : Int) ≤ (x : Int) ∧ (x : Int) < (N : Int) := by omega
      have hpi : (0 : Int) ≤ (p : Int) ∧ (p : Int) < (N : Int) := by omega
      have hom : s'.ou m = false := by rw [hsq.out.ou m, f8, decide_eq_false v8]; rfl
      have hlm : s'.lab m = 2 := by rw [hsq.out.lab]; exact f10
      have hpm : s'.pd m = (p : Int) := by rw [hsq.out.pd]; exact e2'
      have hqm : s'.wl.length ≤ 1000000 := by
        have h1 := HQ.out
        have h2 := congrArg List.length hll
        rw [hsq.out.wl]
        simp only [List.length_append, List.length_map, List.length_cons] at h2 ⊢
        omega
      obtain ⟨mb, mo, mc, hmv, mb1, mb2⟩ := (HM.out.below (HFB.out _ _ hw'.out.2).1).open (by omega)
      have c1 := hw'.out.1.h1
      rw [hmv] at c1
      have cm := mb2 x hxN
      rw [e1] at cm
      have c3 := hw'.out.1.h3
      have co := hw'.out.1.c_ou f5
      rw [hom] at co
      have c8 := hw'.out.1.h8
      have cb1 := (hw'.out.1.br.at f5).1
      have cb2 := (hw'.out.1.br.at f5).2
      have fb1 := hw'.out.1.br.froz (m * 2)
      have fb2 := hw'.out.1.br.froz (m * 2 + 1)
      have hp1 := hw'.out.1.put_br m v w
      have cb3 : (wr.setCell ⟨g 8, m * 2, none⟩ (.int .i64 v)).cell? ⟨g 8, m * 2 + 1, none⟩ = some (.int .i64 (s'.b2 m)) := (World.cell?_setCell_other _ _ _ _ (by intro e; injection e with _ e; omega)).trans cb2
      have H3 : Hid (FW base N F g nv mv { s' with b1 := upd s'.b1 m (v : Int), b2 := upd s'.b2 m (w : Int) } ((wr.setCell ⟨g 8, m * 2, none⟩ (.int .i64 v)).setCell ⟨g 8, m * 2 + 1, none⟩ (.int .i64 w)) ∧ Fr F g s.wv w0 s'.wv ((wr.setCell ⟨g 8, m * 2, none⟩ (.int .i64 v)).setCell ⟨g 8, m * 2 + 1, none⟩ (.int .i64 w))) := ⟨hp1, (hw'.out.2.trans (Fr.set (.inr ⟨8, by decide, by decide, rfl⟩))).trans (Fr.set (.inr ⟨8, by decide, by decide, rfl⟩))⟩
      have hp5 := hp1.h5
      have hpo := hp1.c_od f5
      dsimp only at hpo
      have hra := fun y => fraise_any (x := y) (l := 2) _ H3.out.1 (HFB.out _ _ H3.out.2).2 f5 hqm
      have HRA := Lib.hid hra
      have HFA := Lib.hid (And.intro f5 (And.intro f12 (And.intro hlm (And.intro hpm (And.intro hxN (And.intro hcp hll))))))
      have HFB15 := Lib.hid f15
      clear hra hp1 hmv mb2 mb1 hlx v1 v2 v3 v4 v5 v6 v7 v8 vz f2 f3 f4 f6 f7 f8 f9 f10 f11 f13 f14 f15 e1 e2 e2' hcp hll hxb hom hlm hpm hqm
      go_wp2_with fail
      refine (HRA.out _).mono ?_
      rintro e w4 ⟨rfl, va, a1, a2⟩
      have H4 := Lib.hid (And.intro a1 (H3.out.2.trans a2))
      clear a1 a2 HRA c1 cm c3 co c8 cb1 cb2 fb1 fb2 cb3 hp5 hpo
      generalize hX : wrap64 (wrap64 (wrap64 (s.ev v + s.ev w) + 1) - s'.od m) = X at *
      obtain ⟨s2, hs2⟩ : ∃ s2, s2 = ({ s' with b1 := upd s'.b1 m (v : Int), b2 := upd s'.b2 m (w : Int) } : Fm).raise m X 2 va := ⟨_, rfl⟩
      have hwv : s2.wv = va := by rw [hs2]; rfl
      have hlb : s2.lab = s'.lab := by
        rw [hs2]
        unfold Fm.raise
        simp only []
        rw [if_neg (by have := HFA.out.2.2.1; omega)]
      have HSQ : Hid (ShQ s s2 v w ((l1 ++ [(x, m)]).map (·.2))) := by
        have := hsq.out.more (s3 := s2) (m := m) hlb (by rw [hs2]; rfl) (by rw [hs2]; rfl) (by rw [hs2]; rfl) (by rw [hs2]; rfl) (by rw [hs2]; rfl) (by rw [hs2]; rfl) (by rw [hs2]; rfl) (by rw [hs2]; rfl) (by rw [hs2]; rfl) (by rw [hs2]; rfl) (by rw [hs2]; rfl)
        rw [List.map_append]
        exact this
      have hup2 : s2.up = s'.up := by rw [hs2]; rfl
      have hba2 : s2.ba = s'.ba := by rw [hs2]; rfl
      have hpd2 : s2.pd m = (p : Int) := by
        rw [hs2]
        exact HFA.out.2.2.2.1
      have H5 : Hid (FW base N F g nv mv s2 w4 ∧ Fr F g s.wv w0 s2.wv w4) := by
        rw [hwv, hs2]
        exact H4.out
      have HUB : Hid (Ub N s2.up s2.ba (shA B l1 x b) (shV B l1 x) C' d') := by
        rw [hup2, hba2]
        exact hub.out
      clear H4 H3 hs2 hwv hlb hup2 hba2 hub hsq hw'
      have hpN := HFA.out.2.1
      have hmN := HFA.out.1
      have c6 := H5.out.1.h6
      have cp := H5.out.1.c_pd hmN
      rw [hpd2] at cp
      have hbap : s2.ba (C' p) = ((B p : Nat) : Int) := by
        rw [HUB.out.2.1 p hpN, HVS.out.2.2.2.1]
      go_wp2_with fail
      refine (fbase_any w4 H5.out.1 HUB.out.1 hpN hN hbap).mono ?_
      rintro e w5 ⟨rfl, up5, a1, a2, a3⟩
      have H6 := Lib.hid (And.intro a1 (H5.out.2.trans a3))
      have HU6 : Hid (Ub N up5 s2.ba (shA B l1 x b) (shV B l1 x) C' d') := ⟨a2, HUB.out.2⟩
      clear a1 a2 a3 c6 cp hbap
      go_wp2_with fail
      refine (funite_any w5 H6.out.1 HU6.out.1 hxN hmN ((b : Nat) : Int) hN).mono ?_
      rintro e w6 ⟨rfl, up6, d6, a1, a2, a3⟩
      have H7 := Lib.hid (And.intro a1 (H6.out.2.trans a3))
      have HU7 : Hid (Ub N up6 (upd s2.ba (C' m) (b : Int)) (fun z => if shV B l1 x z = x ∨ shV B l1 x z = m then b else shA B l1 x b z) (fun z => if shV B l1 x z = x then m else shV B l1 x z) (fun z => if C' z = C' x then C' m else C' z) d6) := by
        have := HU6.out.unite hxN hmN (b := b) a2
        rw [HVS.out.1, HVS.out.2.1] at this
        exact this
      have c6 := H7.out.1.h6
      have cp := H7.out.1.c_pd hmN
      dsimp only at cp
      rw [hpd2] at cp
      clear a1 a2 a3
      go_wp2_with fail
      refine (funite_any w6 H7.out.1 HU7.out.1 hmN hpN ((b : Nat) : Int) hN).mono ?_
      rintro e w7 ⟨rfl, up7, d7, a1, a2, a3⟩
      have H8 := Lib.hid (And.intro a1 (H7.out.2.trans a3))
      have HU8 := HU7.out.unite hmN hpN (b := b) a2
      obtain ⟨v1, v2, v3, v4, v5, v6, vz⟩ := HVS.out
      have hu9 : ∃ C9, Ub N up7 (upd (upd s2.ba (C' m) (b : Int)) (if C' p = C' x then C' m else C' p) (b : Int)) (shA B (l1 ++ [(x, m)]) (B p) b) (shV B (l1 ++ [(x, m)]) (B p)) C9 d7 := by
        refine ⟨_, HU8.congr (fun z hz => ?_) (fun z hz => ?_)⟩
        · rw [v2, v3, if_neg v6, if_neg v5, ← (vz z hz).2]
        · rw [v2, v3, if_neg v6, if_neg v5, ← (vz z hz).1]
      obtain ⟨C9, hu9⟩ := hu9
      have HU9 := Lib.hid hu9
      have HCH2 : Hid (l = (l1 ++ [(x, m)]) ++ l2' ∧ Chn mt (s.fo B) b (B p) l2' ∧ B p < N) := by
        refine ⟨?_, HFA.out.2.2.2.2.2.1, HFB15.out⟩
        rw [HFA.out.2.2.2.2.2.2]
        simp
      have HSQ9 : Hid (ShQ s { s2 with up := up7, ba := upd (upd s2.ba (C' m) (b : Int)) (if C' p = C' x then C' m else C' p) (b : Int) } v w ((l1 ++ [(x, m)]).map (·.2))) := by
        obtain ⟨q1, q2, q3, q4, q5, q6, q7, q8, q9, q10, q11, q12⟩ := HSQ.out
        exact ⟨q1, q2, q3, q4, q5, q6, q7, q8, q9, q10, q11, q12⟩
      clear a1 a2 a3 c6 cp v1 v2 v3 v4 v5 v6 vz HU8 hu9
      go_wp2_with fail
      go_roundg l2'.length
      case rel => exact ⟨B p, l1 ++ [(x, m)], l2', _, C9, d7, rfl, HCH2, HSQ9, HU9, H8, rfl⟩
      case measure => rw [hk.out]; simp
end
end

end Go.Proofs.YtbnipgajhpbolaaGreatDoor
