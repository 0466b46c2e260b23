/- The walks of forest.raise, Next, unite, Look, Grow; The walks of forest.Look and forest.Grow -/
import Derived.Test.YtbnipgajhpbolaaGreatDoorTe14
set_option linter.unusedVariables false
set_option linter.unusedSimpArgs false
namespace Go.Proofs.YtbnipgajhpbolaaGreatDoor

section
open Go.RowKit
section
variable {base N F : Nat} {g : Nat → Nat} {nv mv : Value} {s : Fm} {C d : Nat → Nat}

/-- What raise leaves. -/
def Fm.raise (s : Fm) (v : Nat) (x l : Int) (v1 : Value) : Fm := { s with ou := upd s.ou v true, ev := upd s.ev v x, lab := if s.lab v = 0 then upd s.lab v l else s.lab, wv := v1, wl := s.wl ++ [(v : Int)] }

set_option maxHeartbeats 8000000 in
set_option maxRecDepth 100000 in
theorem fraise_any (w : World) (h : FW base N F g nv mv s w) (hbs : base ≤ w.heap.size) {v : Nat} (hv : v < N) (x l : Int) (hq : s.wl.length ≤ 1000000) :
    Calls Tryz.prog 66 #[.pointer (some ⟨F, 0, none⟩), .int .i64 v, .int .i64 x, .int .i64 l] w fun e w' => e = .returned (.tuple #[]) ∧ ∃ v1, FW base N F g nv mv (s.raise v x l v1) w' ∧ Fr F g s.wv w v1 w' := by
  have hvi : (0 : Int) ≤ (v : Int) ∧ (v : Int) < (N : Int) := by omega
  have h1 := h.put_ou v true
  have hf1 : Fr F g s.wv w s.wv (w.setCell ⟨g 3, v, none⟩ (.bool true)) := Fr.set (.inr ⟨3, by decide, by decide, rfl⟩)
  have h2 := h1.put_ev v x
  have hf2 : Fr F g s.wv w s.wv ((w.setCell ⟨g 3, v, none⟩ (.bool true)).setCell ⟨g 4, v, none⟩ (.int .i64 x)) := hf1.trans (Fr.set (.inr ⟨4, by decide, by decide, rfl⟩))
  have co := h.c_ou hv
  have fo := h.ou.froz v
  have ce := h1.c_ev hv
  dsimp only at ce
  have fe := h1.ev.froz v
  have fe2 := h.ev.froz v
  have S0 : Hid (w.drew.cell? ⟨F, 3, none⟩ = some (.slice (some ⟨g 3, 0, none⟩) N N) ∧ w.drew.cell? ⟨F, 4, none⟩ = some (.slice (some ⟨g 4, 0, none⟩) N N)) := ⟨h.h3, h.h4⟩
  have S1 : Hid ((w.setCell ⟨g 3, v, none⟩ (.bool true)).drew.cell? ⟨F, 3, none⟩ = some (.slice (some ⟨g 3, 0, none⟩) N N) ∧ (w.setCell ⟨g 3, v, none⟩ (.bool true)).drew.cell? ⟨F, 4, none⟩ = some (.slice (some ⟨g 4, 0, none⟩) N N)) := ⟨h1.h3, h1.h4⟩
  have S2 : Hid (((w.setCell ⟨g 3, v, none⟩ (.bool true)).setCell ⟨g 4, v, none⟩ (.int .i64 x)).drew.cell? ⟨F, 3, none⟩ = some (.slice (some ⟨g 3, 0, none⟩) N N) ∧ ((w.setCell ⟨g 3, v, none⟩ (.bool true)).setCell ⟨g 4, v, none⟩ (.int .i64 x)).drew.cell? ⟨F, 4, none⟩ = some (.slice (some ⟨g 4, 0, none⟩) N N)) := ⟨h2.h3, h2.h4⟩
  have HW : Hid (FW base N F g nv mv { s with ou := upd s.ou v true, ev := upd s.ev v x } ((w.setCell ⟨g 3, v, none⟩ (.bool true)).setCell ⟨g 4, v, none⟩ (.int .i64 x)).drew ∧ Fr F g s.wv w s.wv ((w.setCell ⟨g 3, v, none⟩ (.bool true)).setCell ⟨g 4, v, none⟩ (.int .i64 x)).drew) := ⟨h2.later (RW.refl _).drew, hf2.trans (Fr.of (RW.refl _).drew)⟩
  have HQ := Lib.hid hq
  have HBS := Lib.hid hbs
  clear h h1 h2 hf1 hf2 hq hbs
  go_enter Tryz.func66, Tryz.ntmps66
  go_wp2_with fail
  go_region_held3 (fun w' => w'.cell? ⟨F, 3, none⟩ = some (.slice (some ⟨g 3, 0, none⟩) N N) ∧ w'.cell? ⟨F, 4, none⟩ = some (.slice (some ⟨g 4, 0, none⟩) N N))
    (first | assumption | exact S0.out | exact S1.out | exact S2.out | fail) (fail)
  clear S0 S1 S2 co fo ce fe fe2
  generalize ((w.setCell ⟨g 3, v, none⟩ (.bool true)).setCell ⟨g 4, v, none⟩ (.int .i64 x)).drew = w2 at *
  have c2 := HW.out.1.h2
  have cl := HW.out.1.c_lab hv
  dsimp only at cl
  have fl := HW.out.1.lab.froz v
  have key : ∀ w3 lb sz, sz = w3.heap.size → FW base N F g nv mv { s with ou := upd s.ou v true, ev := upd s.ev v x, lab := lb } w3 → Fr F g s.wv w s.wv w3 →
      FW base N F g nv mv { s with ou := upd s.ou v true, ev := upd s.ev v x, lab := lb } (w3.alloc (.cells #[.int .i64 (v : Int)] 3)) ∧ Fr F g s.wv w s.wv (w3.alloc (.cells #[.int .i64 (v : Int)] 3)) ∧ ReadI (w3.alloc (.cells #[.int .i64 (v : Int)] 3)) (some ⟨sz, 0, none⟩) 1 [(v : Int)] ∧ base ≤ (w3.alloc (.cells #[.int .i64 (v : Int)] 3)).heap.size := fun w3 lb sz hsz a b => by
    subst hsz
    refine ⟨a.later (bel_alloc w3 _), b.trans (Fr.of (bel_alloc w3 _)), ⟨rfl, by omega, fun _ => ⟨w3.heap.size, 0, rfl, fun j hj => ?_⟩⟩, ?_⟩
    · obtain rfl : j = 0 := by omega
      exact cell_blk (g := w3.heap.size) (t := 3) (cs := #[.int .i64 (v : Int)]) (by show (w3.heap.push _)[w3.heap.size]? = _; rw [Array.getElem?_push_size]) 0
    · have h1 := b.size
      have h2 : (w3.alloc (.cells #[.int .i64 (v : Int)] 3)).heap.size = w3.heap.size + 1 := by simp
      have := HBS.out
      omega
  have KEY := Lib.hid key
  have hln : (s.wl ++ [(v : Int)]).length = s.wl.length + 1 := by simp
  clear key
  by_cases hl : s.lab v = 0
  · have h3 := HW.out.1.put_lab v l
    have hf3 : Fr F g s.wv w s.wv (w2.setCell ⟨g 2, v, none⟩ (.int .i64 l)) := HW.out.2.trans (Fr.set (.inr ⟨2, by decide, by decide, rfl⟩))
    have HR : Hid (∀ v1, s.raise v x l v1 = { s with ou := upd s.ou v true, ev := upd s.ev v x, lab := upd s.lab v l, wv := v1, wl := s.wl ++ [(v : Int)] }) := fun v1 => by unfold Fm.raise; rw [if_pos hl]
    simp only [hl] at cl
    obtain ⟨k1, k2, k3, k4⟩ := KEY.out _ _ w2.heap.size (by simp [World.setCell]) h3 hf3
    have H4 := Lib.hid (And.intro k1 (And.intro k2 (And.intro k3 k4)))
    have c14 := h3.h14
    have hc2' := h3.h2
    clear h3 hf3 k1 k2 k3 k4 hl
    go_wp2_with (at_builtin; refine list_appQ base rfl _ _ rfl s.wv s.wl (v : Int) rfl H4.out.1.wq H4.out.2.2.2 _ _ rfl H4.out.2.2.1 HQ.out ?_; intro v1 w8 o1 g1 a1; obtain ⟨A1, c1, e1⟩ := o1.shape; rw [hln] at e1; subst e1; have h8 := H4.out.1.app g1 o1 a1; have hf8 := (H4.out.2.1.trans (Fr.grown g1 a1)).trans (Fr.set (G := F) (i := 14) (x := .slice A1 (s.wl.length + 1) c1) (.inl rfl)); have H8 := Lib.hid (And.intro h8 hf8); have t1 := g1.cell H4.out.1.h14 (fun e => (H4.out.1.wne _ e.symm).1 rfl); have t2 := (g1.frozen_far ⟨F, 14, none⟩ H4.out.1.lt (fun e => (H4.out.1.wne _ e.symm).1 rfl)).trans (H4.out.1.hfroz 14); clear h8 hf8)
    go_end0
    refine ⟨rfl, _, ?_, H8.out.2⟩
    rw [HR.out]
    exact H8.out.1
  · have hl' : (s.lab v == 0) = false := by simpa using hl
    have HR : Hid (∀ v1, s.raise v x l v1 = { s with ou := upd s.ou v true, ev := upd s.ev v x, lab := s.lab, wv := v1, wl := s.wl ++ [(v : Int)] }) := fun v1 => by unfold Fm.raise; rw [if_neg hl]
    obtain ⟨k1, k2, k3, k4⟩ := KEY.out _ _ _ rfl HW.out.1 HW.out.2
    have H4 := Lib.hid (And.intro k1 (And.intro k2 (And.intro k3 k4)))
    have c14 := HW.out.1.h14
    clear k1 k2 k3 k4 hl
    generalize s.lab v = lv at *
    go_wp2_with (at_builtin; refine list_appQ base rfl _ _ rfl s.wv s.wl (v : Int) rfl H4.out.1.wq H4.out.2.2.2 _ _ rfl H4.out.2.2.1 HQ.out ?_; intro v1 w8 o1 g1 a1; obtain ⟨A1, c1, e1⟩ := o1.shape; rw [hln] at e1; subst e1; have h8 := H4.out.1.app g1 o1 a1; have hf8 := (H4.out.2.1.trans (Fr.grown g1 a1)).trans (Fr.set (G := F) (i := 14) (x := .slice A1 (s.wl.length + 1) c1) (.inl rfl)); have H8 := Lib.hid (And.intro h8 hf8); have t1 := g1.cell H4.out.1.h14 (fun e => (H4.out.1.wne _ e.symm).1 rfl); have t2 := (g1.frozen_far ⟨F, 14, none⟩ H4.out.1.lt (fun e => (H4.out.1.wne _ e.symm).1 rfl)).trans (H4.out.1.hfroz 14); clear h8 hf8)
    go_end0
    refine ⟨rfl, _, ?_, H8.out.2⟩
    rw [HR.out]
    exact H8.out.1

set_option maxHeartbeats 4000000 in
set_option maxRecDepth 100000 in
theorem fnext_none (w : World) (h : FW base N F g nv mv s w) (hl : s.wl = []) :
    Calls Tryz.prog 61 #[.pointer (some ⟨F, 0, none⟩)] w fun e w' => e = .returned (.tuple #[.int .i64 0, .bool false]) ∧ w = w' := by
  obtain ⟨A, c, e⟩ := h.wq.shape
  have h14 := h.h14
  rw [hl] at e
  rw [e] at h14
  simp only [List.length_nil] at h14
  clear h e hl
  go_enter Tryz.func61, Tryz.ntmps61
  go_wp2_with fail
  go_ret2
  exact ⟨rfl, rfl⟩

set_option maxHeartbeats 4000000 in
set_option maxRecDepth 100000 in
theorem fnext_some (w : World) (h : FW base N F g nv mv s w) {v : Int} {l : List Int} (hl : s.wl = v :: l) (hb : l.length ≤ 1000000) :
    Calls Tryz.prog 61 #[.pointer (some ⟨F, 0, none⟩)] w fun e w' => e = .returned (.tuple #[.int .i64 v, .bool true]) ∧ ∃ v1, FW base N F g nv mv { s with wv := v1, wl := l } w' ∧ Fr F g s.wv w v1 w' := by
  have hq := h.wq
  rw [hl] at hq
  obtain ⟨gq, off, cap, v1, ev, hc, hrun, hq1, ho, A, c, hs⟩ := hq.pop
  have h14 := h.h14
  have f14 := h.hfroz 14
  rw [ev] at h14
  have hown : s.wv.ownBlock = some gq := by rw [ev]; rfl
  have hn := h.put_wv v1 l hq1 (fun q e => h.wne q (by rw [hown, ← ho]; exact e))
  have hf : Fr F g s.wv w v1 (w.setCell ⟨F, 14, none⟩ v1) := ⟨rfl, rfl, rfl, by simp [World.setCell], fun k hk hnk => Below.heap_setCell _ _ _ _ (fun e => hnk (.inl e)), fun k hk => .inl (by rw [hown, ← ho]; exact hk)⟩
  have HN := Lib.hid (And.intro hn hf)
  have hlen : ((l.length + 1 : Nat) : Int) = (l.length : Int) + 1 := by omega
  have h0 : (((l.length + 1 : Nat) : Int) == 0) = false := by simp; omega
  have h01 : (0 : Int) < ((l.length + 1 : Nat) : Int) := by omega
  have h02 : ¬ (l.length + 1 = 0) := by omega
  subst hs
  clear h hq hq1 ho hn hf hl ev hown
  go_enter Tryz.func61, Tryz.ntmps61
  go_wp2_with fail
  go_ret2
  exact ⟨rfl, _, HN.out.1, HN.out.2⟩

theorem Uf.union {up : Nat → Int} (h : Uf N up C d) {v w : Nat} (hv : v < N) (hw : w < N) : Uf N (upd up (C v) ((C w : Nat) : Int)) (fun z => if C z = C v then C w else C z) (fun z => if C z = C v then d z + d (C w) + 1 else d z) := fun z hz => by
  obtain ⟨v1, v2, -⟩ := h v hv
  obtain ⟨w1, w2, -⟩ := h w hw
  obtain ⟨z1, z2, z3⟩ := h z hz
  have key : (if C (if C z = C v then C w else C z) = C v then C w else C (if C z = C v then C w else C z)) = (if C z = C v then C w else C z) := by
    by_cases e : C z = C v
    · rw [if_pos e, w2]; split <;> rfl
    · rw [if_neg e, z2, if_neg e]
  refine ⟨by show (if _ then C w else C z) < N; split <;> assumption, key, ?_⟩
  by_cases e : z = C v
  · subst e
    rw [upd_eq]
    by_cases q : C w = C v
    · left
      refine ⟨by rw [q], ?_⟩
      show (if _ then C w else _) = _
      rw [v2, if_pos rfl, q]
    · right
      refine ⟨C w, w1, rfl, q, ?_, ?_, ?_⟩
      · simp only [w2, v2, if_neg q, if_true]
        omega
      · show (if _ then C w else _) = (if _ then C w else _)
        rw [w2, v2, if_pos rfl, if_neg q]
      · show (if _ then C w else _) ≠ _
        rw [v2, if_pos rfl]
        exact q
  · rw [upd_ne _ _ e]
    rcases z3 with ⟨k1, k2⟩ | ⟨y, k1, k2, k3, k4, k5, k6⟩
    · left
      refine ⟨k1, ?_⟩
      show (if C z = C v then C w else C z) = z
      rw [if_neg (by rw [k2]; exact e), k2]
    · right
      refine ⟨y, k1, k2, k3, ?_, ?_, ?_⟩
      · simp only [k5]
        split <;> omega
      · show (if _ then _ else _) = (if _ then _ else _)
        rw [k5]
      · show (if C z = C v then C w else C z) ≠ z
        by_cases q : C z = C v
        · rw [if_pos q]
          intro q2
          apply k6
          rw [← q2, w2]
        · rw [if_neg q]
          exact k6

set_option maxHeartbeats 4000000 in
set_option maxRecDepth 100000 in
theorem funite_any (w : World) (h : FW base N F g nv mv s w) (hu : Uf N s.up C d) {x y : Nat} (hx : x < N) (hy : y < N) (b : Int) (hN : N ≤ 65536) :
    Calls Tryz.prog 115 #[.pointer (some ⟨F, 0, none⟩), .int .i64 x, .int .i64 y, .int .i64 b] w fun e w' => e = .returned (.tuple #[]) ∧ ∃ up' d', FW base N F g nv mv { s with up := up', ba := upd s.ba (C y) b } w' ∧ Uf N up' (fun z => if C z = C x then C y else C z) d' ∧ Fr F g s.wv w s.wv w' := by
  have HW := Lib.hid (And.intro h hu)
  have hcx := (hu x hx).1
  have hcy := (hu y hy).1
  have hxi : (0 : Int) ≤ ((C x : Nat) : Int) ∧ ((C x : Nat) : Int) < (N : Int) := by omega
  have hyi : (0 : Int) ≤ ((C y : Nat) : Int) ∧ ((C y : Nat) : Int) < (N : Int) := by omega
  clear h hu
  go_enter Tryz.func115, Tryz.ntmps115
  go_wp2_with fail
  refine (ffirst_any w HW.out.1 HW.out.2 hx hN).mono ?_
  rintro e w1 ⟨rfl, up1, a1, a2, a3⟩
  have H1 := Lib.hid (And.intro a1 (And.intro a2 a3))
  clear a1 a2 a3
  go_wp2_with fail
  refine (ffirst_any w1 H1.out.1 H1.out.2.1 hy hN).mono ?_
  rintro e w2 ⟨rfl, up2, a1, a2, a3⟩
  have b1 := a1.put_up (C x) ((C y : Nat) : Int)
  have b2 := b1.put_ba (C y) b
  have c10 := a1.h10
  have cu := a1.c_up hcx
  have fu := a1.up.froz (C x)
  have c11 := b1.h11
  have cb := b1.c_ba hcy
  have fb := b1.ba.froz (C y)
  have fb0 := a1.ba.froz (C y)
  dsimp only at cu cb
  have H2 : Hid (FW base N F g nv mv { s with up := upd up2 (C x) ((C y : Nat) : Int), ba := upd s.ba (C y) b } ((w2.setCell ⟨g 10, C x, none⟩ (.int .i64 ((C y : Nat) : Int))).setCell ⟨g 11, C y, none⟩ (.int .i64 b)) ∧ Uf N (upd up2 (C x) ((C y : Nat) : Int)) (fun z => if C z = C x then C y else C z) (fun z => if C z = C x then d z + d (C y) + 1 else d z) ∧ Fr F g s.wv w s.wv ((w2.setCell ⟨g 10, C x, none⟩ (.int .i64 ((C y : Nat) : Int))).setCell ⟨g 11, C y, none⟩ (.int .i64 b))) :=
    ⟨b2, a2.union hx hy, ((H1.out.2.2.trans a3).trans (Fr.set (.inr ⟨10, by decide, by decide, rfl⟩))).trans (Fr.set (.inr ⟨11, by decide, by decide, rfl⟩))⟩
  clear a1 a2 a3 b1 b2
  go_wp2_with fail
  go_end0
  exact ⟨rfl, _, _, H2.out.1, H2.out.2.1, H2.out.2.2⟩
end
end

section
open Go.RowKit
section
variable {base N F : Nat} {g : Nat → Nat} {nv mv : Value} {s : Fm} {C d : Nat → Nat} {B : Nat → Nat} {mt : Nat → Int}

/-- What an edge is for a forest. -/
def lookB (mt : Nat → Int) (s : Fm) (B : Nat → Nat) (v w : Nat) : Int :=
  if mt v = w then 0 else if s.goneB v = true then 0 else if s.goneB w = true then 0 else if s.lab w = 0 then 1 else if s.ou w = true ∧ B v ≠ B w then 2 else 0

set_option maxHeartbeats 8000000 in
set_option maxRecDepth 100000 in
theorem flook_any (w0 : World) (h : FW base N F g nv mv s w0) (hbs : base ≤ w0.heap.size) (hm : MR base N mv mt w0) (hu : Uf N s.up C d) (hB : ∀ z, z < N → s.ba (C z) = (B z : Int)) {v w : Nat} (hv : v < N) (hw : w < N) (hN : N ≤ 65536)
    (hrt : ∀ z, z < N → s.rt z = -1 ∨ ∃ r : Nat, r < N ∧ s.rt z = r) (hlk : 0 ≤ s.lk ∧ s.lk ≤ 4611686018427387904) :
    Calls Tryz.prog 62 #[.pointer (some ⟨F, 0, none⟩), .int .i64 v, .int .i64 w] w0 fun e w' => e = .returned (.int .i64 (lookB mt s B v w)) ∧ ∃ up', FW base N F g nv mv { s with up := up', lk := s.lk + 1 } w' ∧ Uf N up' C d ∧ Fr F g s.wv w0 s.wv w' := by
  have hvi : (0 : Int) ≤ (v : Int) ∧ (v : Int) < (N : Int) := by omega
  have hwi : (0 : Int) ≤ (w : Int) ∧ (w : Int) < (N : Int) := by omega
  have h15 := h.h15
  have f15 := h.hfroz 15
  have s1 : IntKind.i64.wrap (s.lk + 1) = s.lk + 1 := by rw [IntKind.wrap_i64]; omega
  have h1 := h.put_lk (s.lk + 1)
  have hf1 : Fr F g s.wv w0 s.wv (w0.setCell ⟨F, 15, none⟩ (.int .i64 (s.lk + 1))) := Fr.set (.inl rfl)
  have H1 : Hid (FW base N F g nv mv { s with lk := s.lk + 1 } (w0.setCell ⟨F, 15, none⟩ (.int .i64 (s.lk + 1))) ∧ Fr F g s.wv w0 s.wv (w0.setCell ⟨F, 15, none⟩ (.int .i64 (s.lk + 1)))) := ⟨h1, hf1⟩
  have hm1 := hm.below (hf1.below h hbs)
  have HBS : Hid (base ≤ (w0.setCell ⟨F, 15, none⟩ (.int .i64 (s.lk + 1))).heap.size) := by have := hf1.size; unfold Hid; omega
  have HU := Lib.hid hu
  have HB := Lib.hid hB
  have HR := Lib.hid hrt
  obtain ⟨mb, mo, mc, rfl, m1, m2⟩ := hm1.open (by omega)
  have cm := m2 v hv
  have c1 := h1.h1
  have hgv : ∀ W, FW base N F g nv (.slice (some ⟨mb, mo, none⟩) N mc) { s with lk := s.lk + 1 } W → Calls Tryz.prog 80 #[.pointer (some ⟨F, 0, none⟩), .int .i64 v] W fun e w' => e = .returned (.bool (s.goneB v)) ∧ Below W.heap.size W w' := fun W k => fgone_any W k hv (hrt v hv)
  have hgw : ∀ W, FW base N F g nv (.slice (some ⟨mb, mo, none⟩) N mc) { s with lk := s.lk + 1 } W → Calls Tryz.prog 80 #[.pointer (some ⟨F, 0, none⟩), .int .i64 w] W fun e w' => e = .returned (.bool (s.goneB w)) ∧ Below W.heap.size W w' := fun W k => fgone_any W k hw (hrt w hw)
  have HL : Hid (lookB mt s B v w = if mt v = w then 0 else if s.goneB v = true then 0 else if s.goneB w = true then 0 else if s.lab w = 0 then 1 else if s.ou w = true ∧ B v ≠ B w then 2 else 0) := rfl
  generalize lookB mt s B v w = rr at *
  clear h hm h1 hf1 hu hB hrt m2
  by_cases q1 : mt v = (w : Int)
  · rw [if_pos q1] at HL
    have HL0 := HL.out
    subst HL0
    rw [q1] at cm
    go_enter Tryz.func62, Tryz.ntmps62
    go_wp2_with fail
    go_ret
    exact ⟨rfl, _, H1.out.1, HU.out, H1.out.2⟩
  rw [if_neg q1] at HL
  have d1 : ((w : Int) == mt v) = false := by simp; omega
  clear q1
  generalize mt v = mvv at *
  generalize s.goneB v = gv at *
  generalize s.goneB w = gw at *
  have HGV := Lib.hid hgv
  have HGW := Lib.hid hgw
  clear hgv hgw
  cases gv
  case true =>
    have HL0 := HL.out
    rw [if_pos rfl] at HL0
    subst HL0
    go_enter Tryz.func62, Tryz.ntmps62
    go_wp2_with fail
    refine (HGV.out _ H1.out.1).mono ?_
    rintro e w2 ⟨rfl, hb2⟩
    have HF := Lib.hid (And.intro (H1.out.1.later hb2) (H1.out.2.trans (Fr.of hb2)))
    clear hb2
    go_wp2_with fail
    go_ret
    exact ⟨rfl, _, HF.out.1, HU.out, HF.out.2⟩
  rw [if_neg (by decide)] at HL
  cases gw
  case true =>
    have HL0 := HL.out
    rw [if_pos rfl] at HL0
    subst HL0
    go_enter Tryz.func62, Tryz.ntmps62
    go_wp2_with fail
    refine (HGV.out _ H1.out.1).mono ?_
    rintro e w2 ⟨rfl, hb2⟩
    have H2 := Lib.hid (And.intro (H1.out.1.later hb2) (H1.out.2.trans (Fr.of hb2)))
    clear hb2
    go_wp2_with fail
    refine (HGW.out _ H2.out.1).mono ?_
    rintro e w3 ⟨rfl, hb3⟩
    have HF := Lib.hid (And.intro (H2.out.1.later hb3) (H2.out.2.trans (Fr.of hb3)))
    clear hb3
    go_wp2_with fail
    go_ret
    exact ⟨rfl, _, HF.out.1, HU.out, HF.out.2⟩
  rw [if_neg (by decide)] at HL
  go_enter Tryz.func62, Tryz.ntmps62
  go_wp2_with fail
  refine (HGV.out _ H1.out.1).mono ?_
  rintro e w2 ⟨rfl, hb2⟩
  have H2 := Lib.hid (And.intro (H1.out.1.later hb2) (H1.out.2.trans (Fr.of hb2)))
  clear hb2
  go_wp2_with fail
  refine (HGW.out _ H2.out.1).mono ?_
  rintro e w3 ⟨rfl, hb3⟩
  have H3 := Lib.hid (And.intro (H2.out.1.later hb3) (H2.out.2.trans (Fr.of hb3)))
  have c2 := H3.out.1.h2
  have cl := H3.out.1.c_lab hw
  dsimp only at cl
  clear hb3 h15 f15 cm c1 d1
  by_cases q2 : s.lab w = 0
  · rw [if_pos q2] at HL
    have HL0 := HL.out
    subst HL0
    rw [q2] at cl
    clear q2
    go_wp2_with fail
    go_ret
    exact ⟨rfl, _, H3.out.1, HU.out, H3.out.2⟩
  rw [if_neg q2] at HL
  have d2 : (s.lab w == 0) = false := by simpa using q2
  have c3 := H3.out.1.h3
  have co := H3.out.1.c_ou hw
  dsimp only at co
  clear q2
  generalize s.lab w = lw at *
  generalize s.ou w = ow at *
  cases ow
  · have HL0 := HL.out
    rw [if_neg (by simp)] at HL0
    subst HL0
    go_wp2_with fail
    go_ret
    exact ⟨rfl, _, H3.out.1, HU.out, H3.out.2⟩
  · go_wp2_with fail
    refine (fbase_any _ H3.out.1 HU.out hv hN (HB.out v hv)).mono ?_
    rintro e w4 ⟨rfl, up4, a1, a2, a3⟩
    have H4 := Lib.hid (And.intro a1 (And.intro a2 (H3.out.2.trans a3)))
    clear a1 a2 a3
    go_wp2_with fail
    refine (fbase_any _ H4.out.1 H4.out.2.1 hw hN (HB.out w hw)).mono ?_
    rintro e w5 ⟨rfl, up5, a1, a2, a3⟩
    have H5 := Lib.hid (And.intro a1 (And.intro a2 (H4.out.2.2.trans a3)))
    clear a1 a2 a3
    generalize B v = bv at *
    generalize B w = bw at *
    by_cases q3 : bv = bw
    · subst q3
      have HL0 := HL.out
      rw [if_neg (by simp)] at HL0
      subst HL0
      go_wp2_with fail
      go_ret
      exact ⟨rfl, _, H5.out.1, H5.out.2.1, H5.out.2.2⟩
    · have HL0 := HL.out
      rw [if_pos (by simp [q3])] at HL0
      subst HL0
      have d3 : ((bv : Int) == (bw : Int)) = false := by simp; omega
      go_wp2_with fail
      go_ret
      exact ⟨rfl, _, H5.out.1, H5.out.2.1, H5.out.2.2⟩

/-- What Grow leaves. -/
def Fm.grow1 (s : Fm) (v w x : Nat) : Fm := { s with lab := upd s.lab w 2, pd := upd s.pd w v, rt := upd (upd s.rt w (s.rt v)) x (s.rt v), od := upd s.od w (IntKind.i64.wrap (s.ev v + 1)) }

set_option maxHeartbeats 16000000 in
set_option maxRecDepth 100000 in
theorem fgrow_any (w0 : World) (h : FW base N F g nv mv s w0) (hbs : base ≤ w0.heap.size) (hm : MR base N mv mt w0) {v w x : Nat} (hv : v < N) (hw : w < N) (hx : x < N) (e1 : mt w = (x : Int)) (hvw : v ≠ w) (hvx : v ≠ x) (hq : s.wl.length ≤ 1000000) :
    Calls Tryz.prog 63 #[.pointer (some ⟨F, 0, none⟩), .int .i64 v, .int .i64 w] w0 fun e w' => e = .returned (.tuple #[]) ∧ ∃ v1, FW base N F g nv mv ((s.grow1 v w x).raise x (wrap64 (s.ev v + 2)) 1 v1) w' ∧ Fr F g s.wv w0 v1 w' := by
  have hvi : (0 : Int) ≤ (v : Int) ∧ (v : Int) < (N : Int) := by omega
  have hwi : (0 : Int) ≤ (w : Int) ∧ (w : Int) < (N : Int) := by omega
  have hxi : (0 : Int) ≤ (x : Int) ∧ (x : Int) < (N : Int) := by omega
  have h1 := h.put_lab w 2
  have h2 := h1.put_pd w v
  have h3 := h2.put_rt w (s.rt v)
  have h4 := h3.put_od w (IntKind.i64.wrap (s.ev v + 1))
  have hf4 : Fr F g s.wv w0 s.wv ((((w0.setCell ⟨g 2, w, none⟩ (.int .i64 2)).setCell ⟨g 6, w, none⟩ (.int .i64 v)).setCell ⟨g 7, w, none⟩ (.int .i64 (s.rt v))).setCell ⟨g 5, w, none⟩ (.int .i64 (IntKind.i64.wrap (s.ev v + 1)))) := (((Fr.set (.inr ⟨2, by decide, by decide, rfl⟩)).trans (Fr.set (.inr ⟨6, by decide, by decide, rfl⟩))).trans (Fr.set (.inr ⟨7, by decide, by decide, rfl⟩))).trans (Fr.set (.inr ⟨5, by decide, by decide, rfl⟩))
  have k0 := h.c_lab hw
  have f0 := h.lab.froz w
  have g0 := h.lab.froz w
  have k1 := h1.c_pd hw
  have f1 := h1.pd.froz w
  have g1 := h.pd.froz w
  have k2 := h2.c_rt hw
  have f2 := h2.rt.froz w
  have g2 := h.rt.froz w
  have k3 := h3.c_od hw
  have f3 := h3.od.froz w
  have g3 := h.od.froz w
  dsimp only at k1 k2 k3
  have S0 : Hid (w0.drew.cell? ⟨F, 2, none⟩ = some (.slice (some ⟨g 2, 0, none⟩) N N) ∧ w0.drew.cell? ⟨F, 4, none⟩ = some (.slice (some ⟨g 4, 0, none⟩) N N) ∧ w0.drew.cell? ⟨F, 5, none⟩ = some (.slice (some ⟨g 5, 0, none⟩) N N) ∧ w0.drew.cell? ⟨F, 6, none⟩ = some (.slice (some ⟨g 6, 0, none⟩) N N) ∧ w0.drew.cell? ⟨F, 7, none⟩ = some (.slice (some ⟨g 7, 0, none⟩) N N) ∧ w0.drew.cell? ⟨g 7, v, none⟩ = some (.int .i64 (s.rt v)) ∧ w0.drew.cell? ⟨g 4, v, none⟩ = some (.int .i64 (s.ev v))) := ⟨h.h2, h.h4, h.h5, h.h6, h.h7, h.c_rt hv, h.c_ev hv⟩
  have S1 : Hid ((w0.setCell ⟨g 2, w, none⟩ (.int .i64 2)).drew.cell? ⟨F, 2, none⟩ = some (.slice (some ⟨g 2, 0, none⟩) N N) ∧ (w0.setCell ⟨g 2, w, none⟩ (.int .i64 2)).drew.cell? ⟨F, 4, none⟩ = some (.slice (some ⟨g 4, 0, none⟩) N N) ∧ (w0.setCell ⟨g 2, w, none⟩ (.int .i64 2)).drew.cell? ⟨F, 5, none⟩ = some (.slice (some ⟨g 5, 0, none⟩) N N) ∧ (w0.setCell ⟨g 2, w, none⟩ (.int .i64 2)).drew.cell? ⟨F, 6, none⟩ = some (.slice (some ⟨g 6, 0, none⟩) N N) ∧ (w0.setCell ⟨g 2, w, none⟩ (.int .i64 2)).drew.cell? ⟨F, 7, none⟩ = some (.slice (some ⟨g 7, 0, none⟩) N N) ∧ (w0.setCell ⟨g 2, w, none⟩ (.int .i64 2)).drew.cell? ⟨g 7, v, none⟩ = some (.int .i64 (s.rt v)) ∧ (w0.setCell ⟨g 2, w, none⟩ (.int .i64 2)).drew.cell? ⟨g 4, v, none⟩ = some (.int .i64 (s.ev v))) := ⟨h1.h2, h1.h4, h1.h5, h1.h6, h1.h7, h1.c_rt hv, h1.c_ev hv⟩
  have S2 : Hid (((w0.setCell ⟨g 2, w, none⟩ (.int .i64 2)).setCell ⟨g 6, w, none⟩ (.int .i64 v)).drew.cell? ⟨F, 2, none⟩ = some (.slice (some ⟨g 2, 0, none⟩) N N) ∧ ((w0.setCell ⟨g 2, w, none⟩ (.int .i64 2)).setCell ⟨g 6, w, none⟩ (.int .i64 v)).drew.cell? ⟨F, 4, none⟩ = some (.slice (some ⟨g 4, 0, none⟩) N N) ∧ ((w0.setCell ⟨g 2, w, none⟩ (.int .i64 2)).setCell ⟨g 6, w, none⟩ (.int .i64 v)).drew.cell? ⟨F, 5, none⟩ = some (.slice (some ⟨g 5, 0, none⟩) N N) ∧ ((w0.setCell ⟨g 2, w, none⟩ (.int .i64 2)).setCell ⟨g 6, w, none⟩ (.int .i64 v)).drew.cell? ⟨F, 6, none⟩ = some (.slice (some ⟨g 6, 0, none⟩) N N) ∧ ((w0.setCell ⟨g 2, w, none⟩ (.int .i64 2)).setCell ⟨g 6, w, none⟩ (.int .i64 v)).drew.cell? ⟨F, 7, none⟩ = some (.slice (some ⟨g 7, 0, none⟩) N N) ∧ ((w0.setCell ⟨g 2, w, none⟩ (.int .i64 2)).setCell ⟨g 6, w, none⟩ (.int .i64 v)).drew.cell? ⟨g 7, v, none⟩ = some (.int .i64 (s.rt v)) ∧ ((w0.setCell ⟨g 2, w, none⟩ (.int .i64 2)).setCell ⟨g 6, w, none⟩ (.int .i64 v)).drew.cell? ⟨g 4, v, none⟩ = some (.int .i64 (s.ev v))) := ⟨h2.h2, h2.h4, h2.h5, h2.h6, h2.h7, h2.c_rt hv, h2.c_ev hv⟩
  have S3 : Hid ((((w0.setCell ⟨g 2, w, none⟩ (.int .i64 2)).setCell ⟨g 6, w, none⟩ (.int .i64 v)).setCell ⟨g 7, w, none⟩ (.int .i64 (s.rt v))).drew.cell? ⟨F, 2, none⟩ = some (.slice (some ⟨g 2, 0, none⟩) N N) ∧ (((w0.setCell ⟨g 2, w, none⟩ (.int .i64 2)).setCell ⟨g 6, w, none⟩ (.int .i64 v)).setCell ⟨g 7, w, none⟩ (.int .i64 (s.rt v))).drew.cell? ⟨F, 4, none⟩ = some (.slice (some ⟨g 4, 0, none⟩) N N) ∧ (((w0.setCell ⟨g 2, w, none⟩ (.int .i64 2)).setCell ⟨g 6, w, none⟩ (.int .i64 v)).setCell ⟨g 7, w, none⟩ (.int .i64 (s.rt v))).drew.cell? ⟨F, 5, none⟩ = some (.slice (some ⟨g 5, 0, none⟩) N N) ∧ (((w0.setCell ⟨g 2, w, none⟩ (.int .i64 2)).setCell ⟨g 6, w, none⟩ (.int .i64 v)).setCell ⟨g 7, w, none⟩ (.int .i64 (s.rt v))).drew.cell? ⟨F, 6, none⟩ = some (.slice (some ⟨g 6, 0, none⟩) N N) ∧ (((w0.setCell ⟨g 2, w, none⟩ (.int .i64 2)).setCell ⟨g 6, w, none⟩ (.int .i64 v)).setCell ⟨g 7, w, none⟩ (.int .i64 (s.rt v))).drew.cell? ⟨F, 7, none⟩ = some (.slice (some ⟨g 7, 0, none⟩) N N) ∧ (((w0.setCell ⟨g 2, w, none⟩ (.int .i64 2)).setCell ⟨g 6, w, none⟩ (.int .i64 v)).setCell ⟨g 7, w, none⟩ (.int .i64 (s.rt v))).drew.cell? ⟨g 7, v, none⟩ = some (.int .i64 (s.rt v)) ∧ (((w0.setCell ⟨g 2, w, none⟩ (.int .i64 2)).setCell ⟨g 6, w, none⟩ (.int .i64 v)).setCell ⟨g 7, w, none⟩ (.int .i64 (s.rt v))).drew.cell? ⟨g 4, v, none⟩ = some (.int .i64 (s.ev v))) := ⟨h3.h2, h3.h4, h3.h5, h3.h6, h3.h7, (h3.c_rt hv).trans (by simp only [upd_ne _ _ hvw]), h3.c_ev hv⟩
  have S4 : Hid (((((w0.setCell ⟨g 2, w, none⟩ (.int .i64 2)).setCell ⟨g 6, w, none⟩ (.int .i64 v)).setCell ⟨g 7, w, none⟩ (.int .i64 (s.rt v))).setCell ⟨g 5, w, none⟩ (.int .i64 (IntKind.i64.wrap (s.ev v + 1)))).drew.cell? ⟨F, 2, none⟩ = some (.slice (some ⟨g 2, 0, none⟩) N N) ∧ ((((w0.setCell ⟨g 2, w, none⟩ (.int .i64 2)).setCell ⟨g 6, w, none⟩ (.int .i64 v)).setCell ⟨g 7, w, none⟩ (.int .i64 (s.rt v))).setCell ⟨g 5, w, none⟩ (.int .i64 (IntKind.i64.wrap (s.ev v + 1)))).drew.cell? ⟨F, 4, none⟩ = some (.slice (some ⟨g 4, 0, none⟩) N N) ∧ ((((w0.setCell ⟨g 2, w, none⟩ (.int .i64 2)).setCell ⟨g 6, w, none⟩ (.int .i64 v)).setCell ⟨g 7, w, none⟩ (.int .i64 (s.rt v))).setCell ⟨g 5, w, none⟩ (.int .i64 (IntKind.i64.wrap (s.ev v + 1)))).drew.cell? ⟨F, 5, none⟩ = some (.slice (some ⟨g 5, 0, none⟩) N N) ∧ ((((w0.setCell ⟨g 2, w, none⟩ (.int .i64 2)).setCell ⟨g 6, w, none⟩ (.int .i64 v)).setCell ⟨g 7, w, none⟩ (.int .i64 (s.rt v))).setCell ⟨g 5, w, none⟩ (.int .i64 (IntKind.i64.wrap (s.ev v + 1)))).drew.cell? ⟨F, 6, none⟩ = some (.slice (some ⟨g 6, 0, none⟩) N N) ∧ ((((w0.setCell ⟨g 2, w, none⟩ (.int .i64 2)).setCell ⟨g 6, w, none⟩ (.int .i64 v)).setCell ⟨g 7, w, none⟩ (.int .i64 (s.rt v))).setCell ⟨g 5, w, none⟩ (.int .i64 (IntKind.i64.wrap (s.ev v + 1)))).drew.cell? ⟨F, 7, none⟩ = some (.slice (some ⟨g 7, 0, none⟩) N N) ∧ ((((w0.setCell ⟨g 2, w, none⟩ (.int .i64 2)).setCell ⟨g 6, w, none⟩ (.int .i64 v)).setCell ⟨g 7, w, none⟩ (.int .i64 (s.rt v))).setCell ⟨g 5, w, none⟩ (.int .i64 (IntKind.i64.wrap (s.ev v + 1)))).drew.cell? ⟨g 7, v, none⟩ = some (.int .i64 (s.rt v)) ∧ ((((w0.setCell ⟨g 2, w, none⟩ (.int .i64 2)).setCell ⟨g 6, w, none⟩ (.int .i64 v)).setCell ⟨g 7, w, none⟩ (.int .i64 (s.rt v))).setCell ⟨g 5, w, none⟩ (.int .i64 (IntKind.i64.wrap (s.ev v + 1)))).drew.cell? ⟨g 4, v, none⟩ = some (.int .i64 (s.ev v))) := ⟨h4.h2, h4.h4, h4.h5, h4.h6, h4.h7, (h4.c_rt hv).trans (by simp only [upd_ne _ _ hvw]), h4.c_ev hv⟩
  have HW : Hid (FW base N F g nv mv { s with lab := upd s.lab w 2, pd := upd s.pd w v, rt := upd s.rt w (s.rt v), od := upd s.od w (IntKind.i64.wrap (s.ev v + 1)) } ((((w0.setCell ⟨g 2, w, none⟩ (.int .i64 2)).setCell ⟨g 6, w, none⟩ (.int .i64 v)).setCell ⟨g 7, w, none⟩ (.int .i64 (s.rt v))).setCell ⟨g 5, w, none⟩ (.int .i64 (IntKind.i64.wrap (s.ev v + 1)))).drew ∧ Fr F g s.wv w0 s.wv ((((w0.setCell ⟨g 2, w, none⟩ (.int .i64 2)).setCell ⟨g 6, w, none⟩ (.int .i64 v)).setCell ⟨g 7, w, none⟩ (.int .i64 (s.rt v))).setCell ⟨g 5, w, none⟩ (.int .i64 (IntKind.i64.wrap (s.ev v + 1)))).drew) := ⟨h4.later (RW.refl _).drew, hf4.trans (Fr.of (RW.refl _).drew)⟩
  have HM := Lib.hid (hm.below (HW.out.2.below h hbs))
  have HBS : Hid (base ≤ ((((w0.setCell ⟨g 2, w, none⟩ (.int .i64 2)).setCell ⟨g 6, w, none⟩ (.int .i64 v)).setCell ⟨g 7, w, none⟩ (.int .i64 (s.rt v))).setCell ⟨g 5, w, none⟩ (.int .i64 (IntKind.i64.wrap (s.ev v + 1)))).drew.heap.size) := by have := HW.out.2.size; unfold Hid; omega
  have HQ := Lib.hid hq
  clear h h1 h2 h3 h4 hf4 hm hbs hq
  go_enter Tryz.func63, Tryz.ntmps63
  go_wp2_with fail
  go_region_held3 (fun w' => w'.cell? ⟨F, 2, none⟩ = some (.slice (some ⟨g 2, 0, none⟩) N N) ∧ w'.cell? ⟨F, 4, none⟩ = some (.slice (some ⟨g 4, 0, none⟩) N N) ∧ w'.cell? ⟨F, 5, none⟩ = some (.slice (some ⟨g 5, 0, none⟩) N N) ∧ w'.cell? ⟨F, 6, none⟩ = some (.slice (some ⟨g 6, 0, none⟩) N N) ∧ w'.cell? ⟨F, 7, none⟩ = some (.slice (some ⟨g 7, 0, none⟩) N N) ∧ w'.cell? ⟨g 7, v, none⟩ = some (.int .i64 (s.rt v)) ∧ w'.cell? ⟨g 4, v, none⟩ = some (.int .i64 (s.ev v)))
    (first | assumption | exact S0.out | exact S1.out | exact S2.out | exact S3.out | exact S4.out | fail) (fail)
  clear S0 S1 S2 S3 S4 k0 k1 k2 k3 f0 f1 f2 f3 g0 g1 g2 g3
  generalize ((((w0.setCell ⟨g 2, w, none⟩ (.int .i64 2)).setCell ⟨g 6, w, none⟩ (.int .i64 v)).setCell ⟨g 7, w, none⟩ (.int .i64 (s.rt v))).setCell ⟨g 5, w, none⟩ (.int .i64 (IntKind.i64.wrap (s.ev v + 1)))).drew = w5 at *
  obtain ⟨mb, mo, mc, rfl, m1, m2⟩ := HM.out.open (by omega)
  have cm := m2 w hw
  rw [e1] at cm
  have c1 := HW.out.1.h1
  have c7 := HW.out.1.h7
  have h6 := HW.out.1.put_rt x (s.rt v)
  have crv : w5.cell? ⟨g 7, v, none⟩ = some (.int .i64 (s.rt v)) := (HW.out.1.c_rt hv).trans (by simp only [upd_ne _ _ hvw])
  have crx := HW.out.1.c_rt hx
  have frx := HW.out.1.rt.froz x
  dsimp only at crx
  have T0 : Hid (w5.drew.cell? ⟨F, 7, none⟩ = some (.slice (some ⟨g 7, 0, none⟩) N N) ∧ w5.drew.cell? ⟨g 7, v, none⟩ = some (.int .i64 (s.rt v))) := ⟨c7, crv⟩
  have T1 : Hid ((w5.setCell ⟨g 7, x, none⟩ (.int .i64 (s.rt v))).drew.cell? ⟨F, 7, none⟩ = some (.slice (some ⟨g 7, 0, none⟩) N N) ∧ (w5.setCell ⟨g 7, x, none⟩ (.int .i64 (s.rt v))).drew.cell? ⟨g 7, v, none⟩ = some (.int .i64 (s.rt v))) := ⟨h6.h7, (h6.c_rt hv).trans (by simp only [upd_ne _ _ hvx, upd_ne _ _ hvw])⟩
  have H6 : Hid (FW base N F g nv (.slice (some ⟨mb, mo, none⟩) N mc) (s.grow1 v w x) (w5.setCell ⟨g 7, x, none⟩ (.int .i64 (s.rt v))).drew ∧ Fr F g s.wv w0 s.wv (w5.setCell ⟨g 7, x, none⟩ (.int .i64 (s.rt v))).drew) := ⟨h6.later (RW.refl _).drew, (HW.out.2.trans (Fr.set (.inr ⟨7, by decide, by decide, rfl⟩))).trans (Fr.of (RW.refl _).drew)⟩
  have HB6 : Hid (base ≤ (w5.setCell ⟨g 7, x, none⟩ (.int .i64 (s.rt v))).drew.heap.size) := by have := HBS.out; simpa [Hid, World.setCell] using this
  clear h6 m2
  go_wp2_with fail
  go_region_held3 (fun w' => w'.cell? ⟨F, 7, none⟩ = some (.slice (some ⟨g 7, 0, none⟩) N N) ∧ w'.cell? ⟨g 7, v, none⟩ = some (.int .i64 (s.rt v)))
    (first | assumption | exact T0.out | exact T1.out | fail) (fail)
  clear T0 T1 crv crx frx cm c1 c7
  generalize (w5.setCell ⟨g 7, x, none⟩ (.int .i64 (s.rt v))).drew = w6 at *
  have c4 := H6.out.1.h4
  have cev : w6.cell? ⟨g 4, v, none⟩ = some (.int .i64 (s.ev v)) := H6.out.1.c_ev hv
  have hra := fun y => fraise_any (x := y) (l := 1) w6 H6.out.1 HB6.out hx HQ.out
  go_wp2_with fail
  refine (hra _).mono ?_
  rintro e w7 ⟨rfl, v1, a1, a2⟩
  have H7 := Lib.hid (And.intro a1 (H6.out.2.trans a2))
  clear a1 a2 hra c4 cev
  go_wp2_with fail
  go_end0
  exact ⟨rfl, v1, H7.out.1, H7.out.2⟩
end
end

end Go.Proofs.YtbnipgajhpbolaaGreatDoor
