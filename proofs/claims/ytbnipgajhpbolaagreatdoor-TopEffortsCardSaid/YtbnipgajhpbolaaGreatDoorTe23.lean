/- The walk of forest.Join, where it finds a path; of Labels; A matching behind a search without a path is a largest one, plainly; A path that augments is turned, plainly -/
import Derived.Test.YtbnipgajhpbolaaGreatDoorTe21
import Derived.Test.YtbnipgajhpbolaaGreatDoorTe09
set_option linter.unusedVariables false
set_option linter.unusedSimpArgs false
namespace Go.Proofs.YtbnipgajhpbolaaGreatDoor

section
open Go.RowKit
section
variable {base N F : Nat} {g : Nat → Nat} {nv mv : Value} {s : Fm} {B : Nat → Nat} {mt : Nat → Int} {J : Nat → Nat → Prop}
set_option maxHeartbeats 16000000 in
set_option maxRecDepth 100000 in
theorem fpath_any (w0 : World) (h : FW base N F g nv mv s w0) (hi : FoI N J mt (s.fo B)) (hbs : base ≤ w0.heap.size) (hm : MR base N mv mt w0) (hmt : MtOk N J mt) {v w r u : Nat} {q q' : List Int} (hv : v < N) (hw : w < N) (hr : r < N) (hu : u < N) (e1 : s.rt v = (r : Int)) (e2 : s.rt w = (u : Int)) (hne : r ≠ u) (hq : Vis mt (s.fo B) v r q) (hq' : Vis mt (s.fo B) w u q') (hl : q.length ≤ 100000 ∧ q'.length ≤ 100000) :
    Calls Tryz.prog 64 #[.pointer (some ⟨F, 0, none⟩), .int .i64 v, .int .i64 w] w0 fun e w' => ∃ GA CA n, e = .returned (.slice (some ⟨GA, 0, none⟩) n CA) ∧ n = q.length + q'.length + 2 ∧ OwnI w' w0.heap.size (.slice (some ⟨GA, 0, none⟩) n CA) ((q ++ [(r : Int)]).reverse ++ (q' ++ [(u : Int)])) ∧ FW base N F g nv mv { s with gn := upd (upd s.gn r true) u true } w' ∧ Fr F g s.wv w0 s.wv w' := by
  have hvi : (0 : Int) ≤ (v : Int) ∧ (v : Int) < (N : Int) := by omega
  have hwi : (0 : Int) ≤ (w : Int) ∧ (w : Int) < (N : Int) := by omega
  have hri : (0 : Int) ≤ (r : Int) ∧ (r : Int) < (N : Int) := by omega
  have hui : (0 : Int) ≤ (u : Int) ∧ (u : Int) < (N : Int) := by omega
  have hrub : ((r : Int) == (u : Int)) = false := by simp; omega
  have c7 := h.h7
  have cv := h.c_rt hv
  have cw := h.c_rt hw
  rw [e1] at cv
  rw [e2] at cw
  have H0 := Lib.hid (And.intro h (And.intro hbs hm))
  have HE := Lib.hid (And.intro e1 e2)
  have HQ := Lib.hid (And.intro hq (And.intro hq' hl))
  have HWY : Hid (∀ (a c : Nat) (p : List Int) (W : World), p.length ≤ 1000000 → a < N → Vis mt (s.fo B) a c p → RW w0 W → Calls Tryz.prog 82 #[.pointer (some ⟨F, 0, none⟩), .int .i64 a, .int .i64 c] W fun e w' => ∃ val, e = .returned val ∧ OwnI w' W.heap.size val (p ++ [(c : Int)]) ∧ Below W.heap.size W w') :=
    fun a c p W k1 k2 k3 k4 => fway_any hmt hi _ W rfl k1 k2 k3 (h.later k4) (Nat.le_trans hbs k4.size) (hm.below (Below.mono k4 hbs))
  clear h hi hbs hm hmt e1 e2 hq hq' hl
  go_enter Tryz.func64, Tryz.ntmps64
  go_wp2_with fail
  go_quiet (fail)
  rename_i nq
  have HR1 : Hid (RW w0 (w0.drewN nq)) := ((Drawn.refl w0).step nq).below _
  have H1 := Lib.hid (H0.out.1.later HR1.out)
  clear c7 cv cw
  generalize w0.drewN nq = w1 at *
  have c7 := H1.out.h7
  have cv := H1.out.c_rt hv
  rw [HE.out.1] at cv
  go_wp2_with fail
  refine (HWY.out v r q w1 (by have := HQ.out.2.2; omega) hv HQ.out.1 HR1.out).mono ?_
  rintro e w2 ⟨val, rfl, own2, hb2⟩
  obtain ⟨GB, CB, rfl, hgb, -, -⟩ := own_slice own2 (by simp)
  have hl1 : (q ++ [(r : Int)]).length = q.length + 1 := by simp
  rw [hl1] at own2 ⊢
  have HO2 := Lib.hid (And.intro own2 (And.intro hb2 hgb))
  clear own2 hb2 hgb c7 cv
  go_wp2_with fail
  refine (turned_any2 (c := CB) w2 HO2.out.1 (by have := HQ.out.2.2; omega)).mono ?_
  rintro e w3 ⟨own3, gr3, rfl⟩
  have HR3 : Hid (RW w1 w3) := RW.grown HO2.out.2.1 gr3 (by intro k hk; injection hk with hk; have := HO2.out.2.2; omega)
  have HO3 := Lib.hid own3
  have H3 := Lib.hid (H1.out.later HR3.out)
  clear own3 gr3
  have c7 := H3.out.h7
  have cw := H3.out.c_rt hw
  rw [HE.out.2] at cw
  go_wp2_with fail
  refine (HWY.out w u q' w3 (by have := HQ.out.2.2; omega) hw HQ.out.2.1 (RW.later HR1.out HR3.out)).mono ?_
  rintro e w4 ⟨val, rfl, own4, hb4⟩
  obtain ⟨A4, c4, rfl, -, -, rd4⟩ := OwnI.read own4
  have HR4 : Hid (RW w1 w4) := RW.later HR3.out hb4
  have HO4 := Lib.hid (own_later HO3.out hb4)
  have HRD4 := Lib.hid rd4
  have hl2 : (q' ++ [(u : Int)]).length = q'.length + 1 := by simp
  rw [hl2] at rd4 HRD4 ⊢
  clear own4 hb4 rd4 c7 cw
  go_wp2_with (at_builtin; refine list_appI w1.heap.size rfl _ _ rfl (.slice (some ⟨GB, 0, none⟩) (q.length + 1) CB) (q ++ [(r : Int)]).reverse (q' ++ [(u : Int)]) rfl HO4.out HR4.out.size A4 (q'.length + 1) c4 rfl HRD4.out (by have := HQ.out.2.2; simp; omega) ?_; intro v5 w5 own5 gr5 h5; have HO5 := Lib.hid own5; have HR5 : Hid (RW w1 w5) := RW.grown HR4.out gr5 (row_base HO4.out))
  obtain ⟨GA, CA, rfl, hga, hga2, -⟩ := own_slice HO5.out (by simp)
  have hl5 : ((q ++ [(r : Int)]).reverse ++ (q' ++ [(u : Int)])).length = q.length + q'.length + 2 := by simp; omega
  rw [hl5] at HO5 ⊢
  have H5 := Lib.hid (H1.out.later HR5.out)
  have hp1 := H5.out.put_gn r true
  have hp2 := hp1.put_gn u true
  have c9 := H5.out.h9
  have c7 := H5.out.h7
  have cv : w5.cell? ⟨g 7, v, none⟩ = some (.int .i64 r) := (H5.out.c_rt hv).trans (by rw [HE.out.1])
  have cw : w5.cell? ⟨g 7, w, none⟩ = some (.int .i64 u) := (H5.out.c_rt hw).trans (by rw [HE.out.2])
  have k1 := H5.out.c_gn hr
  have f1 := H5.out.gn.froz r
  have k2 := hp1.c_gn hu
  have f2 := H5.out.gn.froz u
  have f3 := hp1.gn.froz u
  dsimp only at k2
  have S0 : Hid (w5.drew.cell? ⟨F, 9, none⟩ = some (.slice (some ⟨g 9, 0, none⟩) N N) ∧ w5.drew.cell? ⟨F, 7, none⟩ = some (.slice (some ⟨g 7, 0, none⟩) N N) ∧ w5.drew.cell? ⟨g 7, v, none⟩ = some (.int .i64 r) ∧ w5.drew.cell? ⟨g 7, w, none⟩ = some (.int .i64 u)) := ⟨c9, c7, cv, cw⟩
  have S1 : Hid ((w5.setCell ⟨g 9, r, none⟩ (.bool true)).drew.cell? ⟨F, 9, none⟩ = some (.slice (some ⟨g 9, 0, none⟩) N N) ∧ (w5.setCell ⟨g 9, r, none⟩ (.bool true)).drew.cell? ⟨F, 7, none⟩ = some (.slice (some ⟨g 7, 0, none⟩) N N) ∧ (w5.setCell ⟨g 9, r, none⟩ (.bool true)).drew.cell? ⟨g 7, v, none⟩ = some (.int .i64 r) ∧ (w5.setCell ⟨g 9, r, none⟩ (.bool true)).drew.cell? ⟨g 7, w, none⟩ = some (.int .i64 u)) := ⟨hp1.h9, hp1.h7, (hp1.c_rt hv).trans (by rw [HE.out.1]), (hp1.c_rt hw).trans (by rw [HE.out.2])⟩
  have S2 : Hid (((w5.setCell ⟨g 9, r, none⟩ (.bool true)).setCell ⟨g 9, u, none⟩ (.bool true)).drew.cell? ⟨F, 9, none⟩ = some (.slice (some ⟨g 9, 0, none⟩) N N) ∧ ((w5.setCell ⟨g 9, r, none⟩ (.bool true)).setCell ⟨g 9, u, none⟩ (.bool true)).drew.cell? ⟨F, 7, none⟩ = some (.slice (some ⟨g 7, 0, none⟩) N N) ∧ ((w5.setCell ⟨g 9, r, none⟩ (.bool true)).setCell ⟨g 9, u, none⟩ (.bool true)).drew.cell? ⟨g 7, v, none⟩ = some (.int .i64 r) ∧ ((w5.setCell ⟨g 9, r, none⟩ (.bool true)).setCell ⟨g 9, u, none⟩ (.bool true)).drew.cell? ⟨g 7, w, none⟩ = some (.int .i64 u)) := ⟨hp2.h9, hp2.h7, (hp2.c_rt hv).trans (by rw [HE.out.1]), (hp2.c_rt hw).trans (by rw [HE.out.2])⟩
  have hg9 : g 9 < w1.heap.size := H1.out.gn.lt
  have HEND : Hid (OwnI ((w5.setCell ⟨g 9, r, none⟩ (.bool true)).setCell ⟨g 9, u, none⟩ (.bool true)).drew w0.heap.size (.slice (some ⟨GA, 0, none⟩) (q.length + q'.length + 2) CA) ((q ++ [(r : Int)]).reverse ++ (q' ++ [(u : Int)])) ∧ FW base N F g nv mv { s with gn := upd (upd s.gn r true) u true } ((w5.setCell ⟨g 9, r, none⟩ (.bool true)).setCell ⟨g 9, u, none⟩ (.bool true)).drew ∧ Fr F g s.wv w0 s.wv ((w5.setCell ⟨g 9, r, none⟩ (.bool true)).setCell ⟨g 9, u, none⟩ (.bool true)).drew) := by
    refine ⟨own_later (own_setCell (own_setCell (row_weaken HO5.out HR1.out.size) ?_) ?_) (RW.refl _).drew, hp2.later (RW.refl _).drew, (((Fr.of (RW.later HR1.out HR5.out)).trans (Fr.set (.inr ⟨9, by decide, by decide, rfl⟩))).trans (Fr.set (.inr ⟨9, by decide, by decide, rfl⟩))).trans (Fr.of (RW.refl _).drew)⟩
    · intro e; have h2 : GA = g 9 := Option.some.inj e; omega
    · intro e; have h2 : GA = g 9 := Option.some.inj e; omega
  clear hp1 hp2 hg9
  go_wp2_with fail
  go_region_held3 (fun w' => w'.cell? ⟨F, 9, none⟩ = some (.slice (some ⟨g 9, 0, none⟩) N N) ∧ w'.cell? ⟨F, 7, none⟩ = some (.slice (some ⟨g 7, 0, none⟩) N N) ∧ w'.cell? ⟨g 7, v, none⟩ = some (.int .i64 r) ∧ w'.cell? ⟨g 7, w, none⟩ = some (.int .i64 u))
    (first | assumption | exact S0.out | exact S1.out | exact S2.out | fail) (fail)
  go_wp2_with fail
  go_ret
  exact ⟨_, _, _, rfl, rfl, HEND.out⟩
end
end

section
open Go.RowKit
theorem pigeon {R : Int → Int → Prop} : ∀ {L L' : List Int}, L.Nodup → (∀ x ∈ L, ∃ y ∈ L', R x y) → (∀ x ∈ L, ∀ x' ∈ L, ∀ y, R x y → R x' y → x = x') → L.length ≤ L'.length
  | [], L', _, _, _ => Nat.zero_le _
  | x :: L, L', hn, hx, hi => by
    rw [List.nodup_cons] at hn
    obtain ⟨y, hy, hr⟩ := hx x (by simp)
    have := pigeon (L := L) (L' := L'.erase y) hn.2 (fun x' hx' => by
      obtain ⟨y', hy', hr'⟩ := hx x' (by simp [hx'])
      refine ⟨y', (List.mem_erase_of_ne fun e => ?_).2 hy', hr'⟩
      subst e
      have := hi x (by simp) x' (by simp [hx']) y' hr hr'
      subst this
      exact hn.1 hx') (fun a ha b hb y h1 h2 => hi a (by simp [ha]) b (by simp [hb]) y h1 h2)
    rw [List.length_erase_of_mem hy] at this
    have := List.length_pos_of_mem hy
    simp only [List.length_cons]
    omega

section
variable {N : Nat} {es : List Ed}
/-- A matching within a set. -/
def restM (N : Nat) (C : Nat → Bool) (ms : List Int) : List Int := (List.range N).map fun v => if C v && (decide (0 ≤ gi ms v) && C (gi ms v).toNat) then gi ms v else -1
theorem gi_restM {C : Nat → Bool} {ms : List Int} {v : Nat} (hv : v < N) : gi (restM N C ms) v = if C v && (decide (0 ≤ gi ms v) && C (gi ms v).toNat) then gi ms v else -1 := by
  simp [restM, gi, List.getD_eq_getElem?_getD, hv]
theorem restM_match {C : Nat → Bool} {ms : List Int} (h : MatchN N es ms) : MatchN N es (restM N C ms) := by
  refine ⟨by simp [restM], fun v hv => ?_⟩
  rw [gi_restM hv]
  by_cases q : (C v && (decide (0 ≤ gi ms v) && C (gi ms v).toNat)) = true
  · rw [if_pos q]
    simp only [Bool.and_eq_true, decide_eq_true_eq] at q
    rcases h.2 v hv with k | ⟨w, k1, k2, k3, k4⟩
    · omega
    · refine .inr ⟨w, k1, k2, k3, ?_⟩
      rw [gi_restM k1, if_pos, k4]
      rw [k2, Int.toNat_natCast] at q
      rw [k4, Int.toNat_natCast]
      simp only [Bool.and_eq_true, decide_eq_true_eq]
      exact ⟨q.2.2, by omega, q.1⟩
  · rw [if_neg q]
    exact .inl rfl
/-- How many of a set are matched within it: an even number. -/
theorem rest_even (hr : Rise N es) {C : Nat → Bool} {ms : List Int} (h : MatchN N es ms) : (sel (fun v => C v && (decide (0 ≤ gi ms v) && C (gi ms v).toNat)) N).length % 2 = 0 := by
  have h1 := match_count hr (restM_match (C := C) h)
  have h2 := sel_both (fun v => C v && (decide (0 ≤ gi ms v) && C (gi ms v).toNat)) N
  have h3 : sel (freeB (restM N C ms)) N = sel (fun v => !(C v && (decide (0 ≤ gi ms v) && C (gi ms v).toNat))) N := sel_congr fun v hv => by
    unfold freeB
    rw [gi_restM hv]
    cases q : (C v && (decide (0 ≤ gi ms v) && C (gi ms v).toNat))
    · simp
    · simp only [Bool.and_eq_true, decide_eq_true_eq] at q
      simp
      omega
  rw [h3] at h1
  omega
/-- Of a set that a matching leaves one of, another matching leaves some. -/
theorem class_odd (hr : Rise N es) {C : Nat → Bool} {ms ms' : List Int} {b : Nat} (h : MatchN N es ms) (h' : MatchN N es ms') (hb : b < N) (cb : C b = true) (ho : ∀ w : Nat, gi ms b = w → C w = false) (hc : ∀ v, v < N → C v = true → v ≠ b → ∃ w : Nat, gi ms v = w ∧ C w = true) :
    ∃ v, v < N ∧ C v = true ∧ ∀ w : Nat, gi ms' v = w → C w = false := by
  refine Classical.byContradiction fun hn => ?_
  have hall : ∀ v, v < N → C v = true → ∃ w : Nat, gi ms' v = w ∧ C w = true := fun v hv cv => Classical.byContradiction fun q => hn ⟨v, hv, cv, fun w e => by
    cases k : C w
    · rfl
    · exact absurd ⟨w, e, k⟩ q⟩
  have e1 := rest_even hr (C := C) h
  have e2 := rest_even hr (C := C) h'
  have s2 : sel (fun v => C v && (decide (0 ≤ gi ms' v) && C (gi ms' v).toNat)) N = sel C N := sel_congr fun v hv => by
    cases q : C v
    · rfl
    · obtain ⟨w, k1, k2⟩ := hall v hv q
      rw [k1, Int.toNat_natCast, k2]
      simp
  have s1 := sel_or C (fun v => v == b) (fun v => C v && !(v == b)) (fun v => by
    by_cases q : v = b
    · subst q; simp [cb]
    · have : (v == b) = false := beq_eq_false_iff_ne.2 q
      rw [this]; simp) (fun v a => by rw [show (v == b) = true from a]; simp) N
  rw [sel_one, if_pos hb] at s1
  have s3 : sel (fun v => C v && (decide (0 ≤ gi ms v) && C (gi ms v).toNat)) N = sel (fun v => C v && !(v == b)) N := sel_congr fun v hv => by
    cases q : C v
    · rfl
    · by_cases e : v = b
      · subst e
        by_cases k : 0 ≤ gi ms v
        · have := ho (gi ms v).toNat (by omega)
          rw [this]; simp
        · rw [decide_eq_false k]; simp
      · have : (v == b) = false := beq_eq_false_iff_ne.2 e
        obtain ⟨w, k1, k2⟩ := hc v hv q e
        rw [this, k1, Int.toNat_natCast, k2]
        simp
  rw [s2] at e2
  rw [s3] at e1
  omega
end

section
variable {N : Nat} {J : Nat → Nat → Prop} {mt : Nat → Int} {s : Fo}
theorem FoI.rootB (hi : FoI N J mt s) {r : Nat} (hr : r < N) (h : mt r = -1) : s.ou r = true ∧ s.B r = r := by
  have o := (hi.ev r hr (hi.free r hr h).1).1
  refine ⟨o, Classical.byContradiction fun q => ?_⟩
  obtain ⟨-, -, -, -, q', h5, h6⟩ := hi.bo r hr o
  obtain ⟨m', l5, h7, -⟩ := h5.head (fun q2 => q q2.symm)
  omega
/-- Nothing is left to look at. -/
def Fo.Done (N : Nat) (J : Nat → Nat → Prop) (s : Fo) : Prop := ∀ v w, v < N → s.ou v = true → J v w → s.lab w ≠ 0 ∧ (s.ou w = true → s.B v = s.B w)
def Fo.inn (s : Fo) (v : Nat) : Bool := s.lab v == 2 && !s.ou v
def Fo.bas (s : Fo) (v : Nat) : Bool := s.ou v && s.B v == v
/-- There are as many bases as inner ones and free ones. -/
theorem FoI.many {es : List Ed} (hm : MtOk N J mt) (hi : FoI N J mt s) {ms : List Int} (hg : ∀ v, v < N → mt v = gi ms v) : (sel (freeB ms) N).length + (sel s.inn N).length ≤ (sel s.bas N).length := by
  have : (sel (freeB ms) N ++ sel s.inn N).length ≤ (sel s.bas N).length := by
    refine pigeon (R := fun x y => (gi ms x.toNat = -1 ∧ y = x) ∨ (gi ms x.toNat = y ∧ 0 ≤ y)) ?_ (fun x hx => ?_) (fun x hx x' hx' y h1 h2 => ?_)
    · rw [List.nodup_append]
      refine ⟨sel_nodup _ _, sel_nodup _ _, fun x hx y hy e => ?_⟩
      subst e
      obtain ⟨j, j1, j2, rfl⟩ := mem_sel.1 hx
      obtain ⟨k, k1, k2, k3⟩ := mem_sel.1 hy
      obtain rfl : j = k := by omega
      have j2' : gi ms j = -1 := by simpa [freeB] using j2
      have := (hi.free j j1 (by rw [hg j j1]; exact j2')).1
      simp only [Fo.inn, Bool.and_eq_true, beq_iff_eq] at k2
      omega
    · rcases List.mem_append.1 hx with hx | hx
      · obtain ⟨j, j1, j2, rfl⟩ := mem_sel.1 hx
        have j2' : gi ms j = -1 := by simpa [freeB] using j2
        obtain ⟨a, b⟩ := hi.rootB j1 (by rw [hg j j1]; exact j2')
        exact ⟨j, mem_sel.2 ⟨j, j1, by simp [Fo.bas, a, b], rfl⟩, .inl ⟨by rw [Int.toNat_natCast]; exact j2', rfl⟩⟩
      · obtain ⟨j, j1, j2, rfl⟩ := mem_sel.1 hx
        simp only [Fo.inn, Bool.and_eq_true, beq_iff_eq, Bool.not_eq_true'] at j2
        obtain ⟨x, p, k1, k2, k3, k4, -⟩ := hi.od j j1 j2.1
        refine ⟨x, mem_sel.2 ⟨x, k1, ?_, rfl⟩, .inr ⟨by rw [Int.toNat_natCast, ← hg j j1]; exact k3, by omega⟩⟩
        simp [Fo.bas, (hi.ev x k1 k4).1, hi.top j j1 j2.1 j2.2 x k3]
    · have key : ∀ z, z ∈ sel (freeB ms) N ++ sel s.inn N → ∃ j : Nat, j < N ∧ z = j := fun z hz => by
        rcases List.mem_append.1 hz with hz | hz
        · obtain ⟨j, j1, j2, rfl⟩ := mem_sel.1 hz; exact ⟨j, j1, rfl⟩
        · obtain ⟨j, j1, j2, rfl⟩ := mem_sel.1 hz; exact ⟨j, j1, rfl⟩
      obtain ⟨j, j1, rfl⟩ := key x hx
      obtain ⟨k, k1, rfl⟩ := key x' hx'
      rw [Int.toNat_natCast] at h1 h2
      rcases h1 with ⟨h1, rfl⟩ | ⟨h1, h3⟩
      · rcases h2 with ⟨h2, h4⟩ | ⟨h2, h4⟩
        · exact h4
        · have := (hm.back k1 (w := j) (by rw [hg k k1]; exact h2)).2.1
          rw [hg j j1] at this
          omega
      · rcases h2 with ⟨h2, rfl⟩ | ⟨h2, h4⟩
        · have := (hm.back j1 (w := k) (by rw [hg j j1]; exact h1)).2.1
          rw [hg k k1] at this
          omega
        · obtain ⟨z, rfl⟩ : ∃ z : Nat, y = z := ⟨y.toNat, by omega⟩
          have a := (hm.back j1 (w := z) (by rw [hg j j1]; exact h1)).2.1
          have b := (hm.back k1 (w := z) (by rw [hg k k1]; exact h2)).2.1
          omega
  rwa [List.length_append] at this
/-- A search without a path: the matching is a largest one. -/
theorem FoI.max {es : List Ed} (hr : Rise N es) (hJ : ∀ x y : Nat, (y : Int) ∈ nearV es x → J x y) (hm : MtOk N J mt) (hi : FoI N J mt s) (hd : s.Done N J) {ms ms' : List Int} (hg : ∀ v, v < N → mt v = gi ms v) (h : MatchN N es ms) (h' : MatchN N es ms') :
    (sel (freeB ms) N).length ≤ (sel (freeB ms') N).length := by
  have e1 := hi.many (es := es) hm hg
  have e2 : (sel s.bas N).length ≤ (sel (freeB ms') N ++ sel s.inn N).length := by
    refine pigeon (R := fun x y => ∃ v : Nat, v < N ∧ s.ou v = true ∧ x = s.B v ∧ ((gi ms' v = -1 ∧ y = v) ∨ ∃ w : Nat, w < N ∧ s.ou w = false ∧ gi ms' v = w ∧ gi ms' w = v ∧ y = w)) (sel_nodup _ _) (fun x hx => ?_) (fun x hx x' hx' y h1 h2 => ?_)
    · obtain ⟨b, b1, b2, rfl⟩ := mem_sel.1 hx
      simp only [Fo.bas, Bool.and_eq_true, beq_iff_eq] at b2
      obtain ⟨v, v1, v2, v3⟩ := class_odd hr (C := fun v => s.ou v && s.B v == b) h h' b1 (by simp [b2]) (fun w e => by
        have := hi.bas b b1 b2.1 b2.2 w (by rw [hg b b1]; exact e)
        simp [this]) (fun v hv cv hne => by
        simp only [Bool.and_eq_true, beq_iff_eq] at cv
        have hv1 : mt v ≠ -1 := fun q => by
          have := (hi.rootB hv q).2
          omega
        rcases hm.mate v hv with k | ⟨w, k1, k2, k3, k4⟩
        · exact absurd k hv1
        · obtain ⟨c1, c2⟩ := hi.clo v hv cv.1 (by omega) w k2
          exact ⟨w, by rw [← hg v hv]; exact k2, by simp [c1, c2, cv.2]⟩)
      simp only [Bool.and_eq_true, beq_iff_eq] at v2
      rcases h'.2 v v1 with k | ⟨w, k1, k2, k3, k4⟩
      · exact ⟨v, List.mem_append_left _ (mem_sel.2 ⟨v, v1, by simp [freeB, k], rfl⟩), v, v1, v2.1, by rw [v2.2], .inl ⟨k, rfl⟩⟩
      · obtain ⟨d1, d2⟩ := hd v w v1 v2.1 (hJ v w k3)
        have hw := v3 w k2
        have how : s.ou w = false := by
          cases q : s.ou w
          · rfl
          · rw [q, ← d2 q, v2.2] at hw
            simp at hw
        have hl : s.lab w = 2 := by
          rcases hi.lab w k1 with q | q | q
          · exact absurd q d1
          · rw [(hi.ev w k1 q).1] at how; cases how
          · exact q
        exact ⟨w, List.mem_append_right _ (mem_sel.2 ⟨w, k1, by simp [Fo.inn, hl, how], rfl⟩), v, v1, v2.1, by rw [v2.2], .inr ⟨w, k1, how, k2, k4, rfl⟩⟩
    · obtain ⟨v, v1, v2, rfl, v3⟩ := h1
      obtain ⟨u, u1, u2, rfl, u3⟩ := h2
      have : v = u := by
        rcases v3 with ⟨v3, rfl⟩ | ⟨w, w1, w2, w3, w4, rfl⟩
        · rcases u3 with ⟨u3, u4⟩ | ⟨z, z1, z2, z3, z4, z5⟩
          · omega
          · obtain rfl : v = z := by omega
            rw [v2] at z2; cases z2
        · rcases u3 with ⟨u3, u4⟩ | ⟨z, z1, z2, z3, z4, z5⟩
          · obtain rfl : w = u := by omega
            rw [u2] at w2; cases w2
          · obtain rfl : w = z := by omega
            omega
      rw [this]
  rw [List.length_append] at e2
  omega
end
end

section
open Go.RowKit
/-- Two and two are joined. -/
inductive Prs (J : Nat → Nat → Prop) : List Int → Prop
  | nil : Prs J []
  | cons {a b : Nat} {l : List Int} : J a b → Prs J l → Prs J ((a : Int) :: (b : Int) :: l)
/-- The mates behind a path. -/
def turnM : List Int → List Int → List Int
  | ms, a :: b :: l => turnM ((ms.set a.toNat b).set b.toNat a) l
  | ms, _ => ms
theorem turnM_length : ∀ (l ms : List Int), (turnM ms l).length = ms.length
  | [], ms => by rw [turnM]; intro a b l h; cases h
  | [_], ms => by rw [turnM]; intro a b l h; cases h
  | a :: b :: l, ms => by rw [turnM, turnM_length l, List.length_set, List.length_set]

section
variable {N : Nat} {J : Nat → Nat → Prop}
theorem Prs.turn (hlt : ∀ x y, J x y → x < N ∧ y < N ∧ x ≠ y) (hsy : ∀ x y, J x y → J y x) {l : List Int} (h : Prs J l) : ∀ {ms : List Int}, ms.length = N → l.Nodup →
    (∀ z : Nat, (z : Int) ∉ l → gi (turnM ms l) z = gi ms z) ∧ (∀ z : Nat, (z : Int) ∈ l → ∃ y : Nat, (y : Int) ∈ l ∧ gi (turnM ms l) z = y ∧ gi (turnM ms l) y = z ∧ J z y) := by
  induction h with
  | nil => intro ms _ _; exact ⟨fun z _ => rfl, fun z h => by cases h⟩
  | @cons a b l j _ ih =>
    intro ms hl hn
    obtain ⟨h1, h2, h3⟩ := hlt _ _ j
    rw [List.nodup_cons, List.nodup_cons] at hn
    obtain ⟨n1, n2, n3⟩ := hn
    rw [List.mem_cons, not_or] at n1
    have hl' : ((ms.set a (b : Int)).set b (a : Int)).length = N := by simpa using hl
    obtain ⟨i1, i2⟩ := ih hl' n3
    have e0 : turnM ms ((a : Int) :: (b : Int) :: l) = turnM ((ms.set a (b : Int)).set b (a : Int)) l := by rw [turnM, Int.toNat_natCast, Int.toNat_natCast]
    have ea : gi ((ms.set a (b : Int)).set b (a : Int)) a = b := by rw [gi_set, if_neg (by omega), gi_set, if_pos ⟨rfl, by omega⟩]
    have eb : gi ((ms.set a (b : Int)).set b (a : Int)) b = a := by rw [gi_set, if_pos ⟨rfl, by rw [List.length_set]; omega⟩]
    rw [e0]
    refine ⟨fun z hz => ?_, fun z hz => ?_⟩
    · simp only [List.mem_cons, not_or] at hz
      rw [i1 z hz.2.2, gi_set, if_neg (by omega), gi_set, if_neg (by omega)]
    · simp only [List.mem_cons] at hz
      rcases hz with hz | hz | hz
      · obtain rfl : z = a := by omega
        exact ⟨b, by simp, by rw [i1 z n1.2, ea], by rw [i1 b n2, eb], j⟩
      · obtain rfl : z = b := by omega
        exact ⟨a, by simp, by rw [i1 z n2, eb], by rw [i1 a n1.2, ea], hsy _ _ j⟩
      · obtain ⟨y, k1, k2, k3, k4⟩ := i2 z hz
        exact ⟨y, by simp [k1], k2, k3, k4⟩

/-- A path that augments: r and u are free. -/
structure Aug (N : Nat) (J : Nat → Nat → Prop) (ms : List Int) (l : List Int) (r u : Nat) : Prop where
  prs : Prs J l
  nod : l.Nodup
  ne : r ≠ u
  fr : (r : Int) ∈ l ∧ gi ms r = -1
  fu : (u : Int) ∈ l ∧ gi ms u = -1
  lt : ∀ x ∈ l, ∃ y : Nat, y < N ∧ x = y
  clo : ∀ z : Nat, (z : Int) ∈ l → z ≠ r → z ≠ u → ∃ y : Nat, (y : Int) ∈ l ∧ gi ms z = y
/-- Other paths stay ones. -/
theorem Aug.apart (hlt : ∀ x y, J x y → x < N ∧ y < N ∧ x ≠ y) (hsy : ∀ x y, J x y → J y x) {ms l l' : List Int} {r u r' u' : Nat} (hl : ms.length = N) (h : Aug N J ms l r u) (k : Aug N J ms l' r' u') (hd : ∀ x ∈ l, x ∉ l') : Aug N J (turnM ms l') l r u := by
  have h1 := (k.prs.turn hlt hsy hl k.nod).1
  exact ⟨h.prs, h.nod, h.ne, ⟨h.fr.1, by rw [h1 r (hd _ h.fr.1)]; exact h.fr.2⟩, ⟨h.fu.1, by rw [h1 u (hd _ h.fu.1)]; exact h.fu.2⟩, h.lt, fun z hz a b => by rw [h1 z (hd _ hz)]; exact h.clo z hz a b⟩
theorem Aug.turn (hlt : ∀ x y, J x y → x < N ∧ y < N ∧ x ≠ y) (hsy : ∀ x y, J x y → J y x) {es : List Ed} (hJ : ∀ x y, J x y → (y : Int) ∈ nearV es x) {ms l : List Int} {r u : Nat} (hm : MatchN N es ms) (h : Aug N J ms l r u) :
    MatchN N es (turnM ms l) ∧ (sel (freeB (turnM ms l)) N).length + 2 = (sel (freeB ms) N).length := by
  obtain ⟨h1, h2⟩ := h.prs.turn hlt hsy hm.1 h.nod
  have hr : r < N := by obtain ⟨y, a, b⟩ := h.lt _ h.fr.1; omega
  have hu : u < N := by obtain ⟨y, a, b⟩ := h.lt _ h.fu.1; omega
  refine ⟨⟨by rw [turnM_length]; exact hm.1, fun v hv => ?_⟩, ?_⟩
  · by_cases q : (v : Int) ∈ l
    · obtain ⟨y, k1, k2, k3, k4⟩ := h2 v q
      exact .inr ⟨y, (hlt _ _ k4).2.1, k2, hJ _ _ k4, k3⟩
    · rw [h1 v q]
      rcases hm.2 v hv with k | ⟨w, k1, k2, k3, k4⟩
      · exact .inl k
      · right
        have hw : (w : Int) ∉ l := fun hin => by
          by_cases a : w = r
          · subst a; have := h.fr.2; omega
          · by_cases b : w = u
            · subst b; have := h.fu.2; omega
            · obtain ⟨y, c1, c2⟩ := h.clo w hin a b
              exact q (by rw [← k4, c2]; exact c1)
        exact ⟨w, k1, k2, k3, by rw [h1 w hw]; exact k4⟩
  · have e1 := sel_or (freeB ms) (fun v => v == r) (fun v => freeB ms v && !(v == r)) (fun v => by
      by_cases a : v = r
      · subst a; simp [freeB, h.fr.2]
      · have : (v == r) = false := beq_eq_false_iff_ne.2 a
        rw [this]; simp) (fun v a => by rw [show (v == r) = true from a]; simp) N
    have e2 := sel_or (fun v => freeB ms v && !(v == r)) (fun v => v == u) (fun v => freeB ms v && !(v == r) && !(v == u)) (fun v => by
      by_cases a : v = u
      · subst a; have := h.ne; simp [freeB, h.fu.2, Ne.symm this]
      · have : (v == u) = false := beq_eq_false_iff_ne.2 a
        rw [this]; simp) (fun v a => by rw [show (v == u) = true from a]; simp) N
    rw [sel_one, if_pos hr] at e1
    rw [sel_one, if_pos hu] at e2
    have e3 : sel (freeB (turnM ms l)) N = sel (fun v => freeB ms v && !(v == r) && !(v == u)) N := sel_congr fun v hv => by
      unfold freeB
      by_cases q : (v : Int) ∈ l
      · obtain ⟨y, k1, k2, k3, k4⟩ := h2 v q
        rw [k2, Bool.eq_iff_iff]
        simp only [beq_iff_eq, Bool.and_eq_true, Bool.not_eq_true', beq_eq_false_iff_ne]
        constructor
        · intro a; omega
        · rintro ⟨⟨a, b⟩, c⟩
          obtain ⟨y', c1, c2⟩ := h.clo v q b c
          omega
      · have a : v ≠ r := fun e => by subst e; exact q h.fr.1
        have b : v ≠ u := fun e => by subst e; exact q h.fu.1
        rw [h1 v q, beq_eq_false_iff_ne.2 a, beq_eq_false_iff_ne.2 b]
        simp
    rw [e3]
    omega

/-- The way back from a root, and on to another one. -/
theorem AW.tail {mt : Nat → Int} {w r : Nat} {t : List Int} (h : AW N J mt w r t) : ∀ {v : Nat}, J v w → Prs J ((v : Int) :: t) := by
  induction h with
  | here _ => intro v j; exact .cons j .nil
  | step _ _ j' _ ih => intro v j; exact .cons j (ih j')
theorem AW.prs {mt : Nat → Int} (hm : MtOk N J mt) {v r : Nat} {l : List Int} (h : AW N J mt v r l) : ∀ {w r' : Nat} {t : List Int}, J v w → AW N J mt w r' t → Prs J (l.reverse ++ t) := by
  induction h with
  | here _ => intro w r' t j k; exact k.tail j
  | @step a m u c l ha e j _ ih =>
    intro w r' t j' k
    obtain ⟨h1, h2, h3, h4⟩ := hm.back ha e
    have := ih (hm.sym _ _ j) (.step h1 h2 j' k)
    simpa using this
theorem AW.clo {mt : Nat → Int} (hm : MtOk N J mt) {v r : Nat} {l : List Int} (h : AW N J mt v r l) : ∀ z : Nat, (z : Int) ∈ l → z ≠ r → ∃ y : Nat, (y : Int) ∈ l ∧ mt z = y := by
  induction h with
  | here _ => intro z hz hn; simp only [List.mem_singleton] at hz; omega
  | @step a m u c l ha e j _ ih =>
    intro z hz hn
    simp only [List.mem_cons] at hz
    rcases hz with hz | hz | hz
    · obtain rfl : z = a := by omega
      exact ⟨m, by simp, e⟩
    · obtain rfl : z = m := by omega
      exact ⟨a, by simp, (hm.back ha e).2.1⟩
    · obtain ⟨y, k1, k2⟩ := ih z hz hn
      exact ⟨y, by simp [k1], k2⟩
/-- The path that an edge between two trees makes. -/
theorem FoI.aug {mt : Nat → Int} {s : Fo} {ms : List Int} (hg : ∀ v, v < N → mt v = gi ms v) (hm : MtOk N J mt) (hi : FoI N J mt s) {v w : Nat} (hv : v < N) (hw : w < N) (ov : s.ou v = true) (ow : s.ou w = true) (hne : s.rt v ≠ s.rt w) (j : J v w) :
    ∃ (r u : Nat) (q q' : List Int), s.rt v = r ∧ s.rt w = u ∧ Vis mt s v r q ∧ Vis mt s w u q' ∧ Aug N J ms ((q ++ [(r : Int)]).reverse ++ (q' ++ [(u : Int)])) r u ∧ ∀ x ∈ (q ++ [(r : Int)]).reverse ++ (q' ++ [(u : Int)]), ∃ y : Nat, y < N ∧ x = y ∧ (s.rt y = r ∨ s.rt y = u) := by
  obtain ⟨r, q, r1, r2, r3, r4, r5, r6⟩ := hi.path v hv ov
  obtain ⟨u, q', u1, u2, u3, u4, u5, u6⟩ := hi.path w hw ow
  have a1 := r4.aw hm hi hv
  have a2 := u4.aw hm hi hw
  have ne : r ≠ u := fun e => hne (by rw [r1, u1, e])
  have m1 : ∀ x ∈ q ++ [(r : Int)], ∃ y : Nat, y < N ∧ x = y ∧ s.rt y = r := fun x hx => by
    rcases List.mem_append.1 hx with hx | hx
    · exact r6 x hx
    · obtain rfl : x = r := by simpa using hx
      exact ⟨r, r2, rfl, (hi.free r r2 r3).2⟩
  have m2 : ∀ x ∈ q' ++ [(u : Int)], ∃ y : Nat, y < N ∧ x = y ∧ s.rt y = u := fun x hx => by
    rcases List.mem_append.1 hx with hx | hx
    · exact u6 x hx
    · obtain rfl : x = u := by simpa using hx
      exact ⟨u, u2, rfl, (hi.free u u2 u3).2⟩
  have mem : ∀ x ∈ (q ++ [(r : Int)]).reverse ++ (q' ++ [(u : Int)]), ∃ y : Nat, y < N ∧ x = y ∧ (s.rt y = r ∨ s.rt y = u) := fun x hx => by
    rw [List.mem_append, List.mem_reverse] at hx
    rcases hx with hx | hx
    · obtain ⟨y, k1, k2, k3⟩ := m1 x hx
      exact ⟨y, k1, k2, .inl k3⟩
    · obtain ⟨y, k1, k2, k3⟩ := m2 x hx
      exact ⟨y, k1, k2, .inr k3⟩
  refine ⟨r, u, q, q', r1, u1, r4, u4, ⟨a1.prs hm j a2, ?_, ne, ⟨by simp, by rw [← hg r r2]; exact r3⟩, ⟨by simp, by rw [← hg u u2]; exact u3⟩, fun x hx => ?_, fun z hz n1 n2 => ?_⟩, mem⟩
  · rw [List.nodup_append]
    refine ⟨List.pairwise_reverse.2 (r5.imp fun h => h.symm), u5, fun x hx y hy e => ?_⟩
    subst e
    rw [List.mem_reverse] at hx
    obtain ⟨y, k1, k2, k3⟩ := m1 x hx
    obtain ⟨y', k4, k5, k6⟩ := m2 x hy
    obtain rfl : y = y' := by omega
    omega
  · obtain ⟨y, k1, k2, -⟩ := mem x hx
    exact ⟨y, k1, k2⟩
  · obtain ⟨y, k1, k2, -⟩ := mem _ hz
    obtain rfl : z = y := by omega
    rw [List.mem_append, List.mem_reverse] at hz
    rcases hz with hz | hz
    · obtain ⟨y, c1, c2⟩ := a1.clo hm z hz n1
      exact ⟨y, by rw [List.mem_append, List.mem_reverse]; exact .inl c1, by rw [← hg z k1]; exact c2⟩
    · obtain ⟨y, c1, c2⟩ := a2.clo hm z hz n2
      exact ⟨y, by rw [List.mem_append]; exact .inr c1, by rw [← hg z k1]; exact c2⟩
end
end

end Go.Proofs.YtbnipgajhpbolaaGreatDoor
