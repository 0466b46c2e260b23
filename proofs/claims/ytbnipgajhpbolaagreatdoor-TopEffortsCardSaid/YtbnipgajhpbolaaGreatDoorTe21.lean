/- The walk of forest.Join, where it closes a blossom; The walk of forest.Labels -/
import Derived.Test.YtbnipgajhpbolaaGreatDoorTe20
set_option linter.unusedVariables false
set_option linter.unusedSimpArgs false
namespace Go.Proofs.YtbnipgajhpbolaaGreatDoor

section
open Go.RowKit
section
variable {base N F : Nat} {g : Nat → Nat} {nv mv : Value} {s s2 : Fm} {C d : Nat → Nat} {B : Nat → Nat} {mt : Nat → Int} {J : Nat → Nat → Prop}
theorem Chn.turn {t t' : Fo} {b x : Nat} {l : List (Nat × Nat)} (h : Chn mt t b x l) (hp : ∀ m, m ∈ l.map (·.2) → t'.pd m = t.pd m) (hB : ∀ m p : Nat, m ∈ l.map (·.2) → t.pd m = (p : Int) → t'.B p = t.B p) : Chn mt t' b x l := by
  induction h with
  | nil => exact .nil
  | @cons x m p l h1 h2 h3 _ ih =>
    have e := hB m p (by simp) h3
    refine .cons h1 h2 ((hp m (by simp)).trans h3) ?_
    rw [e]
    exact ih (fun a ha => hp a (by simp [ha])) (fun a c ha => hB a c (by simp [ha]))
theorem FoI.names (hi : FoI N J mt (s.fo B)) {m : Nat} (hm : m < N) (om : s.ou m = false) : B m = m ∧ ∀ z, z < N → B z = m → z = m := by
  refine ⟨hi.inn m hm om, fun z hz e => ?_⟩
  cases q : s.ou z
  · have := hi.inn z hz q
    have h2 : B z = z := this
    omega
  · have h2 : s.ou (B z) = true := (hi.bo z hz q).1
    rw [e, om] at h2
    cases h2
theorem Chn.nodup {t : Fo} (hm : MtOk N J mt) (hi : FoI N J mt t) {b x : Nat} {l : List (Nat × Nat)} (h : Chn mt t b x l) (hx : Bse N t x) : (l.map (·.1)).Nodup := by
  induction h with
  | nil => simp
  | @cons x m p l h1 h2 h3 h4 ih =>
    obtain ⟨p', k1, k2, k3, k4, k5, k6, k7, k8, k9, k10, k11, k12⟩ := hi.down hm hx.lt hx.ou hx.bs h2
    obtain rfl : p = p' := by omega
    have hp := hi.bse k2 k4
    rw [List.map_cons, List.nodup_cons]
    refine ⟨fun hin => ?_, ih hp⟩
    obtain ⟨⟨a, c⟩, hac, e⟩ := List.mem_map.1 hin
    simp only [] at e
    subst e
    rcases ((h4.mem hm hi hp).2.2.2 a c hac).2.2.2.2.2.2.2.2.2.1 with q | q
    · rw [← q] at k12; exact k12.irr
    · exact (k12.trans q).irr
theorem FoI.shl (hm : MtOk N J mt) (hi : FoI N J mt (s.fo B)) {v b : Nat} (hv : v < N) (ov : s.ou v = true) {l : List (Nat × Nat)} (h : Chn mt (s.fo B) b (B v) l) : ShL N mt s B v b l := by
  have hb := hi.bse hv ov
  obtain ⟨bb, -, -, M⟩ := h.mem hm hi hb
  refine ⟨h, fun x m hx => ?_, h.nodup hm hi hb, bb.ou, bb.lt⟩
  obtain ⟨j1, j2, j3, j4, j5, j6, j7, j8, j9, j10, j11⟩ := M x m hx
  obtain ⟨p, k1, k2, k3, k4, k5, k6, k7, k8, k9, k10, k11, k12⟩ := hi.down hm j1.lt j1.ou j1.bs j4
  obtain ⟨n1, n2⟩ := hi.names j3 j6
  exact ⟨j1.lt, j1.bs, j1.ou, j2, j3, j4, j5, j6, n1, j7, n2, p, k2, k3, k4, hi.bN p k2⟩
/-- The other side, behind the first one. -/
theorem FoI.shl2 (hm : MtOk N J mt) (hi : FoI N J mt (s.fo B)) {v w b : Nat} (hv : v < N) (ov : s.ou v = true) (hw : w < N) (ow : s.ou w = true) {l1 l2 : List (Nat × Nat)} (h1 : Chn mt (s.fo B) b (B v) l1) (h2 : Chn mt (s.fo B) b (B w) l2) (hd : ∀ x ∈ l1.map (·.1), x ∉ l2.map (·.1)) (hq : ShQ s s2 v w (l1.map (·.2))) :
    ShL N mt s2 (shV B l1 b) w b l2 ∧ (∀ m ∈ l1.map (·.2), m ∉ l2.map (·.2)) ∧ b ∉ l2.map (·.1) := by
  have L1 := hi.shl hm hv ov h1
  have L2 := hi.shl hm hw ow h2
  have f1 : ∀ a, a ∈ l1.map (·.1) → s.ou a = true ∧ a ≠ b := fun a ha => by
    obtain ⟨⟨a', c⟩, hac, rfl⟩ := List.mem_map.1 ha
    have := L1.fact a' c hac
    exact ⟨this.2.2.1, this.2.2.2.1⟩
  have s1 : ∀ a, a ∈ l1.map (·.2) → s.ou a = false := fun a ha => by
    obtain ⟨⟨a', c⟩, hac, rfl⟩ := List.mem_map.1 ha
    exact (L1.fact a' c hac).2.2.2.2.2.2.2.1
  have ds : ∀ m ∈ l1.map (·.2), m ∉ l2.map (·.2) := fun m a c => by
    obtain ⟨⟨x, m'⟩, hx, rfl⟩ := List.mem_map.1 a
    obtain ⟨⟨y, m2⟩, hy, e⟩ := List.mem_map.1 c
    simp only [] at e
    subst e
    have e1 := (L1.fact x _ hx).2.2.2.2.2.2.1
    have e2 := (L2.fact y _ hy).2.2.2.2.2.2.1
    obtain rfl : x = y := by omega
    exact hd x (List.mem_map.2 ⟨_, hx, rfl⟩) (List.mem_map.2 ⟨_, hy, rfl⟩)
  have bl2 : b ∉ l2.map (·.1) := fun q => by
    obtain ⟨⟨x, m⟩, hx, rfl⟩ := List.mem_map.1 q
    exact (L2.fact x m hx).2.2.2.1 rfl
  -- unmerged names
  have un : ∀ z, B z ∉ l1.map (·.1) → s.ou z = true → shV B l1 b z = B z := fun z a o => if_neg fun q => q.elim a fun q => by
    have := s1 z q
    rw [o] at this
    cases this
  have nxt : ∀ z, (B z = b ∨ B z ∈ l2.map (·.1)) → B z ∉ l1.map (·.1) := fun z a c => by
    rcases a with a | a
    · exact (f1 _ c).2 a
    · exact hd _ c a
  have hBw : shV B l1 b w = B w := un w (nxt w (by cases h2 with
    | nil => exact .inl rfl
    | cons => exact .inr (by simp))) ow
  refine ⟨⟨?_, fun x m hx => ?_, L2.nod, ?_, L2.ob.2⟩, ds, bl2⟩
  · rw [hBw]
    have key : ∀ (x : Nat) (l : List (Nat × Nat)), Chn mt (s.fo B) b x l → (∀ a, a ∈ l → a ∈ l2) → Chn mt (s2.fo (shV B l1 b)) b x l := fun x l c => by
      induction c with
      | nil => intro _; exact .nil
      | @cons x m p l c1 c2 c3 c4 ih =>
        intro hs
        obtain ⟨-, -, -, -, -, -, -, -, -, -, -, p', g1, g2, g3, -⟩ := L2.fact x m (hs _ (by simp))
        have c3' : s.pd m = (p : Int) := c3
        obtain rfl : p = p' := by omega
        have hB : shV B l1 b p = B p := un p (nxt p (by
          cases c4 with
          | nil => exact .inl rfl
          | @cons _ m' _ l' => exact .inr (List.mem_map.2 ⟨((s.fo B).B p, m'), hs _ (by simp), rfl⟩))) g3
        refine .cons c1 c2 (show s2.pd m = (p : Int) by rw [hq.pd]; exact c3') ?_
        show Chn mt (s2.fo (shV B l1 b)) b (shV B l1 b p) l
        rw [hB]
        exact ih fun a ha => hs a (by simp [ha])
    exact key _ _ h2 fun a ha => ha
  · obtain ⟨g1, g2, g3, g4, g5, g6, g7, g8, g9, g10, g11, p, g12, g13, g14, g15⟩ := L2.fact x m hx
    have hm2 : m ∈ l2.map (·.2) := List.mem_map.2 ⟨_, hx, rfl⟩
    have hm1 : m ∉ l1.map (·.2) := fun q => ds m q hm2
    have om1 : m ∉ l1.map (·.1) := fun q => by have := (f1 m q).1; rw [g8] at this; cases this
    have hx1 : x ∉ l1.map (·.1) := fun q => hd x q (List.mem_map.2 ⟨_, hx, rfl⟩)
    refine ⟨g1, ?_, by rw [hq.ou, g3]; rfl, g4, g5, g6, g7, by rw [hq.ou, g8, decide_eq_false hm1]; rfl, ?_, by rw [hq.lab]; exact g10, fun z hz e => ?_, p, g12, by rw [hq.pd]; exact g13, by rw [hq.ou, g14]; rfl, ?_⟩
    · rw [un x (by rw [g2]; exact hx1) g3, g2]
    · unfold shV
      rw [if_neg (fun q => q.elim (fun q => om1 (by rw [g9] at q; exact q)) hm1), g9]
    · unfold shV at e
      split at e
      · subst e
        have := L2.ob.1
        rw [g8] at this
        cases this
      · exact g11 z hz e
    · unfold shV
      split
      · exact L2.ob.2
      · exact g15
  · rw [hq.ou, L2.ob.1]; rfl
/-- Both sides closed: it is the blossom. -/
theorem ShQ.shut {s3 : Fm} {v w b : Nat} {l1 l2 : List (Nat × Nat)} (h1 : ShQ s s2 v w (l1.map (·.2))) (h2 : ShQ s2 s3 w v (l2.map (·.2))) (ds : ∀ m ∈ l1.map (·.2), m ∉ l2.map (·.2)) (hb : b ∉ l2.map (·.1)) :
    s3.fo (shV (shV B l1 b) l2 b) = (s.fo B).shut v w b l1 l2 := by
  have e1 : s3.lab = s.lab := h2.lab.trans h1.lab
  have e2 : s3.ou = ((s.fo B).shut v w b l1 l2).ou := funext fun z => by
    rw [h2.ou, h1.ou]
    simp only [Fo.shut, Fm.fo, List.map_append, List.mem_append]
    rw [Bool.or_assoc]
    congr 1
    by_cases q1 : z ∈ l1.map (·.2) <;> by_cases q2 : z ∈ l2.map (·.2) <;> simp [q1, q2]
  have e3 : s3.pd = s.pd := h2.pd.trans h1.pd
  have e4 : s3.rt = s.rt := h2.rt.trans h1.rt
  have e5 : s3.b1 = ((s.fo B).shut v w b l1 l2).b1 := funext fun z => by
    rw [h2.b1, h1.b1]
    simp only [Fo.shut, Fm.fo]
    by_cases q1 : z ∈ l1.map (·.2)
    · rw [if_neg (ds z q1), if_pos q1, if_pos q1]
    · by_cases q2 : z ∈ l2.map (·.2)
      · rw [if_pos q2, if_neg q1, if_pos q2]
      · rw [if_neg q2, if_neg q1, if_neg q1, if_neg q2]
  have e6 : s3.b2 = ((s.fo B).shut v w b l1 l2).b2 := funext fun z => by
    rw [h2.b2, h1.b2]
    simp only [Fo.shut, Fm.fo]
    by_cases q1 : z ∈ l1.map (·.2)
    · rw [if_neg (ds z q1), if_pos q1, if_pos q1]
    · by_cases q2 : z ∈ l2.map (·.2)
      · rw [if_pos q2, if_neg q1, if_pos q2]
      · rw [if_neg q2, if_neg q1, if_neg q1, if_neg q2]
  have e7 : shV (shV B l1 b) l2 b = ((s.fo B).shut v w b l1 l2).B := funext fun z => by
    simp only [Fo.shut, Fm.fo, List.map_append, List.mem_append]
    unfold shV
    by_cases q1 : B z ∈ l1.map (·.1) ∨ z ∈ l1.map (·.2)
    · rw [if_pos q1, if_pos (show (B z ∈ l1.map (·.1) ∨ B z ∈ l2.map (·.1)) ∨ z ∈ l1.map (·.2) ∨ z ∈ l2.map (·.2) from q1.elim (fun q => .inl (.inl q)) (fun q => .inr (.inl q)))]
      split <;> rfl
    · rw [if_neg q1]
      by_cases q2 : B z ∈ l2.map (·.1) ∨ z ∈ l2.map (·.2)
      · rw [if_pos q2, if_pos (show (B z ∈ l1.map (·.1) ∨ B z ∈ l2.map (·.1)) ∨ z ∈ l1.map (·.2) ∨ z ∈ l2.map (·.2) from q2.elim (fun q => .inl (.inr q)) (fun q => .inr (.inr q)))]
      · rw [if_neg q2, if_neg (show ¬ ((B z ∈ l1.map (·.1) ∨ B z ∈ l2.map (·.1)) ∨ z ∈ l1.map (·.2) ∨ z ∈ l2.map (·.2)) from fun o => by
          rcases o with (o | o) | (o | o)
          · exact q1 (.inl o)
          · exact q2 (.inl o)
          · exact q1 (.inr o)
          · exact q2 (.inr o))]
  unfold Fm.fo
  rw [e1, e2, e3, e4, e5, e6, e7]
  rfl

/-- What a forest in memory keeps. -/
structure FG (base N F : Nat) (g : Nat → Nat) (nv mv : Value) (J : Nat → Nat → Prop) (mt : Nat → Int) (s : Fm) (B : Nat → Nat) (W : World) : Prop where
  fw : FW base N F g nv mv s W
  ub : ∃ C d, Ub N s.up s.ba B B C d
  fo : FoI N J mt (s.fo B)
  ma : ∀ z, z < N → s.ma z ≤ s.tu
  tu : 0 ≤ s.tu

set_option maxHeartbeats 16000000 in
set_option maxRecDepth 100000 in
theorem fclose_any (w0 : World) (h : FG base N F g nv mv J mt s B w0) (hbs : base ≤ w0.heap.size) (hm : MR base N mv mt w0) (hmt : MtOk N J mt) {v w : Nat} (hv : v < N) (hw : w < N) (ov : s.ou v = true) (ow : s.ou w = true) (er : s.rt v = s.rt w) (hj : J v w) (hN : N ≤ 65536) (htu : s.tu ≤ 4611686018427387904) (hq : s.wl.length + 2 * N ≤ 1000000) :
    Calls Tryz.prog 64 #[.pointer (some ⟨F, 0, none⟩), .int .i64 v, .int .i64 w] w0 fun e w' => e = .returned (.slice none 0 0) ∧ ∃ (s' : Fm) (B' : Nat → Nat) (b : Nat) (l1 l2 : List (Nat × Nat)), FG base N F g nv mv J mt s' B' w' ∧ Chn mt (s.fo B) b (B v) l1 ∧ Chn mt (s.fo B) b (B w) l2 ∧ (∀ x ∈ l1.map (·.1), x ∉ l2.map (·.1)) ∧ s'.fo B' = (s.fo B).shut v w b l1 l2 ∧ s'.gn = s.gn ∧ s'.lk = s.lk ∧ s'.tu = s.tu + 1 ∧ s'.wl = s.wl ++ (l1 ++ l2).map (fun x => ((x.2 : Nat) : Int)) ∧ Fr F g s.wv w0 s'.wv w' := by
  obtain ⟨hfw, ⟨C, d, hub⟩, hi, hma, htu0⟩ := h
  have HI := Lib.hid hi
  have HMT := Lib.hid hmt
  have HM := Lib.hid hm
  have HFB : Hid (∀ v' W, Fr F g s.wv w0 v' W → Below base w0 W ∧ base ≤ W.heap.size) := fun v' W r => ⟨r.below hfw hbs, Nat.le_trans hbs r.size⟩
  have bv := hi.bse hv ov
  have bw := hi.bse hw ow
  have HBV : Hid (Bse N (s.fo B) (B v) ∧ Bse N (s.fo B) (B w) ∧ s.rt (B v) = s.rt (B w)) := ⟨bv, bw, ((hi.bo v hv ov).2.2.2.1.trans er).trans (hi.bo w hw ow).2.2.2.1.symm⟩
  have HMA := Lib.hid (And.intro hma (And.intro htu0 htu))
  have HQ := Lib.hid hq
  have HOO := Lib.hid (And.intro ov (And.intro ow (And.intro hj er)))
  have HW0 := Lib.hid (And.intro hfw hub)
  have hvi : (0 : Int) ≤ (v : Int) ∧ (v : Int) < (N : Int) := by omega
  have hwi : (0 : Int) ≤ (w : Int) ∧ (w : Int) < (N : Int) := by omega
  obtain ⟨r, r1, r2⟩ : ∃ r : Nat, s.rt v = r ∧ s.rt w = r := by
    obtain ⟨r, q, e, -⟩ := hi.path v hv ov
    have e' : s.rt v = r := e
    exact ⟨r, e', by rw [← er]; exact e'⟩
  have c7 := hfw.h7
  have cv := hfw.c_rt hv
  have cw := hfw.c_rt hw
  rw [r1] at cv
  rw [r2] at cw
  clear hfw hub hi hmt hm hma htu0 htu hq ov ow hj er hbs bv bw r1 r2
  go_enter Tryz.func64, Tryz.ntmps64
  go_wp2_with fail
  go_quiet (fail)
  rename_i nq
  have HD : Hid (RW w0 (w0.drewN nq)) := ((Drawn.refl w0).step nq).below _
  have H1 := Lib.hid (And.intro (HW0.out.1.later HD.out) (Fr.of (F := F) (g := g) (v := s.wv) HD.out))
  clear c7 cv cw
  generalize w0.drewN nq = w1 at *
  go_wp2_with fail
  refine (fbase_any w1 H1.out.1 HW0.out.2.1 hv hN (HW0.out.2.2.1 v hv)).mono ?_
  rintro e w2 ⟨rfl, up2, a1, a2, a3⟩
  have H2 := Lib.hid (And.intro a1 (And.intro a2 (H1.out.2.trans a3)))
  clear a1 a2 a3
  go_wp2_with fail
  refine (fbase_any w2 H2.out.1 H2.out.2.1 hw hN (HW0.out.2.2.1 w hw)).mono ?_
  rintro e w3 ⟨rfl, up3, a1, a2, a3⟩
  have H3 := Lib.hid (And.intro a1 (And.intro a2 (H2.out.2.2.trans a3)))
  clear a1 a2 a3
  go_wp2_with fail
  refine (fmeet_any (s := { s with up := up3 }) w3 H3.out.1 (HFB.out _ _ H3.out.2.2).2 (HM.out.below (HFB.out _ _ H3.out.2.2).1) H3.out.2.1 HW0.out.2.2.1 HMT.out HI.out HBV.out.1 HBV.out.2.1 HBV.out.2.2 hN HMA.out.1 HMA.out.2).mono ?_
  rintro e w4 ⟨b, rfl, ⟨l1, l2, hc1, hc2, hdj⟩, up4, ma4, a1, a2, a4, a3⟩
  have hc1' : Chn mt (s.fo B) b (B v) l1 := hc1
  have hc2' : Chn mt (s.fo B) b (B w) l2 := hc2
  have H4 : Hid (FW base N F g nv mv { s with up := up4, ma := ma4, tu := s.tu + 1 } w4 ∧ Uf N up4 C d ∧ Fr F g s.wv w0 s.wv w4) := ⟨a1, a2, H3.out.2.2.trans a3⟩
  have HMA4 := Lib.hid a4
  have HCC := Lib.hid (And.intro hc1' (And.intro hc2' hdj))
  have HSL1 : Hid (ShL N mt { s with up := up4, ma := ma4, tu := s.tu + 1 } B v b l1) := FoI.shl (s := { s with up := up4, ma := ma4, tu := s.tu + 1 }) HMT.out HI.out hv HOO.out.1 hc1
  have HLN : Hid (l1.length ≤ N ∧ l2.length ≤ N) := by
    have k : ∀ {x : Nat} {l : List (Nat × Nat)}, Bse N (s.fo B) x → Chn mt (s.fo B) b x l → l.length ≤ N := fun hx hc => by
      have h1 := hc.nodup HMT.out HI.out hx
      have := le_nodupN h1 fun a ha => by
        obtain ⟨⟨a', c⟩, hac, rfl⟩ := List.mem_map.1 ha
        exact ((hc.mem HMT.out HI.out hx).2.2.2 a' c hac).1.lt
      simpa using this
    exact ⟨k HBV.out.1 hc1', k HBV.out.2.1 hc2'⟩
  have HUB4 : Hid (Ub N up4 s.ba B B C d) := ⟨a2, HW0.out.2.2⟩
  clear a1 a2 a3 a4 hc1 hc2 hc1' hc2' hdj
  go_wp2_with fail
  refine (fshrink_any (s := { s with up := up4, ma := ma4, tu := s.tu + 1 }) w4 H4.out.1 (HFB.out _ _ H4.out.2.2).2 (HM.out.below (HFB.out _ _ H4.out.2.2).1) HUB4.out HSL1.out hv hw hN (by have := HQ.out; have := HLN.out; show s.wl.length + l1.length ≤ 1000000; omega) HBV.out.1.lt).mono ?_
  rintro e w5 ⟨rfl, s2, C2, d2, a1, a2, a3, a4⟩
  have H5 : Hid (FW base N F g nv mv s2 w5 ∧ Fr F g s.wv w0 s2.wv w5) := ⟨a1, H4.out.2.2.trans a4⟩
  have HSQ1 := Lib.hid a2
  have HUB5 := Lib.hid a3
  have HTW : Hid (ShL N mt s2 (shV B l1 b) w b l2 ∧ (∀ m ∈ l1.map (·.2), m ∉ l2.map (·.2)) ∧ b ∉ l2.map (·.1)) := FoI.shl2 (s := { s with up := up4, ma := ma4, tu := s.tu + 1 }) HMT.out HI.out hv HOO.out.1 hw HOO.out.2.1 HCC.out.1 HCC.out.2.1 HCC.out.2.2 a2
  have hb2 : shV B l1 b w < N := by
    unfold shV
    split
    · exact HSL1.out.ob.2
    · exact HBV.out.2.1.lt
  have HB2 := Lib.hid hb2
  clear a1 a2 a3 a4 hb2
  go_wp2_with fail
  refine (fshrink_any (s := s2) w5 H5.out.1 (HFB.out _ _ H5.out.2).2 (HM.out.below (HFB.out _ _ H5.out.2).1) HUB5.out HTW.out.1 hw hv hN (by have h1 := HQ.out; have h2 := HLN.out; rw [HSQ1.out.wl]; show (s.wl ++ _).length + l2.length ≤ 1000000; simp only [List.length_append, List.length_map]; omega) HB2.out).mono ?_
  rintro e w6 ⟨rfl, s3, C3, d3, a1, a2, a3, a4⟩
  have HSH : Hid (s3.fo (shV (shV B l1 b) l2 b) = (s.fo B).shut v w b l1 l2) := ShQ.shut (s := { s with up := up4, ma := ma4, tu := s.tu + 1 }) HSQ1.out a2 HTW.out.2.1 HTW.out.2.2
  have HFO : Hid (FoI N J mt (s3.fo (shV (shV B l1 b) l2 b))) := by
    rw [HSH.out]
    exact (HI.out.shut HMT.out hv hw HOO.out.1 HOO.out.2.1 HOO.out.2.2.2 HOO.out.2.2.1 HCC.out.1 HCC.out.2.1 HCC.out.2.2).1
  have HEND : Hid (FG base N F g nv mv J mt s3 (shV (shV B l1 b) l2 b) w6) := ⟨a1, ⟨C3, d3, a3⟩, HFO.out, fun z hz => by
    rw [a2.ma, HSQ1.out.ma, a2.tu, HSQ1.out.tu]
    exact HMA4.out z hz, by
    rw [a2.tu, HSQ1.out.tu]
    have := HMA.out.2.1
    show 0 ≤ s.tu + 1
    omega⟩
  have HREST : Hid (s3.gn = s.gn ∧ s3.lk = s.lk ∧ s3.tu = s.tu + 1 ∧ s3.wl = s.wl ++ (l1 ++ l2).map (fun x => ((x.2 : Nat) : Int)) ∧ Fr F g s.wv w0 s3.wv w6) := by
    refine ⟨a2.gn.trans HSQ1.out.gn, a2.lk.trans HSQ1.out.lk, a2.tu.trans HSQ1.out.tu, ?_, H5.out.2.trans a4⟩
    rw [a2.wl, HSQ1.out.wl]
    simp
    rfl
  clear a1 a2 a3 a4
  go_wp2_with fail
  go_ret
  exact ⟨rfl, s3, _, b, l1, l2, HEND.out, HCC.out.1, HCC.out.2.1, HCC.out.2.2, HSH.out, HREST.out⟩
end
end

section
open Go.RowKit
section
variable {base N F : Nat} {g : Nat → Nat} {nv mv : Value} {s : Fm}
theorem made_row (w : World) (M : Nat) (hM : M ≤ 65536) : OwnI (w.alloc (.cells (madeCells #[.int .i64 0] M) 3)) w.heap.size (.slice (some ⟨w.heap.size, 0, none⟩) M M) (List.replicate M 0) := by
  have e : (madeCells #[.int .i64 0] M).toList = nums (List.replicate M 0) := by
    refine List.ext_getElem (by simp [madeCells, nums]) fun i h1 h2 => ?_
    simp [madeCells, nums, Nat.mod_one]
  unfold OwnI
  rw [← e, List.length_replicate]
  exact World.ownsRow_lit w _ M (Nat.le_refl _) (by unfold maxLen; omega) (by simp [madeCells])
/-- The label that Labels tells. -/
def Fm.told (s : Fm) (v : Nat) : Int := if s.ou v = true then 1 else s.lab v

set_option maxHeartbeats 8000000 in
set_option maxRecDepth 100000 in
theorem flabels_any (w : World) (h : FW base N F g nv mv s w) (hN : N ≤ 65536) :
    Calls Tryz.prog 65 #[.pointer (some ⟨F, 0, none⟩)] w fun e w' => ∃ v l, e = .returned v ∧ OwnI w' w.heap.size v l ∧ l.length = N ∧ (∀ j, j < N → gi l j = s.told j) ∧ Below w.heap.size w w' := by
  have h2 := h.h2
  have HW := Lib.hid h
  have hmk := run_make_row' 22 3 (.int .i64 0) 8 Tryz.underlying22 (by kernel_rfl) rfl .i64 .i64 N (by omega) (by omega) w
  have hmo := made_row w N hN
  have HB1 : Hid (RW w (w.alloc (.cells (madeCells #[.int .i64 0] N) 3))) := bel_alloc _ _
  clear h
  go_enter Tryz.func65, Tryz.ntmps65
  go_wp2_with fail
  clear hmk h2
  generalize w.alloc (.cells (madeCells #[.int .i64 0] N) 3) = w1 at *
  have HO1 : Hid (∃ l, OwnI w1 w.heap.size (.slice (some ⟨w.heap.size, 0, none⟩) N N) l ∧ ∀ j, j < 0 → gi l j = s.told j) := ⟨_, hmo, fun j hj => absurd hj (by omega)⟩
  clear hmo
  go_loopw [4, 13] (fun _ i wr => ∃ k : Nat, k ≤ N ∧ i = .int .i64 k ∧ Hid (∃ l, OwnI wr w.heap.size (.slice (some ⟨w.heap.size, 0, none⟩) N N) l ∧ ∀ j, j < k → gi l j = s.told j) ∧ Hid (RW w wr)) (fun _ i _ => N - (intOf i).toNat)
  case atStart => exact ⟨0, Nat.zero_le _, rfl, HO1, HB1⟩
  case round =>
    obtain ⟨k, hk, rfl, hown, hrw⟩ := hrel
    by_cases hlt : k < N
    · have HLT := Lib.hid hlt
      obtain ⟨l, ho, hmn⟩ := hown.out
      have HO := Lib.hid (And.intro ho hmn)
      have cg := ho.cellAt hlt
      have fg := ho.frozAt k
      have hki : (0 : Int) ≤ (k : Int) ∧ (k : Int) < (N : Int) := by omega
      have hf := HW.out.later hrw.out
      have c2 := hf.h2
      have cl := hf.c_lab hlt
      have HRW1 : Hid (RW w (wr.setCell ⟨w.heap.size, k, none⟩ (.int .i64 (s.lab k)))) := Below.setCell hrw.out (Nat.le_refl _) _
      have hf1 := HW.out.later HRW1.out
      have c3 := hf1.h3
      have co := hf1.c_ou hlt
      have ho1 := ho.put1 k (s.lab k)
      have cg1 := ho1.cellAt hlt
      have fg1 := ho1.frozAt k
      have HO1 := Lib.hid ho1
      have hll : l.length = N := (ho.len rfl).symm
      rw [gi_set, if_pos ⟨rfl, by omega⟩] at cg1
      cases q : s.ou k
      · rw [q] at co
        have HO2 : Hid (∃ l, OwnI (wr.setCell ⟨w.heap.size, k, none⟩ (.int .i64 (s.lab k))) w.heap.size (.slice (some ⟨w.heap.size, 0, none⟩) N N) l ∧ ∀ j, j < k + 1 → gi l j = s.told j) := by
          refine ⟨_, ho1, fun j hj => ?_⟩
          rw [gi_set]
          by_cases e : j = k
          · rw [if_pos ⟨e, by omega⟩, e]
            unfold Fm.told
            rw [q]; rfl
          · rw [if_neg (by omega)]
            exact hmn j (by omega)
        clear hown ho hmn hf hf1 ho1 q hll
        generalize s.lab k = lv at *
        go_wp2_with fail
        go_roundw
        case rel => exact ⟨k + 1, by have := HLT.out; omega, by go_num, HO2, HRW1⟩
        case measure => have := HLT.out; simp [intOf]; omega
      · rw [q] at co
        have HRW2 : Hid (RW w ((wr.setCell ⟨w.heap.size, k, none⟩ (.int .i64 (s.lab k))).setCell ⟨w.heap.size, k, none⟩ (.int .i64 1))) := Below.setCell HRW1.out (Nat.le_refl _) _
        have HO2 : Hid (∃ l, OwnI ((wr.setCell ⟨w.heap.size, k, none⟩ (.int .i64 (s.lab k))).setCell ⟨w.heap.size, k, none⟩ (.int .i64 1)) w.heap.size (.slice (some ⟨w.heap.size, 0, none⟩) N N) l ∧ ∀ j, j < k + 1 → gi l j = s.told j) := by
          refine ⟨_, ho1.put1 k 1, fun j hj => ?_⟩
          rw [gi_set, List.length_set]
          by_cases e : j = k
          · rw [if_pos ⟨e, by omega⟩, e]
            unfold Fm.told
            rw [q]; rfl
          · rw [if_neg (by omega), gi_set, if_neg (by omega)]
            exact hmn j (by omega)
        clear hown ho hmn hf hf1 ho1 q hll
        generalize s.lab k = lv at *
        go_wp2_with fail
        go_roundw
        case rel => exact ⟨k + 1, by have := HLT.out; omega, by go_num, HO2, HRW2⟩
        case measure => have := HLT.out; simp [intOf]; omega
    · obtain rfl : k = N := by omega
      have hd : decide ((k : Int) < (k : Int)) = false := by rw [decide_eq_false_iff_not]; omega
      have HE := Lib.hid hown.out
      clear hown hlt hk
      go_wp2_with fail
      go_ret
      obtain ⟨l, ho, hmn⟩ := HE.out
      exact ⟨_, l, rfl, ho, (ho.len rfl).symm, hmn, hrw.out⟩
end
end

end Go.Proofs.YtbnipgajhpbolaaGreatDoor
