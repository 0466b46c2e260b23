/- The walk of forest.meet -/
import Derived.Test.YtbnipgajhpbolaaGreatDoorTe17
import Derived.Test.YtbnipgajhpbolaaGreatDoorTe18
set_option linter.unusedVariables false
set_option linter.unusedSimpArgs false
namespace Go.Proofs.YtbnipgajhpbolaaGreatDoor

section
open Go.RowKit
section
variable {N : Nat} {J : Nat → Nat → Prop} {mt : Nat → Int} {t : Fo}
theorem Chn.snoc (hm : MtOk N J mt) (hi : FoI N J mt t) {x y m p : Nat} {l : List (Nat × Nat)} (h : Chn mt t x y l) (hy : Bse N t y) (e1 : mt x = (m : Int)) (e2 : t.pd m = (p : Int)) : Chn mt t (t.B p) y (l ++ [(x, m)]) := by
  have bx := (h.mem hm hi hy).1
  obtain ⟨p', k1, k2, k3, k4, k5, k6, k7, k8, k9, k10, k11, k12⟩ := hi.down hm bx.lt bx.ou bx.bs e1
  obtain rfl : p = p' := by omega
  have hne : ∀ z, Dn mt t z (t.B p) → z ≠ t.B p := fun z d e => by rw [← e] at d; exact d.irr
  induction h with
  | nil => exact .cons (hne _ k12) e1 e2 .nil
  | @cons a c q l h1 h2 h3 h4 ih =>
    have M := ((Chn.cons h1 h2 h3 h4).mem hm hi hy).2.2.2 a c (by simp)
    obtain ⟨q', n1, n2, n3, n4, -⟩ := hi.down hm hy.lt hy.ou hy.bs h2
    obtain rfl : q = q' := by omega
    exact .cons (hne _ (M.2.2.2.2.2.2.2.2.2.2.trans k12)) h2 h3 (ih (hi.bse n2 n4))

/-- How far one side of meet has come: V has been marked. -/
def Sde (N : Nat) (mt : Nat → Int) (t : Fo) (p : Nat) (a : Int) (V : List Nat) : Prop :=
  (∃ x X, a = ((x : Nat) : Int) ∧ Bse N t x ∧ Chn mt t x p X ∧ V = X.map (·.1)) ∨ (a = -1 ∧ ∃ r X, Chn mt t r p X ∧ Bse N t r ∧ mt r = -1 ∧ V = X.map (·.1) ++ [r])
/-- What meet finds. -/
def MeetQ (mt : Nat → Int) (t : Fo) (p q b : Nat) : Prop := ∃ l1 l2, Chn mt t b p l1 ∧ Chn mt t b q l2 ∧ ∀ x ∈ l1.map (·.1), x ∉ l2.map (·.1)
theorem MeetQ.symm {p q b : Nat} (h : MeetQ mt t p q b) : MeetQ mt t q p b := by
  obtain ⟨l1, l2, h1, h2, h3⟩ := h
  exact ⟨l2, l1, h2, h1, fun x a b => h3 x b a⟩
theorem Sde.found (hm : MtOk N J mt) (hi : FoI N J mt t) {p q x : Nat} {b : Int} {V1 V2 : List Nat} {X : List (Nat × Nat)} (hp : Bse N t p) (hq : Bse N t q) (c1 : Chn mt t x p X) (e1 : V1 = X.map (·.1)) (h2 : Sde N mt t q b V2) (hd : ∀ z ∈ V1, z ∉ V2) (hx : x ∈ V2) : MeetQ mt t p q x := by
  have key : ∀ (r : Nat) (Y : List (Nat × Nat)), Chn mt t r q Y → x ∈ Y.map (·.1) → (∀ z ∈ Y.map (·.1), z ∈ V2) → MeetQ mt t p q x := fun r Y c hin hs => by
    obtain ⟨⟨x', m⟩, hxm, rfl⟩ := List.mem_map.1 hin
    obtain ⟨l1, l2, s1, s2, s3, s4⟩ := c.split hm hi hq hxm
    refine ⟨X, l1, c1, s2, fun z hz hz2 => hd z (by rw [e1]; exact hz) (hs z ?_)⟩
    rw [s1, List.map_append]
    exact List.mem_append_left _ hz2
  rcases h2 with ⟨y, Y, -, -, c, rfl⟩ | ⟨-, r, Y, c, -, -, rfl⟩
  · exact key y Y c hx fun z hz => hz
  · rcases List.mem_append.1 hx with hx | hx
    · exact key r Y c hx fun z hz => List.mem_append_left _ hz
    · obtain rfl : x = r := by simpa using hx
      exact ⟨X, Y, c1, c, fun z hz hz2 => hd z (by rw [e1]; exact hz) (List.mem_append_left _ hz2)⟩
theorem Sde.not_both (hm : MtOk N J mt) (hi : FoI N J mt t) {p q : Nat} {V1 V2 : List Nat} (hp : Bse N t p) (hq : Bse N t q) (he : t.rt p = t.rt q) (h1 : Sde N mt t p (-1) V1) (h2 : Sde N mt t q (-1) V2) (hd : ∀ z ∈ V1, z ∉ V2) : False := by
  rcases h1 with ⟨x, X, e, -⟩ | ⟨-, r, X, c1, b1, m1, rfl⟩
  · omega
  rcases h2 with ⟨x, X, e, -⟩ | ⟨-, r', Y, c2, b2, m2, rfl⟩
  · omega
  have k1 := (c1.mem hm hi hp).2.1
  have k2 := (c2.mem hm hi hq).2.1
  have k3 := (hi.free r b1.lt m1).2
  have k4 := (hi.free r' b2.lt m2).2
  obtain rfl : r = r' := by omega
  exact hd r (by simp) (by simp)
/-- x is marked, and its side goes on. -/
theorem Sde.step (hm : MtOk N J mt) (hi : FoI N J mt t) {p x : Nat} {X : List (Nat × Nat)} (hp : Bse N t p) (hx : Bse N t x) (c1 : Chn mt t x p X) :
    (mt x = -1 ∧ Sde N mt t p (-1) (X.map (·.1) ++ [x])) ∨ ∃ m y : Nat, m < N ∧ y < N ∧ mt x = (m : Int) ∧ t.pd m = (y : Int) ∧ Sde N mt t p ((t.B y : Nat) : Int) (X.map (·.1) ++ [x]) := by
  rcases hm.mate x hx.lt with k | ⟨m, k1, k2, k3, k4⟩
  · exact .inl ⟨k, .inr ⟨rfl, x, X, c1, hx, k, rfl⟩⟩
  · obtain ⟨y, j1, j2, j3, j4, -⟩ := hi.down hm hx.lt hx.ou hx.bs k2
    exact .inr ⟨m, y, k1, j2, k2, j3, .inl ⟨_, _, rfl, hi.bse j2 j4, c1.snoc hm hi hp k2 j3, by simp⟩⟩
theorem Sde.fresh (hm : MtOk N J mt) (hi : FoI N J mt t) {p x : Nat} {X : List (Nat × Nat)} (hp : Bse N t p) (c1 : Chn mt t x p X) : x ∉ X.map (·.1) := fun h => by
  obtain ⟨⟨x', m⟩, hxm, rfl⟩ := List.mem_map.1 h
  exact ((c1.mem hm hi hp).2.2.2 _ m hxm).2.1 rfl
theorem le_nodupN : ∀ {n : Nat} {l : List Nat}, l.Nodup → (∀ x ∈ l, x < n) → l.length ≤ n
  | 0, [], _, _ => Nat.le_refl _
  | 0, a :: l, _, h => absurd (h a (by simp)) (by omega)
  | n + 1, l, hn, h => by
    by_cases q : n ∈ l
    · have := le_nodupN (n := n) (l := l.erase n) (hn.erase _) (fun x hx => by
        have h1 := h x (List.mem_of_mem_erase hx)
        have h2 : x ≠ n := fun e => by subst e; exact hn.not_mem_erase hx
        omega)
      rw [List.length_erase_of_mem q] at this
      omega
    · have := le_nodupN (n := n) (l := l) hn (fun x hx => by
        have h1 := h x hx
        have h2 : x ≠ n := fun e => by subst e; exact q hx
        omega)
      omega
end

section
variable {base N F : Nat} {g : Nat → Nat} {nv mv : Value} {s : Fm} {C d : Nat → Nat} {B : Nat → Nat} {mt : Nat → Int} {J : Nat → Nat → Prop}
set_option maxHeartbeats 16000000 in
set_option maxRecDepth 100000 in
theorem fmeet_any (w0 : World) (h : FW base N F g nv mv s w0) (hbs : base ≤ w0.heap.size) (hm : MR base N mv mt w0) (hu : Uf N s.up C d) (hB : ∀ z, z < N → s.ba (C z) = (B z : Int)) (hmt : MtOk N J mt) (hi : FoI N J mt (s.fo B)) {p q : Nat} (hp : Bse N (s.fo B) p) (hq : Bse N (s.fo B) q) (he : s.rt p = s.rt q) (hN : N ≤ 65536)
    (hma : ∀ z, z < N → s.ma z ≤ s.tu) (htu : 0 ≤ s.tu ∧ s.tu ≤ 4611686018427387904) :
    Calls Tryz.prog 83 #[.pointer (some ⟨F, 0, none⟩), .int .i64 p, .int .i64 q] w0 fun e w' => ∃ b : Nat, e = .returned (.int .i64 b) ∧ MeetQ mt (s.fo B) p q b ∧ ∃ up' ma', FW base N F g nv mv { s with up := up', ma := ma', tu := s.tu + 1 } w' ∧ Uf N up' C d ∧ (∀ z, z < N → ma' z ≤ s.tu + 1) ∧ Fr F g s.wv w0 s.wv w' := by
  have h13 := h.h13
  have f13 := h.hfroz 13
  have s1 : IntKind.i64.wrap (s.tu + 1) = s.tu + 1 := by rw [IntKind.wrap_i64]; omega
  have h1 := h.put_tu (s.tu + 1)
  have H1 : Hid (FW base N F g nv mv { s with up := s.up, ma := s.ma, tu := s.tu + 1 } (w0.setCell ⟨F, 13, none⟩ (.int .i64 (s.tu + 1))) ∧ Uf N s.up C d ∧ Fr F g s.wv w0 s.wv (w0.setCell ⟨F, 13, none⟩ (.int .i64 (s.tu + 1)))) := ⟨h1, hu, Fr.set (.inl rfl)⟩
  have HFB : Hid (∀ W, Fr F g s.wv w0 s.wv W → Below base w0 W ∧ base ≤ W.heap.size) := fun W r => ⟨r.below h hbs, Nat.le_trans hbs r.size⟩
  have HM := Lib.hid hm
  have HB := Lib.hid hB
  have HMT := Lib.hid hmt
  have HI := Lib.hid hi
  have HP0 : Hid ((p = p ∧ q = q) ∨ (p = q ∧ q = p)) := .inl ⟨rfl, rfl⟩
  have HB0 : Hid (Bse N (s.fo B) p ∧ Bse N (s.fo B) q ∧ s.rt p = s.rt q) := ⟨hp, hq, he⟩
  have HS1 : Hid (Sde N mt (s.fo B) p ((p : Nat) : Int) []) := .inl ⟨p, [], rfl, hp, .nil, rfl⟩
  have HS2 : Hid (Sde N mt (s.fo B) q ((q : Nat) : Int) []) := .inl ⟨q, [], rfl, hq, .nil, rfl⟩
  have HV0 : Hid ((([] : List Nat) ++ []).Nodup ∧ ∀ z ∈ (([] : List Nat) ++ []), z < N) := ⟨by simp, by simp⟩
  have HK0 : Hid (∀ z, z < N → (s.ma z = s.tu + 1 ↔ z ∈ ([] : List Nat) ∨ z ∈ ([] : List Nat)) ∧ s.ma z ≤ s.tu + 1) := fun z hz => by
    have := hma z hz
    refine ⟨⟨fun e => by omega, fun e => by simp at e⟩, by omega⟩
  clear h h1 hu hm hB hmt hi hp hq he hma htu hbs
  go_enter Tryz.func83, Tryz.ntmps83
  go_wp2_with fail
  clear h13 f13 s1
  generalize w0.setCell ⟨F, 13, none⟩ (.int .i64 (s.tu + 1)) = w1 at *
  go_loopg [1, 2] (2 * N) (fun k a b wr => ∃ (ai bi : Int) (p' q' : Nat) (V1 V2 : List Nat) (up' ma' : Nat → Int), a = .int .i64 ai ∧ b = .int .i64 bi ∧ Hid ((p' = p ∧ q' = q) ∨ (p' = q ∧ q' = p)) ∧ Hid (Bse N (s.fo B) p' ∧ Bse N (s.fo B) q' ∧ s.rt p' = s.rt q') ∧ Hid (Sde N mt (s.fo B) p' ai V1) ∧ Hid (Sde N mt (s.fo B) q' bi V2) ∧ Hid ((V1 ++ V2).Nodup ∧ ∀ z ∈ V1 ++ V2, z < N) ∧ Hid (∀ z, z < N → (ma' z = s.tu + 1 ↔ z ∈ V1 ∨ z ∈ V2) ∧ ma' z ≤ s.tu + 1) ∧ Hid (FW base N F g nv mv { s with up := up', ma := ma', tu := s.tu + 1 } wr ∧ Uf N up' C d ∧ Fr F g s.wv w0 s.wv wr) ∧ Hid (k = 2 * (N - (V1 ++ V2).length) + (if ai = -1 then 1 else 0)))
  case atStart => exact ⟨_, _, p, q, [], [], s.up, s.ma, rfl, rfl, (show Hid _ from Or.inl ⟨rfl, rfl⟩), HB0, HS1, HS2, HV0, HK0, H1, by unfold Hid; rw [if_neg (by omega)]; simp⟩
  case round =>
    obtain ⟨ai, bi, p', q', V1, V2, up', ma', rfl, rfl, hpq, hbb, hs1, hs2, hvn, hmk, hw, hk⟩ := hrel
    have HPQ : Hid ((q' = p ∧ p' = q) ∨ (q' = q ∧ p' = p)) := by have := hpq.out; unfold Hid; omega
    have HBB : Hid (Bse N (s.fo B) q' ∧ Bse N (s.fo B) p' ∧ s.rt q' = s.rt p') := ⟨hbb.out.2.1, hbb.out.1, hbb.out.2.2.symm⟩
    have HDJ : Hid (∀ z ∈ V1, z ∉ V2) := fun z a b => (List.nodup_append.1 hvn.out.1).2.2 z a z b rfl
    have HLN : Hid ((V1 ++ V2).length ≤ N) := le_nodupN hvn.out.1 hvn.out.2
    rcases hs1.out with ⟨x, X, rfl, hbx, hcx, hV1⟩ | ⟨rfl, hr⟩
    · have hxN := hbx.lt
      have hne : ((x : Int) == -1) = false := by simp
      have hne2 : ((x : Int) != -1) = true := by rw [bne, hne]; rfl
      have hxi : (0 : Int) ≤ (x : Int) ∧ (x : Int) < (N : Int) := by omega
      have c12 := hw.out.1.h12
      have c13 := hw.out.1.h13
      have cm := hw.out.1.c_ma hxN
      dsimp only at cm c13
      have hfresh := Sde.fresh HMT.out HI.out hbb.out.1 hcx
      rw [← hV1] at hfresh
      have hmx := hmk.out x hxN
      have HXB := Lib.hid hbx
      have HCX := Lib.hid (And.intro hcx hV1)
      by_cases hx2 : x ∈ V2
      · have e : ma' x = s.tu + 1 := hmx.1.2 (.inr hx2)
        have HF : Hid (MeetQ mt (s.fo B) p q x) := by
          have := Sde.found HMT.out HI.out hbb.out.1 hbb.out.2.1 hcx hV1 hs2.out HDJ.out hx2
          rcases hpq.out with ⟨a, b⟩ | ⟨a, b⟩
          · rw [a, b] at this; exact this
          · rw [a, b] at this; exact this.symm
        have HLE : Hid (∀ z, z < N → ma' z ≤ s.tu + 1) := fun z hz => (hmk.out z hz).2
        rw [e] at cm
        clear hmx hfresh hbx hcx hV1 e hx2 hs1 hs2 hvn hmk
        go_wp2_with fail
        go_quiet (fail)
        rename_i nq
        have HD : Hid (RW wr (wr.drewN nq)) := ((Drawn.refl wr).step nq).below _
        have HE := Lib.hid (And.intro (hw.out.1.later HD.out) (hw.out.2.2.trans (Fr.of HD.out)))
        clear c12 c13 cm
        go_wp2_with fail
        go_ret
        exact ⟨x, rfl, HF.out, up', ma', HE.out.1, hw.out.2.1, HLE.out, HE.out.2⟩
      · have e : ma' x ≠ s.tu + 1 := fun e => (hmx.1.1 e).elim hfresh hx2
        have eb : (ma' x == s.tu + 1) = false := by rw [beq_eq_false_iff_ne]; exact e
        have HVN : Hid ((V2 ++ (V1 ++ [x])).Nodup ∧ ∀ z ∈ V2 ++ (V1 ++ [x]), z < N) := by
          obtain ⟨n1, n2, n3⟩ := List.nodup_append.1 hvn.out.1
          refine ⟨List.nodup_append.2 ⟨n2, List.nodup_append.2 ⟨n1, by simp, fun a ha b hb => ?_⟩, fun a ha b hb => ?_⟩, fun z hz => ?_⟩
          · simp only [List.mem_singleton] at hb
            subst hb
            exact fun q => hfresh (by rw [← q]; exact ha)
          · rcases List.mem_append.1 hb with hb | hb
            · exact (n3 b hb a ha).symm
            · simp only [List.mem_singleton] at hb
              subst hb
              exact fun q => hx2 (by rw [← q]; exact ha)
          · simp only [List.mem_append, List.mem_singleton] at hz
            rcases hz with hz | hz | hz
            · exact hvn.out.2 z (List.mem_append_right _ hz)
            · exact hvn.out.2 z (List.mem_append_left _ hz)
            · subst hz; exact hxN
        have HMK : Hid (∀ z, z < N → (upd ma' x (s.tu + 1) z = s.tu + 1 ↔ z ∈ V2 ∨ z ∈ V1 ++ [x]) ∧ upd ma' x (s.tu + 1) z ≤ s.tu + 1) := fun z hz => by
          by_cases q : z = x
          · subst q
            rw [upd_eq]
            exact ⟨⟨fun _ => .inr (by simp), fun _ => rfl⟩, Int.le_refl _⟩
          · rw [upd_ne _ _ q]
            obtain ⟨m1, m2⟩ := hmk.out z hz
            refine ⟨⟨fun a => ?_, fun a => ?_⟩, m2⟩
            · rcases m1.1 a with a | a
              · exact .inr (List.mem_append_left _ a)
              · exact .inl a
            · refine m1.2 ?_
              rcases a with a | a
              · exact .inr a
              · rcases List.mem_append.1 a with a | a
                · exact .inl a
                · exact absurd (by simpa using a) q
        have hstep := Sde.step HMT.out HI.out hbb.out.1 hbx hcx
        rw [← hV1] at hstep
        have HST := Lib.hid hstep
        have HLEN : Hid ((V2 ++ (V1 ++ [x])).length = (V1 ++ V2).length + 1 ∧ (V2 ++ (V1 ++ [x])).length ≤ N) := ⟨by simp; omega, le_nodupN HVN.out.1 HVN.out.2⟩
        clear hmx hfresh hbx hcx hV1 hx2 e hstep
        generalize hMX : ma' x = mx at *
        go_wp2_with fail
        go_quiet (fail)
        rename_i nq
        have HD : Hid (RW wr (wr.drewN nq)) := ((Drawn.refl wr).step nq).below _
        have HW2 := Lib.hid (And.intro (hw.out.1.later HD.out) (And.intro hw.out.2.1 (hw.out.2.2.trans (Fr.of HD.out))))
        clear c12 c13 cm
        generalize wr.drewN nq = w2 at *
        have c12 := HW2.out.1.h12
        have c13 := HW2.out.1.h13
        have cm := HW2.out.1.c_ma hxN
        dsimp only at cm c13
        rw [hMX] at cm
        have fm := HW2.out.1.ma.froz x
        have hp1 := HW2.out.1.put_ma x (s.tu + 1)
        have S0 : Hid (w2.drew.cell? ⟨F, 12, none⟩ = some (.slice (some ⟨g 12, 0, none⟩) N N) ∧ w2.drew.cell? ⟨F, 13, none⟩ = some (.int .i64 (s.tu + 1))) := ⟨c12, c13⟩
        have S1 : Hid ((w2.setCell ⟨g 12, x, none⟩ (.int .i64 (s.tu + 1))).drew.cell? ⟨F, 12, none⟩ = some (.slice (some ⟨g 12, 0, none⟩) N N) ∧ (w2.setCell ⟨g 12, x, none⟩ (.int .i64 (s.tu + 1))).drew.cell? ⟨F, 13, none⟩ = some (.int .i64 (s.tu + 1))) := ⟨hp1.h12, hp1.h13⟩
        have HW3 : Hid (FW base N F g nv mv { s with up := up', ma := upd ma' x (s.tu + 1), tu := s.tu + 1 } (w2.setCell ⟨g 12, x, none⟩ (.int .i64 (s.tu + 1))).drew ∧ Fr F g s.wv w0 s.wv (w2.setCell ⟨g 12, x, none⟩ (.int .i64 (s.tu + 1))).drew) := ⟨hp1.later (RW.refl _).drew, (HW2.out.2.2.trans (Fr.set (.inr ⟨12, by decide, by decide, rfl⟩))).trans (Fr.of (RW.refl _).drew)⟩
        have HU := Lib.hid HW2.out.2.1
        clear hp1
        go_wp2_with fail
        go_region_held3 (fun w' => w'.cell? ⟨F, 12, none⟩ = some (.slice (some ⟨g 12, 0, none⟩) N N) ∧ w'.cell? ⟨F, 13, none⟩ = some (.int .i64 (s.tu + 1)))
          (first | assumption | exact S0.out | exact S1.out | fail) (fail)
        clear S0 S1 c12 c13 cm fm
        generalize (w2.setCell ⟨g 12, x, none⟩ (.int .i64 (s.tu + 1))).drew = w3 at *
        have hmm := (HFB.out w3 HW3.out.2)
        go_wp2_with fail
        rcases HST.out with ⟨k1, k2⟩ | ⟨m, y, k1, k2, k3, k4, k5⟩
        · have HK2 := Lib.hid k2
          refine (fabove_none w3 HW3.out.1 (HM.out.below hmm.1) hxN k1).mono ?_
          rintro e w4 ⟨rfl, rfl⟩
          have HEND : Hid (FW base N F g nv mv { s with up := up', ma := upd ma' x (s.tu + 1), tu := s.tu + 1 } w3 ∧ Uf N up' C d ∧ Fr F g s.wv w0 s.wv w3) := ⟨HW3.out.1, HU.out, HW3.out.2⟩
          have HMS : Hid (2 * (N - (V2 ++ (V1 ++ [x])).length) + (if bi = -1 then 1 else 0) < 2 * (N - (V1 ++ V2).length) + (if (x : Int) = -1 then 1 else 0)) := by
            have h2 := HLEN.out
            unfold Hid
            rw [if_neg (show ¬ (x : Int) = -1 by omega)]
            split <;> omega
          clear k1 k2 hmm
          go_wp2_with fail
          go_roundg (2 * (N - (V2 ++ (V1 ++ [x])).length) + (if bi = -1 then 1 else 0))
          case rel => exact ⟨bi, -1, q', p', V2, V1 ++ [x], up', _, rfl, rfl, HPQ, HBB, hs2, HK2, HVN, HMK, HEND, rfl⟩
          case measure => rw [hk.out]; exact HMS.out
        · have HK2 := Lib.hid k5
          refine (fabove_any w3 HW3.out.1 hmm.2 (HM.out.below hmm.1) HU.out hxN k1 k2 k3 k4 hN (HB.out y k2)).mono ?_
          rintro e w4 ⟨rfl, up4, a1, a2, a3⟩
          have HEND : Hid (FW base N F g nv mv { s with up := up4, ma := upd ma' x (s.tu + 1), tu := s.tu + 1 } w4 ∧ Uf N up4 C d ∧ Fr F g s.wv w0 s.wv w4) := ⟨a1, a2, HW3.out.2.trans a3⟩
          have HMS : Hid (2 * (N - (V2 ++ (V1 ++ [x])).length) + (if bi = -1 then 1 else 0) < 2 * (N - (V1 ++ V2).length) + (if (x : Int) = -1 then 1 else 0)) := by
            have h2 := HLEN.out
            unfold Hid
            rw [if_neg (show ¬ (x : Int) = -1 by omega)]
            split <;> omega
          clear k1 k2 k3 k4 k5 hmm a1 a2 a3
          go_wp2_with fail
          go_roundg (2 * (N - (V2 ++ (V1 ++ [x])).length) + (if bi = -1 then 1 else 0))
          case rel => exact ⟨bi, _, q', p', V2, V1 ++ [x], up4, _, rfl, rfl, HPQ, HBB, hs2, HK2, HVN, HMK, HEND, rfl⟩
          case measure => rw [hk.out]; exact HMS.out
    · have hbi : bi ≠ -1 := fun e => by
        subst e
        exact Sde.not_both HMT.out HI.out hbb.out.1 hbb.out.2.1 hbb.out.2.2 hs1.out hs2.out HDJ.out
      have HVN : Hid ((V2 ++ V1).Nodup ∧ ∀ z ∈ V2 ++ V1, z < N) := by
        obtain ⟨n1, n2, n3⟩ := List.nodup_append.1 hvn.out.1
        refine ⟨List.nodup_append.2 ⟨n2, n1, fun a ha b hb => (n3 b hb a ha).symm⟩, fun z hz => hvn.out.2 z ?_⟩
        rw [List.mem_append] at hz ⊢
        exact hz.symm
      have HMK : Hid (∀ z, z < N → (ma' z = s.tu + 1 ↔ z ∈ V2 ∨ z ∈ V1) ∧ ma' z ≤ s.tu + 1) := fun z hz => by
        obtain ⟨m1, m2⟩ := hmk.out z hz
        exact ⟨⟨fun a => (m1.1 a).symm, fun a => m1.2 a.symm⟩, m2⟩
      have HMS : Hid (2 * (N - (V2 ++ V1).length) + (if bi = -1 then 1 else 0) < 2 * (N - (V1 ++ V2).length) + (if (-1 : Int) = -1 then 1 else 0)) := by
        unfold Hid
        rw [if_pos rfl, if_neg hbi]
        simp only [List.length_append]
        omega
      clear hr hbi
      go_wp2_with fail
      go_roundg (2 * (N - (V2 ++ V1).length) + (if bi = -1 then 1 else 0))
      case rel => exact ⟨bi, -1, q', p', V2, V1, up', ma', rfl, rfl, HPQ, HBB, hs2, hs1, HVN, HMK, hw, rfl⟩
      case measure => rw [hk.out]; exact HMS.out
end
end

end Go.Proofs.YtbnipgajhpbolaaGreatDoor
